/-
  Part 1 of the texts that the claim leans on.
-/
import Derived.Calls
import Derived.Orders
import Derived.Scope
import Derived.ScopeJumps
import Derived.KernelRfl
import Derived.Test.YtfbhggigncmcfaaGreatRows
import Derived.Laws.Sem
abbrev yw(n:Int):Int:=Go.IntKind.wrap .i64 n
set_option maxRecDepth 100000
namespace Lf
open Go
theorem gI {p:Prop} [Decidable p] (h:p:=by omega):decide p=true:=decide_eq_true h
theorem ry {p:Prop} [Decidable p] {c:Sort _} {a b:c} (h:¬p:=by simp):(if p then a else b)=b:=if_neg h
theorem pW {p:Prop} [Decidable p] {c:Sort _} {a b:c} (h:¬p:=by omega):(if p then a else b)=b:=if_neg h
def Hp :Type:=Nat->Option Obj
def Hp.set (h:Hp) (b:Nat) (o:Obj):Hp:=λi=>if i=b then some o else h i
instance:LE Hp:=⟨λh a=>∀b o,h b=some o->a b=some o⟩
theorem Hp.le_refl (h:Hp):h<=h:=λ_ _ e=>e
theorem Hp.le_trans {a b c:Hp} (h:a<=b) (k:b<=c):a<=c:=λi o e=>k i o (h i o e)
def cM (h:Hp) (a:Addr):Option Value:=
 match h a.block with
 | some (.cells c _ _)=>if a.spot.isSome then none else c[a.off]?
 | _=>none
def fY (h:Hp) (a:Addr):Bool:=
 match h a.block with
 | some (.cells _ _ (c,b))=>c<=a.off&&a.off<b
 | _=>false
def Hp.put (h:Hp) (a:Addr) (v:Value):Hp:=
 match h a.block with
 | some (.cells c e fr)=>h.set a.block (.cells (if a.spot.isSome then c else c.setIfInBounds a.off v) e fr)
 | _=>h
def Bs :Obj->Option (TypeId×Nat)
 | .cells c e _=>some (e,c.size)
 | _=>none
def isCells :Obj->Bool
 | .cells .. =>true
 | _=>false
def bF {α:Type} (P:Program):Sem α->(α->Hp->Prop)->Hp->Prop
 | .pure a,K,h=>K a h
 | .load _ a k,K,h=>∃v,cM h a=some v/\bF P (k v) K h
 | .store _ _ (.agg _) _,_,_ | .store _ _ (.tuple _) _,_,_=>False
 | .store _ a v k,K,h=>(∃v0,cM h a=some v0)/\fY h a=false/\bF P k K (h.put a v)
 | .new o k,K,h=>∀b,h b=none->bF P (k b) K (h.set b o)
 | .shape r k,K,h=>∃o,h r=some o/\bF P (k (Bs o)) K h
 | .freeze _ _ _,_,_=>False
 | .frozen a k,K,h=>(∃o,h a.block=some o)/\bF P (k (fY h a)) K h
 | .getObj r k,K,h=>∃o,h r=some o/\isCells o=false/\bF P (k o) K h
 | .setObj r o k,K,h=>(∃c,h r=some c/\isCells c=false)/\bF P k K (h.set r o)
 | .choose q k,K,h=>if q.forced then bF P (k 0) K h else ∀t,bF P (k (q.cut t)) K h
 | .sys _ _,_,_=>False
 | .program k,K,h=>bF P (k P) K h
 | .mark _ k,K,h=>bF P k K h
 | .halt _,_,_=>False
def Sub (h:Hp) (w:World):Prop:=∀b o,h b=some o->w.heap[b]? =some o
structure Step (h h':Hp) (w w':World):Prop where
 sub:Sub h' w'
 size:w.heap.size<=w'.heap.size
 cv:∀b,b<w.heap.size->h b=none->w'.heap[b]? =w.heap[b]?/\h' b=none
 os:w'.os=w.os
 tape:w'.tape=w.tape
 output:w'.output=w.output
theorem Sub.lt {h:Hp} {w:World} (a:Sub h w) {b:Nat} {o:Obj} (e:h b=some o):b<w.heap.size:=by have:=a b o e;grind
theorem Sub.mono {h a:Hp} {w:World} (d:Sub a w) (c:h<=a):Sub h w:=λb o e=>d b o (c b o e)
theorem Step.refl {h:Hp} {w:World} (a:Sub h w):Step h h w w:=
 ⟨a,Nat.le_refl _,λ_ _ h=>⟨rfl,h⟩,rfl,rfl,rfl⟩
theorem Step.trans {d e f:Hp} {g h j:World} (a:Step d e g h) (b:Step e f h j):Step d f g j:=by refine ⟨b.sub,Nat.le_trans a.size b.size,λi c k=> ?_,b.os.trans a.os,b.tape.trans a.tape,b.output.trans a.output⟩;have h1:=a.cv i c k;have l:=b.cv i (Nat.lt_of_lt_of_le c a.size) h1.2;grind
theorem Step.drew {h b:Hp} {w c:World} {n:Nat} (a:Step h b {w with drawn:=n} c):Step h b w c:=
 ⟨a.sub,a.size,a.cv,a.os,a.tape,a.output⟩
theorem uN {h:Hp} {w:World} (b:Sub h w) {a:Addr} {v:Value} (e:cM h a=some v):w.cell? a=some v:=by
 unfold cM at e;cases hb:h a.block with
 | none=>simp [hb] at e
 | some o=>have:=b _ _ hb;unfold World.cell?;grind
theorem Al {h:Hp} {w:World} (b:Sub h w) {a:Addr} {o:Obj} (e:h a.block=some o):w.frozen? a=fY h a:=by have:=b _ _ e;unfold World.frozen? fY;grind
theorem CG {h:Hp} {a:Addr} {v:Value} (e:cM h a=some v):
  ∃c t fr,h a.block=some (.cells c t fr)/\a.spot=none/\c[a.off]? =some v:=by
 unfold cM at e;split at e
 ·rename_i c t fr hb;refine ⟨c,t,fr,hb,?_⟩;cases b:a.spot with
  | none=>simp [b] at e;exact ⟨rfl,e⟩
  | some s=>simp [b] at e
 grind
theorem Po {h:Hp} {a:Addr} {v v0:Value} (e:cM h a=some v0):
  ∃c t fr,h a.block=some (.cells c t fr)/\h.put a v=h.set a.block (.cells (c.setIfInBounds a.off v) t fr):=by
 obtain ⟨c,t,fr,hb,b,_⟩:=CG e;refine ⟨c,t,fr,hb,?_⟩;unfold Hp.put;grind
theorem Jw {h:Hp} {w:World} (c:Sub h w) {b:Nat} {o:Obj} (hb:b<w.heap.size):
  Sub (h.set b o) {w with heap:=w.heap.setIfInBounds b o}:=by
 intro i x e;unfold Hp.set at e;by_cases a:i=b
 ·grind
 ·simp [a] at e;have:=c _ _ e;grind
theorem Io {h:Hp} {w:World} (g:Sub h w) {a:Addr} {v v0:Value} (e:cM h a=some v0):
  Step h (h.put a v) w (w.setCell a v):=by
 obtain ⟨c,t,fr,hb,m⟩:=Po (v:=v) e;obtain ⟨_,_,_,p,n,_⟩:=CG e;have j:=g.lt hb;have o:w.setCell a v={w with heap:=w.heap.setIfInBounds a.block (.cells (c.setIfInBounds a.off v) t fr)}:=by
  unfold World.setCell;congr 1;apply Array.ext_getElem?;intro i;by_cases d:i=a.block
  ·subst d;rw [Array.getElem?_setIfInBounds_self_of_lt j,Array.getElem?_modify,if_pos rfl,g _ _ hb];simp [n]
  ·rw [Array.getElem?_setIfInBounds_ne (Ne.symm d),Array.getElem?_modify,if_neg (Ne.symm d)]
 rw [m,o];refine ⟨Jw g j,by simp,λb q f=> ?_,rfl,rfl,rfl⟩;have k:b≠a.block:=λl=>by rw [l,hb] at f;cases f
 refine ⟨by simp [Array.getElem?_setIfInBounds_ne (Ne.symm k)],?_⟩;unfold Hp.set;rw [if_neg k];exact f
theorem CR {h:Hp} {w:World} (d:Sub h w) {r:Nat} {o i:Obj} (e:h r=some i):
  Step h (h.set r o) w {w with heap:=w.heap.setIfInBounds r o}:=by
 have g:=d.lt e;refine ⟨Jw d g,by simp,λb j a=> ?_,rfl,rfl,rfl⟩;have c:b≠r:=λf=>by rw [f,e] at a;cases a
 refine ⟨by simp [Array.getElem?_setIfInBounds_ne (Ne.symm c)],?_⟩;unfold Hp.set;rw [if_neg c];exact a
theorem yq {h:Hp} {w:World} (a:Sub h w) (o:Obj):
  h w.heap.size=none/\Step h (h.set w.heap.size o) w {w with heap:=w.heap.push o}:=by
 have d:h w.heap.size=none:=by
  cases e:h w.heap.size with
  | none=>rfl
  | some x=>exact absurd (a.lt e) (Nat.lt_irrefl _)
 refine ⟨d,?_,by simp,λb hb g=> ?_,rfl,rfl,rfl⟩
 ·intro i x e;unfold Hp.set at e;by_cases c:i=w.heap.size
  ·grind
  ·simp [c] at e;have f:=a.lt e;have:=a _ _ e;grind
 ·refine ⟨by simp [Array.getElem?_push,Nat.ne_of_lt hb],?_⟩;unfold Hp.set;grind
theorem IQ {C:Type} {P:Program} (s:Sem C):∀ {K:C->Hp->Prop} {h:Hp} {w:World},Sub h w->bF P s K h->
  ∃a f e,s.run P w=.ok a f/\K a e/\Step h e w f:=by
 induction s with
 | pure a=>intro K h w d b;exact ⟨a,w,h,rfl,b,.refl d⟩
 | load m a k i=>intro K h w d b;obtain ⟨v,hv,b⟩:=b;obtain ⟨x,f,e,l,j,g⟩:=i v d b;exact ⟨x,f,e,by simp only [Sem.run,uN d hv,l],j,g⟩
 | store m a v k i=>
  intro K h w d b;have J:((∃v0,cM h a=some v0)/\fY h a=false/\bF P k K (h.put a v))->(∀p,v≠ .agg p)->(∀p,v≠ .tuple p)->
    ∃x f e,(Sem.store m a v k).run P w=.ok x f/\K x e/\Step h e w f:=by
   rintro ⟨⟨v0,A⟩,D,b⟩ G H;have g:=Io (v:=v) d A;obtain ⟨x,f,e,l,j,y⟩:=i g.sub b;refine ⟨x,f,e,?_,j,g.trans y⟩;have E:w.frozen? a=false:=by obtain ⟨c,t,fr,hb,_,_⟩:=CG A;rw [Al d hb];exact D
   cases v<;>first | exact absurd rfl (G _) | exact absurd rfl (H _) | simp only [Sem.run,uN d A,E,l,Bool.false_eq_true,if_false]
  cases v<;>first | exact b.elim | exact J b (by intros;simp) (by intros;simp)
 | new o k i=>intro K h w d b;obtain ⟨F,g⟩:=yq d o;obtain ⟨x,f,e,l,j,y⟩:=i _ g.sub (b _ F);exact ⟨x,f,e,by simp only [Sem.run,l],j,g.trans y⟩
 | shape r k i=>
  intro K h w d b;obtain ⟨o,u,b⟩:=b;obtain ⟨x,f,e,l,j,g⟩:=i _ d b;refine ⟨x,f,e,?_,j,g⟩;simp only [Sem.run];have:w.shape? r=Bs o:=by unfold World.shape?;rw [d _ _ u];cases o<;>rfl
  grind
 | freeze a n k i=>intro K h w d b;exact b.elim
 | frozen a k i=>intro K h w d b;obtain ⟨⟨o,u⟩,b⟩:=b;obtain ⟨x,f,e,l,j,g⟩:=i _ d b;refine ⟨x,f,e,?_,j,g⟩;simp only [Sem.run,Al d u];exact l
 | getObj r k i=>intro K h w d b;obtain ⟨o,u,B,b⟩:=b;obtain ⟨x,f,e,l,j,g⟩:=i _ d b;refine ⟨x,f,e,?_,j,g⟩;simp only [Sem.run,d _ _ u];cases o<;>first | exact l | simp [isCells] at B
 | setObj r o k i=>intro K h w d b;obtain ⟨⟨L,u,B⟩,b⟩:=b;have g:=CR (o:=o) d u;obtain ⟨x,f,e,l,j,y⟩:=i g.sub b;refine ⟨x,f,e,?_,j,g.trans y⟩;simp only [Sem.run,d _ _ u];cases L<;>first | exact l | simp [isCells] at B
 | choose q k i=>
  intro K h w d b;simp only [bF] at b;by_cases z:q.forced=true
  ·simp only [z,if_true] at b;obtain ⟨x,f,e,l,j,g⟩:=i _ d b;exact ⟨x,f,e,by simp only [Sem.run,z,if_true,l],j,g⟩
  ·simp only [z,if_false,Bool.false_eq_true] at b;have I:Sub h {w with drawn:=w.drawn+1}:=d;obtain ⟨x,f,e,l,j,g⟩:=i _ I (b (w.tape w.drawn q));exact ⟨x,f,e,by simp only [Sem.run,z,if_false,Bool.false_eq_true,l],j,g.drew⟩
 | sys c k i=>intro K h w d b;exact b.elim
 | program k i=>intro K h w d b;obtain ⟨x,f,e,l,j,g⟩:=i _ d b;exact ⟨x,f,e,by simp only [Sem.run,l],j,g⟩
 | mark m k i=>intro K h w d b;obtain ⟨x,f,e,l,j,g⟩:=i d b;exact ⟨x,f,e,by simp only [Sem.run,l],j,g⟩
 | halt x=>intro K h w d b;exact b.elim
theorem Am {j:Type} {P:Program} (s:Sem j):∀ {K g:j->Hp->Prop} {h:Hp},(∀a h,K a h->g a h)->bF P s K h->bF P s g h:=by
 induction s with
 | pure a=>intro K g h e d;exact e _ _ d
 | load m a k f=>rintro K g h e ⟨v,hv,d⟩;exact ⟨v,hv,f _ e d⟩
 | store m a v k f=>intro K g h e d;cases v<;>first | exact d.elim | exact ⟨d.1,d.2.1,f e d.2.2⟩
 | new o k f=>intro K g h e d b hb;exact f _ e (d b hb)
 | shape r k f=>rintro K g h e ⟨o,i,d⟩;exact ⟨o,i,f _ e d⟩
 | freeze a n k f=>intro K g h e d;exact d.elim
 | frozen a k f=>rintro K g h e ⟨i,d⟩;exact ⟨i,f _ e d⟩
 | getObj r k f=>rintro K g h e ⟨o,i,l,d⟩;exact ⟨o,i,l,f _ e d⟩
 | setObj r o k f=>rintro K g h e ⟨i,d⟩;exact ⟨i,f e d⟩
 | choose q k f=>intro K g h e d;simp only [bF] at d ⊢;grind
 | sys c k f=>intro K g h e d;exact d.elim
 | program k f=>intro K g h e d;exact f _ e d
 | mark m k f=>intro K g h e d;exact f e d
 | halt x=>intro K g h e d;exact d.elim
theorem jB {d e:Type} {P:Program} (s:Sem d) (f:d->Sem e):∀ {K:e->Hp->Prop} {h:Hp},
  bF P (s.bind f) K h↔bF P s (λa h=>bF P (f a) K h) h:=by
 induction s with
 | pure a=>intro K h;exact Iff.rfl
 | load m a k b=>intro K h;simp only [Sem.bind,bF];grind
 | store m a v k b=>intro K h;cases v<;>simp only [Sem.bind,bF]<;>first | exact Iff.rfl | grind
 | new o k b=>intro K h;simp only [Sem.bind,bF];grind
 | shape r k b=>intro K h;simp only [Sem.bind,bF];grind
 | freeze a n k b=>intro K h;exact Iff.rfl
 | frozen a k b=>intro K h;simp only [Sem.bind,bF];grind
 | getObj r k b=>intro K h;simp only [Sem.bind,bF];grind
 | setObj r o k b=>intro K h;simp only [Sem.bind,bF];grind
 | choose q k b=>intro K h;simp only [Sem.bind,bF];grind
 | sys c k b=>intro K h;exact Iff.rfl
 | program k b=>intro K h;simp only [Sem.bind,bF];exact b _
 | mark m k b=>intro K h;simp only [Sem.bind,bF];exact b
 | halt x=>intro K h;exact Iff.rfl
structure Shape where
 T:Type
 enc:T->Value
 dec:Value->Option T
 ok:∀v x,dec v=some x->enc x=v
structure Sl where
 base:Option Addr
 len:Nat
 cap:Nat
def Sl.v (s:Sl):Value:=.slice s.base s.len s.cap
def Dp :IntKind->IntKind->Bool
 | .i8,.i8 | .i16,.i16 | .i32,.i32 | .i64,.i64 | .u8,.u8 | .u16,.u16 | .u32,.u32 | .u64,.u64=>true
 | _,_=>false
theorem FC {a b:IntKind} (h:Dp a b=true):a=b:=by cases a<;>cases b<;>first | rfl | cases h
def LO :FloatKind->FloatKind->Bool
 | .f32,.f32 | .f64,.f64=>true
 | _,_=>false
theorem Pp {a b:FloatKind} (h:LO a b=true):a=b:=by cases a<;>cases b<;>first | rfl | cases h
@[reducible] def ae (k : IntKind) : Shape where
 T:=Int
 enc:=λn=>.int k n
 dec:=λv=>match v with
  | .int b n=>cond (Dp b k) (some n) none
  | _=>none
 ok:=by
  intro v x h;split at h
  ·rename_i b n;cases a:Dp b k
   ·simp [a] at h
   ·simp [a] at h;rw [FC a,h]
  ·cases h
@[reducible] def bu : Shape where
 T:=Bool
 enc:=λn=>.bool n
 dec:=λv=>match v with
  | .bool n=>some n
  | _=>none
 ok:=by intro v x h;split at h<;>cases h;rfl
@[reducible] def og : Shape where
 T:=ByteArray
 enc:=λn=>.string n
 dec:=λv=>match v with
  | .string n=>some n
  | _=>none
 ok:=by intro v x h;split at h<;>cases h;rfl
@[reducible] def aj : Shape where
 T:=Option Addr
 enc:=λn=>.pointer n
 dec:=λv=>match v with
  | .pointer n=>some n
  | _=>none
 ok:=by intro v x h;split at h<;>cases h;rfl
@[reducible] def al : Shape where
 T:=Sl
 enc:=λn=>.slice n.base n.len n.cap
 dec:=λv=>match v with
  | .slice a l c=>some ⟨a,l,c⟩
  | _=>none
 ok:=by grind
@[reducible] def dI : Shape where
 T:=Option Nat
 enc:=λn=>.map n
 dec:=λv=>match v with
  | .map n=>some n
  | _=>none
 ok:=by intro v x h;split at h<;>cases h;rfl
@[reducible] def iS (k : FloatKind) : Shape where
 T:=Nat
 enc:=λn=>.float k n
 dec:=λv=>match v with
  | .float b n=>cond (LO b k) (some n) none
  | _=>none
 ok:=by
  intro v x h;split at h
  ·rename_i b n;cases a:LO b k
   ·simp [a] at h
   ·simp [a] at h;rw [Pp a,h]
  ·cases h
@[reducible] def yc : Shape where
 T:=Value
 enc:=λv=>v
 dec:=λv=>some v
 ok:=by simp
def Jy :Value->Bool
 | .agg _=>false
 | _=>true
structure C2 where
 v:Value
 ok:Jy v=true
@[reducible] def BW : Shape where
 T:=C2
 enc:=λx=>x.v
 dec:=λv=>match h:Jy v with
  | true=>some ⟨v,h⟩
  | false=>none
 ok:=by grind
structure Cm where
 g:Nat
 first:Array Value
 captured:Array Value
@[reducible] def kK : Shape where
 T:=Cm
 enc:=λx=>.func (.func x.g) x.first x.captured
 dec:=λv=>match v with
  | .func (.func g) a b=>some ⟨g,a,b⟩
  | _=>none
 ok:=by grind
structure qB (n:Nat) where
 l:List Value
 ok:Nat.beq l.length n=true
theorem qB.size {n:Nat} (x:qB n):(Array.mk x.l).size=n:=Nat.eq_of_beq_eq_true x.ok
@[reducible] def ND (n : Nat) : Shape where
 T:=qB n
 enc:=λx=>.agg ⟨x.l⟩
 dec:=λv=>match v with
  | .agg ⟨l⟩=>match h:Nat.beq l.length n with
   | true=>some ⟨l,h⟩
   | false=>none
  | _=>none
 ok:=by grind
@[reducible] def rQ : Shape where
 T:=Unit
 enc:=λ_=>.tuple #[]
 dec:=λv=>match v with
  | .tuple ⟨[]⟩=>some ()
  | _=>none
 ok:=by grind
structure C5 where
 more:Bool
 rest:List Value
@[reducible] def Pq : Shape where
 T:=C5
 enc:=λx=>.tuple ⟨.bool x.more::x.rest⟩
 dec:=λv=>match v with
  | .tuple ⟨.bool b::r⟩=>some ⟨b,r⟩
  | _=>none
 ok:=by grind
@[reducible] def my (a b : Shape) : Shape where
 T:=a.T×b.T
 enc:=λp=>.tuple #[a.enc p.1,b.enc p.2]
 dec:=λv=>match v with
  | .tuple ⟨[x,y]⟩=>match a.dec x,b.dec y with
   | some x,some y=>some (x,y)
   | _,_=>none
  | _=>none
 ok:=by
  intro v x h;split at h
  ·split at h
   ·rename_i c d;cases h;rw [a.ok _ _ c,b.ok _ _ d]
   ·cases h
  ·cases h
@[reducible] def vw (a b c : Shape) : Shape where
 T:=a.T×b.T×c.T
 enc:=λp=>.tuple #[a.enc p.1,b.enc p.2.1,c.enc p.2.2]
 dec:=λv=>match v with
  | .tuple ⟨[x,y,z]⟩=>match a.dec x,b.dec y,c.dec z with
   | some x,some y,some z=>some (x,y,z)
   | _,_,_=>none
  | _=>none
 ok:=by
  intro v x h;split at h
  ·split at h
   ·rename_i d e f;cases h;rw [a.ok _ _ d,b.ok _ _ e,c.ok _ _ f]
   ·cases h
  ·cases h
@[reducible] def xm (a b c d : Shape) : Shape where
 T:=a.T×b.T×c.T×d.T
 enc:=λp=>.tuple #[a.enc p.1,b.enc p.2.1,c.enc p.2.2.1,d.enc p.2.2.2]
 dec:=λv=>match v with
  | .tuple ⟨[x,y,z,u]⟩=>match a.dec x,b.dec y,c.dec z,d.dec u with
   | some x,some y,some z,some u=>some (x,y,z,u)
   | _,_,_,_=>none
  | _=>none
 ok:=by
  intro v x h;split at h
  ·split at h
   ·rename_i e f g i;cases h;rw [a.ok _ _ e,b.ok _ _ f,c.ok _ _ g,d.ok _ _ i]
   ·cases h
  ·cases h
@[reducible] def xn (a b c d e : Shape) : Shape where
 T:=a.T×b.T×c.T×d.T×e.T
 enc:=λp=>.tuple #[a.enc p.1,b.enc p.2.1,c.enc p.2.2.1,d.enc p.2.2.2.1,e.enc p.2.2.2.2]
 dec:=λv=>match v with
  | .tuple ⟨[x,y,z,u,w]⟩=>match a.dec x,b.dec y,c.dec z,d.dec u,e.dec w with
   | some x,some y,some z,some u,some w=>some (x,y,z,u,w)
   | _,_,_,_,_=>none
  | _=>none
 ok:=by
  intro v x h;split at h
  ·split at h
   ·rename_i f g i j k;cases h;rw [a.ok _ _ f,b.ok _ _ g,c.ok _ _ i,d.ok _ _ j,e.ok _ _ k]
   ·cases h
  ·cases h
@[reducible] def Pr (a b c d e f g : Shape) : Shape where
 T:=a.T×b.T×c.T×d.T×e.T×f.T×g.T
 enc:=λp=>.tuple #[a.enc p.1,b.enc p.2.1,c.enc p.2.2.1,d.enc p.2.2.2.1,e.enc p.2.2.2.2.1,f.enc p.2.2.2.2.2.1,g.enc p.2.2.2.2.2.2]
 dec:=λv=>match v with
  | .tuple ⟨[x,y,z,u,w,o,q]⟩=>match a.dec x,b.dec y,c.dec z,d.dec u,e.dec w,f.dec o,g.dec q with
   | some x,some y,some z,some u,some w,some o,some q=>some (x,y,z,u,w,o,q)
   | _,_,_,_,_,_,_=>none
  | _=>none
 ok:=by
  intro v x h;split at h
  ·split at h
   ·rename_i i j k l m n r;cases h;rw [a.ok _ _ i,b.ok _ _ j,c.ok _ _ k,d.ok _ _ l,e.ok _ _ m,f.ok _ _ n,g.ok _ _ r]
   ·cases h
  ·cases h
structure Ty where
 bE:TypeDesc
 size:Nat
 bytes:Nat
 zero:Value
 sh:Shape
structure Tb where
 ty:Nat->Option Ty
 call:Nat->Bool
 ext:Nat->Option (Array Value->Sem Value)
def nM :TypeDesc->Bool
 | .struct _ | .array _ _=>true
 | _=>false
def dp (tb:Tb) (t:Nat):Shape:=match tb.ty t with
 | some e=>e.sh
 | none=>rQ
def nth {b:Type _}:List b->Nat->Option b
 | [],_=>none
 | a::_,0=>some a
 | _::l,n+1=>nth l n
def n7 {a:Type _}:List a->Nat->List a
 | l,0=>l
 | [],_+1=> []
 | _::l,n+1=>n7 l n
def oi {b:Type _}:List b->Nat->List b
 | _,0=> []
 | [],_+1=> []
 | a::l,n+1=>a::oi l n
def j6 {c:Type _}:List c->Nat->List c->List c
 | l,0,[]=>l
 | [],0,_::_=> []
 | _::l,0,b::new=>b::j6 l 0 new
 | [],_+1,_=> []
 | a::l,n+1,new=>a::j6 l n new
inductive LV where
 | v (x:Value)
 | box (k off:Nat)
 | dv (k off:Nat)
abbrev aP :=List (Nat×Bool)
structure St where
 f:Nat->Option (LV×aP)
 m:Nat->Option (List Value)
def St.put (s:St) (d:Option Nat) (l:LV) (ch:aP):St:=
 match d with
 | none=>s
 | some d=>{f:=λi=>cond (Nat.beq i d) (some (l,ch)) (s.f i),m:=s.m}
def St.fU (s:St) (k:Nat) (cs:List Value):St:=
 {f:=s.f,m:=λi=>cond (Nat.beq i k) (some cs) (s.m i)}
def FD :Bool->Bool->Bool
 | true,b=>b
 | false,true=>false
 | false,false=>true
def nD :aP->aP->Bool
 | [],[]=>true
 | (t,w)::c,(u,x)::d=>cond (Nat.beq t u) (cond (FD w x) (nD c d) false) false
 | _,_=>false
def mo (c:aP):aP->Bool
 | []=>match c with
  | []=>true
  | _=>false
 | p::d=>match c with
  | []=>true
  | _=>cond (nD c (p::d)) true (mo c d)
def ev (s:St) (ch:aP):Operand->Option LV
 | .tmp t=>match s.f t with
  | some (l,c)=>cond (mo c ch) (some l) none
  | none=>none
 | .const v=>some (.v v)
 | .global g=>some (.v (.pointer (some ⟨g,0,none⟩)))
 | .func f=>some (.v (.func (.func f) #[] #[]))
def dX (s:St):aP->Option Bool
 | []=>none
 | [(t,w)]=>match s.f t with
  | some (.v (.bool b),_)=>some (cond w b (!b))
  | _=>some false
 | (t,w)::p::r=>match s.f t with
  | some (.v (.bool b),_)=>match dX s (p::r) with
   | some x=>some (cond w (x&&b) (x&& !b))
   | none=>some (cond w b (!b))
  | _=>some false
def kf (c:Option Bool) (p:Prop):Prop:=
 match c with
 | none=>p
 | some b=>b=true->p
def iF :List Value->Bool
 | []=>true
 | .agg _::_=>false
 | .tuple _::_=>false
 | _::r=>iF r
def aT (h:Hp) (a:Addr) (cs:List Value):Prop:=∀i v,cs[i]? =some v->cM h (a.add i)=some v
def aY (v:Value):List Value:=match v with
 | .agg cs=>cs.toList
 | v=> [v]
def aQ (c:Option Bool) (sh:Shape) (h:Hp) (a:Addr) (K:sh.T->Prop):Prop:=
 ∃x,kf c (aT h a (aY (sh.enc x)))/\K x
def ag (c:Option Bool) (p:Option Addr) (K:Addr->Prop):Prop:=∃a,kf c (p=some a)/\K a
def iK (P:Program) (s:Sem Value) (h:Hp) (v:Value):Prop:=∀w,Sub h w->∃a,s.run P w=.ok v a/\Step h h w a
def iz (c:Option Bool) (P:Program) (s:Sem Value) (sh:Shape) (h:Hp) (K:sh.T->Prop):Prop:=
 ∃x,kf c (iK P s h (sh.enc x))/\K x
def jw (P:Program) (s:Sem Value) (sh:Shape) (K:sh.T->Hp->Prop) (h:Hp):Prop:=
 bF P s (λv a=>∃x,v=sh.enc x/\K x a) h
def qD (P:Program) (s:Sem Unit) (K:Hp->Prop) (h:Hp):Prop:=bF P s (λ_ a=>K a) h
def dA {a:Type} (c:Option Bool) (A:(a->Hp->Prop)->Hp->Prop) (K:a->Hp->Prop) (h:Hp):Prop:=
 match c with
 | none=>A K h
 | some b=>(b=true->A K h)/\(b=false->∃x,K x h)
def bq (cs:List Value) (K:Addr->Hp->Prop) (h:Hp):Prop:=
 ∀b t,h b=none->K ⟨b,0,none⟩ (h.set b (.cells cs.toArray t (0,0)))
def C4 (t:Nat) (a:List Value) (K:Addr->Hp->Prop) (h:Hp):Prop:=
 ∀b,h b=none->K ⟨b,0,none⟩ (h.set b (.cells a.toArray t (0,0)))
def xo (t:Nat) (a:List Value) (K:Addr->Hp->Prop) (h:Hp):Prop:=
 match a with
 | [.pointer none,.slice none 0 0]=>C4 t a K h
 | _=>bq a K h
def jA (h:Hp) (a:Addr):List Value->Nat->Hp
 | [],_=>h
 | v::l,i=>jA (h.put (a.add i) v) a l (i+1)
def pG (h:Hp) (a:Addr):Nat->Prop
 | 0=>True
 | n+1=>pG h a n/\(∃v,cM h (a.add n)=some v)/\fY h (a.add n)=false
def cq (h:Hp) (a:Addr) (b:List Value) (K:Hp->Prop):Prop:=pG h a b.length/\K (jA h a b 0)
def qZ (P:Program) (g:FuncId) (args:List Value) (K:Value->Hp->Prop) (h:Hp):Prop:=
 ∀w,Sub h w->Calls P g args.toArray w (λe b=>∃v a,e=.returned v/\K v a/\Step h a w b)
def aa (P:Program) (g:FuncId) (args:List Value) (sh:Shape) (K:sh.T->Hp->Prop) (h:Hp):Prop:=
 qZ P g args (λv a=>∃x,v=sh.enc x/\K x a) h
def iG (P:Program) (tb:Tb) (f:Value) (args:List Value) (sh:Shape) (K:sh.T->Hp->Prop) (h:Hp):Prop:=
 ∃g first captured,f=.func (.func g) first captured/\tb.call g=true/\aa P g (first.toList++args++captured.toList) sh K h
def mM {σ:Type} (A:(σ->Hp->Prop)->Prop) (B:σ->Hp->Prop):Prop:=∃R:σ->Hp->Prop,A R/\∀x h,R x h->B x h
def q5 {σ:Type} (d:(σ->Hp->Prop)->σ->Hp->Prop) (x:σ) (h:Hp):Prop:=
 ∃(I:σ->Hp->Prop) (c:σ->Hp->Nat),I x h/\∀x h,I x h->d (λb a=>I b a/\c b a<c x h) x h
def aG {α:Type} (x:α) (K:α->Prop):Prop:=∀y,y=x->K y
def nL (h:Hp) (base:Option Addr) (n:Nat) (b:List Value):Prop:=
 b.length=n/\(n=0\/∃a,base=some a/\aT h a b)
def eS (zero:List Value) (n:Nat):List Value:=(List.replicate n zero).flatten
def fG (h:Hp) (base:Option Addr) (off:Nat) (b:List Value):Hp:=match base with
 | some a=>jA h (a.add off) b 0
 | none=>h
def jG (size bytes:Nat) (zero:List Value) (l:Sl) (n:Nat) (new:List Value) (K:Sl->Hp->Prop) (h:Hp):Prop:=
 ∃d,nL h l.base (l.len*size) d/\(l.len+n<=140737488355328/\(l.len+n)*bytes<=140737488355328)/\
  iF new=true/\(l.len+n<=l.cap->(∀a,l.base=some a->pG h (a.add (l.len*size)) (n*size))/\K ⟨l.base,l.len+n,l.cap⟩ (fG h l.base (l.len*size) new))/\
  (l.cap<l.len+n->∀c b t,l.len+n<=c->h b=none->
   K ⟨some ⟨b,0,none⟩,l.len+n,c⟩ (h.set b (.cells (d++new++eS zero (c-(l.len+n))).toArray t (0,0))))
def fP (size bytes:Nat) (zero:List Value) (l x:Sl) (K:Sl->Hp->Prop) (h:Hp):Prop:=
 ∃new,nL h x.base (x.len*size) new/\jG size bytes zero l x.len new K h
def wy (size bytes:Nat) (zero:List Value) (l:Sl) (m:Int) (K:Sl->Hp->Prop) (h:Hp):Prop:=
 0<=m/\jG size bytes zero l m.toNat (eS zero m.toNat) K h
def xE (s:ByteArray):List Value:=s.data.toList.map λb=>.int .u8 b.toNat
def Ls (u:Nat) (size bytes:Nat) (zero:List Value) (l:Sl) (n:Nat) (new:List Value) (K:Sl->Hp->Prop) (h:Hp):Prop:=
 ∃d,nL h l.base (l.len*size) d/\(l.len+n<=140737488355328/\(l.len+n)*bytes<=140737488355328)/\
  iF new=true/\(l.len+n<=l.cap->(∀a,l.base=some a->pG h (a.add (l.len*size)) (n*size))/\K ⟨l.base,l.len+n,l.cap⟩ (fG h l.base (l.len*size) new))/\
  (l.cap<l.len+n->∀c b,l.len+n<=c->h b=none->
   K ⟨some ⟨b,0,none⟩,l.len+n,c⟩ (h.set b (.cells (d++new++eS zero (c-(l.len+n))).toArray u (0,0))))
theorem jG.u {size bytes:Nat} {zero:List Value} {l:Sl} {n:Nat} {new:List Value} {K:Sl->Hp->Prop} {h:Hp} (u:Nat) (a:jG size bytes zero l n new K h):Ls u size bytes zero l n new K h:=by obtain ⟨g,a1,a2,a3,a4,a5⟩:=a;exact ⟨g,a1,a2,a3,a4,λd c b e f=>a5 d c b u e f⟩
def Tr (u:Nat) (l:Sl) (s:ByteArray) (K:Sl->Hp->Prop) (h:Hp):Prop:=
 Ls u 1 1 [.int .u8 0] l s.size (xE s) K h
def fq (size:Nat) (d x:Sl) (K:Int->Hp->Prop) (h:Hp):Prop:=
 ∃new,nL h x.base (min x.len d.len*size) new/\iF new=true/\(∀a,d.base=some a->pG h a (min x.len d.len*size))/\K (min x.len d.len:Nat) (fG h d.base 0 new)
def dw (bytes:Nat) (zero:List Value) (len cap:Int) (K:Sl->Hp->Prop) (h:Hp):Prop:=
 (0<=len/\len<=cap/\cap<=281474976710656/\cap.toNat*bytes<=281474976710656)/\
  ∀b t,h b=none->K ⟨some ⟨b,0,none⟩,len.toNat,cap.toNat⟩ (h.set b (.cells (eS zero cap.toNat).toArray t (0,0)))
def FE (s:ByteArray) (K:Sl->Hp->Prop) (h:Hp):Prop:=
 ∀c b t,s.size<=c->h b=none->
  K ⟨some ⟨b,0,none⟩,s.size,c⟩ (h.set b (.cells (xE s++eS [.int .u8 0] (c-s.size)).toArray t (c,c+1)))
def xJ (a:Option Addr) (K:Unit->Hp->Prop) (h:Hp):Prop:=
 ∃b off c t,a=some ⟨b,off,none⟩/\h b=some (.cells c t (0,0))/\K () (h.set b (.cells c t (c.size,c.size+1)))
def BP (K:Option Nat->Hp->Prop) (h:Hp):Prop:=∀b,h b=none->K (some b) (h.set b (.map #[] 0))
def C3 (h:Hp) (m:Option Nat) (a:List MapEntry):Prop:=
 (m=none/\a=[])\/∃r ck,m=some r/\h r=some (.map a.toArray ck)
def xp (b:TypeDesc) (zero:Value) (m:Option Nat) (k:Value) (h:Hp) (v:Value) (ok:Bool):Prop:=
 ∃a,C3 h m a/\((Instr.findNow b k a 0=some none/\v=zero/\ok=false)\/∃i,Instr.findNow b k a 0=some (some (i,v))/\ok=true)
def lS (c:Option Bool) (a:TypeDesc) (sh:Shape) (zero:Value) (m:Option Nat) (k:Value) (h:Hp) (K:sh.T->Bool->Prop):Prop:=
 ∃x ok,kf c (xp a zero m k h (sh.enc x) ok)/\K x ok
def yu (b:TypeDesc) (m:Option Nat) (k v:Value) (K:Hp->Prop) (h:Hp):Prop:=
 ∃r a ck,m=some r/\h r=some (.map a ck)/\
  ((Instr.findNow b k a.toList 0=some none/\K (h.set r (.map (a.push {key:=k,val:=v,born:=ck}) (ck+1))))\/
   ∃i u,Instr.findNow b k a.toList 0=some (some (i,u))/\K (h.set r (.map (a.modify i λe=>{e with key:=k,val:=v}) ck)))
def sj (b:TypeDesc) (m:Option Nat) (k:Value) (K:Hp->Prop) (h:Hp):Prop:=
 (m=none/\K h)\/∃r a ck,m=some r/\h r=some (.map a ck)/\
  ((Instr.findNow b k a.toList 0=some none/\K (h.set r (.map a ck)))\/
   ∃i u,Instr.findNow b k a.toList 0=some (some (i,u))/\K (h.set r (.map (a.eraseIdxIfInBounds i) ck)))
def qy :TypeDesc->Bool
 | .int _ | .string | .bool=>true
 | _=>false
def de (op:BinOp) (k:IntKind) (x y:Int):Int:=
 match op with
 | .and=>k.wrap ((BitVec.ofInt k.bits x&&&BitVec.ofInt k.bits y).toNat)
 | .or=>k.wrap ((BitVec.ofInt k.bits x ||| BitVec.ofInt k.bits y).toNat)
 | .xor=>k.wrap ((BitVec.ofInt k.bits x^^^BitVec.ofInt k.bits y).toNat)
 | _=>k.wrap ((BitVec.ofInt k.bits x&&& ~~~ BitVec.ofInt k.bits y).toNat)
def v8 (k:IntKind) (x y:Int):Int:=k.wrap (x*2^(min y.toNat k.bits))
def fW (k:IntKind) (x y:Int):Int:=x.fdiv (2^(min y.toNat k.bits))
def sat (base:Option Addr) (size:Nat) (i:Int):Addr:=(base.getD ⟨0,0,none⟩).add (i.toNat*size)
def bD (base:Option Addr) (len:Nat) (i:Int):Prop:=base≠none/\0<=i/\i<(len:Int)
def aS (base:Option Addr) (size l m:Nat):Option Addr:=if m=l then base else base.map (·.add (l*size))
def Dn (c:Option Bool) (op:BinOp) (k:IntKind) (x y:Int) (K:LV->Prop):Prop:=
 match op with
 | .add=>K (.v (.int k (k.wrap (x+y))))
 | .sub=>K (.v (.int k (k.wrap (x-y))))
 | .mul=>K (.v (.int k (k.wrap (x*y))))
 | .quo=>kf c (y≠0)/\K (.v (.int k (k.wrap (x.tdiv y))))
 | .rem=>kf c (y≠0)/\K (.v (.int k (x.tmod y)))
 | .and=>K (.v (.int k (de .and k x y)))
 | .or=>K (.v (.int k (de .or k x y)))
 | .xor=>K (.v (.int k (de .xor k x y)))
 | .andNot=>K (.v (.int k (de .andNot k x y)))
 | .eql=>K (.v (.bool (x==y)))
 | .neq=>K (.v (.bool (x !=y)))
 | .lss=>K (.v (.bool (decide (x<y))))
 | .leq=>K (.v (.bool (decide (x<=y))))
 | .gtr=>K (.v (.bool (decide (x>y))))
 | .geq=>K (.v (.bool (decide (x>=y))))
 | _=>False
def mi (c:Option Bool) (P:Program) (tb:Tb) (t:Nat) (s:Sem Value) (h:Hp) (K:LV->Prop):Prop:=
 match tb.ty t with
 | some e=>iz c P s e.sh h (λx=>K (.v (e.sh.enc x)))
 | none=>False
def cW (op:BinOp) (t:Nat) (x y:Operand) (a b:Value):Sem Value:=do eqGuard op t x y a b;binOp op t a b
def Cd :Operand->Bool
 | .const (.pointer none) | .const (.slice none _ _) | .const (.map none) | .const .nilFunc | .const .nilIface=>true
 | _=>false
def vX (op:BinOp) (b:Bool) (K:LV->Prop):Prop:=
 match op with
 | .eql=>K (.v (.bool b))
 | .neq=>K (.v (.bool (!b)))
 | _=>False
def IT :Value->Bool
 | .nilIface=>true
 | _=>false
def Bt :Operand->Bool
 | .const .nilIface=>true
 | _=>false
def tJ (tb:Tb) (t:Nat):Bool:=match tb.ty t with
 | some e=>match e.bE with
  | .interface _=>true
  | _=>false
 | none=>false
def od :Value->Bool
 | .nilIface=>true
 | .iface _ _=>true
 | _=>false
def rf (c:Option Bool) (P:Program) (tb:Tb) (op:BinOp) (t:Nat) (x y:Operand) (d:Nat) (a b:Value) (h:Hp) (K:LV->Prop):Prop:=
 match a,b with
 | .int k m,.int f n=>
  match op with
  | .shl=>kf c (0<=n)/\K (.v (.int k (v8 k m n)))
  | .shr=>kf c (0<=n)/\K (.v (.int k (fW k m n)))
  | op=>cond (Dp k f) (Dn c op k m n K) False
 | .bool m,.bool n=>match tb.ty t with
  | some e=>match e.bE,op with
   | .bool,.eql=>K (.v (.bool (m==n)))
   | .bool,.neq=>K (.v (.bool (!(m==n))))
   | _,_=>False
  | none=>False
 | .string m,.string n=>match op with
  | .eql=>K (.v (.bool (m.toList==n.toList)))
  | .neq=>K (.v (.bool (!(m.toList==n.toList))))
  | .add=>kf c (m.size+n.size<=9223372036854775807)/\K (.v (.string (m++n)))
  | _=>mi c P tb d (cW op t x y (.string m) (.string n)) h K
 | .pointer p,.pointer q=>cond (Cd y) (match tb.ty t with
  | some e=>match e.bE with
   | .pointer _=>vX op p.isNone K
   | _=>False
  | none=>False) (mi c P tb d (cW op t x y (.pointer p) (.pointer q)) h K)
 | a,b=>mi c P tb d (cW op t x y a b) h K
def tr (c:Option Bool) (P:Program) (tb:Tb) (op:BinOp) (t:Nat) (x y:Operand) (d:Nat) (a b:Value) (h:Hp) (K:LV->Prop):Prop:=
 cond (Bt y) (cond (tJ tb t) (kf c (od a=true)/\vX op (IT a) K) (rf c P tb op t x y d a b h K)) (rf c P tb op t x y d a b h K)
def Kj (l:Option LV) (K:LV->Prop):Prop:=match l with
 | some l=>K l
 | none=>False
def gW (l:Option LV) (K:Value->Prop):Prop:=match l with
 | some (.v x)=>K x
 | _=>False
def dO (s:St) (ch:aP):List Operand->Option (List Value)
 | []=>some []
 | x::l=>match ev s ch x,dO s ch l with
  | some (.v v),some r=>some (v::r)
  | _,_=>none
def nc (l:Option (List Value)) (K:List Value->Prop):Prop:=match l with
 | some l=>K l
 | none=>False
def wM (tb:Tb) (t i:Nat) (K:Nat->Nat->Prop):Prop:=
 match tb.ty t with
 | some e=>match e.bE with
  | .struct a=>match nth a.toList i with
   | some f=>match tb.ty f.type with
    | some g=>match g.size with
     | 0=>False
     | n+1=>K f.offset (n+1)
    | none=>False
   | none=>False
  | _=>False
 | none=>False
def fX (tb:Tb) (t:Nat):Option Ty:=
 match tb.ty t with
 | some e=>match e.bE with
  | .slice u=>tb.ty u
  | _=>none
 | none=>none
def BX (tb:Tb) (t:Nat):Nat:=
 match tb.ty t with
 | some e=>match e.bE with
  | .slice u=>u
  | _=>0
 | none=>0
def kX (tb:Tb) (t:Nat):Option (Nat×Ty):=
 match tb.ty t with
 | some e=>match e.bE with
  | .array n u=>match tb.ty u with
   | some g=>some (n,g)
   | none=>none
  | _=>none
 | none=>none
def iv (tb:Tb) (t:Nat) (a:List Value) (off:Nat) (K:LV->Prop):Prop:=
 match tb.ty t with
 | some e=>cond (nM e.bE) (cond (Nat.ble (off+e.size) a.length) (K (.v (.agg (oi (n7 a off) e.size).toArray))) False)
  (match nth a off with
   | some v=>K (.v v)
   | none=>False)
 | none=>False
def An :Operand->Bool
 | .const _=>true
 | _=>false
def oj (tb:Tb):List Field->Bool
 | []=>true
 | f::r=>match tb.ty f.type with
  | some _=>oj tb r
  | none=>false
def pM (tb:Tb) (b:List Field) (a:List Value):List (Nat×Value)->Option (List Value)
 | []=>some a
 | (i,v)::r=>match nth b i with
  | some f=>match tb.ty f.type with
   | some e=>cond (Nat.beq (aY v).length e.size) (cond (Nat.ble (f.offset+e.size) a.length) (pM tb b (j6 a f.offset (aY v)) r) none) none
   | none=>none
  | none=>none
def mV (size:Nat) (a:List Value):List (Nat×Value)->Option (List Value)
 | []=>some a
 | (i,v)::r=>cond (Nat.beq (aY v).length size) (cond (Nat.ble (i*size+size) a.length) (mV size (j6 a (i*size) (aY v)) r) none) none
def lh (s:St) (ch:aP):List (Nat×Operand)->Option (List (Nat×Value))
 | []=>some []
 | (i,x)::l=>match ev s ch x,lh s ch l with
  | some (.v v),some r=>some ((i,v)::r)
  | _,_=>none
def j8 {a:Type _} (l:List a):Nat->List a
 | 0=> []
 | n+1=>l++j8 l n
def DL (c:Option Bool) (a:Bool) (len cap:Nat) (d b e:Option Int) (K:Nat->Nat->Nat->Prop):Prop:=
 match d,b,e with
 | none,none,none=>K 0 len cap
 | some l,none,none=>kf c (0<=l/\l<=(len:Int))/\K l.toNat len cap
 | none,some x,none=>kf c (0<=x/\x<=(cap:Int))/\K 0 x.toNat cap
 | some l,some x,none=>kf c (0<=l/\l<=x/\x<=(cap:Int))/\K l.toNat x.toNat cap
 | none,some x,some m=>kf c (0<=x/\x<=m/\m<=(cap:Int))/\K 0 x.toNat m.toNat
 | some l,some x,some m=>kf c (0<=l/\l<=x/\x<=m/\m<=(cap:Int))/\K l.toNat x.toNat m.toNat
 | _,none,some _=>a= !a
def nI (s:St) (ch:aP):Option Operand->Option (Option Int)
 | none=>some none
 | some x=>match ev s ch x with
  | some (.v (.int _ n))=>some (some n)
  | _=>none
def BY (c:Option Bool) (tb:Tb) (t:Nat) (x:Value) (f d g:Option Int) (K:LV->Prop):Prop:=
 match x with
 | .slice base len cap=>match fX tb t with
  | some e=>DL c true len cap f d g λl n m=>aG (⟨aS base e.size l m,n-l,m-l⟩:Sl) λy=>K (.v (.slice y.base y.len y.cap))
  | none=>False
 | .pointer (some a)=>match kX tb t with
  | some (n,e)=>DL c false n n f d g λl x m=>aG (⟨aS (some a) e.size l m,x-l,m-l⟩:Sl) λy=>K (.v (.slice y.base y.len y.cap))
  | none=>False
 | .string b=>match tb.ty t,g with
  | some e,none=>match e.bE with
   | .string=>DL c false b.size b.size f d none λl n _=>K (.v (.string (b.extract l n)))
   | _=>False
  | _,_=>False
 | _=>False
def Dt (c:Option Bool) (P:Program) (tb:Tb) (ty a:Nat) (x:Value) (h:Hp) (K:LV->Prop):Prop:=
 match tb.ty ty with
 | some e=>match e.bE,x with
  | .string,.string b=>K (.v (.int .i64 (b.size:Int)))
  | .slice _,.slice _ n _=>K (.v (.int .i64 (n:Int)))
  | .array n _,_=>K (.v (.int .i64 (n:Int)))
  | _,_=>mi c P tb a (Builtin.len_ #[ty] a #[x]) h K
 | none=>False
def qN (lt:Int->Int->Int) (k:IntKind) (x:Int):List Value->Option Value
 | []=>some (.int k x)
 | .int _ y::r=>qN lt k (lt x y) r
 | _=>none
def ir (x y:Int):Int:=if y<x then y else x
def iq (x y:Int):Int:=if y>x then y else x
def MD (op:UnOp) (x:Value) (K:LV->Prop):Prop:=
 match op,x with
 | .not,.bool b=>K (.v (.bool !b))
 | .neg,.int k n=>K (.v (.int k (k.wrap (0-n))))
 | .neg,.float k b=>K (.v (.float k (Op.negFloat k b)))
 | .xor,.int k n=>K (.v (.int k (de .xor k (if k.signed then -1 else k.max) n)))
 | _,_=>False
def xq (s:St) (ch:aP) (t:Nat) (w:Bool) (x:Operand):Option LV:=
 match x with
 | .tmp u=>match s.f u with
  | some (l,c)=>cond (mo c ((t,w)::ch)) (some l) none
  | none=>none
 | .const v=>some (.v v)
 | _=>none
def tW (s:St) (ch:aP) (x a b:Operand) (K:LV->Prop):Prop:=
 match x with
 | .tmp t=>match s.f t with
  | some (.v (.bool p),c)=>cond (mo c ch)
   (match a,b with
    | .tmp _,.const (.bool false)=>gW (xq s ch t true a) λv=>match v with
     | .bool q=>aG (p&&q) λy=>K (.v (.bool y))
     | _=>False
    | .const (.bool true),.tmp _=>gW (xq s ch t false b) λv=>match v with
     | .bool q=>aG (p || q) λy=>K (.v (.bool y))
     | _=>False
    | .const (.bool true),.const (.bool false)=>K (.v (.bool p))
    | .const (.bool x),.const (.bool y)=>K (.v (.bool (cond p x y)))
    | _,_=>False) False
  | _=>False
 | _=>False
def LI (c:Option Bool) (P:Program) (tb:Tb) (b:Builtin) (f:List Value) (d:List TypeId) (a:Nat) (h:Hp) (K:LV->Prop):Prop:=
 match b,f,d with
 | .len,[x],[ty]=>Dt c P tb ty a x h K
 | .cap,[.slice _ _ c],[ty]=>match tb.ty ty with
  | some e=>match e.bE with
   | .slice _=>K (.v (.int .i64 (c:Int)))
   | _=>False
  | none=>False
 | .min,.int k x::r,_=>match qN ir k x r with
  | some v=>K (.v v)
  | none=>False
 | .max,.int k x::r,_=>match qN iq k x r with
  | some v=>K (.v v)
  | none=>False
 | _,_,_=>False
def Dw (n:Int):Nat:=match n with
 | .ofNat m=>m
 | .negSucc _=>0
def y8 (c:Option Bool) (tb:Tb) (t:Nat) (cs:List Value) (n:Int) (K:LV->Prop):Prop:=
 match kX tb t with
 | some (len,e)=>cond (nM e.bE) False (kf c (0<=n/\n<(len:Int))/\∃x,kf c (cs[n.toNat*e.size]? =some (e.sh.enc x))/\K (.v (e.sh.enc x)))
 | none=>False
def um (P:Program) (tb:Tb) (o:Oper) (ch:aP) (s:St) (h:Hp) (K:LV->Prop):Prop:=
 match o.op with
 | .move x=>Kj (ev s ch x) K
 | .assign x=>Kj (ev s ch x) K
 | .pick x a b=>tW s ch x a b K
 | .extract x i=>gW (ev s ch x) λv=>match v with
  | .tuple A=>match nth A.toList i with
   | some y=>K (.v y)
   | none=>False
  | _=>False
 | .binOp op t x y _=>gW (ev s ch x) λa=>gW (ev s ch y) λb=>tr (dX s ch) P tb op t x y o.type a b h K
 | .unOp op _ x=>gW (ev s ch x) λa=>MD op a K
 | .nilCheck x=>match ev s ch x with
  | some (.v (.pointer p))=>ag (dX s ch) p λa=>K (.v (.pointer (some a)))
  | some (.box k off)=>K (.box k off)
  | some (.dv k off)=>K (.dv k off)
  | _=>False
 | .load t x=>match ev s ch x with
  | some (.v (.pointer (some a)))=>match tb.ty t with
   | some e=>aQ (dX s ch) e.sh h a λx=>K (.v (e.sh.enc x))
   | none=>False
  | some (.box k off)=>match s.m k with
   | some c=>iv tb t c off K
   | none=>False
  | some (.dv k off)=>match s.m k,tb.ty t with
   | some c,some e=>cond (nM e.bE) False (∃x,kf (dX s ch) (c[off]? =some (e.sh.enc x))/\K (.v (e.sh.enc x)))
   | _,_=>False
  | _=>False
 | .fieldAddr t x i=>wM tb t i λoff _=>match ev s ch x with
  | some (.v (.pointer (some a)))=>K (.v (.pointer (some (a.add off))))
  | some (.box k o)=>K (.box k (o+off))
  | some (.dv k o)=>K (.dv k (o+off))
  | _=>False
 | .field t x i=>match tb.ty t with
  | some e=>match e.bE with
   | .struct j=>match nth j.toList i with
    | some f=>gW (ev s ch x) λv=>match v with
     | .agg c=>iv tb f.type c.toList f.offset K
     | _=>False
    | none=>False
   | _=>False
  | none=>False
 | .indexAddr t x i=>match ev s ch x,ev s ch i with
  | some (.v (.slice base len _)),some (.v (.int _ n))=>match fX tb t with
   | some e=>kf (dX s ch) (bD base len n)/\K (.v (.pointer (some (sat base e.size n))))
   | none=>False
  | some (.v (.pointer (some a))),some (.v (.int _ n))=>match kX tb t with
   | some (len,e)=>kf (dX s ch) (0<=n/\n<(len:Int))/\K (.v (.pointer (some (a.add (n.toNat*e.size)))))
   | none=>False
  | some (.box k off),some (.v (.int _ n))=>match kX tb t with
   | some (len,e)=>kf (dX s ch) (0<=n/\n<(len:Int))/\cond (An i) (K (.box k (off+Dw n*e.size))) (K (.dv k (off+n.toNat*e.size)))
   | none=>False
  | _,_=>False
 | .index t x i=>match ev s ch x,ev s ch i with
  | some (.v (.string b)),some (.v (.int _ n))=>match tb.ty t with
   | some y=>match y.bE with
    | .string=>kf (dX s ch) (0<=n/\n<(b.size:Int))/\K (.v (.int .u8 ((b.data.toList.getD n.toNat 0).toNat:Int)))
    | _=>False
   | none=>False
  | some (.v (.agg c)),some (.v (.int _ n))=>y8 (dX s ch) tb t c.toList n K
  | _,_=>False
 | .slice t x r q w=>gW (ev s ch x) λv=>match nI s ch r,nI s ch q,nI s ch w with
  | some r,some q,some w=>BY (dX s ch) tb t v r q w K
  | _,_,_=>False
 | .makeInterface t x=>gW (ev s ch x) λv=>match tb.ty t with
  | some e=>match e.bE with
   | .interface _=>False
   | _=>K (.v (.iface t v))
  | none=>False
 | .makeFunc fn first captured=>nc (dO s ch first.toList) λa=>nc (dO s ch captured.toList) λb=>K (.v (.func fn a.toArray b.toArray))
 | .convert z d x=>gW (ev s ch x) λv=>match tb.ty z,tb.ty d,v with
  | some _,some e,.int _ n=>match e.bE with
   | .int k=>K (.v (.int k (k.wrap n)))
   | _=>mi (dX s ch) P tb d (convert z d v) h K
  | some _,some _,v=>mi (dX s ch) P tb d (convert z d v) h K
  | _,_,_=>False
 | .build t parts=>nc ((lh s ch parts.toList).map λ_=> []) λ_=>match lh s ch parts.toList,tb.ty t with
  | some C,some e=>match e.bE with
   | .struct j=>cond (oj tb j.toList) (match pM tb j.toList (aY e.zero) C with
    | some c=>K (.v (.agg c.toArray))
    | none=>False) False
   | .array _ u=>match tb.ty u with
    | some g=>match mV g.size (aY e.zero) C with
     | some c=>K (.v (.agg c.toArray))
     | none=>False
    | none=>False
   | _=>False
  | _,_=>False
 | .lookup t x i ok=>gW (ev s ch x) λa=>gW (ev s ch i) λb=>match a,tb.ty t with
  | .map m,some e=>match e.bE with
   | .map k u=>match tb.ty k,tb.ty u with
    | some B,some l=>cond (qy B.bE) (lS (dX s ch) B.bE l.sh l.zero m b h λx y=>cond ok (K (.v (.tuple #[l.sh.enc x,.bool y]))) (K (.v (l.sh.enc x))))
      (mi (dX s ch) P tb o.type (Instr.lookup t a b ok) h K)
    | _,_=>False
   | _=>False
  | _,_=>False
 | .call {callee:=.builtin b,args:=E,argTypes:=D}=>nc (dO s ch E.toList) λA=>LI (dX s ch) P tb b A D.toList o.type h K
 | _=>False
inductive Kd where
 | pure
 | box
 | mem
def cf (tb:Tb) (o:Oper) (ch:aP) (s:St):Kd:=
 match o.op with
 | .load _ x=>match ev s ch x with
  | some (.box _ _)=>.box
  | some (.dv _ _)=>.box
  | _=>.mem
 | .lookup .. =>.mem
 | .binOp op _ x y _=>match ev s ch x,ev s ch y with
  | some (.v (.int _ _)),some (.v (.int _ _))=>.pure
  | some (.v (.bool _)),some (.v (.bool _))=>.pure
  | some (.v (.string _)),some (.v (.string _))=>match op with
   | .eql=>.pure
   | .neq=>.pure
   | .add=>.pure
   | _=>.mem
  | some (.v (.pointer _)),some (.v (.pointer _))=>cond (Cd y) .pure .mem
  | _,_=>.mem
 | .convert _ d x=>match ev s ch x,tb.ty d with
  | some (.v (.int _ _)),some e=>match e.bE with
   | .int _=>.pure
   | _=>.mem
  | _,_=>.mem
 | .call {callee:=.builtin .len,args:=b,argTypes:=a}=>match dO s ch b.toList,a.toList with
  | some [x],[t]=>match tb.ty t with
   | some e=>match e.bE,x with
    | .string,.string _=>.pure
    | .slice _,.slice _ _ _=>.pure
    | .array _ _,_=>.pure
    | _,_=>.mem
   | none=>.mem
  | _,_=>.mem
 | _=>.pure
def qJ (c:Option Bool) (P:Program) (tb:Tb) (t:Nat) (s:Sem Value) (K:LV->Hp->Prop) (h:Hp):Prop:=
 match tb.ty t with
 | some e=>dA c (λ(K:e.sh.T->Hp->Prop) h=>jw P s e.sh K h) (λx a=>K (.v (e.sh.enc x)) a) h
 | none=>False
def Km (c:Option Bool) (P:Program) (sh:Shape) (s:Sem Value) (K:LV->Hp->Prop) (h:Hp):Prop:=
 dA c (λ(K:sh.T->Hp->Prop) h=>jw P s sh K h) (λx a=>K (.v (sh.enc x)) a) h
def Bu (P:Program) (tb:Tb) (c:Option Bool) (t:Nat) (x y z:Option LV) (K:LV->Hp->Prop) (h:Hp):Prop:=
 gW x λa=>gW y λb=>gW z λv=>match a,tb.ty t with
  | .map m,some e=>match e.bE with
   | .map k _=>match tb.ty k with
    | some d=>dA c (λ(K:Unit->Hp->Prop) h=>cond (qy d.bE) (yu d.bE m b v (K ()) h) (qD P (Instr.mapUpdate t a b v) (K ()) h)) (λ_ f=>K (.v (.tuple #[])) f) h
    | none=>False
   | _=>False
  | _,_=>False
def yO (tb:Tb) (c:Option Bool) (k:List TypeId) (o:List Value) (h:Hp) (K:LV->Hp->Prop):Prop:=
 match o,k with
 | [.slice p n a,.slice j i g],[t,d]=>match fX tb t,fX tb d with
  | some e,some _=>dA c (fP e.size e.bytes (aY e.zero) ⟨p,n,a⟩ ⟨j,i,g⟩) (λl b=>K (.v (.slice l.base l.len l.cap)) b) h
  | _,_=>False
 | [.slice p n a,.string x],[t,d]=>match fX tb t,tb.ty d with
  | some e,some f=>match e.bE,f.bE with
   | .int .u8,.string=>cond (Nat.beq e.bytes 1) (dA c (Tr (BX tb t) ⟨p,n,a⟩ x) (λl b=>K (.v (.slice l.base l.len l.cap)) b) h) False
   | _,_=>False
  | _,_=>False
 | [.slice p n a,.int .i64 m],[t,d]=>match fX tb t,tb.ty d with
  | some e,some f=>match f.bE with
   | .int .i64=>dA c (wy e.size e.bytes (aY e.zero) ⟨p,n,a⟩ m) (λl b=>K (.v (.slice l.base l.len l.cap)) b) h
   | _=>False
  | _,_=>False
 | _,_=>False
def tx (P:Program) (tb:Tb) (ty:Nat) (c:Option Bool) (a:Array TypeId) (b:List Value) (h:Hp) (K:LV->Hp->Prop):Prop:=
 match b,a.toList with
 | [.slice p n f,.slice j i d],[t,_]=>match fX tb t with
  | some e=>dA c (fq e.size ⟨p,n,f⟩ ⟨j,i,d⟩) (λk g=>K (.v (.int .i64 k)) g) h
  | none=>False
 | _,_=>qJ c P tb ty (Builtin.copy_ a ty b.toArray) K h
def yT (P:Program) (tb:Tb) (ty:Nat) (c:Option Bool) (b:Array TypeId) (d:List Value) (h:Hp) (K:LV->Hp->Prop):Prop:=
 match d,b.toList with
 | [.map m,k],[t,_]=>match tb.ty t with
  | some e=>match e.bE with
   | .map g _=>match tb.ty g with
    | some a=>cond (qy a.bE) (dA c (λ(K:Unit->Hp->Prop) h=>sj a.bE m k (K ()) h) (λ_ f=>K (.v (.tuple #[])) f) h)
      (qJ c P tb ty (Builtin.delete_ b ty d.toArray) K h)
    | none=>False
   | _=>False
  | none=>False
 | _,_=>False
def BZ (P:Program) (tb:Tb) (ty:Nat) (c:Option Bool) (g:FuncId) (b:List Value) (h:Hp) (K:LV->Hp->Prop):Prop:=
 match tb.ty ty with
 | some e=>cond (tb.call g) (dA c (aa P g b e.sh) (λx a=>K (.v (e.sh.enc x)) a) h) (match tb.ext g with
  | some f=>dA c (λ(K:e.sh.T->Hp->Prop) h=>jw P (f b.toArray) e.sh K h) (λx a=>K (.v (e.sh.enc x)) a) h
  | none=>False)
 | none=>False
def B0 (P:Program) (tb:Tb) (ty:Nat) (c:Option Bool) (a:Option LV) (d:List Value) (h:Hp) (K:LV->Hp->Prop):Prop:=
 match tb.ty ty with
 | some e=>gW a λa=>dA c (iG P tb a d e.sh) (λx b=>K (.v (e.sh.enc x)) b) h
 | none=>False
def vR (P:Program) (tb:Tb) (o:Oper) (ch:aP) (s:St) (h:Hp) (K:LV->Hp->Prop):Prop:=
 match o.op with
 | .store t x y=>match ev s ch x,ev s ch y with
  | some (.v (.pointer (some a))),some (.v v)=>match ch,tb.ty t with
   | [],some e=>cond (Nat.beq (aY v).length e.size) (cond (iF (aY v)) (cq h a (aY v) λd=>K (.v (.tuple #[])) d) False) False
   | _,_=>False
  | _,_=>False
 | .alloc t=>match tb.ty t with
  | some e=>dA (dX s ch) (xo t (aY e.zero)) (λa d=>K (.v (.pointer (some a))) d) h
  | none=>False
 | .box _ x=>gW (ev s ch x) λv=>dA (dX s ch) (bq (aY v)) (λa d=>K (.v (.pointer (some a))) d) h
 | .buildSlice t len parts=>match lh s ch parts.toList,fX tb t with
  | some w,some e=>cond (Nat.ble (len*e.size) 16777216) (match mV e.size (j8 (aY e.zero) len) w with
   | some u=>dA (dX s ch) (bq u) (λa d=>K (.v (.slice (some a) len len)) d) h
   | none=>False) False
  | _,_=>False
 | .makeMap _ none=>dA (dX s ch) BP (λm d=>K (.v (.map m)) d) h
 | .makeSlice t x y=>gW (ev s ch x) λa=>gW (ev s ch y) λb=>match a,b,fX tb t with
  | .int .i64 m,.int .i64 n,some e=>dA (dX s ch) (dw e.bytes (aY e.zero) m n) (λl d=>K (.v (.slice l.base l.len l.cap)) d) h
  | _,_,_=>False
 | .mapUpdate t x y z=>Bu P tb (dX s ch) t (ev s ch x) (ev s ch y) (ev s ch z) K h
 | .insert t x y z=>Bu P tb (dX s ch) t (ev s ch x) (ev s ch y) (ev s ch z) K h
 | .mapEntry t x y=>gW (ev s ch x) λa=>gW (ev s ch y) λb=>qJ (dX s ch) P tb o.type (Instr.mapEntry t a b) K h
 | .binOp op t x y _=>gW (ev s ch x) λa=>gW (ev s ch y) λb=>qJ (dX s ch) P tb o.type (cW op t x y a b) K h
 | .entryStore t x y z=>gW (ev s ch x) λa=>gW (ev s ch y) λb=>gW (ev s ch z) λc=>
  dA (dX s ch) (λ(K:Unit->Hp->Prop) h=>qD P (Instr.entryStore t a b c) (K ()) h) (λ_ d=>K (.v (.tuple #[])) d) h
 | .range t x=>gW (ev s ch x) λa=>Km (dX s ch) P aj (Instr.range t a) K h
 | .next x b=>gW (ev s ch x) λa=>Km (dX s ch) P Pq (Instr.next a b o.type) K h
 | .convert r q x=>gW (ev s ch x) λv=>match v,tb.ty r,fX tb q with
  | .string b,some e,some g=>match e.bE,g.bE with
   | .string,.int .u8=>dA (dX s ch) (FE b) (λl d=>K (.v (.slice l.base l.len l.cap)) d) h
   | _,_=>False
  | .slice p n c,some e,some g=>match e.bE,g.bE with
   | .slice _,.int .u8=>cond (Nat.beq r q) (dA (dX s ch) (xJ p) (λ_ d=>K (.v (.slice p n c)) d) h) False
   | _,_=>False
  | _,_,_=>False
 | .call {callee:=.builtin b,args:=k,argTypes:=j}=>nc (dO s ch k.toList) λi=>match b with
  | .append=>yO tb (dX s ch) j.toList i h K
  | .copy=>tx P tb o.type (dX s ch) j i h K
  | .delete=>yT P tb o.type (dX s ch) j i h K
  | .clear=>qJ (dX s ch) P tb o.type (Builtin.clear_ j o.type i.toArray) K h
  | _=>False
 | .call {callee:=.value f,args:=k,argTypes:=_}=>nc (dO s ch k.toList) λi=>match f with
  | .func g=>BZ P tb o.type (dX s ch) g i h K
  | .tmp t=>B0 P tb o.type (dX s ch) (ev s ch (.tmp t)) i h K
  | _=>False
 | _=>False
def NF (tb:Tb) (o:Oper):Bool:=
 match o.op with
 | .convert s d _=>match tb.ty s,tb.ty d with
  | some a,some b=>match a.bE,b.bE with
   | .int _,.int _ | .int _,.float _ | .float _,.int _ | .float _,.float _ | .int _,.string | .slice _,.string | .string,.string=>true
   | _,_=>false
  | _,_=>false
 | _=>false
def LS (tb:Tb) (op:BinOp) (t:Nat):Bool:=
 match op with
 | .add | .sub | .mul | .quo=>match tb.ty t with
  | some e=>match e.bE with
   | .float _=>true
   | _=>false
  | none=>false
 | _=>false
def isVal (tb:Tb) (o:Oper):Bool:=
 match o.op with
 | .binOp op t _ _ _=>cond (LS tb op t) false true
 | .move _ | .assign _ | .pick .. | .extract .. | .unOp .. | .nilCheck _ | .load .. | .fieldAddr .. | .field .. | .indexAddr .. | .index ..
 | .slice .. | .makeInterface .. | .makeFunc .. | .build .. | .lookup .. =>true
 | .convert .. =>NF tb o
 | .call {callee:=.builtin b,..}=>match b with
  | .len | .cap | .min | .max=>true
  | _=>false
 | _=>false
def has (l:List Nat) (i:Nat):Bool:=
 match l with
 | []=>false
 | a::r=>cond (Nat.beq i a) true (has r i)
def bH :List Oper->List Nat
 | []=> []
 | o::r=>match o.dst with
  | some d=>d::bH r
  | none=>bH r
def app {b:Type _}:List b->List b->List b
 | [],l=>l
 | a::r,l=>a::app r l
def jK :List Nat->List Nat->Bool
 | [],_=>true
 | a::r,l=>cond (has l a) (jK r l) false
structure Ctx where
 P:Program
 tb:Tb
 aJ:List Nat
def pJ (l:List Nat) (o:Oper):Option Nat:=
 match o.dst with
 | some d=>cond (has l d) (some d) none
 | none=>none
def ot (a:List Oper):Nat->Oper->Option aP
 | 0,_=>none
 | n+1,o=>match o.guard with
  | none=>some []
  | some (j,w)=>match nth a j with
   | some p=>match p.dst,ot a n p with
    | some d,some c=>some ((d,w)::c)
    | _,_=>none
   | none=>none
def Ho (C:Ctx) (t:Nat) (a b:Value) (ok:Bool) (h:Hp) (v:Value):Prop:=
 match a,C.tb.ty t with
 | .map m,some e=>match e.bE with
  | .map k u=>match C.tb.ty k,C.tb.ty u with
   | some c,some d=>cond (qy c.bE) (cond ok (match v with
     | .tuple ⟨[x,.bool y]⟩=>xp c.bE d.zero m b h x y
     | _=>False) (∃y,xp c.bE d.zero m b h v y)) (iK C.P (Instr.lookup t a b ok) h v)
   | _,_=>False
  | _=>False
 | _,_=>False
def nN (C:Ctx) (c:Nat->Bool) (o:Oper) (ch:aP) (s:St) (h:Hp):Prop:=
 match o.op,o.dst with
 | .load _ x,some d=>match s.f d with
  | some (.v v,_)=>match ev s ch x with
   | some (.v (.pointer (some a)))=>kf (dX s ch) (aT h a (aY v))
   | some (.box b _)=>cond (c b) False True
   | some (.dv b _)=>cond (c b) False True
   | _=>False
  | _=>False
 | .lookup t x i ok,some d=>match s.f d with
  | some (.v v,_)=>gW (ev s ch x) λa=>gW (ev s ch i) λb=>kf (dX s ch) (Ho C t a b ok h v)
  | _=>False
 | .call {callee:=.builtin .len,args:=g,argTypes:=e},some d=>match s.f d with
  | some (.v v,_)=>match dO s ch g.toList with
   | some [x]=>kf (dX s ch) (iK C.P (Builtin.len_ e o.type #[x]) h v)
   | _=>False
  | _=>False
 | _,_=>False
def BQ (C:Ctx) (b:Nat->Bool) (a:List Oper) (s:St) (h:Hp):List Nat->Prop
 | []=>True
 | r::l=>(match nth a r with
   | some o=>match ot a a.length o with
    | some ch=>nN C b o ch s h
    | none=>False
   | none=>False)/\BQ C b a s h l
def rL (s:St):aP->Bool
 | []=>true
 | (d,_)::c=>match s.f d with
  | some (.v (.bool _),a)=>cond (nD a c) (rL s c) false
  | _=>false
def nodup :List Nat->Bool
 | []=>true
 | a::r=>cond (has r a) false (nodup r)
def Ce :List Oper->Bool
 | []=>true
 | o::r=>match o.guard with
  | none=>Ce r
  | some _=>false
def xr (d i:Nat):List Oper->Option Nat
 | []=>none
 | o::r=>match o.op with
  | .extract (.tmp t) j=>cond (Nat.beq t d) (cond (Nat.beq j i) (some o.type) (xr d i r)) (xr d i r)
  | _=>xr d i r
def FF (tb:Tb) (d i:Nat) (a:List Oper):Shape:=match xr d i a with
 | some t=>match tb.ty t with
  | some e=>e.sh
  | none=>yc
 | none=>yc
def yX (C:Ctx) (b:List Oper) (o:Oper) (ch:aP) (s:St) (h:Hp) (K:LV->Hp->Prop):Prop:=
 match o.op,o.dst with
 | .entry x,some d=>gW (ev s ch x) λa=>Km (dX s ch) C.P (my (FF C.tb d 0 b) (FF C.tb d 1 b)) (Instr.entry a) K h
 | _,_=>False
def zm (C:Ctx) (b:List Oper) (f:List Nat) (o:Oper) (s:St) (h:Hp) (K:St->Hp->Prop):Prop:=
 match ot b b.length o with
 | none=>False
 | some ch=>cond (rL s ch)
  (cond (isVal C.tb o) (um C.P C.tb o ch s h λl=>K (s.put o.dst l ch) h)
  (match pJ C.aJ o,ch with
   | some d,[]=>cond (has f d) (match o.op with
    | .alloc t=>match C.tb.ty t with
     | some e=>K ((s.put (some d) (.box d 0) []).fU d (aY e.zero)) h
     | none=>False
    | .box _ x=>gW (ev s ch x) λv=>K ((s.put (some d) (.box d 0) []).fU d (aY v)) h
    | _=>False) False
   | some _,_=>False
   | none,_=>match o.op with
    | .store t x y=>match ev s ch x,ev s ch y with
     | some (.box k off),some (.v v)=>match s.m k,C.tb.ty t,ch with
      | some c,some e,[]=>cond (has f k) (cond (Nat.beq (aY v).length e.size) (cond (Nat.ble (off+e.size) c.length) (cond (iF (aY v))
        (K ((s.put o.dst (.v (.tuple #[])) ch).fU k (j6 c off (aY v))) h) False) False) False) False
      | _,_,_=>False
     | _,_=>vR C.P C.tb o ch s h λl a=>K (s.put o.dst l ch) a
    | .entry _=>yX C b o ch s h λl a=>K (s.put o.dst l ch) a
    | _=>vR C.P C.tb o ch s h λl a=>K (s.put o.dst l ch) a)) False
def tv (o:Oper) (s:St) (k:Nat):Bool:=match o.op with
 | .store _ x _=>(match ev s [] x with
  | some (.box b _)=>Nat.beq k b
  | some (.v _)=>false
  | _=>true)
 | _=>false
def qj (tb:Tb) (o:Oper):Bool:=match o.op with
 | .move _ | .assign _ | .pick .. | .extract .. | .unOp .. | .nilCheck _ | .fieldAddr .. | .field .. | .indexAddr .. | .index .. | .slice .. | .makeInterface .. | .makeFunc .. | .build .. =>false
 | .binOp _ t _ _ _=>match tb.ty t with
  | some e=>match e.bE with
   | .int _ | .bool | .string | .float _=>false
   | _=>true
  | none=>true
 | .call {callee:=.builtin b,argTypes:=a,..}=>match b with
  | .cap | .min | .max=>false
  | .len=>match a.toList with
   | [t]=>match tb.ty t with
    | some e=>match e.bE with
     | .slice _ | .string | .array _ _=>false
     | _=>true
    | none=>true
   | _=>true
  | _=>true
 | .convert s _ _=>match tb.ty s with
  | some e=>match e.bE with
   | .int _ | .float _ | .string=>false
   | _=>true
  | none=>true
 | _=>true
def B4 (C:Ctx) (a:List Oper) (o:Oper) (s:St):Bool:=
 cond (isVal C.tb o) (cond (qj C.tb o) true (match ot a a.length o with
  | some ch=>match cf C.tb o ch s with
   | .pure=>true
   | _=>false
  | none=>false)) true
def nJ (C:Ctx) (a:List Oper) (c:List Nat):List (Nat×List Nat)->St->Hp->(St->Hp->Prop)->Prop
 | [],s,h,K=>K s h
 | (i,ws)::r,s,h,K=>match nth a i with
  | some o=>cond (B4 C a o s) (zm C a c o s h λd b=>match ws with
   | []=>nJ C a c r d b K
   | ws=>BQ C (tv o s) a d b ws/\nJ C a c r d b K) False
  | none=>False
def zt (C:Ctx) (b:List Oper) (a:List Nat):List Oper->St->Hp->(St->Hp->Prop)->Prop
 | [],s,h,K=>K s h
 | o::r,s,h,K=>zm C b a o s h λd c=>zt C b a r d c K
def CS (e:Edge):Bool:=match e.ground with
 | .textOnly _=>false
 | .gcOnly _=>false
 | _=>true
def waits (o:Oper):List Nat:=go o.after.toList
 where
 go:List Edge->List Nat
  | []=> []
  | e::r=>cond (CS e) (e.on::go r) (go r)
def tn (j:Nat) (l:List Nat):List Nat:=cond (has l j) l (j::l)
def zd :List Nat->List Nat->List Nat
 | [],b=>b
 | a::r,b=>zd r (tn a b)
def bh :List Oper->List (List Nat)->List (List Nat)
 | [],a=>a
 | o::r,a=>bh r (app a [union (waits o) a])
 where
 union:List Nat->List (List Nat)->List Nat
  | [],_=> []
  | j::l,a=>tn j (zd (match nth a j with
   | some x=>x
   | none=> []) (union l a))
def kO (rows:List (List Nat)) (i:Nat):List Nat:=match nth rows i with
 | some l=>l
 | none=> []
def lG (aJ:List Nat) (o:Oper):Bool:=match o.op,o.dst with
 | .alloc _,some d=>has aJ d
 | .box _ _,some d=>has aJ d
 | _,_=>false
def wa :List (Nat×Operand)->List Operand
 | []=> []
 | (_,x)::r=>x::wa r
def tU :Option Operand->List Operand
 | none=> []
 | some x=> [x]
def B5 :Op->Option (List Operand)
 | .alloc _=>some []
 | .move x | .assign x | .box _ x | .load _ x | .nilCheck x | .unOp _ _ x | .convert _ _ x | .fieldAddr _ x _ | .field _ x _ | .range _ x | .next x _ | .entry x | .extract x _ | .makeInterface _ x=>some [x]
 | .pick c a b=>some [c,a,b]
 | .build _ e | .buildSlice _ _ e=>some (wa e.toList)
 | .store _ a v | .binOp _ _ a v _ | .makeSlice _ a v | .indexAddr _ a v | .index _ a v | .lookup _ a v _ | .mapEntry _ a v=>some [a,v]
 | .makeFunc _ first captured=>some (app first.toList captured.toList)
 | .makeMap _ r=>some (tU r)
 | .slice _ x l h m=>some (x::app (tU l) (app (tU h) (tU m)))
 | .mapUpdate _ m k v | .entryStore _ m k v | .insert _ m k v=>some [m,k,v]
 | .call {callee:=.value f,args:=d,..}=>some (f::d.toList)
 | .call {callee:=.builtin _,args:=d,..}=>some d.toList
 | _=>none
def ri (o:Oper) (t:Nat):Bool:=match o.dst with
 | some d=>Nat.beq d t
 | none=>false
def looksAt (o:Oper) (t:Nat):Bool:=match B5 o.op with
 | some l=>go l
 | none=>true
 where
 go:List Operand->Bool
  | []=>false
  | .tmp u::r=>cond (Nat.beq u t) true (go r)
  | _::r=>go r
def su (rows:List (List Nat)) (i t:Nat):List Oper->Nat->Bool
 | [],_=>true
 | p::r,j=>cond (cond (ri p t) (cond (has (kO rows i) j) true (cond (Nat.beq i j) true (has (kO rows j) i))) true) (su rows i t r (j+1)) false
def cZ (a:List Oper) (rows:List (List Nat)) (i:Nat) (o:Oper):Bool:=
 match B5 o.op with
 | some l=>cond (go l) (match o.guard with
  | none=>true
  | some (j,_)=>has (kO rows i) j) false
 | none=>false
 where
 go:List Operand->Bool
  | []=>true
  | .tmp t::r=>cond (su rows i t a 0) (go r) false
  | _::r=>go r
def gE (rows:List (List Nat)) (j:Nat) (o:Oper):List Oper->Nat->Bool
 | [],_=>false
 | p::r,i=>match o.dst with
  | none=>false
  | some d=>cond (cond (looksAt p d) (cond (has (kO rows i) j) false true) false) true (gE rows j o r (i+1))
def dN (tb:Tb) (aJ:List Nat) (a:List Oper) (rows:List (List Nat)):List (Nat×List Nat)->List Nat->Option Nat->Bool
 | [],_,_=>true
 | (i,b)::r,done,last=>match nth a i with
  | some o=>cond (cond (jK (waits o) done) (cZ a rows i o) false)
   (cond (has done i) false (cond (match last with
     | none=>true
     | some e=>has (kO rows i) e)
    (match cond (isVal tb o) true (lG aJ o),gE rows i o a 0 with
     | true,false=>dN tb aJ a rows r (i::done) last
     | true,true=>dN tb aJ a rows r (i::done) (some i)
     | false,_=>cond (watched tb a rows b i done) (dN tb aJ a rows r (i::done) (some i)) false) false)) false
  | none=>false
 where
 watched (tb:Tb) (a:List Oper) (rows:List (List Nat)) (b:List Nat) (e:Nat):List Nat->Bool
  | []=>true
  | r::l=>cond (match nth a r with
    | some o=>cond (cond (qj tb o) (isVal tb o) false) (cond (has b r) true (has (kO rows e) r)) true
    | none=>false) (watched tb a rows b e l) false
def St.clean (s:St):St:={f:=λi=>match s.f i with | some (l,[])=>some (l,[]) | _=>none,m:=s.m}
def j4 (aJ:List Nat):List Oper->List Nat
 | []=> []
 | o::r=>cond (lG aJ o) (match o.dst with
  | some d=>d::j4 aJ r
  | none=>j4 aJ r) (j4 aJ r)
def oX (l:List Nat) (x:Option (LV×aP)):Option (LV×aP):=match x with
 | some (.box k o,c)=>cond (has l k) none (some (.box k o,c))
 | some (.dv k o,c)=>cond (has l k) none (some (.dv k o,c))
 | some (.v v,c)=>some (.v v,c)
 | none=>none
def St.kh (s:St) (l:List Nat):St:=match l with
 | []=>s
 | l=>{f:=λi=>oX l (s.f i),m:=λk=>cond (has l k) none (s.m k)}
def wL :List Oper->Nat->Bool
 | [],_=>true
 | o::r,i=>match o.guard with
  | none=>wL r (i+1)
  | some (j,_)=>cond (Nat.blt j i) (wL r (i+1)) false
def yb (aJ:List Nat) (a:List Oper):Bool:=
 cond (nodup (j4 aJ a)) (cond (Ce a) true (cond (nodup (bH a)) (wL a 0) false)) false
structure J where
 LU:Bool
 i:Nat
 t:Nat
inductive iw where
 | tt
 | sq (x y:iw)
 | jn (js:List J) (mm:List Nat) (x y:iw)
 | lp (js:List J) (mm:List Nat) (x:iw)
 | bk (x:iw)
 | bj (js:List J) (mm:List Nat) (x:iw)
 | sp (k:Nat) (x y:iw)
 | gs (l:Nat) (x:iw)
 | gj (l:Nat) (js:List J) (mm:List Nat) (x y:iw)
 | rg (ord:List (Nat×List Nat))
 | r2 (pre:List (Nat×List Nat)) (i j:Nat) (x y:iw)
 | gd (l:Nat) (a x:iw)
def iw.fst :iw->iw
 | .sq x _ | .jn _ _ x _ | .gj _ _ _ x _ | .sp _ x _ | .lp _ _ x | .bk x | .bj _ _ x=>x
 | _=>.tt
def iw.snd :iw->iw
 | .sq _ y | .jn _ _ _ y | .gj _ _ _ _ y | .sp _ _ y=>y
 | _=>.tt
inductive Ex where
 | fQ
 | ret
 | ext (i:Nat)
 | jF (i:Nat)
abbrev Env :=Ex->St->Hp->Prop
def Env.fQ (E:Env) (K:St->Hp->Prop):Env
 | .fQ=>K
 | .ret=>E .ret
 | .ext i=>E (.ext i)
 | .jF i=>E (.jF i)
def Env.xL (E:Env) (id:Nat) (K:St->Hp->Prop):Env
 | .fQ=>K
 | .ret=>E .ret
 | .ext i=>cond (Nat.beq i id) K (E (.ext i))
 | .jF i=>E (.jF i)
def Env.lg (E:Env):Env
 | .fQ=>E .fQ
 | .ret=>E .ret
 | .ext i=>E (.ext i)
 | .jF _=>λ_ _=>False
def nz (tb:Tb):List J->Type
 | []=>Unit
 | [j]=>(dp tb j.t).T
 | j::a::js=>(dp tb j.t).T×nz tb (a::js)
def xt (tb:Tb) (t:Nat):Bool:=match tb.ty t with
 | some e=>nM e.bE
 | none=>false
def wN (tb:Tb) (t:Nat) (a:List Value):Option Value:=
 cond (xt tb t) (some (.agg a.toArray)) (match a with
  | [v]=>some v
  | _=>none)
def Lz (sh:Shape) (v:Value) (K:sh.T->Prop):Prop:=∃x,sh.enc x=v/\K x
def xS (tb:Tb) (t:Nat):Bool:=match tb.ty t with
 | some e=>match e.bE with
  | .interface _=>true
  | _=>false
 | none=>false
def rX (tb:Tb) (t:Nat) (v:Value) (K:(dp tb t).T->Prop):Prop:=
 cond (xS tb t) (Lz (dp tb t) v K) (match (dp tb t).dec v with
  | some x=>K x
  | none=>False)
def xu (tb:Tb) (s:St) (j:J) (K:(dp tb j.t).T->Prop):Prop:=
 cond j.LU
  (match s.m j.i with
   | some a=>match wN tb j.t a with
    | some v=>rX tb j.t v K
    | none=>False
   | none=>False)
  (match s.f j.i with
   | some (.v v,[])=>rX tb j.t v K
   | _=>False)
def mW (tb:Tb):(js:List J)->St->(nz tb js->Prop)->Prop
 | [],_,K=>K ()
 | [j],s,K=>xu tb s j K
 | j::a::js,s,K=>xu tb s j λx=>mW tb (a::js) s λy=>K (x,y)
def uO (tb:Tb) (j:J) (x:(dp tb j.t).T) (s:St):St:=
 cond j.LU (s.fU j.i (aY ((dp tb j.t).enc x))) (s.put (some j.i) (.v ((dp tb j.t).enc x)) [])
def nm (tb:Tb):(js:List J)->nz tb js->St->St
 | [],_,s=>s
 | [j],x,s=>uO tb j x s
 | j::a::js,p,s=>nm tb (a::js) p.2 (uO tb j p.1 s)
def dH :Code->List Nat
 | .region _ c _=>bH c.toList
 | .seq a b=>app (dH a) (dH b)
 | .cond _ a b=>app (dH a) (dH b)
 | .block _ a=>dH a
 | .loop a=>dH a
 | .scope a=>dH a
 | _=> []
def St.forget (s:St) (l a:List Nat):St:=
 {f:=λi=>cond (has l i) none (oX l (s.f i)),m:=λi=>cond (has a i) none (s.m i)}
inductive Md where
 | full
 | fr (l:Nat)
 | pr (l:Nat)
 | rs (l:Nat)
 | rz (l:Nat)
def kj :Code->Nat->Bool
 | .seq a b,l=>cond (kj a l) (kj b l) false
 | .label c,l=>cond (Nat.beq c l) false true
 | _,_=>true
def pB :Code->Nat->Option Code
 | .seq a b,l=>match a with
  | .label c=>cond (Nat.beq c l) (some b) none
  | _=>cond (kj a l) (pB b l) none
 | _,_=>none
def mI :Code->Nat->Option Code
 | .seq a b,l=>match a with
  | .label c=>cond (Nat.beq c l) (some b) (mI b l)
  | _=>cond (kj a l) (mI b l) none
 | _,_=>none
def Env.put (E:Env) (l:Nat) (K:St->Hp->Prop):Env
 | .fQ=>E .fQ
 | .ret=>E .ret
 | .ext i=>E (.ext i)
 | .jF i=>cond (Nat.beq i l) K (E (.jF i))
def tG (R:Nat->iw->Env->St->Hp->Prop):iw->Env->Env
 | .gd l a x,E=>tG R x (E.put l (R l a E))
 | _,E=>E
def xQ :iw->iw
 | .gd _ _ x=>xQ x
 | a=>a
def Env.Ki (E:Env) (l:Nat) (K:St->Hp->Prop):Env
 | .fQ=>K
 | .ret=>E .ret
 | .ext i=>E (.ext i)
 | .jF i=>cond (Nat.beq i l) K λ_ _=>False
def zo (k:Nat) (s:St) (h:Hp) (K:St->Hp->Prop):Prop:=
 match s.f k,s.m k with
 | some (.box d off,[]),some b=>cond (Nat.beq k d) (cond (Nat.beq off 0) (bq b (λa c=>
   K {f:=λi=>cond (Nat.beq i k) (some (.v (.pointer (some a)),[])) (s.f i),m:=λi=>cond (Nat.beq i k) none (s.m i)} c) h) False) False
 | _,_=>False
def dT :List Oper->Nat->Nat->List Oper
 | [],_,_=> []
 | o::r,0,i=>{o with after:=⟨app o.after.toList [⟨i,.data⟩]⟩}::r
 | o::r,j+1,i=>o::dT r j i
def sL (tb:Tb) (aJ:List Nat) (a:List Oper) (rows:List (List Nat)):List (Nat×List Nat)->List Nat->Option Nat->List Nat×Option Nat
 | [],done,last=>(done,last)
 | (i,_)::r,done,last=>match nth a i with
  | some o=>match cond (isVal tb o) true (lG aJ o),gE rows i o a 0 with
   | true,false=>sL tb aJ a rows r (i::done) last
   | _,_=>sL tb aJ a rows r (i::done) (some i)
  | none=>(done,last)
def sv (rows:List (List Nat)) (i:Nat) (done:List Nat):Nat->Bool
 | 0=>true
 | k+1=>cond (cond (has done k) true (cond (Nat.beq k i) true (has (kO rows k) i))) (sv rows i done k) false
def sx (b:List Oper) (c:List (List Nat)) (a:List Oper) (rows:List (List Nat)):List Nat->Bool
 | []=>true
 | k::r=>cond (match nth a k with
  | some o=>cond (gE c k o b 0) true (cond (cZ a rows k o) (cond (gE rows k o a 0) false true) false)
  | none=>false) (sx b c a rows r) false
def FG (a:List Oper) (i j:Nat) (done:List Nat) (last:Option Nat):Bool:=
 cond (Nat.beq i j) false (match nth a i,nth a j with
  | some o,some p=>cond (has done i) false (cond (has done j) false (cond (jK (waits o) done) (cond (jK (waits p) done) (cond (match last with
    | none=>true
    | some e=>cond (has done e) (sv (bh a []) e done a.length) false)
   (cond (sv (bh (dT a j i) []) i done a.length) (cond (sv (bh (dT a i j) []) j done a.length)
    (cond (sx a (bh a []) (dT a j i) (bh (dT a j i) []) done) (sx a (bh a []) (dT a i j) (bh (dT a i j) []) done) false) false) false) false) false) false))
  | _,_=>false)
def ng (tb:Tb) (aJ:List Nat):iw->List Oper->List Nat->Option Nat->Bool
 | .rg ord,ops,done,last=>cond (Nat.beq (done.length+ord.length) ops.length) (dN tb aJ ops (bh ops []) ord done last) false
 | .r2 pre i j x y,ops,done,last=>cond (dN tb aJ ops (bh ops []) pre done last) (match sL tb aJ ops (bh ops []) pre done last with
   | (d,l)=>cond (FG ops i j d l) (cond (ng tb aJ x (dT ops j i) d l) (ng tb aJ y (dT ops i j) d l) false) false) false
 | _,_,_,_=>false
def tZ (C:Ctx) (b:List Nat) (K:St->Hp->Prop):iw->List Oper->St->Hp->Prop
 | .rg e,a,s,h=>nJ C a b e s h K
 | .r2 pre i j x y,a,s,h=>nJ C a b pre s h λd c=>tZ C b K x (dT a j i) d c/\tZ C b K y (dT a i j) d c
 | _,_,_,_=>False
def liftM (C:Ctx):Code->Md->iw->List Nat->St->Env->Hp->Prop
 | .skip,.full,_,_,s,E,h=>E .fQ s h
 | .ret,.full,_,_,s,E,h=>E .ret s h
 | .exit id,.full,_,_,s,E,h=>E (.ext id) s h
 | .goto l,.full,_,_,s,E,h=>E (.jF l) s h
 | .label _,.full,_,_,s,E,h=>E .fQ s h
 | .region _ g n,.full,A,mok,s,E,h=>
  match n with
  | false=>cond (yb C.aJ g.toList) (zt C g.toList mok g.toList (s.kh (j4 C.aJ g.toList)) h λe d=>E .fQ e.clean d) False
  | true=>cond (cond (nodup (bH g.toList)) (ng C.tb C.aJ A g.toList [] none) false) (tZ C mok (λe d=>E .fQ e.clean d) A g.toList (s.kh (j4 C.aJ g.toList)) h) False
 | .seq a b,.full,A,mok,s,E,h=>
  match A with
  | .jn f mm _ _=>cond (jK mm mok) (mM (λ(R:nz C.tb f->Hp->Prop)=>liftM C a .full A.fst mm s (E.fQ λe d=>mW C.tb f e λx=>R x d) h)
    (λx d=>liftM C b .full A.snd mok (nm C.tb f x (s.forget (dH a) mm)) E d)) False
  | .sp k _ _=>cond (has mok k) (liftM C a .full A.fst mok s (E.fQ λe d=>zo k e d λs2 o=>liftM C b .full A.snd mok s2 E o) h) False
  | _=>liftM C a .full A.fst mok s (E.fQ λe d=>liftM C b .full A.snd mok e E d) h
 | .seq a b,.fr l,A,mok,s,E,h=>
  match a with
  | .label _=>E .fQ s h
  | _=>liftM C a .full A.fst mok s (E.fQ λe d=>liftM C b (.fr l) A.snd mok e E d) h
 | .seq a b,.pr l,A,mok,s,E,h=>
  match a with
  | .label _=>False
  | _=>match A with
   | .gj _ f mm x _=>cond (jK mm mok) (liftM C a .full .tt mok s (E.lg.fQ λe d=>
     mM (λ(R:nz C.tb f->Hp->Prop)=>liftM C b (.fr l) x mm e (E.Ki l λe d=>mW C.tb f e λx=>R x d) d)
      (λx d=>liftM C b (.rs l) A.snd mok (nm C.tb f x (e.forget (dH b) mm)) E.lg d)) h) False
   | _=>liftM C a .full A.fst mok s (E.lg.fQ λe d=>liftM C b (.pr l) A.snd mok e E d) h
 | .seq a b,.rs l,A,mok,s,E,h=>
  match a with
  | .label _=>liftM C b .full A mok s E h
  | _=>liftM C b (.rs l) A mok s E h
 | .seq a b,.rz l,A,mok,s,E,h=>
  match a with
  | .label p=>cond (Nat.beq p l) (liftM C b .full A mok s E h) (liftM C b (.rz l) A mok s E h)
  | _=>liftM C b (.rz l) A mok s E h
 | .cond c a b,.full,A,mok,s,E,h=>gW (ev s [] c) λv=>match v with
  | .bool t=>if t=true then liftM C a .full A.fst mok s E h else liftM C b .full A.snd mok s E h
  | _=>False
 | .scope a,.full,A,mok,s,E,h=>
  match A with
  | .gs l x=>match pB a l with
   | some _=>liftM C a (.pr l) x mok s E h
   | none=>False
  | .gd j a0 i=>liftM C a .full (xQ (.gd j a0 i)) mok s (tG (λl m E s h=>match mI a l with
   | some _=>liftM C a (.rz l) m mok s E h
   | none=>False) (.gd j a0 i) E.lg) h
  | _=>liftM C a .full A mok s E.lg h
 | .block id a,.full,A,mok,s,E,h=>
  match A with
  | .bj f mm _=>cond (jK mm mok) (mM (λ(R:nz C.tb f->Hp->Prop)=>liftM C a .full A.fst mm s (E.xL id λe d=>mW C.tb f e λx=>R x d) h)
    (λx d=>E .fQ (nm C.tb f x (s.forget (dH a) mm)) d)) False
  | _=>liftM C a .full A.fst mok s (E.xL id (E .fQ)) h
 | .loop a,.full,A,mok,s,E,h=>
  match A with
  | .lp f mm _=>cond (jK mm mok) (mW C.tb f s λi=>q5 (λ(R:nz C.tb f->Hp->Prop) x h=>liftM C a .full A.fst mm (nm C.tb f x (s.forget (dH a) mm))
    (E.fQ λe d=>mW C.tb f e λx=>R x d) h) i h) False
  | _=>False
 | _,_,_,_,_,_,_=>False
def mz (C:Ctx) (s:St) (r:ResultVar) (t:Nat) (K:(dp C.tb t).T->Prop):Prop:=
 match r with
 | .tmp i=>match s.f i with
  | some (.v v,[])=>rX C.tb t v K
  | _=>False
 | .cell i b=>cond (Nat.beq b t) (match s.f i,C.tb.ty t with
  | some (.box k 0,[]),some _=>match s.m k with
   | some a=>match wN C.tb t a with
    | some v=>rX C.tb t v K
    | none=>False
   | none=>False
  | _,_=>False) False
def bm (tb:Tb):List Nat->Shape
 | []=>rQ
 | [a]=>dp tb a
 | [a,b]=>my (dp tb a) (dp tb b)
 | [a,b,c]=>vw (dp tb a) (dp tb b) (dp tb c)
 | [a,b,c,d]=>xm (dp tb a) (dp tb b) (dp tb c) (dp tb d)
 | [a,b,c,d,e]=>xn (dp tb a) (dp tb b) (dp tb c) (dp tb d) (dp tb e)
 | [a,b,c,d,e,f,g]=>Pr (dp tb a) (dp tb b) (dp tb c) (dp tb d) (dp tb e) (dp tb f) (dp tb g)
 | _=>rQ
def se (C:Ctx) (s:St) (h:Hp):(rs:List ResultVar)->(u:List Nat)->((bm C.tb u).T->Hp->Prop)->Prop
 | [],[],K=>K () h
 | [r],[t],K=>mz C s r t λx=>K x h
 | [a,r2],[t1,t2],K=>mz C s a t1 λb=>mz C s r2 t2 λc=>K (b,c) h
 | [a,r2,d],[t1,t2,e],K=>mz C s a t1 λb=>mz C s r2 t2 λc=>mz C s d e λf=>K (b,c,f) h
 | [a,r2,d,g],[t1,t2,e,i],K=>mz C s a t1 λb=>mz C s r2 t2 λc=>mz C s d e λf=>mz C s g i λj=>K (b,c,f,j) h
 | [a,r2,d,g,k],[t1,t2,e,i,l],K=>mz C s a t1 λb=>mz C s r2 t2 λc=>mz C s d e λf=>mz C s g i λj=>
   mz C s k l λm=>K (b,c,f,j,m) h
 | [a,r2,d,g,k,n,o],[t1,t2,e,i,l,p,q],K=>mz C s a t1 λb=>mz C s r2 t2 λc=>mz C s d e λf=>mz C s g i λj=>
   mz C s k l λm=>mz C s n p λv=>mz C s o q λw=>K (b,c,f,j,m,v,w) h
 | _,_,_=>False
def re (args:List Value) (i:Nat):Option (LV×aP):=match nth args i with
 | some v=>some (.v v,[])
 | none=>none
def uP (f:Func):Code:=match f.body with
 | some c=>c
 | none=>.refuse ""
def ra (n:Nat):List Nat->Bool
 | []=>true
 | i::r=>cond (Nat.blt i n) (ra n r) false
def yZ (C:Ctx) (f:Func) (A:iw) (args:List Value) (K:(bm C.tb f.resultTypes.toList).T->Hp->Prop) (h:Hp):Prop:=
 cond (cond (Nat.ble args.length f.ntmps) (ra f.ntmps (dH (uP f))) false)
  (liftM C (uP f) .full A C.aJ {f:=re args,m:=λ_=>none} (λe s h=>match e with
   | .fQ | .ret=>se C s h f.results.toList f.resultTypes.toList K
   | _=>False) h) False
structure aw where
 aN:Sl
 Table:Sl
 Fuel:Int
 gQ:Int
 bG:Int
 Log:Int
 aM:Sl
abbrev aw.v (x:aw):Value:=.agg #[.slice x.aN.base x.aN.len x.aN.cap,.slice x.Table.base x.Table.len x.Table.cap,.int .i64 x.Fuel,.int .i64 x.gQ,.int .i64 x.bG,.int .i64 x.Log,.slice x.aM.base x.aM.len x.aM.cap]
@[reducible] def aB : Shape where
 T:=aw
 enc:=aw.v
 dec:=λv=>match v with
  | .agg ⟨[.slice a0 a d,.slice a1 b e,.int .i64 a2,.int .i64 a3,.int .i64 a4,.int .i64 a5,.slice a6 c f]⟩=>some ⟨⟨a0,a,d⟩,⟨a1,b,e⟩,a2,a3,a4,a5,⟨a6,c,f⟩⟩
  | _=>none
 ok:=by intro v x h;split at h<;>cases h;rfl
structure di where
 mK:Sl
 oy:Sl
 yA:Int
 yB:Int
 vB:Int
 CY:Int
 ov:Sl
 mL:Sl
 oJ:Sl
 yC:Int
 yD:Int
 vC:Int
 C0:Int
 oH:Sl
 S:Sl
 T:Sl
 Label:Int
abbrev di.v (x:di):Value:=.agg #[.slice x.mK.base x.mK.len x.mK.cap,.slice x.oy.base x.oy.len x.oy.cap,.int .i64 x.yA,.int .i64 x.yB,.int .i64 x.vB,.int .i64 x.CY,.slice x.ov.base x.ov.len x.ov.cap,.slice x.mL.base x.mL.len x.mL.cap,.slice x.oJ.base x.oJ.len x.oJ.cap,.int .i64 x.yC,.int .i64 x.yD,.int .i64 x.vC,.int .i64 x.C0,.slice x.oH.base x.oH.len x.oH.cap,.slice x.S.base x.S.len x.S.cap,.slice x.T.base x.T.len x.T.cap,.int .u64 x.Label]
@[reducible] def Zg : Shape where
 T:=di
 enc:=di.v
 dec:=λv=>match v with
  | .agg ⟨[.slice a0 k s,.slice a1 l t,.int .i64 a2,.int .i64 a3,.int .i64 a4,.int .i64 a5,.slice a6 p z,.slice a7 q A,.slice i r B,.int .i64 j,.int .i64 a,.int .i64 b,.int .i64 c,.slice d m u,.slice e n w,.slice f o y,.int .u64 g]⟩=>some ⟨⟨a0,k,s⟩,⟨a1,l,t⟩,a2,a3,a4,a5,⟨a6,p,z⟩,⟨a7,q,A⟩,⟨i,r,B⟩,j,a,b,c,⟨d,m,u⟩,⟨e,n,w⟩,⟨f,o,y⟩,g⟩
  | _=>none
 ok:=by intro v x h;split at h<;>cases h;rfl
structure eM where
 Kind:Int
 N:Int
 V:Int
abbrev eM.v (x:eM):Value:=.agg #[.int .i64 x.Kind,.int .i64 x.N,.int .i64 x.V]
@[reducible] def fE : Shape where
 T:=eM
 enc:=eM.v
 dec:=λv=>match v with
  | .agg ⟨[.int .i64 a0,.int .i64 a1,.int .i64 a2]⟩=>some ⟨a0,a1,a2⟩
  | _=>none
 ok:=by intro v x h;split at h<;>cases h;rfl
structure gR where
 E:Int
 jx:Int
 C6:Int
abbrev gR.v (x:gR):Value:=.agg #[.int .i64 x.E,.int .i64 x.jx,.int .i64 x.C6]
@[reducible] def QJ : Shape where
 T:=gR
 enc:=gR.v
 dec:=λv=>match v with
  | .agg ⟨[.int .i64 a0,.int .i64 a1,.int .i64 a2]⟩=>some ⟨a0,a1,a2⟩
  | _=>none
 ok:=by intro v x h;split at h<;>cases h;rfl
structure aU where
 jx:Int
 eg:Sl
 aM:Sl
abbrev aU.v (x:aU):Value:=.agg #[.int .i64 x.jx,.slice x.eg.base x.eg.len x.eg.cap,.slice x.aM.base x.aM.len x.aM.cap]
@[reducible] def AS : Shape where
 T:=aU
 enc:=aU.v
 dec:=λv=>match v with
  | .agg ⟨[.int .i64 a0,.slice a1 a c,.slice a2 b d]⟩=>some ⟨a0,⟨a1,a,c⟩,⟨a2,b,d⟩⟩
  | _=>none
 ok:=by intro v x h;split at h<;>cases h;rfl
structure bR where
 Part:Int
 A:Int
 F:Int
 yG:Int
abbrev bR.v (x:bR):Value:=.agg #[.int .i64 x.Part,.int .i64 x.A,.int .i64 x.F,.int .i64 x.yG]
@[reducible] def cP : Shape where
 T:=bR
 enc:=bR.v
 dec:=λv=>match v with
  | .agg ⟨[.int .i64 a0,.int .i64 a1,.int .i64 a2,.int .i64 a3]⟩=>some ⟨a0,a1,a2,a3⟩
  | _=>none
 ok:=by intro v x h;split at h<;>cases h;rfl
structure bd where
 Part:Int
 Code:Sl
abbrev bd.v (x:bd):Value:=.agg #[.int .i64 x.Part,.slice x.Code.base x.Code.len x.Code.cap]
@[reducible] def bJ : Shape where
 T:=bd
 enc:=bd.v
 dec:=λv=>match v with
  | .agg ⟨[.int .i64 a0,.slice a1 a b]⟩=>some ⟨a0,⟨a1,a,b⟩⟩
  | _=>none
 ok:=by intro v x h;split at h<;>cases h;rfl
structure bc where
 Op:Int
 A:Int
 B:Int
 C:Int
 ju:Int
abbrev bc.v (x:bc):Value:=.agg #[.int .i64 x.Op,.int .i64 x.A,.int .i64 x.B,.int .i64 x.C,.int .i64 x.ju]
@[reducible] def be : Shape where
 T:=bc
 enc:=bc.v
 dec:=λv=>match v with
  | .agg ⟨[.int .i64 a0,.int .i64 a1,.int .i64 a2,.int .i64 a3,.int .i64 a4]⟩=>some ⟨a0,a1,a2,a3,a4⟩
  | _=>none
 ok:=by intro v x h;split at h<;>cases h;rfl
structure jY where
 m:Option Addr
 DQ:Int
 owner:Int
abbrev jY.v (x:jY):Value:=.agg #[.pointer x.m,.int .i64 x.DQ,.int .i64 x.owner]
@[reducible] def Tt : Shape where
 T:=jY
 enc:=jY.v
 dec:=λv=>match v with
  | .agg ⟨[.pointer a0,.int .i64 a1,.int .i64 a2]⟩=>some ⟨a0,a1,a2⟩
  | _=>none
 ok:=by intro v x h;split at h<;>cases h;rfl
structure cK where
 Cursor:Int
 Log:Sl
 qC:Int
 gl:Int
 fc:Sl
 iy:Sl
abbrev cK.v (x:cK):Value:=.agg #[.int .i64 x.Cursor,.slice x.Log.base x.Log.len x.Log.cap,.int .i64 x.qC,.int .i64 x.gl,.slice x.fc.base x.fc.len x.fc.cap,.slice x.iy.base x.iy.len x.iy.cap]
@[reducible] def dJ : Shape where
 T:=cK
 enc:=cK.v
 dec:=λv=>match v with
  | .agg ⟨[.int .i64 a0,.slice a1 a d,.int .i64 a2,.int .i64 a3,.slice a4 b e,.slice a5 c f]⟩=>some ⟨a0,⟨a1,a,d⟩,a2,a3,⟨a4,b,e⟩,⟨a5,c,f⟩⟩
  | _=>none
 ok:=by intro v x h;split at h<;>cases h;rfl
structure gm where
 a0:Int
 a1:Int
 a2:Int
 a3:Int
 a4:Int
 a5:Int
 a6:Int
 a7:Int
abbrev gm.v (x:gm):Value:=.agg #[.int .i64 x.a0,.int .i64 x.a1,.int .i64 x.a2,.int .i64 x.a3,.int .i64 x.a4,.int .i64 x.a5,.int .i64 x.a6,.int .i64 x.a7]
@[reducible] def vo : Shape where
 T:=gm
 enc:=gm.v
 dec:=λv=>match v with
  | .agg ⟨[.int .i64 a0,.int .i64 a1,.int .i64 a2,.int .i64 a3,.int .i64 a4,.int .i64 a5,.int .i64 a6,.int .i64 a7]⟩=>some ⟨a0,a1,a2,a3,a4,a5,a6,a7⟩
  | _=>none
 ok:=by intro v x h;split at h<;>cases h;rfl
structure bB where
 State:Int
 PC:Int
 cC:Int
 cD:Int
 cE:Int
 cF:Int
 cG:Int
 cH:Int
 cI:Int
 cJ:Int
 Cursor:Int
 Timer:Int
 lR:Bool
 qH:Int
 iI:Sl
abbrev bB.v (x:bB):Value:=.agg #[.int .i64 x.State,.int .i64 x.PC,.int .i64 x.cC,.int .i64 x.cD,.int .i64 x.cE,.int .i64 x.cF,.int .i64 x.cG,.int .i64 x.cH,.int .i64 x.cI,.int .i64 x.cJ,.int .i64 x.Cursor,.int .i64 x.Timer,.bool x.lR,.int .i64 x.qH,.slice x.iI.base x.iI.len x.iI.cap]
@[reducible] def bY : Shape where
 T:=bB
 enc:=bB.v
 dec:=λv=>match v with
  | .agg ⟨[.int .i64 a0,.int .i64 a1,.int .i64 a2,.int .i64 a3,.int .i64 a4,.int .i64 a5,.int .i64 a6,.int .i64 a7,.int .i64 f,.int .i64 g,.int .i64 a,.int .i64 b,.bool c,.int .i64 d,.slice e i j]⟩=>some ⟨a0,a1,a2,a3,a4,a5,a6,a7,f,g,a,b,c,d,⟨e,i,j⟩⟩
  | _=>none
 ok:=by intro v x h;split at h<;>cases h;rfl
structure aC where
 cX:Int
 gQ:Int
 Place:Int
 In:Int
 Out:Int
abbrev aC.v (x:aC):Value:=.agg #[.int .i64 x.cX,.int .i64 x.gQ,.int .i64 x.Place,.int .i64 x.In,.int .i64 x.Out]
@[reducible] def dV : Shape where
 T:=aC
 enc:=aC.v
 dec:=λv=>match v with
  | .agg ⟨[.int .i64 a0,.int .i64 a1,.int .i64 a2,.int .i64 a3,.int .i64 a4]⟩=>some ⟨a0,a1,a2,a3,a4⟩
  | _=>none
 ok:=by intro v x h;split at h<;>cases h;rfl
structure bZ where
 many:Int
 n9:Int
 fuel:Int
abbrev bZ.v (x:bZ):Value:=.agg #[.int .i64 x.many,.int .i64 x.n9,.int .i64 x.fuel]
@[reducible] def Cy : Shape where
 T:=bZ
 enc:=bZ.v
 dec:=λv=>match v with
  | .agg ⟨[.int .i64 a0,.int .i64 a1,.int .i64 a2]⟩=>some ⟨a0,a1,a2⟩
  | _=>none
 ok:=by intro v x h;split at h<;>cases h;rfl
structure jX where
 a0:Bool
 a1:Bool
 a2:Bool
 a3:Bool
abbrev jX.v (x:jX):Value:=.agg #[.bool x.a0,.bool x.a1,.bool x.a2,.bool x.a3]
@[reducible] def Tv : Shape where
 T:=jX
 enc:=jX.v
 dec:=λv=>match v with
  | .agg ⟨[.bool a0,.bool a1,.bool a2,.bool a3]⟩=>some ⟨a0,a1,a2,a3⟩
  | _=>none
 ok:=by intro v x h;split at h<;>cases h;rfl
structure gv where
 b:Sl
 at_:Int
 e:Int
 place:Int
abbrev gv.v (x:gv):Value:=.agg #[.slice x.b.base x.b.len x.b.cap,.int .i64 x.at_,.int .i64 x.e,.int .i64 x.place]
@[reducible] def P5 : Shape where
 T:=gv
 enc:=gv.v
 dec:=λv=>match v with
  | .agg ⟨[.slice a0 a b,.int .i64 a1,.int .i64 a2,.int .i64 a3]⟩=>some ⟨⟨a0,a,b⟩,a1,a2,a3⟩
  | _=>none
 ok:=by intro v x h;split at h<;>cases h;rfl
structure eK where
 jx:Int
 cX:Int
 eN:Int
abbrev eK.v (x:eK):Value:=.agg #[.int .i64 x.jx,.int .i64 x.cX,.int .i64 x.eN]
@[reducible] def fN : Shape where
 T:=eK
 enc:=eK.v
 dec:=λv=>match v with
  | .agg ⟨[.int .i64 a0,.int .i64 a1,.int .i64 a2]⟩=>some ⟨a0,a1,a2⟩
  | _=>none
 ok:=by intro v x h;split at h<;>cases h;rfl
structure bM where
 dD:Sl
 dR:Sl
 cO:Int
 iY:Int
abbrev bM.v (x:bM):Value:=.agg #[.slice x.dD.base x.dD.len x.dD.cap,.slice x.dR.base x.dR.len x.dR.cap,.int .i64 x.cO,.int .i64 x.iY]
@[reducible] def bS : Shape where
 T:=bM
 enc:=bM.v
 dec:=λv=>match v with
  | .agg ⟨[.slice a0 a c,.slice a1 b d,.int .i64 a2,.int .i64 a3]⟩=>some ⟨⟨a0,a,c⟩,⟨a1,b,d⟩,a2,a3⟩
  | _=>none
 ok:=by intro v x h;split at h<;>cases h;rfl
structure aL where
 fK:Sl
 gT:Sl
 kF:Int
 mR:Int
 kU:Int
 mS:Int
 eZ:Sl
 table:Option Addr
 oh:Option Addr
 tick:Int
 parts:Sl
 procs:Sl
abbrev aL.v (x:aL):Value:=.agg #[.slice x.fK.base x.fK.len x.fK.cap,.slice x.gT.base x.gT.len x.gT.cap,.int .i64 x.kF,.int .i64 x.mR,.int .i64 x.kU,.int .i64 x.mS,.slice x.eZ.base x.eZ.len x.eZ.cap,.pointer x.table,.pointer x.oh,.int .i64 x.tick,.slice x.parts.base x.parts.len x.parts.cap,.slice x.procs.base x.procs.len x.procs.cap]
@[reducible] def Gh : Shape where
 T:=aL
 enc:=aL.v
 dec:=λv=>match v with
  | .agg ⟨[.slice a0 e k,.slice a1 f l,.int .i64 a2,.int .i64 a3,.int .i64 a4,.int .i64 a5,.slice a6 j o,.pointer a7,.pointer c,.int .i64 d,.slice a g m,.slice b i n]⟩=>some ⟨⟨a0,e,k⟩,⟨a1,f,l⟩,a2,a3,a4,a5,⟨a6,j,o⟩,a7,c,d,⟨a,g,m⟩,⟨b,i,n⟩⟩
  | _=>none
 ok:=by intro v x h;split at h<;>cases h;rfl
structure aV where
 procs:Sl
 af:Int
 log:Sl
 lost:Int
 forbidden:Int
 ai:Option Addr
 dz:Option Addr
abbrev aV.v (x:aV):Value:=.agg #[.slice x.procs.base x.procs.len x.procs.cap,.int .i64 x.af,.slice x.log.base x.log.len x.log.cap,.int .i64 x.lost,.int .i64 x.forbidden,.pointer x.ai,.pointer x.dz]
@[reducible] def vk : Shape where
 T:=aV
 enc:=aV.v
 dec:=λv=>match v with
  | .agg ⟨[.slice a0 a c,.int .i64 a1,.slice a2 b d,.int .i64 a3,.int .i64 a4,.pointer a5,.pointer a6]⟩=>some ⟨⟨a0,a,c⟩,a1,⟨a2,b,d⟩,a3,a4,a5,a6⟩
  | _=>none
 ok:=by intro v x h;split at h<;>cases h;rfl
structure aR where
 PC:Int
 cC:Int
 cD:Int
 cE:Int
 cF:Int
 cG:Int
 cH:Int
 cI:Int
 cJ:Int
abbrev aR.v (x:aR):Value:=.agg #[.int .i64 x.PC,.int .i64 x.cC,.int .i64 x.cD,.int .i64 x.cE,.int .i64 x.cF,.int .i64 x.cG,.int .i64 x.cH,.int .i64 x.cI,.int .i64 x.cJ]
@[reducible] def eo : Shape where
 T:=aR
 enc:=aR.v
 dec:=λv=>match v with
  | .agg ⟨[.int .i64 a0,.int .i64 a1,.int .i64 a2,.int .i64 a3,.int .i64 a4,.int .i64 a5,.int .i64 a6,.int .i64 a7,.int .i64 a]⟩=>some ⟨a0,a1,a2,a3,a4,a5,a6,a7,a⟩
  | _=>none
 ok:=by intro v x h;split at h<;>cases h;rfl
structure aF where
 df:Int
 part:Int
 code:Sl
 state:Int
 jb:Int
 fu:Int
 fw:Int
 fy:Int
 fz:Int
 fA:Int
 fB:Int
 fC:Int
 fD:Int
 bN:Bool
 post:Option Addr
abbrev aF.v (x:aF):Value:=.agg #[.int .i64 x.df,.int .i64 x.part,.slice x.code.base x.code.len x.code.cap,.int .i64 x.state,.int .i64 x.jb,.int .i64 x.fu,.int .i64 x.fw,.int .i64 x.fy,.int .i64 x.fz,.int .i64 x.fA,.int .i64 x.fB,.int .i64 x.fC,.int .i64 x.fD,.bool x.bN,.pointer x.post]
@[reducible] def aX : Shape where
 T:=aF
 enc:=aF.v
 dec:=λv=>match v with
  | .agg ⟨[.int .i64 a0,.int .i64 a1,.slice a2 i j,.int .i64 a3,.int .i64 a4,.int .i64 a5,.int .i64 a6,.int .i64 a7,.int .i64 f,.int .i64 g,.int .i64 a,.int .i64 b,.int .i64 c,.bool d,.pointer e]⟩=>some ⟨a0,a1,⟨a2,i,j⟩,a3,a4,a5,a6,a7,f,g,a,b,c,d,e⟩
  | _=>none
 ok:=by intro v x h;split at h<;>cases h;rfl
structure cw where
 fK:Sl
 gT:Sl
 kF:Int
 mR:Int
 kU:Int
 mS:Int
 eZ:Sl
 m:Option Addr
 time:Int
 messages:Sl
 gone:Sl
 pa:Sl
 ah:Option Nat
 waits:Option Nat
abbrev cw.v (x:cw):Value:=.agg #[.slice x.fK.base x.fK.len x.fK.cap,.slice x.gT.base x.gT.len x.gT.cap,.int .i64 x.kF,.int .i64 x.mR,.int .i64 x.kU,.int .i64 x.mS,.slice x.eZ.base x.eZ.len x.eZ.cap,.pointer x.m,.int .i64 x.time,.slice x.messages.base x.messages.len x.messages.cap,.slice x.gone.base x.gone.len x.gone.cap,.slice x.pa.base x.pa.len x.pa.cap,.map x.ah,.map x.waits]
@[reducible] def Tc : Shape where
 T:=cw
 enc:=cw.v
 dec:=λv=>match v with
  | .agg ⟨[.slice a0 g n,.slice a1 i o,.int .i64 a2,.int .i64 a3,.int .i64 a4,.int .i64 a5,.slice a6 l r,.pointer a7,.int .i64 e,.slice f m s,.slice a j p,.slice b k q,.map c,.map d]⟩=>some ⟨⟨a0,g,n⟩,⟨a1,i,o⟩,a2,a3,a4,a5,⟨a6,l,r⟩,a7,e,⟨f,m,s⟩,⟨a,j,p⟩,⟨b,k,q⟩,c,d⟩
  | _=>none
 ok:=by intro v x h;split at h<;>cases h;rfl
structure bt where
 cX:Int
 eN:Int
abbrev bt.v (x:bt):Value:=.agg #[.int .i64 x.cX,.int .i64 x.eN]
@[reducible] def aE : Shape where
 T:=bt
 enc:=bt.v
 dec:=λv=>match v with
  | .agg ⟨[.int .i64 a0,.int .i64 a1]⟩=>some ⟨a0,a1⟩
  | _=>none
 ok:=by intro v x h;split at h<;>cases h;rfl
structure fg where
 l:Sl
abbrev fg.v (x:fg):Value:=.agg #[.slice x.l.base x.l.len x.l.cap]
@[reducible] def Cz : Shape where
 T:=fg
 enc:=fg.v
 dec:=λv=>match v with
  | .agg ⟨[.slice a0 a b]⟩=>some ⟨⟨a0,a,b⟩⟩
  | _=>none
 ok:=by intro v x h;split at h<;>cases h;rfl
structure aD where
 owner:Int
 queue:Sl
abbrev aD.v (x:aD):Value:=.agg #[.int .i64 x.owner,.slice x.queue.base x.queue.len x.queue.cap]
@[reducible] def eD : Shape where
 T:=aD
 enc:=aD.v
 dec:=λv=>match v with
  | .agg ⟨[.int .i64 a0,.slice a1 a b]⟩=>some ⟨a0,⟨a1,a,b⟩⟩
  | _=>none
 ok:=by intro v x h;split at h<;>cases h;rfl
structure cL where
 ah:Sl
 af:Int
abbrev cL.v (x:cL):Value:=.agg #[.slice x.ah.base x.ah.len x.ah.cap,.int .i64 x.af]
@[reducible] def KZ : Shape where
 T:=cL
 enc:=cL.v
 dec:=λv=>match v with
  | .agg ⟨[.slice a0 a b,.int .i64 a1]⟩=>some ⟨⟨a0,a,b⟩,a1⟩
  | _=>none
 ok:=by intro v x h;split at h<;>cases h;rfl
structure av where
 due:Int
 df:Int
abbrev av.v (x:av):Value:=.agg #[.int .i64 x.due,.int .i64 x.df]
@[reducible] def aO : Shape where
 T:=av
 enc:=av.v
 dec:=λv=>match v with
  | .agg ⟨[.int .i64 a0,.int .i64 a1]⟩=>some ⟨a0,a1⟩
  | _=>none
 ok:=by intro v x h;split at h<;>cases h;rfl
structure gz where
 l:Sl
 YA:Option Nat
abbrev gz.v (x:gz):Value:=.agg #[.slice x.l.base x.l.len x.l.cap,.map x.YA]
@[reducible] def P7 : Shape where
 T:=gz
 enc:=gz.v
 dec:=λv=>match v with
  | .agg ⟨[.slice a0 a b,.map a1]⟩=>some ⟨⟨a0,a,b⟩,a1⟩
  | _=>none
 ok:=by intro v x h;split at h<;>cases h;rfl
structure dF where
 proc:Int
 lane:Int
abbrev dF.v (x:dF):Value:=.agg #[.int .i64 x.proc,.int .i64 x.lane]
@[reducible] def Tm : Shape where
 T:=dF
 enc:=dF.v
 dec:=λv=>match v with
  | .agg ⟨[.int .i64 a0,.int .i64 a1]⟩=>some ⟨a0,a1⟩
  | _=>none
 ok:=by intro v x h;split at h<;>cases h;rfl
structure fJ where
 lock:Int
 tH:Int
abbrev fJ.v (x:fJ):Value:=.agg #[.int .i64 x.lock,.int .i64 x.tH]
@[reducible] def eC : Shape where
 T:=fJ
 enc:=fJ.v
 dec:=λv=>match v with
  | .agg ⟨[.int .i64 a0,.int .i64 a1]⟩=>some ⟨a0,a1⟩
  | _=>none
 ok:=by intro v x h;split at h<;>cases h;rfl
structure gw where
 cX:Int
 vF:Int
 CZ:Int
 Yw:Int
abbrev gw.v (x:gw):Value:=.agg #[.int .i64 x.cX,.int .i64 x.vF,.int .i64 x.CZ,.int .i64 x.Yw]
@[reducible] def P9 : Shape where
 T:=gw
 enc:=gw.v
 dec:=λv=>match v with
  | .agg ⟨[.int .i64 a0,.int .i64 a1,.int .i64 a2,.int .i64 a3]⟩=>some ⟨a0,a1,a2,a3⟩
  | _=>none
 ok:=by intro v x h;split at h<;>cases h;rfl
structure gx where
 table:Sl
 parts:Int
abbrev gx.v (x:gx):Value:=.agg #[.slice x.table.base x.table.len x.table.cap,.int .i64 x.parts]
@[reducible] def Qb : Shape where
 T:=gx
 enc:=gx.v
 dec:=λv=>match v with
  | .agg ⟨[.slice a0 a b,.int .i64 a1]⟩=>some ⟨⟨a0,a,b⟩,a1⟩
  | _=>none
 ok:=by intro v x h;split at h<;>cases h;rfl
structure dh where
 T:Sl
abbrev dh.v (x:dh):Value:=.agg #[.slice x.T.base x.T.len x.T.cap]
@[reducible] def Zh : Shape where
 T:=dh
 enc:=dh.v
 dec:=λv=>match v with
  | .agg ⟨[.slice a0 a b]⟩=>some ⟨⟨a0,a,b⟩⟩
  | _=>none
 ok:=by intro v x h;split at h<;>cases h;rfl
structure gy where
 labels:Sl
 Yx:Option Nat
abbrev gy.v (x:gy):Value:=.agg #[.slice x.labels.base x.labels.len x.labels.cap,.map x.Yx]
@[reducible] def Qc : Shape where
 T:=gy
 enc:=gy.v
 dec:=λv=>match v with
  | .agg ⟨[.slice a0 a b,.map a1]⟩=>some ⟨⟨a0,a,b⟩,a1⟩
  | _=>none
 ok:=by intro v x h;split at h<;>cases h;rfl
structure cU where
 room:Int
 values:Sl
 waiters:Sl
 taken:Int
 dropped:Int
abbrev cU.v (x:cU):Value:=.agg #[.int .i64 x.room,.slice x.values.base x.values.len x.values.cap,.slice x.waiters.base x.waiters.len x.waiters.cap,.int .i64 x.taken,.int .i64 x.dropped]
@[reducible] def AT : Shape where
 T:=cU
 enc:=cU.v
 dec:=λv=>match v with
  | .agg ⟨[.int .i64 a0,.slice a1 a c,.slice a2 b d,.int .i64 a3,.int .i64 a4]⟩=>some ⟨a0,⟨a1,a,c⟩,⟨a2,b,d⟩,a3,a4⟩
  | _=>none
 ok:=by intro v x h;split at h<;>cases h;rfl
structure br where
 taken:Int
 many:Int
 open_:Sl
abbrev br.v (x:br):Value:=.agg #[.int .i64 x.taken,.int .i64 x.many,.slice x.open_.base x.open_.len x.open_.cap]
@[reducible] def dk : Shape where
 T:=br
 enc:=br.v
 dec:=λv=>match v with
  | .agg ⟨[.int .i64 a0,.int .i64 a1,.slice a2 a b]⟩=>some ⟨a0,a1,⟨a2,a,b⟩⟩
  | _=>none
 ok:=by intro v x h;split at h<;>cases h;rfl
structure dL where
 Kind:Int
 To:Int
 eN:Int
abbrev dL.v (x:dL):Value:=.agg #[.int .i64 x.Kind,.int .i64 x.To,.int .i64 x.eN]
@[reducible] def Ba : Shape where
 T:=dL
 enc:=dL.v
 dec:=λv=>match v with
  | .agg ⟨[.int .i64 a0,.int .i64 a1,.int .i64 a2]⟩=>some ⟨a0,a1,a2⟩
  | _=>none
 ok:=by intro v x h;split at h<;>cases h;rfl
structure bU where
 vF:Int
 cX:Int
abbrev bU.v (x:bU):Value:=.agg #[.int .i64 x.vF,.int .i64 x.cX]
@[reducible] def KU : Shape where
 T:=bU
 enc:=bU.v
 dec:=λv=>match v with
  | .agg ⟨[.int .i64 a0,.int .i64 a1]⟩=>some ⟨a0,a1⟩
  | _=>none
 ok:=by intro v x h;split at h<;>cases h;rfl
structure cY where
 has:Bool
 n:Int
abbrev cY.v (x:cY):Value:=.agg #[.bool x.has,.int .i64 x.n]
@[reducible] def Zd : Shape where
 T:=cY
 enc:=cY.v
 dec:=λv=>match v with
  | .agg ⟨[.bool a0,.int .i64 a1]⟩=>some ⟨a0,a1⟩
  | _=>none
 ok:=by intro v x h;split at h<;>cases h;rfl
end Lf
namespace Lf
open Go Go.Proofs Tryz
def cd (d i:TypeInfo) (sh:Shape):Ty:={bE:=d.desc,size:=i.size,bytes:=i.bytes,zero:=i.zero.getD (.tuple #[]),sh:=sh}
noncomputable section
def YH :Ty:=cd t0 t0 rQ
def vf :Ty:=cd t2 t2 (ae .i64)
def wh :Ty:=cd t3 t3 (ae .i64)
def YI :Ty:=cd t4 t4 bu
def YJ :Ty:=cd t5 t5 (ae .u8)
def YK :Ty:=cd t9 t9 og
def L8 :Ty:=cd t20 t20 BW
def wg :Ty:=cd t22 t22 al
def qT :Ty:=cd t23 t23 al
def zy :Ty:=cd t24 t24 al
def EU :Ty:=cd t25 t26 aB
def L9 :Ty:=cd t27 t27 al
def E1 :Ty:=cd t28 t28 (ae .u64)
def Ma :Ty:=cd t29 t30 Zg
def Mb :Ty:=cd t32 t32 al
def Mc :Ty:=cd t3 t33 (ae .i64)
def Me :Ty:=cd t34 t34 (my al (ae .i64))
def Mf :Ty:=cd t36 t36 aj
def Mg :Ty:=cd t37 t37 (vw aj (ae .i64) (ae .i64))
def Mh :Ty:=cd t39 t40 fE
def Mi :Ty:=cd t41 t42 QJ
def Mj :Ty:=cd t45 t45 al
def Mk :Ty:=cd t46 t46 al
def Ml :Ty:=cd t47 t48 AS
def zz :Ty:=cd t51 t51 al
def Fl :Ty:=cd t54 t55 cP
def Mm :Ty:=cd t58 t58 (my (ae .i64) (ae .i64))
def zA :Ty:=cd t62 t62 al
def Fm :Ty:=cd t63 t64 bJ
def Fo :Ty:=cd t69 t70 be
def Mn :Ty:=cd t71 t71 (vw aB (ae .i64) (ae .i64))
def Mo :Ty:=cd t73 t73 aj
def Mp :Ty:=cd t74 t74 (my aj (ae .i64))
def Mq :Ty:=cd t76 t77 Tt
def Mr :Ty:=cd t78 t78 BW
def Ms :Ty:=cd t79 t79 (my BW bu)
def Mt :Ty:=cd t80 t80 dI
def zB :Ty:=cd t83 t83 al
def Mu :Ty:=cd t84 t84 al
def Mw :Ty:=cd t85 t86 dJ
def Mx :Ty:=cd t88 t88 vo
def My :Ty:=cd t89 t89 al
def Mz :Ty:=cd t90 t91 bY
def MA :Ty:=cd t93 t93 al
def MB :Ty:=cd t94 t94 al
def MC :Ty:=cd t95 t95 (vw al al (ae .i64))
def Fp :Ty:=cd t97 t98 dV
def DS :Ty:=cd t99 t100 Cy
def DT :Ty:=cd t101 t101 (my Cy bu)
def DU :Ty:=cd t105 t105 (vw (ae .i64) (ae .i64) bu)
def DV :Ty:=cd t112 t112 Tv
def DW :Ty:=cd t117 t117 aj
def DX :Ty:=cd t118 t119 P5
def DY :Ty:=cd t122 t122 aj
def DZ :Ty:=cd t128 t129 fN
def ug :Ty:=cd t131 t131 al
def rE :Ty:=cd t132 t132 al
def D0 :Ty:=cd t133 t134 bS
def D1 :Ty:=cd t135 t135 aj
def D2 :Ty:=cd t136 t136 aj
def D3 :Ty:=cd t137 t137 al
def D4 :Ty:=cd t138 t138 al
def D5 :Ty:=cd t139 t140 Gh
def D6 :Ty:=cd t141 t141 aj
def D7 :Ty:=cd t142 t142 (my al al)
def D8 :Ty:=cd t143 t143 aj
def D9 :Ty:=cd t144 t144 aj
def Ea :Ty:=cd t145 t146 vk
def Eb :Ty:=cd t149 t149 aj
def Ec :Ty:=cd t150 t150 (my al (ae .i64))
def Ed :Ty:=cd t151 t152 eo
def Ee :Ty:=cd t153 t153 aj
def Ef :Ty:=cd t154 t155 aX
def Eg :Ty:=cd t157 t157 (my (ae .i64) bu)
def Eh :Ty:=cd t159 t159 aj
def yh :Ty:=cd t160 t160 dI
def Ei :Ty:=cd t161 t161 dI
def Ej :Ty:=cd t162 t163 Tc
def Ek :Ty:=cd t166 t166 kK
def El :Ty:=cd t167 t167 (vw aj (ae .i64) (ae .i64))
def Em :Ty:=cd t169 t169 (my (ae .u64) (ae .u64))
def En :Ty:=cd t171 t171 aj
def Eo :Ty:=cd t172 t172 (vw aj (ae .i64) (ae .i64))
def Ep :Ty:=cd t177 t177 kK
def Er :Ty:=cd t183 t183 (vw aj (ae .i64) (ae .i64))
def Es :Ty:=cd t185 t185 (my aj (ae .i64))
def Et :Ty:=cd t188 t188 (my aj (ae .i64))
def yi :Ty:=cd t191 t192 aE
def Eu :Ty:=cd t193 t193 al
def Ev :Ty:=cd t194 t195 Cz
def Ew :Ty:=cd t196 t197 eD
def Ey :Ty:=cd t199 t199 al
def Ez :Ty:=cd t200 t201 KZ
def EA :Ty:=cd t202 t202 aj
def rF :Ty:=cd t204 t205 aO
def EB :Ty:=cd t206 t206 (my aO bu)
def uh :Ty:=cd t207 t207 al
def EC :Ty:=cd t208 t208 dI
def ED :Ty:=cd t209 t210 P7
def yj :Ty:=cd t212 t213 Tm
def EE :Ty:=cd t215 t216 eC
def EF :Ty:=cd t217 t217 (my eC bu)
def EG :Ty:=cd t218 t219 P9
def EH :Ty:=cd t226 t226 kK
def EI :Ty:=cd t227 t228 Qb
def EJ :Ty:=cd t230 t230 (ae .u64)
def EK :Ty:=cd t231 t232 Zh
def EL :Ty:=cd t240 t240 dI
def EM :Ty:=cd t241 t242 Qc
def EN :Ty:=cd t243 t243 (my (ae .i64) bu)
def EO :Ty:=cd t245 t245 (my aj (ae .i64))
def EP :Ty:=cd t248 t248 kK
def ER :Ty:=cd t250 t250 (my (ae .u64) (ae .u64))
def ES :Ty:=cd t253 t254 AT
def ui :Ty:=cd t256 t257 dk
def ET :Ty:=cd t259 t259 kK
def EV :Ty:=cd t263 t264 Ba
def EW :Ty:=cd t265 t265 (my eo Ba)
def EX :Ty:=cd t269 t269 (my bu (ae .i64))
def EY :Ty:=cd t272 t272 (my (ae .i64) (ae .i64))
def EZ :Ty:=cd t275 t275 al
def E0 :Ty:=cd t277 t278 KU
def E2 :Ty:=cd t283 t283 (xm bu bu bu bu)
def E3 :Ty:=cd t286 t286 Zd
def E4 :Ty:=cd t287 t287 al
def E5 :Ty:=cd t295 t295 (ae .u32)
def E6 :Ty:=cd t296 t296 (my (ae .u32) (ae .u32))
def E7 :Ty:=cd t298 t298 (my be bu)
def E8 :Ty:=cd t300 t300 (vw Ba bu bu)
def E9 :Ty:=cd t303 t303 (my (ae .i64) (ae .i64))
def Fa :Ty:=cd t307 t307 (xn (ae .i64) (ae .i64) aE bu (ae .i64))
def Fb :Ty:=cd t310 t310 aj
def Fc :Ty:=cd t317 t317 kK
def Fe :Ty:=cd t318 t318 dI
def Ff :Ty:=cd t320 t320 aj
def uj :Ty:=cd t322 t322 (iS .f64)
def Fg :Ty:=cd t326 t326 kK
def Fh :Ty:=cd t326 t327 kK
def Fi :Ty:=cd t329 t329 (xm (ae .i64) aE bu (ae .i64))
def Fj :Ty:=cd t332 t332 (ND 34)
def Fk :Ty:=cd t338 t338 kK
def xF :List (List (Option Ty)):=[[some YH,none,some vf,some wh,some YI,some YJ,none,none,none,some YK,none,none,none,none,none,none],
 [none,none,none,none,some L8,none,some wg,some qT,some zy,none,some EU,some L9,some E1,none,some Ma,none],
 [some Mb,some Mc,some Me,none,some Mf,some Mg,none,none,some Mh,none,some Mi,none,none,some Mj,some Mk,none],
 [some Ml,none,none,some zz,none,none,none,some Fl,none,none,some Mm,none,none,none,some zA,none],
 [some Fm,none,none,none,none,none,some Fo,some Mn,none,some Mo,some Mp,none,none,some Mq,some Mr,some Ms],
 [some Mt,none,none,some zB,some Mu,none,some Mw,none,some Mx,some My,none,some Mz,none,some MA,some MB,some MC],
 [none,none,some Fp,none,some DS,some DT,none,none,none,some DU,none,none,none,none,none,none],
 [some DV,none,none,none,none,some DW,none,some DX,none,none,some DY,none,none,none,none,none],
 [none,some DZ,none,some ug,some rE,none,some D0,some D1,some D2,some D3,some D4,none,some D5,some D6,some D7,some D8],
 [some D9,none,some Ea,none,none,some Eb,some Ec,none,some Ed,some Ee,none,some Ef,none,some Eg,none,some Eh],
 [some yh,some Ei,none,some Ej,none,none,some Ek,some El,none,some Em,none,some En,some Eo,none,none,none],
 [none,some Ep,none,none,none,none,none,some Er,none,some Es,none,none,some Et,none,none,none],
 [some yi,some Eu,none,some Ev,none,some Ew,none,some Ey,none,some Ez,some EA,none,none,some rF,some EB,some uh],
 [some EC,none,some ED,none,none,some yj,none,none,some EE,some EF,none,some EG,none,none,none,none],
 [none,none,some EH,none,some EI,none,some EJ,none,some EK,none,none,none,none,none,none,none],
 [some EL,none,some EM,some EN,none,some EO,none,none,some EP,none,some ER,none,none,none,some ES,none],
 [none,some ui,none,some ET,none,none,none,none,some EV,some EW,none,none,none,some EX,none,none],
 [some EY,none,none,some EZ,none,none,some E0,none,none,none,none,some E2,none,none,some E3,some E4],
 [none,none,none,none,none,none,none,some E5,some E6,none,some E7,none,some E8,none,none,some E9],
 [none,none,none,some Fa,none,none,some Fb,none,none,none,none,none,none,some Fc,some Fe,none],
 [some Ff,none,some uj,none,none,none,some Fg,some Fh,none,some Fi,none,none,some Fj,none,none,none],
 [none,none,some Fk]]
def zC (t:Nat):Option Ty:=match nth xF (t / 16) with
 | some r=>match nth r (t%16) with
  | some e=>e
  | none=>none
 | none=>none
def B6 :List (List Bool):=[[false,false,true,true,true,true,true,true,true,true,true,true,true,true,true,true],
 [true,true,true,true,true,true,true,true,true,true,true,true,true,true,true,true],
 [true,true,true,true,true,true,true,true,true,true,true,true,true,true,true,true],
 [true,true,true,true,true,true,true,true,true,true,true,true,true,true,true,true],
 [true,true,true,true,true,true,true,true,true,true,true,true,true,true,true,true],
 [true,true,true,true,true,true,true,true,true,true,true,true,true,true,true,true],
 [true,true,true,true,true,true,true,true,true,true,true,true,true,true,true,true],
 [true,true,true,true,true,true,true,true,true,true,true,true,true,true,true,true],
 [true,true,true,true,true,true,true,true,true,true,true,true,true,true,true,true],
 [true,true,true,true,true,true,true,true,true,true,true,true,true,true,true,true],
 [true,true,true,true,true,true,true,true,true,true,true,true,true,false,true,true],
 [true,true,true,true,true,true,true,true,true,true,true,true,true,true,true,true],
 [true,true,true,true,true,true,true,true,true,true,true,true,true,true,true,true],
 [true,true,true,true,true,true,true,true,true,false,false,true,true,true,true,true],
 [true,true,false,true,true,false,true]]
def yY (g:Nat):Bool:=match nth B6 (g / 16) with
 | some r=>match nth r (g%16) with
  | some e=>e
  | none=>false
 | none=>false
def tB (g:Nat):Option (Array Value->Sem Value):=cond (Nat.beq g 173) (some (Extern.SlicesOverlaps.overlaps #[207,207] #[4])) (cond (Nat.beq g 217) (some Extern.MathFloatBits.float64frombits) (cond (Nat.beq g 218) (some Extern.MathFloatBits.float64bits) (cond (Nat.beq g 229) (some Extern.BytealgIndexByte.indexByte) (none))))
def tb :Tb:={ty:=zC,call:=yY,ext:=tB}
abbrev YU :Nat:=4
abbrev Xm :Nat:=12
abbrev Xy :Nat:=13
abbrev Sz :Nat:=14
abbrev Ut :Nat:=15
abbrev Xe :Nat:=16
abbrev Xv :Nat:=17
abbrev QL :Nat:=18
abbrev Tn :Nat:=26
abbrev Xh :Nat:=31
abbrev Xn :Nat:=32
abbrev Tp :Nat:=33
abbrev Lg :Nat:=34
abbrev Q8 :Nat:=35
abbrev AI :Nat:=36
abbrev Uu :Nat:=37
abbrev Ky :Nat:=38
abbrev Xo :Nat:=39
abbrev zQ :Nat:=40
abbrev Qm :Nat:=41
abbrev QE :Nat:=42
abbrev QN :Nat:=43
abbrev Xi :Nat:=44
abbrev zJ :Nat:=45
abbrev QO :Nat:=46
abbrev IW :Nat:=58
abbrev Yh :Nat:=59
abbrev X5 :Nat:=60
abbrev KB :Nat:=66
abbrev FA :Nat:=67
abbrev KH :Nat:=68
abbrev Cw :Nat:=69
abbrev vn :Nat:=70
abbrev wx :Nat:=71
abbrev Cv :Nat:=72
abbrev Xp :Nat:=73
abbrev Xf :Nat:=74
abbrev Zn :Nat:=75
abbrev Ih :Nat:=76
abbrev XP :Nat:=77
abbrev KI :Nat:=78
abbrev QP :Nat:=79
abbrev W7 :Nat:=80
abbrev QQ :Nat:=81
abbrev Xq :Nat:=82
abbrev Yq :Nat:=89
abbrev VF :Nat:=91
abbrev K6 :Nat:=94
abbrev CB :Nat:=95
abbrev zE :Nat:=96
abbrev X0 :Nat:=97
abbrev VH :Nat:=98
abbrev K7 :Nat:=99
abbrev VJ :Nat:=100
abbrev Lh :Nat:=101
abbrev vj :Nat:=102
abbrev rI :Nat:=103
abbrev Kz :Nat:=104
abbrev RC :Nat:=105
abbrev Ro :Nat:=106
abbrev FJ :Nat:=107
abbrev XF :Nat:=108
abbrev QF :Nat:=109
abbrev Qn :Nat:=110
abbrev Xj :Nat:=111
abbrev KO :Nat:=112
abbrev GF :Nat:=113
abbrev F0 :Nat:=114
abbrev Qo :Nat:=115
abbrev W8 :Nat:=116
abbrev Hm :Nat:=117
abbrev FB :Nat:=118
abbrev Ks :Nat:=119
abbrev W6 :Nat:=120
abbrev Qp :Nat:=121
abbrev Uw :Nat:=125
abbrev N6 :Nat:=127
abbrev WU :Nat:=128
abbrev WZ :Nat:=129
abbrev KC :Nat:=130
abbrev zF :Nat:=131
abbrev Ai :Nat:=132
abbrev Ko :Nat:=133
abbrev Hn :Nat:=134
abbrev Nl :Nat:=135
abbrev SD :Nat:=136
abbrev Oz :Nat:=137
abbrev Ny :Nat:=138
abbrev YV :Nat:=139
abbrev XQ :Nat:=141
abbrev F7 :Nat:=142
abbrev vp :Nat:=143
abbrev zG :Nat:=144
abbrev PB :Nat:=145
abbrev PE :Nat:=146
abbrev KG :Nat:=147
abbrev KD :Nat:=148
abbrev Gi :Nat:=149
abbrev zM :Nat:=150
abbrev KV :Nat:=151
abbrev KP :Nat:=152
abbrev KJ :Nat:=153
abbrev X6 :Nat:=154
abbrev R2 :Nat:=155
abbrev RE :Nat:=156
abbrev XR :Nat:=157
abbrev X7 :Nat:=158
abbrev vi :Nat:=159
abbrev Qq :Nat:=160
abbrev N8 :Nat:=161
abbrev PH :Nat:=162
abbrev Kt :Nat:=163
abbrev UA :Nat:=164
abbrev Tq :Nat:=165
abbrev zH :Nat:=166
abbrev KW :Nat:=167
abbrev FL :Nat:=168
abbrev WM :Nat:=169
abbrev FN :Nat:=170
abbrev XG :Nat:=171
abbrev XS :Nat:=172
abbrev WV :Nat:=174
abbrev J9 :Nat:=176
abbrev VL :Nat:=177
abbrev uB :Nat:=178
abbrev AW :Nat:=179
abbrev AX :Nat:=180
abbrev XH :Nat:=181
abbrev Pf :Nat:=182
abbrev R4 :Nat:=183
abbrev Li :Nat:=184
abbrev Ra :Nat:=185
abbrev R6 :Nat:=186
abbrev VM :Nat:=187
abbrev XT :Nat:=188
abbrev Xk :Nat:=189
abbrev X8 :Nat:=190
abbrev GH :Nat:=191
abbrev KQ :Nat:=192
abbrev Yr :Nat:=193
abbrev Ys :Nat:=194
abbrev X9 :Nat:=195
abbrev XM :Nat:=196
abbrev RF :Nat:=197
abbrev SH :Nat:=198
abbrev Td :Nat:=200
abbrev GI :Nat:=201
abbrev Gc :Nat:=202
abbrev Ao :Nat:=203
abbrev VO :Nat:=204
abbrev CK :Nat:=205
abbrev Gd :Nat:=206
abbrev R7 :Nat:=207
abbrev Yt :Nat:=208
abbrev X1 :Nat:=209
abbrev XU :Nat:=210
abbrev Ou :Nat:=211
abbrev R9 :Nat:=212
abbrev RG :Nat:=213
abbrev WR :Nat:=214
abbrev XV :Nat:=219
abbrev X2 :Nat:=220
abbrev WL :Nat:=222
abbrev KE :Nat:=223
end
def bP (A:(Hp->Prop)->Prop) (B:Hp->Prop):Prop:=
 mM (σ:=Unit) (λR=>A (λh=>R () h)) (λ_ h=>B  h)
theorem bP.intro {A:(Hp->Prop)->Prop} {B:Hp->Prop} (R:Hp->Prop) (a:A R) (b:∀h,R h->B h):bP A B:=
 ⟨λ_ h=>R  h,a,λ_ h c=>b  h c⟩
theorem bP.direct {A:(Hp->Prop)->Prop} {B:Hp->Prop} (a:A B):bP A B:=bP.intro B a (λ_ b=>b)
def bL {α1:Type} (A:(α1->Hp->Prop)->Prop) (B:α1->Hp->Prop):Prop:=
 mM (σ:=α1) (λR=>A (λa h=>R a h)) (λp h=>B p h)
theorem bL.intro {a:Type} {A:(a->Hp->Prop)->Prop} {B:a->Hp->Prop} (R:a->Hp->Prop) (c:A R) (d:∀b h,R b h->B b h):bL A B:=
 ⟨λp h=>R p h,c,λp h e=>d p h e⟩
theorem bL.direct {a:Type} {A:(a->Hp->Prop)->Prop} {B:a->Hp->Prop} (b:A B):bL A B:=bL.intro B b (λ_ _ c=>c)
def ay {α1:Type} (b:(α1->Hp->Prop)->α1->Hp->Prop) (a:α1) (h:Hp):Prop:=
 q5 (σ:=α1) (λR p h=>b (λa h=>R a h) p h) a h
theorem ay.intro {b:Type} {d:(b->Hp->Prop)->b->Hp->Prop} {a:b} {h:Hp} (I:b->Hp->Prop) (c:b->Hp->Nat)
  (h0:I a h) (i:∀a k,I a k->d (λf e=>I f e/\c f e<c a k) a k):ay d a h:=
 ⟨λp h=>I p h,λp h=>c p h,h0,λp k g=>i p k g⟩
def iZ {α1 α2:Type} (A:(α1->α2->Hp->Prop)->Prop) (B:α1->α2->Hp->Prop):Prop:=
 mM (σ:=α1×α2) (λR=>A (λa b h=>R (a,b) h)) (λp h=>B p.1 p.2 h)
theorem iZ.intro {a b:Type} {A:(a->b->Hp->Prop)->Prop} {B:a->b->Hp->Prop} (R:a->b->Hp->Prop) (e:A R) (f:∀c d h,R c d h->B c d h):iZ A B:=
 ⟨λp h=>R p.1 p.2 h,e,λp h g=>f p.1 p.2 h g⟩
theorem iZ.direct {a b:Type} {A:(a->b->Hp->Prop)->Prop} {B:a->b->Hp->Prop} (c:A B):iZ A B:=iZ.intro B c (λ_ _ _ d=>d)
def bQ {α1 α2:Type} (c:(α1->α2->Hp->Prop)->α1->α2->Hp->Prop) (a:α1) (b:α2) (h:Hp):Prop:=
 q5 (σ:=α1×α2) (λR p h=>c (λa b h=>R (a,b) h) p.1 p.2 h) (a,b) h
theorem bQ.intro {c d:Type} {f:(c->d->Hp->Prop)->c->d->Hp->Prop} {a:c} {b:d} {h:Hp} (I:c->d->Hp->Prop) (e:c->d->Hp->Nat)
  (h0:I a b h) (m:∀a b k,I a b k->f (λi j g=>I i j g/\e i j g<e a b k) a b k):bQ f a b h:=
 ⟨λp h=>I p.1 p.2 h,λp h=>e p.1 p.2 h,h0,λp k l=>m p.1 p.2 k l⟩
def jH {α1 α2 α3:Type} (d:(α1->α2->α3->Hp->Prop)->α1->α2->α3->Hp->Prop) (a:α1) (b:α2) (c:α3) (h:Hp):Prop:=
 q5 (σ:=α1×α2×α3) (λR p h=>d (λa b c h=>R (a,b,c) h) p.1 p.2.1 p.2.2 h) (a,b,c) h
theorem jH.intro {d e f:Type} {i:(d->e->f->Hp->Prop)->d->e->f->Hp->Prop} {a:d} {b:e} {c:f} {h:Hp} (I:d->e->f->Hp->Prop) (g:d->e->f->Hp->Nat)
  (h0:I a b c h) (q:∀a b c k,I a b c k->i (λl m n j=>I l m n j/\g l m n j<g a b c k) a b c k):jH i a b c h:=
 ⟨λp h=>I p.1 p.2.1 p.2.2 h,λp h=>g p.1 p.2.1 p.2.2 h,h0,λp k o=>q p.1 p.2.1 p.2.2 k o⟩
def aZ (P:Program) (g:FuncId) (args:List Value) (s1 s2:Shape) (K:s1.T->s2.T->Hp->Prop) (h:Hp):Prop:=
 aa P g args (my s1 s2) (λp a=>K p.1 p.2 a) h
def gB (P:Program) (g:FuncId) (args:List Value) (s1 s2 a:Shape) (K:s1.T->s2.T->a.T->Hp->Prop) (h:Hp):Prop:=
 aa P g args (vw s1 s2 a) (λp b=>K p.1 p.2.1 p.2.2 b) h
def nR (P:Program) (g:FuncId) (args:List Value) (s1 s2 a b:Shape) (K:s1.T->s2.T->a.T->b.T->Hp->Prop) (h:Hp):Prop:=
 aa P g args (xm s1 s2 a b) (λp c=>K p.1 p.2.1 p.2.2.1 p.2.2.2 c) h
def xH (P:Program) (g:FuncId) (args:List Value) (s1 s2 a b c:Shape) (K:s1.T->s2.T->a.T->b.T->c.T->Hp->Prop) (h:Hp):Prop:=
 aa P g args (xn s1 s2 a b c) (λp d=>K p.1 p.2.1 p.2.2.1 p.2.2.2.1 p.2.2.2.2 d) h
def bx (P:Program) (g:FuncId) (args:List Value) (K:Hp->Prop) (h:Hp):Prop:=
 aa P g args rQ (λ_ a=>K a) h
def lU (P:Program) (s:Sem Value) (_:Shape) (K:Hp->Prop) (h:Hp):Prop:=jw P s rQ (λ_ a=>K a) h
end Lf
set_option linter.unusedVariables false
namespace Lf
open Go
abbrev yI(x:Int):Value:=.int .i64 x
abbrev yP(x:Option Addr):Value:=.pointer x
abbrev yN:Value:=.slice none 0 0
abbrev yH:Shape:=ae .i64
abbrev fb(h:Hp)(p:Addr)(n:Nat)(K:Int->Prop):Prop:=aQ none (ae .i64) h (Addr.add p n) K
abbrev cN(h:Hp)(p:Addr)(n:Nat)(K:Sl->Prop):Prop:=aQ none al h (Addr.add p n) K
abbrev lO(h:Hp)(p:Addr)(n:Nat)(K:Option Addr->Prop):Prop:=aQ none aj h (Addr.add p n) K
def Oa (P:Program) (c:aw) (l:Sl) (Q:(Bool->(Hp->Prop))) (h:Hp):Prop:=
 aa P Xm [] bu (λr g=>aa P Xy [c.v] bu (λn b=>aG ((!r) || (!n)) λy=>(if y then
 Q r b
 else
 ay (α1:=Int) (λf i a=>(if decide (i<(l.len:Int)) then
 ((bD l.base l.len i)/\aQ none cP a (sat l.base 4 i) λx=>aa P Sz [c.v,(yI x.Part),(yI x.A),(yI x.F)] yH (λr2 j=>aa P Ut [c.v,(yI x.Part),(yI x.A),(yI x.yG)] yH (λo k=>aa P Xe [c.v,(yI x.Part),(yI x.A),(yI x.F)] yH (λe m=>dA (some (!(r2 !=e))) (aa P Xv [c.v,(yI x.Part),(yI x.A),(yI x.yG)] yH) (λp d=>aG ((r2 !=e) || (o !=p)) λq=>(if q then
 Q false d
 else
 f (yw (i+1)) d)) m) k) j) a)
 else
 Q true a)) 0 b)) g) h
def Qr (P:Program)  (Q:(Bool->(Hp->Prop))) (h:Hp):Prop:=
 aa P Xn [] aB (λr f=>bq [(yI 2),(yI 1),(yI 9),(yI 1),(yI 2),(yI 0)] (λa g=>gB P Tp [r.v,(.slice (some a) 2 2)] al al yH (λc r2 k b=>aG ((k !=0) || ((r2.len:Int) !=0)) λy=>aG (y || ((c.len:Int) !=1)) λn=>(if n then
 Q false b
 else
 ((bD c.base c.len 0)/\aQ none dV b (sat c.base 5 0) λx=>iz none P (cW .eql 98 (.tmp 29) (.tmp 30) x.v (.agg #[(yI 1),(yI 2),(yI 0),(yI 0),(yI 2)])) bu b λd=>dA (some d) (aa P Sz [r.v,(yI 0),(yI 0),(yI 1)] yH) (λl i=>aG (d&&(l==2)) λe=>dA (some e) (aa P Ut [r.v,(yI 1),(yI 0),(yI 5)] yH) (λm j=>aG (e&&(m==2)) λo=>Q o j) i) b))) g) f) h
def QR (P:Program) (c:aw) (Q:(Bool->(Hp->Prop))) (h:Hp):Prop:=
 aG ((decide ((c.aN.len:Int)>1048576)) || (decide ((c.Table.len:Int)>1048576))) λy=>aG (y || (decide ((c.aM.len:Int)>1048576))) λa=>(if a then
 Q false h
 else
 bQ (α1:=Int) (α2:=Int) (λagain left i h1=>aG ((decide (i<(c.aM.len:Int)))&&(decide (left>=0))) λb=>(if b then
 ((bD c.aM.base c.aM.len i)/\aQ none al h1 (Addr.add (sat c.aM.base 2 i) 1) λx=>again (yw (left-(yw (1+(x.len:Int))))) (yw (i+1)) h1)
 else
 Q (decide (left>=0)) h1)) 1048576 0 h)
def SJ (P:Program) (c:aw) (part:Int) (place:Int) (f:Int) (Q:(Int->(Hp->Prop))) (h:Hp):Prop:=
 aZ P Lg [c.v,(yI part)] Cy bu (λr n e=>aG ((!n) || (decide (place<0))) λy=>aG (y || (decide (place>=c.gQ))) λt=>aG (t || (decide (f<1))) λu=>(if u then
 Q 0 e
 else
 bQ (α1:=Int) (α2:=Int) (λg ah b a=>(if decide (b<(c.aN.len:Int)) then
 bL (α1:=Int) (λk=>((bD c.aN.base c.aN.len b)/\aQ none (ae .u64) a (sat c.aN.base 1 b) λx=>((bD c.aN.base c.aN.len part)/\aQ none (ae .u64) a (sat c.aN.base 1 part) λs=>(if ((de .andNot .u64 x s)==0)=true then
 k (yw (ah+1)) a
 else
 k ah a))))
 (λm d=>g m (yw (b+1)) d)
 else
 aa P AI [(yI (yw (place+1))),(yI ah)] yH (λr2 d=>((True/\(True/\True))/\aa P AI [(yI r2),(yI r.many)] yH (λo i=>((True/\True)/\aa P AI [(yI o),(yI f)] yH (λp j=>((True/\True)/\aa P Q8 [r.v,(yI p)] yH (λq l=>Q q l) j)) i)) d)) a)) 1 0 e)) h
def UD (P:Program) (c:aw) (part:Int) (lock:Int) (hold:Int) (Q:(Int->(Hp->Prop))) (h:Hp):Prop:=
 aZ P Lg [c.v,(yI part)] Cy bu (λr m d=>aG ((!m) || (decide (lock<0))) λy=>aG (y || (decide (lock>=c.bG))) λq=>aG (q || (decide (hold<1))) λs=>aG (s || (decide (hold>64))) λt=>(if t then
 Q 0 d
 else
 jH (α1:=Int) (α2:=Int) (α3:=Int) (λg b p k e=>(if decide (k>=lock) then
 aa P AI [(yI (yw (r.many-1))),(yI hold)] yH (λr2 a=>((True/\True)/\aa P Uu [(yI r.many),(yI b)] yH (λn i=>aa P AI [(yI r2),(yI n)] yH (λo j=>aa P Uu [(yI o),(yI 1)] yH (λf l=>g (iq b f) f (yw (k-1)) l) j) i) a)) e
 else
 aa P Q8 [r.v,(yI p)] yH (λr2 a=>Q r2 a) e)) 0 0 (yw (c.bG-1)) d)) h
def Ph (P:Program) (c:aw) (part:Int) (at_:Int) (f:Int) (Q:(Int->(Hp->Prop))) (h:Hp):Prop:=
 gB P Ky [c.v,(yI part)] yH yH bu (λr p r2 e=>aG ((!r2) || (decide (at_<0))) λy=>aG (y || (decide (at_>=c.gQ))) λw=>aG (w || (decide (f<1))) λz=>(if z then
 Q 0 e
 else
 bQ (α1:=Int) (α2:=Int) (λg n i b=>(if decide (i<(c.aN.len:Int)) then
 bL (α1:=Int) (λk=>((bD c.aN.base c.aN.len i)/\aQ none (ae .u64) b (sat c.aN.base 1 i) λx=>((bD c.aN.base c.aN.len part)/\aQ none (ae .u64) b (sat c.aN.base 1 part) λu=>aa P Xo [(.int .u64 x),(.int .u64 u)] bu (λd a=>(if d then
 k (yw (n+1)) a
 else
 k n a)) b)))
 (λo a=>g o (yw (i+1)) a)
 else
 aa P zQ [(yI (yw (at_+1))),(yI n)] yH (λd a=>aa P zQ [(yI f),(yI p)] yH (λq j=>aa P zQ [(yI d),(yI q)] yH (λs l=>aa P Qm [c.v,(yI r),(yI s)] yH (λt m=>Q t m) l) j) a) b)) 1 0 e)) h
def QG (P:Program) (c:aw) (part:Int) (lock:Int) (hold:Int) (Q:(Int->(Hp->Prop))) (h:Hp):Prop:=
 gB P Ky [c.v,(yI part)] yH yH bu (λr g r2 e=>aG ((!r2) || (decide (lock<0))) λy=>aG (y || (decide (lock>=c.bG))) λq=>aG (q || (decide (hold<1))) λs=>aG (s || (decide (hold>64))) λu=>(if u then
 Q 0 e
 else
 jH (α1:=Int) (α2:=Int) (α3:=Int) (λi d t k f=>(if decide (k>=lock) then
 aa P zQ [(yI (yw (g-1))),(yI hold)] yH (λb a=>aa P QE [(yI g),(yI (iq d t))] yH (λn j=>aa P zQ [(yI b),(yI n)] yH (λo l=>aa P QE [(yI o),(yI 1)] yH (λp m=>i (iq d t) p (yw (k-1)) m) l) j) a) f
 else
 aa P Qm [c.v,(yI r),(yI t)] yH (λb a=>Q b a) f)) 0 0 (yw (c.bG-1)) e)) h
def QS (P:Program) (c:aw) (Q:(Int->(Int->(Hp->Prop)))) (h:Hp):Prop:=
 aZ P QN [c.aN.v] yH yH (λr A f=>(if (r !=0)=true then
 Q r 0 f
 else
 aa P Xi [c.Table.v,(yI (c.aN.len:Int))] yH (λr2 j=>(if (r2 !=0)=true then
 Q r2 1 j
 else
 aa P zJ [(yI c.Fuel),(yI 1),(yI 256)] bu (λs n=>((True/\(True/\(True/\True)))/\aa P zJ [(yI c.gQ),(yI 1),(yI 64)] bu (λt o=>((True/\(True/\True))/\aa P zJ [(yI c.bG),(yI 0),(yI 8)] bu (λu p=>((True/\True)/\aa P zJ [(yI c.Log),(yI 0),(yI 4096)] bu (λw q=>ay (α1:=Int) (λl i b=>(if decide (i<4) then
 ((0<=i/\i<4)/\∃x:Bool,((List.get?Internal (α:=Value) [(.bool s),(.bool t),(.bool u),(.bool w)] (0+((Int.toNat i)*1)))=(some (.bool x))/\(if (!x)=true then
 Q 2 (yw (2+i)) b
 else
 l (yw (i+1)) b)))
 else
 (if ((c.aM.len:Int)==0)=true then
 Q 1 6 b
 else
 (if decide ((c.aM.len:Int)>32) then
 Q 3 6 b
 else
 ay (α1:=Int) (λm a d=>(if decide (a<(c.aM.len:Int)) then
 ((bD c.aM.base c.aM.len a)/\aQ none yH d (Addr.add (sat c.aM.base 2 a) 0) λx=>aa P zJ [(yI x),(yI 0),(yI (yw ((c.aN.len:Int)-1)))] bu (λy e=>(if (!y)=true then
 Q 2 (yw (7+a)) e
 else
 ((bD c.aM.base c.aM.len a)/\aQ none al e (Addr.add (sat c.aM.base 2 a) 1) λz=>aZ P QO [z.v,(yI c.bG)] yH yH (λk B g=>(if (k !=0)=true then
 Q k (yw (7+a)) g
 else
 m (yw (a+1)) g)) e))) d)
 else
 Q 0 0 d)) 0 b)))) 0 q) p)) o)) n)) j)) f)) h
def Ts (P:Program) (c:aw) (Q:(Option Addr->(Int->(Hp->Prop)))) (h:Hp):Prop:=
 aZ P IW [c.v] yH yH (λr f a=>(if (r !=0)=true then
 Q none r a
 else
 aa P X5 [c.v] AS (λr2 b=>((True/\True)/\aa P Yh [c.v,r2.v] aj (λe d=>Q e 0 d) b)) a)) h
def Kw (P:Program) (m:Option Addr) (Q:(aU->(Hp->Prop))) (h:Hp):Prop:=
 ag none m λp=>fb h p 9 λx=>ag none m λU=>cN h U 10 λC=>bQ (α1:=Int) (α2:=aU) (λO B s n=>(if decide (B<(C.len:Int)) then
 ((bD C.base C.len B)/\aQ none aj n (sat C.base 1 B) λd=>ag none d λF=>lO n F 5 λe=>aZ P KB [(yP e)] al al (λr G b=>ag none d λz=>fb b z 1 λE=>ag none d λA=>cN b A 2 λj=>ag none d λt=>fb b t 3 λk=>ag none d λu=>fb b u 4 λw=>aa P FA [j.v] al (λr2 c=>((True/\((aT c (Addr.add z 1) [(yI E)])/\((aT c (Addr.add t 3) [(yI k)])/\((aT c (Addr.add u 4) [(yI w)])/\True))))/\bq [(yI E),r2.v,(yI k),(yI w),r.v,G.v] (λa g=>((True/\True)/\fP 6 96 [(yI 0),yN,(yI 0),(yI 0),yN,yN] ⟨s.eg.base,s.eg.len,s.eg.cap⟩ ⟨(some a),1,1⟩ (λH i=>O (yw (B+1)) ⟨s.jx,H,s.aM⟩ i) g)) c)) b) n)
 else
 ag none m λF=>cN n F 11 λd=>bQ (α1:=Int) (α2:=aU) (λR l s1 b=>(if decide (l<(d.len:Int)) then
 ((bD d.base d.len l)/\aQ none aj b (sat d.base 1 l) λe=>ag none e λz=>lO b z 14 λE=>aZ P KH [(yP E)] al yH (λr G c=>ag none m λA=>cN c A 10 λj=>ag none e λt=>fb c t 1 λk=>((bD j.base j.len k)/\aQ none aj c (sat j.base 1 k) λw=>ag none w λu=>lO c u 6 λN=>aa P vn [(yI l)] yH (λr2 g=>(((aT g (Addr.add A 10) [j.v])/\((aT g (Addr.add t 1) [(yI k)])/\((aT g (sat j.base 1 k) [(yP w)])/\((aT g (Addr.add u 6) [(yP N)])/\True))))/\aZ P Cw [(yP N),(yI r2)] yH bu (λH r4 i=>ag none m λI=>cN i I 10 λy=>ag none e λJ=>fb i J 1 λD=>((bD y.base y.len D)/\aQ none aj i (sat y.base 1 D) λL=>ag none L λK=>lO i K 6 λM=>aa P wx [(yI l)] yH (λZ o=>(((aT o (Addr.add I 10) [y.v])/\((aT o (Addr.add J 1) [(yI D)])/\((aT o (sat y.base 1 D) [(yP L)])/\((aT o (Addr.add K 6) [(yP M)])/\True))))/\aZ P Cw [(yP M),(yI Z)] yH bu (λr6 r7 q=>ag none e λV=>fb q V 3 λa8=>ag none e λW=>aQ none yH q (Addr.add (Addr.add W 4) 0) λa9=>ag none e λX=>aQ none vo q (Addr.add (Addr.add X 4) 1) λf=>ag none e λY=>aQ none bu q (Addr.add Y 13) λb0=>bq [(yI a8),(yI a9),(yI f.a0),(yI f.a1),(yI f.a2),(yI f.a3),(yI f.a4),(yI f.a5),(yI f.a6),(yI f.a7),(yI G),(yI H),(.bool b0),(yI r6),r.v] (λa S=>((True/\True)/\fP 15 136 [(yI 0),(yI 0),(yI 0),(yI 0),(yI 0),(yI 0),(yI 0),(yI 0),(yI 0),(yI 0),(yI 0),(yI 0),(.bool false),(yI 0),yN] ⟨s1.aM.base,s1.aM.len,s1.aM.cap⟩ ⟨(some a),1,1⟩ (λr8 T=>R (yw (l+1)) ⟨s1.jx,s1.eg,r8⟩ T) S)) q) o)) i)) g)) c)) b)
 else
 Q s1 b)) 0 s n)) 0 ⟨x,⟨none,0,0⟩,⟨none,0,0⟩⟩ h
def Qs (P:Program)  (Q:(aw->(Hp->Prop))) (h:Hp):Prop:=
 bq [(yI 0),(yI 0),(yI 0),(yI 0),(yI 0)] (λa b=>bq [(yI 25),(yI 3),(yI 4),(yI 0),(yI 0),(yI 31),(yI 3),(yI 0),(yI 0),(yI 0),(yI 0),(yI 0),(yI 0),(yI 0),(yI 0)] (λa1 c=>bq [(.int .u64 0),(.int .u64 1)] (λa2 d=>bq [(yI 0),(yI 1)] (λa3 e=>bq [(yI 0),(.slice (some a) 1 1),(yI 1),(.slice (some a1) 3 3)] (λa4 f=>Q ⟨⟨(some a2),2,2⟩,⟨(some a3),2,2⟩,2,1,1,4,⟨(some a4),2,2⟩⟩ f) e) d) c) b) h
def Tu (P:Program) (c:aw) (l:Sl) (Q:(Sl->(Sl->(Int->(Hp->Prop))))) (h:Hp):Prop:=
 aZ P IW [c.v] yH yH (λr I i=>(if (r !=0)=true then
 Q ⟨none,0,0⟩ ⟨none,0,0⟩ r i
 else
 (if decide ((l.len:Int)>1024) then
 Q ⟨none,0,0⟩ ⟨none,0,0⟩ 3 i
 else
 aZ P Tn [c.v] aj yH (λr2 o n=>(if (o !=0)=true then
 Q ⟨none,0,0⟩ ⟨none,0,0⟩ o n
 else
 BP  (λF A=>BP  (λG B=>bq [c.aN.v,c.Table.v,(yI c.Fuel),(yI c.gQ),(yI c.bG),(yI c.Log),c.aM.v,(yP r2),(yI 0),yN,yN,yN,(.map F),(.map G)] (λa C=>bx P Cv [(yP (some a))] (λD=>ay (α1:=Int) (λt g b=>(if decide (g<(l.len:Int)) then
 bP (λk=>((bD l.base l.len g)/\aQ none fE b (sat l.base 3 g) λx=>bP (λf=>(if (x.Kind==1)=true then
 ag (some (!(decide (x.N<1)))) (some a) λp=>aQ (some (!(decide (x.N<1)))) yH b (Addr.add p 8) λm=>aG ((decide (x.N<1)) || (decide (x.N>(yw (65536-m))))) λy=>(if y then
 k b
 else
 ay (α1:=Int) (λu s d=>(if decide (s<x.N) then
 aa P Xp [(yP r2)] yH (λq e=>ag none (some a) λj=>fb e j 8 λH=>ag none (some a) λE=>cq e (Addr.add E 8) [(yI (yw (H+1)))] (λw=>bx P Cv [(yP (some a))] (λz=>u (yw (s+1)) z) w)) d
 else
 f d)) 0 b)
 else
 (if (x.Kind==2)=true then
 aa P Xf [(yP r2),(yI x.N),(yI x.V)] yH (λq d=>bx P Cv [(yP (some a))] (λe=>f e) d) b
 else
 (if (x.Kind==3)=true then
 aa P Zn [(yP r2),(yI x.N)] yH (λq d=>bx P Cv [(yP (some a))] (λe=>f e) d) b
 else
 f b))))
 (λd=>k d)))
 (λd=>t (yw (g+1)) d)
 else
 ag none (some a) λp=>cN b p 9 λx=>ag none (some a) λj=>cN b j 11 λm=>Q x m 0 b)) 0 D) C) B) A) n)) i))) h
def zI (P:Program) (c:aw) (part:Int) (Q:(bZ->(Bool->(Hp->Prop)))) (h:Hp):Prop:=
 aZ P IW [c.v] yH yH (λr p e=>aG ((r !=0) || (decide (part<0))) λy=>aG (y || (decide (part>=(c.aN.len:Int)))) λn=>(if n then
 Q ⟨0,0,0⟩ false e
 else
 gB P Ih [c.Table.v,(yI (c.aN.len:Int))] aj yH yH (λr2 l q f=>(if (l !=0)=true then
 Q ⟨0,0,0⟩ false f
 else
 aa P XP [(yP r2),(yI part)] yH (λm i=>((True/\True)/\bQ (α1:=Int) (α2:=bZ) (λg b x a=>(if decide (b<(c.aM.len:Int)) then
 bL (α1:=bZ) (λk=>((bD c.aM.base c.aM.len b)/\aQ none bJ a (sat c.aM.base 2 b) λd=>(if (d.Part==part)=true then
 k ⟨(yw (x.many+1)),x.n9,x.fuel⟩ a
 else
 k x a)))
 (λd j=>g (yw (b+1)) d j)
 else
 aG ((decide (x.n9>0))&&(decide (x.many>0))) λo=>((True/\True)/\Q x o a))) 0 ⟨0,m,c.Fuel⟩ i)) f)) e)) h
def Rc (P:Program) (x:bZ) (a:Int) (Q:(Int->(Hp->Prop))) (h:Hp):Prop:=
 (x.fuel≠0/\bL (α1:=Int) (λk=>(x.fuel≠0/\(if decide ((Int.tmod a x.fuel)>0) then
 k (yw ((yw (Int.tdiv a x.fuel))+1)) h
 else
 k (yw (Int.tdiv a x.fuel)) h)))
 (λn b=>aa P AI [(yI n),(yI x.n9)] yH (λr c=>Q r c) b))
def Tw (P:Program) (a:Int) (b:Int) (Q:(Int->(Hp->Prop))) (h:Hp):Prop:=
 aZ P KI [(.int .u64 (IntKind.wrap .u64 a)),(.int .u64 (IntKind.wrap .u64 b))] (ae .u64) (ae .u64) (λr d c=>aG ((decide (r>0)) || (decide (d>9223372036854775807))) λy=>(if y then
 Q 9223372036854775807 c
 else
 Q (yw d) c)) h
def UE (P:Program) (a:Int) (b:Int) (Q:(Int->(Hp->Prop))) (h:Hp):Prop:=
 (if (decide (a>(yw (9223372036854775807-b))))=true then
 Q 9223372036854775807 h
 else
 Q (yw (a+b)) h)
def Qt (P:Program) (c:aw) (part:Int) (Q:(Int->(Int->(Bool->(Hp->Prop))))) (h:Hp):Prop:=
 aZ P QL [c.v] yH yH (λr o d=>aG ((r !=0) || (decide (part<0))) λy=>aG (y || (decide (part>=(c.aN.len:Int)))) λl=>(if l then
 Q 0 0 false d
 else
 gB P QP [c.Table.v,(yI (c.aN.len:Int))] aj yH yH (λr2 p q g=>bQ (α1:=Int) (α2:=Int) (λf m i a=>(if decide (i<(c.aM.len:Int)) then
 bL (α1:=Int) (λk=>((bD c.aM.base c.aM.len i)/\aQ none yH a (Addr.add (sat c.aM.base 2 i) 0) λx=>(if (x==part)=true then
 k (yw (m+1)) a
 else
 k m a)))
 (λj b=>f j (yw (i+1)) b)
 else
 aa P W7 [(yP r2),(yI part)] yH (λe b=>aG ((decide (e>0))&&(decide (m>0))) λn=>Q e m n b) a)) 0 0 g) d)) h
def Qu (P:Program) (a:Int) (b:Int) (Q:(Bool->(Hp->Prop))) (h:Hp):Prop:=
 ay (α1:=Int) (λe n c=>(if decide (n<64) then
 aa P QQ [(.int .u64 a),(yI n)] bu (λr f=>dA (some r) (aa P QQ [(.int .u64 b),(yI n)] bu) (λg d=>aG (r&&(!g)) λy=>(if y then
 Q false d
 else
 e (yw (n+1)) d)) f) c
 else
 Q true c)) 0 h
def Qv (P:Program) (a:Int) (b:Int) (Q:(Int->(Hp->Prop))) (h:Hp):Prop:=
 aG ((a==0) || (b==0)) λy=>(if y then
 Q 0 h
 else
 (b≠0/\(if (decide (a>(yw (Int.tdiv 9223372036854775807 b))))=true then
 Q 9223372036854775807 h
 else
 Q (yw (a*b)) h)))
def Qw (P:Program) (c:aw) (n9:Int) (a:Int) (Q:(Int->(Hp->Prop))) (h:Hp):Prop:=
 (c.Fuel≠0/\bL (α1:=Int) (λk=>(c.Fuel≠0/\(if decide ((Int.tmod a c.Fuel)>0) then
 k (yw ((yw (Int.tdiv a c.Fuel))+1)) h
 else
 k (yw (Int.tdiv a c.Fuel)) h)))
 (λoh b=>aa P zQ [(yI oh),(yI n9)] yH (λr d=>Q r d) b))
def Xw (P:Program) (a:Int) (b:Int) (Q:(Int->(Hp->Prop))) (h:Hp):Prop:=
 (if (decide (a>(yw (9223372036854775807-b))))=true then
 Q 9223372036854775807 h
 else
 Q (yw (a+b)) h)
def Xz (P:Program) (l:Sl) (Q:(Int->(Int->(Hp->Prop)))) (h:Hp):Prop:=
 (if ((l.len:Int)==0)=true then
 Q 1 0 h
 else
 (if decide ((l.len:Int)>8) then
 Q 3 8 h
 else
 ay (α1:=Int) (λb i a=>(if decide (i<(l.len:Int)) then
 ((bD l.base l.len i)/\aQ none (ae .u64) a (sat l.base 1 i) λx=>((bD l.base l.len (yw (i-1)))/\aQ none (ae .u64) a (sat l.base 1 (yw (i-1))) λc=>(if (x==c)=true then
 Q 8 i a
 else
 ((bD l.base l.len i)/\aQ none (ae .u64) a (sat l.base 1 i) λd=>((bD l.base l.len (yw (i-1)))/\aQ none (ae .u64) a (sat l.base 1 (yw (i-1))) λe=>(if decide (d<e) then
 Q 7 i a
 else
 b (yw (i+1)) a))))))
 else
 Q 0 0 a)) 1 h))
def PK (P:Program) (l:Sl) (parts:Int) (Q:(Int->(Hp->Prop))) (h:Hp):Prop:=
 (if ((l.len:Int)==0)=true then
 Q 1 h
 else
 (if decide ((l.len:Int)>64) then
 Q 3 h
 else
 ay (α1:=Int) (λc i a=>(if decide (i<(l.len:Int)) then
 ((bD l.base l.len i)/\aQ none yH a (sat l.base 1 i) λx=>aa P zJ [(yI x),(yI 0),(yI (yw (parts-1)))] bu (λr b=>(if (!r)=true then
 Q 2 b
 else
 c (yw (i+1)) b)) a)
 else
 Q 0 a)) 0 h))
def PM (P:Program) (n:Int) (a:Int) (kH:Int) (Q:(Bool->(Hp->Prop))) (h:Hp):Prop:=
 aG ((decide (n>=a))&&(decide (n<=kH))) λy=>Q y h
def QT (P:Program) (l:Sl) (ai:Int) (Q:(Int->(Int->(Hp->Prop)))) (h:Hp):Prop:=
 aG ((decide (ai<0)) || (decide (ai>8))) λy=>(if y then
 Q 1 0 h
 else
 (if decide ((l.len:Int)>256) then
 Q 3 256 h
 else
 ay (α1:=Int) (λc i a=>(if decide (i<(l.len:Int)) then
 ((bD l.base l.len i)/\aQ none be a (sat l.base 5 i) λx=>aa P Xq [x.v,(yI (l.len:Int)),(yI ai)] yH (λr b=>(if (r !=0)=true then
 Q r i b
 else
 c (yw (i+1)) b)) a)
 else
 Q 0 0 a)) 0 h))
def zK (P:Program) (c:aw) (Q:(Int->(Int->(Hp->Prop)))) (h:Hp):Prop:=
 aZ P K6 [c.aN.v] yH yH (λr w j=>(if (r !=0)=true then
 Q r 0 j
 else
 aa P VF [(yI (c.Table.len:Int)),(yI 64)] yH (λr2 k=>(if (r2 !=0)=true then
 Q r2 1 k
 else
 gB P Ih [c.Table.v,(yI (c.aN.len:Int))] aj yH yH (λy o z l=>(if (o !=0)=true then
 Q o 1 l
 else
 bq [(yI 0),(yI 0),(yI c.Fuel),(yI c.gQ),(yI c.bG),(yI c.Log)] (λa t=>ay (α1:=Int) (λq b g=>(if decide (b<6) then
 ((bD (some a) 6 b)/\aQ none yH g (sat (some a) 1 b) λx=>aa P Yq [(yI b),(yI x)] yH (λf e=>(if (f !=0)=true then
 Q f b e
 else
 q (yw (b+1)) e)) g)
 else
 aa P VF [(yI (c.aM.len:Int)),(yI 32)] yH (λf e=>(if (f !=0)=true then
 Q f 6 e
 else
 ay (α1:=Int) (λs d i=>(if decide (d<(c.aM.len:Int)) then
 ((bD c.aM.base c.aM.len d)/\aQ none bJ i (sat c.aM.base 2 d) λx=>aa P CB [(yI x.Part),(yI 0),(yI (yw ((c.aN.len:Int)-1)))] bu (λu m=>(if (!u)=true then
 Q 2 (yw (7+d)) m
 else
 aZ P zE [x.Code.v,(yI c.bG)] yH yH (λp A n=>(if (p !=0)=true then
 Q p (yw (7+d)) n
 else
 s (yw (d+1)) n)) m)) i)
 else
 Q 0 0 i)) 0 e)) g)) 0 t) l)) k)) j)) h
def Te (P:Program) (c:aw) (s:aU) (Q:(Option Addr->(Hp->Prop))) (h:Hp):Prop:=
 aa P X0 [c.v] aB (λr M=>((True/\True)/\bq [r.aN.v,r.Table.v,(yI r.Fuel),(yI r.gQ),(yI r.bG),(yI r.Log),r.aM.v,(yP none),(yP none),(yI s.jx),yN,yN] (λa R=>gB P VH [c.aN.v] aj yH yH (λr1 r2 r3 S=>ag none (some a) λp=>cq S (Addr.add p 7) [(yP r1)] (λT=>gB P Ih [c.Table.v,(yI (c.aN.len:Int))] aj yH yH (λr4 r5 r6 U=>ag none (some a) λW=>cq U (Addr.add W 8) [(yP r4)] (λV=>ay (α1:=Int) (λK y D=>(if decide (y<(s.eg.len:Int)) then
 ((bD s.eg.base s.eg.len y)/\aQ none dJ D (sat s.eg.base 6 y) λx=>aZ P K7 [x.fc.v,x.iy.v] aj yH (λF r8 e=>ag none (some a) λg=>cN e g 10 λd=>aa P FA [x.Log.v] al (λG f=>(((aT f (Addr.add g 10) [d.v])/\(True/\(True/\(True/\True))))/\aa P VJ [] aj (λE l=>(((aT l (Addr.add g 10) [d.v])/\(True/\(True/\(True/\True))))/\bq [yN,(yI x.Cursor),G.v,(yI x.qC),(yI x.gl),(yP F),(yP E)] (λa1 m=>(((aT m (Addr.add g 10) [d.v])/\True)/\bq [(yP (some a1))] (λa2 u=>(((aT u (Addr.add g 10) [d.v])/\True)/\fP 1 8 [(yP none)] d ⟨(some a2),1,1⟩ (λq i=>ag none (some a) λn=>cq i (Addr.add n 10) [q.v] (λB=>K (yw (y+1)) B)) u)) m)) l)) f)) e) D)
 else
 ay (α1:=Int) (λL b e=>(if decide (b<(s.aM.len:Int)) then
 bP (λk=>((bD s.aM.base s.aM.len b)/\aQ none bY e (sat s.aM.base 15 b) λx=>ag none (some a) λg=>aQ none al e (Addr.add (Addr.add g 0) 6) λd=>((bD d.base d.len b)/\aQ none bJ e (sat d.base 2 b) λz=>aZ P Lh [(yI c.gQ),x.iI.v,(yI x.Cursor)] aj yH (λF r8 f=>ag none (some a) λn=>cN f n 11 λH=>bq [(yI b),(yI z.Part),z.Code.v,(yI x.State),(yI x.PC),(yI x.cC),(yI x.cD),(yI x.cE),(yI x.cF),(yI x.cG),(yI x.cH),(yI x.cI),(yI x.cJ),(.bool x.lR),(yP F)] (λa1 l=>(((aT l (Addr.add n 11) [H.v])/\True)/\bq [(yP (some a1))] (λa2 m=>(((aT m (Addr.add n 11) [H.v])/\True)/\fP 1 8 [(yP none)] H ⟨(some a2),1,1⟩ (λG u=>ag none (some a) λX=>cq u (Addr.add X 11) [G.v] (λi=>ag none (some a) λY=>cN i Y 10 λI=>((bD I.base I.len z.Part)/\aQ none aj i (sat I.base 1 z.Part) λA=>ag none A λZ=>cN i Z 0 λx6=>bq [(yI b)] (λa3 B=>fP 1 8 [(yI 0)] x6 ⟨(some a3),1,1⟩ (λE N=>ag none A λp7=>cq N (Addr.add p7 0) [E.v] (λC=>bP (λJ=>(if decide (x.Timer>0) then
 ag none A λo=>lO C o 6 λt=>aa P vn [(yI b)] yH (λq j=>(((aT j (Addr.add o 6) [(yP t)])/\(True/\True))/\aa P vj [(yP t),(yI q),(yI x.Timer)] yH (λa8 w=>J w) j)) C
 else
 J C))
 (λj=>(if decide (x.qH>0) then
 ag none A λo=>lO j o 6 λt=>aa P wx [(yI b)] yH (λq w=>(((aT w (Addr.add o 6) [(yP t)])/\(True/\True))/\aa P vj [(yP t),(yI q),(yI x.qH)] yH (λa8 O=>k O) w)) j
 else
 k j)))) B) i))) m)) l)) f) e)))
 (λf=>L (yw (b+1)) f)
 else
 Q (some a) e)) 0 D)) 0 V)) T)) R) M)) h
def SK (P:Program) (c:aw) (Q:(aU->(Hp->Prop))) (h:Hp):Prop:=
 (dw 96 [(yI 0),yN,(yI 0),(yI 0),yN,yN] (c.aN.len:Int) (c.aN.len:Int) (λr q=>((True/\True)/\dw 136 [(yI 0),(yI 0),(yI 0),(yI 0),(yI 0),(yI 0),(yI 0),(yI 0),(yI 0),(yI 0),(yI 0),(yI 0),(.bool false),(yI 0),yN] (c.aM.len:Int) (c.aM.len:Int) (λd s=>ay (α1:=Int) (λo b n=>(if decide (b<(r.len:Int)) then
 bP (λk=>(bq [(yI (-1))] (λa e=>((True/\(True/\(True/\(True/\True))))/\(aa P rI [(.slice (some a) 1 1),(yI c.bG)] al (λr2 g=>((True/\(True/\(True/\True)))/\((bD r.base r.len b)/\(dw 24 [yN] c.bG c.bG (λl f=>((True/\(True/\True))/\cq f (Addr.add (sat r.base 6 b) 4) [r2.v] (λi=>((True/\True)/\((bD r.base r.len b)/\cq i (Addr.add (sat r.base 6 b) 5) [l.v] (λj=>k j)))))) g/\cq g (Addr.add (sat r.base 6 b) 4) [r2.v] (λf=>((True/\(True/\True))/\dw 24 [yN] c.bG c.bG (λl i=>((True/\(True/\True))/\((bD r.base r.len b)/\cq i (Addr.add (sat r.base 6 b) 5) [l.v] (λj=>k j)))) f)))))) e/\dw 24 [yN] c.bG c.bG (λr2 g=>((True/\(True/\(True/\True)))/\aa P rI [(.slice (some a) 1 1),(yI c.bG)] al (λl f=>((True/\(True/\(True/\True)))/\((bD r.base r.len b)/\cq f (Addr.add (sat r.base 6 b) 4) [l.v] (λi=>((True/\(True/\True))/\((bD r.base r.len b)/\cq i (Addr.add (sat r.base 6 b) 5) [r2.v] (λj=>k j))))))) g)) e))) n/\dw 24 [yN] c.bG c.bG (λr2 e=>((True/\(True/\(True/\True)))/\bq [(yI (-1))] (λa g=>((True/\(True/\(True/\(True/\True))))/\aa P rI [(.slice (some a) 1 1),(yI c.bG)] al (λl f=>((True/\(True/\(True/\True)))/\((bD r.base r.len b)/\cq f (Addr.add (sat r.base 6 b) 4) [l.v] (λi=>((True/\(True/\True))/\((bD r.base r.len b)/\cq i (Addr.add (sat r.base 6 b) 5) [r2.v] (λj=>k j))))))) g)) e)) n))
 (λe=>o (yw (b+1)) e)
 else
 ay (α1:=Int) (λp m e=>(if decide (m<(d.len:Int)) then
 dw 64 [yN,yN,(yI 0),(yI 0)] (yw ((c.aN.len:Int)+1)) (yw ((c.aN.len:Int)+1)) (λr2 g=>((True/\True)/\((bD d.base d.len m)/\cq g (Addr.add (sat d.base 15 m) 14) [r2.v] (λf=>p (yw (m+1)) f)))) e
 else
 Q ⟨0,r,d⟩ e)) 0 n)) 0 s) q)) h/\dw 136 [(yI 0),(yI 0),(yI 0),(yI 0),(yI 0),(yI 0),(yI 0),(yI 0),(yI 0),(yI 0),(yI 0),(yI 0),(.bool false),(yI 0),yN] (c.aM.len:Int) (c.aM.len:Int) (λr q=>((True/\True)/\dw 96 [(yI 0),yN,(yI 0),(yI 0),yN,yN] (c.aN.len:Int) (c.aN.len:Int) (λd s=>((True/\True)/\ay (α1:=Int) (λo b n=>(if decide (b<(d.len:Int)) then
 bP (λk=>(bq [(yI (-1))] (λa e=>((True/\(True/\(True/\(True/\True))))/\(aa P rI [(.slice (some a) 1 1),(yI c.bG)] al (λr2 g=>((True/\(True/\(True/\True)))/\((bD d.base d.len b)/\(dw 24 [yN] c.bG c.bG (λl f=>((True/\(True/\True))/\cq f (Addr.add (sat d.base 6 b) 4) [r2.v] (λi=>((True/\True)/\((bD d.base d.len b)/\cq i (Addr.add (sat d.base 6 b) 5) [l.v] (λj=>k j)))))) g/\cq g (Addr.add (sat d.base 6 b) 4) [r2.v] (λf=>((True/\(True/\True))/\dw 24 [yN] c.bG c.bG (λl i=>((True/\(True/\True))/\((bD d.base d.len b)/\cq i (Addr.add (sat d.base 6 b) 5) [l.v] (λj=>k j)))) f)))))) e/\dw 24 [yN] c.bG c.bG (λr2 g=>((True/\(True/\(True/\True)))/\aa P rI [(.slice (some a) 1 1),(yI c.bG)] al (λl f=>((True/\(True/\(True/\True)))/\((bD d.base d.len b)/\cq f (Addr.add (sat d.base 6 b) 4) [l.v] (λi=>((True/\(True/\True))/\((bD d.base d.len b)/\cq i (Addr.add (sat d.base 6 b) 5) [r2.v] (λj=>k j))))))) g)) e))) n/\dw 24 [yN] c.bG c.bG (λr2 e=>((True/\(True/\(True/\True)))/\bq [(yI (-1))] (λa g=>((True/\(True/\(True/\(True/\True))))/\aa P rI [(.slice (some a) 1 1),(yI c.bG)] al (λl f=>((True/\(True/\(True/\True)))/\((bD d.base d.len b)/\cq f (Addr.add (sat d.base 6 b) 4) [l.v] (λi=>((True/\(True/\True))/\((bD d.base d.len b)/\cq i (Addr.add (sat d.base 6 b) 5) [r2.v] (λj=>k j))))))) g)) e)) n))
 (λe=>o (yw (b+1)) e)
 else
 ay (α1:=Int) (λp m e=>(if decide (m<(r.len:Int)) then
 dw 64 [yN,yN,(yI 0),(yI 0)] (yw ((c.aN.len:Int)+1)) (yw ((c.aN.len:Int)+1)) (λr2 g=>((True/\True)/\((bD r.base r.len m)/\cq g (Addr.add (sat r.base 15 m) 14) [r2.v] (λf=>p (yw (m+1)) f)))) e
 else
 Q ⟨0,d,r⟩ e)) 0 n)) 0 s)) q)) h)
def Rd (P:Program) (l:Option Addr) (Q:(Sl->(Sl->(Hp->Prop)))) (h:Hp):Prop:=
 ag none l λp=>cN h p 0 λx=>jH (α1:=Sl) (α2:=Sl) (α3:=Int) (λe ax an b c=>(if decide (b<(x.len:Int)) then
 ((bD x.base x.len b)/\aQ none eD c (sat x.base 2 b) λd=>bq [(yI d.owner)] (λa f=>fP 1 8 [(yI 0)] ⟨ax.base,ax.len,ax.cap⟩ ⟨(some a),1,1⟩ (λr g=>aa P Kz [d.queue.v] al (λm i=>bq [m.v] (λa1 j=>fP 1 24 [yN] ⟨an.base,an.len,an.cap⟩ ⟨(some a1),1,1⟩ (λr2 k=>e r r2 (yw (b+1)) k) j) i) g) f) c)
 else
 Q ⟨ax.base,ax.len,ax.cap⟩ ⟨an.base,an.len,an.cap⟩ c)) ⟨none,0,0⟩ ⟨none,0,0⟩ 0 h
def NC (P:Program) (s:Sl) (Q:(Sl->(Hp->Prop))) (h:Hp):Prop:=
 iz none P (cW .eql 83 (.tmp 3) (.const yN) s.v yN) bu h λx=>(if x then
 Q ⟨none,0,0⟩ h
 else
 bq [] (λa b=>fP 3 24 [(yI 0),(yI 0),(yI 0)] ⟨(some a),0,0⟩ s (λr c=>Q r c) b) h)
def RH (P:Program) (p:Option Addr) (Q:(Sl->(Int->(Hp->Prop)))) (h:Hp):Prop:=
 ag none p λj=>cN h j 0 λx=>bQ (α1:=Sl) (α2:=Int) (λe out c b=>(if decide (c<(x.len:Int)) then
 ((bD x.base x.len c)/\aQ none aj b (sat x.base 1 c) λd=>aa P RC [(yP d)] bS (λr f=>bq [r.dD.v,r.dR.v,(yI r.cO),(yI r.iY)] (λa g=>fP 4 64 [yN,yN,(yI 0),(yI 0)] ⟨out.base,out.len,out.cap⟩ ⟨(some a),1,1⟩ (λl i=>e l (yw (c+1)) i) g) f) b)
 else
 ag none p λk=>fb b k 1 λd=>Q ⟨out.base,out.len,out.cap⟩ d b)) ⟨none,0,0⟩ 0 h
def KK (P:Program) (w:Option Addr) (df:Int) (Q:(Int->(Bool->(Hp->Prop)))) (h:Hp):Prop:=
 ag none w λp=>aQ none dI h (Addr.add p 1) λx=>lS none (.int .i64) aO (.agg #[(yI 0),(yI 0)]) x (yI df) h λa ok=>Q a.due ok h
def KR (P:Program) (p:Int) (Q:(Int->(Hp->Prop))) (h:Hp):Prop:=
 Q (yw (2*p)) h
def KS (P:Program) (p:Int) (Q:(Int->(Hp->Prop))) (h:Hp):Prop:=
 Q (yw ((yw (2*p))+1)) h
def QV (P:Program) (w:Option Addr) (Q:(Hp->Prop)) (h:Hp):Prop:=
 ag none w λp=>lO h p 7 λx=>aa P Xh [(yP x)] AS (λr F=>ay (α1:=Int) (λE i s=>(if decide (i<(r.aM.len:Int)) then
 ((bD r.aM.base r.aM.len i)/\aQ none bY s (sat r.aM.base 15 i) λe=>ay (α1:=Int) (λq j d=>(if decide (j<(e.iI.len:Int)) then
 ((bD e.iI.base e.iI.len j)/\aQ none bS d (sat e.iI.base 4 j) λz=>bx P Ro [(yP w),(.agg #[(yI i),(yI j)]),z.v] (λb=>q (yw (j+1)) b) d)
 else
 E (yw (i+1)) d)) 0 s)
 else
 ay (α1:=Int) (λq c d=>(if decide (c<(r.aM.len:Int)) then
 bP (λk=>ag none w λI=>aQ none al d (Addr.add (Addr.add I 0) 6) λe=>((bD e.base e.len c)/\aQ none yH d (Addr.add (sat e.base 2 c) 0) λz=>aa P FJ [r.v,(yI z),(yI c)] yH (λn b=>ag none w λJ=>aQ none dI b (Addr.add J 13) λM=>lS none (.int .i64) eC (.agg #[(yI 0),(yI 0)]) M (yI c) b λA ok=>aG (ok&&(A.lock==n)) λy=>(if y then
 k b
 else
 bP (λD=>(if ok then
 ag none w λt=>cN b t 11 λl=>ag none w λu=>fb b u 8 λB=>((bD l.base l.len A.tH)/\cq b (Addr.add (sat l.base 4 A.tH) 3) [(yI B)] (λf=>ag none w λm=>aQ none dI f (Addr.add m 13) λo=>sj (.int .i64) o (yI c) (λg=>D g) f))
 else
 D b))
 (λf=>(if decide (n>=0) then
 ag none w λt=>aQ none dI f (Addr.add t 13) λl=>ag none w λu=>cN f u 11 λB=>yu (.int .i64) l (yI c) (.agg #[(yI n),(yI (B.len:Int))]) (λg=>ag none w λm=>cN g m 11 λo=>ag none w λK=>fb g K 8 λN=>bq [(yI c),(yI n),(yI N),(yI (-1))] (λa C=>(((aT C (Addr.add m 11) [o.v])/\True)/\fP 4 32 [(yI 0),(yI 0),(yI 0),(yI 0)] o ⟨(some a),1,1⟩ (λr2 G=>ag none w λL=>cq G (Addr.add L 11) [r2.v] (λH=>k H)) C)) g) f
 else
 k f)))) d))
 (λb=>q (yw (c+1)) b)
 else
 Q d)) 0 s)) 0 F) h
def KA (P:Program) (m:Option Addr) (Q:(Int->(Hp->Prop))) (h:Hp):Prop:=
 ag none m λp=>lO h p 8 λx=>ag none m λC=>fb h C 9 λL=>aa P XF [(yP x),(yI L)] yH (λr f=>ag none m λF=>cN f F 10 λj=>((bD j.base j.len r)/\aQ none aj f (sat j.base 1 r) λb=>bx P QF [(yP m),(yP b)] (λs=>ag none m λG=>aQ none yH s (Addr.add (Addr.add G 0) 2) λN=>bP (λk=>ay (α1:=Int) (λy t c=>(if decide (t<N) then
 ag none b λg=>cN c g 0 λl=>ay (α1:=Int) (λz d a=>(if decide (d<(l.len:Int)) then
 ag none b λi=>fb a i 1 λn=>ag none b λH=>cN a H 0 λe=>((e.len:Int)≠0/\ag none m λI=>cN a I 11 λo=>ag none b λJ=>cN a J 0 λq=>((bD q.base q.len (Int.tmod (yw (n+d)) (e.len:Int)))/\aQ none yH a (sat q.base 1 (Int.tmod (yw (n+d)) (e.len:Int))) λu=>((bD o.base o.len u)/\aQ none aj a (sat o.base 1 u) λv=>ag none v λK=>fb a K 3 λM=>(if (M==0)=true then
 ag none b λD=>cN a D 0 λw=>((w.len:Int)≠0/\ag none b λE=>cq a (Addr.add E 1) [(yI (Int.tmod (yw ((Int.tmod (yw (n+d)) (e.len:Int))+1)) (w.len:Int)))] (λA=>bx P Qn [(yP m),(yP v)] (λB=>y (yw (t+1)) B) A))
 else
 z (yw (d+1)) a))))
 else
 k a)) 0 c
 else
 k c)) 0 s)
 (λc=>ag none m λg=>fb c g 9 λl=>ag none m λi=>cq c (Addr.add i 9) [(yI (yw (l+1)))] (λa=>Q r a))) f)) h
def Kv (P:Program) (m:Option Addr) (p:Int) (v:Int) (Q:(Int->(Hp->Prop))) (h:Hp):Prop:=
 aa P Xj [(yP m),(yI p)] yH (λr a=>(if (r !=0)=true then
 Q r a
 else
 ag none m λg=>cN a g 11 λx=>((bD x.base x.len p)/\aQ none aj a (sat x.base 1 p) λd=>ag none m λi=>cN a i 10 λf=>ag none d λj=>lO a j 14 λl=>aa P KO [(yP l),(yI (f.len:Int)),(yI v)] yH (λe b=>(if (e !=0)=true then
 ag none d λk=>lO b k 14 λn=>bx P GF [(yP n),(yI (f.len:Int))] (λc=>Q e c) b
 else
 bx P F0 [(yP m),(yP d)] (λc=>Q 0 c) b)) a))) h
def Ii (P:Program) (table:Sl) (parts:Int) (Q:(Option Addr->(Int->(Int->(Hp->Prop))))) (h:Hp):Prop:=
 bq [(yI parts)] (λa b=>aQ none yH b a λx=>aQ (some (!(decide (x<1)))) yH b a λi=>aG ((decide (x<1)) || (decide (i>8))) λy=>aG (y || ((table.len:Int)==0)) λj=>(if j then
 Q none 1 0 b
 else
 (if decide ((table.len:Int)>64) then
 Q none 3 64 b
 else
 aa P W8 [table.v,(.func (.func 117) #[] #[(yP (some a))])] yH (λr c=>(if decide (r>=0) then
 Q none 2 r c
 else
 aQ none yH c a λe=>aa P Kz [table.v] al (λg d=>(((aT d a [(yI e)])/\True)/\bq [g.v,(yI e)] (λa1 f=>Q (some a1) 0 0 f) d)) c)) b))) h
def RI (P:Program) (s:Option Addr) (part:Int) (Q:(Int->(Hp->Prop))) (h:Hp):Prop:=
 ag none s λp=>cN h p 0 λx=>aa P FB [x.v,(yI part)] bu (λr e=>(if (!r)=true then
 Q 0 e
 else
 ag none s λm=>cN e m 0 λt=>bQ (α1:=Int) (α2:=Int) (λj n9 d f=>(if decide (d<(t.len:Int)) then
 bL (α1:=Int) (λk=>ag none s λn=>cN f n 0 λu=>bQ (α1:=Int) (α2:=Int) (λl b c a=>(if decide (c<(u.len:Int)) then
 ag none s λo=>cN a o 0 λg=>ag none s λq=>cN a q 0 λi=>((i.len:Int)≠0/\((bD g.base g.len (Int.tmod (yw (d+c)) (i.len:Int)))/\aQ none yH a (sat g.base 1 (Int.tmod (yw (d+c)) (i.len:Int))) λw=>(if (w==part)=true then
 k (iq b (yw (c+1))) a
 else
 l b (yw (c+1)) a)))
 else
 k b a)) n9 0 f)
 (λb a=>j b (yw (d+1)) a)
 else
 Q n9 f)) 0 0 e)) h
def Gr (P:Program) (x:Int) (y:Int) (Q:(Int->(Int->(Hp->Prop)))) (h:Hp):Prop:=
 ((0:Int)<=(32:Int)/\((0:Int)<=(32:Int)/\((0:Int)<=(32:Int)/\((0:Int)<=(32:Int)/\((0:Int)<=(32:Int)/\Q (IntKind.wrap .u64 ((IntKind.wrap .u64 ((IntKind.wrap .u64 ((fW .u64 x (32:Int))*(fW .u64 y (32:Int))))+(fW .u64 (IntKind.wrap .u64 ((IntKind.wrap .u64 ((fW .u64 x (32:Int))*(de .and .u64 y (4294967295:Int))))+(fW .u64 (IntKind.wrap .u64 ((de .and .u64 x (4294967295:Int))*(de .and .u64 y (4294967295:Int)))) (32:Int)))) (32:Int))))+(fW .u64 (IntKind.wrap .u64 ((de .and .u64 (IntKind.wrap .u64 ((IntKind.wrap .u64 ((fW .u64 x (32:Int))*(de .and .u64 y (4294967295:Int))))+(fW .u64 (IntKind.wrap .u64 ((de .and .u64 x (4294967295:Int))*(de .and .u64 y (4294967295:Int)))) (32:Int)))) (4294967295:Int))+(IntKind.wrap .u64 ((de .and .u64 x (4294967295:Int))*(fW .u64 y (32:Int)))))) (32:Int)))) (IntKind.wrap .u64 (x*y)) h)))))
def QW (P:Program) (table:Sl) (parts:Int) (Q:(Option Addr->(Int->(Int->(Hp->Prop))))) (h:Hp):Prop:=
 aG ((decide (parts<1)) || (decide (parts>8))) λy=>aG (y || ((table.len:Int)==0)) λj=>(if j then
 Q none 1 0 h
 else
 (if decide ((table.len:Int)>64) then
 Q none 3 64 h
 else
 ay (α1:=Int) (λc i b=>(if decide (i<(table.len:Int)) then
 ((bD table.base table.len i)/\aQ none yH b (sat table.base 1 i) λx=>(((!(decide (x<0)))=true->(bD table.base table.len i))/\aQ (some (!(decide (x<0)))) yH b (sat table.base 1 i) λg=>aG ((decide (x<0)) || (decide (g>=parts))) λk=>(if k then
 Q none 2 i b
 else
 c (yw (i+1)) b)))
 else
 bq [] (λa d=>fP 1 8 [(yI 0)] ⟨(some a),0,0⟩ table (λr e=>bq [r.v] (λa1 f=>Q (some a1) 0 0 f) e) d) b)) 0 h))
def OB (P:Program) (s:Option Addr) (part:Int) (Q:(Int->(Hp->Prop))) (h:Hp):Prop:=
 ag none s λp=>cN h p 0 λx=>aa P Ks [(yP s),(yI part),(yI (x.len:Int))] yH (λr b=>(if (r==0)=true then
 Q 0 b
 else
 ay (α1:=Int) (λc g e=>bQ (α1:=Bool) (α2:=Int) (λd all from_ a=>ag none s λi=>cN a i 0 λk=>(if decide (from_<(k.len:Int)) then
 aa P W6 [(yP s),(yI part),(yI from_),(yI (yw (from_+g)))] yH (λj f=>aG (all&&(decide (j>0))) λy=>d y (yw (from_+1)) f) a
 else
 (if all then
 Q g a
 else
 c (yw (g+1)) a))) true 0 e) 1 b)) h
def QY (P:Program) (a:Int) (n:Int) (Q:(Bool->(Hp->Prop))) (h:Hp):Prop:=
 aG ((decide (n>=0))&&(decide (n<=63))) λy=>((y=true->0<=n)/\aG (y&&((de .and .u64 (fW .u64 a n) 1)==1)) λb=>Q b h)
def Qx (P:Program) (x:bc) (n:Int) (ai:Int) (Q:(Int->(Hp->Prop))) (h:Hp):Prop:=
 aZ P Qp [x.v,(yI n),(yI ai)] yH yH (λr b a=>Q r a) h
def Tz (P:Program) (part:Int) (n:Int) (Q:(Int->(Hp->Prop))) (h:Hp):Prop:=
 (if (part==2)=true then
 aa P CB [(yI n),(yI 1),(yI 256)] bu (λr a=>(if (!r)=true then
 Q 2 a
 else
 Q 0 a)) h
 else
 (if (part==3)=true then
 aa P CB [(yI n),(yI 1),(yI 64)] bu (λr a=>(if (!r)=true then
 Q 2 a
 else
 Q 0 a)) h
 else
 (if (part==4)=true then
 aa P CB [(yI n),(yI 0),(yI 8)] bu (λr a=>(if (!r)=true then
 Q 2 a
 else
 Q 0 a)) h
 else
 (if (part==5)=true then
 aa P CB [(yI n),(yI 0),(yI 4096)] bu (λr a=>(if (!r)=true then
 Q 2 a
 else
 Q 0 a)) h
 else
 Q 0 h))))
def VP (P:Program) (n:Int) (kH:Int) (Q:(Int->(Hp->Prop))) (h:Hp):Prop:=
 (if (n==0)=true then
 Q 1 h
 else
 (if decide (n>kH) then
 Q 3 h
 else
 Q 0 h))
def Ij (P:Program) (l:Sl) (Q:(Int->(Int->(Hp->Prop)))) (h:Hp):Prop:=
 (if ((l.len:Int)==0)=true then
 Q 1 0 h
 else
 (if decide ((l.len:Int)>8) then
 Q 3 8 h
 else
 ay (α1:=Int) (λb i a=>(if decide (i<(l.len:Int)) then
 ((bD l.base l.len i)/\aQ none (ae .u64) a (sat l.base 1 i) λx=>((bD l.base l.len (yw (i-1)))/\aQ none (ae .u64) a (sat l.base 1 (yw (i-1))) λc=>(if (x==c)=true then
 Q 8 i a
 else
 ((bD l.base l.len i)/\aQ none (ae .u64) a (sat l.base 1 i) λd=>((bD l.base l.len (yw (i-1)))/\aQ none (ae .u64) a (sat l.base 1 (yw (i-1))) λe=>(if decide (d<e) then
 Q 7 i a
 else
 b (yw (i+1)) a))))))
 else
 Q 0 0 a)) 1 h))
def TB (P:Program) (n:Int) (from_:Int) (to:Int) (Q:(Bool->(Hp->Prop))) (h:Hp):Prop:=
 aG ((decide (n>=from_))&&(decide (n<=to))) λy=>Q y h
def zN (P:Program) (l:Sl) (ai:Int) (Q:(Int->(Int->(Hp->Prop)))) (h:Hp):Prop:=
 aG ((decide (ai<0)) || (decide (ai>8))) λy=>(if y then
 Q 1 0 h
 else
 (if decide ((l.len:Int)>256) then
 Q 3 256 h
 else
 ay (α1:=Int) (λd a b=>(if decide (a<(l.len:Int)) then
 ((bD l.base l.len a)/\aQ none be b (sat l.base 5 a) λx=>aa P Uw [x.v,(yI (l.len:Int)),(yI ai)] yH (λr c=>(if (r !=0)=true then
 Q r a c
 else
 d (yw (a+1)) c)) b)
 else
 Q 0 0 b)) 0 h))
def Sa (P:Program) (c:aw) (Q:(aw->(Hp->Prop))) (h:Hp):Prop:=
 aa P N6 [c.aN.v] al (λr e=>((True/\(True/\True))/\aa P Kz [c.Table.v] al (λk f=>((True/\True)/\aa P WU [c.aM.v] al (λr2 g=>ay (α1:=Int) (λd a b=>(if decide (a<(r2.len:Int)) then
 ((bD r2.base r2.len a)/\aQ none bJ b (sat r2.base 2 a) λx=>aa P WZ [x.Code.v] al (λl i=>((True/\True)/\((bD r2.base r2.len a)/\cq i (Addr.add (sat r2.base 2 a) 1) [l.v] (λj=>d (yw (a+1)) j)))) b)
 else
 Q ⟨r,k,c.Fuel,c.gQ,c.bG,c.Log,r2⟩ b)) 0 g) f)) e)) h
def Ik (P:Program) (l:Sl) (Q:(Option Addr->(Int->(Int->(Hp->Prop))))) (h:Hp):Prop:=
 aZ P K6 [l.v] yH yH (λr m d=>(if (r !=0)=true then
 Q none r m d
 else
 aa P N6 [l.v] al (λr2 g=>BP  (λn i=>bq [r2.v,(.map n)] (λa e=>ag none (some a) λp=>cN e p 0 λx=>ay (α1:=Int) (λf b c=>(if decide (b<(x.len:Int)) then
 ((bD x.base x.len b)/\aQ none (ae .u64) c (sat x.base 1 b) λo=>ag none (some a) λk=>aQ none dI c (Addr.add k 1) λq=>yu (.int .u64) q (.int .u64 o) (yI b) (λj=>f (yw (b+1)) j) c)
 else
 Q (some a) 0 0 c)) 0 e) i) g) d)) h
def VQ (P:Program) (ax:Sl) (an:Sl) (Q:(Option Addr->(Int->(Hp->Prop)))) (h:Hp):Prop:=
 aG ((decide ((ax.len:Int)>8)) || (decide ((an.len:Int)>8))) λy=>(if y then
 Q none 3 h
 else
 (if ((ax.len:Int) !=(an.len:Int))=true then
 Q none 4 h
 else
 bq [yN] (λa w=>ay (α1:=Int) (λt b c=>(if decide (b<(ax.len:Int)) then
 ((bD ax.base ax.len b)/\aQ none yH c (sat ax.base 1 b) λx=>((((!(decide (x<(-1))))&&(x==(-1)))=true->(bD an.base an.len b))/\aQ (some ((!(decide (x<(-1))))&&(x==(-1)))) al c (sat an.base 1 b) λE=>aG ((x==(-1))&&(decide ((E.len:Int)>0))) λy1=>aG ((decide (x<(-1))) || y1) λG=>(if G then
 Q none 4 c
 else
 ag none (some a) λp=>cN c p 0 λF=>bq [(yI x),yN] (λa1 A=>fP 2 32 [(yI 0),yN] F ⟨(some a1),1,1⟩ (λr B=>ag none (some a) λC=>cq B (Addr.add C 0) [r.v] (λn=>((bD an.base an.len b)/\aQ none al n (sat an.base 1 b) λj=>ay (α1:=Int) (λu i l=>(if decide (i<(j.len:Int)) then
 ((bD j.base j.len i)/\aQ none yH l (sat j.base 1 i) λk=>aZ P KC [(yP (some a)),(yI k)] yH bu (λJ r2 d=>aG (r2 || (decide (k<0))) λH=>aG (H || (k==x)) λI=>(if I then
 Q none 4 d
 else
 ag none (some a) λm=>cN d m 0 λe=>ag none (some a) λq=>cN d q 0 λf=>((bD f.base f.len b)/\aQ none al d (Addr.add (sat f.base 2 b) 1) λs=>bq [(yI k)] (λa2 g=>(((aT g (Addr.add m 0) [e.v])/\((aT g (Addr.add q 0) [f.v])/\((aT g (Addr.add (sat f.base 2 b) 1) [s.v])/\True)))/\fP 1 8 [(yI 0)] s ⟨(some a2),1,1⟩ (λD o=>(((aT o (Addr.add m 0) [e.v])/\True)/\((bD e.base e.len b)/\cq o (Addr.add (sat e.base 2 b) 1) [D.v] (λz=>u (yw (i+1)) z)))) g)) d))) l)
 else
 t (yw (b+1)) l)) 0 n))) A) c)))
 else
 Q (some a) 0 c)) 0 w) h))
def K8 (P:Program)  (Q:(Option Addr->(Hp->Prop))) (h:Hp):Prop:=
 BP  (λr b=>bq [yN,(.map r)] (λa c=>Q (some a) c) b) h
def zO (P:Program) (room:Int) (l:Sl) (af:Int) (Q:(Option Addr->(Int->(Hp->Prop)))) (h:Hp):Prop:=
 aG ((decide ((l.len:Int)<1)) || (decide ((l.len:Int)>9))) λy=>aG (y || (decide (room<1))) λo=>aG (o || (decide (room>64))) λq=>(if q then
 Q none 1 h
 else
 aG ((decide (af<0)) || (decide (af>=(l.len:Int)))) λs=>(if s then
 Q none 2 h
 else
 bq [yN,(yI af)] (λa f=>ay (α1:=Int) (λe b c=>(if decide (b<(l.len:Int)) then
 ((bD l.base l.len b)/\aQ none bS c (sat l.base 4 b) λx=>aZ P zF [(yI room),x.v] aj yH (λr m d=>(if (m !=0)=true then
 Q none 4 d
 else
 ag none (some a) λp=>cN d p 0 λn=>bq [(yP r)] (λa1 g=>fP 1 8 [(yP none)] n ⟨(some a1),1,1⟩ (λr2 i=>ag none (some a) λk=>cq i (Addr.add k 0) [r2.v] (λj=>e (yw (b+1)) j)) g) d)) c)
 else
 Q (some a) 0 c)) 0 f) h))
def KL (P:Program) (w:Option Addr) (df:Int) (due:Int) (Q:(Int->(Hp->Prop))) (h:Hp):Prop:=
 aG ((decide (df<0)) || (decide (due<0))) λy=>(if y then
 Q 1 h
 else
 aa P Ai [(yP w),(yI df)] bu (λr b=>ag none w λp=>cN b p 0 λx=>aZ P Ko [x.v,(.agg #[(yI due),(yI df)]),(.func (.func 134) #[] #[])] yH bu (λm r2 c=>ag none w λf=>cN c f 0 λg=>bq [(yI due),(yI df)] (λa d=>(((aT d (Addr.add f 0) [g.v])/\True)/\aa P Nl [g.v,(yI m),(.slice (some a) 1 1)] al (λn i=>ag none w λk=>cq i (Addr.add k 0) [n.v] (λe=>ag none w λl=>aQ none dI e (Addr.add l 1) λo=>yu (.int .i64) o (yI df) (.agg #[(yI due),(yI df)]) (λj=>Q 0 j) e)) d)) c) b) h)
def PO (P:Program) (x:Sl) (count:Int) (Q:(Sl->(Hp->Prop))) (h:Hp):Prop:=
 bP (λk=>(if decide (count<0) then
 False
 else
 k h))
 (λd=>aZ P SD [(.int .u64 (IntKind.wrap .u64 (x.len:Int))),(.int .u64 (IntKind.wrap .u64 count))] (ae .u64) (ae .u64) (λr a e=>bP (λk=>aG ((decide (r>0)) || (decide (a>9223372036854775807))) λy=>(if y then
 False
 else
 k e))
 (λf=>dw 8 [(yI 0)] (yw a) (yw a) (λr2 g=>fq 1 r2 x (λl i=>ay (α1:=Int) (λc n b=>(if decide (n<(r2.len:Int)) then
 ((0<=n/\n<=(r2.len:Int))/\aG (α:=Sl) ⟨(aS r2.base 1 (Int.toNat n) r2.cap),(r2.len-(Int.toNat n)),(r2.cap-(Int.toNat n))⟩ λy=>((0<=n/\n<=(r2.cap:Int))/\aG (α:=Sl) ⟨(aS r2.base 1 0 r2.cap),((Int.toNat n)-0),(r2.cap-0)⟩ λo=>fq 1 y o (λm j=>c (yw (n+m)) j) b))
 else
 Q r2 b)) l i) g) f)) d)
def Cu (P:Program) (s:Sl) (Q:(Sl->(Hp->Prop))) (h:Hp):Prop:=
 iz none P (cW .eql 23 (.tmp 3) (.const yN) s.v yN) bu h λx=>(if x then
 Q ⟨none,0,0⟩ h
 else
 bq [] (λa b=>fP 1 8 [(yI 0)] ⟨(some a),0,0⟩ s (λr c=>Q r c) b) h)
def RJ (P:Program) (l:Option Addr) (Q:(bM->(Hp->Prop))) (h:Hp):Prop:=
 ag none l λp=>cN h p 1 λx=>ag none l λg=>cN h g 2 λi=>ag none l λc=>fb h c 3 λe=>ag none l λd=>fb h d 4 λf=>aa P Oz [x.v] al (λr a=>(((aT a (Addr.add g 2) [i.v])/\((aT a (Addr.add c 3) [(yI e)])/\((aT a (Addr.add d 4) [(yI f)])/\True)))/\aa P Ny [i.v] al (λj b=>(((aT b (Addr.add c 3) [(yI e)])/\((aT b (Addr.add d 4) [(yI f)])/\True))/\Q ⟨r,j,e,f⟩ b)) a)) h
def Gk (P:Program) (w:Option Addr) (at_:dF) (l:bM) (Q:(Hp->Prop)) (h:Hp):Prop:=
 ag none w λp=>aQ none dI h (Addr.add p 12) λx=>iz none P (Instr.lookup 160 (.map x) at_.v false) dk h λM=>ay (α1:=br) (λC b d=>ag (some (decide ((b.open_.len:Int)>(0:Int)))) w λH=>aQ (some (decide ((b.open_.len:Int)>(0:Int)))) al d (Addr.add H 10) λq=>(((decide ((b.open_.len:Int)>(0:Int)))=true->(bD b.open_.base b.open_.len (0:Int)))/\aQ (some (decide ((b.open_.len:Int)>(0:Int)))) yH d (sat b.open_.base 1 (0:Int)) λB=>(((decide ((b.open_.len:Int)>(0:Int)))=true->(bD q.base q.len B))/\aQ (some (decide ((b.open_.len:Int)>(0:Int)))) yH d (sat q.base 1 B) λN=>aG ((decide ((b.open_.len:Int)>(0:Int)))&&(decide (l.cO>=N))) λy=>(if y then
 ag none w λg=>cN d g 9 λc=>((bD b.open_.base b.open_.len (0:Int))/\aQ none yH d (sat b.open_.base 1 (0:Int)) λf=>ag none w λj=>fb d j 8 λm=>((bD c.base c.len f)/\cq d (Addr.add (sat c.base 5 f) 4) [(yI m)] (λe=>(((0:Int)<=(1:Int)/\((1:Int)<=(b.open_.len:Int)/\((b.open_.len:Int)<=(b.open_.len:Int)/\(b.open_.len:Int)<=(b.open_.cap:Int))))/\aG (α:=Sl) ⟨(aS b.open_.base 1 1 (Int.toNat (b.open_.len:Int))),((Int.toNat (b.open_.len:Int))-1),((Int.toNat (b.open_.len:Int))-1)⟩ λR=>C ⟨b.taken,b.many,R⟩ e))))
 else
 bL (α1:=br) (λk=>(if decide (l.cO<(65535:Int)) then
 bQ (α1:=Int) (α2:=br) (λD i c e=>(if decide (i<(l.dD.len:Int)) then
 ag none w λg=>cN e g 9 λf=>bq [(yI (f.len:Int))] (λa n=>((True/\True)/\fP 1 8 [(yI (0:Int))] ⟨c.open_.base,c.open_.len,c.open_.cap⟩ ⟨(some a),1,1⟩ (λr o=>ag none w λj=>cN o j 9 λm=>ag none w λI=>fb o I 8 λO=>bq [(yI at_.proc),(yI at_.lane),(yI i),(yI O),(yI (-1:Int))] (λa1 s=>(((aT s (Addr.add j 9) [m.v])/\True)/\fP 5 40 [(yI (0:Int)),(yI (0:Int)),(yI (0:Int)),(yI (0:Int)),(yI (0:Int))] m ⟨(some a1),1,1⟩ (λL F=>ag none w λJ=>cq F (Addr.add J 9) [L.v] (λt=>ag none w λz=>cN t z 10 λA=>bq [(yI (yw ((yw (l.cO+i))+(1:Int))))] (λa2 u=>(((aT u (Addr.add z 10) [A.v])/\True)/\fP 1 8 [(yI (0:Int))] A ⟨(some a2),1,1⟩ (λr2 G=>ag none w λK=>cq G (Addr.add K 10) [r2.v] (λE=>D (yw (i+(1:Int))) ⟨c.taken,c.many,r⟩ E)) u)) t)) s)) o) n)) e
 else
 k c e)) (iq (0:Int) (yw (b.many-(yw (l.cO-b.taken))))) b d
 else
 k b d))
 (λc e=>((True/\True)/\ag none w λg=>aQ none dI e (Addr.add g 12) λf=>qD P (Instr.mapUpdate 160 (.map f) at_.v (.agg #[(yI l.cO),(yI (l.dD.len:Int)),c.open_.v])) (λn=>Q n) e)))))) M h
def UG (P:Program) (s:aU) (part:Int) (p:Int) (Q:(Int->(Hp->Prop))) (h:Hp):Prop:=
 bq [(yI p)] (λa b=>aQ none yH b a λx=>((bD s.aM.base s.aM.len x)/\aQ none yH b (Addr.add (sat s.aM.base 15 x) 0) λd=>(if (d !=3)=true then
 Q (-1) b
 else
 ((bD s.eg.base s.eg.len part)/\aQ none al b (Addr.add (sat s.eg.base 6 part) 5) λe=>aa P YV [e.v,(.func (.func 140) #[] #[(yP (some a))])] yH (λr c=>Q r c) b)))) h
def Re (P:Program) (s:Option Addr) (t:Int) (Q:(Int->(Hp->Prop))) (h:Hp):Prop:=
 (if decide (t<0) then
 Q (-1) h
 else
 ag none s λp=>cN h p 0 λx=>ag none s λb=>cN h b 0 λa=>((a.len:Int)≠0/\((bD x.base x.len (Int.tmod t (a.len:Int)))/\aQ none yH h (sat x.base 1 (Int.tmod t (a.len:Int))) λc=>Q c h)))
def QH (P:Program) (m:Option Addr) (x:Option Addr) (Q:(Hp->Prop)) (h:Hp):Prop:=
 ag none x λp=>lO h p 6 λz=>ag none m λq=>fb h q 9 λA=>aa P XQ [(yP z),(yI A)] al (λr o=>ay (α1:=Int) (λn e a=>(if decide (e<(r.len:Int)) then
 bP (λk=>((bD r.base r.len e)/\aQ none yH a (sat r.base 1 e) λi=>ag none m λs=>cN a s 11 λj=>((2:Int)≠(0:Int)/\((bD j.base j.len (yw (Int.tdiv i (2:Int))))/\aQ none aj a (sat j.base 1 (yw (Int.tdiv i (2:Int)))) λb=>ag none b λt=>fb a t 0 λB=>aa P wx [(yI B)] yH (λy c=>(if (i==y)=true then
 ag none b λg=>aQ none eo c (Addr.add g 4) λl=>aa P vp [l.v] eo (λr2 d=>bx P F7 [(yP m),(yP b),r2.v] (λf=>k f) d) c
 else
 ag none b λg=>cq c (Addr.add g 13) [(.bool true)] (λd=>ag none b λu=>fb d u 3 λl=>(if (l==(1:Int))=true then
 ag none b λw=>cq d (Addr.add w 3) [(yI (0:Int))] (λf=>k f)
 else
 k d)))) a))))
 (λc=>n (yw (e+(1:Int))) c)
 else
 Q a)) (0:Int) o) h
def Qy (P:Program) (m:Option Addr) (p:Option Addr) (Q:(Hp->Prop)) (h:Hp):Prop:=
 ag none p λH=>aQ none eo h (Addr.add H 4) λx=>ag none p λI=>cN h I 2 λS=>ag none m λJ=>fb h J 9 λT=>ag none p λK=>fb h K 0 λU=>aZ P zG [x.v,S.v,(yI T),(yI U)] eo Ba (λr d F=>ag none p λL=>cq F (Addr.add L 4) [(yI r.PC),(yI r.cC),(yI r.cD),(yI r.cE),(yI r.cF),(yI r.cG),(yI r.cH),(yI r.cI),(yI r.cJ)] (λu=>ag none m λM=>cN u M 10 λD=>ag none p λN=>fb u N 1 λE=>((bD D.base D.len E)/\aQ none aj u (sat D.base 1 E) λn=>(if (d.Kind==1)=true then
 bx P Qo [(yP m),(yP p),(yI 5)] (λb=>Q b) u
 else
 (if (d.Kind==2)=true then
 bx P PB [(yP m),(yP p),(yI d.To),(yI d.eN)] (λb=>Q b) u
 else
 bL (α1:=Bool) (λk=>(if (d.Kind==3)=true then
 k (d.Kind==3) u
 else
 k (d.Kind==4) u))
 (λR b=>(if R then
 bx P PE [(yP m),(yP p),(.bool (d.Kind==4))] (λc=>Q c) b
 else
 (if (d.Kind==5)=true then
 ag none p λq=>cq b (Addr.add q 13) [(.bool false)] (λc=>ag none n λs=>lO c s 6 λo=>ag none p λf=>fb c f 0 λt=>aa P vn [(yI t)] yH (λr2 e=>(((aT e (Addr.add s 6) [(yP o)])/\True)/\aa P Ai [(yP o),(yI r2)] bu (λA i=>(if decide (d.eN>0) then
 ag none n λl=>lO i l 6 λg=>ag none p λC=>fb i C 0 λy=>ag none m λz=>fb i z 9 λB=>aa P vn [(yI y)] yH (λj w=>(((aT w (Addr.add l 6) [(yP g)])/\((aT w (Addr.add z 9) [(yI B)])/\(True/\True)))/\aa P vj [(yP g),(yI j),(yI (yw (B+(ir d.eN 1099511627776))))] yH (λO G=>Q G) w)) i
 else
 Q i)) e)) c)
 else
 (if (d.Kind==6)=true then
 ag none n λq=>lO b q 6 λo=>ag none p λs=>fb b s 0 λt=>ag none m λf=>fb b f 9 λg=>aa P wx [(yI t)] yH (λr2 c=>(((aT c (Addr.add q 6) [(yP o)])/\((aT c (Addr.add f 9) [(yI g)])/\(True/\True)))/\aa P vj [(yP o),(yI r2),(yI (yw (g+(ir (iq d.eN 1) 1099511627776))))] yH (λA e=>ag none p λl=>cq e (Addr.add l 3) [(yI 4)] (λi=>Q i)) c)) b
 else
 (if (d.Kind==7)=true then
 ag none n λq=>lO b q 5 λo=>ag none p λs=>fb b s 0 λt=>aZ P KG [(yP o),(yI d.To),(yI t)] bu yH (λr2 A c=>(if r2 then
 ag none p λf=>aQ none eo c (Addr.add f 4) λg=>aa P vp [g.v] eo (λj e=>ag none p λl=>cq e (Addr.add l 4) [(yI j.PC),(yI j.cC),(yI j.cD),(yI j.cE),(yI j.cF),(yI j.cG),(yI j.cH),(yI j.cI),(yI j.cJ)] (λi=>Q i)) c
 else
 ag none p λf=>cq c (Addr.add f 3) [(yI 3)] (λe=>Q e))) b
 else
 (if (d.Kind==8)=true then
 ag none n λq=>lO b q 5 λo=>ag none p λs=>fb b s 0 λt=>aa P KD [(yP o),(yI t)] al (λr2 c=>((True/\True)/\aa P FB [r2.v,(yI d.To)] bu (λA e=>(if A then
 ag none n λf=>lO e f 5 λg=>ag none p λl=>fb e l 0 λy=>aZ P Gi [(yP g),(yI d.To),(yI y)] yH yH (λj O i=>bx P zM [(yP m),(yI j)] (λw=>Q w) i) e
 else
 Q e)) c)) b
 else
 (if (d.Kind==9)=true then
 ag none n λq=>cN b q 2 λo=>ag none m λs=>aQ none yH b (Addr.add (Addr.add s 0) 5) λt=>(if decide ((o.len:Int)<t) then
 ag none n λf=>cN b f 2 λg=>ag none m λl=>fb b l 9 λy=>ag none p λC=>fb b C 0 λB=>bq [(yI y),(yI B),(yI d.eN)] (λa c=>(((aT c (Addr.add f 2) [g.v])/\True)/\fP 3 24 [(yI 0),(yI 0),(yI 0)] g ⟨(some a),1,1⟩ (λr2 e=>ag none n λz=>cq e (Addr.add z 2) [r2.v] (λi=>Q i)) c)) b
 else
 ag none n λf=>fb b f 3 λg=>aa P KV [(yI g)] yH (λr2 c=>ag none n λl=>cq c (Addr.add l 3) [(yI r2)] (λe=>Q e)) b)
 else
 Q b)))))))))))) h
def PR (P:Program) (m:Option Addr) (p:Int) (Q:(Int->(Hp->Prop))) (h:Hp):Prop:=
 ag (some (!(decide (p<0)))) m λc=>aQ (some (!(decide (p<0)))) al h (Addr.add c 11) λx=>aG ((decide (p<0)) || (decide (p>=(x.len:Int)))) λy=>(if y then
 Q 17 h
 else
 ag none m λd=>cN h d 11 λa=>((bD a.base a.len p)/\aQ none aj h (sat a.base 1 p) λf=>ag none f λe=>fb h e 3 λg=>aa P KP [(yI g)] bu (λr b=>(if (!r)=true then
 Q 18 b
 else
 Q 0 b)) h))
def KT (P:Program) (p:Option Addr) (lane:Int) (v:Int) (Q:(Int->(Hp->Prop))) (h:Hp):Prop:=
 aa P KJ [(yP p),(yI lane)] bu (λr a=>(if (!r)=true then
 Q 2 a
 else
 ag none p λc=>cN a c 0 λx=>((bD x.base x.len lane)/\aQ none aj a (sat x.base 1 lane) λe=>aa P X6 [(yP e),(yI v)] yH (λd b=>Q d b) a))) h
def KN (P:Program) (p:Option Addr) (lane:Int) (Q:(Hp->Prop)) (h:Hp):Prop:=
 aa P KJ [(yP p),(yI lane)] bu (λr a=>(if r then
 ag none p λc=>cN a c 0 λx=>((bD x.base x.len lane)/\aQ none aj a (sat x.base 1 lane) λd=>bx P R2 [(yP d)] (λb=>Q b) a)
 else
 Q a)) h
def Qz (P:Program) (m:Option Addr) (q:Option Addr) (Q:(Hp->Prop)) (h:Hp):Prop:=
 ag none q λp=>fb h p 3 λx=>(if (x==1)=true then
 ag none q λb=>cq h (Addr.add b 3) [(yI 0)] (λa=>Q a)
 else
 Q h)
def QA (P:Program) (m:Option Addr) (p:Option Addr) (state:Int) (Q:(Hp->Prop)) (h:Hp):Prop:=
 ag none m λM=>cN h M 10 λx=>ag none p λS=>fb h S 1 λE=>((bD x.base x.len E)/\aQ none aj h (sat x.base 1 E) λn=>ag none p λT=>cq h (Addr.add T 3) [(yI state)] (λJ=>ag none p λU=>cq J (Addr.add U 13) [(.bool false)] (λA=>ag none n λV=>cN A V 0 λo=>ay (α1:=Int) (λG k a=>(if decide (k<(o.len:Int)) then
 ((bD o.base o.len k)/\aQ none yH a (sat o.base 1 k) λq=>ag none m λv=>cN a v 11 λe=>((bD e.base e.len q)/\aQ none aj a (sat e.base 1 q) λb=>ag none b λw=>lO a w 14 λz=>ag none p λg=>fb a g 0 λs=>aa P RE [(yP z),(yI s)] bu (λr t=>G (yw (k+1)) t) a))
 else
 ag none n λv=>lO a v 5 λq=>ag none p λw=>fb a w 0 λe=>aa P XR [(yP q),(yI e)] al (λr t=>ay (α1:=Int) (λH l d=>(if decide (l<(r.len:Int)) then
 ((bD r.base r.len l)/\aQ none KU d (sat r.base 2 l) λb=>bx P zM [(yP m),(yI b.cX)] (λf=>H (yw (l+1)) f) d)
 else
 ag none n λg=>lO d g 6 λb=>ag none p λW=>fb d W 0 λz=>aa P vn [(yI z)] yH (λX f=>(((aT f (Addr.add g 6) [(yP b)])/\True)/\aa P Ai [(yP b),(yI X)] bu (λr2 u=>ag none n λD=>lO u D 6 λs=>ag none p λN=>fb u N 0 λx9=>aa P wx [(yI x9)] yH (λY B=>(((aT B (Addr.add D 6) [(yP s)])/\True)/\aa P Ai [(yP s),(yI Y)] bu (λr4 C=>ag none p λO=>lO C O 14 λZ=>aa P X7 [(yP Z)] al (λi K=>ay (α1:=Int) (λI j c=>(if decide (j<(i.len:Int)) then
 ((bD i.base i.len j)/\aQ none aE c (sat i.base 2 j) λF=>ag none m λR=>cN c R 11 λy=>((bD y.base y.len F.cX)/\aQ none aj c (sat y.base 1 F.cX) λa8=>bx P vi [(yP m),(yP a8),(yI 2)] (λL=>I (yw (j+1)) L) c))
 else
 Q c)) 0 K) C) B)) u) f)) d)) 0 t) a)) 0 A)))
def OD (P:Program) (s:Sl) (f:Cm) (Q:(Int->(Hp->Prop))) (h:Hp):Prop:=
 ay (α1:=Int) (λd a b=>(if decide (a<(s.len:Int)) then
 ((bD s.base s.len a)/\aQ none yH b (sat s.base 1 a) λx=>iG P tb (.func (.func f.g) f.first f.captured) [(yI x)] bu (λr c=>(if r then
 Q a c
 else
 d (yw (a+1)) c)) b)
 else
 Q (-1) b)) 0 h
def TE (P:Program) (p:Int) (a1:Addr) (Q:(Bool->(Hp->Prop))) (h:Hp):Prop:=
 aQ (some (!(decide (p<0)))) yH h a1 λx=>aG ((decide (p<0)) || (decide (p>=x))) λy=>Q y h
def OT (P:Program) (s:Sl) (v:Int) (Q:(Bool->(Hp->Prop))) (h:Hp):Prop:=
 aa P Qq [s.v,(yI v)] yH (λr a=>Q (decide (r>=0)) a) h
def OV (P:Program) (s:Option Addr) (part:Int) (n:Int) (Q:(Int->(Hp->Prop))) (h:Hp):Prop:=
 bQ (α1:=Int) (α2:=Int) (λc k i a=>(if decide (i<n) then
 bL (α1:=Int) (λb=>ag none s λp=>cN a p 0 λx=>((bD x.base x.len i)/\aQ none yH a (sat x.base 1 i) λe=>(if (e==part)=true then
 b (yw (k+1)) a
 else
 b k a)))
 (λb d=>c b (yw (i+1)) d)
 else
 Q k a)) 0 0 h
def Od (P:Program) (s:Option Addr) (part:Int) (from_:Int) (to:Int) (Q:(Int->(Hp->Prop))) (h:Hp):Prop:=
 (if decide (to<=from_) then
 Q 0 h
 else
 aa P N8 [(yP s),(yI part),(yI to)] yH (λr a=>aa P N8 [(yP s),(yI part),(yI from_)] yH (λc b=>Q (yw (r-c)) b) a) h)
def QB (P:Program) (x:bc) (n:Int) (ai:Int) (Q:(Int->(Int->(Hp->Prop)))) (h:Hp):Prop:=
 aG ((decide (x.Op<0)) || (decide (x.Op>=34))) λy=>(if y then
 Q 9 0 h
 else
 nR P PH [(yI x.Op)] bu bu bu bu (λr i r2 j g=>aa P Kt [(yI x.A),(.bool r)] yH (λd b=>(if (d !=0)=true then
 Q d 1 b
 else
 aa P Kt [(yI x.B),(.bool i)] yH (λe c=>(if (e !=0)=true then
 Q e 2 c
 else
 aa P Kt [(yI x.C),(.bool r2)] yH (λf a=>(if (f !=0)=true then
 Q f 3 a
 else
 aG ((!j)&&(x.ju !=0)) λk=>(if k then
 Q 11 4 a
 else
 aG ((x.Op==22) || (x.Op==23)) λl=>aG ((decide (x.ju<0)) || (decide (x.ju>n))) λm=>aG (l&&m) λo=>(if o then
 Q 12 4 a
 else
 aG ((x.Op==29) || (x.Op==30)) λp=>aG ((decide (x.ju<0)) || (decide (x.ju>=ai))) λq=>aG (p&&q) λs=>(if s then
 Q 13 4 a
 else
 Q 0 0 a))))) c)) b)) g) h)
def UI (P:Program) (x:bc) (n:Int) (ai:Int) (Q:(Int->(Hp->Prop))) (h:Hp):Prop:=
 aZ P UA [x.v,(yI n),(yI ai)] yH yH (λr b a=>Q r a) h
def Kr (P:Program) (s:Sl) (Q:(Sl->(Hp->Prop))) (h:Hp):Prop:=
 iz none P (cW .eql 22 (.tmp 3) (.const yN) s.v yN) bu h λx=>(if x then
 Q ⟨none,0,0⟩ h
 else
 bq [] (λa b=>fP 1 8 [(.int .u64 0)] ⟨(some a),0,0⟩ s (λr c=>Q r c) b) h)
def WW (P:Program) (s:Sl) (Q:(Sl->(Hp->Prop))) (h:Hp):Prop:=
 iz none P (cW .eql 24 (.tmp 3) (.const yN) s.v yN) bu h λx=>(if x then
 Q ⟨none,0,0⟩ h
 else
 bq [] (λa b=>fP 2 32 [(yI 0),yN] ⟨(some a),0,0⟩ s (λr c=>Q r c) b) h)
def W1 (P:Program) (s:Sl) (Q:(Sl->(Hp->Prop))) (h:Hp):Prop:=
 iz none P (cW .eql 62 (.tmp 3) (.const yN) s.v yN) bu h λx=>(if x then
 Q ⟨none,0,0⟩ h
 else
 bq [] (λa b=>fP 5 40 [(yI 0),(yI 0),(yI 0),(yI 0),(yI 0)] ⟨(some a),0,0⟩ s (λr c=>Q r c) b) h)
def Rf (P:Program) (l:Option Addr) (p:Int) (Q:(Int->(Bool->(Hp->Prop)))) (h:Hp):Prop:=
 ag none l λe=>cN h e 0 λx=>ay (α1:=Int) (λd a b=>(if decide (a<(x.len:Int)) then
 ((bD x.base x.len a)/\aQ none eD b (sat x.base 2 a) λf=>aa P FB [f.queue.v,(yI p)] bu (λr c=>(if r then
 Q a true c
 else
 d (yw (a+1)) c)) b)
 else
 Q 0 false b)) 0 h
def zP (P:Program) (room:Int) (s:bM) (Q:(Option Addr->(Int->(Hp->Prop)))) (h:Hp):Prop:=
 aZ P zH [(yI room)] aj yH (λr c a=>(if (c !=0)=true then
 Q none c a
 else
 aG ((decide ((s.dR.len:Int)>0))&&(decide ((s.dD.len:Int)<room))) λy=>aG ((decide ((s.dD.len:Int)>room)) || y) λd=>dA (some (!d)) (aa P KW [(yI s.cO),(yI 0),(yI 65535)] bu) (λr2 i=>aG (d || (!r2)) λe=>dA (some (!e)) (aa P KW [(yI s.iY),(yI 0),(yI 65535)] bu) (λw j=>aG (e || (!w)) λf=>dA (some (!f)) (aa P FL [s.dR.v] bu) (λr4 b=>aG (f || r4) λA=>(if A then
 Q none 4 b
 else
 aa P Oz [s.dD.v] al (λx k=>((True/\True)/\aa P Ny [s.dR.v] al (λz l=>ag none r λp=>cq l (Addr.add p 1) [x.v] (λm=>ag none r λq=>cq m (Addr.add q 2) [z.v] (λn=>ag none r λt=>cq n (Addr.add t 3) [(yI s.cO)] (λo=>((True/\True)/\ag none r λu=>cq o (Addr.add u 4) [(yI s.iY)] (λg=>Q r 0 g)))))) k)) b)) j) i) a)) h
def KF (P:Program) (w:Option Addr) (df:Int) (Q:(Bool->(Hp->Prop))) (h:Hp):Prop:=
 ag none w λp=>aQ none dI h (Addr.add p 1) λx=>lS none (.int .i64) aO (.agg #[(yI 0),(yI 0)]) x (yI df) h λn ok=>(if (!ok)=true then
 Q false h
 else
 ag none w λk=>cN h k 0 λc=>ay (α1:=Int) (λi b a=>(if decide (b<(c.len:Int)) then
 ((bD c.base c.len b)/\aQ none aO a (sat c.base 2 b) λf=>iz none P (cW .eql 205 (.tmp 30) (.tmp 31) f.v n.v) bu a λo=>(if o then
 ag none w λe=>cN a e 0 λq=>aa P WM [q.v,(yI b),(yI (yw (b+1)))] al (λr d=>ag none w λl=>cq d (Addr.add l 0) [r.v] (λg=>ag none w λm=>aQ none dI g (Addr.add m 1) λs=>sj (.int .i64) s (yI df) (λj=>Q true j) g)) a
 else
 i (yw (b+1)) a))
 else
 ag none w λe=>aQ none dI a (Addr.add e 1) λf=>sj (.int .i64) f (yI df) (λd=>Q true d) a)) 0 h)
def MU (P:Program) (x:Sl) (target:av) (cmp:Cm) (Q:(Int->(Bool->(Hp->Prop)))) (h:Hp):Prop:=
 bQ (α1:=Int) (α2:=Int) (λd i j b=>(if decide (i<j) then
 iZ (α1:=Int) (α2:=Int) (λk=>((0:Int)<=(1:Int)/\((bD x.base x.len (yw (fW .u64 (IntKind.wrap .u64 (yw (i+j))) (1:Int))))/\aQ none aO b (sat x.base 2 (yw (fW .u64 (IntKind.wrap .u64 (yw (i+j))) (1:Int)))) λc=>iG P tb (.func (.func cmp.g) cmp.first cmp.captured) [c.v,target.v] yH (λr a=>(if decide (r<(0:Int)) then
 k (yw ((yw (fW .u64 (IntKind.wrap .u64 (yw (i+j))) (1:Int)))+(1:Int))) j a
 else
 k i (yw (fW .u64 (IntKind.wrap .u64 (yw (i+j))) (1:Int))) a)) b)))
 (λe f a=>d e f a)
 else
 (((decide (i<(x.len:Int)))=true->(bD x.base x.len i))/\aQ (some (decide (i<(x.len:Int)))) aO b (sat x.base 2 i) λc=>dA (some (decide (i<(x.len:Int)))) (iG P tb (.func (.func cmp.g) cmp.first cmp.captured) [c.v,target.v] yH) (λr a=>aG ((decide (i<(x.len:Int)))&&(r==(0:Int))) λy=>Q i y a) b))) (0:Int) (x.len:Int) h
def TG (P:Program) (a:av) (b:av) (Q:(Int->(Hp->Prop))) (h:Hp):Prop:=
 aa P XG [(yI a.due),(yI b.due)] yH (λr c=>((True/\(True/\True))/\aa P XS [(yI a.df),(yI b.df)] yH (λg d=>bq [(yI r),(yI g)] (λa1 e=>aa P FN [(.slice (some a1) 2 2)] yH (λr2 f=>Q r2 f) e) d) c)) h
def WN (P:Program) (s:Sl) (i:Int) (v:Sl) (Q:(Sl->(Hp->Prop))) (h:Hp):Prop:=
 ((0<=i/\i<=(s.len:Int))/\aG (α:=Sl) ⟨(aS s.base 2 (Int.toNat i) s.cap),(s.len-(Int.toNat i)),(s.cap-(Int.toNat i))⟩ λy=>(if ((v.len:Int)==0)=true then
 Q s h
 else
 (if (i==(s.len:Int))=true then
 fP 2 16 [(yI 0),(yI 0)] s v (λr b=>Q r b) h
 else
 (if (decide ((yw ((s.len:Int)+(v.len:Int)))>(s.cap:Int)))=true then
 ((0<=i/\i<=(s.cap:Int))/\aG (α:=Sl) ⟨(aS s.base 2 0 s.cap),((Int.toNat i)-0),(s.cap-0)⟩ λa=>wy 2 16 [(yI 0),(yI 0)] a (yw ((yw ((s.len:Int)+(v.len:Int)))-i)) (λr b=>((0<=i/\i<=(r.len:Int))/\aG (α:=Sl) ⟨(aS r.base 2 (Int.toNat i) r.cap),(r.len-(Int.toNat i)),(r.cap-(Int.toNat i))⟩ λg=>fq 2 g v (λj c=>((0<=(yw (i+(v.len:Int)))/\(yw (i+(v.len:Int)))<=(r.len:Int))/\aG (α:=Sl) ⟨(aS r.base 2 (Int.toNat (yw (i+(v.len:Int)))) r.cap),(r.len-(Int.toNat (yw (i+(v.len:Int))))),(r.cap-(Int.toNat (yw (i+(v.len:Int)))))⟩ λe=>((0<=i/\i<=(s.len:Int))/\aG (α:=Sl) ⟨(aS s.base 2 (Int.toNat i) s.cap),(s.len-(Int.toNat i)),(s.cap-(Int.toNat i))⟩ λf=>fq 2 e f (λr2 d=>Q r d) c))) b)) h)
 else
 ((0<=(yw ((s.len:Int)+(v.len:Int)))/\(yw ((s.len:Int)+(v.len:Int)))<=(s.cap:Int))/\aG (α:=Sl) ⟨(aS s.base 2 0 s.cap),((Int.toNat (yw ((s.len:Int)+(v.len:Int))))-0),(s.cap-0)⟩ λa=>((0<=(yw (i+(v.len:Int)))/\(yw (i+(v.len:Int)))<=(a.len:Int))/\aG (α:=Sl) ⟨(aS a.base 2 (Int.toNat (yw (i+(v.len:Int)))) a.cap),(a.len-(Int.toNat (yw (i+(v.len:Int))))),(a.cap-(Int.toNat (yw (i+(v.len:Int)))))⟩ λg=>jw P (Extern.SlicesOverlaps.overlaps #[207,207] #[4] #[v.v,g.v]) bu (λr b=>(if (!r)=true then
 ((0<=(yw (i+(v.len:Int)))/\(yw (i+(v.len:Int)))<=(a.len:Int))/\aG (α:=Sl) ⟨(aS a.base 2 (Int.toNat (yw (i+(v.len:Int)))) a.cap),(a.len-(Int.toNat (yw (i+(v.len:Int))))),(a.cap-(Int.toNat (yw (i+(v.len:Int)))))⟩ λe=>((0<=i/\i<=(a.len:Int))/\aG (α:=Sl) ⟨(aS a.base 2 (Int.toNat i) a.cap),(a.len-(Int.toNat i)),(a.cap-(Int.toNat i))⟩ λf=>fq 2 e f (λj c=>((0<=i/\i<=(a.len:Int))/\aG (α:=Sl) ⟨(aS a.base 2 (Int.toNat i) a.cap),(a.len-(Int.toNat i)),(a.cap-(Int.toNat i))⟩ λk=>fq 2 k v (λr2 d=>Q a d) c)) b))
 else
 ((0<=(s.len:Int)/\(s.len:Int)<=(a.len:Int))/\aG (α:=Sl) ⟨(aS a.base 2 (Int.toNat (s.len:Int)) a.cap),(a.len-(Int.toNat (s.len:Int))),(a.cap-(Int.toNat (s.len:Int)))⟩ λe=>fq 2 e v (λj c=>((0<=i/\i<=(a.len:Int))/\aG (α:=Sl) ⟨(aS a.base 2 (Int.toNat i) a.cap),(a.len-(Int.toNat i)),(a.cap-(Int.toNat i))⟩ λf=>bx P WV [f.v,(yI (v.len:Int))] (λd=>Q a d) c)) b))) h))))))
def Ya (P:Program) (x:Int) (y:Int) (Q:(Int->(Int->(Hp->Prop)))) (h:Hp):Prop:=
 aZ P KI [(.int .u64 x),(.int .u64 y)] (ae .u64) (ae .u64) (λr b a=>Q r b a) h
def OF (P:Program) (s:Sl) (Q:(Sl->(Hp->Prop))) (h:Hp):Prop:=
 iz none P (cW .eql 131 (.tmp 3) (.const yN) s.v yN) bu h λx=>(if x then
 Q ⟨none,0,0⟩ h
 else
 bq [] (λa b=>fP 1 8 [(yI 0)] ⟨(some a),0,0⟩ s (λr c=>Q r c) b) h)
def NB (P:Program) (s:Sl) (Q:(Sl->(Hp->Prop))) (h:Hp):Prop:=
 iz none P (cW .eql 132 (.tmp 3) (.const yN) s.v yN) bu h λx=>(if x then
 Q ⟨none,0,0⟩ h
 else
 bq [] (λa b=>fP 2 16 [(yI 0),(yI 0)] ⟨(some a),0,0⟩ s (λr c=>Q r c) b) h)
def KM (P:Program) (w:Option Addr) (k:Int) (Q:(Sl->(Hp->Prop))) (h:Hp):Prop:=
 ay (α1:=Sl) (λf out b=>ag none w λp=>cN b p 0 λx=>ag (some (decide ((x.len:Int)>0))) w λl=>aQ (some (decide ((x.len:Int)>0))) al b (Addr.add l 0) λc=>(((decide ((x.len:Int)>0))=true->(bD c.base c.len 0))/\aQ (some (decide ((x.len:Int)>0))) yH b (Addr.add (sat c.base 2 0) 0) λn=>aG ((decide ((x.len:Int)>0))&&(decide (n<=k))) λy=>(if y then
 ag none w λm=>cN b m 0 λd=>((bD d.base d.len 0)/\aQ none yH b (Addr.add (sat d.base 2 0) 1) λe=>bq [(yI e)] (λa g=>fP 1 8 [(yI 0)] out ⟨(some a),1,1⟩ (λr i=>aa P Ai [(yP w),(yI e)] bu (λo j=>f r j) i) g) b)
 else
 Q out b))) ⟨none,0,0⟩ h
def QC (P:Program) (m:Option Addr) (p:Option Addr) (c:aR) (Q:(Hp->Prop)) (h:Hp):Prop:=
 ag none p λd=>cq h (Addr.add d 3) [(yI 0)] (λa=>((True/\True)/\ag none p λe=>cq a (Addr.add e 4) [(yI c.PC),(yI c.cC),(yI c.cD),(yI c.cE),(yI c.cF),(yI c.cG),(yI c.cH),(yI c.cI),(yI c.cJ)] (λb=>Q b)))
def zR (P:Program) (c:aR) (Q:(aR->(Hp->Prop))) (h:Hp):Prop:=
 Q ⟨(yw (c.PC+1)),c.cC,c.cD,c.cE,c.cF,c.cG,c.cH,c.cI,c.cJ⟩ h
def zS (P:Program) (c:aR) (l:Sl) (tick:Int) (H:Int) (Q:(aR->(dL->(Hp->Prop)))) (h:Hp):Prop:=
 bq [(yI c.PC),(yI c.cC),(yI c.cD),(yI c.cE),(yI c.cF),(yI c.cG),(yI c.cH),(yI c.cI),(yI c.cJ)] (λa o=>aQ none eo o a λx=>aZ P J9 [x.v,l.v] be bu (λr q w=>dA (some (!(!q))) (aa P Uw [r.v,(yI (l.len:Int)),(yI 8)] yH) (λr2 j=>aG ((!q) || (r2 !=0)) λy=>(if y then
 aQ none eo j a λn=>Q n ⟨1,0,0⟩ j
 else
 aQ none vo j (Addr.add a 1) λn=>gB P VL [r.v,n.v] Ba bu bu (λs D E e=>(if E then
 (if D then
 aQ none eo e a λb=>((True/\True)/\Q b s e)
 else
 aQ none eo e a λb=>aa P vp [b.v] eo (λi d=>((True/\True)/\((True/\True)/\Q i s d))) e)
 else
 aQ none vo e (Addr.add a 1) λb=>iZ (α1:=aR) (α2:=dL) (λk=>(if (r.Op==1)=true then
 bx P uB [(yP (some a)),(yI r.A),(yI r.ju)] (λd=>k ⟨0,0,0,0,0,0,0,0,0⟩ ⟨0,0,0⟩ d) e
 else
 (if (r.Op==2)=true then
 ((0<=r.B/\r.B<8)/\∃f:Int,((List.get?Internal (α:=Value) [(yI b.a0),(yI b.a1),(yI b.a2),(yI b.a3),(yI b.a4),(yI b.a5),(yI b.a6),(yI b.a7)] (0+((Int.toNat r.B)*1)))=(some (yI f))/\bx P uB [(yP (some a)),(yI r.A),(yI f)] (λd=>k ⟨0,0,0,0,0,0,0,0,0⟩ ⟨0,0,0⟩ d) e))
 else
 (if (r.Op==32)=true then
 bx P uB [(yP (some a)),(yI r.A),(yI tick)] (λd=>k ⟨0,0,0,0,0,0,0,0,0⟩ ⟨0,0,0⟩ d) e
 else
 (if (r.Op==33)=true then
 bx P uB [(yP (some a)),(yI r.A),(yI H)] (λd=>k ⟨0,0,0,0,0,0,0,0,0⟩ ⟨0,0,0⟩ d) e
 else
 (if (r.Op==22)=true then
 cq e (Addr.add a 0) [(yI r.ju)] (λd=>aQ none eo d a λf=>Q f ⟨0,0,0⟩ d)
 else
 (if (r.Op==23)=true then
 ((0<=r.A/\r.A<8)/\∃f:Int,((List.get?Internal (α:=Value) [(yI b.a0),(yI b.a1),(yI b.a2),(yI b.a3),(yI b.a4),(yI b.a5),(yI b.a6),(yI b.a7)] (0+((Int.toNat r.A)*1)))=(some (yI f))/\(if (f==0)=true then
 k ⟨0,0,0,0,0,0,0,0,0⟩ ⟨0,0,0⟩ e
 else
 cq e (Addr.add a 0) [(yI r.ju)] (λd=>aQ none eo d a λm=>Q m ⟨0,0,0⟩ d))))
 else
 ((0<=r.B/\r.B<8)/\∃f:Int,((List.get?Internal (α:=Value) [(yI b.a0),(yI b.a1),(yI b.a2),(yI b.a3),(yI b.a4),(yI b.a5),(yI b.a6),(yI b.a7)] (0+((Int.toNat r.B)*1)))=(some (yI f))/\((0<=r.C/\r.C<8)/\∃m:Int,((List.get?Internal (α:=Value) [(yI b.a0),(yI b.a1),(yI b.a2),(yI b.a3),(yI b.a4),(yI b.a5),(yI b.a6),(yI b.a7)] (0+((Int.toNat r.C)*1)))=(some (yI m))/\aZ P AW [(yI r.Op),(yI f),(yI m)] yH yH (λi F d=>bL (α1:=Int) (λp=>(if (F !=0)=true then
 ((0<=r.B/\r.B<8)/\∃t:Int,((List.get?Internal (α:=Value) [(yI b.a0),(yI b.a1),(yI b.a2),(yI b.a3),(yI b.a4),(yI b.a5),(yI b.a6),(yI b.a7)] (0+((Int.toNat r.B)*1)))=(some (yI t))/\((0<=r.C/\r.C<8)/\∃u:Int,((List.get?Internal (α:=Value) [(yI b.a0),(yI b.a1),(yI b.a2),(yI b.a3),(yI b.a4),(yI b.a5),(yI b.a6),(yI b.a7)] (0+((Int.toNat r.C)*1)))=(some (yI u))/\aZ P AX [(yI r.Op),(yI t),(yI u)] yH yH (λG I g=>p G g) d))))
 else
 p i d))
 (λv g=>bx P uB [(yP (some a)),(yI r.A),(yI v)] (λz=>k ⟨0,0,0,0,0,0,0,0,0⟩ ⟨0,0,0⟩ z) g)) e)))))))))))
 (λJ K d=>aQ none eo d a λf=>aa P vp [f.v] eo (λi g=>Q i ⟨0,0,0⟩ g) d))) j)) w) o) h
def PU (P:Program) (m:Option Addr) (p:Option Addr) (to:Int) (v:Int) (Q:(Hp->Prop)) (h:Hp):Prop:=
 ag (some (!(decide (to<0)))) m λC=>aQ (some (!(decide (to<0)))) al h (Addr.add C 11) λx=>aG ((decide (to<0)) || (decide (to>=(x.len:Int)))) λy=>(if y then
 bx P vi [(yP m),(yP p),(yI 1)] (λa=>Q a) h
 else
 ag none m λE=>cN h E 11 λz=>((bD z.base z.len to)/\aQ none aj h (sat z.base 1 to) λe=>ag none m λF=>lO h F 7 λI=>ag none p λG=>fb h G 1 λJ=>ag none e λH=>fb h H 1 λK=>aa P XH [(yP I),(yI J),(yI K)] bu (λr a=>(if (!r)=true then
 ag none m λl=>cN a l 10 λf=>ag none p λn=>fb a n 1 λg=>((bD f.base f.len g)/\aQ none aj a (sat f.base 1 g) λq=>ag none m λu=>cN a u 10 λj=>ag none p λw=>fb a w 1 λo=>((bD j.base j.len o)/\aQ none aj a (sat j.base 1 o) λA=>ag none A λs=>fb a s 4 λB=>aa P KV [(yI B)] yH (λd b=>(((aT b (Addr.add l 10) [f.v])/\((aT b (Addr.add n 1) [(yI g)])/\((aT b (sat f.base 1 g) [(yP q)])/\True)))/\ag none q λt=>cq b (Addr.add t 4) [(yI d)] (λc=>bx P vi [(yP m),(yP p),(yI 0)] (λi=>Q i) c))) a))
 else
 ag none p λl=>fb a l 1 λf=>ag none e λn=>fb a n 1 λg=>(if (f==g)=true then
 bx P Pf [(yP m),(yP p),(yP e),(yI v)] (λb=>Q b) a
 else
 bP (λk=>ag none e λu=>fb a u 3 λq=>aa P KP [(yI q)] bu (λd b=>ag (some (!(!d))) e λw=>aQ (some (!(!d))) aj b (Addr.add w 14) λj=>ag (some (!(!d))) p λs=>aQ (some (!(!d))) yH b (Addr.add s 1) λo=>dA (some (!(!d))) (aa P KO [(yP j),(yI o),(yI v)] yH) (λr2 c=>aG ((!d) || (r2 !=0)) λL=>(if L then
 ag none e λt=>lO c t 14 λA=>ag none p λD=>fb c D 1 λB=>bx P GF [(yP A),(yI B)] (λi=>k i) c
 else
 bx P F0 [(yP m),(yP e)] (λi=>k i) c)) b) a)
 (λb=>bx P vi [(yP m),(yP p),(yI 0)] (λc=>Q c) b)))) h))
def PW (P:Program) (m:Option Addr) (p:Option Addr) (w:Bool) (Q:(Hp->Prop)) (h:Hp):Prop:=
 ag none p λo=>lO h o 14 λx=>xH P R4 [(yP x)] yH yH aE bu yH (λr s r2 t u b=>(if (u==0)=true then
 ag none p λl=>aQ none eo b (Addr.add l 4) λn=>ag none p λe=>cN b e 2 λj=>aa P Li [n.v,j.v,(yI r),(yI s)] eo (λa c=>ag none p λg=>cq c (Addr.add g 4) [(yI a.PC),(yI a.cC),(yI a.cD),(yI a.cE),(yI a.cF),(yI a.cG),(yI a.cH),(yI a.cI),(yI a.cJ)] (λd=>(if t then
 ag none m λi=>cN d i 11 λf=>((bD f.base f.len r2.cX)/\aQ none aj d (sat f.base 1 r2.cX) λy=>bx P vi [(yP m),(yP y),(yI 0)] (λk=>Q k) d)
 else
 Q d))) b
 else
 ag none p λl=>aQ none bu b (Addr.add l 13) λn=>(if n then
 ag none p λe=>cq b (Addr.add e 13) [(.bool false)] (λc=>ag none p λg=>aQ none eo c (Addr.add g 4) λj=>ag none p λi=>cN c i 2 λf=>aa P Li [j.v,f.v,(yI 0),(yI (-2))] eo (λa d=>ag none p λq=>cq d (Addr.add q 4) [(yI a.PC),(yI a.cC),(yI a.cD),(yI a.cE),(yI a.cF),(yI a.cG),(yI a.cH),(yI a.cI),(yI a.cJ)] (λk=>Q k)) c)
 else
 (if w then
 ag none p λe=>aQ none eo b (Addr.add e 4) λj=>ag none p λg=>cN b g 2 λf=>aa P Li [j.v,f.v,(yI 0),(yI (-1))] eo (λa c=>ag none p λi=>cq c (Addr.add i 4) [(yI a.PC),(yI a.cC),(yI a.cD),(yI a.cE),(yI a.cF),(yI a.cG),(yI a.cH),(yI a.cI),(yI a.cJ)] (λd=>Q d)) b
 else
 ag none p λe=>cq b (Addr.add e 3) [(yI 1)] (λc=>Q c))))) h
def Rr (P:Program) (l:Option Addr) (n:Int) (p:Int) (Q:(Bool->(Int->(Hp->Prop)))) (h:Hp):Prop:=
 aa P Ra [(yP l),(yI n),(yI p)] yH (λr i=>(if (r !=0)=true then
 Q false r i
 else
 aZ P KC [(yP l),(yI p)] yH bu (λy r2 c=>(if r2 then
 Q false 20 c
 else
 ag none l λq=>cN c q 0 λx=>((bD x.base x.len n)/\bP (λk=>ag none (some (sat x.base 2 n)) λe=>fb c e 0 λf=>(if (f==(-1))=true then
 ag none (some (sat x.base 2 n)) λd=>cq c (Addr.add d 0) [(yI p)] (λb=>k b)
 else
 k c))
 (λb=>ag none (some (sat x.base 2 n)) λe=>fb b e 0 λf=>(if (f !=p)=true then
 ag none (some (sat x.base 2 n)) λd=>cN b d 1 λg=>bq [(yI p)] (λa m=>fP 1 8 [(yI 0)] g ⟨(some a),1,1⟩ (λu o=>ag none (some (sat x.base 2 n)) λs=>cq o (Addr.add s 1) [u.v] (λj=>ag none (some (sat x.base 2 n)) λt=>fb j t 0 λw=>Q (w==p) 0 j)) m) b
 else
 ag none (some (sat x.base 2 n)) λd=>fb b d 0 λg=>Q (g==p) 0 b))))) i)) h
def Rg (P:Program) (l:Option Addr) (p:Int) (Q:(Sl->(Hp->Prop))) (h:Hp):Prop:=
 ag none l λi=>cN h i 0 λx=>bQ (α1:=Sl) (α2:=Int) (λe out b c=>(if decide (b<(x.len:Int)) then
 bL (α1:=Sl) (λk=>((bD x.base x.len b)/\aQ none eD c (sat x.base 2 b) λj=>aG ((j.owner==p)&&(p !=(-1))) λy=>(if y then
 bq [(yI b)] (λa d=>fP 1 8 [(yI 0)] ⟨out.base,out.len,out.cap⟩ ⟨(some a),1,1⟩ (λr f=>k r f) d) c
 else
 k ⟨out.base,out.len,out.cap⟩ c)))
 (λg d=>e g (yw (b+1)) d)
 else
 Q ⟨out.base,out.len,out.cap⟩ c)) ⟨none,0,0⟩ 0 h
def Rt (P:Program) (l:Option Addr) (n:Int) (p:Int) (Q:(Int->(Int->(Hp->Prop)))) (h:Hp):Prop:=
 aa P Ra [(yP l),(yI n),(yI p)] yH (λr a=>(if (r !=(0:Int))=true then
 Q (0:Int) r a
 else
 ag none l λo=>cN a o 0 λx=>((bD x.base x.len n)/\ag none (some (sat x.base 2 n)) λs=>fb a s 0 λA=>(if (A !=p)=true then
 ag none (some (sat x.base 2 n)) λe=>fb a e 0 λi=>Q i (0:Int) a
 else
 ag none (some (sat x.base 2 n)) λe=>cN a e 1 λi=>(if ((i.len:Int)==(0:Int))=true then
 ag none (some (sat x.base 2 n)) λf=>cq a (Addr.add f 0) [(yI (-1:Int))] (λb=>ag none (some (sat x.base 2 n)) λg=>fb b g 0 λc=>Q c (0:Int) b)
 else
 ag none (some (sat x.base 2 n)) λf=>cN a f 1 λc=>((bD c.base c.len (0:Int))/\aQ none yH a (sat c.base 1 (0:Int)) λB=>ag none (some (sat x.base 2 n)) λg=>cq a (Addr.add g 0) [(yI B)] (λb=>ag none (some (sat x.base 2 n)) λt=>cN b t 1 λm=>ag none (some (sat x.base 2 n)) λu=>cN b u 1 λj=>ag none (some (sat x.base 2 n)) λw=>cN b w 1 λd=>(((0:Int)<=(1:Int)/\((1:Int)<=(j.len:Int)/\((j.len:Int)<=(d.len:Int)/\(d.len:Int)<=(m.cap:Int))))/\aG (α:=Sl) ⟨(aS m.base 1 1 (Int.toNat (d.len:Int))),((Int.toNat (j.len:Int))-1),((Int.toNat (d.len:Int))-1)⟩ λy=>ag none (some (sat x.base 2 n)) λz=>cq b (Addr.add z 1) [y.v] (λk=>ag none (some (sat x.base 2 n)) λq=>fb k q 0 λC=>Q C (0:Int) k))))))))) h
def PY (P:Program) (m:Option Addr) (j9:Int) (Q:(Hp->Prop)) (h:Hp):Prop:=
 (if decide (j9>=0) then
 ag none m λp=>cN h p 11 λx=>((bD x.base x.len j9)/\aQ none aj h (sat x.base 1 j9) λc=>ag none m λe=>cN h e 11 λb=>((bD b.base b.len j9)/\aQ none aj h (sat b.base 1 j9) λg=>ag none g λf=>aQ none eo h (Addr.add f 4) λi=>aa P vp [i.v] eo (λr a=>(((aT a (Addr.add p 11) [x.v])/\((aT a (sat x.base 1 j9) [(yP c)])/\True))/\bx P F7 [(yP m),(yP c),r.v] (λd=>Q d) a)) h))
 else
 Q h)
def Tf (P:Program) (n:Int) (Q:(Int->(Hp->Prop))) (h:Hp):Prop:=
 Q (ir (yw (n+1)) 65535) h
def SM (P:Program) (state:Int) (Q:(Bool->(Hp->Prop))) (h:Hp):Prop:=
 aG ((state !=5)&&(state !=6)) λy=>Q y h
def RL (P:Program) (p:Option Addr) (n:Int) (Q:(Bool->(Hp->Prop))) (h:Hp):Prop:=
 ag (some (decide (n>=0))) p λa=>aQ (some (decide (n>=0))) al h (Addr.add a 0) λx=>aG ((decide (n>=0))&&(decide (n<(x.len:Int)))) λy=>Q y h
def SN (P:Program) (l:Option Addr) (v:Int) (Q:(Int->(Hp->Prop))) (h:Hp):Prop:=
 aa P R6 [(yP l)] bu (λr b=>(if r then
 Q 19 b
 else
 ag none l λp=>cN b p 1 λx=>bq [(yI v)] (λa c=>fP 1 8 [(yI 0)] x ⟨(some a),1,1⟩ (λg d=>ag none l λf=>cq d (Addr.add f 1) [g.v] (λe=>Q 0 e)) c) b)) h
def Sb (P:Program) (l:Option Addr) (Q:(Hp->Prop)) (h:Hp):Prop:=
 ag none l λp=>fb h p 4 λx=>aa P VM [(yI x)] yH (λr a=>ag none l λc=>cq a (Addr.add c 4) [(yI r)] (λb=>Q b)) h
def RM (P:Program) (p:Option Addr) (proc:Int) (Q:(Bool->(Hp->Prop))) (h:Hp):Prop:=
 ag none p λc=>cN h c 0 λx=>bQ (α1:=Bool) (α2:=Int) (λagain left t13 h1=>(if decide (t13<(x.len:Int)) then
 bL (α1:=Bool) (λk=>((bD x.base x.len t13)/\aQ none aj h1 (sat x.base 1 t13) λd=>aa P XT [(yP d),(yI proc)] bu (λr a=>(if r then
 k true a
 else
 k left a)) h1))
 (λb a=>again b (yw (t13+1)) a)
 else
 Q left h1)) false 0 h
def RN (P:Program) (l:Option Addr) (p:Int) (Q:(Sl->(Hp->Prop))) (h:Hp):Prop:=
 ag none l λw=>cN h w 0 λx=>ay (α1:=Int) (λq c f=>(if decide (c<(x.len:Int)) then
 bP (λk=>ag none l λy=>cN f y 0 λe=>((bD e.base e.len c)/\aQ none al f (Addr.add (sat e.base 2 c) 1) λB=>aa P Qq [B.v,(yI p)] yH (λr b=>(if decide (r>=0) then
 ag none l λo=>cN b o 0 λi=>ag none l λz=>cN b z 0 λn=>((bD n.base n.len c)/\aQ none al b (Addr.add (sat n.base 2 c) 1) λC=>aa P Xk [C.v,(yI r),(yI (yw (r+1)))] al (λm d=>(((aT d (Addr.add o 0) [i.v])/\True)/\((bD i.base i.len c)/\cq d (Addr.add (sat i.base 2 c) 1) [m.v] (λj=>k j)))) b)
 else
 k b)) f))
 (λb=>q (yw (c+1)) b)
 else
 aa P KD [(yP l),(yI p)] al (λr b=>bQ (α1:=Sl) (α2:=Int) (λs out g d=>(if decide (g<(r.len:Int)) then
 ((bD r.base r.len g)/\aQ none yH d (sat r.base 1 g) λe=>aZ P Gi [(yP l),(yI e),(yI p)] yH yH (λm r2 j=>bq [(yI e),(yI m)] (λa t=>fP 2 16 [(yI 0),(yI 0)] ⟨out.base,out.len,out.cap⟩ ⟨(some a),1,1⟩ (λA u=>s A (yw (g+1)) u) t) j) d)
 else
 Q ⟨out.base,out.len,out.cap⟩ d)) ⟨none,0,0⟩ 0 b) f)) 0 h
def SO (P:Program) (p:Option Addr) (Q:(Sl->(Hp->Prop))) (h:Hp):Prop:=
 ag none p λf=>cN h f 0 λx=>bQ (α1:=Sl) (α2:=Int) (λc out a b=>(if decide (a<(x.len:Int)) then
 ((bD x.base x.len a)/\aQ none aj b (sat x.base 1 a) λi=>aa P X8 [(yP i)] al (λr d=>fP 2 16 [(yI 0),(yI 0)] ⟨out.base,out.len,out.cap⟩ r (λg e=>c g (yw (a+1)) e) d) b)
 else
 Q ⟨out.base,out.len,out.cap⟩ b)) ⟨none,0,0⟩ 0 h
def OX (P:Program) (m:Option Addr) (p:Option Addr) (e:Int) (Q:(Hp->Prop)) (h:Hp):Prop:=
 ag none p λc=>aQ none eo h (Addr.add c 4) λx=>ag none p λd=>cN h d 2 λf=>aa P GH [x.v,f.v,(yI e)] eo (λr a=>bx P F7 [(yP m),(yP p),r.v] (λb=>Q b) a) h
def QD (P:Program) (s:Sl) (v:Int) (Q:(Int->(Hp->Prop))) (h:Hp):Prop:=
 ay (α1:=Int) (λc a b=>(if decide (a<(s.len:Int)) then
 ((bD s.base s.len a)/\aQ none yH b (sat s.base 1 a) λx=>(if (v==x)=true then
 Q a b
 else
 c (yw (a+1)) b))
 else
 Q (-1) b)) 0 h
def Of (P:Program) (s:Option Addr) (part:Int) (t:Int) (Q:(Int->(Hp->Prop))) (h:Hp):Prop:=
 (if decide (t<0) then
 Q 0 h
 else
 ag none s λp=>cN h p 0 λx=>((x.len:Int)≠0/\ag none s λc=>cN h c 0 λe=>((x.len:Int)≠0/\aa P Ks [(yP s),(yI part),(yI (e.len:Int))] yH (λr a=>aa P Ks [(yP s),(yI part),(yI (Int.tmod t (x.len:Int)))] yH (λd b=>Q (yw ((yw ((yw (Int.tdiv t (x.len:Int)))*r))+d)) b) a) h)))
def P0 (P:Program) (op:Int) (Q:(Bool->(Bool->(Bool->(Bool->(Hp->Prop)))))) (h:Hp):Prop:=
 (if (op==1)=true then
 Q true false false true h
 else
 bL (α1:=Bool) (λk=>(if (op==2)=true then
 k (op==2) h
 else
 (if (op==20)=true then
 k (op==20) h
 else
 (if (op==21)=true then
 k (op==21) h
 else
 (if (op==25)=true then
 k (op==25) h
 else
 k (op==26) h)))))
 (λl a=>(if l then
 Q true true false false a
 else
 bL (α1:=Bool) (λk=>(if (op==3)=true then
 k (op==3) a
 else
 (if (op==4)=true then
 k (op==4) a
 else
 (if (op==5)=true then
 k (op==5) a
 else
 (if (op==6)=true then
 k (op==6) a
 else
 (if (op==7)=true then
 k (op==7) a
 else
 (if (op==8)=true then
 k (op==8) a
 else
 (if (op==9)=true then
 k (op==9) a
 else
 (if (op==10)=true then
 k (op==10) a
 else
 (if (op==11)=true then
 k (op==11) a
 else
 (if (op==12)=true then
 k (op==12) a
 else
 (if (op==13)=true then
 k (op==13) a
 else
 k (op==14) a))))))))))))
 (λf b=>(if f then
 Q true true true false b
 else
 bL (α1:=Bool) (λk=>(if (op==15)=true then
 k (op==15) b
 else
 (if (op==16)=true then
 k (op==16) b
 else
 (if (op==17)=true then
 k (op==17) b
 else
 (if (op==18)=true then
 k (op==18) b
 else
 (if (op==19)=true then
 k (op==19) b
 else
 k (op==24) b))))))
 (λg d=>(if g then
 Q true true true false d
 else
 bL (α1:=Bool) (λk=>(if (op==22)=true then
 k (op==22) d
 else
 (if (op==29)=true then
 k (op==29) d
 else
 k (op==30) d)))
 (λi c=>(if i then
 Q false false false true c
 else
 (if (op==23)=true then
 Q true false false true c
 else
 bL (α1:=Bool) (λk=>(if (op==27)=true then
 k (op==27) c
 else
 (if (op==28)=true then
 k (op==28) c
 else
 (if (op==31)=true then
 k (op==31) c
 else
 (if (op==32)=true then
 k (op==32) c
 else
 k (op==33) c)))))
 (λj e=>(if j then
 Q true false false false e
 else
 Q false false false false e))))))))))))
def OZ (P:Program) (n:Int) (has:Bool) (Q:(Int->(Hp->Prop))) (h:Hp):Prop:=
 aG ((!has)&&(n !=0)) λy=>(if y then
 Q 11 h
 else
 aG ((decide (n<0)) || (decide (n>=8))) λa=>aG (has&&a) λb=>(if b then
 Q 10 h
 else
 Q 0 h))
def UK (P:Program) (x:bc) (n:Int) (ai:Int) (Q:(Int->(Int->(Hp->Prop)))) (h:Hp):Prop:=
 aG ((decide (x.Op<0)) || (decide (x.Op>=34))) λy=>(if y then
 Q 9 0 h
 else
 nR P Tq [(yI x.Op)] bu bu bu bu (λr j r2 k g=>aa P KQ [(.bool r),(yI x.A)] yH (λd a=>(if (d !=0)=true then
 Q d 1 a
 else
 aa P KQ [(.bool j),(yI x.B)] yH (λe b=>(if (e !=0)=true then
 Q e 2 b
 else
 aa P KQ [(.bool r2),(yI x.C)] yH (λf c=>(if (f !=0)=true then
 Q f 3 c
 else
 aa P Yr [x.v,(.bool k),(yI n),(yI ai)] yH (λl i=>Q l 4 i) c)) b)) a)) g) h)
def TI (P:Program) (op:Int) (Q:(Bool->(Bool->(Bool->(Bool->(Hp->Prop)))))) (h:Hp):Prop:=
 aa P Ys [(yI op)] og (λr b=>bq [(.string ⟨#[]⟩)] (λa c=>cq c a [(.string r)] (λd=>iG P tb (.func (.func 195) #[] #[(yP (some a))]) [(.string ⟨#[97]⟩)] bu (λj e=>iG P tb (.func (.func 195) #[] #[(yP (some a))]) [(.string ⟨#[98]⟩)] bu (λr2 f=>iG P tb (.func (.func 195) #[] #[(yP (some a))]) [(.string ⟨#[99]⟩)] bu (λk g=>iG P tb (.func (.func 195) #[] #[(yP (some a))]) [(.string ⟨#[105]⟩)] bu (λl i=>Q j r2 k l i) g) f) e) d)) b) h
def zT (P:Program) (room:Int) (Q:(Option Addr->(Int->(Hp->Prop)))) (h:Hp):Prop:=
 aa P KW [(yI room),(yI 1),(yI 64)] bu (λr b=>(if (!r)=true then
 Q none 1 b
 else
 bq [(yI room),yN,yN,(yI 0),(yI 0)] (λa c=>Q (some a) 0 c) b)) h
def KX (P:Program) (n:Int) (from_:Int) (to:Int) (Q:(Bool->(Hp->Prop))) (h:Hp):Prop:=
 aG ((decide (n>=from_))&&(decide (n<=to))) λy=>Q y h
def UM (P:Program) (l:Sl) (Q:(Bool->(Hp->Prop))) (h:Hp):Prop:=
 BP  (λr e=>ay (α1:=Int) (λd b a=>(if decide (b<(l.len:Int)) then
 ((bD l.base l.len b)/\aQ none aE a (sat l.base 2 b) λx=>lS none (.int .i64) yH (yI 0) r (yI x.cX) a λf ok=>yu (.int .i64) r (yI x.cX) (yI (yw (f+1))) (λc=>lS none (.int .i64) yH (yI 0) r (yI x.cX) c λg i=>(if decide (g>1) then
 Q true c
 else
 d (yw (b+1)) c)) a)
 else
 Q false a)) 0 e) h
def WO (P:Program) (s:Sl) (i:Int) (j:Int) (Q:(Sl->(Hp->Prop))) (h:Hp):Prop:=
 ((0<=i/\(i<=j/\(j<=(s.len:Int)/\(s.len:Int)<=(s.cap:Int))))/\aG (α:=Sl) ⟨(aS s.base 2 (Int.toNat i) (Int.toNat (s.len:Int))),((Int.toNat j)-(Int.toNat i)),((Int.toNat (s.len:Int))-(Int.toNat i))⟩ λy=>(if (i==j)=true then
 Q s h
 else
 ((0<=i/\i<=(s.cap:Int))/\aG (α:=Sl) ⟨(aS s.base 2 0 s.cap),((Int.toNat i)-0),(s.cap-0)⟩ λc=>((0<=j/\j<=(s.len:Int))/\aG (α:=Sl) ⟨(aS s.base 2 (Int.toNat j) s.cap),(s.len-(Int.toNat j)),(s.cap-(Int.toNat j))⟩ λd=>fP 2 16 [(yI 0),(yI 0)] c d (λr a=>((0<=(r.len:Int)/\((r.len:Int)<=(s.len:Int)/\(s.len:Int)<=(r.cap:Int)))/\aG (α:=Sl) ⟨(aS r.base 2 (Int.toNat (r.len:Int)) r.cap),((Int.toNat (s.len:Int))-(Int.toNat (r.len:Int))),(r.cap-(Int.toNat (r.len:Int)))⟩ λe=>lU P (Builtin.clear_ #[207] 0 #[e.v]) rQ (λb=>Q r b) a)) h))))
def UO (P:Program) (dO:Sl) (Q:(Int->(Hp->Prop))) (h:Hp):Prop:=
 ay (α1:=Int) (λc b a=>(if decide (b<(dO.len:Int)) then
 ((bD dO.base dO.len b)/\aQ none yH a (sat dO.base 1 b) λx=>(if (x !=0)=true then
 Q x a
 else
 c (yw (b+1)) a))
 else
 Q 0 a)) 0 h
def Rh (P:Program) (x:Int) (y:Int) (Q:(Int->(Hp->Prop))) (h:Hp):Prop:=
 aa P RF [(yI x)] bu (λr c=>aa P RF [(yI y)] bu (λb a=>(if r then
 (if b then
 Q 0 a
 else
 Q (-1) a)
 else
 (if b then
 Q 1 a
 else
 (if decide (x<y) then
 Q (-1) a
 else
 (if decide (x>y) then
 Q 1 a
 else
 Q 0 a))))) c) h
def RO (P:Program) (x:Int) (y:Int) (Q:(Int->(Hp->Prop))) (h:Hp):Prop:=
 aa P SH [(yI x)] bu (λr c=>aa P SH [(yI y)] bu (λb a=>(if r then
 (if b then
 Q 0 a
 else
 Q (-1) a)
 else
 (if b then
 Q 1 a
 else
 (if decide (x<y) then
 Q (-1) a
 else
 (if decide (x>y) then
 Q 1 a
 else
 Q 0 a))))) c) h
def AY (P:Program) (c:aR) (l:Sl) (Q:(bc->(Bool->(Hp->Prop)))) (h:Hp):Prop:=
 aG ((decide (c.PC<0)) || (decide (c.PC>=(l.len:Int)))) λy=>(if y then
 Q ⟨0,0,0,0,0⟩ false h
 else
 ((bD l.base l.len c.PC)/\aQ none be h (sat l.base 5 c.PC) λx=>Q x true h))
def VS (P:Program) (x:bc) (r:gm) (Q:(dL->(Bool->(Bool->(Hp->Prop))))) (h:Hp):Prop:=
 (if (x.Op==0)=true then
 Q ⟨1,0,0⟩ true true h
 else
 (if (x.Op==24)=true then
 ((0<=x.B/\x.B<8)/\∃a:Int,((List.get?Internal (α:=Value) [(yI r.a0),(yI r.a1),(yI r.a2),(yI r.a3),(yI r.a4),(yI r.a5),(yI r.a6),(yI r.a7)] (0+((Int.toNat x.B)*1)))=(some (yI a))/\((0<=x.C/\x.C<8)/\∃b:Int,((List.get?Internal (α:=Value) [(yI r.a0),(yI r.a1),(yI r.a2),(yI r.a3),(yI r.a4),(yI r.a5),(yI r.a6),(yI r.a7)] (0+((Int.toNat x.C)*1)))=(some (yI b))/\Q ⟨2,a,b⟩ true true h))))
 else
 (if (x.Op==25)=true then
 Q ⟨3,0,0⟩ true true h
 else
 (if (x.Op==26)=true then
 Q ⟨4,0,0⟩ true true h
 else
 (if (x.Op==27)=true then
 ((0<=x.A/\x.A<8)/\∃a:Int,((List.get?Internal (α:=Value) [(yI r.a0),(yI r.a1),(yI r.a2),(yI r.a3),(yI r.a4),(yI r.a5),(yI r.a6),(yI r.a7)] (0+((Int.toNat x.A)*1)))=(some (yI a))/\Q ⟨5,0,a⟩ false true h))
 else
 (if (x.Op==28)=true then
 ((0<=x.A/\x.A<8)/\∃a:Int,((List.get?Internal (α:=Value) [(yI r.a0),(yI r.a1),(yI r.a2),(yI r.a3),(yI r.a4),(yI r.a5),(yI r.a6),(yI r.a7)] (0+((Int.toNat x.A)*1)))=(some (yI a))/\Q ⟨6,0,a⟩ true true h))
 else
 (if (x.Op==29)=true then
 Q ⟨7,x.ju,0⟩ true true h
 else
 (if (x.Op==30)=true then
 Q ⟨8,x.ju,0⟩ false true h
 else
 (if (x.Op==31)=true then
 ((0<=x.A/\x.A<8)/\∃a:Int,((List.get?Internal (α:=Value) [(yI r.a0),(yI r.a1),(yI r.a2),(yI r.a3),(yI r.a4),(yI r.a5),(yI r.a6),(yI r.a7)] (0+((Int.toNat x.A)*1)))=(some (yI a))/\Q ⟨9,0,a⟩ false true h))
 else
 Q ⟨0,0,0⟩ false false h)))))))))
def Tg (P:Program) (c:Option Addr) (a:Int) (v:Int) (Q:(Hp->Prop)) (h:Hp):Prop:=
 aG ((decide (a>=0))&&(decide (a<8))) λy=>(if y then
 ag none c λp=>((0<=a/\a<8)/\cq h (Addr.add (Addr.add p 1) ((Int.toNat a)*1)) [(yI v)] (λb=>Q b))
 else
 Q h)
def AZ (P:Program) (op:Int) (b:Int) (c:Int) (Q:(Int->(Int->(Hp->Prop)))) (h:Hp):Prop:=
 (if (op==3)=true then
 Q (yw (b+c)) 0 h
 else
 (if (op==4)=true then
 Q (yw (b-c)) 0 h
 else
 (if (op==5)=true then
 Q (yw (b*c)) 0 h
 else
 (if (op==6)=true then
 aa P Td [(yI b),(yI c)] yH (λr a=>Q r 0 a) h
 else
 (if (op==7)=true then
 aa P Td [(yI b),(yI c)] yH (λr a=>Q (yw (b-(yw (r*c)))) 0 a) h
 else
 (if (op==8)=true then
 Q (de .and .i64 b c) 0 h
 else
 (if (op==9)=true then
 Q (de .or .i64 b c) 0 h
 else
 (if (op==10)=true then
 Q (de .xor .i64 b c) 0 h
 else
 (if (op==11)=true then
 aa P GI [(yI b),(yI c)] yH (λr a=>Q r 0 a) h
 else
 (if (op==12)=true then
 aa P Gc [(yI b),(yI c)] yH (λr a=>Q r 0 a) h
 else
 (if (op==13)=true then
 aa P Ao [(.bool (decide (b<c)))] yH (λr a=>Q r 0 a) h
 else
 (if (op==14)=true then
 aa P Ao [(.bool (b==c))] yH (λr a=>Q r 0 a) h
 else
 Q 0 9 h))))))))))))
def A0 (P:Program) (op:Int) (b:Int) (c:Int) (Q:(Int->(Int->(Hp->Prop)))) (h:Hp):Prop:=
 aa P VO [(yI b)] (iS .f64) (λr i=>aa P VO [(yI c)] (iS .f64) (λg a=>(if (op==15)=true then
 jw P (cW .add 322 (.tmp 17) (.tmp 18) (.float .f64 r) (.float .f64 g)) (iS .f64) (λr2 d=>aa P CK [(.float .f64 r2)] yH (λf e=>Q f 0 e) d) a
 else
 (if (op==16)=true then
 jw P (cW .sub 322 (.tmp 23) (.tmp 24) (.float .f64 r) (.float .f64 g)) (iS .f64) (λr2 d=>aa P CK [(.float .f64 r2)] yH (λf e=>Q f 0 e) d) a
 else
 (if (op==17)=true then
 jw P (cW .mul 322 (.tmp 29) (.tmp 30) (.float .f64 r) (.float .f64 g)) (iS .f64) (λr2 d=>aa P CK [(.float .f64 r2)] yH (λf e=>Q f 0 e) d) a
 else
 (if (op==18)=true then
 jw P (cW .quo 322 (.tmp 35) (.tmp 36) (.float .f64 r) (.float .f64 g)) (iS .f64) (λr2 d=>aa P CK [(.float .f64 r2)] yH (λf e=>Q f 0 e) d) a
 else
 (if (op==19)=true then
 iz none P (cW .lss 322 (.tmp 41) (.tmp 42) (.float .f64 r) (.float .f64 g)) bu a λx=>(if x then
 Q 1 0 a
 else
 Q 0 0 a)
 else
 (if (op==20)=true then
 iz none P (convert 2 322 (yI b)) (iS .f64) a λx=>aa P CK [(.float .f64 x)] yH (λr2 d=>Q r2 0 d) a
 else
 (if (op==21)=true then
 aa P Gd [(.float .f64 r)] yH (λr2 d=>Q r2 0 d) a
 else
 Q 0 9 a)))))))) i) h
def Ri (P:Program) (t:Option Addr) (i:Int) (j:Int) (Q:(Bool->(Hp->Prop))) (h:Hp):Prop:=
 aa P R7 [(yP t),(yI i)] bu (λr c=>dA (some r) (aa P R7 [(yP t),(yI j)] bu) (λf a=>aG (r&&f) λy=>ag (some y) t λp=>aQ (some y) al a (Addr.add p 0) λx=>((y=true->(bD x.base x.len i))/\aQ (some y) (ae .u64) a (sat x.base 1 i) λg=>ag (some y) t λe=>aQ (some y) al a (Addr.add e 0) λb=>((y=true->(bD b.base b.len j))/\aQ (some y) (ae .u64) a (sat b.base 1 j) λk=>dA (some y) (aa P Yt [(.int .u64 g),(.int .u64 k)] bu) (λr2 d=>aG (y&&r2) λl=>Q l d) a))) c) h
def Pl (P:Program) (m:Option Addr) (p:Option Addr) (q:Option Addr) (v:Int) (Q:(Hp->Prop)) (h:Hp):Prop:=
 ag none q λe=>fb h e 3 λx=>aa P KP [(yI x)] bu (λr b=>(if (!r)=true then
 bx P vi [(yP m),(yP p),(yI 2)] (λa=>Q a) b
 else
 ag none q λf=>lO b f 14 λo=>ag none p λg=>fb b g 1 λs=>aa P KO [(yP o),(yI s),(yI v)] yH (λn a=>(if (n !=0)=true then
 ag none q λi=>lO a i 14 λt=>ag none p λj=>fb a j 1 λu=>ag none p λk=>fb a k 0 λw=>aa P X1 [(yP t),(yI u),(yI w),(yI v)] yH (λr2 c=>ag none p λl=>cq c (Addr.add l 3) [(yI 2)] (λd=>Q d)) a
 else
 bx P F0 [(yP m),(yP q)] (λc=>bx P vi [(yP m),(yP p),(yI 0)] (λd=>Q d) c) a)) b)) h
def zU (P:Program) (c:aR) (code:Sl) (v:Int) (from_:Int) (Q:(aR->(Hp->Prop))) (h:Hp):Prop:=
 bq [(yI c.PC),(yI c.cC),(yI c.cD),(yI c.cE),(yI c.cF),(yI c.cG),(yI c.cH),(yI c.cI),(yI c.cJ)] (λa e=>bP (λk=>aQ none eo e a λx=>aZ P J9 [x.v,code.v] be bu (λr g b=>(if g then
 bx P uB [(yP (some a)),(yI r.A),(yI v)] (λd=>bx P uB [(yP (some a)),(yI r.B),(yI from_)] (λf=>k f) d) b
 else
 k b)) e)
 (λb=>aQ none eo b a λx=>aa P vp [x.v] eo (λr d=>Q r d) b)) h
def Rj (P:Program) (l:Option Addr) (n:Int) (p:Int) (Q:(Int->(Hp->Prop))) (h:Hp):Prop:=
 ag (some (!(decide (n<0)))) l λa=>aQ (some (!(decide (n<0)))) al h (Addr.add a 0) λx=>aG ((decide (n<0)) || (decide (n>=(x.len:Int)))) λy=>(if y then
 Q 2 h
 else
 (if decide (p<0) then
 Q 1 h
 else
 Q 0 h))
def Sc (P:Program) (l:Option Addr) (Q:(Bool->(Hp->Prop))) (h:Hp):Prop:=
 ag none l λp=>cN h p 1 λx=>ag none l λa=>fb h a 0 λb=>Q (decide ((x.len:Int)>=b)) h
def VU (P:Program) (n:Int) (Q:(Int->(Hp->Prop))) (h:Hp):Prop:=
 Q (ir (yw (n+1)) 65535) h
def RP (P:Program) (l:Option Addr) (p:Int) (Q:(Bool->(Hp->Prop))) (h:Hp):Prop:=
 aa P RG [(yP l),(yI p)] yH (λr a=>(if decide (r<0) then
 Q false a
 else
 ag none l λd=>cN a d 2 λx=>aa P WR [x.v,(yI r),(yI (yw (r+1)))] al (λf b=>ag none l λe=>cq b (Addr.add e 2) [f.v] (λc=>Q true c)) a)) h
def P2 (P:Program) (s:Sl) (i:Int) (j:Int) (Q:(Sl->(Hp->Prop))) (h:Hp):Prop:=
 ((0<=i/\(i<=j/\(j<=(s.len:Int)/\(s.len:Int)<=(s.cap:Int))))/\aG (α:=Sl) ⟨(aS s.base 1 (Int.toNat i) (Int.toNat (s.len:Int))),((Int.toNat j)-(Int.toNat i)),((Int.toNat (s.len:Int))-(Int.toNat i))⟩ λy=>(if (i==j)=true then
 Q s h
 else
 ((0<=i/\i<=(s.cap:Int))/\aG (α:=Sl) ⟨(aS s.base 1 0 s.cap),((Int.toNat i)-0),(s.cap-0)⟩ λc=>((0<=j/\j<=(s.len:Int))/\aG (α:=Sl) ⟨(aS s.base 1 (Int.toNat j) s.cap),(s.len-(Int.toNat j)),(s.cap-(Int.toNat j))⟩ λd=>fP 1 8 [(yI 0)] c d (λr a=>((0<=(r.len:Int)/\((r.len:Int)<=(s.len:Int)/\(s.len:Int)<=(r.cap:Int)))/\aG (α:=Sl) ⟨(aS r.base 1 (Int.toNat (r.len:Int)) r.cap),((Int.toNat (s.len:Int))-(Int.toNat (r.len:Int))),(r.cap-(Int.toNat (r.len:Int)))⟩ λe=>lU P (Builtin.clear_ #[23] 0 #[e.v]) rQ (λb=>Q r b) a)) h))))
def SQ (P:Program) (l:Option Addr) (Q:(Sl->(Hp->Prop))) (h:Hp):Prop:=
 ag none l λp=>cN h p 2 λx=>ag none l λd=>cN h d 2 λb=>ag none l λe=>cN h e 2 λa=>((0<=(b.len:Int)/\((b.len:Int)<=(a.len:Int)/\(a.len:Int)<=(x.cap:Int)))/\aG (α:=Sl) ⟨(aS x.base 2 0 (Int.toNat (a.len:Int))),((Int.toNat (b.len:Int))-0),((Int.toNat (a.len:Int))-0)⟩ λy=>ag none l λf=>cq h (Addr.add f 2) [yN] (λc=>Q y c))
def zV (P:Program) (c:aR) (code:Sl) (g:Int) (Q:(aR->(Hp->Prop))) (h:Hp):Prop:=
 bq [(yI c.PC),(yI c.cC),(yI c.cD),(yI c.cE),(yI c.cF),(yI c.cG),(yI c.cH),(yI c.cI),(yI c.cJ)] (λa e=>bP (λk=>aQ none eo e a λx=>aZ P J9 [x.v,code.v] be bu (λr f b=>(if f then
 bx P uB [(yP (some a)),(yI r.A),(yI g)] (λd=>k d) b
 else
 k b)) e)
 (λb=>aQ none eo b a λx=>aa P vp [x.v] eo (λr d=>Q r d) b)) h
def SS (P:Program) (has:Bool) (n:Int) (Q:(Int->(Hp->Prop))) (h:Hp):Prop:=
 aG ((!has)&&(n !=0)) λy=>(if y then
 Q 11 h
 else
 aG ((decide (n<0)) || (decide (n>=8))) λa=>(if a then
 Q 10 h
 else
 Q 0 h))
def TK (P:Program) (x:bc) (has:Bool) (n:Int) (ai:Int) (Q:(Int->(Hp->Prop))) (h:Hp):Prop:=
 aG ((!has)&&(x.ju !=0)) λy=>(if y then
 Q 11 h
 else
 aG ((x.Op==22) || (x.Op==23)) λb=>(if b then
 aG ((decide (x.ju<0)) || (decide (x.ju>n))) λa=>(if a then
 Q 12 h
 else
 Q 0 h)
 else
 aG ((x.Op==29) || (x.Op==30)) λa=>(if a then
 aG ((decide (x.ju<0)) || (decide (x.ju>=ai))) λc=>(if c then
 Q 13 h
 else
 Q 0 h)
 else
 Q 0 h)))
def TM (P:Program) (op:Int) (Q:(ByteArray->(Hp->Prop))) (h:Hp):Prop:=
 aG ((decide (op<0)) || (decide (op>=34))) λy=>(if y then
 Q ⟨#[]⟩ h
 else
 ((0<=op/\op<34)/\∃x:ByteArray,((List.get?Internal (α:=Value) [(.string ⟨#[]⟩),(.string ⟨#[97,105]⟩),(.string ⟨#[97,98]⟩),(.string ⟨#[97,98,99]⟩),(.string ⟨#[97,98,99]⟩),(.string ⟨#[97,98,99]⟩),(.string ⟨#[97,98,99]⟩),(.string ⟨#[97,98,99]⟩),(.string ⟨#[97,98,99]⟩),(.string ⟨#[97,98,99]⟩),(.string ⟨#[97,98,99]⟩),(.string ⟨#[97,98,99]⟩),(.string ⟨#[97,98,99]⟩),(.string ⟨#[97,98,99]⟩),(.string ⟨#[97,98,99]⟩),(.string ⟨#[97,98,99]⟩),(.string ⟨#[97,98,99]⟩),(.string ⟨#[97,98,99]⟩),(.string ⟨#[97,98,99]⟩),(.string ⟨#[97,98,99]⟩),(.string ⟨#[97,98]⟩),(.string ⟨#[97,98]⟩),(.string ⟨#[105]⟩),(.string ⟨#[97,105]⟩),(.string ⟨#[97,98,99]⟩),(.string ⟨#[97,98]⟩),(.string ⟨#[97,98]⟩),(.string ⟨#[97]⟩),(.string ⟨#[97]⟩),(.string ⟨#[105]⟩),(.string ⟨#[105]⟩),(.string ⟨#[97]⟩),(.string ⟨#[97]⟩),(.string ⟨#[97]⟩)] ((Int.toNat op)*1))=(some (.string x))/\Q x h)))
def Yb (P:Program) (field:ByteArray) (a1:Addr) (Q:(Bool->(Hp->Prop))) (h:Hp):Prop:=
 aQ none og h a1 λx=>aa P XM [(.string x),(.string field)] bu (λr a=>Q r a) h
def RQ (P:Program) (x:Int) (Q:(Bool->(Hp->Prop))) (h:Hp):Prop:=
 Q (x !=x) h
def SU (P:Program) (x:Int) (Q:(Bool->(Hp->Prop))) (h:Hp):Prop:=
 Q (x !=x) h
def Th (P:Program) (b:Int) (c:Int) (Q:(Int->(Hp->Prop))) (h:Hp):Prop:=
 (if (c==0)=true then
 Q 0 h
 else
 (if (c==(-1))=true then
 Q (yw (0-b)) h
 else
 (c≠0/\Q (yw (Int.tdiv b c)) h)))
def GJ (P:Program) (b:Int) (c:Int) (Q:(Int->(Hp->Prop))) (h:Hp):Prop:=
 (if decide (c<0) then
 Q b h
 else
 (0<=(IntKind.wrap .u64 c)/\Q (v8 .i64 b (IntKind.wrap .u64 c)) h))
def Ge (P:Program) (b:Int) (c:Int) (Q:(Int->(Hp->Prop))) (h:Hp):Prop:=
 (if decide (c<0) then
 Q b h
 else
 (0<=(IntKind.wrap .u64 c)/\Q (fW .i64 b (IntKind.wrap .u64 c)) h))
def Ap (P:Program) (a:Bool) (Q:(Int->(Hp->Prop))) (h:Hp):Prop:=
 (if a then
 Q 1 h
 else
 Q 0 h)
def VV (P:Program) (bits:Int) (Q:(Nat->(Hp->Prop))) (h:Hp):Prop:=
 jw P (Extern.MathFloatBits.float64frombits #[(.int .u64 (IntKind.wrap .u64 bits))]) (iS .f64) (λr a=>Q r a) h
def zW (P:Program) (f:Nat) (Q:(Int->(Hp->Prop))) (h:Hp):Prop:=
 iz none P (cW .neq 322 (.tmp 3) (.tmp 4) (.float .f64 f) (.float .f64 f)) bu h λx=>(if x then
 Q 9221120237041090560 h
 else
 jw P (Extern.MathFloatBits.float64bits #[(.float .f64 f)]) (ae .u64) (λr a=>Q (yw r) a) h)
def VW (P:Program) (f:Nat) (Q:(Int->(Hp->Prop))) (h:Hp):Prop:=
 iz none P (cW .neq 322 (.tmp 4) (.tmp 5) (.float .f64 f) (.float .f64 f)) bu h λx=>(if x then
 Q 0 h
 else
 iz none P (cW .geq 322 (.tmp 8) (.const (.float .f64 4890909195324358656)) (.float .f64 f) (.float .f64 4890909195324358656)) bu h λa=>(if a then
 Q 9223372036854775807 h
 else
 iz none P (cW .lss 322 (.tmp 11) (.const (.float .f64 14114281232179134464)) (.float .f64 f) (.float .f64 14114281232179134464)) bu h λb=>(if b then
 Q (-9223372036854775808) h
 else
 iz none P (convert 322 2 (.float .f64 f)) yH h λc=>Q c h)))
def Sd (P:Program) (t:Option Addr) (i:Int) (Q:(Bool->(Hp->Prop))) (h:Hp):Prop:=
 ag (some (decide (i>=0))) t λp=>aQ (some (decide (i>=0))) al h (Addr.add p 0) λx=>aG ((decide (i>=0))&&(decide (i<(x.len:Int)))) λy=>Q y h
def TO (P:Program) (a:Int) (b:Int) (Q:(Bool->(Hp->Prop))) (h:Hp):Prop:=
 Q ((de .andNot .u64 a b)==0) h
def Sf (P:Program) (p:Option Addr) (lane:Int) (proc:Int) (v:Int) (Q:(Int->(Hp->Prop))) (h:Hp):Prop:=
 aa P KJ [(yP p),(yI lane)] bu (λr b=>(if (!r)=true then
 Q 2 b
 else
 aa P XV [(yP p),(yI proc)] yH (λe a=>(if decide (e>=0) then
 Q 8 a
 else
 ag none p λd=>cN a d 0 λx=>((bD x.base x.len lane)/\aQ none aj a (sat x.base 1 lane) λf=>aa P X2 [(yP f),(yI proc),(yI v)] yH (λr2 c=>Q r2 c) a))) b)) h
def XW (P:Program) (p:Option Addr) (Q:(Cm->(Hp->Prop))) (h:Hp):Prop:=
 ag none p λf=>fb h f 1 λx=>ag none p λc=>cN h c 0 λd=>bq [(yI 0)] (λa b=>(((aT b (Addr.add f 1) [(yI x)])/\((aT b (Addr.add c 0) [d.v])/\True))/\cq b a [(yI x)] (λe=>(((aT e (Addr.add c 0) [d.v])/\True)/\bq [(yI (d.len:Int))] (λa1 g=>Q ⟨221, #[], #[(yP (some a1)),(yP (some a))]⟩ g) e)))) h
def SW (P:Program) (l:Option Addr) (Q:(Int->(Hp->Prop))) (h:Hp):Prop:=
 ag none l λp=>cN h p 1 λx=>Q (x.len:Int) h
def Sh (P:Program) (l:Option Addr) (Q:(Int->(bt->(Bool->(Int->(Hp->Prop)))))) (h:Hp):Prop:=
 ag none l λp=>cN h p 1 λx=>(if ((x.len:Int)==(0:Int))=true then
 Q (0:Int) ⟨(0:Int),(0:Int)⟩ false (21:Int) h
 else
 ag none l λB=>cN h B 1 λf=>((bD f.base f.len (0:Int))/\aQ none yH h (sat f.base 1 (0:Int)) λt=>ag none l λH=>cN h H 1 λS=>ag none l λI=>cN h I 1 λc=>(((0:Int)<=(1:Int)/\(1:Int)<=(c.len:Int))/\aG (α:=Sl) ⟨(aS c.base 1 1 c.cap),(c.len-1),(c.cap-1)⟩ λy=>fq 1 S y (λr j=>ag none l λJ=>cN j J 1 λe=>(((0:Int)<=r/\r<=(e.cap:Int))/\aG (α:=Sl) ⟨(aS e.base 1 0 e.cap),((Int.toNat r)-0),(e.cap-0)⟩ λV=>ag none l λK=>cq j (Addr.add K 1) [V.v] (λk=>ag none l λL=>fb k L 3 λT=>aa P VM [(yI T)] yH (λR w=>ag none l λM=>cq w (Addr.add M 3) [(yI R)] (λb=>ag none l λN=>cN b N 2 λU=>(if decide ((U.len:Int)>(0:Int)) then
 ag none l λO=>cN b O 2 λi=>((bD i.base i.len (0:Int))/\aQ none aE b (sat i.base 2 (0:Int)) λu=>ag none l λC=>cN b C 2 λq=>ag none l λD=>cN b D 2 λg=>ag none l λE=>cN b E 2 λd=>(((0:Int)<=(1:Int)/\((1:Int)<=(g.len:Int)/\((g.len:Int)<=(d.len:Int)/\(d.len:Int)<=(q.cap:Int))))/\aG (α:=Sl) ⟨(aS q.base 2 1 (Int.toNat (d.len:Int))),((Int.toNat (g.len:Int))-1),((Int.toNat (d.len:Int))-1)⟩ λW=>ag none l λF=>cq b (Addr.add F 2) [W.v] (λm=>ag none l λo=>cN m o 1 λs=>bq [(yI u.eN)] (λa n=>(((aT n (Addr.add o 1) [s.v])/\True)/\fP 1 8 [(yI (0:Int))] s ⟨(some a),1,1⟩ (λr2 z=>ag none l λG=>cq z (Addr.add G 1) [r2.v] (λA=>Q t u true (0:Int) A)) n)) m)))
 else
 Q t ⟨(0:Int),(0:Int)⟩ false (0:Int) b))) k))) h)))
def RT (P:Program) (l:Option Addr) (p:Int) (Q:(Int->(Hp->Prop))) (h:Hp):Prop:=
 bq [(yI p)] (λa b=>ag none l λd=>cN b d 2 λx=>aa P WL [x.v,(.func (.func 223) #[] #[(yP (some a))])] yH (λr c=>Q r c) b) h
def Nr (P:Program) (s:Sl) (i:Int) (j:Int) (Q:(Sl->(Hp->Prop))) (h:Hp):Prop:=
 ((0<=i/\(i<=j/\(j<=(s.len:Int)/\(s.len:Int)<=(s.cap:Int))))/\aG (α:=Sl) ⟨(aS s.base 2 (Int.toNat i) (Int.toNat (s.len:Int))),((Int.toNat j)-(Int.toNat i)),((Int.toNat (s.len:Int))-(Int.toNat i))⟩ λy=>(if (i==j)=true then
 Q s h
 else
 ((0<=i/\i<=(s.cap:Int))/\aG (α:=Sl) ⟨(aS s.base 2 0 s.cap),((Int.toNat i)-0),(s.cap-0)⟩ λc=>((0<=j/\j<=(s.len:Int))/\aG (α:=Sl) ⟨(aS s.base 2 (Int.toNat j) s.cap),(s.len-(Int.toNat j)),(s.cap-(Int.toNat j))⟩ λd=>fP 2 16 [(yI 0),(yI 0)] c d (λr a=>((0<=(r.len:Int)/\((r.len:Int)<=(s.len:Int)/\(s.len:Int)<=(r.cap:Int)))/\aG (α:=Sl) ⟨(aS r.base 2 (Int.toNat (r.len:Int)) r.cap),((Int.toNat (s.len:Int))-(Int.toNat (r.len:Int))),(r.cap-(Int.toNat (r.len:Int)))⟩ λe=>lU P (Builtin.clear_ #[132] 0 #[e.v]) rQ (λb=>Q r b) a)) h))))
def RU (P:Program) (p:Option Addr) (proc:Int) (Q:(Int->(Hp->Prop))) (h:Hp):Prop:=
 ag none p λi=>cN h i 0 λx=>ay (α1:=Int) (λe a d=>(if decide (a<(x.len:Int)) then
 ((bD x.base x.len a)/\aQ none aj d (sat x.base 1 a) λj=>aa P RC [(yP j)] bS (λr g=>ay (α1:=Int) (λf c b=>(if decide (c<(r.dR.len:Int)) then
 ((bD r.dR.base r.dR.len c)/\aQ none aE b (sat r.dR.base 2 c) λk=>(if (k.cX==proc)=true then
 Q a b
 else
 f (yw (c+1)) b))
 else
 e (yw (a+1)) b)) 0 g) d)
 else
 Q (-1) d)) 0 h
def Sj (P:Program) (l:Option Addr) (p:Int) (v:Int) (Q:(Int->(Hp->Prop))) (h:Hp):Prop:=
 aa P R6 [(yP l)] bu (λr c=>(if (!r)=true then
 Q 20 c
 else
 aa P RG [(yP l),(yI p)] yH (λj b=>(if decide (j>=0) then
 Q 8 b
 else
 ag none l λg=>cN b g 2 λx=>bq [(yI p),(yI v)] (λa d=>fP 2 16 [(yI 0),(yI 0)] x ⟨(some a),1,1⟩ (λr2 e=>ag none l λi=>cq e (Addr.add i 2) [r2.v] (λf=>Q 0 f)) d) b)) c)) h
def Nj (P:Program) (s:Sl) (f:Cm) (Q:(Int->(Hp->Prop))) (h:Hp):Prop:=
 ay (α1:=Int) (λd a b=>(if decide (a<(s.len:Int)) then
 ((bD s.base s.len a)/\aQ none aE b (sat s.base 2 a) λx=>iG P tb (.func (.func f.g) f.first f.captured) [x.v] bu (λr c=>(if r then
 Q a c
 else
 d (yw (a+1)) c)) b)
 else
 Q (-1) b)) 0 h
def XI (P:Program) (w:bt) (a1:Addr) (Q:(Bool->(Hp->Prop))) (h:Hp):Prop:=
 aQ none yH h a1 λx=>Q (w.cX==x) h
end Lf
namespace Lf
open Go
def iw.s (a:iw):iw:=.sq .tt a
def bV (a n:Nat):List (Nat×List Nat):=(List.range' a n).map λi=>(i,[])
structure Tb.Ok (P:Program) (tb:Tb):Prop where
 bE:∀t e,tb.ty t=some e->P.underlying t=some e.bE
 info:∀t e,tb.ty t=some e->∃i,P.info? t=some i/\i.size=e.size/\i.bytes=e.bytes/\i.zero=some e.zero
 agg:∀t e,tb.ty t=some e->nM e.bE=true->∀x,∃cs,e.sh.enc x=.agg cs/\cs.size=e.size
 leaf:∀t e,tb.ty t=some e->nM e.bE=false->e.size=1/\∀x,(aY (e.sh.enc x)).length=1/\∀cs,e.sh.enc x≠ .agg cs
 xg:∀t e,tb.ty t=some e->(aY e.zero).length=e.size
 yl:∀t e,tb.ty t=some e->e.bE=.int .u8->aY e.zero=[.int .u8 0]
 MM:∀t e,tb.ty t=some e->nM e.bE=true->∃cs,e.zero=.agg cs
 call:∀g,tb.call g=true->∀args w,(callFunc g args).run P w=.ok (.enter g args) w
 ext:∀g f,tb.ext g=some f->∀args w,(callFunc g args).run P w=((f args).run P w).andThen λv w'=>.ok (.value v) w'
 mixed:P.follows .mixedOrders=true
theorem wQ :∀ {c d:aP},nD c d=true->c=d
 | [],[],_=>rfl
 | [],_::_,h=>by simp [nD] at h
 | (t,w)::c,[],h=>by simp [nD] at h
 | (t,w)::c,(u,x)::d,h=>by
  simp only [nD] at h;cases a:Nat.beq t u with
  | false=>simp [a] at h
  | true=>
   cases b:FD w x with
   | false=>simp [a,b] at h
   | true=>
    simp only [a,b,cond_true] at h;have e:t=u:=Nat.eq_of_beq_eq_true a;have f:w=x:=by cases w<;>cases x<;>first | rfl | cases b
    rw [e,f,wQ h]
theorem Ip :∀ {c ch:aP},mo c ch=true->∀p∈c,p∈ch
 | c,[],h=>by
  cases c with
  | nil=>intro p hp;cases hp
  | cons a r=>simp [mo] at h
 | c,q::d,h=>by
  cases c with
  | nil=>intro p hp;cases hp
  | cons a r=>
   simp only [mo] at h;cases b:nD (a::r) (q::d) with
   | true=>intro p hp;rw [<-wQ b];exact hp
   | false=>simp only [b,cond_false] at h;intro p hp;exact List.mem_cons_of_mem _ (Ip h p hp)
def hb (s:St) (t:Nat):Option Bool:=match s.f t with
 | some (.v (.bool b),_)=>some b
 | _=>none
def holds (s:St) (ch:aP):Prop:=∀p∈ch,hb s p.1=some p.2
theorem bp (s:St):holds s []:=λ_ h=>by cases h
theorem Lj {s:St} {c ch:aP} (a:mo c ch=true) (h:holds s ch):holds s c:=λp hp=>h p (Ip a p hp)
theorem Iq {s:St} (t:Nat) (w:Bool) (r:aP):∃b,dX s ((t,w)::r)=some b/\(holds s ((t,w)::r)->b=true):=by
 induction r generalizing t w with
 | nil=>
  simp only [dX];split
  ·rename_i b c a;refine ⟨_,rfl,λh=> ?_⟩;have:=h (t,w) (List.mem_cons_self ..);simp only [hb,a] at this;grind
  ·refine ⟨false,rfl,λh=> ?_⟩;have:=h (t,w) (List.mem_cons_self ..);unfold hb at this;split at this
   ·rename_i e _ b c a;exact absurd a (e b c)
   ·cases this
 | cons p r k=>
  obtain ⟨l,m⟩:=p;obtain ⟨f,g,i⟩:=k l m;simp only [dX];split
  ·rename_i b c a;rw [g];refine ⟨_,rfl,λh=> ?_⟩;have d:=h (t,w) (List.mem_cons_self ..);simp only [hb,a] at d;injection d with d
   have n:f=true:=i λq j=>h q (List.mem_cons_of_mem _ j);grind
  ·refine ⟨false,rfl,λh=> ?_⟩;have:=h (t,w) (List.mem_cons_self ..);unfold hb at this;split at this
   ·rename_i e _ b c a;exact absurd a (e b c)
   ·cases this
theorem nv {s:St} {ch:aP} {p:Prop} (h:kf (dX s ch) p) (a:holds s ch):p:=by
 cases ch with
 | nil=>exact h
 | cons q r=>obtain ⟨t,w⟩:=q;obtain ⟨b,hb,c⟩:=Iq (s:=s) t w r;rw [hb] at h;exact h (c a)
def LVal (a:Nat->Nat):LV->Value
 | .v x=>x
 | .box k o=>.pointer (some ⟨a k,o,none⟩)
 | .dv k o=>.pointer (some ⟨a k,o,none⟩)
def dY (β:Nat->Nat) (s:St) (ρ:Operand->Value):Operand->Prop
 | .tmp t=>∀l c,s.f t=some (l,c)->holds s c->ρ (.tmp t)=LVal β l
 | .const v=>ρ (.const v)=v
 | .global g=>ρ (.global g)=.pointer (some ⟨g,0,none⟩)
 | .func f=>ρ (.func f)=.func (.func f) #[] #[]
theorem bn {e:Nat->Nat} {s:St} {h:Operand->Value} {x:Operand} {ch:aP} {l:LV} (b:dY e s h x) (j:holds s ch) (a:ev s ch x=some l):h x=LVal e l:=by
 cases x with
 | tmp t=>
  simp only [ev] at a;split at a
  ·rename_i k c i;cases d:mo c ch with
   | false=>simp [d] at a
   | true=>simp only [d,cond_true] at a;cases a;exact b l c i (Lj d j)
  ·cases a
 | const v=>cases a;exact b
 | global g=>cases a;exact b
 | func f=>cases a;exact b
theorem We {l:Option LV} {K:LV->Prop} (h:Kj l K):∃x,l=some x/\K x:=by
 cases l with
 | none=>exact h.elim
 | some x=>exact ⟨x,rfl,h⟩
theorem jC {l:Option LV} {K:Value->Prop} (h:gW l K):∃x,l=some (.v x)/\K x:=by
 cases l with
 | none=>exact h.elim
 | some x=>cases x<;>first | exact ⟨_,rfl,h⟩ | exact h.elim
theorem CM {l:Option (List Value)} {K:List Value->Prop} (h:nc l K):∃x,l=some x/\K x:=by
 cases l with
 | none=>exact h.elim
 | some x=>exact ⟨x,rfl,h⟩
def oK (d:Nat->Nat) (s:St) (o:Oper) (w:World):Prop:=
 ∀t,Operand.tmp t∈o.op.operands->∀k off c,(s.f t=some (.box k off,c)\/s.f t=some (.dv k off,c))->holds s c->∀a,s.m k=some a->∃b,w.heap[d k]? =some (.cells a.toArray b (0,0))
theorem qU {s:St} {ch:aP} {x:Operand} {l:LV} (a:ev s ch x=some l) (h:∀v,l≠ .v v) (e:holds s ch):∃t c,x=.tmp t/\s.f t=some (l,c)/\holds s c:=by
 cases x with
 | tmp t=>
  simp only [ev] at a;split at a
  ·rename_i i c d;cases b:mo c ch with
   | false=>simp [b] at a
   | true=>simp only [b,cond_true] at a;cases a;exact ⟨t,c,rfl,d,Lj b e⟩
  ·cases a
 | const v=>cases a;grind
 | global g=>cases a;grind
 | func f=>cases a;grind
theorem oK.box {β:Nat->Nat} {s:St} {o:Oper} {w:World} (hb:oK β s o w) {ch:aP} {x:Operand} {k off:Nat} (i:x∈o.op.operands) (e:ev s ch x=some (.box k off)) (g:holds s ch)
  {a:List Value} (h:s.m k=some a):∃b,w.heap[β k]? =some (.cells a.toArray b (0,0)):=by
 obtain ⟨t,c,rfl,f,d⟩:=qU e (by simp) g;exact hb t i k off c (.inl f) d a h
theorem oK.dv {b:Nat->Nat} {s:St} {o:Oper} {w:World} (hb:oK b s o w) {ch:aP} {x:Operand} {k off:Nat} (j:x∈o.op.operands) (f:ev s ch x=some (.dv k off)) (h:holds s ch)
  {a:List Value} (i:s.m k=some a):∃d,w.heap[b k]? =some (.cells a.toArray d (0,0)):=by
 obtain ⟨t,c,rfl,g,e⟩:=qU f (by simp) h;exact hb t j k off c (.inr g) e a i
def nW (a:Kd) (P:Program) (o:Oper) (s:St) (h:Hp) (l:LV):Prop:=
 ∀(c:Nat->Nat) (d:Operand->Value) (w:World),(∀x∈o.op.operands,dY c s d x)->(a=.mem->Sub h w)->(a≠ .pure->oK c s o w)->
  ∃b,(execOp d o).run P w=.ok (.value (LVal c l)) b/\(a≠ .mem->b=w)/\(a=.mem->Step h h w b)
theorem mr {b:Type _}:∀(l:List b) (i:Nat),nth l i=l[i]?
 | [],_=>by simp [nth]
 | a::l,0=>by simp [nth]
 | a::l,n+1=>by simp [nth,mr l n]
theorem Ir {b:Type _}:∀(l:List b) (i:Nat),n7 l i=l.drop i
 | l,0=>by simp [n7]
 | [],n+1=>by simp [n7]
 | a::l,n+1=>by simp [n7,Ir l n]
theorem Iu {b:Type _}:∀(l:List b) (i:Nat),oi l i=l.take i
 | l,0=>by simp [oi]
 | [],n+1=>by simp [oi]
 | a::l,n+1=>by simp [oi,Iu l n]
theorem qk {b:Type _}:∀(l r:List b),app l r=l++r
 | [],r=>rfl
 | a::l,r=>by simp [app,qk l r]
theorem qq :∀(l:List Nat) (i:Nat),has l i=true↔i∈l
 | [],i=>by simp [has]
 | a::l,i=>by
  simp only [has];cases h:Nat.beq i a with
  | true=>simp [Nat.eq_of_beq_eq_true h]
  | false=>
   have:i≠a:=λe=>by rw [e] at h;simp at h
   simp [qq l i,this]
theorem xd {l:List Nat} {i:Nat} (h:has l i=false):i∉l:=λa=>by rw [(qq l i).2 a] at h;cases h
section
variable {P:Program} {tb:Tb}
theorem au (ok:tb.Ok P) {t:Nat} {e:Ty} (h:tb.ty t=some e) (w:World):(underlying t).run P w=.ok e.bE w:=by simp [underlying,ok.bE t e h]
theorem ko (ok:tb.Ok P) {t:Nat} {e:Ty} (h:tb.ty t=some e) (w:World):
  ∃i,(typeInfo t).run P w=.ok i w/\i.size=e.size/\i.bytes=e.bytes/\i.zero=some e.zero:=by
 obtain ⟨i,d,a,b,c⟩:=ok.info t e h;exact ⟨i,by simp [typeInfo,d],a,b,c⟩
theorem bI (ok:tb.Ok P) {t:Nat} {e:Ty} (h:tb.ty t=some e) (w:World):(Go.sizeOf t).run P w=.ok e.size w:=by obtain ⟨i,b,a,c,d⟩:=ko ok h w;simp only [Go.sizeOf,Sem.run_bind,b,Result.andThen_ok,Sem.run_pure,a]
theorem bX (ok:tb.Ok P) {t:Nat} {e:Ty} (h:tb.ty t=some e) (w:World):(zeroValue t).run P w=.ok e.zero w:=by obtain ⟨i,b,c,d,a⟩:=ko ok h w;simp only [zeroValue,Sem.run_bind,b,Result.andThen_ok,a,Sem.run_pure]
theorem kJ (ok:tb.Ok P) {t:Nat} {e:Ty} (h:tb.ty t=some e) (w:World):(isAgg t).run P w=.ok (nM e.bE) w:=by simp only [isAgg,Sem.run_bind,au ok h,Result.andThen_ok];cases e.bE<;>rfl
theorem nt (v:Value):v.cells.toList=aY v:=by cases v<;>rfl
theorem XX {w:World} {a:Addr}:∀(n i:Nat) (d:Array Value) (b:List Value),b.length=n->
  (∀j v,b[j]? =some v->w.cell? (a.add (i+j))=some v)->(loadCellsFrom a i n d).run P w=.ok (d++b.toArray) w
 | 0,i,d,b,e,_=>by have:b=[]:=List.length_eq_zero_iff.1 e;subst this;simp [loadCellsFrom]
 | n+1,i,d,[],e,_=>by simp at e
 | n+1,i,d,c::b,e,f=>by
  have g:w.cell? (a.add i)=some c:=by simpa using f 0 c (by simp)
  have k:=XX n (i+1) (d.push c) b (by simpa using e) (λj v h=>by
   have:=f (j+1) v (by simpa using h)
   rwa [show i+1+j=i+(j+1) from by omega])
  simp only [loadCellsFrom,Sem.run_bind,run_load,g,Result.andThen_ok,k];congr 1;simp
theorem TQ {w:World} {a:Addr} {b:List Value} (c:∀j v,b[j]? =some v->w.cell? (a.add j)=some v):(loadCells a b.length).run P w=.ok b.toArray w:=by unfold loadCells;rw [XX b.length 0 #[] b rfl (by simpa using c)];simp
theorem K9 (ok:tb.Ok P) {t:Nat} {e:Ty} (h:tb.ty t=some e) {w:World} {a:Addr} {x:e.sh.T}
  (d:∀j v,(aY (e.sh.enc x))[j]? =some v->w.cell? (a.add j)=some v):(loadVar t a).run P w=.ok (e.sh.enc x) w:=by
 simp only [loadVar,Sem.run_bind,kJ ok h,Result.andThen_ok];cases c:nM e.bE with
 | true=>
  obtain ⟨b,f,o⟩:=ok.agg t e h c x;simp only [if_true,Sem.run_bind,bI ok h,Result.andThen_ok];have m:b.toList.length=e.size:=by simpa using o
  have k:∀j v,b.toList[j]? =some v->w.cell? (a.add j)=some v:=by simpa [f,aY] using d
  rw [<-m,TQ k];simp [f]
 | false=>
  obtain ⟨p,i⟩:=ok.leaf t e h c;have n:=(i x).2;have l:aY (e.sh.enc x)=[e.sh.enc x]:=by generalize e.sh.enc x=v at n;cases v<;>first | rfl | grind
  have:=d 0 (e.sh.enc x) (by simp [l]);have g:a.add 0=a:=by simp [Addr.add]
  rw [g] at this;simp [this]
theorem rN (a:Addr) (i j:Nat):(a.add i).add j=a.add (i+j):=by unfold Addr.add;grind
theorem jD (b o i:Nat):(⟨b,o,none⟩:Addr).add i=⟨b,o+i,none⟩:=by unfold Addr.add;simp
theorem A2 {w:World} {b t:Nat} {a:List Value} (hb:w.heap[b]? =some (.cells a.toArray t (0,0))) (i:Nat):w.cell? ⟨b,i,none⟩=a[i]?:=by unfold World.cell?;simp [hb]
end
section
variable {P:Program} {tb:Tb}
def lH (o:Oper) (ch:aP) (s:St) (l:LV):Prop:=
 ∀k off,(l=.box k off\/l=.dv k off)->∃x∈o.op.operands,∃a,ev s ch x=some (.box k a)\/ev s ch x=some (.dv k a)
theorem uQ (o:Oper) (ch:aP) (s:St) (v:Value):lH o ch s (.v v):=λ_ _ e=>by grind
theorem Bv {o:Oper} {ch:aP} {s:St} {l:LV} {x:Operand} (a:x∈o.op.operands) (b:ev s ch x=some l):lH o ch s l:=λk off e=>
 ⟨x,a,off,by grind⟩
theorem Iv {o:Oper} {ch:aP} {s:St} {l:LV} {x:Operand} {k off:Nat} (c:x∈o.op.operands) (d:ev s ch x=some (.box k off))
  (f:∀a b,(l=.box a b\/l=.dv a b)->a=k):lH o ch s l:=λa b e=>⟨x,c,off,.inl (by grind)⟩
theorem Uv {o:Oper} {ch:aP} {s:St} {l:LV} {x:Operand} {k off:Nat} (c:x∈o.op.operands) (d:ev s ch x=some (.dv k off))
  (f:∀a b,(l=.box a b\/l=.dv a b)->a=k):lH o ch s l:=λa b e=>⟨x,c,off,.inr (by grind)⟩
def dP (P:Program) (tb:Tb) (o:Oper) (ch:aP) (s:St) (h:Hp) (K:LV->Prop):Prop:=
 ∃l,K l/\(holds s ch->nW (cf tb o ch s) P o s h l)/\lH o ch s l
theorem jW {o:Oper} {ch:aP} {s:St} {h:Hp} {K:LV->Prop} (l:LV) (b:K l)
  (d:holds s ch->∀(β:Nat->Nat) (ρ:Operand->Value) (w:World),(∀x∈o.op.operands,dY β s ρ x)->
   (execOp ρ o).run P w=.ok (.value (LVal β l)) w)
  (hp:lH o ch s l:=by exact uQ _ _ _ _):dP P tb o ch s h K:=
 ⟨l,b,λa β ρ w c f hb=>⟨w,d a β ρ w c,λ_=>rfl,λe=>.refl (f e)⟩,hp⟩
theorem Hq {o:Oper} {ch:aP} {s:St} {h:Hp} {K:LV->Prop} (f:cf tb o ch s=.box) (l:LV) (d:K l)
  (i:holds s ch->∀(a:Nat->Nat) (b:Operand->Value) (w:World),(∀x∈o.op.operands,dY a s b x)->oK a s o w->
   (execOp b o).run P w=.ok (.value (LVal a l)) w)
  (hp:lH o ch s l:=by exact uQ _ _ _ _):dP P tb o ch s h K:=
 ⟨l,d,λc a b w g j hb=>⟨w,i c a b w g (hb (by rw [f];simp)),λ_=>rfl,λe=>.refl (j e)⟩,hp⟩
theorem Aq {o:Oper} {ch:aP} {s:St} {h:Hp} {K:LV->Prop} (g:cf tb o ch s=.mem) (l:LV) (f:K l)
  (j:holds s ch->∀(a:Nat->Nat) (b:Operand->Value) (w:World),(∀x∈o.op.operands,dY a s b x)->Sub h w->
   (execOp b o).run P w=.ok (.value (LVal a l)) w)
  (hp:lH o ch s l:=by exact uQ _ _ _ _):dP P tb o ch s h K:=
 ⟨l,f,λd a b w i c hb=>⟨w,j d a b w i (c g),λ_=>rfl,λe=>.refl (c e)⟩,hp⟩
theorem Ar {s:Sem Value} {h:Hp} {v:Value} (b:iK P s h v) {w:World} (c:Sub h w):∃a,s.run P w=.ok v a/\Step h h w a:=b w c
theorem Cg {o:Oper} {ch:aP} {s:St} {h:Hp} {K:LV->Prop} {t:Nat} {i:Sem Value} (g:cf tb o ch s=.mem) (b:mi (dX s ch) P tb t i h K)
  (p:holds s ch->∀(d:Nat->Nat) (c:Operand->Value),(∀x∈o.op.operands,dY d s c x)->∀(w a:World) (v:Value),i.run P w=.ok v a->(execOp c o).run P w=.ok (.value v) a):
  dP P tb o ch s h K:=by
 unfold mi at b;split at b
 ·rename_i e r;obtain ⟨x,q,j⟩:=b;refine ⟨_,j,λf d c w k m hb=> ?_,uQ _ _ _ _⟩;obtain ⟨a,l,n⟩:=Ar (nv q f) (m g);exact ⟨a,p f d c k w a _ l,λe=>absurd g e,λ_=>n⟩
 ·exact b.elim
theorem Iw {o:Oper} {ch:aP} {s:St} {h:Hp} {K:LV->Prop} {x:Operand} (a:o.op=.move x\/o.op=.assign x) (hv:Kj (ev s ch x) K):dP P tb o ch s h K:=by obtain ⟨l,b,d⟩:=We hv;refine jW l d (λc g i w e=> ?_) (Bv (by rcases a with h | h<;>simp [h,Op.operands]) b);have f:i x=LVal g l:=bn (e x (by rcases a with h | h<;>simp [h,Op.operands])) c b;rcases a with h | h<;>simp [execOp,h,f]
theorem Yi {t:Nat} {w:World} {a b:Bool} (c:(underlying t).run P w=.ok .bool w):(Op.equal t (.bool a) (.bool b)).run P w=.ok (a==b) w:=by
 have key:∀d,(Op.equalIn (d+1) t (.bool a) (.bool b)).run P w=.ok (a==b) w:=by intro d;unfold Op.equalIn;simp only [Sem.run_bind,c,Result.andThen_ok,Sem.run_pure]
 exact key 9999
theorem Yu {t elem:Nat} {w:World} {p:Option Addr} (a:(underlying t).run P w=.ok (.pointer elem) w):(Op.equal t (.pointer p) (.pointer none)).run P w=.ok p.isNone w:=by
 have key:∀d,(Op.equalIn (d+1) t (.pointer p) (.pointer none)).run P w=.ok p.isNone w:=by intro d;unfold Op.equalIn;simp only [Sem.run_bind,a,Result.andThen_ok];cases p<;>simp only [Sem.run_pure]<;>rfl
 exact key 9999
set_option maxHeartbeats 800000 in
theorem Ix (ok:tb.Ok P) {o:Oper} {ch:aP} {s:St} {h:Hp} {K:LV->Prop} {op:BinOp} {t R:Nat} {x y:Operand} (F:o.op=.binOp op t x y R)
  (hv:gW (ev s ch x) λa=>gW (ev s ch y) λb=>rf (dX s ch) P tb op t x y o.type a b h K):dP P tb o ch s h K:=by
 obtain ⟨a,L,G⟩:=jC hv;clear hv;obtain ⟨b,E,hv⟩:=jC G;clear G;have Q:holds s ch->∀(g:Nat->Nat) (d:Operand->Value),(∀x∈o.op.operands,dY g s d x)->d x=a/\d y=b:=λc g d i=>
  ⟨bn (i x (by simp [F,Op.operands])) c L,bn (i y (by simp [F,Op.operands])) c E⟩
 have C:holds s ch->∀(g:Nat->Nat) (d:Operand->Value),(∀x∈o.op.operands,dY g s d x)->∀(w l:World) (v:Value),(cW op t x y a b).run P w=.ok v l->
   (execOp d o).run P w=.ok (.value v) l:=by
  intro c g d i w l v j;obtain ⟨J,hb⟩:=Q c g d i;simp only [execOp,F,J,hb];change (cW op t x y a b>>=λx=>pure (Next.value x)).run P w=_;rw [Sem.run_bind,j];rfl
 have gen:∀v:Value,K (.v v)->(holds s ch->∀w,(cW op t x y a b).run P w=.ok v w)->dP P tb o ch s h K:=λv A j=>
  jW (.v v) A λc g d w i=>C c g d i w w v (j c w)
 unfold rf at hv;split at hv
 · -- numbers
  rename_i k m H n;have f:∀w:World,(eqGuard op t x y (.int k m) (.int H n)).run P w=.ok () w:=λw=>by unfold eqGuard;split<;>rfl
  split at hv
  ·refine gen _ hv.2 λc w=> ?_;have r:=nv hv.1 c;simp only [cW,Sem.run_bind,f,Result.andThen_ok];simp [binOp,Op.shift,v8,Int.not_lt.2 r]
  ·refine gen _ hv.2 λc w=> ?_;have r:=nv hv.1 c;simp only [cW,Sem.run_bind,f,Result.andThen_ok];simp [binOp,Op.shift,fW,Int.not_lt.2 r]
  ·cases A:Dp k H with
   | false=>simp [A] at hv
   | true=>
    have N:=FC A;subst N;simp only [A,cond_true] at hv;cases op<;>simp only [Dn] at hv<;>
     first
     |exact hv.elim
     |exact gen _ hv λ_ w=>by simp only [cW,Sem.run_bind,f,Result.andThen_ok];simp [binOp,Op.intArith,Op.intCmp,Op.intBits,de]
     |exact gen _ hv.2 λc w=>by have r:=nv hv.1 c;simp only [cW,Sem.run_bind,f,Result.andThen_ok];simp [binOp,Op.intDiv,r]
 · -- truths
  rename_i m n;split at hv
  ·rename_i e D;have f:∀w:World,(eqGuard op t x y (.bool m) (.bool n)).run P w=.ok () w:=λw=>by unfold eqGuard;split<;>rfl
   have B:=λw=>au ok D w;split at hv
   ·rename_i u;refine gen _ hv λ_ w=> ?_;simp only [cW,Sem.run_bind,f,Result.andThen_ok,binOp,Yi (u▸B w),Sem.run_pure]
   ·rename_i u;refine gen _ hv λ_ w=> ?_;simp only [cW,Sem.run_bind,f,Result.andThen_ok,binOp,Yi (u▸B w),Sem.run_pure]
   ·exact hv.elim
  ·exact hv.elim
 · -- texts
  rename_i m n;have f:∀w:World,(eqGuard op t x y (.string m) (.string n)).run P w=.ok () w:=λw=>by unfold eqGuard;split<;>rfl
  split at hv
  ·exact gen _ hv λ_ w=>by simp only [cW,Sem.run_bind,f,Result.andThen_ok];simp [binOp,Op.stringOp]
  ·exact gen _ hv λ_ w=>by simp only [cW,Sem.run_bind,f,Result.andThen_ok];simp [binOp,Op.stringOp]
  ·refine gen _ hv.2 λc w=> ?_;have r:=nv hv.1 c;simp only [cW,Sem.run_bind,f,Result.andThen_ok];have I:¬(((m.size+n.size:Nat):Int)>IntKind.i64.max):=by
    have:IntKind.i64.max=9223372036854775807:=by decide
    rw [this];omega
   simp only [binOp,Op.stringOp,if_neg I,Sem.run_pure]
  ·exact Cg (by simp_all [cf]) hv λc g d i w l v j=>C c g d i w l v j
 · -- pointers
  rename_i p q;cases z:Cd y with
  | false=>simp only [z,cond_false] at hv;exact Cg (by simp_all [cf]) hv λc g d i w l v j=>C c g d i w l v j
  | true=>
   simp only [z,cond_true] at hv;split at hv
   ·rename_i e D;split at hv
    ·rename_i elem u;have O:q=none:=by
      cases y with
      | const v=>
       simp only [ev] at E;cases E;cases q with
       | none=>rfl
       | some _=>simp [Cd] at z
      | tmp _=>simp [Cd] at z
      | global _=>simp [Cd] at z
      | func _=>simp [Cd] at z
     subst O;have f:∀w:World,(eqGuard op t x y (.pointer p) (.pointer none)).run P w=.ok () w:=λw=>by unfold eqGuard;split<;>rfl
     have B:=λw=>au ok D w;unfold vX at hv;split at hv
     ·refine gen _ hv λ_ w=> ?_;simp only [cW,Sem.run_bind,f,Result.andThen_ok,binOp,Yu (u▸B w),Sem.run_pure]
     ·refine gen _ hv λ_ w=> ?_;simp only [cW,Sem.run_bind,f,Result.andThen_ok,binOp,Yu (u▸B w),Sem.run_pure]
     ·exact hv.elim
    ·exact hv.elim
   ·exact hv.elim
 ·rename_i S T U V;have M:cf tb o ch s=.mem:=by unfold cf;grind
  exact Cg M hv λc g d i w l v j=>C c g d i w l v j
theorem FQ {t:Nat} {w:World} {ms} {a:Value} (b:od a=true) (c:(underlying t).run P w=.ok (.interface ms) w):(Op.equal t a .nilIface).run P w=.ok (IT a) w:=by
 have key:∀d,(Op.equalIn (d+1) t a .nilIface).run P w=.ok (IT a) w:=by intro d;unfold Op.equalIn;simp only [Sem.run_bind,c,Result.andThen_ok];cases a<;>first | rfl | cases b
 exact key 9999
theorem Bw {a:Value} (b:od a=true):a=.nilIface\/∃t v,a=.iface t v:=by cases a<;>first | exact .inl rfl | exact .inr ⟨_,_,rfl⟩ | cases b
theorem NG (ok:tb.Ok P) {o:Oper} {ch:aP} {s:St} {h:Hp} {K:LV->Prop} {op:BinOp} {t I:Nat} {x y:Operand} (j:o.op=.binOp op t x y I)
  (hv:gW (ev s ch x) λa=>gW (ev s ch y) λb=>tr (dX s ch) P tb op t x y o.type a b h K):dP P tb o ch s h K:=by
 cases k:Bt y with
 | false=>refine Ix ok j ?_;simpa only [tr,k,cond_false] using hv
 | true=>
  cases g:tJ tb t with
  | false=>refine Ix ok j ?_;simpa only [tr,k,g,cond_false,cond_true] using hv
  | true=>
   obtain ⟨a,E,A⟩:=jC hv;clear hv;obtain ⟨b,p,hv⟩:=jC A;clear A;simp only [tr,k,g,cond_true] at hv;obtain ⟨u,hv⟩:=hv;have H:y=.const .nilIface:=by unfold Bt at k;grind
   subst H;have hb:b=.nilIface:=by simp only [ev] at p;grind
   subst hb;have F:holds s ch->∀(l:Nat->Nat) (i:Operand->Value),(∀x∈o.op.operands,dY l s i x)->∀(w n:World) (v:Value),(cW op t x (.const .nilIface) a .nilIface).run P w=.ok v n->
     (execOp i o).run P w=.ok (.value v) n:=by
    intro d l i f w n v m;have c:i x=a:=bn (f x (by simp [j,Op.operands])) d E;have hb:i (.const .nilIface)=.nilIface:=bn (f (.const .nilIface) (by simp [j,Op.operands])) d p;simp only [execOp,j,c,hb];change (cW op t x (.const .nilIface) a .nilIface>>=λx=>pure (Next.value x)).run P w=_;rw [Sem.run_bind,m];rfl
   have gen:∀v:Value,K (.v v)->(holds s ch->∀w,(cW op t x (.const .nilIface) a .nilIface).run P w=.ok v w)->dP P tb o ch s h K:=λv G m=>
    jW (.v v) G λd l i w f=>F d l i f w w v (m d w)
   unfold tJ at g;split at g
   ·rename_i e D;split at g
    ·rename_i J q;have z:=λw=>au ok D w;have r:od a=true->∀w:World,(eqGuard op t x (.const .nilIface) a .nilIface).run P w=.ok () w:=λc w=>by unfold eqGuard;rcases Bw c with rfl | ⟨_,_,rfl⟩<;>cases op<;>first | rfl | (cases x<;>rfl)
     have C:od a=true->op=.eql->∀w:World,(binOp op t a .nilIface).run P w=.ok (.bool (IT a)) w:=λc f w=>by subst f;rcases Bw c with rfl | ⟨_,_,rfl⟩<;>simp only [binOp,Sem.run_bind,FQ (P:=P) c (q▸z w),Result.andThen_ok,Sem.run_pure]
     have B:od a=true->op=.neq->∀w:World,(binOp op t a .nilIface).run P w=.ok (.bool (!IT a)) w:=λc f w=>by subst f;rcases Bw c with rfl | ⟨_,_,rfl⟩<;>simp only [binOp,Sem.run_bind,FQ (P:=P) c (q▸z w),Result.andThen_ok,Sem.run_pure]
     unfold vX at hv;split at hv
     ·refine gen _ hv λd w=> ?_;have c:=nv u d;simp only [cW,Sem.run_bind,r c,Result.andThen_ok,C c rfl]
     ·refine gen _ hv λd w=> ?_;have c:=nv u d;simp only [cW,Sem.run_bind,r c,Result.andThen_ok,B c rfl]
     ·exact hv.elim
    ·cases g
   ·cases g
end
section
variable {P:Program} {tb:Tb} {o:Oper} {ch:aP} {s:St} {h:Hp} {K:LV->Prop}
theorem xB {β:Nat->Nat} {ρ:Operand->Value} (b:holds s ch):∀ {l:List Operand} {a:List Value},dO s ch l=some a->(∀x∈l,dY β s ρ x)->l.map ρ=a
 | [],a,h,_=>by cases h;rfl
 | x::l,a,h,c=>by
  simp only [dO] at h;split at h
  ·rename_i v r hv d;cases h;simp only [List.map_cons];rw [bn (c x (List.mem_cons_self ..)) b hv,xB b d λy e=>c y (List.mem_cons_of_mem _ e)];rfl
  ·cases h
theorem A3 {β:Nat->Nat} {ρ:Operand->Value} (b:holds s ch):∀ {l:List (Nat×Operand)} {a:List (Nat×Value)},lh s ch l=some a->(∀x∈l.map (·.2),dY β s ρ x)->
  l.map (λp=>(p.1,ρ p.2))=a
 | [],a,h,_=>by cases h;rfl
 | (i,x)::l,a,h,c=>by
  simp only [lh] at h;split at h
  ·rename_i v r hv d;cases h;simp only [List.map_cons];rw [bn (c x (by simp)) b hv,A3 b d λy e=>c y (by grind)];rfl
  ·cases h
theorem Hr {e:Nat->Nat} {i:Operand->Value} {x:Operand} {t:Nat} {w:Bool} {l:LV} (d:dY e s i x) (m:holds s ch) (j:hb s t=some w)
  (a:xq s ch t w x=some l):i x=LVal e l:=by
 cases x with
 | tmp u=>
  simp only [xq] at a;split at a
  ·rename_i n c k;cases b:mo c ((t,w)::ch) with
   | false=>simp [b] at a
   | true=>
    simp only [b,cond_true] at a;cases a;refine d l c k (Lj b λp hp=> ?_);rcases List.mem_cons.1 hp with rfl | hp
    ·exact j
    ·exact m p hp
  ·cases a
 | const v=>cases a;exact d
 | global g=>cases a
 | func f=>cases a
theorem Wf {x a b:Operand} (f:o.op=.pick x a b) (hv:tW s ch x a b K):dP P tb o ch s h K:=by
 unfold tW at hv;split at hv
 ·rename_i t;split at hv
  ·rename_i p y r;cases m:mo y ch with
   | false=>simp [m] at hv
   | true=>
    simp only [m,cond_true] at hv;have n:hb s t=some p:=by simp [hb,r]
    have i:holds s ch->∀(g:Nat->Nat) (c:Operand->Value),(∀x∈o.op.operands,dY g s c x)->c (.tmp t)=.bool p:=λe g c d=>
     d (.tmp t) (by simp [f,Op.operands]) _ _ r (Lj m e)
    have run:∀(c:Operand->Value) (w:World),c (.tmp t)=.bool p->(execOp c o).run P w=.ok (.value (if p=true then c a else c b)) w:=by intro c w hp;simp only [execOp,f,hp,asBool,Sem.run_bind,Sem.run_pure,Result.andThen_ok]
    split at hv
    ·rename_i u;obtain ⟨v,l,hv⟩:=jC hv;split at hv
     ·rename_i q;refine jW (.v (.bool (p&&q))) (hv _ rfl) λe g c w d=> ?_;rw [run c w (i e g c d)];cases hp:p with
      | true=>have:=Hr (d (.tmp u) (by simp [f,Op.operands])) e (hp▸n) l;simp [this,LVal]
      | false=>have:c (.const (.bool false))=.bool false:=d (.const (.bool false)) (by simp [f,Op.operands]);simp [this,LVal]
     ·exact hv.elim
    ·rename_i u;obtain ⟨v,l,hv⟩:=jC hv;split at hv
     ·rename_i q;refine jW (.v (.bool (p || q))) (hv _ rfl) λe g c w d=> ?_;rw [run c w (i e g c d)];cases hp:p with
      | false=>have:=Hr (d (.tmp u) (by simp [f,Op.operands])) e (hp▸n) l;simp [this,LVal]
      | true=>have:c (.const (.bool true))=.bool true:=d (.const (.bool true)) (by simp [f,Op.operands]);simp [this,LVal]
     ·exact hv.elim
    ·refine jW _ hv λe g c w d=> ?_;rw [run c w (i e g c d)];have j:c (.const (.bool true))=.bool true:=d (.const (.bool true)) (by simp [f,Op.operands]);have k:c (.const (.bool false))=.bool false:=d (.const (.bool false)) (by simp [f,Op.operands]);cases p<;>simp [j,k,LVal]
    ·rename_i u v _;refine jW _ hv λe g c w d=> ?_;rw [run c w (i e g c d)];have j:c (.const (.bool u))=.bool u:=d (.const (.bool u)) (by simp [f,Op.operands]);have k:c (.const (.bool v))=.bool v:=d (.const (.bool v)) (by simp [f,Op.operands]);cases p<;>simp [j,k,LVal]
    ·exact hv.elim
  ·exact hv.elim
 ·exact hv.elim
theorem Sm {x:Operand} {i:Nat} (c:o.op=.extract x i) (hv:gW (ev s ch x) λv=>match v with
  | .tuple b=>match nth b.toList i with
   | some y=>K (.v y)
   | none=>False
  | _=>False):dP P tb o ch s h K:=by
 obtain ⟨v,e,a⟩:=jC hv;clear hv;split at a
 ·rename_i b;split at a
  ·rename_i y d;refine jW (.v y) a λf k l w g=> ?_;have j:=bn (g x (by simp [c,Op.operands])) f e;have:b[i]? =some y:=by rw [mr] at d;simpa using d
   simp only [execOp,c,j,LVal,Instr.extract,this,Sem.run_bind,Sem.run_pure,Result.andThen_ok]
  ·exact a.elim
 ·exact a.elim
theorem Pt {op:UnOp} {t:Nat} {x:Operand} (c:o.op=.unOp op t x) (hv:gW (ev s ch x) λa=>MD op a K):dP P tb o ch s h K:=by
 obtain ⟨v,d,b⟩:=jC hv;clear hv;unfold MD at b;split at b<;>
  first
  |exact b.elim
  |refine jW _ b λe i j w f=> ?_
   have g:=bn (f x (by simp [c,Op.operands])) e d;simp [execOp,c,g,LVal,Op.unary,Op.intArith,Op.intBits,de]
theorem NH {x:Operand} (b:o.op=.nilCheck x) (hv:match ev s ch x with
  | some (.v (.pointer p))=>ag (dX s ch) p λa=>K (.v (.pointer (some a)))
  | some (.box k off)=>K (.box k off)
  | some (.dv k off)=>K (.dv k off)
  | _=>False):dP P tb o ch s h K:=by
 split at hv
 ·rename_i p c;obtain ⟨a,l,j⟩:=hv;refine jW _ j λd g i w e=> ?_;have f:=bn (e x (by simp [b,Op.operands])) d c;have hp:=nv l d;subst hp;simp [execOp,b,f,LVal]
 ·rename_i k off c;refine jW _ hv (λd g i w e=> ?_) (Bv (by simp [b,Op.operands]) c);have f:=bn (e x (by simp [b,Op.operands])) d c;simp [execOp,b,f,LVal]
 ·rename_i k off c;refine jW _ hv (λd g i w e=> ?_) (Bv (by simp [b,Op.operands]) c);have f:=bn (e x (by simp [b,Op.operands])) d c;simp [execOp,b,f,LVal]
 ·exact hv.elim
theorem GK {t:Nat} {a:List Value} {off:Nat} (hv:iv tb t a off K):
  ∃e v,tb.ty t=some e/\K (.v v)/\((nM e.bE=true/\v=.agg ((a.drop off).take e.size).toArray/\off+e.size<=a.length)\/(nM e.bE=false/\a[off]? =some v)):=by
 unfold iv at hv;split at hv
 ·rename_i e d;cases b:nM e.bE with
  | true=>
   simp only [b,cond_true,Ir,Iu] at hv;cases c:Nat.ble (off+e.size) a.length with
   | false=>simp [c] at hv
   | true=>simp only [c,cond_true] at hv;exact ⟨e,_,d,hv,.inl ⟨b,rfl,Nat.le_of_ble_eq_true c⟩⟩
  | false=>simp only [b,cond_false,mr] at hv;grind
 ·exact hv.elim
theorem Gf (ok:tb.Ok P) {t:Nat} {a:List Value} {off b f:Nat} {e:Ty} {v:Value} {w:World} (d:tb.ty t=some e)
  (hv:(nM e.bE=true/\v=.agg ((a.drop off).take e.size).toArray/\off+e.size<=a.length)\/(nM e.bE=false/\a[off]? =some v))
  (hb:w.heap[b]? =some (.cells a.toArray f (0,0))):(loadVar t ⟨b,off,none⟩).run P w=.ok v w:=by
 simp only [loadVar,Sem.run_bind,kJ ok d,Result.andThen_ok];rcases hv with ⟨c,hv,l⟩ | ⟨c,hv⟩
 ·have i:((a.drop off).take e.size).length=e.size:=by simp;omega
  have g:∀j v,((a.drop off).take e.size)[j]? =some v->w.cell? ((⟨b,off,none⟩:Addr).add j)=some v:=by intro j v k;rw [jD,A2 hb];grind
  rw [c];simp only [if_true,Sem.run_bind,bI ok d,Result.andThen_ok]
  conv=>lhs;rw [<-i]
  rw [TQ g];simp [hv]
 ·have:=A2 hb off;rw [hv] at this;simp [c,this]
theorem Wg (ok:tb.Ok P) {t:Nat} {x:Operand} (d:o.op=.load t x) (hv:match ev s ch x with
  | some (.v (.pointer (some a)))=>match tb.ty t with
   | some e=>aQ (dX s ch) e.sh h a λx=>K (.v (e.sh.enc x))
   | none=>False
  | some (.box k off)=>match s.m k with
   | some i=>iv tb t i off K
   | none=>False
  | some (.dv k off)=>match s.m k,tb.ty t with
   | some i,some e=>cond (nM e.bE) False (∃x,kf (dX s ch) (i[off]? =some (e.sh.enc x))/\K (.v (e.sh.enc x)))
   | _,_=>False
  | _=>False):dP P tb o ch s h K:=by
 have run:∀(f:Operand->Value) (w:World) (a:Addr) (v:Value),f x=.pointer (some a)->(loadVar t a).run P w=.ok v w->(execOp f o).run P w=.ok (.value v) w:=by intro f w a v g p;simp only [execOp,d,g,Instr.loadAt,Instr.sureAddr,Sem.run_bind,Sem.run_pure,Result.andThen_ok,p]
 split at hv
 ·rename_i a b;split at hv
  ·rename_i e q;obtain ⟨y,p,l⟩:=hv;refine Aq (by simp [cf,d,b]) _ l λc A f w n E=> ?_;have g:=bn (n x (by simp [d,Op.operands])) c b;exact run f w a _ g (K9 ok q λj v D=>uN E (nv p c j v D))
  ·exact hv.elim
 ·rename_i k off b;split at hv
  ·rename_i i z;obtain ⟨e,v,q,l,C⟩:=GK hv;refine Hq (by simp [cf,d,b]) _ l λc A f w n hb=> ?_;have g:=bn (n x (by simp [d,Op.operands])) c b;obtain ⟨B,u⟩:=hb.box (by simp [d,Op.operands]) b c z;exact run f w _ _ g (Gf ok q C u)
  ·exact hv.elim
 ·rename_i k off b;split at hv
  ·rename_i i e z q;cases r:nM e.bE with
   | true=>simp [r] at hv
   | false=>simp only [r,cond_false] at hv;obtain ⟨y,p,l⟩:=hv;refine Hq (by simp [cf,d,b]) _ l λc A f w n hb=> ?_;have g:=bn (n x (by simp [d,Op.operands])) c b;obtain ⟨B,u⟩:=hb.dv (by simp [d,Op.operands]) b c z;exact run f w _ _ g (Gf ok q (.inr ⟨r,nv p c⟩) u)
  ·exact hv.elim
 ·exact hv.elim
theorem Ru {t i:Nat} {Q:Nat->Nat->Prop} (hv:wM tb t i Q):
  ∃e a f g,tb.ty t=some e/\e.bE=.struct a/\a[i]? =some f/\tb.ty f.type=some g/\g.size≠0/\Q f.offset g.size:=by
 unfold wM at hv;split at hv
 ·rename_i e c;split at hv
  ·rename_i a d;split at hv
   ·rename_i f b;split at hv
    ·rename_i g j;split at hv
     ·exact hv.elim
     ·rename_i n k;refine ⟨e,a,f,g,c,d,by rw [mr] at b;simpa using b,j,by omega,k▸hv⟩
    ·exact hv.elim
   ·exact hv.elim
  ·exact hv.elim
 ·exact hv.elim
theorem QK (ok:tb.Ok P) {t i:Nat} {x:Operand} (d:o.op=.fieldAddr t x i) (hv:wM tb t i λoff _=>match ev s ch x with
  | some (.v (.pointer (some a)))=>K (.v (.pointer (some (a.add off))))
  | some (.box k o)=>K (.box k (o+off))
  | some (.dv k o)=>K (.dv k (o+off))
  | _=>False):dP P tb o ch s h K:=by
 obtain ⟨e,D,f,g,q,u,r,y,B,m⟩:=Ru hv;have run:∀(b:Operand->Value) (w:World) (a:Addr),b x=.pointer (some a)->(execOp b o).run P w=.ok (.value (.pointer (some (a.add f.offset)))) w:=by intro b w a A;have n:=au ok q w;rw [u] at n;have z:=bI ok y w;simp only [execOp,d,A,Instr.fieldAt,Instr.sureAddr,Sem.run_bind,n,Result.andThen_ok,r,Sem.run_pure,fieldPlace,z,if_neg B]
 split at m
 ·rename_i a c;refine jW _ m λj p b w l=> ?_;exact run b w a (bn (l x (by simp [d,Op.operands])) j c)
 ·rename_i k C c;refine jW _ m (λj p b w l=> ?_) (Iv (by simp [d,Op.operands]) c (by simp));rw [run b w _ (bn (l x (by simp [d,Op.operands])) j c),jD];rfl
 ·rename_i k C c;refine jW _ m (λj p b w l=> ?_) (Uv (by simp [d,Op.operands]) c (by simp));rw [run b w _ (bn (l x (by simp [d,Op.operands])) j c),jD];rfl
 ·exact m.elim
theorem Iy (ok:tb.Ok P) {t:Nat} {cs:List Value} {off:Nat} {e:Ty} {v:Value} {w:World} (b:tb.ty t=some e)
  (hv:(nM e.bE=true/\v=.agg ((cs.drop off).take e.size).toArray/\off+e.size<=cs.length)\/(nM e.bE=false/\cs[off]? =some v)):
  (part t cs.toArray off).run P w=.ok v w:=by
 simp only [part,Sem.run_bind,kJ ok b,Result.andThen_ok];rcases hv with ⟨a,hv,_⟩ | ⟨a,hv⟩
 ·simp only [a,if_true,Sem.run_bind,bI ok b,Result.andThen_ok,Sem.run_pure,hv];simp
 ·simp [a,hv]
theorem Ux (ok:tb.Ok P) {t i:Nat} {x:Operand} (j:o.op=.field t x i) (hv:match tb.ty t with
  | some e=>match e.bE with
   | .struct a=>match nth a.toList i with
    | some f=>gW (ev s ch x) λv=>match v with
     | .agg c=>iv tb f.type c.toList f.offset K
     | _=>False
    | none=>False
   | _=>False
  | none=>False):dP P tb o ch s h K:=by
 split at hv
 ·rename_i e m;split at hv
  ·rename_i a q;split at hv
   ·rename_i f d;obtain ⟨v,n,b⟩:=jC hv;clear hv;split at b
    ·rename_i c;obtain ⟨g,y,r,z,l⟩:=GK b;refine jW _ z λu C D w A=> ?_;have B:=bn (A x (by simp [j,Op.operands])) u n;have k:=au ok m w;rw [q] at k;have p:a[i]? =some f:=by rw [mr] at d;simpa using d
     have hp:=Iy (w:=w) ok r l;simp only [Array.toArray_toList] at hp;simp only [execOp,j,B,LVal,Instr.field,Sem.run_bind,k,Result.andThen_ok,p,asAgg,Sem.run_pure,hp]
    ·exact b.elim
   ·exact hv.elim
  ·exact hv.elim
 ·exact hv.elim
end
section
variable {P:Program} {tb:Tb} {o:Oper} {ch:aP} {s:St} {h:Hp} {K:LV->Prop}
theorem uH {t:Nat} {g:Ty} (h:fX tb t=some g):∃e u,tb.ty t=some e/\e.bE=.slice u/\tb.ty u=some g:=by unfold fX at h;grind
theorem zZ {t n:Nat} {g:Ty} (h:kX tb t=some (n,g)):∃e u,tb.ty t=some e/\e.bE=.array n u/\tb.ty u=some g:=by unfold kX at h;grind
theorem QM (ok:tb.Ok P) {t:Nat} {x i:Operand} (d:o.op=.indexAddr t x i) (hv:match ev s ch x,ev s ch i with
  | some (.v (.slice base len _)),some (.v (.int _ n))=>match fX tb t with
   | some e=>kf (dX s ch) (bD base len n)/\K (.v (.pointer (some (sat base e.size n))))
   | none=>False
  | some (.v (.pointer (some a))),some (.v (.int _ n))=>match kX tb t with
   | some (len,e)=>kf (dX s ch) (0<=n/\n<(len:Int))/\K (.v (.pointer (some (a.add (n.toNat*e.size)))))
   | none=>False
  | some (.box k off),some (.v (.int _ n))=>match kX tb t with
   | some (len,e)=>kf (dX s ch) (0<=n/\n<(len:Int))/\cond (An i) (K (.box k (off+n.toNat*e.size))) (K (.dv k (off+n.toNat*e.size)))
   | none=>False
  | _,_=>False):dP P tb o ch s h K:=by
 have L:∀(f:Operand->Value) (w:World) (a:Addr) (k:IntKind) (n:Int) (len:Nat) (e:Ty),kX tb t=some (len,e)->f x=.pointer (some a)->f i=.int k n->0<=n/\n<(len:Int)->
   (execOp f o).run P w=.ok (.value (.pointer (some (a.add (n.toNat*e.size))))) w:=by
  intro f w a k n len e j F C hb;obtain ⟨y,u,G,E,B⟩:=zZ j;have r:=au ok G w;have D:=bI ok B w;rw [E] at r;simp only [execOp,d,F,C,Instr.indexAt,asIntOf,Instr.sureAddr,Sem.run_bind,Sem.run_pure,Result.andThen_ok,r,if_pos hb,D]
 split at hv
 ·rename_i base len c k n m q;split at hv
  ·rename_i e j;obtain ⟨y,u,G,E,B⟩:=uH j;refine jW _ hv.2 λb z f w g=> ?_;have F:=bn (g x (by simp [d,Op.operands])) b m;have C:=bn (g i (by simp [d,Op.operands])) b q;obtain ⟨O,M,N⟩:=nv hv.1 b;obtain ⟨a,rfl⟩:∃a,base=some a:=Option.ne_none_iff_exists'.1 O;have r:=au ok G w;have D:=bI ok B w;rw [E] at r;simp only [execOp,d,F,C,LVal,Instr.indexAt,asIntOf,Sem.run_bind,Sem.run_pure,Result.andThen_ok,r,if_pos (And.intro M N),D,sat,Option.getD_some]
  ·exact hv.elim
 ·rename_i a k n m q;split at hv
  ·rename_i len e j;refine jW _ hv.2 λb z f w g=> ?_;exact L f w a k n len e j (bn (g x (by simp [d,Op.operands])) b m) (bn (g i (by simp [d,Op.operands])) b q) (nv hv.1 b)
  ·exact hv.elim
 ·rename_i p off k n m q;split at hv
  ·rename_i len e j;have J:∀l:LV,(∀z,LVal z l=.pointer (some ⟨z p,off+n.toNat*e.size,none⟩))->(∀H A,(l=.box H A\/l=.dv H A)->H=p)->K l->dP P tb o ch s h K:=λl R hb Q=>
    jW l Q (λb z f w g=>by
     rw [L f w _ k n len e j (bn (g x (by simp [d,Op.operands])) b m) (bn (g i (by simp [d,Op.operands])) b q) (nv hv.1 b),jD,R]) (Iv (by simp [d,Op.operands]) m hb)
   cases I:An i with
   | true=>exact J (.box p (off+n.toNat*e.size)) (λ_=>rfl) (by intro p A e;rcases e with e | e<;>cases e<;>rfl) (by simpa [I] using hv.2)
   | false=>exact J (.dv p (off+n.toNat*e.size)) (λ_=>rfl) (by intro p A e;rcases e with e | e<;>cases e<;>rfl) (by simpa [I] using hv.2)
  ·exact hv.elim
 ·exact hv.elim
theorem Uy (ok:tb.Ok P) {t:Nat} {x i:Operand} (c:o.op=.index t x i) (hv:match ev s ch x,ev s ch i with
  | some (.v (.string b)),some (.v (.int _ n))=>match tb.ty t with
   | some y=>match y.bE with
    | .string=>kf (dX s ch) (0<=n/\n<(b.size:Int))/\K (.v (.int .u8 ((b.data.toList.getD n.toNat 0).toNat:Int)))
    | _=>False
   | none=>False
  | some (.v (.agg cs)),some (.v (.int _ n))=>y8 (dX s ch) tb t cs.toList n K
  | _,_=>False):dP P tb o ch s h K:=by
 split at hv
 ·rename_i b k n j g;split at hv
  ·rename_i y q;split at hv
   ·rename_i m;refine jW _ hv.2 λa I J w d=> ?_;have p:=bn (d x (by simp [c,Op.operands])) a j;have l:=bn (d i (by simp [c,Op.operands])) a g;obtain ⟨C,L⟩:=nv hv.1 a;have f:=au ok q w;rw [m] at f;have B:n.toNat<b.size:=by omega
    have E:b[n.toNat]? =some (b.data.toList.getD n.toNat 0):=by
     rw [getElem?_pos b n.toNat B];congr 1;have:n.toNat<b.data.toList.length:=by simpa using B
     rw [List.getD_eq_getElem?_getD,List.getElem?_eq_getElem this];rfl
    simp only [execOp,c,p,l,LVal,Instr.index,asIntOf,Sem.run_bind,Sem.run_pure,Result.andThen_ok,f,if_pos C,E]
   ·exact hv.elim
  ·exact hv.elim
 ·rename_i cs k n j g;unfold y8 at hv;split at hv
  ·rename_i len e D;obtain ⟨y,u,q,m,A⟩:=zZ D;cases r:nM e.bE with
   | true=>grind
   | false=>simp only [r,cond_false] at hv;obtain ⟨hb,z,H,F⟩:=hv;refine jW _ F λa I J w d=> ?_;have p:=bn (d x (by simp [c,Op.operands])) a j;have l:=bn (d i (by simp [c,Op.operands])) a g;have f:=au ok q w;have G:=bI ok A w;have hp:=Iy ok (w:=w) (cs:=cs.toList) A (.inr ⟨r,nv H a⟩);rw [m] at f;simp only [Array.toArray_toList] at hp;simp only [execOp,c,p,l,LVal,Instr.index,asIntOf,Sem.run_bind,Sem.run_pure,Result.andThen_ok,f,if_pos (nv hb a),G,hp]
  ·exact hv.elim
 ·exact hv.elim
theorem Wi {f:Nat->Nat} {b:Operand->Value} (c:holds s ch) {x:Option Operand} {r:Option Int} (a:nI s ch x=some r) (d:∀y,x=some y->dY f s b y):
  (x=none/\r=none)\/∃y k n,x=some y/\b y=.int k n/\r=some n:=by
 cases x with
 | none=>cases a;simp
 | some y=>
  simp only [nI] at a;split at a
  ·rename_i k n e;cases a;exact .inr ⟨y,k,n,rfl,bn (d y rfl) c e,rfl⟩
  ·cases a
theorem xe {k:IntKind} {n:Int} {m:Nat} {c:BoundsCode} {w:World} (a:0<=n) (b:n<=(m:Int)):(Instr.sliceBound (.int k n) m c).run P w=.ok n.toNat w:=by simp only [Instr.sliceBound,asIntOf,Sem.run_bind,Sem.run_pure,Result.andThen_ok,if_pos (And.intro a b)]
theorem Bx {c:Option Bool} {v:Bool} {len cap:Nat} {r q t:Option Int} {Q:Nat->Nat->Nat->Prop} (hv:DL c v len cap r q t Q):
  ∃l x m,Q l x m/\((c=none\/(c=some true))->∀(g f i:Option Value),(r=none/\g=none\/∃k n,r=some n/\g=some (.int k n))->
   (q=none/\f=none\/∃k n,q=some n/\f=some (.int k n))->(t=none/\i=none\/∃k n,t=some n/\i=some (.int k n))->
   ∀w:World,(Instr.sliceBounds v len cap g f i).run P w=.ok (l,x,m) w):=by
 have j:∀ {p:Prop},kf c p->(c=none\/c=some true)->p:=by
  intro p u hc;rcases hc with hc | hc<;>subst hc
  ·exact u
  ·exact u rfl
 unfold DL at hv;split at hv
 ·refine ⟨_,_,_,hv,λhc g f i a b d w=> ?_⟩;simp at a b d;subst a;subst b;subst d;simp [Instr.sliceBounds]
 ·rename_i l;refine ⟨_,_,_,hv.2,λhc g f i a b d w=> ?_⟩;obtain ⟨a0,a1⟩:=j hv.1 hc;simp at a b d;subst b;subst d;obtain ⟨k,rfl⟩:=a;simp [Instr.sliceBounds,xe a0 a1]
 ·rename_i x;refine ⟨_,_,_,hv.2,λhc g f i a b d w=> ?_⟩;obtain ⟨a0,a1⟩:=j hv.1 hc;simp at a b d;subst a;subst d;obtain ⟨k,rfl⟩:=b;simp [Instr.sliceBounds,xe a0 a1]
 ·rename_i l x;refine ⟨_,_,_,hv.2,λhc g f i a b d w=> ?_⟩;obtain ⟨a0,a1,a2⟩:=j hv.1 hc;simp at a b d;subst d;obtain ⟨k,rfl⟩:=a;obtain ⟨y,rfl⟩:=b;have e:(x.toNat:Int)=x:=Int.toNat_of_nonneg (by omega);simp [Instr.sliceBounds,xe (Int.le_trans a0 a1) a2,xe (n:=l) (m:=x.toNat) a0 (by omega)]
 ·rename_i x m;refine ⟨_,_,_,hv.2,λhc g f i a b d w=> ?_⟩;obtain ⟨a0,a1,a2⟩:=j hv.1 hc;simp at a b d;subst a;obtain ⟨k,rfl⟩:=b;obtain ⟨y,rfl⟩:=d;simp [Instr.sliceBounds,xe (n:=m) (Int.le_trans a0 a1) a2,xe (n:=x) (m:=m.toNat) a0 (by omega)]
 ·rename_i l x m;refine ⟨_,_,_,hv.2,λhc g f i a b d w=> ?_⟩;obtain ⟨a0,a1,a2,a3⟩:=j hv.1 hc;simp at a b d;obtain ⟨k,rfl⟩:=a;obtain ⟨y,rfl⟩:=b;obtain ⟨z,rfl⟩:=d;simp [Instr.sliceBounds,xe (n:=m) (by omega) a3,xe (n:=x) (m:=m.toNat) (by omega) (by omega),xe (n:=l) (m:=x.toNat) a0 (by omega)]
 ·simp at hv
end
end Lf
