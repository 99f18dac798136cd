/-
  Part 1 of the texts that the claim leans on.
-/
import Derived.Calls
import Derived.Orders
import Derived.Scope
import Derived.ScopeJumps
import Derived.KernelRfl
import Derived.Laws.Sem
abbrev yw(n:Int):Int:=Go.IntKind.wrap .i64 n
set_option maxRecDepth 100000
namespace Lf
open Go
theorem iW {p:Prop} [Decidable p] (h:p:=by omega):decide p=true:=decide_eq_true h
theorem jO {p:Prop} [Decidable p] {c:Sort _} {a b:c} (h:¬p:=by simp):(if p then a else b)=b:=if_neg h
theorem qt {p:Prop} [Decidable p] {c:Sort _} {a b:c} (h:¬p:=by omega):(if p then a else b)=b:=if_neg h
def Hp :Type:=Nat->Option Obj
def Hp.set (h:Hp) (b:Nat) (o:Obj):Hp:=λi=>if i=b then some o else h i
instance:LE Hp:=⟨λh a=>∀b o,h b=some o->a b=some o⟩
theorem Hp.le_refl (h:Hp):h<=h:=λ_ _ e=>e
theorem Hp.le_trans {a b c:Hp} (h:a<=b) (k:b<=c):a<=c:=λi o e=>k i o (h i o e)
def dy (h:Hp) (a:Addr):Option Value:=
 match h a.block with
 | some (.cells c _ _)=>if a.spot.isSome then none else c[a.off]?
 | _=>none
def ic (h:Hp) (a:Addr):Bool:=
 match h a.block with
 | some (.cells _ _ (c,b))=>c<=a.off&&a.off<b
 | _=>false
def Hp.put (h:Hp) (a:Addr) (v:Value):Hp:=
 match h a.block with
 | some (.cells c e fr)=>h.set a.block (.cells (if a.spot.isSome then c else c.setIfInBounds a.off v) e fr)
 | _=>h
def GF :Obj->Option (TypeId×Nat)
 | .cells c e _=>some (e,c.size)
 | _=>none
def isCells :Obj->Bool
 | .cells .. =>true
 | _=>false
def dz {α:Type} (P:Program):Sem α->(α->Hp->Prop)->Hp->Prop
 | .pure a,K,h=>K a h
 | .load _ a k,K,h=>∃v,dy h a=some v/\dz P (k v) K h
 | .store _ _ (.agg _) _,_,_ | .store _ _ (.tuple _) _,_,_=>False
 | .store _ a v k,K,h=>(∃v0,dy h a=some v0)/\ic h a=false/\dz P k K (h.put a v)
 | .new o k,K,h=>∀b,h b=none->dz P (k b) K (h.set b o)
 | .shape r k,K,h=>∃o,h r=some o/\dz P (k (GF o)) K h
 | .freeze _ _ _,_,_=>False
 | .frozen a k,K,h=>(∃o,h a.block=some o)/\dz P (k (ic h a)) K h
 | .getObj r k,K,h=>∃o,h r=some o/\isCells o=false/\dz P (k o) K h
 | .setObj r o k,K,h=>(∃c,h r=some c/\isCells c=false)/\dz P k K (h.set r o)
 | .choose q k,K,h=>if q.forced then dz P (k 0) K h else ∀t,dz P (k (q.cut t)) K h
 | .sys _ _,_,_=>False
 | .program k,K,h=>dz P (k P) K h
 | .mark _ k,K,h=>dz P k K h
 | .halt _,_,_=>False
def Sub (h:Hp) (w:World):Prop:=∀b o,h b=some o->w.heap[b]? =some o
structure Step (h h':Hp) (w w':World):Prop where
 sub:Sub h' w'
 size:w.heap.size<=w'.heap.size
 bO:∀b,b<w.heap.size->h b=none->w'.heap[b]? =w.heap[b]?/\h' b=none
 os:w'.os=w.os
 tape:w'.tape=w.tape
 output:w'.output=w.output
theorem Sub.lt {h:Hp} {w:World} (a:Sub h w) {b:Nat} {o:Obj} (e:h b=some o):b<w.heap.size:=by have:=a b o e;grind
theorem Sub.mono {h a:Hp} {w:World} (d:Sub a w) (c:h<=a):Sub h w:=λb o e=>d b o (c b o e)
theorem Step.refl {h:Hp} {w:World} (a:Sub h w):Step h h w w:=
 ⟨a,Nat.le_refl _,λ_ _ h=>⟨rfl,h⟩,rfl,rfl,rfl⟩
theorem Step.trans {d e f:Hp} {g h j:World} (a:Step d e g h) (b:Step e f h j):Step d f g j:=by refine ⟨b.sub,Nat.le_trans a.size b.size,λi c k=> ?_,b.os.trans a.os,b.tape.trans a.tape,b.output.trans a.output⟩;have h1:=a.bO i c k;have l:=b.bO i (Nat.lt_of_lt_of_le c a.size) h1.2;grind
theorem Step.drew {h b:Hp} {w c:World} {n:Nat} (a:Step h b {w with drawn:=n} c):Step h b w c:=
 ⟨a.sub,a.size,a.bO,a.os,a.tape,a.output⟩
theorem zj {h:Hp} {w:World} (b:Sub h w) {a:Addr} {v:Value} (e:dy h a=some v):w.cell? a=some v:=by
 unfold dy at e;cases hb:h a.block with
 | none=>simp [hb] at e
 | some o=>have:=b _ _ hb;unfold World.cell?;grind
theorem Fj {h:Hp} {w:World} (b:Sub h w) {a:Addr} {o:Obj} (e:h a.block=some o):w.frozen? a=ic h a:=by have:=b _ _ e;unfold World.frozen? ic;grind
theorem HB {h:Hp} {a:Addr} {v:Value} (e:dy h a=some v):
  ∃c t fr,h a.block=some (.cells c t fr)/\a.spot=none/\c[a.off]? =some v:=by
 unfold dy at e;split at e
 ·rename_i c t fr hb;refine ⟨c,t,fr,hb,?_⟩;cases b:a.spot with
  | none=>simp [b] at e;exact ⟨rfl,e⟩
  | some s=>simp [b] at e
 grind
theorem abS {h:Hp} {a:Addr} {v v0:Value} (e:dy h a=some v0):
  ∃c t fr,h a.block=some (.cells c t fr)/\h.put a v=h.set a.block (.cells (c.setIfInBounds a.off v) t fr):=by
 obtain ⟨c,t,fr,hb,b,_⟩:=HB e;refine ⟨c,t,fr,hb,?_⟩;unfold Hp.put;grind
theorem L9 {h:Hp} {w:World} (c:Sub h w) {b:Nat} {o:Obj} (hb:b<w.heap.size):
  Sub (h.set b o) {w with heap:=w.heap.setIfInBounds b o}:=by
 intro i x e;unfold Hp.set at e;by_cases a:i=b
 ·grind
 ·simp [a] at e;have:=c _ _ e;grind
theorem Qi {h:Hp} {w:World} (g:Sub h w) {a:Addr} {v v0:Value} (e:dy h a=some v0):
  Step h (h.put a v) w (w.setCell a v):=by
 obtain ⟨c,t,fr,hb,m⟩:=abS (v:=v) e;obtain ⟨_,_,_,p,n,_⟩:=HB e;have j:=g.lt hb;have o:w.setCell a v={w with heap:=w.heap.setIfInBounds a.block (.cells (c.setIfInBounds a.off v) t fr)}:=by
  unfold World.setCell;congr 1;apply Array.ext_getElem?;intro i;by_cases d:i=a.block
  ·subst d;rw [Array.getElem?_setIfInBounds_self_of_lt j,Array.getElem?_modify,if_pos rfl,g _ _ hb];simp [n]
  ·rw [Array.getElem?_setIfInBounds_ne (Ne.symm d),Array.getElem?_modify,if_neg (Ne.symm d)]
 rw [m,o];refine ⟨L9 g j,by simp,λb q f=> ?_,rfl,rfl,rfl⟩;have k:b≠a.block:=λl=>by rw [l,hb] at f;cases f
 refine ⟨by simp [Array.getElem?_setIfInBounds_ne (Ne.symm k)],?_⟩;unfold Hp.set;rw [if_neg k];exact f
theorem wK {h:Hp} {w:World} (d:Sub h w) {r:Nat} {o i:Obj} (e:h r=some i):
  Step h (h.set r o) w {w with heap:=w.heap.setIfInBounds r o}:=by
 have g:=d.lt e;refine ⟨L9 d g,by simp,λb j a=> ?_,rfl,rfl,rfl⟩;have c:b≠r:=λf=>by rw [f,e] at a;cases a
 refine ⟨by simp [Array.getElem?_setIfInBounds_ne (Ne.symm c)],?_⟩;unfold Hp.set;rw [if_neg c];exact a
theorem C6 {h:Hp} {w:World} (a:Sub h w) (o:Obj):
  h w.heap.size=none/\Step h (h.set w.heap.size o) w {w with heap:=w.heap.push o}:=by
 have d:h w.heap.size=none:=by
  cases e:h w.heap.size with
  | none=>rfl
  | some x=>exact absurd (a.lt e) (Nat.lt_irrefl _)
 refine ⟨d,?_,by simp,λb hb g=> ?_,rfl,rfl,rfl⟩
 ·intro i x e;unfold Hp.set at e;by_cases c:i=w.heap.size
  ·grind
  ·simp [c] at e;have f:=a.lt e;have:=a _ _ e;grind
 ·refine ⟨by simp [Array.getElem?_push,Nat.ne_of_lt hb],?_⟩;unfold Hp.set;grind
theorem Qa {C:Type} {P:Program} (s:Sem C):∀ {K:C->Hp->Prop} {h:Hp} {w:World},Sub h w->dz P s K h->
  ∃a f e,s.run P w=.ok a f/\K a e/\Step h e w f:=by
 induction s with
 | pure a=>intro K h w d b;exact ⟨a,w,h,rfl,b,.refl d⟩
 | load m a k i=>intro K h w d b;obtain ⟨v,hv,b⟩:=b;obtain ⟨x,f,e,l,j,g⟩:=i v d b;exact ⟨x,f,e,by simp only [Sem.run,zj d hv,l],j,g⟩
 | store m a v k i=>
  intro K h w d b;have J:((∃v0,dy h a=some v0)/\ic h a=false/\dz P k K (h.put a v))->(∀p,v≠ .agg p)->(∀p,v≠ .tuple p)->
    ∃x f e,(Sem.store m a v k).run P w=.ok x f/\K x e/\Step h e w f:=by
   rintro ⟨⟨v0,A⟩,D,b⟩ G H;have g:=Qi (v:=v) d A;obtain ⟨x,f,e,l,j,y⟩:=i g.sub b;refine ⟨x,f,e,?_,j,g.trans y⟩;have E:w.frozen? a=false:=by obtain ⟨c,t,fr,hb,_,_⟩:=HB A;rw [Fj d hb];exact D
   cases v<;>first | exact absurd rfl (G _) | exact absurd rfl (H _) | simp only [Sem.run,zj d A,E,l,Bool.false_eq_true,if_false]
  cases v<;>first | exact b.elim | exact J b (by intros;simp) (by intros;simp)
 | new o k i=>intro K h w d b;obtain ⟨F,g⟩:=C6 d o;obtain ⟨x,f,e,l,j,y⟩:=i _ g.sub (b _ F);exact ⟨x,f,e,by simp only [Sem.run,l],j,g.trans y⟩
 | shape r k i=>
  intro K h w d b;obtain ⟨o,u,b⟩:=b;obtain ⟨x,f,e,l,j,g⟩:=i _ d b;refine ⟨x,f,e,?_,j,g⟩;simp only [Sem.run];have:w.shape? r=GF o:=by unfold World.shape?;rw [d _ _ u];cases o<;>rfl
  grind
 | freeze a n k i=>intro K h w d b;exact b.elim
 | frozen a k i=>intro K h w d b;obtain ⟨⟨o,u⟩,b⟩:=b;obtain ⟨x,f,e,l,j,g⟩:=i _ d b;refine ⟨x,f,e,?_,j,g⟩;simp only [Sem.run,Fj d u];exact l
 | getObj r k i=>intro K h w d b;obtain ⟨o,u,B,b⟩:=b;obtain ⟨x,f,e,l,j,g⟩:=i _ d b;refine ⟨x,f,e,?_,j,g⟩;simp only [Sem.run,d _ _ u];cases o<;>first | exact l | simp [isCells] at B
 | setObj r o k i=>intro K h w d b;obtain ⟨⟨L,u,B⟩,b⟩:=b;have g:=wK (o:=o) d u;obtain ⟨x,f,e,l,j,y⟩:=i g.sub b;refine ⟨x,f,e,?_,j,g.trans y⟩;simp only [Sem.run,d _ _ u];cases L<;>first | exact l | simp [isCells] at B
 | choose q k i=>
  intro K h w d b;simp only [dz] at b;by_cases z:q.forced=true
  ·simp only [z,if_true] at b;obtain ⟨x,f,e,l,j,g⟩:=i _ d b;exact ⟨x,f,e,by simp only [Sem.run,z,if_true,l],j,g⟩
  ·simp only [z,if_false,Bool.false_eq_true] at b;have I:Sub h {w with drawn:=w.drawn+1}:=d;obtain ⟨x,f,e,l,j,g⟩:=i _ I (b (w.tape w.drawn q));exact ⟨x,f,e,by simp only [Sem.run,z,if_false,Bool.false_eq_true,l],j,g.drew⟩
 | sys c k i=>intro K h w d b;exact b.elim
 | program k i=>intro K h w d b;obtain ⟨x,f,e,l,j,g⟩:=i _ d b;exact ⟨x,f,e,by simp only [Sem.run,l],j,g⟩
 | mark m k i=>intro K h w d b;obtain ⟨x,f,e,l,j,g⟩:=i d b;exact ⟨x,f,e,by simp only [Sem.run,l],j,g⟩
 | halt x=>intro K h w d b;exact b.elim
theorem Uo {j:Type} {P:Program} (s:Sem j):∀ {K g:j->Hp->Prop} {h:Hp},(∀a h,K a h->g a h)->dz P s K h->dz P s g h:=by
 induction s with
 | pure a=>intro K g h e d;exact e _ _ d
 | load m a k f=>rintro K g h e ⟨v,hv,d⟩;exact ⟨v,hv,f _ e d⟩
 | store m a v k f=>intro K g h e d;cases v<;>first | exact d.elim | exact ⟨d.1,d.2.1,f e d.2.2⟩
 | new o k f=>intro K g h e d b hb;exact f _ e (d b hb)
 | shape r k f=>rintro K g h e ⟨o,i,d⟩;exact ⟨o,i,f _ e d⟩
 | freeze a n k f=>intro K g h e d;exact d.elim
 | frozen a k f=>rintro K g h e ⟨i,d⟩;exact ⟨i,f _ e d⟩
 | getObj r k f=>rintro K g h e ⟨o,i,l,d⟩;exact ⟨o,i,l,f _ e d⟩
 | setObj r o k f=>rintro K g h e ⟨i,d⟩;exact ⟨i,f e d⟩
 | choose q k f=>intro K g h e d;simp only [dz] at d ⊢;grind
 | sys c k f=>intro K g h e d;exact d.elim
 | program k f=>intro K g h e d;exact f _ e d
 | mark m k f=>intro K g h e d;exact f e d
 | halt x=>intro K g h e d;exact d.elim
theorem Fk {d e:Type} {P:Program} (s:Sem d) (f:d->Sem e):∀ {K:e->Hp->Prop} {h:Hp},
  dz P (s.bind f) K h↔dz P s (λa h=>dz P (f a) K h) h:=by
 induction s with
 | pure a=>intro K h;exact Iff.rfl
 | load m a k b=>intro K h;simp only [Sem.bind,dz];grind
 | store m a v k b=>intro K h;cases v<;>simp only [Sem.bind,dz]<;>first | exact Iff.rfl | grind
 | new o k b=>intro K h;simp only [Sem.bind,dz];grind
 | shape r k b=>intro K h;simp only [Sem.bind,dz];grind
 | freeze a n k b=>intro K h;exact Iff.rfl
 | frozen a k b=>intro K h;simp only [Sem.bind,dz];grind
 | getObj r k b=>intro K h;simp only [Sem.bind,dz];grind
 | setObj r o k b=>intro K h;simp only [Sem.bind,dz];grind
 | choose q k b=>intro K h;simp only [Sem.bind,dz];grind
 | sys c k b=>intro K h;exact Iff.rfl
 | program k b=>intro K h;simp only [Sem.bind,dz];exact b _
 | mark m k b=>intro K h;simp only [Sem.bind,dz];exact b
 | halt x=>intro K h;exact Iff.rfl
structure Shape where
 T:Type
 enc:T->Value
 dec:Value->Option T
 ok:∀v x,dec v=some x->enc x=v
structure Sl where
 base:Option Addr
 len:Nat
 cap:Nat
def Sl.v (s:Sl):Value:=.slice s.base s.len s.cap
def H9 :IntKind->IntKind->Bool
 | .i8,.i8 | .i16,.i16 | .i32,.i32 | .i64,.i64 | .u8,.u8 | .u16,.u16 | .u32,.u32 | .u64,.u64=>true
 | _,_=>false
theorem NO {a b:IntKind} (h:H9 a b=true):a=b:=by cases a<;>cases b<;>first | rfl | cases h
def Sb :FloatKind->FloatKind->Bool
 | .f32,.f32 | .f64,.f64=>true
 | _,_=>false
theorem abT {a b:FloatKind} (h:Sb a b=true):a=b:=by cases a<;>cases b<;>first | rfl | cases h
@[reducible] def af (k : IntKind) : Shape where
 T:=Int
 enc:=λn=>.int k n
 dec:=λv=>match v with
  | .int b n=>cond (H9 b k) (some n) none
  | _=>none
 ok:=by
  intro v x h;split at h
  ·rename_i b n;cases a:H9 b k
   ·simp [a] at h
   ·simp [a] at h;rw [NO a,h]
  ·cases h
@[reducible] def bH : Shape where
 T:=Bool
 enc:=λn=>.bool n
 dec:=λv=>match v with
  | .bool n=>some n
  | _=>none
 ok:=by intro v x h;split at h<;>cases h;rfl
@[reducible] def rH : Shape where
 T:=ByteArray
 enc:=λn=>.string n
 dec:=λv=>match v with
  | .string n=>some n
  | _=>none
 ok:=by intro v x h;split at h<;>cases h;rfl
@[reducible] def al : Shape where
 T:=Option Addr
 enc:=λn=>.pointer n
 dec:=λv=>match v with
  | .pointer n=>some n
  | _=>none
 ok:=by intro v x h;split at h<;>cases h;rfl
@[reducible] def aw : Shape where
 T:=Sl
 enc:=λn=>.slice n.base n.len n.cap
 dec:=λv=>match v with
  | .slice a l c=>some ⟨a,l,c⟩
  | _=>none
 ok:=by grind
@[reducible] def ig : Shape where
 T:=Option Nat
 enc:=λn=>.map n
 dec:=λv=>match v with
  | .map n=>some n
  | _=>none
 ok:=by intro v x h;split at h<;>cases h;rfl
@[reducible] def ks (k : FloatKind) : Shape where
 T:=Nat
 enc:=λn=>.float k n
 dec:=λv=>match v with
  | .float b n=>cond (Sb b k) (some n) none
  | _=>none
 ok:=by
  intro v x h;split at h
  ·rename_i b n;cases a:Sb b k
   ·simp [a] at h
   ·simp [a] at h;rw [abT a,h]
  ·cases h
@[reducible] def CT : Shape where
 T:=Value
 enc:=λv=>v
 dec:=λv=>some v
 ok:=by simp
def Mb :Value->Bool
 | .agg _=>false
 | _=>true
structure HM where
 v:Value
 ok:Mb v=true
@[reducible] def abU : Shape where
 T:=HM
 enc:=λx=>x.v
 dec:=λv=>match h:Mb v with
  | true=>some ⟨v,h⟩
  | false=>none
 ok:=by grind
structure xK where
 g:Nat
 first:Array Value
 captured:Array Value
@[reducible] def gX : Shape where
 T:=xK
 enc:=λx=>.func (.func x.g) x.first x.captured
 dec:=λv=>match v with
  | .func (.func g) a b=>some ⟨g,a,b⟩
  | _=>none
 ok:=by grind
structure uJ (n:Nat) where
 l:List Value
 ok:Nat.beq l.length n=true
theorem uJ.size {n:Nat} (x:uJ n):(Array.mk x.l).size=n:=Nat.eq_of_beq_eq_true x.ok
@[reducible] def ZU (n : Nat) : Shape where
 T:=uJ n
 enc:=λx=>.agg ⟨x.l⟩
 dec:=λv=>match v with
  | .agg ⟨l⟩=>match h:Nat.beq l.length n with
   | true=>some ⟨l,h⟩
   | false=>none
  | _=>none
 ok:=by grind
@[reducible] def v7 : Shape where
 T:=Unit
 enc:=λ_=>.tuple #[]
 dec:=λv=>match v with
  | .tuple ⟨[]⟩=>some ()
  | _=>none
 ok:=by grind
structure HR where
 more:Bool
 rest:List Value
@[reducible] def abV : Shape where
 T:=HR
 enc:=λx=>.tuple ⟨.bool x.more::x.rest⟩
 dec:=λv=>match v with
  | .tuple ⟨.bool b::r⟩=>some ⟨b,r⟩
  | _=>none
 ok:=by grind
@[reducible] def nS (a b : Shape) : Shape where
 T:=a.T×b.T
 enc:=λp=>.tuple #[a.enc p.1,b.enc p.2]
 dec:=λv=>match v with
  | .tuple ⟨[x,y]⟩=>match a.dec x,b.dec y with
   | some x,some y=>some (x,y)
   | _,_=>none
  | _=>none
 ok:=by
  intro v x h;split at h
  ·split at h
   ·rename_i c d;cases h;rw [a.ok _ _ c,b.ok _ _ d]
   ·cases h
  ·cases h
@[reducible] def sA (a b c : Shape) : Shape where
 T:=a.T×b.T×c.T
 enc:=λp=>.tuple #[a.enc p.1,b.enc p.2.1,c.enc p.2.2]
 dec:=λv=>match v with
  | .tuple ⟨[x,y,z]⟩=>match a.dec x,b.dec y,c.dec z with
   | some x,some y,some z=>some (x,y,z)
   | _,_,_=>none
  | _=>none
 ok:=by
  intro v x h;split at h
  ·split at h
   ·rename_i d e f;cases h;rw [a.ok _ _ d,b.ok _ _ e,c.ok _ _ f]
   ·cases h
  ·cases h
@[reducible] def xc (a b c d : Shape) : Shape where
 T:=a.T×b.T×c.T×d.T
 enc:=λp=>.tuple #[a.enc p.1,b.enc p.2.1,c.enc p.2.2.1,d.enc p.2.2.2]
 dec:=λv=>match v with
  | .tuple ⟨[x,y,z,u]⟩=>match a.dec x,b.dec y,c.dec z,d.dec u with
   | some x,some y,some z,some u=>some (x,y,z,u)
   | _,_,_,_=>none
  | _=>none
 ok:=by
  intro v x h;split at h
  ·split at h
   ·rename_i e f g i;cases h;rw [a.ok _ _ e,b.ok _ _ f,c.ok _ _ g,d.ok _ _ i]
   ·cases h
  ·cases h
@[reducible] def Co (a b c d e : Shape) : Shape where
 T:=a.T×b.T×c.T×d.T×e.T
 enc:=λp=>.tuple #[a.enc p.1,b.enc p.2.1,c.enc p.2.2.1,d.enc p.2.2.2.1,e.enc p.2.2.2.2]
 dec:=λv=>match v with
  | .tuple ⟨[x,y,z,u,w]⟩=>match a.dec x,b.dec y,c.dec z,d.dec u,e.dec w with
   | some x,some y,some z,some u,some w=>some (x,y,z,u,w)
   | _,_,_,_,_=>none
  | _=>none
 ok:=by
  intro v x h;split at h
  ·split at h
   ·rename_i f g i j k;cases h;rw [a.ok _ _ f,b.ok _ _ g,c.ok _ _ i,d.ok _ _ j,e.ok _ _ k]
   ·cases h
  ·cases h
@[reducible] def abW (a b c d e f g : Shape) : Shape where
 T:=a.T×b.T×c.T×d.T×e.T×f.T×g.T
 enc:=λp=>.tuple #[a.enc p.1,b.enc p.2.1,c.enc p.2.2.1,d.enc p.2.2.2.1,e.enc p.2.2.2.2.1,f.enc p.2.2.2.2.2.1,g.enc p.2.2.2.2.2.2]
 dec:=λv=>match v with
  | .tuple ⟨[x,y,z,u,w,o,q]⟩=>match a.dec x,b.dec y,c.dec z,d.dec u,e.dec w,f.dec o,g.dec q with
   | some x,some y,some z,some u,some w,some o,some q=>some (x,y,z,u,w,o,q)
   | _,_,_,_,_,_,_=>none
  | _=>none
 ok:=by
  intro v x h;split at h
  ·split at h
   ·rename_i i j k l m n r;cases h;rw [a.ok _ _ i,b.ok _ _ j,c.ok _ _ k,d.ok _ _ l,e.ok _ _ m,f.ok _ _ n,g.ok _ _ r]
   ·cases h
  ·cases h
structure Ty where
 cH:TypeDesc
 size:Nat
 bytes:Nat
 zero:Value
 sh:Shape
structure Tb where
 ty:Nat->Option Ty
 call:Nat->Bool
 ext:Nat->Option (Array Value->Sem Value)
def qR :TypeDesc->Bool
 | .struct _ | .array _ _=>true
 | _=>false
def eg (tb:Tb) (t:Nat):Shape:=match tb.ty t with
 | some e=>e.sh
 | none=>v7
def nth {b:Type _}:List b->Nat->Option b
 | [],_=>none
 | a::_,0=>some a
 | _::l,n+1=>nth l n
def rp {a:Type _}:List a->Nat->List a
 | l,0=>l
 | [],_+1=> []
 | _::l,n+1=>rp l n
def rI {b:Type _}:List b->Nat->List b
 | _,0=> []
 | [],_+1=> []
 | a::l,n+1=>a::rI l n
def mr {c:Type _}:List c->Nat->List c->List c
 | l,0,[]=>l
 | [],0,_::_=> []
 | _::l,0,b::new=>b::mr l 0 new
 | [],_+1,_=> []
 | a::l,n+1,new=>a::mr l n new
inductive LV where
 | v (x:Value)
 | box (k off:Nat)
 | eH (k off:Nat)
abbrev bp :=List (Nat×Bool)
structure St where
 f:Nat->Option (LV×bp)
 m:Nat->Option (List Value)
def St.put (s:St) (d:Option Nat) (l:LV) (ch:bp):St:=
 match d with
 | none=>s
 | some d=>{f:=λi=>cond (Nat.beq i d) (some (l,ch)) (s.f i),m:=s.m}
def St.hO (s:St) (k:Nat) (cs:List Value):St:=
 {f:=s.f,m:=λi=>cond (Nat.beq i k) (some cs) (s.m i)}
def NP :Bool->Bool->Bool
 | true,b=>b
 | false,true=>false
 | false,false=>true
def qA :bp->bp->Bool
 | [],[]=>true
 | (t,w)::c,(u,x)::d=>cond (Nat.beq t u) (cond (NP w x) (qA c d) false) false
 | _,_=>false
def oY (c:bp):bp->Bool
 | []=>match c with
  | []=>true
  | _=>false
 | p::d=>match c with
  | []=>true
  | _=>cond (qA c (p::d)) true (oY c d)
def ev (s:St) (ch:bp):Operand->Option LV
 | .tmp t=>match s.f t with
  | some (l,c)=>cond (oY c ch) (some l) none
  | none=>none
 | .const v=>some (.v v)
 | .global g=>some (.v (.pointer (some ⟨g,0,none⟩)))
 | .func f=>some (.v (.func (.func f) #[] #[]))
def fB (s:St):bp->Option Bool
 | []=>none
 | [(t,w)]=>match s.f t with
  | some (.v (.bool b),_)=>some (cond w b (!b))
  | _=>some false
 | (t,w)::p::r=>match s.f t with
  | some (.v (.bool b),_)=>match fB s (p::r) with
   | some x=>some (cond w (x&&b) (x&& !b))
   | none=>some (cond w b (!b))
  | _=>some false
def mD (c:Option Bool) (p:Prop):Prop:=
 match c with
 | none=>p
 | some b=>b=true->p
def jL :List Value->Bool
 | []=>true
 | .agg _::_=>false
 | .tuple _::_=>false
 | _::r=>jL r
def aZ (h:Hp) (a:Addr) (cs:List Value):Prop:=∀i v,cs[i]? =some v->dy h (a.add i)=some v
def bA (v:Value):List Value:=match v with
 | .agg cs=>cs.toList
 | v=> [v]
def aN (c:Option Bool) (sh:Shape) (h:Hp) (a:Addr) (K:sh.T->Prop):Prop:=
 ∃x,mD c (aZ h a (bA (sh.enc x)))/\K x
def ah (c:Option Bool) (p:Option Addr) (K:Addr->Prop):Prop:=∃a,mD c (p=some a)/\K a
def kY (P:Program) (s:Sem Value) (h:Hp) (v:Value):Prop:=∀w,Sub h w->∃a,s.run P w=.ok v a/\Step h h w a
def jC (c:Option Bool) (P:Program) (s:Sem Value) (sh:Shape) (h:Hp) (K:sh.T->Prop):Prop:=
 ∃x,mD c (kY P s h (sh.enc x))/\K x
def lx (P:Program) (s:Sem Value) (sh:Shape) (K:sh.T->Hp->Prop) (h:Hp):Prop:=
 dz P s (λv a=>∃x,v=sh.enc x/\K x a) h
def HW (P:Program) (s:Sem Unit) (K:Hp->Prop) (h:Hp):Prop:=dz P s (λ_ a=>K a) h
def dm {a:Type} (c:Option Bool) (A:(a->Hp->Prop)->Hp->Prop) (K:a->Hp->Prop) (h:Hp):Prop:=
 match c with
 | none=>A K h
 | some b=>(b=true->A K h)/\(b=false->∃x,K x h)
def bc (cs:List Value) (K:Addr->Hp->Prop) (h:Hp):Prop:=
 ∀b t,h b=none->K ⟨b,0,none⟩ (h.set b (.cells cs.toArray t (0,0)))
def HQ (t:Nat) (a:List Value) (K:Addr->Hp->Prop) (h:Hp):Prop:=
 ∀b,h b=none->K ⟨b,0,none⟩ (h.set b (.cells a.toArray t (0,0)))
def Cp (t:Nat) (a:List Value) (K:Addr->Hp->Prop) (h:Hp):Prop:=
 match a with
 | [.pointer none,.slice none 0 0]=>HQ t a K h
 | _=>bc a K h
def lz (h:Hp) (a:Addr):List Value->Nat->Hp
 | [],_=>h
 | v::l,i=>lz (h.put (a.add i) v) a l (i+1)
def tf (h:Hp) (a:Addr):Nat->Prop
 | 0=>True
 | n+1=>tf h a n/\(∃v,dy h (a.add n)=some v)/\ic h (a.add n)=false
def cX (h:Hp) (a:Addr) (b:List Value) (K:Hp->Prop):Prop:=tf h a b.length/\K (lz h a b 0)
def vq (P:Program) (g:FuncId) (args:List Value) (K:Value->Hp->Prop) (h:Hp):Prop:=
 ∀w,Sub h w->Calls P g args.toArray w (λe b=>∃v a,e=.returned v/\K v a/\Step h a w b)
def ae (P:Program) (g:FuncId) (args:List Value) (sh:Shape) (K:sh.T->Hp->Prop) (h:Hp):Prop:=
 vq P g args (λv a=>∃x,v=sh.enc x/\K x a) h
def iK (P:Program) (tb:Tb) (f:Value) (args:List Value) (sh:Shape) (K:sh.T->Hp->Prop) (h:Hp):Prop:=
 ∃g first captured,f=.func (.func g) first captured/\tb.call g=true/\ae P g (first.toList++args++captured.toList) sh K h
def py {σ:Type} (A:(σ->Hp->Prop)->Prop) (B:σ->Hp->Prop):Prop:=∃R:σ->Hp->Prop,A R/\∀x h,R x h->B x h
def vt {σ:Type} (d:(σ->Hp->Prop)->σ->Hp->Prop) (x:σ) (h:Hp):Prop:=
 ∃(I:σ->Hp->Prop) (c:σ->Hp->Nat),I x h/\∀x h,I x h->d (λb a=>I b a/\c b a<c x h) x h
def aF {α:Type} (x:α) (K:α->Prop):Prop:=∀y,y=x->K y
def qP (h:Hp) (base:Option Addr) (n:Nat) (b:List Value):Prop:=
 b.length=n/\(n=0\/∃a,base=some a/\aZ h a b)
def fC (zero:List Value) (n:Nat):List Value:=(List.replicate n zero).flatten
def gP (h:Hp) (base:Option Addr) (off:Nat) (b:List Value):Hp:=match base with
 | some a=>lz h (a.add off) b 0
 | none=>h
def lI (size bytes:Nat) (zero:List Value) (l:Sl) (n:Nat) (new:List Value) (K:Sl->Hp->Prop) (h:Hp):Prop:=
 ∃d,qP h l.base (l.len*size) d/\(l.len+n<=140737488355328/\(l.len+n)*bytes<=140737488355328)/\
  jL new=true/\(l.len+n<=l.cap->(∀a,l.base=some a->tf h (a.add (l.len*size)) (n*size))/\K ⟨l.base,l.len+n,l.cap⟩ (gP h l.base (l.len*size) new))/\
  (l.cap<l.len+n->∀c b t,l.len+n<=c->h b=none->
   K ⟨some ⟨b,0,none⟩,l.len+n,c⟩ (h.set b (.cells (d++new++fC zero (c-(l.len+n))).toArray t (0,0))))
def eC (size bytes:Nat) (zero:List Value) (l x:Sl) (K:Sl->Hp->Prop) (h:Hp):Prop:=
 ∃new,qP h x.base (x.len*size) new/\lI size bytes zero l x.len new K h
def Bv (size bytes:Nat) (zero:List Value) (l:Sl) (m:Int) (K:Sl->Hp->Prop) (h:Hp):Prop:=
 0<=m/\lI size bytes zero l m.toNat (fC zero m.toNat) K h
def sB (s:ByteArray):List Value:=s.data.toList.map λb=>.int .u8 b.toNat
def Bg (u:Nat) (size bytes:Nat) (zero:List Value) (l:Sl) (n:Nat) (new:List Value) (K:Sl->Hp->Prop) (h:Hp):Prop:=
 ∃d,qP h l.base (l.len*size) d/\(l.len+n<=140737488355328/\(l.len+n)*bytes<=140737488355328)/\
  jL new=true/\(l.len+n<=l.cap->(∀a,l.base=some a->tf h (a.add (l.len*size)) (n*size))/\K ⟨l.base,l.len+n,l.cap⟩ (gP h l.base (l.len*size) new))/\
  (l.cap<l.len+n->∀c b,l.len+n<=c->h b=none->
   K ⟨some ⟨b,0,none⟩,l.len+n,c⟩ (h.set b (.cells (d++new++fC zero (c-(l.len+n))).toArray u (0,0))))
theorem lI.u {size bytes:Nat} {zero:List Value} {l:Sl} {n:Nat} {new:List Value} {K:Sl->Hp->Prop} {h:Hp} (u:Nat) (a:lI size bytes zero l n new K h):Bg u size bytes zero l n new K h:=by obtain ⟨g,a1,a2,a3,a4,a5⟩:=a;exact ⟨g,a1,a2,a3,a4,λd c b e f=>a5 d c b u e f⟩
def Te (u:Nat) (l:Sl) (s:ByteArray) (K:Sl->Hp->Prop) (h:Hp):Prop:=
 Bg u 1 1 [.int .u8 0] l s.size (sB s) K h
def gE (size:Nat) (d x:Sl) (K:Int->Hp->Prop) (h:Hp):Prop:=
 ∃new,qP h x.base (min x.len d.len*size) new/\jL new=true/\(∀a,d.base=some a->tf h a (min x.len d.len*size))/\K (min x.len d.len:Nat) (gP h d.base 0 new)
def dU (bytes:Nat) (zero:List Value) (len cap:Int) (K:Sl->Hp->Prop) (h:Hp):Prop:=
 (0<=len/\len<=cap/\cap<=281474976710656/\cap.toNat*bytes<=281474976710656)/\
  ∀b t,h b=none->K ⟨some ⟨b,0,none⟩,len.toNat,cap.toNat⟩ (h.set b (.cells (fC zero cap.toNat).toArray t (0,0)))
def NQ (s:ByteArray) (K:Sl->Hp->Prop) (h:Hp):Prop:=
 ∀c b t,s.size<=c->h b=none->
  K ⟨some ⟨b,0,none⟩,s.size,c⟩ (h.set b (.cells (sB s++fC [.int .u8 0] (c-s.size)).toArray t (c,c+1)))
def qX (a:Option Addr) (K:Unit->Hp->Prop) (h:Hp):Prop:=
 ∃b off c t,a=some ⟨b,off,none⟩/\h b=some (.cells c t (0,0))/\K () (h.set b (.cells c t (c.size,c.size+1)))
def yV (K:Option Nat->Hp->Prop) (h:Hp):Prop:=∀b,h b=none->K (some b) (h.set b (.map #[] 0))
def HO (h:Hp) (m:Option Nat) (a:List MapEntry):Prop:=
 (m=none/\a=[])\/∃r ck,m=some r/\h r=some (.map a.toArray ck)
def Cq (b:TypeDesc) (zero:Value) (m:Option Nat) (k:Value) (h:Hp) (v:Value) (ok:Bool):Prop:=
 ∃a,HO h m a/\((Instr.findNow b k a 0=some none/\v=zero/\ok=false)\/∃i,Instr.findNow b k a 0=some (some (i,v))/\ok=true)
def pA (c:Option Bool) (a:TypeDesc) (sh:Shape) (zero:Value) (m:Option Nat) (k:Value) (h:Hp) (K:sh.T->Bool->Prop):Prop:=
 ∃x ok,mD c (Cq a zero m k h (sh.enc x) ok)/\K x ok
def u5 (b:TypeDesc) (m:Option Nat) (k v:Value) (K:Hp->Prop) (h:Hp):Prop:=
 ∃r a ck,m=some r/\h r=some (.map a ck)/\
  ((Instr.findNow b k a.toList 0=some none/\K (h.set r (.map (a.push {key:=k,val:=v,born:=ck}) (ck+1))))\/
   ∃i u,Instr.findNow b k a.toList 0=some (some (i,u))/\K (h.set r (.map (a.modify i λe=>{e with key:=k,val:=v}) ck)))
def zk (b:TypeDesc) (m:Option Nat) (k:Value) (K:Hp->Prop) (h:Hp):Prop:=
 (m=none/\K h)\/∃r a ck,m=some r/\h r=some (.map a ck)/\
  ((Instr.findNow b k a.toList 0=some none/\K (h.set r (.map a ck)))\/
   ∃i u,Instr.findNow b k a.toList 0=some (some (i,u))/\K (h.set r (.map (a.eraseIdxIfInBounds i) ck)))
def uB :TypeDesc->Bool
 | .int _ | .string | .bool=>true
 | _=>false
def eK (op:BinOp) (k:IntKind) (x y:Int):Int:=
 match op with
 | .and=>k.wrap ((BitVec.ofInt k.bits x&&&BitVec.ofInt k.bits y).toNat)
 | .or=>k.wrap ((BitVec.ofInt k.bits x ||| BitVec.ofInt k.bits y).toNat)
 | .xor=>k.wrap ((BitVec.ofInt k.bits x^^^BitVec.ofInt k.bits y).toNat)
 | _=>k.wrap ((BitVec.ofInt k.bits x&&& ~~~ BitVec.ofInt k.bits y).toNat)
def qJ (k:IntKind) (x y:Int):Int:=k.wrap (x*2^(min y.toNat k.bits))
def gQ (k:IntKind) (x y:Int):Int:=x.fdiv (2^(min y.toNat k.bits))
def sat (base:Option Addr) (size:Nat) (i:Int):Addr:=(base.getD ⟨0,0,none⟩).add (i.toNat*size)
def bI (base:Option Addr) (len:Nat) (i:Int):Prop:=base≠none/\0<=i/\i<(len:Int)
def bq (base:Option Addr) (size l m:Nat):Option Addr:=if m=l then base else base.map (·.add (l*size))
def H8 (c:Option Bool) (op:BinOp) (k:IntKind) (x y:Int) (K:LV->Prop):Prop:=
 match op with
 | .add=>K (.v (.int k (k.wrap (x+y))))
 | .sub=>K (.v (.int k (k.wrap (x-y))))
 | .mul=>K (.v (.int k (k.wrap (x*y))))
 | .quo=>mD c (y≠0)/\K (.v (.int k (k.wrap (x.tdiv y))))
 | .rem=>mD c (y≠0)/\K (.v (.int k (x.tmod y)))
 | .and=>K (.v (.int k (eK .and k x y)))
 | .or=>K (.v (.int k (eK .or k x y)))
 | .xor=>K (.v (.int k (eK .xor k x y)))
 | .andNot=>K (.v (.int k (eK .andNot k x y)))
 | .eql=>K (.v (.bool (x==y)))
 | .neq=>K (.v (.bool (x !=y)))
 | .lss=>K (.v (.bool (decide (x<y))))
 | .leq=>K (.v (.bool (decide (x<=y))))
 | .gtr=>K (.v (.bool (decide (x>y))))
 | .geq=>K (.v (.bool (decide (x>=y))))
 | _=>False
def oV (c:Option Bool) (P:Program) (tb:Tb) (t:Nat) (s:Sem Value) (h:Hp) (K:LV->Prop):Prop:=
 match tb.ty t with
 | some e=>jC c P s e.sh h (λx=>K (.v (e.sh.enc x)))
 | none=>False
def dx (op:BinOp) (t:Nat) (x y:Operand) (a b:Value):Sem Value:=do eqGuard op t x y a b;binOp op t a b
def u6 :Operand->Bool
 | .const (.pointer none) | .const (.slice none _ _) | .const (.map none) | .const .nilFunc | .const .nilIface=>true
 | _=>false
def AH (op:BinOp) (b:Bool) (K:LV->Prop):Prop:=
 match op with
 | .eql=>K (.v (.bool b))
 | .neq=>K (.v (.bool (!b)))
 | _=>False
def Qb :Value->Bool
 | .nilIface=>true
 | _=>false
def GG :Operand->Bool
 | .const .nilIface=>true
 | _=>false
def yf (tb:Tb) (t:Nat):Bool:=match tb.ty t with
 | some e=>match e.cH with
  | .interface _=>true
  | _=>false
 | none=>false
def rB :Value->Bool
 | .nilIface=>true
 | .iface _ _=>true
 | _=>false
def vz (c:Option Bool) (P:Program) (tb:Tb) (op:BinOp) (t:Nat) (x y:Operand) (d:Nat) (a b:Value) (h:Hp) (K:LV->Prop):Prop:=
 match a,b with
 | .int k m,.int f n=>
  match op with
  | .shl=>mD c (0<=n)/\K (.v (.int k (qJ k m n)))
  | .shr=>mD c (0<=n)/\K (.v (.int k (gQ k m n)))
  | op=>cond (H9 k f) (H8 c op k m n K) False
 | .bool m,.bool n=>match tb.ty t with
  | some e=>match e.cH,op with
   | .bool,.eql=>K (.v (.bool (m==n)))
   | .bool,.neq=>K (.v (.bool (!(m==n))))
   | _,_=>False
  | none=>False
 | .string m,.string n=>match op with
  | .eql=>K (.v (.bool (m.toList==n.toList)))
  | .neq=>K (.v (.bool (!(m.toList==n.toList))))
  | .add=>mD c (m.size+n.size<=9223372036854775807)/\K (.v (.string (m++n)))
  | _=>oV c P tb d (dx op t x y (.string m) (.string n)) h K
 | .pointer p,.pointer q=>cond (u6 y) (match tb.ty t with
  | some e=>match e.cH with
   | .pointer _=>AH op p.isNone K
   | _=>False
  | none=>False) (oV c P tb d (dx op t x y (.pointer p) (.pointer q)) h K)
 | a,b=>oV c P tb d (dx op t x y a b) h K
def xW (c:Option Bool) (P:Program) (tb:Tb) (op:BinOp) (t:Nat) (x y:Operand) (d:Nat) (a b:Value) (h:Hp) (K:LV->Prop):Prop:=
 cond (GG y) (cond (yf tb t) (mD c (rB a=true)/\AH op (Qb a) K) (vz c P tb op t x y d a b h K)) (vz c P tb op t x y d a b h K)
def QF (l:Option LV) (K:LV->Prop):Prop:=match l with
 | some l=>K l
 | none=>False
def ju (l:Option LV) (K:Value->Prop):Prop:=match l with
 | some (.v x)=>K x
 | _=>False
def fk (s:St) (ch:bp):List Operand->Option (List Value)
 | []=>some []
 | x::l=>match ev s ch x,fk s ch l with
  | some (.v v),some r=>some (v::r)
  | _,_=>none
def pS (l:Option (List Value)) (K:List Value->Prop):Prop:=match l with
 | some l=>K l
 | none=>False
def BX (tb:Tb) (t i:Nat) (K:Nat->Nat->Prop):Prop:=
 match tb.ty t with
 | some e=>match e.cH with
  | .struct a=>match nth a.toList i with
   | some f=>match tb.ty f.type with
    | some g=>match g.size with
     | 0=>False
     | n+1=>K f.offset (n+1)
    | none=>False
   | none=>False
  | _=>False
 | none=>False
def ib (tb:Tb) (t:Nat):Option Ty:=
 match tb.ty t with
 | some e=>match e.cH with
  | .slice u=>tb.ty u
  | _=>none
 | none=>none
def D5 (tb:Tb) (t:Nat):Nat:=
 match tb.ty t with
 | some e=>match e.cH with
  | .slice u=>u
  | _=>0
 | none=>0
def nj (tb:Tb) (t:Nat):Option (Nat×Ty):=
 match tb.ty t with
 | some e=>match e.cH with
  | .array n u=>match tb.ty u with
   | some g=>some (n,g)
   | none=>none
  | _=>none
 | none=>none
def jY (tb:Tb) (t:Nat) (a:List Value) (off:Nat) (K:LV->Prop):Prop:=
 match tb.ty t with
 | some e=>cond (qR e.cH) (cond (Nat.ble (off+e.size) a.length) (K (.v (.agg (rI (rp a off) e.size).toArray))) False)
  (match nth a off with
   | some v=>K (.v v)
   | none=>False)
 | none=>False
def Fl :Operand->Bool
 | .const _=>true
 | _=>false
def rK (tb:Tb):List Field->Bool
 | []=>true
 | f::r=>match tb.ty f.type with
  | some _=>rK tb r
  | none=>false
def tv (tb:Tb) (b:List Field) (a:List Value):List (Nat×Value)->Option (List Value)
 | []=>some a
 | (i,v)::r=>match nth b i with
  | some f=>match tb.ty f.type with
   | some e=>cond (Nat.beq (bA v).length e.size) (cond (Nat.ble (f.offset+e.size) a.length) (tv tb b (mr a f.offset (bA v)) r) none) none
   | none=>none
  | none=>none
def pG (size:Nat) (a:List Value):List (Nat×Value)->Option (List Value)
 | []=>some a
 | (i,v)::r=>cond (Nat.beq (bA v).length size) (cond (Nat.ble (i*size+size) a.length) (pG size (mr a (i*size) (bA v)) r) none) none
def nv (s:St) (ch:bp):List (Nat×Operand)->Option (List (Nat×Value))
 | []=>some []
 | (i,x)::l=>match ev s ch x,nv s ch l with
  | some (.v v),some r=>some ((i,v)::r)
  | _,_=>none
def mw {a:Type _} (l:List a):Nat->List a
 | 0=> []
 | n+1=>l++mw l n
def Iv (c:Option Bool) (a:Bool) (len cap:Nat) (d b e:Option Int) (K:Nat->Nat->Nat->Prop):Prop:=
 match d,b,e with
 | none,none,none=>K 0 len cap
 | some l,none,none=>mD c (0<=l/\l<=(len:Int))/\K l.toNat len cap
 | none,some x,none=>mD c (0<=x/\x<=(cap:Int))/\K 0 x.toNat cap
 | some l,some x,none=>mD c (0<=l/\l<=x/\x<=(cap:Int))/\K l.toNat x.toNat cap
 | none,some x,some m=>mD c (0<=x/\x<=m/\m<=(cap:Int))/\K 0 x.toNat m.toNat
 | some l,some x,some m=>mD c (0<=l/\l<=x/\x<=m/\m<=(cap:Int))/\K l.toNat x.toNat m.toNat
 | _,none,some _=>a= !a
def qG (s:St) (ch:bp):Option Operand->Option (Option Int)
 | none=>some none
 | some x=>match ev s ch x with
  | some (.v (.int _ n))=>some (some n)
  | _=>none
def D6 (c:Option Bool) (tb:Tb) (t:Nat) (x:Value) (f d g:Option Int) (K:LV->Prop):Prop:=
 match x with
 | .slice base len cap=>match ib tb t with
  | some e=>Iv c true len cap f d g λl n m=>aF (⟨bq base e.size l m,n-l,m-l⟩:Sl) λy=>K (.v (.slice y.base y.len y.cap))
  | none=>False
 | .pointer (some a)=>match nj tb t with
  | some (n,e)=>Iv c false n n f d g λl x m=>aF (⟨bq (some a) e.size l m,x-l,m-l⟩:Sl) λy=>K (.v (.slice y.base y.len y.cap))
  | none=>False
 | .string b=>match tb.ty t,g with
  | some e,none=>match e.cH with
   | .string=>Iv c false b.size b.size f d none λl n _=>K (.v (.string (b.extract l n)))
   | _=>False
  | _,_=>False
 | _=>False
def If (c:Option Bool) (P:Program) (tb:Tb) (ty a:Nat) (x:Value) (h:Hp) (K:LV->Prop):Prop:=
 match tb.ty ty with
 | some e=>match e.cH,x with
  | .string,.string b=>K (.v (.int .i64 (b.size:Int)))
  | .slice _,.slice _ n _=>K (.v (.int .i64 (n:Int)))
  | .array n _,_=>K (.v (.int .i64 (n:Int)))
  | _,_=>oV c P tb a (Builtin.len_ #[ty] a #[x]) h K
 | none=>False
def uQ (lt:Int->Int->Int) (k:IntKind) (x:Int):List Value->Option Value
 | []=>some (.int k x)
 | .int _ y::r=>uQ lt k (lt x y) r
 | _=>none
def jV (x y:Int):Int:=if y<x then y else x
def rD (x y:Int):Int:=if y>x then y else x
def SP (op:UnOp) (x:Value) (K:LV->Prop):Prop:=
 match op,x with
 | .not,.bool b=>K (.v (.bool !b))
 | .neg,.int k n=>K (.v (.int k (k.wrap (0-n))))
 | .neg,.float k b=>K (.v (.float k (Op.negFloat k b)))
 | .xor,.int k n=>K (.v (.int k (eK .xor k (if k.signed then -1 else k.max) n)))
 | _,_=>False
def Cr (s:St) (ch:bp) (t:Nat) (w:Bool) (x:Operand):Option LV:=
 match x with
 | .tmp u=>match s.f u with
  | some (l,c)=>cond (oY c ((t,w)::ch)) (some l) none
  | none=>none
 | .const v=>some (.v v)
 | _=>none
def yn (s:St) (ch:bp) (x a b:Operand) (K:LV->Prop):Prop:=
 match x with
 | .tmp t=>match s.f t with
  | some (.v (.bool p),c)=>cond (oY c ch)
   (match a,b with
    | .tmp _,.const (.bool false)=>ju (Cr s ch t true a) λv=>match v with
     | .bool q=>aF (p&&q) λy=>K (.v (.bool y))
     | _=>False
    | .const (.bool true),.tmp _=>ju (Cr s ch t false b) λv=>match v with
     | .bool q=>aF (p || q) λy=>K (.v (.bool y))
     | _=>False
    | .const (.bool true),.const (.bool false)=>K (.v (.bool p))
    | .const (.bool x),.const (.bool y)=>K (.v (.bool (cond p x y)))
    | _,_=>False) False
  | _=>False
 | _=>False
def R4 (c:Option Bool) (P:Program) (tb:Tb) (b:Builtin) (f:List Value) (d:List TypeId) (a:Nat) (h:Hp) (K:LV->Prop):Prop:=
 match b,f,d with
 | .len,[x],[ty]=>If c P tb ty a x h K
 | .cap,[.slice _ _ c],[ty]=>match tb.ty ty with
  | some e=>match e.cH with
   | .slice _=>K (.v (.int .i64 (c:Int)))
   | _=>False
  | none=>False
 | .min,.int k x::r,_=>match uQ jV k x r with
  | some v=>K (.v v)
  | none=>False
 | .max,.int k x::r,_=>match uQ rD k x r with
  | some v=>K (.v v)
  | none=>False
 | _,_,_=>False
def Ii (n:Int):Nat:=match n with
 | .ofNat m=>m
 | .negSucc _=>0
def Dq (c:Option Bool) (tb:Tb) (t:Nat) (cs:List Value) (n:Int) (K:LV->Prop):Prop:=
 match nj tb t with
 | some (len,e)=>cond (qR e.cH) False (mD c (0<=n/\n<(len:Int))/\∃x,mD c (cs[n.toNat*e.size]? =some (e.sh.enc x))/\K (.v (e.sh.enc x)))
 | none=>False
def yK (P:Program) (tb:Tb) (o:Oper) (ch:bp) (s:St) (h:Hp) (K:LV->Prop):Prop:=
 match o.op with
 | .move x=>QF (ev s ch x) K
 | .assign x=>QF (ev s ch x) K
 | .pick x a b=>yn s ch x a b K
 | .extract x i=>ju (ev s ch x) λv=>match v with
  | .tuple z=>match nth z.toList i with
   | some y=>K (.v y)
   | none=>False
  | _=>False
 | .binOp op t x y _=>ju (ev s ch x) λa=>ju (ev s ch y) λb=>xW (fB s ch) P tb op t x y o.type a b h K
 | .unOp op _ x=>ju (ev s ch x) λa=>SP op a K
 | .nilCheck x=>match ev s ch x with
  | some (.v (.pointer p))=>ah (fB s ch) p λa=>K (.v (.pointer (some a)))
  | some (.box k off)=>K (.box k off)
  | some (.eH k off)=>K (.eH k off)
  | _=>False
 | .load t x=>match ev s ch x with
  | some (.v (.pointer (some a)))=>match tb.ty t with
   | some e=>aN (fB s ch) e.sh h a λx=>K (.v (e.sh.enc x))
   | none=>False
  | some (.box k off)=>match s.m k with
   | some c=>jY tb t c off K
   | none=>False
  | some (.eH k off)=>match s.m k,tb.ty t with
   | some c,some e=>cond (qR e.cH) False (∃x,mD (fB s ch) (c[off]? =some (e.sh.enc x))/\K (.v (e.sh.enc x)))
   | _,_=>False
  | _=>False
 | .fieldAddr t x i=>BX tb t i λoff _=>match ev s ch x with
  | some (.v (.pointer (some a)))=>K (.v (.pointer (some (a.add off))))
  | some (.box k o)=>K (.box k (o+off))
  | some (.eH k o)=>K (.eH k (o+off))
  | _=>False
 | .field t x i=>match tb.ty t with
  | some e=>match e.cH with
   | .struct j=>match nth j.toList i with
    | some f=>ju (ev s ch x) λv=>match v with
     | .agg c=>jY tb f.type c.toList f.offset K
     | _=>False
    | none=>False
   | _=>False
  | none=>False
 | .indexAddr t x i=>match ev s ch x,ev s ch i with
  | some (.v (.slice base len _)),some (.v (.int _ n))=>match ib tb t with
   | some e=>mD (fB s ch) (bI base len n)/\K (.v (.pointer (some (sat base e.size n))))
   | none=>False
  | some (.v (.pointer (some a))),some (.v (.int _ n))=>match nj tb t with
   | some (len,e)=>mD (fB s ch) (0<=n/\n<(len:Int))/\K (.v (.pointer (some (a.add (n.toNat*e.size)))))
   | none=>False
  | some (.box k off),some (.v (.int _ n))=>match nj tb t with
   | some (len,e)=>mD (fB s ch) (0<=n/\n<(len:Int))/\cond (Fl i) (K (.box k (off+Ii n*e.size))) (K (.eH k (off+n.toNat*e.size)))
   | none=>False
  | _,_=>False
 | .index t x i=>match ev s ch x,ev s ch i with
  | some (.v (.string b)),some (.v (.int _ n))=>match tb.ty t with
   | some y=>match y.cH with
    | .string=>mD (fB s ch) (0<=n/\n<(b.size:Int))/\K (.v (.int .u8 ((b.data.toList.getD n.toNat 0).toNat:Int)))
    | _=>False
   | none=>False
  | some (.v (.agg c)),some (.v (.int _ n))=>Dq (fB s ch) tb t c.toList n K
  | _,_=>False
 | .slice t x r q w=>ju (ev s ch x) λv=>match qG s ch r,qG s ch q,qG s ch w with
  | some r,some q,some w=>D6 (fB s ch) tb t v r q w K
  | _,_,_=>False
 | .makeInterface t x=>ju (ev s ch x) λv=>match tb.ty t with
  | some e=>match e.cH with
   | .interface _=>False
   | _=>K (.v (.iface t v))
  | none=>False
 | .makeFunc fn first captured=>pS (fk s ch first.toList) λa=>pS (fk s ch captured.toList) λb=>K (.v (.func fn a.toArray b.toArray))
 | .convert src d x=>ju (ev s ch x) λv=>match tb.ty src,tb.ty d,v with
  | some _,some e,.int _ n=>match e.cH with
   | .int k=>K (.v (.int k (k.wrap n)))
   | _=>oV (fB s ch) P tb d (convert src d v) h K
  | some _,some _,v=>oV (fB s ch) P tb d (convert src d v) h K
  | _,_,_=>False
 | .build t parts=>pS ((nv s ch parts.toList).map λ_=> []) λ_=>match nv s ch parts.toList,tb.ty t with
  | some B,some e=>match e.cH with
   | .struct j=>cond (rK tb j.toList) (match tv tb j.toList (bA e.zero) B with
    | some c=>K (.v (.agg c.toArray))
    | none=>False) False
   | .array _ u=>match tb.ty u with
    | some g=>match pG g.size (bA e.zero) B with
     | some c=>K (.v (.agg c.toArray))
     | none=>False
    | none=>False
   | _=>False
  | _,_=>False
 | .lookup t x i ok=>ju (ev s ch x) λa=>ju (ev s ch i) λb=>match a,tb.ty t with
  | .map m,some e=>match e.cH with
   | .map k u=>match tb.ty k,tb.ty u with
    | some A,some l=>cond (uB A.cH) (pA (fB s ch) A.cH l.sh l.zero m b h λx y=>cond ok (K (.v (.tuple #[l.sh.enc x,.bool y]))) (K (.v (l.sh.enc x))))
      (oV (fB s ch) P tb o.type (Instr.lookup t a b ok) h K)
    | _,_=>False
   | _=>False
  | _,_=>False
 | .call {callee:=.builtin b,args:=D,argTypes:=C}=>pS (fk s ch D.toList) λz=>R4 (fB s ch) P tb b z C.toList o.type h K
 | _=>False
inductive Kd where
 | pure
 | box
 | mem
def dg (tb:Tb) (o:Oper) (ch:bp) (s:St):Kd:=
 match o.op with
 | .load _ x=>match ev s ch x with
  | some (.box _ _)=>.box
  | some (.eH _ _)=>.box
  | _=>.mem
 | .lookup .. =>.mem
 | .binOp op _ x y _=>match ev s ch x,ev s ch y with
  | some (.v (.int _ _)),some (.v (.int _ _))=>.pure
  | some (.v (.bool _)),some (.v (.bool _))=>.pure
  | some (.v (.string _)),some (.v (.string _))=>match op with
   | .eql=>.pure
   | .neq=>.pure
   | .add=>.pure
   | _=>.mem
  | some (.v (.pointer _)),some (.v (.pointer _))=>cond (u6 y) .pure .mem
  | _,_=>.mem
 | .convert _ d x=>match ev s ch x,tb.ty d with
  | some (.v (.int _ _)),some e=>match e.cH with
   | .int _=>.pure
   | _=>.mem
  | _,_=>.mem
 | .call {callee:=.builtin .len,args:=b,argTypes:=a}=>match fk s ch b.toList,a.toList with
  | some [x],[t]=>match tb.ty t with
   | some e=>match e.cH,x with
    | .string,.string _=>.pure
    | .slice _,.slice _ _ _=>.pure
    | .array _ _,_=>.pure
    | _,_=>.mem
   | none=>.mem
  | _,_=>.mem
 | _=>.pure
def uM (c:Option Bool) (P:Program) (tb:Tb) (t:Nat) (s:Sem Value) (K:LV->Hp->Prop) (h:Hp):Prop:=
 match tb.ty t with
 | some e=>dm c (λ(K:e.sh.T->Hp->Prop) h=>lx P s e.sh K h) (λx a=>K (.v (e.sh.enc x)) a) h
 | none=>False
def QI (c:Option Bool) (P:Program) (sh:Shape) (s:Sem Value) (K:LV->Hp->Prop) (h:Hp):Prop:=
 dm c (λ(K:sh.T->Hp->Prop) h=>lx P s sh K h) (λx a=>K (.v (sh.enc x)) a) h
def GH (P:Program) (tb:Tb) (c:Option Bool) (t:Nat) (x y z:Option LV) (K:LV->Hp->Prop) (h:Hp):Prop:=
 ju x λa=>ju y λb=>ju z λv=>match a,tb.ty t with
  | .map m,some e=>match e.cH with
   | .map k _=>match tb.ty k with
    | some d=>dm c (λ(K:Unit->Hp->Prop) h=>cond (uB d.cH) (u5 d.cH m b v (K ()) h) (HW P (Instr.mapUpdate t a b v) (K ()) h)) (λ_ f=>K (.v (.tuple #[])) f) h
    | none=>False
   | _=>False
  | _,_=>False
def Dh (tb:Tb) (c:Option Bool) (k:List TypeId) (o:List Value) (h:Hp) (K:LV->Hp->Prop):Prop:=
 match o,k with
 | [.slice p n a,.slice j i g],[t,d]=>match ib tb t,ib tb d with
  | some e,some _=>dm c (eC e.size e.bytes (bA e.zero) ⟨p,n,a⟩ ⟨j,i,g⟩) (λl b=>K (.v (.slice l.base l.len l.cap)) b) h
  | _,_=>False
 | [.slice p n a,.string x],[t,d]=>match ib tb t,tb.ty d with
  | some e,some f=>match e.cH,f.cH with
   | .int .u8,.string=>cond (Nat.beq e.bytes 1) (dm c (Te (D5 tb t) ⟨p,n,a⟩ x) (λl b=>K (.v (.slice l.base l.len l.cap)) b) h) False
   | _,_=>False
  | _,_=>False
 | [.slice p n a,.int .i64 m],[t,d]=>match ib tb t,tb.ty d with
  | some e,some f=>match f.cH with
   | .int .i64=>dm c (Bv e.size e.bytes (bA e.zero) ⟨p,n,a⟩ m) (λl b=>K (.v (.slice l.base l.len l.cap)) b) h
   | _=>False
  | _,_=>False
 | _,_=>False
def xY (P:Program) (tb:Tb) (ty:Nat) (c:Option Bool) (a:Array TypeId) (b:List Value) (h:Hp) (K:LV->Hp->Prop):Prop:=
 match b,a.toList with
 | [.slice p n f,.slice j i d],[t,_]=>match ib tb t with
  | some e=>dm c (gE e.size ⟨p,n,f⟩ ⟨j,i,d⟩) (λk g=>K (.v (.int .i64 k)) g) h
  | none=>False
 | _,_=>uM c P tb ty (Builtin.copy_ a ty b.toArray) K h
def Dl (P:Program) (tb:Tb) (ty:Nat) (c:Option Bool) (b:Array TypeId) (d:List Value) (h:Hp) (K:LV->Hp->Prop):Prop:=
 match d,b.toList with
 | [.map m,k],[t,_]=>match tb.ty t with
  | some e=>match e.cH with
   | .map g _=>match tb.ty g with
    | some a=>cond (uB a.cH) (dm c (λ(K:Unit->Hp->Prop) h=>zk a.cH m k (K ()) h) (λ_ f=>K (.v (.tuple #[])) f) h)
      (uM c P tb ty (Builtin.delete_ b ty d.toArray) K h)
    | none=>False
   | _=>False
  | none=>False
 | _,_=>False
def D8 (P:Program) (tb:Tb) (ty:Nat) (c:Option Bool) (g:FuncId) (b:List Value) (h:Hp) (K:LV->Hp->Prop):Prop:=
 match tb.ty ty with
 | some e=>cond (tb.call g) (dm c (ae P g b e.sh) (λx a=>K (.v (e.sh.enc x)) a) h) (match tb.ext g with
  | some f=>dm c (λ(K:e.sh.T->Hp->Prop) h=>lx P (f b.toArray) e.sh K h) (λx a=>K (.v (e.sh.enc x)) a) h
  | none=>False)
 | none=>False
def D9 (P:Program) (tb:Tb) (ty:Nat) (c:Option Bool) (a:Option LV) (d:List Value) (h:Hp) (K:LV->Hp->Prop):Prop:=
 match tb.ty ty with
 | some e=>ju a λa=>dm c (iK P tb a d e.sh) (λx b=>K (.v (e.sh.enc x)) b) h
 | none=>False
def AA (P:Program) (tb:Tb) (o:Oper) (ch:bp) (s:St) (h:Hp) (K:LV->Hp->Prop):Prop:=
 match o.op with
 | .store t x y=>match ev s ch x,ev s ch y with
  | some (.v (.pointer (some a))),some (.v v)=>match ch,tb.ty t with
   | [],some e=>cond (Nat.beq (bA v).length e.size) (cond (jL (bA v)) (cX h a (bA v) λd=>K (.v (.tuple #[])) d) False) False
   | _,_=>False
  | _,_=>False
 | .alloc t=>match tb.ty t with
  | some e=>dm (fB s ch) (Cp t (bA e.zero)) (λa d=>K (.v (.pointer (some a))) d) h
  | none=>False
 | .box _ x=>ju (ev s ch x) λv=>dm (fB s ch) (bc (bA v)) (λa d=>K (.v (.pointer (some a))) d) h
 | .buildSlice t len parts=>match nv s ch parts.toList,ib tb t with
  | some u,some e=>cond (Nat.ble (len*e.size) 16777216) (match pG e.size (mw (bA e.zero) len) u with
   | some r=>dm (fB s ch) (bc r) (λa d=>K (.v (.slice (some a) len len)) d) h
   | none=>False) False
  | _,_=>False
 | .makeMap _ none=>dm (fB s ch) yV (λm d=>K (.v (.map m)) d) h
 | .makeSlice t x y=>ju (ev s ch x) λa=>ju (ev s ch y) λb=>match a,b,ib tb t with
  | .int .i64 m,.int .i64 n,some e=>dm (fB s ch) (dU e.bytes (bA e.zero) m n) (λl d=>K (.v (.slice l.base l.len l.cap)) d) h
  | _,_,_=>False
 | .mapUpdate t x y z=>GH P tb (fB s ch) t (ev s ch x) (ev s ch y) (ev s ch z) K h
 | .insert t x y z=>GH P tb (fB s ch) t (ev s ch x) (ev s ch y) (ev s ch z) K h
 | .mapEntry t x y=>ju (ev s ch x) λa=>ju (ev s ch y) λb=>uM (fB s ch) P tb o.type (Instr.mapEntry t a b) K h
 | .binOp op t x y _=>ju (ev s ch x) λa=>ju (ev s ch y) λb=>uM (fB s ch) P tb o.type (dx op t x y a b) K h
 | .entryStore t x y z=>ju (ev s ch x) λa=>ju (ev s ch y) λb=>ju (ev s ch z) λc=>
  dm (fB s ch) (λ(K:Unit->Hp->Prop) h=>HW P (Instr.entryStore t a b c) (K ()) h) (λ_ d=>K (.v (.tuple #[])) d) h
 | .range t x=>ju (ev s ch x) λa=>QI (fB s ch) P al (Instr.range t a) K h
 | .next x b=>ju (ev s ch x) λa=>QI (fB s ch) P abV (Instr.next a b o.type) K h
 | .convert src q x=>ju (ev s ch x) λv=>match v,tb.ty src,ib tb q with
  | .string b,some e,some g=>match e.cH,g.cH with
   | .string,.int .u8=>dm (fB s ch) (NQ b) (λl d=>K (.v (.slice l.base l.len l.cap)) d) h
   | _,_=>False
  | .slice p n c,some e,some g=>match e.cH,g.cH with
   | .slice _,.int .u8=>cond (Nat.beq src q) (dm (fB s ch) (qX p) (λ_ d=>K (.v (.slice p n c)) d) h) False
   | _,_=>False
  | _,_,_=>False
 | .call {callee:=.builtin b,args:=k,argTypes:=j}=>pS (fk s ch k.toList) λi=>match b with
  | .append=>Dh tb (fB s ch) j.toList i h K
  | .copy=>xY P tb o.type (fB s ch) j i h K
  | .delete=>Dl P tb o.type (fB s ch) j i h K
  | .clear=>uM (fB s ch) P tb o.type (Builtin.clear_ j o.type i.toArray) K h
  | _=>False
 | .call {callee:=.value f,args:=k,argTypes:=_}=>pS (fk s ch k.toList) λi=>match f with
  | .func g=>D8 P tb o.type (fB s ch) g i h K
  | .tmp t=>D9 P tb o.type (fB s ch) (ev s ch (.tmp t)) i h K
  | _=>False
 | _=>False
def ZW (tb:Tb) (o:Oper):Bool:=
 match o.op with
 | .convert s d _=>match tb.ty s,tb.ty d with
  | some a,some b=>match a.cH,b.cH with
   | .int _,.int _ | .int _,.float _ | .float _,.int _ | .float _,.float _ | .int _,.string | .slice _,.string | .string,.string=>true
   | _,_=>false
  | _,_=>false
 | _=>false
def Sg (tb:Tb) (op:BinOp) (t:Nat):Bool:=
 match op with
 | .add | .sub | .mul | .quo=>match tb.ty t with
  | some e=>match e.cH with
   | .float _=>true
   | _=>false
  | none=>false
 | _=>false
def isVal (tb:Tb) (o:Oper):Bool:=
 match o.op with
 | .binOp op t _ _ _=>cond (Sg tb op t) false true
 | .move _ | .assign _ | .pick .. | .extract .. | .unOp .. | .nilCheck _ | .load .. | .fieldAddr .. | .field .. | .indexAddr .. | .index ..
 | .slice .. | .makeInterface .. | .makeFunc .. | .build .. | .lookup .. =>true
 | .convert .. =>ZW tb o
 | .call {callee:=.builtin b,..}=>match b with
  | .len | .cap | .min | .max=>true
  | _=>false
 | _=>false
def has (l:List Nat) (i:Nat):Bool:=
 match l with
 | []=>false
 | a::r=>cond (Nat.beq i a) true (has r i)
def cK :List Oper->List Nat
 | []=> []
 | o::r=>match o.dst with
  | some d=>d::cK r
  | none=>cK r
def app {b:Type _}:List b->List b->List b
 | [],l=>l
 | a::r,l=>a::app r l
def lN :List Nat->List Nat->Bool
 | [],_=>true
 | a::r,l=>cond (has l a) (lN r l) false
structure Ctx where
 P:Program
 tb:Tb
 aY:List Nat
def tj (l:List Nat) (o:Oper):Option Nat:=
 match o.dst with
 | some d=>cond (has l d) (some d) none
 | none=>none
def rL (a:List Oper):Nat->Oper->Option bp
 | 0,_=>none
 | n+1,o=>match o.guard with
  | none=>some []
  | some (j,w)=>match nth a j with
   | some p=>match p.dst,rL a n p with
    | some d,some c=>some ((d,w)::c)
    | _,_=>none
   | none=>none
def OY (C:Ctx) (t:Nat) (a b:Value) (ok:Bool) (h:Hp) (v:Value):Prop:=
 match a,C.tb.ty t with
 | .map m,some e=>match e.cH with
  | .map k u=>match C.tb.ty k,C.tb.ty u with
   | some c,some d=>cond (uB c.cH) (cond ok (match v with
     | .tuple ⟨[x,.bool y]⟩=>Cq c.cH d.zero m b h x y
     | _=>False) (∃y,Cq c.cH d.zero m b h v y)) (kY C.P (Instr.lookup t a b ok) h v)
   | _,_=>False
  | _=>False
 | _,_=>False
def qT (C:Ctx) (c:Nat->Bool) (o:Oper) (ch:bp) (s:St) (h:Hp):Prop:=
 match o.op,o.dst with
 | .load _ x,some d=>match s.f d with
  | some (.v v,_)=>match ev s ch x with
   | some (.v (.pointer (some a)))=>mD (fB s ch) (aZ h a (bA v))
   | some (.box b _)=>cond (c b) False True
   | some (.eH b _)=>cond (c b) False True
   | _=>False
  | _=>False
 | .lookup t x i ok,some d=>match s.f d with
  | some (.v v,_)=>ju (ev s ch x) λa=>ju (ev s ch i) λb=>mD (fB s ch) (OY C t a b ok h v)
  | _=>False
 | .call {callee:=.builtin .len,args:=g,argTypes:=e},some d=>match s.f d with
  | some (.v v,_)=>match fk s ch g.toList with
   | some [x]=>mD (fB s ch) (kY C.P (Builtin.len_ e o.type #[x]) h v)
   | _=>False
  | _=>False
 | _,_=>False
def G4 (C:Ctx) (b:Nat->Bool) (a:List Oper) (s:St) (h:Hp):List Nat->Prop
 | []=>True
 | r::l=>(match nth a r with
   | some o=>match rL a a.length o with
    | some ch=>qT C b o ch s h
    | none=>False
   | none=>False)/\G4 C b a s h l
def vU (s:St):bp->Bool
 | []=>true
 | (d,_)::c=>match s.f d with
  | some (.v (.bool _),a)=>cond (qA a c) (vU s c) false
  | _=>false
def nodup :List Nat->Bool
 | []=>true
 | a::r=>cond (has r a) false (nodup r)
def u7 :List Oper->Bool
 | []=>true
 | o::r=>match o.guard with
  | none=>u7 r
  | some _=>false
def Cs (d i:Nat):List Oper->Option Nat
 | []=>none
 | o::r=>match o.op with
  | .extract (.tmp t) j=>cond (Nat.beq t d) (cond (Nat.beq j i) (some o.type) (Cs d i r)) (Cs d i r)
  | _=>Cs d i r
def NS (tb:Tb) (d i:Nat) (a:List Oper):Shape:=match Cs d i a with
 | some t=>match tb.ty t with
  | some e=>e.sh
  | none=>CT
 | none=>CT
def Dm (C:Ctx) (b:List Oper) (o:Oper) (ch:bp) (s:St) (h:Hp) (K:LV->Hp->Prop):Prop:=
 match o.op,o.dst with
 | .entry x,some d=>ju (ev s ch x) λa=>QI (fB s ch) C.P (nS (NS C.tb d 0 b) (NS C.tb d 1 b)) (Instr.entry a) K h
 | _,_=>False
def DB (C:Ctx) (b:List Oper) (f:List Nat) (o:Oper) (s:St) (h:Hp) (K:St->Hp->Prop):Prop:=
 match rL b b.length o with
 | none=>False
 | some ch=>cond (vU s ch)
  (cond (isVal C.tb o) (yK C.P C.tb o ch s h λl=>K (s.put o.dst l ch) h)
  (match tj C.aY o,ch with
   | some d,[]=>cond (has f d) (match o.op with
    | .alloc t=>match C.tb.ty t with
     | some e=>K ((s.put (some d) (.box d 0) []).hO d (bA e.zero)) h
     | none=>False
    | .box _ x=>ju (ev s ch x) λv=>K ((s.put (some d) (.box d 0) []).hO d (bA v)) h
    | _=>False) False
   | some _,_=>False
   | none,_=>match o.op with
    | .store t x y=>match ev s ch x,ev s ch y with
     | some (.box k off),some (.v v)=>match s.m k,C.tb.ty t,ch with
      | some c,some e,[]=>cond (has f k) (cond (Nat.beq (bA v).length e.size) (cond (Nat.ble (off+e.size) c.length) (cond (jL (bA v))
        (K ((s.put o.dst (.v (.tuple #[])) ch).hO k (mr c off (bA v))) h) False) False) False) False
      | _,_,_=>False
     | _,_=>AA C.P C.tb o ch s h λl a=>K (s.put o.dst l ch) a
    | .entry _=>Dm C b o ch s h λl a=>K (s.put o.dst l ch) a
    | _=>AA C.P C.tb o ch s h λl a=>K (s.put o.dst l ch) a)) False
def xX (o:Oper) (s:St) (k:Nat):Bool:=match o.op with
 | .store _ x _=>(match ev s [] x with
  | some (.box b _)=>Nat.beq k b
  | some (.v _)=>false
  | _=>true)
 | _=>false
def ud (tb:Tb) (o:Oper):Bool:=match o.op with
 | .move _ | .assign _ | .pick .. | .extract .. | .unOp .. | .nilCheck _ | .fieldAddr .. | .field .. | .indexAddr .. | .index .. | .slice .. | .makeInterface .. | .makeFunc .. | .build .. =>false
 | .binOp _ t _ _ _=>match tb.ty t with
  | some e=>match e.cH with
   | .int _ | .bool | .string | .float _=>false
   | _=>true
  | none=>true
 | .call {callee:=.builtin b,argTypes:=a,..}=>match b with
  | .cap | .min | .max=>false
  | .len=>match a.toList with
   | [t]=>match tb.ty t with
    | some e=>match e.cH with
     | .slice _ | .string | .array _ _=>false
     | _=>true
    | none=>true
   | _=>true
  | _=>true
 | .convert s _ _=>match tb.ty s with
  | some e=>match e.cH with
   | .int _ | .float _ | .string=>false
   | _=>true
  | none=>true
 | _=>true
def Eb (C:Ctx) (a:List Oper) (o:Oper) (s:St):Bool:=
 cond (isVal C.tb o) (cond (ud C.tb o) true (match rL a a.length o with
  | some ch=>match dg C.tb o ch s with
   | .pure=>true
   | _=>false
  | none=>false)) true
def qH (C:Ctx) (a:List Oper) (c:List Nat):List (Nat×List Nat)->St->Hp->(St->Hp->Prop)->Prop
 | [],s,h,K=>K s h
 | (i,ws)::r,s,h,K=>match nth a i with
  | some o=>cond (Eb C a o s) (DB C a c o s h λd b=>match ws with
   | []=>qH C a c r d b K
   | ws=>G4 C (xX o s) a d b ws/\qH C a c r d b K) False
  | none=>False
def DF (C:Ctx) (b:List Oper) (a:List Nat):List Oper->St->Hp->(St->Hp->Prop)->Prop
 | [],s,h,K=>K s h
 | o::r,s,h,K=>DB C b a o s h λd c=>DF C b a r d c K
def wL (e:Edge):Bool:=match e.ground with
 | .textOnly _=>false
 | .gcOnly _=>false
 | _=>true
def waits (o:Oper):List Nat:=go o.after.toList
 where
 go:List Edge->List Nat
  | []=> []
  | e::r=>cond (wL e) (e.on::go r) (go r)
def xT (j:Nat) (l:List Nat):List Nat:=cond (has l j) l (j::l)
def Dv :List Nat->List Nat->List Nat
 | [],b=>b
 | a::r,b=>Dv r (xT a b)
def bV :List Oper->List (List Nat)->List (List Nat)
 | [],a=>a
 | o::r,a=>bV r (app a [union (waits o) a])
 where
 union:List Nat->List (List Nat)->List Nat
  | [],_=> []
  | j::l,a=>xT j (Dv (match nth a j with
   | some x=>x
   | none=> []) (union l a))
def na (rows:List (List Nat)) (i:Nat):List Nat:=match nth rows i with
 | some l=>l
 | none=> []
def nD (aY:List Nat) (o:Oper):Bool:=match o.op,o.dst with
 | .alloc _,some d=>has aY d
 | .box _ _,some d=>has aY d
 | _,_=>false
def AK :List (Nat×Operand)->List Operand
 | []=> []
 | (_,x)::r=>x::AK r
def yl :Option Operand->List Operand
 | none=> []
 | some x=> [x]
def Ed :Op->Option (List Operand)
 | .alloc _=>some []
 | .move x | .assign x | .box _ x | .load _ x | .nilCheck x | .unOp _ _ x | .convert _ _ x | .fieldAddr _ x _ | .field _ x _ | .range _ x | .next x _ | .entry x | .extract x _ | .makeInterface _ x=>some [x]
 | .pick c a b=>some [c,a,b]
 | .build _ e | .buildSlice _ _ e=>some (AK e.toList)
 | .store _ a v | .binOp _ _ a v _ | .makeSlice _ a v | .indexAddr _ a v | .index _ a v | .lookup _ a v _ | .mapEntry _ a v=>some [a,v]
 | .makeFunc _ first captured=>some (app first.toList captured.toList)
 | .makeMap _ r=>some (yl r)
 | .slice _ x l h m=>some (x::app (yl l) (app (yl h) (yl m)))
 | .mapUpdate _ m k v | .entryStore _ m k v | .insert _ m k v=>some [m,k,v]
 | .call {callee:=.value f,args:=d,..}=>some (f::d.toList)
 | .call {callee:=.builtin _,args:=d,..}=>some d.toList
 | _=>none
def vC (o:Oper) (t:Nat):Bool:=match o.dst with
 | some d=>Nat.beq d t
 | none=>false
def looksAt (o:Oper) (t:Nat):Bool:=match Ed o.op with
 | some l=>go l
 | none=>true
 where
 go:List Operand->Bool
  | []=>false
  | .tmp u::r=>cond (Nat.beq u t) true (go r)
  | _::r=>go r
def xd (rows:List (List Nat)) (i t:Nat):List Oper->Nat->Bool
 | [],_=>true
 | p::r,j=>cond (cond (vC p t) (cond (has (na rows i) j) true (cond (Nat.beq i j) true (has (na rows j) i))) true) (xd rows i t r (j+1)) false
def dW (a:List Oper) (rows:List (List Nat)) (i:Nat) (o:Oper):Bool:=
 match Ed o.op with
 | some l=>cond (go l) (match o.guard with
  | none=>true
  | some (j,_)=>has (na rows i) j) false
 | none=>false
 where
 go:List Operand->Bool
  | []=>true
  | .tmp t::r=>cond (xd rows i t a 0) (go r) false
  | _::r=>go r
def iM (rows:List (List Nat)) (j:Nat) (o:Oper):List Oper->Nat->Bool
 | [],_=>false
 | p::r,i=>match o.dst with
  | none=>false
  | some d=>cond (cond (looksAt p d) (cond (has (na rows i) j) false true) false) true (iM rows j o r (i+1))
def fj (tb:Tb) (aY:List Nat) (a:List Oper) (rows:List (List Nat)):List (Nat×List Nat)->List Nat->Option Nat->Bool
 | [],_,_=>true
 | (i,b)::r,done,last=>match nth a i with
  | some o=>cond (cond (lN (waits o) done) (dW a rows i o) false)
   (cond (has done i) false (cond (match last with
     | none=>true
     | some e=>has (na rows i) e)
    (match cond (isVal tb o) true (nD aY o),iM rows i o a 0 with
     | true,false=>fj tb aY a rows r (i::done) last
     | true,true=>fj tb aY a rows r (i::done) (some i)
     | false,_=>cond (watched tb a rows b i done) (fj tb aY a rows r (i::done) (some i)) false) false)) false
  | none=>false
 where
 watched (tb:Tb) (a:List Oper) (rows:List (List Nat)) (b:List Nat) (e:Nat):List Nat->Bool
  | []=>true
  | r::l=>cond (match nth a r with
    | some o=>cond (cond (ud tb o) (isVal tb o) false) (cond (has b r) true (has (na rows e) r)) true
    | none=>false) (watched tb a rows b e l) false
def St.clean (s:St):St:={f:=λi=>match s.f i with | some (l,[])=>some (l,[]) | _=>none,m:=s.m}
def mj (aY:List Nat):List Oper->List Nat
 | []=> []
 | o::r=>cond (nD aY o) (match o.dst with
  | some d=>d::mj aY r
  | none=>mj aY r) (mj aY r)
def rZ (l:List Nat) (x:Option (LV×bp)):Option (LV×bp):=match x with
 | some (.box k o,c)=>cond (has l k) none (some (.box k o,c))
 | some (.eH k o,c)=>cond (has l k) none (some (.eH k o,c))
 | some (.v v,c)=>some (.v v,c)
 | none=>none
def St.mH (s:St) (l:List Nat):St:=match l with
 | []=>s
 | l=>{f:=λi=>rZ l (s.f i),m:=λk=>cond (has l k) none (s.m k)}
def BN :List Oper->Nat->Bool
 | [],_=>true
 | o::r,i=>match o.guard with
  | none=>BN r (i+1)
  | some (j,_)=>cond (Nat.blt j i) (BN r (i+1)) false
def CS (aY:List Nat) (a:List Oper):Bool:=
 cond (nodup (mj aY a)) (cond (u7 a) true (cond (nodup (cK a)) (BN a 0) false)) false
structure J where
 Sh:Bool
 i:Nat
 t:Nat
inductive j3 where
 | tt
 | sq (x y:j3)
 | jn (js:List J) (mm:List Nat) (x y:j3)
 | lp (js:List J) (mm:List Nat) (x:j3)
 | bk (x:j3)
 | bj (js:List J) (mm:List Nat) (x:j3)
 | sp (k:Nat) (x y:j3)
 | gs (l:Nat) (x:j3)
 | gj (l:Nat) (js:List J) (mm:List Nat) (x y:j3)
 | rg (ord:List (Nat×List Nat))
 | r2 (pre:List (Nat×List Nat)) (i j:Nat) (x y:j3)
 | gd (l:Nat) (a x:j3)
def j3.fst :j3->j3
 | .sq x _ | .jn _ _ x _ | .gj _ _ _ x _ | .sp _ x _ | .lp _ _ x | .bk x | .bj _ _ x=>x
 | _=>.tt
def j3.snd :j3->j3
 | .sq _ y | .jn _ _ _ y | .gj _ _ _ _ y | .sp _ _ y=>y
 | _=>.tt
inductive Ex where
 | gZ
 | ret
 | ext (i:Nat)
 | lG (i:Nat)
abbrev Env :=Ex->St->Hp->Prop
def Env.gZ (E:Env) (K:St->Hp->Prop):Env
 | .gZ=>K
 | .ret=>E .ret
 | .ext i=>E (.ext i)
 | .lG i=>E (.lG i)
def Env.fW (E:Env) (id:Nat) (K:St->Hp->Prop):Env
 | .gZ=>K
 | .ret=>E .ret
 | .ext i=>cond (Nat.beq i id) K (E (.ext i))
 | .lG i=>E (.lG i)
def Env.nn (E:Env):Env
 | .gZ=>E .gZ
 | .ret=>E .ret
 | .ext i=>E (.ext i)
 | .lG _=>λ_ _=>False
def qx (tb:Tb):List J->Type
 | []=>Unit
 | [j]=>(eg tb j.t).T
 | j::a::js=>(eg tb j.t).T×qx tb (a::js)
def Ct (tb:Tb) (t:Nat):Bool:=match tb.ty t with
 | some e=>qR e.cH
 | none=>false
def BY (tb:Tb) (t:Nat) (a:List Value):Option Value:=
 cond (Ct tb t) (some (.agg a.toArray)) (match a with
  | [v]=>some v
  | _=>none)
def RX (sh:Shape) (v:Value) (K:sh.T->Prop):Prop:=∃x,sh.enc x=v/\K x
def CI (tb:Tb) (t:Nat):Bool:=match tb.ty t with
 | some e=>match e.cH with
  | .interface _=>true
  | _=>false
 | none=>false
def wo (tb:Tb) (t:Nat) (v:Value) (K:(eg tb t).T->Prop):Prop:=
 cond (CI tb t) (RX (eg tb t) v K) (match (eg tb t).dec v with
  | some x=>K x
  | none=>False)
def Cu (tb:Tb) (s:St) (j:J) (K:(eg tb j.t).T->Prop):Prop:=
 cond j.Sh
  (match s.m j.i with
   | some a=>match BY tb j.t a with
    | some v=>wo tb j.t v K
    | none=>False
   | none=>False)
  (match s.f j.i with
   | some (.v v,[])=>wo tb j.t v K
   | _=>False)
def pI (tb:Tb):(js:List J)->St->(qx tb js->Prop)->Prop
 | [],_,K=>K ()
 | [j],s,K=>Cu tb s j K
 | j::a::js,s,K=>Cu tb s j λx=>pI tb (a::js) s λy=>K (x,y)
def zA (tb:Tb) (j:J) (x:(eg tb j.t).T) (s:St):St:=
 cond j.Sh (s.hO j.i (bA ((eg tb j.t).enc x))) (s.put (some j.i) (.v ((eg tb j.t).enc x)) [])
def qb (tb:Tb):(js:List J)->qx tb js->St->St
 | [],_,s=>s
 | [j],x,s=>zA tb j x s
 | j::a::js,p,s=>qb tb (a::js) p.2 (zA tb j p.1 s)
def fc :Code->List Nat
 | .region _ c _=>cK c.toList
 | .seq a b=>app (fc a) (fc b)
 | .cond _ a b=>app (fc a) (fc b)
 | .block _ a=>fc a
 | .loop a=>fc a
 | .scope a=>fc a
 | _=> []
def St.forget (s:St) (l a:List Nat):St:=
 {f:=λi=>cond (has l i) none (rZ l (s.f i)),m:=λi=>cond (has a i) none (s.m i)}
inductive Md where
 | full
 | fr (l:Nat)
 | pr (l:Nat)
 | rs (l:Nat)
 | rz (l:Nat)
def mK :Code->Nat->Bool
 | .seq a b,l=>cond (mK a l) (mK b l) false
 | .label c,l=>cond (Nat.beq c l) false true
 | _,_=>true
def sO :Code->Nat->Option Code
 | .seq a b,l=>match a with
  | .label c=>cond (Nat.beq c l) (some b) none
  | _=>cond (mK a l) (sO b l) none
 | _,_=>none
def pk :Code->Nat->Option Code
 | .seq a b,l=>match a with
  | .label c=>cond (Nat.beq c l) (some b) (pk b l)
  | _=>cond (mK a l) (pk b l) none
 | _,_=>none
def Env.put (E:Env) (l:Nat) (K:St->Hp->Prop):Env
 | .gZ=>E .gZ
 | .ret=>E .ret
 | .ext i=>E (.ext i)
 | .lG i=>cond (Nat.beq i l) K (E (.lG i))
def ye (R:Nat->j3->Env->St->Hp->Prop):j3->Env->Env
 | .gd l a x,E=>ye R x (E.put l (R l a E))
 | _,E=>E
def CG :j3->j3
 | .gd _ _ x=>CG x
 | a=>a
def Env.QE (E:Env) (l:Nat) (K:St->Hp->Prop):Env
 | .gZ=>K
 | .ret=>E .ret
 | .ext i=>E (.ext i)
 | .lG i=>cond (Nat.beq i l) K λ_ _=>False
def DD (k:Nat) (s:St) (h:Hp) (K:St->Hp->Prop):Prop:=
 match s.f k,s.m k with
 | some (.box d off,[]),some b=>cond (Nat.beq k d) (cond (Nat.beq off 0) (bc b (λa c=>
   K {f:=λi=>cond (Nat.beq i k) (some (.v (.pointer (some a)),[])) (s.f i),m:=λi=>cond (Nat.beq i k) none (s.m i)} c) h) False) False
 | _,_=>False
def fz :List Oper->Nat->Nat->List Oper
 | [],_,_=> []
 | o::r,0,i=>{o with after:=⟨app o.after.toList [⟨i,.data⟩]⟩}::r
 | o::r,j+1,i=>o::fz r j i
def xC (tb:Tb) (aY:List Nat) (a:List Oper) (rows:List (List Nat)):List (Nat×List Nat)->List Nat->Option Nat->List Nat×Option Nat
 | [],done,last=>(done,last)
 | (i,_)::r,done,last=>match nth a i with
  | some o=>match cond (isVal tb o) true (nD aY o),iM rows i o a 0 with
   | true,false=>xC tb aY a rows r (i::done) last
   | _,_=>xC tb aY a rows r (i::done) (some i)
  | none=>(done,last)
def xe (rows:List (List Nat)) (i:Nat) (done:List Nat):Nat->Bool
 | 0=>true
 | k+1=>cond (cond (has done k) true (cond (Nat.beq k i) true (has (na rows k) i))) (xe rows i done k) false
def xf (b:List Oper) (c:List (List Nat)) (a:List Oper) (rows:List (List Nat)):List Nat->Bool
 | []=>true
 | k::r=>cond (match nth a k with
  | some o=>cond (iM c k o b 0) true (cond (dW a rows k o) (cond (iM rows k o a 0) false true) false)
  | none=>false) (xf b c a rows r) false
def NU (a:List Oper) (i j:Nat) (done:List Nat) (last:Option Nat):Bool:=
 cond (Nat.beq i j) false (match nth a i,nth a j with
  | some o,some p=>cond (has done i) false (cond (has done j) false (cond (lN (waits o) done) (cond (lN (waits p) done) (cond (match last with
    | none=>true
    | some e=>cond (has done e) (xe (bV a []) e done a.length) false)
   (cond (xe (bV (fz a j i) []) i done a.length) (cond (xe (bV (fz a i j) []) j done a.length)
    (cond (xf a (bV a []) (fz a j i) (bV (fz a j i) []) done) (xf a (bV a []) (fz a i j) (bV (fz a i j) []) done) false) false) false) false) false) false))
  | _,_=>false)
def pV (tb:Tb) (aY:List Nat):j3->List Oper->List Nat->Option Nat->Bool
 | .rg ord,ops,done,last=>cond (Nat.beq (done.length+ord.length) ops.length) (fj tb aY ops (bV ops []) ord done last) false
 | .r2 pre i j x y,ops,done,last=>cond (fj tb aY ops (bV ops []) pre done last) (match xC tb aY ops (bV ops []) pre done last with
   | (d,l)=>cond (NU ops i j d l) (cond (pV tb aY x (fz ops j i) d l) (pV tb aY y (fz ops i j) d l) false) false) false
 | _,_,_,_=>false
def yr (C:Ctx) (b:List Nat) (K:St->Hp->Prop):j3->List Oper->St->Hp->Prop
 | .rg e,a,s,h=>qH C a b e s h K
 | .r2 pre i j x y,a,s,h=>qH C a b pre s h λd c=>yr C b K x (fz a j i) d c/\yr C b K y (fz a i j) d c
 | _,_,_,_=>False
def liftM (C:Ctx):Code->Md->j3->List Nat->St->Env->Hp->Prop
 | .skip,.full,_,_,s,E,h=>E .gZ s h
 | .ret,.full,_,_,s,E,h=>E .ret s h
 | .exit id,.full,_,_,s,E,h=>E (.ext id) s h
 | .goto l,.full,_,_,s,E,h=>E (.lG l) s h
 | .label _,.full,_,_,s,E,h=>E .gZ s h
 | .region _ g n,.full,A,mok,s,E,h=>
  match n with
  | false=>cond (CS C.aY g.toList) (DF C g.toList mok g.toList (s.mH (mj C.aY g.toList)) h λe d=>E .gZ e.clean d) False
  | true=>cond (cond (nodup (cK g.toList)) (pV C.tb C.aY A g.toList [] none) false) (yr C mok (λe d=>E .gZ e.clean d) A g.toList (s.mH (mj C.aY g.toList)) h) False
 | .seq a b,.full,A,mok,s,E,h=>
  match A with
  | .jn f mm _ _=>cond (lN mm mok) (py (λ(R:qx C.tb f->Hp->Prop)=>liftM C a .full A.fst mm s (E.gZ λe d=>pI C.tb f e λx=>R x d) h)
    (λx d=>liftM C b .full A.snd mok (qb C.tb f x (s.forget (fc a) mm)) E d)) False
  | .sp k _ _=>cond (has mok k) (liftM C a .full A.fst mok s (E.gZ λe d=>DD k e d λs2 o=>liftM C b .full A.snd mok s2 E o) h) False
  | _=>liftM C a .full A.fst mok s (E.gZ λe d=>liftM C b .full A.snd mok e E d) h
 | .seq a b,.fr l,A,mok,s,E,h=>
  match a with
  | .label _=>E .gZ s h
  | _=>liftM C a .full A.fst mok s (E.gZ λe d=>liftM C b (.fr l) A.snd mok e E d) h
 | .seq a b,.pr l,A,mok,s,E,h=>
  match a with
  | .label _=>False
  | _=>match A with
   | .gj _ f mm x _=>cond (lN mm mok) (liftM C a .full .tt mok s (E.nn.gZ λe d=>
     py (λ(R:qx C.tb f->Hp->Prop)=>liftM C b (.fr l) x mm e (E.QE l λe d=>pI C.tb f e λx=>R x d) d)
      (λx d=>liftM C b (.rs l) A.snd mok (qb C.tb f x (e.forget (fc b) mm)) E.nn d)) h) False
   | _=>liftM C a .full A.fst mok s (E.nn.gZ λe d=>liftM C b (.pr l) A.snd mok e E d) h
 | .seq a b,.rs l,A,mok,s,E,h=>
  match a with
  | .label _=>liftM C b .full A mok s E h
  | _=>liftM C b (.rs l) A mok s E h
 | .seq a b,.rz l,A,mok,s,E,h=>
  match a with
  | .label p=>cond (Nat.beq p l) (liftM C b .full A mok s E h) (liftM C b (.rz l) A mok s E h)
  | _=>liftM C b (.rz l) A mok s E h
 | .cond c a b,.full,A,mok,s,E,h=>ju (ev s [] c) λv=>match v with
  | .bool t=>if t=true then liftM C a .full A.fst mok s E h else liftM C b .full A.snd mok s E h
  | _=>False
 | .scope a,.full,A,mok,s,E,h=>
  match A with
  | .gs l x=>match sO a l with
   | some _=>liftM C a (.pr l) x mok s E h
   | none=>False
  | .gd j a0 i=>liftM C a .full (CG (.gd j a0 i)) mok s (ye (λl m E s h=>match pk a l with
   | some _=>liftM C a (.rz l) m mok s E h
   | none=>False) (.gd j a0 i) E.nn) h
  | _=>liftM C a .full A mok s E.nn h
 | .block id a,.full,A,mok,s,E,h=>
  match A with
  | .bj f mm _=>cond (lN mm mok) (py (λ(R:qx C.tb f->Hp->Prop)=>liftM C a .full A.fst mm s (E.fW id λe d=>pI C.tb f e λx=>R x d) h)
    (λx d=>E .gZ (qb C.tb f x (s.forget (fc a) mm)) d)) False
  | _=>liftM C a .full A.fst mok s (E.fW id (E .gZ)) h
 | .loop a,.full,A,mok,s,E,h=>
  match A with
  | .lp f mm _=>cond (lN mm mok) (pI C.tb f s λi=>vt (λ(R:qx C.tb f->Hp->Prop) x h=>liftM C a .full A.fst mm (qb C.tb f x (s.forget (fc a) mm))
    (E.gZ λe d=>pI C.tb f e λx=>R x d) h) i h) False
  | _=>False
 | _,_,_,_,_,_,_=>False
def pf (C:Ctx) (s:St) (r:ResultVar) (t:Nat) (K:(eg C.tb t).T->Prop):Prop:=
 match r with
 | .tmp i=>match s.f i with
  | some (.v v,[])=>wo C.tb t v K
  | _=>False
 | .cell i b=>cond (Nat.beq b t) (match s.f i,C.tb.ty t with
  | some (.box k 0,[]),some _=>match s.m k with
   | some a=>match BY C.tb t a with
    | some v=>wo C.tb t v K
    | none=>False
   | none=>False
  | _,_=>False) False
def bC (tb:Tb):List Nat->Shape
 | []=>v7
 | [a]=>eg tb a
 | [a,b]=>nS (eg tb a) (eg tb b)
 | [a,b,c]=>sA (eg tb a) (eg tb b) (eg tb c)
 | [a,b,c,d]=>xc (eg tb a) (eg tb b) (eg tb c) (eg tb d)
 | [a,b,c,d,e]=>Co (eg tb a) (eg tb b) (eg tb c) (eg tb d) (eg tb e)
 | [a,b,c,d,e,f,g]=>abW (eg tb a) (eg tb b) (eg tb c) (eg tb d) (eg tb e) (eg tb f) (eg tb g)
 | _=>v7
def wH (C:Ctx) (s:St) (h:Hp):(rs:List ResultVar)->(u:List Nat)->((bC C.tb u).T->Hp->Prop)->Prop
 | [],[],K=>K () h
 | [r],[t],K=>pf C s r t λx=>K x h
 | [a,r2],[t1,t2],K=>pf C s a t1 λb=>pf C s r2 t2 λc=>K (b,c) h
 | [a,r2,d],[t1,t2,e],K=>pf C s a t1 λb=>pf C s r2 t2 λc=>pf C s d e λf=>K (b,c,f) h
 | [a,r2,d,g],[t1,t2,e,i],K=>pf C s a t1 λb=>pf C s r2 t2 λc=>pf C s d e λf=>pf C s g i λj=>K (b,c,f,j) h
 | [a,r2,d,g,k],[t1,t2,e,i,l],K=>pf C s a t1 λb=>pf C s r2 t2 λc=>pf C s d e λf=>pf C s g i λj=>
   pf C s k l λm=>K (b,c,f,j,m) h
 | [a,r2,d,g,k,n,o],[t1,t2,e,i,l,p,q],K=>pf C s a t1 λb=>pf C s r2 t2 λc=>pf C s d e λf=>pf C s g i λj=>
   pf C s k l λm=>pf C s n p λv=>pf C s o q λw=>K (b,c,f,j,m,v,w) h
 | _,_,_=>False
def vy (args:List Value) (i:Nat):Option (LV×bp):=match nth args i with
 | some v=>some (.v v,[])
 | none=>none
def zB (f:Func):Code:=match f.body with
 | some c=>c
 | none=>.refuse ""
def vx (n:Nat):List Nat->Bool
 | []=>true
 | i::r=>cond (Nat.blt i n) (vx n r) false
def Dp (C:Ctx) (f:Func) (A:j3) (args:List Value) (K:(bC C.tb f.resultTypes.toList).T->Hp->Prop) (h:Hp):Prop:=
 cond (cond (Nat.ble args.length f.ntmps) (vx f.ntmps (fc (zB f))) false)
  (liftM C (zB f) .full A C.aY {f:=vy args,m:=λ_=>none} (λe s h=>match e with
   | .gZ | .ret=>wH C s h f.results.toList f.resultTypes.toList K
   | _=>False) h) False
structure Tb.Ok (P:Program) (tb:Tb):Prop where
 cH:∀t e,tb.ty t=some e->P.underlying t=some e.cH
 info:∀t e,tb.ty t=some e->∃i,P.info? t=some i/\i.size=e.size/\i.bytes=e.bytes/\i.zero=some e.zero
 agg:∀t e,tb.ty t=some e->qR e.cH=true->∀x,∃cs,e.sh.enc x=.agg cs/\cs.size=e.size
 leaf:∀t e,tb.ty t=some e->qR e.cH=false->e.size=1/\∀x,(bA (e.sh.enc x)).length=1/\∀cs,e.sh.enc x≠ .agg cs
 BQ:∀t e,tb.ty t=some e->(bA e.zero).length=e.size
 CY:∀t e,tb.ty t=some e->e.cH=.int .u8->bA e.zero=[.int .u8 0]
 SQ:∀t e,tb.ty t=some e->qR e.cH=true->∃cs,e.zero=.agg cs
 call:∀g,tb.call g=true->∀args w,(callFunc g args).run P w=.ok (.enter g args) w
 ext:∀g f,tb.ext g=some f->∀args w,(callFunc g args).run P w=((f args).run P w).andThen λv w'=>.ok (.value v) w'
 mixed:P.follows .mixedOrders=true
theorem BZ :∀ {c d:bp},qA c d=true->c=d
 | [],[],_=>rfl
 | [],_::_,h=>by simp [qA] at h
 | (t,w)::c,[],h=>by simp [qA] at h
 | (t,w)::c,(u,x)::d,h=>by
  simp only [qA] at h;cases a:Nat.beq t u with
  | false=>simp [a] at h
  | true=>
   cases b:NP w x with
   | false=>simp [a,b] at h
   | true=>
    simp only [a,b,cond_true] at h;have e:t=u:=Nat.eq_of_beq_eq_true a;have f:w=x:=by cases w<;>cases x<;>first | rfl | cases b
    rw [e,f,BZ h]
theorem Qj :∀ {c ch:bp},oY c ch=true->∀p∈c,p∈ch
 | c,[],h=>by
  cases c with
  | nil=>intro p hp;cases hp
  | cons a r=>simp [oY] at h
 | c,q::d,h=>by
  cases c with
  | nil=>intro p hp;cases hp
  | cons a r=>
   simp only [oY] at h;cases b:qA (a::r) (q::d) with
   | true=>intro p hp;rw [<-BZ b];exact hp
   | false=>simp only [b,cond_false] at h;intro p hp;exact List.mem_cons_of_mem _ (Qj h p hp)
def hb (s:St) (t:Nat):Option Bool:=match s.f t with
 | some (.v (.bool b),_)=>some b
 | _=>none
def holds (s:St) (ch:bp):Prop:=∀p∈ch,hb s p.1=some p.2
theorem bY (s:St):holds s []:=λ_ h=>by cases h
theorem A0 {s:St} {c ch:bp} (a:oY c ch=true) (h:holds s ch):holds s c:=λp hp=>h p (Qj a p hp)
theorem Qk {s:St} (t:Nat) (w:Bool) (r:bp):∃b,fB s ((t,w)::r)=some b/\(holds s ((t,w)::r)->b=true):=by
 induction r generalizing t w with
 | nil=>
  simp only [fB];split
  ·rename_i b c a;refine ⟨_,rfl,λh=> ?_⟩;have:=h (t,w) (List.mem_cons_self ..);simp only [hb,a] at this;grind
  ·refine ⟨false,rfl,λh=> ?_⟩;have:=h (t,w) (List.mem_cons_self ..);unfold hb at this;split at this
   ·rename_i e _ b c a;exact absurd a (e b c)
   ·cases this
 | cons p r k=>
  obtain ⟨l,m⟩:=p;obtain ⟨f,g,i⟩:=k l m;simp only [fB];split
  ·rename_i b c a;rw [g];refine ⟨_,rfl,λh=> ?_⟩;have d:=h (t,w) (List.mem_cons_self ..);simp only [hb,a] at d;injection d with d
   have n:f=true:=i λq j=>h q (List.mem_cons_of_mem _ j);grind
  ·refine ⟨false,rfl,λh=> ?_⟩;have:=h (t,w) (List.mem_cons_self ..);unfold hb at this;split at this
   ·rename_i e _ b c a;exact absurd a (e b c)
   ·cases this
theorem qv {s:St} {ch:bp} {p:Prop} (h:mD (fB s ch) p) (a:holds s ch):p:=by
 cases ch with
 | nil=>exact h
 | cons q r=>obtain ⟨t,w⟩:=q;obtain ⟨b,hb,c⟩:=Qk (s:=s) t w r;rw [hb] at h;exact h (c a)
def LVal (a:Nat->Nat):LV->Value
 | .v x=>x
 | .box k o=>.pointer (some ⟨a k,o,none⟩)
 | .eH k o=>.pointer (some ⟨a k,o,none⟩)
def fE (β:Nat->Nat) (s:St) (ρ:Operand->Value):Operand->Prop
 | .tmp t=>∀l c,s.f t=some (l,c)->holds s c->ρ (.tmp t)=LVal β l
 | .const v=>ρ (.const v)=v
 | .global g=>ρ (.global g)=.pointer (some ⟨g,0,none⟩)
 | .func f=>ρ (.func f)=.func (.func f) #[] #[]
theorem bX {e:Nat->Nat} {s:St} {h:Operand->Value} {x:Operand} {ch:bp} {l:LV} (b:fE e s h x) (j:holds s ch) (a:ev s ch x=some l):h x=LVal e l:=by
 cases x with
 | tmp t=>
  simp only [ev] at a;split at a
  ·rename_i k c i;cases d:oY c ch with
   | false=>simp [d] at a
   | true=>simp only [d,cond_true] at a;cases a;exact b l c i (A0 d j)
  ·cases a
 | const v=>cases a;exact b
 | global g=>cases a;exact b
 | func f=>cases a;exact b
theorem Xf {l:Option LV} {K:LV->Prop} (h:QF l K):∃x,l=some x/\K x:=by
 cases l with
 | none=>exact h.elim
 | some x=>exact ⟨x,rfl,h⟩
theorem lF {l:Option LV} {K:Value->Prop} (h:ju l K):∃x,l=some (.v x)/\K x:=by
 cases l with
 | none=>exact h.elim
 | some x=>cases x<;>first | exact ⟨_,rfl,h⟩ | exact h.elim
theorem HH {l:Option (List Value)} {K:List Value->Prop} (h:pS l K):∃x,l=some x/\K x:=by
 cases l with
 | none=>exact h.elim
 | some x=>exact ⟨x,rfl,h⟩
def rP (d:Nat->Nat) (s:St) (o:Oper) (w:World):Prop:=
 ∀t,Operand.tmp t∈o.op.operands->∀k off c,(s.f t=some (.box k off,c)\/s.f t=some (.eH k off,c))->holds s c->∀a,s.m k=some a->∃b,w.heap[d k]? =some (.cells a.toArray b (0,0))
theorem vg {s:St} {ch:bp} {x:Operand} {l:LV} (a:ev s ch x=some l) (h:∀v,l≠ .v v) (e:holds s ch):∃t c,x=.tmp t/\s.f t=some (l,c)/\holds s c:=by
 cases x with
 | tmp t=>
  simp only [ev] at a;split at a
  ·rename_i i c d;cases b:oY c ch with
   | false=>simp [b] at a
   | true=>simp only [b,cond_true] at a;cases a;exact ⟨t,c,rfl,d,A0 b e⟩
  ·cases a
 | const v=>cases a;grind
 | global g=>cases a;grind
 | func f=>cases a;grind
theorem rP.box {β:Nat->Nat} {s:St} {o:Oper} {w:World} (hb:rP β s o w) {ch:bp} {x:Operand} {k off:Nat} (i:x∈o.op.operands) (e:ev s ch x=some (.box k off)) (g:holds s ch)
  {a:List Value} (h:s.m k=some a):∃b,w.heap[β k]? =some (.cells a.toArray b (0,0)):=by
 obtain ⟨t,c,rfl,f,d⟩:=vg e (by simp) g;exact hb t i k off c (.inl f) d a h
theorem rP.eH {b:Nat->Nat} {s:St} {o:Oper} {w:World} (hb:rP b s o w) {ch:bp} {x:Operand} {k off:Nat} (j:x∈o.op.operands) (f:ev s ch x=some (.eH k off)) (h:holds s ch)
  {a:List Value} (i:s.m k=some a):∃d,w.heap[b k]? =some (.cells a.toArray d (0,0)):=by
 obtain ⟨t,c,rfl,g,e⟩:=vg f (by simp) h;exact hb t j k off c (.inr g) e a i
def ri (a:Kd) (P:Program) (o:Oper) (s:St) (h:Hp) (l:LV):Prop:=
 ∀(c:Nat->Nat) (d:Operand->Value) (w:World),(∀x∈o.op.operands,fE c s d x)->(a=.mem->Sub h w)->(a≠ .pure->rP c s o w)->
  ∃b,(execOp d o).run P w=.ok (.value (LVal c l)) b/\(a≠ .mem->b=w)/\(a=.mem->Step h h w b)
theorem pe {b:Type _}:∀(l:List b) (i:Nat),nth l i=l[i]?
 | [],_=>by simp [nth]
 | a::l,0=>by simp [nth]
 | a::l,n+1=>by simp [nth,pe l n]
theorem Ql {b:Type _}:∀(l:List b) (i:Nat),rp l i=l.drop i
 | l,0=>by simp [rp]
 | [],n+1=>by simp [rp]
 | a::l,n+1=>by simp [rp,Ql l n]
theorem Qm {b:Type _}:∀(l:List b) (i:Nat),rI l i=l.take i
 | l,0=>by simp [rI]
 | [],n+1=>by simp [rI]
 | a::l,n+1=>by simp [rI,Qm l n]
theorem uf {b:Type _}:∀(l r:List b),app l r=l++r
 | [],r=>rfl
 | a::l,r=>by simp [app,uf l r]
theorem uq :∀(l:List Nat) (i:Nat),has l i=true↔i∈l
 | [],i=>by simp [has]
 | a::l,i=>by
  simp only [has];cases h:Nat.beq i a with
  | true=>simp [Nat.eq_of_beq_eq_true h]
  | false=>
   have:i≠a:=λe=>by rw [e] at h;simp at h
   simp [uq l i,this]
theorem BR {l:List Nat} {i:Nat} (h:has l i=false):i∉l:=λa=>by rw [(uq l i).2 a] at h;cases h
section
variable {P:Program} {tb:Tb}
theorem ay (ok:tb.Ok P) {t:Nat} {e:Ty} (h:tb.ty t=some e) (w:World):(underlying t).run P w=.ok e.cH w:=by simp [underlying,ok.cH t e h]
theorem mN (ok:tb.Ok P) {t:Nat} {e:Ty} (h:tb.ty t=some e) (w:World):
  ∃i,(typeInfo t).run P w=.ok i w/\i.size=e.size/\i.bytes=e.bytes/\i.zero=some e.zero:=by
 obtain ⟨i,d,a,b,c⟩:=ok.info t e h;exact ⟨i,by simp [typeInfo,d],a,b,c⟩
theorem cL (ok:tb.Ok P) {t:Nat} {e:Ty} (h:tb.ty t=some e) (w:World):(Go.sizeOf t).run P w=.ok e.size w:=by obtain ⟨i,b,a,c,d⟩:=mN ok h w;simp only [Go.sizeOf,Sem.run_bind,b,Result.andThen_ok,Sem.run_pure,a]
theorem dd (ok:tb.Ok P) {t:Nat} {e:Ty} (h:tb.ty t=some e) (w:World):(zeroValue t).run P w=.ok e.zero w:=by obtain ⟨i,b,c,d,a⟩:=mN ok h w;simp only [zeroValue,Sem.run_bind,b,Result.andThen_ok,a,Sem.run_pure]
theorem mW (ok:tb.Ok P) {t:Nat} {e:Ty} (h:tb.ty t=some e) (w:World):(isAgg t).run P w=.ok (qR e.cH) w:=by simp only [isAgg,Sem.run_bind,ay ok h,Result.andThen_ok];cases e.cH<;>rfl
theorem qi (v:Value):v.cells.toList=bA v:=by cases v<;>rfl
theorem zwq {w:World} {a:Addr}:∀(n i:Nat) (d:Array Value) (b:List Value),b.length=n->
  (∀j v,b[j]? =some v->w.cell? (a.add (i+j))=some v)->(loadCellsFrom a i n d).run P w=.ok (d++b.toArray) w
 | 0,i,d,b,e,_=>by have:b=[]:=List.length_eq_zero_iff.1 e;subst this;simp [loadCellsFrom]
 | n+1,i,d,[],e,_=>by simp at e
 | n+1,i,d,c::b,e,f=>by
  have g:w.cell? (a.add i)=some c:=by simpa using f 0 c (by simp)
  have k:=zwq n (i+1) (d.push c) b (by simpa using e) (λj v h=>by
   have:=f (j+1) v (by simpa using h)
   rwa [show i+1+j=i+(j+1) from by omega])
  simp only [loadCellsFrom,Sem.run_bind,run_load,g,Result.andThen_ok,k];congr 1;simp
theorem zxt {w:World} {a:Addr} {b:List Value} (c:∀j v,b[j]? =some v->w.cell? (a.add j)=some v):(loadCells a b.length).run P w=.ok b.toArray w:=by unfold loadCells;rw [zwq b.length 0 #[] b rfl (by simpa using c)];simp
theorem RI (ok:tb.Ok P) {t:Nat} {e:Ty} (h:tb.ty t=some e) {w:World} {a:Addr} {x:e.sh.T}
  (d:∀j v,(bA (e.sh.enc x))[j]? =some v->w.cell? (a.add j)=some v):(loadVar t a).run P w=.ok (e.sh.enc x) w:=by
 simp only [loadVar,Sem.run_bind,mW ok h,Result.andThen_ok];cases c:qR e.cH with
 | true=>
  obtain ⟨b,f,o⟩:=ok.agg t e h c x;simp only [if_true,Sem.run_bind,cL ok h,Result.andThen_ok];have m:b.toList.length=e.size:=by simpa using o
  have k:∀j v,b.toList[j]? =some v->w.cell? (a.add j)=some v:=by simpa [f,bA] using d
  rw [<-m,zxt k];simp [f]
 | false=>
  obtain ⟨p,i⟩:=ok.leaf t e h c;have n:=(i x).2;have l:bA (e.sh.enc x)=[e.sh.enc x]:=by generalize e.sh.enc x=v at n;cases v<;>first | rfl | grind
  have:=d 0 (e.sh.enc x) (by simp [l]);have g:a.add 0=a:=by simp [Addr.add]
  rw [g] at this;simp [this]
theorem vV (a:Addr) (i j:Nat):(a.add i).add j=a.add (i+j):=by unfold Addr.add;grind
theorem kE (b o i:Nat):(⟨b,o,none⟩:Addr).add i=⟨b,o+i,none⟩:=by unfold Addr.add;simp
theorem FR {w:World} {b t:Nat} {a:List Value} (hb:w.heap[b]? =some (.cells a.toArray t (0,0))) (i:Nat):w.cell? ⟨b,i,none⟩=a[i]?:=by unfold World.cell?;simp [hb]
end
section
variable {P:Program} {tb:Tb}
def nH (o:Oper) (ch:bp) (s:St) (l:LV):Prop:=
 ∀k off,(l=.box k off\/l=.eH k off)->∃x∈o.op.operands,∃a,ev s ch x=some (.box k a)\/ev s ch x=some (.eH k a)
theorem zC (o:Oper) (ch:bp) (s:St) (v:Value):nH o ch s (.v v):=λ_ _ e=>by grind
theorem GI {o:Oper} {ch:bp} {s:St} {l:LV} {x:Operand} (a:x∈o.op.operands) (b:ev s ch x=some l):nH o ch s l:=λk off e=>
 ⟨x,a,off,by grind⟩
theorem Qn {o:Oper} {ch:bp} {s:St} {l:LV} {x:Operand} {k off:Nat} (c:x∈o.op.operands) (d:ev s ch x=some (.box k off))
  (f:∀a b,(l=.box a b\/l=.eH a b)->a=k):nH o ch s l:=λa b e=>⟨x,c,off,.inl (by grind)⟩
theorem Ur {o:Oper} {ch:bp} {s:St} {l:LV} {x:Operand} {k off:Nat} (c:x∈o.op.operands) (d:ev s ch x=some (.eH k off))
  (f:∀a b,(l=.box a b\/l=.eH a b)->a=k):nH o ch s l:=λa b e=>⟨x,c,off,.inr (by grind)⟩
def fm (P:Program) (tb:Tb) (o:Oper) (ch:bp) (s:St) (h:Hp) (K:LV->Prop):Prop:=
 ∃l,K l/\(holds s ch->ri (dg tb o ch s) P o s h l)/\nH o ch s l
theorem me {o:Oper} {ch:bp} {s:St} {h:Hp} {K:LV->Prop} (l:LV) (b:K l)
  (d:holds s ch->∀(β:Nat->Nat) (ρ:Operand->Value) (w:World),(∀x∈o.op.operands,fE β s ρ x)->
   (execOp ρ o).run P w=.ok (.value (LVal β l)) w)
  (hp:nH o ch s l:=by exact zC _ _ _ _):fm P tb o ch s h K:=
 ⟨l,b,λa β ρ w c f hb=>⟨w,d a β ρ w c,λ_=>rfl,λe=>.refl (f e)⟩,hp⟩
theorem OZ {o:Oper} {ch:bp} {s:St} {h:Hp} {K:LV->Prop} (f:dg tb o ch s=.box) (l:LV) (d:K l)
  (i:holds s ch->∀(a:Nat->Nat) (b:Operand->Value) (w:World),(∀x∈o.op.operands,fE a s b x)->rP a s o w->
   (execOp b o).run P w=.ok (.value (LVal a l)) w)
  (hp:nH o ch s l:=by exact zC _ _ _ _):fm P tb o ch s h K:=
 ⟨l,d,λc a b w g j hb=>⟨w,i c a b w g (hb (by rw [f];simp)),λ_=>rfl,λe=>.refl (j e)⟩,hp⟩
theorem Fm {o:Oper} {ch:bp} {s:St} {h:Hp} {K:LV->Prop} (g:dg tb o ch s=.mem) (l:LV) (f:K l)
  (j:holds s ch->∀(a:Nat->Nat) (b:Operand->Value) (w:World),(∀x∈o.op.operands,fE a s b x)->Sub h w->
   (execOp b o).run P w=.ok (.value (LVal a l)) w)
  (hp:nH o ch s l:=by exact zC _ _ _ _):fm P tb o ch s h K:=
 ⟨l,f,λd a b w i c hb=>⟨w,j d a b w i (c g),λ_=>rfl,λe=>.refl (c e)⟩,hp⟩
theorem Fo {s:Sem Value} {h:Hp} {v:Value} (b:kY P s h v) {w:World} (c:Sub h w):∃a,s.run P w=.ok v a/\Step h h w a:=b w c
theorem u9 {o:Oper} {ch:bp} {s:St} {h:Hp} {K:LV->Prop} {t:Nat} {i:Sem Value} (g:dg tb o ch s=.mem) (b:oV (fB s ch) P tb t i h K)
  (p:holds s ch->∀(d:Nat->Nat) (c:Operand->Value),(∀x∈o.op.operands,fE d s c x)->∀(w a:World) (v:Value),i.run P w=.ok v a->(execOp c o).run P w=.ok (.value v) a):
  fm P tb o ch s h K:=by
 unfold oV at b;split at b
 ·rename_i e r;obtain ⟨x,q,j⟩:=b;refine ⟨_,j,λf d c w k m hb=> ?_,zC _ _ _ _⟩;obtain ⟨a,l,n⟩:=Fo (qv q f) (m g);exact ⟨a,p f d c k w a _ l,λe=>absurd g e,λ_=>n⟩
 ·exact b.elim
theorem Qo {o:Oper} {ch:bp} {s:St} {h:Hp} {K:LV->Prop} {x:Operand} (a:o.op=.move x\/o.op=.assign x) (hv:QF (ev s ch x) K):fm P tb o ch s h K:=by obtain ⟨l,b,d⟩:=Xf hv;refine me l d (λc g i w e=> ?_) (GI (by rcases a with h | h<;>simp [h,Op.operands]) b);have f:i x=LVal g l:=bX (e x (by rcases a with h | h<;>simp [h,Op.operands])) c b;rcases a with h | h<;>simp [execOp,h,f]
theorem LX {t:Nat} {w:World} {a b:Bool} (c:(underlying t).run P w=.ok .bool w):(Op.equal t (.bool a) (.bool b)).run P w=.ok (a==b) w:=by
 have key:∀d,(Op.equalIn (d+1) t (.bool a) (.bool b)).run P w=.ok (a==b) w:=by intro d;unfold Op.equalIn;simp only [Sem.run_bind,c,Result.andThen_ok,Sem.run_pure]
 exact key 9999
theorem Mu {t elem:Nat} {w:World} {p:Option Addr} (a:(underlying t).run P w=.ok (.pointer elem) w):(Op.equal t (.pointer p) (.pointer none)).run P w=.ok p.isNone w:=by
 have key:∀d,(Op.equalIn (d+1) t (.pointer p) (.pointer none)).run P w=.ok p.isNone w:=by intro d;unfold Op.equalIn;simp only [Sem.run_bind,a,Result.andThen_ok];cases p<;>simp only [Sem.run_pure]<;>rfl
 exact key 9999
set_option maxHeartbeats 800000 in
theorem Qp (ok:tb.Ok P) {o:Oper} {ch:bp} {s:St} {h:Hp} {K:LV->Prop} {op:BinOp} {t R:Nat} {x y:Operand} (F:o.op=.binOp op t x y R)
  (hv:ju (ev s ch x) λa=>ju (ev s ch y) λb=>vz (fB s ch) P tb op t x y o.type a b h K):fm P tb o ch s h K:=by
 obtain ⟨a,L,G⟩:=lF hv;clear hv;obtain ⟨b,E,hv⟩:=lF G;clear G;have Q:holds s ch->∀(g:Nat->Nat) (d:Operand->Value),(∀x∈o.op.operands,fE g s d x)->d x=a/\d y=b:=λc g d i=>
  ⟨bX (i x (by simp [F,Op.operands])) c L,bX (i y (by simp [F,Op.operands])) c E⟩
 have C:holds s ch->∀(g:Nat->Nat) (d:Operand->Value),(∀x∈o.op.operands,fE g s d x)->∀(w l:World) (v:Value),(dx op t x y a b).run P w=.ok v l->
   (execOp d o).run P w=.ok (.value v) l:=by
  intro c g d i w l v j;obtain ⟨J,hb⟩:=Q c g d i;simp only [execOp,F,J,hb];change (dx op t x y a b>>=λx=>pure (Next.value x)).run P w=_;rw [Sem.run_bind,j];rfl
 have gen:∀v:Value,K (.v v)->(holds s ch->∀w,(dx op t x y a b).run P w=.ok v w)->fm P tb o ch s h K:=λv A j=>
  me (.v v) A λc g d w i=>C c g d i w w v (j c w)
 unfold vz at hv;split at hv
 · -- numbers
  rename_i k m H n;have f:∀w:World,(eqGuard op t x y (.int k m) (.int H n)).run P w=.ok () w:=λw=>by unfold eqGuard;split<;>rfl
  split at hv
  ·refine gen _ hv.2 λc w=> ?_;have r:=qv hv.1 c;simp only [dx,Sem.run_bind,f,Result.andThen_ok];simp [binOp,Op.shift,qJ,Int.not_lt.2 r]
  ·refine gen _ hv.2 λc w=> ?_;have r:=qv hv.1 c;simp only [dx,Sem.run_bind,f,Result.andThen_ok];simp [binOp,Op.shift,gQ,Int.not_lt.2 r]
  ·cases A:H9 k H with
   | false=>simp [A] at hv
   | true=>
    have N:=NO A;subst N;simp only [A,cond_true] at hv;cases op<;>simp only [H8] at hv<;>
     first
     |exact hv.elim
     |exact gen _ hv λ_ w=>by simp only [dx,Sem.run_bind,f,Result.andThen_ok];simp [binOp,Op.intArith,Op.intCmp,Op.intBits,eK]
     |exact gen _ hv.2 λc w=>by have r:=qv hv.1 c;simp only [dx,Sem.run_bind,f,Result.andThen_ok];simp [binOp,Op.intDiv,r]
 · -- truths
  rename_i m n;split at hv
  ·rename_i e D;have f:∀w:World,(eqGuard op t x y (.bool m) (.bool n)).run P w=.ok () w:=λw=>by unfold eqGuard;split<;>rfl
   have B:=λw=>ay ok D w;split at hv
   ·rename_i u;refine gen _ hv λ_ w=> ?_;simp only [dx,Sem.run_bind,f,Result.andThen_ok,binOp,LX (u▸B w),Sem.run_pure]
   ·rename_i u;refine gen _ hv λ_ w=> ?_;simp only [dx,Sem.run_bind,f,Result.andThen_ok,binOp,LX (u▸B w),Sem.run_pure]
   ·exact hv.elim
  ·exact hv.elim
 · -- texts
  rename_i m n;have f:∀w:World,(eqGuard op t x y (.string m) (.string n)).run P w=.ok () w:=λw=>by unfold eqGuard;split<;>rfl
  split at hv
  ·exact gen _ hv λ_ w=>by simp only [dx,Sem.run_bind,f,Result.andThen_ok];simp [binOp,Op.stringOp]
  ·exact gen _ hv λ_ w=>by simp only [dx,Sem.run_bind,f,Result.andThen_ok];simp [binOp,Op.stringOp]
  ·refine gen _ hv.2 λc w=> ?_;have r:=qv hv.1 c;simp only [dx,Sem.run_bind,f,Result.andThen_ok];have I:¬(((m.size+n.size:Nat):Int)>IntKind.i64.max):=by
    have:IntKind.i64.max=9223372036854775807:=by decide
    rw [this];omega
   simp only [binOp,Op.stringOp,if_neg I,Sem.run_pure]
  ·exact u9 (by simp_all [dg]) hv λc g d i w l v j=>C c g d i w l v j
 · -- pointers
  rename_i p q;cases z:u6 y with
  | false=>simp only [z,cond_false] at hv;exact u9 (by simp_all [dg]) hv λc g d i w l v j=>C c g d i w l v j
  | true=>
   simp only [z,cond_true] at hv;split at hv
   ·rename_i e D;split at hv
    ·rename_i elem u;have O:q=none:=by
      cases y with
      | const v=>
       simp only [ev] at E;cases E;cases q with
       | none=>rfl
       | some _=>simp [u6] at z
      | tmp _=>simp [u6] at z
      | global _=>simp [u6] at z
      | func _=>simp [u6] at z
     subst O;have f:∀w:World,(eqGuard op t x y (.pointer p) (.pointer none)).run P w=.ok () w:=λw=>by unfold eqGuard;split<;>rfl
     have B:=λw=>ay ok D w;unfold AH at hv;split at hv
     ·refine gen _ hv λ_ w=> ?_;simp only [dx,Sem.run_bind,f,Result.andThen_ok,binOp,Mu (u▸B w),Sem.run_pure]
     ·refine gen _ hv λ_ w=> ?_;simp only [dx,Sem.run_bind,f,Result.andThen_ok,binOp,Mu (u▸B w),Sem.run_pure]
     ·exact hv.elim
    ·exact hv.elim
   ·exact hv.elim
 ·rename_i S T U V;have M:dg tb o ch s=.mem:=by unfold dg;grind
  exact u9 M hv λc g d i w l v j=>C c g d i w l v j
theorem Nb {t:Nat} {w:World} {ms} {a:Value} (b:rB a=true) (c:(underlying t).run P w=.ok (.interface ms) w):(Op.equal t a .nilIface).run P w=.ok (Qb a) w:=by
 have key:∀d,(Op.equalIn (d+1) t a .nilIface).run P w=.ok (Qb a) w:=by intro d;unfold Op.equalIn;simp only [Sem.run_bind,c,Result.andThen_ok];cases a<;>first | rfl | cases b
 exact key 9999
theorem GJ {a:Value} (b:rB a=true):a=.nilIface\/∃t v,a=.iface t v:=by cases a<;>first | exact .inl rfl | exact .inr ⟨_,_,rfl⟩ | cases b
theorem ZY (ok:tb.Ok P) {o:Oper} {ch:bp} {s:St} {h:Hp} {K:LV->Prop} {op:BinOp} {t I:Nat} {x y:Operand} (j:o.op=.binOp op t x y I)
  (hv:ju (ev s ch x) λa=>ju (ev s ch y) λb=>xW (fB s ch) P tb op t x y o.type a b h K):fm P tb o ch s h K:=by
 cases k:GG y with
 | false=>refine Qp ok j ?_;simpa only [xW,k,cond_false] using hv
 | true=>
  cases g:yf tb t with
  | false=>refine Qp ok j ?_;simpa only [xW,k,g,cond_false,cond_true] using hv
  | true=>
   obtain ⟨a,E,A⟩:=lF hv;clear hv;obtain ⟨b,p,hv⟩:=lF A;clear A;simp only [xW,k,g,cond_true] at hv;obtain ⟨u,hv⟩:=hv;have H:y=.const .nilIface:=by unfold GG at k;grind
   subst H;have hb:b=.nilIface:=by simp only [ev] at p;grind
   subst hb;have F:holds s ch->∀(l:Nat->Nat) (i:Operand->Value),(∀x∈o.op.operands,fE l s i x)->∀(w n:World) (v:Value),(dx op t x (.const .nilIface) a .nilIface).run P w=.ok v n->
     (execOp i o).run P w=.ok (.value v) n:=by
    intro d l i f w n v m;have c:i x=a:=bX (f x (by simp [j,Op.operands])) d E;have hb:i (.const .nilIface)=.nilIface:=bX (f (.const .nilIface) (by simp [j,Op.operands])) d p;simp only [execOp,j,c,hb];change (dx op t x (.const .nilIface) a .nilIface>>=λx=>pure (Next.value x)).run P w=_;rw [Sem.run_bind,m];rfl
   have gen:∀v:Value,K (.v v)->(holds s ch->∀w,(dx op t x (.const .nilIface) a .nilIface).run P w=.ok v w)->fm P tb o ch s h K:=λv G m=>
    me (.v v) G λd l i w f=>F d l i f w w v (m d w)
   unfold yf at g;split at g
   ·rename_i e D;split at g
    ·rename_i J q;have z:=λw=>ay ok D w;have r:rB a=true->∀w:World,(eqGuard op t x (.const .nilIface) a .nilIface).run P w=.ok () w:=λc w=>by unfold eqGuard;rcases GJ c with rfl | ⟨_,_,rfl⟩<;>cases op<;>first | rfl | (cases x<;>rfl)
     have C:rB a=true->op=.eql->∀w:World,(binOp op t a .nilIface).run P w=.ok (.bool (Qb a)) w:=λc f w=>by subst f;rcases GJ c with rfl | ⟨_,_,rfl⟩<;>simp only [binOp,Sem.run_bind,Nb (P:=P) c (q▸z w),Result.andThen_ok,Sem.run_pure]
     have B:rB a=true->op=.neq->∀w:World,(binOp op t a .nilIface).run P w=.ok (.bool (!Qb a)) w:=λc f w=>by subst f;rcases GJ c with rfl | ⟨_,_,rfl⟩<;>simp only [binOp,Sem.run_bind,Nb (P:=P) c (q▸z w),Result.andThen_ok,Sem.run_pure]
     unfold AH at hv;split at hv
     ·refine gen _ hv λd w=> ?_;have c:=qv u d;simp only [dx,Sem.run_bind,r c,Result.andThen_ok,C c rfl]
     ·refine gen _ hv λd w=> ?_;have c:=qv u d;simp only [dx,Sem.run_bind,r c,Result.andThen_ok,B c rfl]
     ·exact hv.elim
    ·cases g
   ·cases g
end
section
variable {P:Program} {tb:Tb} {o:Oper} {ch:bp} {s:St} {h:Hp} {K:LV->Prop}
theorem Cl {β:Nat->Nat} {ρ:Operand->Value} (b:holds s ch):∀ {l:List Operand} {a:List Value},fk s ch l=some a->(∀x∈l,fE β s ρ x)->l.map ρ=a
 | [],a,h,_=>by cases h;rfl
 | x::l,a,h,c=>by
  simp only [fk] at h;split at h
  ·rename_i v r hv d;cases h;simp only [List.map_cons];rw [bX (c x (List.mem_cons_self ..)) b hv,Cl b d λy e=>c y (List.mem_cons_of_mem _ e)];rfl
  ·cases h
theorem FT {β:Nat->Nat} {ρ:Operand->Value} (b:holds s ch):∀ {l:List (Nat×Operand)} {a:List (Nat×Value)},nv s ch l=some a->(∀x∈l.map (·.2),fE β s ρ x)->
  l.map (λp=>(p.1,ρ p.2))=a
 | [],a,h,_=>by cases h;rfl
 | (i,x)::l,a,h,c=>by
  simp only [nv] at h;split at h
  ·rename_i v r hv d;cases h;simp only [List.map_cons];rw [bX (c x (by simp)) b hv,FT b d λy e=>c y (by grind)];rfl
  ·cases h
theorem O0 {e:Nat->Nat} {i:Operand->Value} {x:Operand} {t:Nat} {w:Bool} {l:LV} (d:fE e s i x) (m:holds s ch) (j:hb s t=some w)
  (a:Cr s ch t w x=some l):i x=LVal e l:=by
 cases x with
 | tmp u=>
  simp only [Cr] at a;split at a
  ·rename_i n c k;cases b:oY c ((t,w)::ch) with
   | false=>simp [b] at a
   | true=>
    simp only [b,cond_true] at a;cases a;refine d l c k (A0 b λp hp=> ?_);rcases List.mem_cons.1 hp with rfl | hp
    ·exact j
    ·exact m p hp
  ·cases a
 | const v=>cases a;exact d
 | global g=>cases a
 | func f=>cases a
theorem Xh {x a b:Operand} (f:o.op=.pick x a b) (hv:yn s ch x a b K):fm P tb o ch s h K:=by
 unfold yn at hv;split at hv
 ·rename_i t;split at hv
  ·rename_i p y r;cases m:oY y ch with
   | false=>simp [m] at hv
   | true=>
    simp only [m,cond_true] at hv;have n:hb s t=some p:=by simp [hb,r]
    have i:holds s ch->∀(g:Nat->Nat) (c:Operand->Value),(∀x∈o.op.operands,fE g s c x)->c (.tmp t)=.bool p:=λe g c d=>
     d (.tmp t) (by simp [f,Op.operands]) _ _ r (A0 m e)
    have run:∀(c:Operand->Value) (w:World),c (.tmp t)=.bool p->(execOp c o).run P w=.ok (.value (if p=true then c a else c b)) w:=by intro c w hp;simp only [execOp,f,hp,asBool,Sem.run_bind,Sem.run_pure,Result.andThen_ok]
    split at hv
    ·rename_i u;obtain ⟨v,l,hv⟩:=lF hv;split at hv
     ·rename_i q;refine me (.v (.bool (p&&q))) (hv _ rfl) λe g c w d=> ?_;rw [run c w (i e g c d)];cases hp:p with
      | true=>have:=O0 (d (.tmp u) (by simp [f,Op.operands])) e (hp▸n) l;simp [this,LVal]
      | false=>have:c (.const (.bool false))=.bool false:=d (.const (.bool false)) (by simp [f,Op.operands]);simp [this,LVal]
     ·exact hv.elim
    ·rename_i u;obtain ⟨v,l,hv⟩:=lF hv;split at hv
     ·rename_i q;refine me (.v (.bool (p || q))) (hv _ rfl) λe g c w d=> ?_;rw [run c w (i e g c d)];cases hp:p with
      | false=>have:=O0 (d (.tmp u) (by simp [f,Op.operands])) e (hp▸n) l;simp [this,LVal]
      | true=>have:c (.const (.bool true))=.bool true:=d (.const (.bool true)) (by simp [f,Op.operands]);simp [this,LVal]
     ·exact hv.elim
    ·refine me _ hv λe g c w d=> ?_;rw [run c w (i e g c d)];have j:c (.const (.bool true))=.bool true:=d (.const (.bool true)) (by simp [f,Op.operands]);have k:c (.const (.bool false))=.bool false:=d (.const (.bool false)) (by simp [f,Op.operands]);cases p<;>simp [j,k,LVal]
    ·rename_i u v _;refine me _ hv λe g c w d=> ?_;rw [run c w (i e g c d)];have j:c (.const (.bool u))=.bool u:=d (.const (.bool u)) (by simp [f,Op.operands]);have k:c (.const (.bool v))=.bool v:=d (.const (.bool v)) (by simp [f,Op.operands]);cases p<;>simp [j,k,LVal]
    ·exact hv.elim
  ·exact hv.elim
 ·exact hv.elim
theorem adq {x:Operand} {i:Nat} (c:o.op=.extract x i) (hv:ju (ev s ch x) λv=>match v with
  | .tuple b=>match nth b.toList i with
   | some y=>K (.v y)
   | none=>False
  | _=>False):fm P tb o ch s h K:=by
 obtain ⟨v,e,a⟩:=lF hv;clear hv;split at a
 ·rename_i b;split at a
  ·rename_i y d;refine me (.v y) a λf k l w g=> ?_;have j:=bX (g x (by simp [c,Op.operands])) f e;have:b[i]? =some y:=by rw [pe] at d;simpa using d
   simp only [execOp,c,j,LVal,Instr.extract,this,Sem.run_bind,Sem.run_pure,Result.andThen_ok]
  ·exact a.elim
 ·exact a.elim
theorem abX {op:UnOp} {t:Nat} {x:Operand} (c:o.op=.unOp op t x) (hv:ju (ev s ch x) λa=>SP op a K):fm P tb o ch s h K:=by
 obtain ⟨v,d,b⟩:=lF hv;clear hv;unfold SP at b;split at b<;>
  first
  |exact b.elim
  |refine me _ b λe i j w f=> ?_
   have g:=bX (f x (by simp [c,Op.operands])) e d;simp [execOp,c,g,LVal,Op.unary,Op.intArith,Op.intBits,eK]
theorem Z0 {x:Operand} (b:o.op=.nilCheck x) (hv:match ev s ch x with
  | some (.v (.pointer p))=>ah (fB s ch) p λa=>K (.v (.pointer (some a)))
  | some (.box k off)=>K (.box k off)
  | some (.eH k off)=>K (.eH k off)
  | _=>False):fm P tb o ch s h K:=by
 split at hv
 ·rename_i p c;obtain ⟨a,l,j⟩:=hv;refine me _ j λd g i w e=> ?_;have f:=bX (e x (by simp [b,Op.operands])) d c;have hp:=qv l d;subst hp;simp [execOp,b,f,LVal]
 ·rename_i k off c;refine me _ hv (λd g i w e=> ?_) (GI (by simp [b,Op.operands]) c);have f:=bX (e x (by simp [b,Op.operands])) d c;simp [execOp,b,f,LVal]
 ·rename_i k off c;refine me _ hv (λd g i w e=> ?_) (GI (by simp [b,Op.operands]) c);have f:=bX (e x (by simp [b,Op.operands])) d c;simp [execOp,b,f,LVal]
 ·exact hv.elim
theorem NR {t:Nat} {a:List Value} {off:Nat} (hv:jY tb t a off K):
  ∃e v,tb.ty t=some e/\K (.v v)/\((qR e.cH=true/\v=.agg ((a.drop off).take e.size).toArray/\off+e.size<=a.length)\/(qR e.cH=false/\a[off]? =some v)):=by
 unfold jY at hv;split at hv
 ·rename_i e d;cases b:qR e.cH with
  | true=>
   simp only [b,cond_true,Ql,Qm] at hv;cases c:Nat.ble (off+e.size) a.length with
   | false=>simp [c] at hv
   | true=>simp only [c,cond_true] at hv;exact ⟨e,_,d,hv,.inl ⟨b,rfl,Nat.le_of_ble_eq_true c⟩⟩
  | false=>simp only [b,cond_false,pe] at hv;grind
 ·exact hv.elim
theorem Nv (ok:tb.Ok P) {t:Nat} {a:List Value} {off b f:Nat} {e:Ty} {v:Value} {w:World} (d:tb.ty t=some e)
  (hv:(qR e.cH=true/\v=.agg ((a.drop off).take e.size).toArray/\off+e.size<=a.length)\/(qR e.cH=false/\a[off]? =some v))
  (hb:w.heap[b]? =some (.cells a.toArray f (0,0))):(loadVar t ⟨b,off,none⟩).run P w=.ok v w:=by
 simp only [loadVar,Sem.run_bind,mW ok d,Result.andThen_ok];rcases hv with ⟨c,hv,l⟩ | ⟨c,hv⟩
 ·have i:((a.drop off).take e.size).length=e.size:=by simp;omega
  have g:∀j v,((a.drop off).take e.size)[j]? =some v->w.cell? ((⟨b,off,none⟩:Addr).add j)=some v:=by intro j v k;rw [kE,FR hb];grind
  rw [c];simp only [if_true,Sem.run_bind,cL ok d,Result.andThen_ok]
  conv=>lhs;rw [<-i]
  rw [zxt g];simp [hv]
 ·have:=FR hb off;rw [hv] at this;simp [c,this]
theorem Xj (ok:tb.Ok P) {t:Nat} {x:Operand} (d:o.op=.load t x) (hv:match ev s ch x with
  | some (.v (.pointer (some a)))=>match tb.ty t with
   | some e=>aN (fB s ch) e.sh h a λx=>K (.v (e.sh.enc x))
   | none=>False
  | some (.box k off)=>match s.m k with
   | some i=>jY tb t i off K
   | none=>False
  | some (.eH k off)=>match s.m k,tb.ty t with
   | some i,some e=>cond (qR e.cH) False (∃x,mD (fB s ch) (i[off]? =some (e.sh.enc x))/\K (.v (e.sh.enc x)))
   | _,_=>False
  | _=>False):fm P tb o ch s h K:=by
 have run:∀(f:Operand->Value) (w:World) (a:Addr) (v:Value),f x=.pointer (some a)->(loadVar t a).run P w=.ok v w->(execOp f o).run P w=.ok (.value v) w:=by intro f w a v g p;simp only [execOp,d,g,Instr.loadAt,Instr.sureAddr,Sem.run_bind,Sem.run_pure,Result.andThen_ok,p]
 split at hv
 ·rename_i a b;split at hv
  ·rename_i e q;obtain ⟨y,p,l⟩:=hv;refine Fm (by simp [dg,d,b]) _ l λc A f w n E=> ?_;have g:=bX (n x (by simp [d,Op.operands])) c b;exact run f w a _ g (RI ok q λj v D=>zj E (qv p c j v D))
  ·exact hv.elim
 ·rename_i k off b;split at hv
  ·rename_i i z;obtain ⟨e,v,q,l,C⟩:=NR hv;refine OZ (by simp [dg,d,b]) _ l λc A f w n hb=> ?_;have g:=bX (n x (by simp [d,Op.operands])) c b;obtain ⟨B,u⟩:=hb.box (by simp [d,Op.operands]) b c z;exact run f w _ _ g (Nv ok q C u)
  ·exact hv.elim
 ·rename_i k off b;split at hv
  ·rename_i i e z q;cases r:qR e.cH with
   | true=>simp [r] at hv
   | false=>simp only [r,cond_false] at hv;obtain ⟨y,p,l⟩:=hv;refine OZ (by simp [dg,d,b]) _ l λc A f w n hb=> ?_;have g:=bX (n x (by simp [d,Op.operands])) c b;obtain ⟨B,u⟩:=hb.eH (by simp [d,Op.operands]) b c z;exact run f w _ _ g (Nv ok q (.inr ⟨r,qv p c⟩) u)
  ·exact hv.elim
 ·exact hv.elim
theorem acL {t i:Nat} {Q:Nat->Nat->Prop} (hv:BX tb t i Q):
  ∃e a f g,tb.ty t=some e/\e.cH=.struct a/\a[i]? =some f/\tb.ty f.type=some g/\g.size≠0/\Q f.offset g.size:=by
 unfold BX at hv;split at hv
 ·rename_i e c;split at hv
  ·rename_i a d;split at hv
   ·rename_i f b;split at hv
    ·rename_i g j;split at hv
     ·exact hv.elim
     ·rename_i n k;refine ⟨e,a,f,g,c,d,by rw [pe] at b;simpa using b,j,by omega,k▸hv⟩
    ·exact hv.elim
   ·exact hv.elim
  ·exact hv.elim
 ·exact hv.elim
theorem aaG (ok:tb.Ok P) {t i:Nat} {x:Operand} (d:o.op=.fieldAddr t x i) (hv:BX tb t i λoff _=>match ev s ch x with
  | some (.v (.pointer (some a)))=>K (.v (.pointer (some (a.add off))))
  | some (.box k o)=>K (.box k (o+off))
  | some (.eH k o)=>K (.eH k (o+off))
  | _=>False):fm P tb o ch s h K:=by
 obtain ⟨e,D,f,g,q,u,r,y,B,m⟩:=acL hv;have run:∀(b:Operand->Value) (w:World) (a:Addr),b x=.pointer (some a)->(execOp b o).run P w=.ok (.value (.pointer (some (a.add f.offset)))) w:=by intro b w a A;have n:=ay ok q w;rw [u] at n;have z:=cL ok y w;simp only [execOp,d,A,Instr.fieldAt,Instr.sureAddr,Sem.run_bind,n,Result.andThen_ok,r,Sem.run_pure,fieldPlace,z,if_neg B]
 split at m
 ·rename_i a c;refine me _ m λj p b w l=> ?_;exact run b w a (bX (l x (by simp [d,Op.operands])) j c)
 ·rename_i k C c;refine me _ m (λj p b w l=> ?_) (Qn (by simp [d,Op.operands]) c (by simp));rw [run b w _ (bX (l x (by simp [d,Op.operands])) j c),kE];rfl
 ·rename_i k C c;refine me _ m (λj p b w l=> ?_) (Ur (by simp [d,Op.operands]) c (by simp));rw [run b w _ (bX (l x (by simp [d,Op.operands])) j c),kE];rfl
 ·exact m.elim
theorem Qq (ok:tb.Ok P) {t:Nat} {cs:List Value} {off:Nat} {e:Ty} {v:Value} {w:World} (b:tb.ty t=some e)
  (hv:(qR e.cH=true/\v=.agg ((cs.drop off).take e.size).toArray/\off+e.size<=cs.length)\/(qR e.cH=false/\cs[off]? =some v)):
  (part t cs.toArray off).run P w=.ok v w:=by
 simp only [part,Sem.run_bind,mW ok b,Result.andThen_ok];rcases hv with ⟨a,hv,_⟩ | ⟨a,hv⟩
 ·simp only [a,if_true,Sem.run_bind,cL ok b,Result.andThen_ok,Sem.run_pure,hv];simp
 ·simp [a,hv]
theorem Ut (ok:tb.Ok P) {t i:Nat} {x:Operand} (j:o.op=.field t x i) (hv:match tb.ty t with
  | some e=>match e.cH with
   | .struct a=>match nth a.toList i with
    | some f=>ju (ev s ch x) λv=>match v with
     | .agg c=>jY tb f.type c.toList f.offset K
     | _=>False
    | none=>False
   | _=>False
  | none=>False):fm P tb o ch s h K:=by
 split at hv
 ·rename_i e m;split at hv
  ·rename_i a q;split at hv
   ·rename_i f d;obtain ⟨v,n,b⟩:=lF hv;clear hv;split at b
    ·rename_i c;obtain ⟨g,y,r,z,l⟩:=NR b;refine me _ z λu C D w A=> ?_;have B:=bX (A x (by simp [j,Op.operands])) u n;have k:=ay ok m w;rw [q] at k;have p:a[i]? =some f:=by rw [pe] at d;simpa using d
     have hp:=Qq (w:=w) ok r l;simp only [Array.toArray_toList] at hp;simp only [execOp,j,B,LVal,Instr.field,Sem.run_bind,k,Result.andThen_ok,p,asAgg,Sem.run_pure,hp]
    ·exact b.elim
   ·exact hv.elim
  ·exact hv.elim
 ·exact hv.elim
end
section
variable {P:Program} {tb:Tb} {o:Oper} {ch:bp} {s:St} {h:Hp} {K:LV->Prop}
theorem yY {t:Nat} {g:Ty} (h:ib tb t=some g):∃e u,tb.ty t=some e/\e.cH=.slice u/\tb.ty u=some g:=by unfold ib at h;grind
theorem EB {t n:Nat} {g:Ty} (h:nj tb t=some (n,g)):∃e u,tb.ty t=some e/\e.cH=.array n u/\tb.ty u=some g:=by unfold nj at h;grind
theorem aaI (ok:tb.Ok P) {t:Nat} {x i:Operand} (d:o.op=.indexAddr t x i) (hv:match ev s ch x,ev s ch i with
  | some (.v (.slice base len _)),some (.v (.int _ n))=>match ib tb t with
   | some e=>mD (fB s ch) (bI base len n)/\K (.v (.pointer (some (sat base e.size n))))
   | none=>False
  | some (.v (.pointer (some a))),some (.v (.int _ n))=>match nj tb t with
   | some (len,e)=>mD (fB s ch) (0<=n/\n<(len:Int))/\K (.v (.pointer (some (a.add (n.toNat*e.size)))))
   | none=>False
  | some (.box k off),some (.v (.int _ n))=>match nj tb t with
   | some (len,e)=>mD (fB s ch) (0<=n/\n<(len:Int))/\cond (Fl i) (K (.box k (off+n.toNat*e.size))) (K (.eH k (off+n.toNat*e.size)))
   | none=>False
  | _,_=>False):fm P tb o ch s h K:=by
 have L:∀(f:Operand->Value) (w:World) (a:Addr) (k:IntKind) (n:Int) (len:Nat) (e:Ty),nj tb t=some (len,e)->f x=.pointer (some a)->f i=.int k n->0<=n/\n<(len:Int)->
   (execOp f o).run P w=.ok (.value (.pointer (some (a.add (n.toNat*e.size))))) w:=by
  intro f w a k n len e j F C hb;obtain ⟨y,u,G,E,B⟩:=EB j;have r:=ay ok G w;have D:=cL ok B w;rw [E] at r;simp only [execOp,d,F,C,Instr.indexAt,asIntOf,Instr.sureAddr,Sem.run_bind,Sem.run_pure,Result.andThen_ok,r,if_pos hb,D]
 split at hv
 ·rename_i base len c k n m q;split at hv
  ·rename_i e j;obtain ⟨y,u,G,E,B⟩:=yY j;refine me _ hv.2 λb z f w g=> ?_;have F:=bX (g x (by simp [d,Op.operands])) b m;have C:=bX (g i (by simp [d,Op.operands])) b q;obtain ⟨O,M,N⟩:=qv hv.1 b;obtain ⟨a,rfl⟩:∃a,base=some a:=Option.ne_none_iff_exists'.1 O;have r:=ay ok G w;have D:=cL ok B w;rw [E] at r;simp only [execOp,d,F,C,LVal,Instr.indexAt,asIntOf,Sem.run_bind,Sem.run_pure,Result.andThen_ok,r,if_pos (And.intro M N),D,sat,Option.getD_some]
  ·exact hv.elim
 ·rename_i a k n m q;split at hv
  ·rename_i len e j;refine me _ hv.2 λb z f w g=> ?_;exact L f w a k n len e j (bX (g x (by simp [d,Op.operands])) b m) (bX (g i (by simp [d,Op.operands])) b q) (qv hv.1 b)
  ·exact hv.elim
 ·rename_i p off k n m q;split at hv
  ·rename_i len e j;have J:∀l:LV,(∀z,LVal z l=.pointer (some ⟨z p,off+n.toNat*e.size,none⟩))->(∀H A,(l=.box H A\/l=.eH H A)->H=p)->K l->fm P tb o ch s h K:=λl R hb Q=>
    me l Q (λb z f w g=>by
     rw [L f w _ k n len e j (bX (g x (by simp [d,Op.operands])) b m) (bX (g i (by simp [d,Op.operands])) b q) (qv hv.1 b),kE,R]) (Qn (by simp [d,Op.operands]) m hb)
   cases I:Fl i with
   | true=>exact J (.box p (off+n.toNat*e.size)) (λ_=>rfl) (by intro p A e;rcases e with e | e<;>cases e<;>rfl) (by simpa [I] using hv.2)
   | false=>exact J (.eH p (off+n.toNat*e.size)) (λ_=>rfl) (by intro p A e;rcases e with e | e<;>cases e<;>rfl) (by simpa [I] using hv.2)
  ·exact hv.elim
 ·exact hv.elim
theorem Uu (ok:tb.Ok P) {t:Nat} {x i:Operand} (c:o.op=.index t x i) (hv:match ev s ch x,ev s ch i with
  | some (.v (.string b)),some (.v (.int _ n))=>match tb.ty t with
   | some y=>match y.cH with
    | .string=>mD (fB s ch) (0<=n/\n<(b.size:Int))/\K (.v (.int .u8 ((b.data.toList.getD n.toNat 0).toNat:Int)))
    | _=>False
   | none=>False
  | some (.v (.agg cs)),some (.v (.int _ n))=>Dq (fB s ch) tb t cs.toList n K
  | _,_=>False):fm P tb o ch s h K:=by
 split at hv
 ·rename_i b k n j g;split at hv
  ·rename_i y q;split at hv
   ·rename_i m;refine me _ hv.2 λa I J w d=> ?_;have p:=bX (d x (by simp [c,Op.operands])) a j;have l:=bX (d i (by simp [c,Op.operands])) a g;obtain ⟨C,L⟩:=qv hv.1 a;have f:=ay ok q w;rw [m] at f;have B:n.toNat<b.size:=by omega
    have E:b[n.toNat]? =some (b.data.toList.getD n.toNat 0):=by
     rw [getElem?_pos b n.toNat B];congr 1;have:n.toNat<b.data.toList.length:=by simpa using B
     rw [List.getD_eq_getElem?_getD,List.getElem?_eq_getElem this];rfl
    simp only [execOp,c,p,l,LVal,Instr.index,asIntOf,Sem.run_bind,Sem.run_pure,Result.andThen_ok,f,if_pos C,E]
   ·exact hv.elim
  ·exact hv.elim
 ·rename_i cs k n j g;unfold Dq at hv;split at hv
  ·rename_i len e D;obtain ⟨y,u,q,m,A⟩:=EB D;cases r:qR e.cH with
   | true=>grind
   | false=>simp only [r,cond_false] at hv;obtain ⟨hb,z,H,F⟩:=hv;refine me _ F λa I J w d=> ?_;have p:=bX (d x (by simp [c,Op.operands])) a j;have l:=bX (d i (by simp [c,Op.operands])) a g;have f:=ay ok q w;have G:=cL ok A w;have hp:=Qq ok (w:=w) (cs:=cs.toList) A (.inr ⟨r,qv H a⟩);rw [m] at f;simp only [Array.toArray_toList] at hp;simp only [execOp,c,p,l,LVal,Instr.index,asIntOf,Sem.run_bind,Sem.run_pure,Result.andThen_ok,f,if_pos (qv hb a),G,hp]
  ·exact hv.elim
 ·exact hv.elim
theorem Xk {f:Nat->Nat} {b:Operand->Value} (c:holds s ch) {x:Option Operand} {r:Option Int} (a:qG s ch x=some r) (d:∀y,x=some y->fE f s b y):
  (x=none/\r=none)\/∃y k n,x=some y/\b y=.int k n/\r=some n:=by
 cases x with
 | none=>cases a;simp
 | some y=>
  simp only [qG] at a;split at a
  ·rename_i k n e;cases a;exact .inr ⟨y,k,n,rfl,bX (d y rfl) c e,rfl⟩
  ·cases a
theorem BS {k:IntKind} {n:Int} {m:Nat} {c:BoundsCode} {w:World} (a:0<=n) (b:n<=(m:Int)):(Instr.sliceBound (.int k n) m c).run P w=.ok n.toNat w:=by simp only [Instr.sliceBound,asIntOf,Sem.run_bind,Sem.run_pure,Result.andThen_ok,if_pos (And.intro a b)]
theorem GK {c:Option Bool} {v:Bool} {len cap:Nat} {r q t:Option Int} {Q:Nat->Nat->Nat->Prop} (hv:Iv c v len cap r q t Q):
  ∃l x m,Q l x m/\((c=none\/(c=some true))->∀(g f i:Option Value),(r=none/\g=none\/∃k n,r=some n/\g=some (.int k n))->
   (q=none/\f=none\/∃k n,q=some n/\f=some (.int k n))->(t=none/\i=none\/∃k n,t=some n/\i=some (.int k n))->
   ∀w:World,(Instr.sliceBounds v len cap g f i).run P w=.ok (l,x,m) w):=by
 have j:∀ {p:Prop},mD c p->(c=none\/c=some true)->p:=by
  intro p u hc;rcases hc with hc | hc<;>subst hc
  ·exact u
  ·exact u rfl
 unfold Iv at hv;split at hv
 ·refine ⟨_,_,_,hv,λhc g f i a b d w=> ?_⟩;simp at a b d;subst a;subst b;subst d;simp [Instr.sliceBounds]
 ·rename_i l;refine ⟨_,_,_,hv.2,λhc g f i a b d w=> ?_⟩;obtain ⟨a0,a1⟩:=j hv.1 hc;simp at a b d;subst b;subst d;obtain ⟨k,rfl⟩:=a;simp [Instr.sliceBounds,BS a0 a1]
 ·rename_i x;refine ⟨_,_,_,hv.2,λhc g f i a b d w=> ?_⟩;obtain ⟨a0,a1⟩:=j hv.1 hc;simp at a b d;subst a;subst d;obtain ⟨k,rfl⟩:=b;simp [Instr.sliceBounds,BS a0 a1]
 ·rename_i l x;refine ⟨_,_,_,hv.2,λhc g f i a b d w=> ?_⟩;obtain ⟨a0,a1,a2⟩:=j hv.1 hc;simp at a b d;subst d;obtain ⟨k,rfl⟩:=a;obtain ⟨y,rfl⟩:=b;have e:(x.toNat:Int)=x:=Int.toNat_of_nonneg (by omega);simp [Instr.sliceBounds,BS (Int.le_trans a0 a1) a2,BS (n:=l) (m:=x.toNat) a0 (by omega)]
 ·rename_i x m;refine ⟨_,_,_,hv.2,λhc g f i a b d w=> ?_⟩;obtain ⟨a0,a1,a2⟩:=j hv.1 hc;simp at a b d;subst a;obtain ⟨k,rfl⟩:=b;obtain ⟨y,rfl⟩:=d;simp [Instr.sliceBounds,BS (n:=m) (Int.le_trans a0 a1) a2,BS (n:=x) (m:=m.toNat) a0 (by omega)]
 ·rename_i l x m;refine ⟨_,_,_,hv.2,λhc g f i a b d w=> ?_⟩;obtain ⟨a0,a1,a2,a3⟩:=j hv.1 hc;simp at a b d;obtain ⟨k,rfl⟩:=a;obtain ⟨y,rfl⟩:=b;obtain ⟨z,rfl⟩:=d;simp [Instr.sliceBounds,BS (n:=m) (by omega) a3,BS (n:=x) (m:=m.toNat) (by omega) (by omega),BS (n:=l) (m:=x.toNat) a0 (by omega)]
 ·simp at hv
end
section
variable {P:Program} {tb:Tb} {o:Oper} {ch:bp} {s:St} {h:Hp} {K:LV->Prop}
theorem Fp (a:holds s ch):fB s ch=none\/fB s ch=some true:=by
 cases ch with
 | nil=>exact .inl rfl
 | cons q r=>obtain ⟨t,w⟩:=q;obtain ⟨b,hb,c⟩:=Qk (s:=s) t w r;grind
theorem Uv (ok:tb.Ok P) {t:Nat} {x:Operand} {I H A:Option Operand} (j:o.op=.slice t x I H A) (hv:ju (ev s ch x) λv=>match qG s ch I,qG s ch H,qG s ch A with
  | some I,some H,some A=>D6 (fB s ch) tb t v I H A K
  | _,_,_=>False):fm P tb o ch s h K:=by
 obtain ⟨v,L,f⟩:=lF hv;clear hv;split at f
 ·rename_i l n m N O B;have q:holds s ch->∀(p:Nat->Nat) (i:Operand->Value),(∀x∈o.op.operands,fE p s i x)->∀ {y:Option Operand} {r:Option Int},qG s ch y=some r->(∀z,y=some z->z∈o.op.operands)->
    (r=none/\y.map i=none\/∃k n,r=some n/\y.map i=some (.int k n)):=by
   intro c p i g y r Z B;rcases Xk c Z (λz d=>g z (B z d)) with ⟨T,U⟩ | ⟨z,k,n,T,U,h3⟩
   ·exact .inl ⟨U,by rw [T];rfl⟩
   grind
  unfold D6 at f;split at f
  ·rename_i base len cap;split at f
   ·rename_i e J;obtain ⟨y,u,S,R,M⟩:=yY J;obtain ⟨W,Y,X,C,E⟩:=GK (P:=P) f;refine me _ (C _ rfl) λc p i w g=> ?_;have G:=bX (g x (by simp [j,Op.operands])) c L;have F:=ay ok S w;have Q:=cL ok M w;rw [R] at F;have D:=E (Fp c) _ _ _ (q c p i g N (by intro z d;simp [j,Op.operands,d])) (q c p i g O (by intro z d;simp [j,Op.operands,d]))
     (q c p i g B (by intro z d;simp [j,Op.operands,d])) w
    simp only [execOp,j,G,LVal,Instr.sliceAt,Instr.slice,Sem.run_bind,F,Result.andThen_ok,D,Q,Sem.run_pure,bq]
   ·exact f.elim
  ·rename_i a;split at f
   ·rename_i n' e J;obtain ⟨y',u,b0,a9,M⟩:=EB J;obtain ⟨W,Y,X,C,E⟩:=GK (P:=P) f;refine me _ (C _ rfl) λc p i w g=> ?_;have G:=bX (g x (by simp [j,Op.operands])) c L;have V:=ay ok b0 w;have Q:=cL ok M w;rw [a9] at V;have D:=E (Fp c) _ _ _ (q c p i g N (by intro z d;simp [j,Op.operands,d])) (q c p i g O (by intro z d;simp [j,Op.operands,d]))
     (q c p i g B (by intro z d;simp [j,Op.operands,d])) w
    simp only [execOp,j,G,LVal,Instr.sliceAt,Instr.slice,Instr.sureAddr,Sem.run_bind,Result.andThen_ok,V,D,Q,Sem.run_pure,bq];split<;>simp_all
   ·exact f.elim
  ·rename_i b;split at f
   ·rename_i e S;split at f
    ·rename_i R;obtain ⟨W,Y,X,C,E⟩:=GK (P:=P) f;refine me _ C λc p i w g=> ?_;have G:=bX (g x (by simp [j,Op.operands])) c L;have F:=ay ok S w;rw [R] at F;have a8:A=none:=by
      cases A with
      | none=>rfl
      | some z=>simp only [qG] at B;grind
     have D:=E (Fp c) _ _ none (q c p i g N (by intro z d;simp [j,Op.operands,d])) (q c p i g O (by intro z d;simp [j,Op.operands,d])) (.inl ⟨rfl,rfl⟩) w;subst a8;simp [execOp,j,G,LVal,Instr.sliceAt,Instr.slice,F,D]
    ·exact f.elim
   ·exact f.elim
  ·exact f.elim
 ·exact f.elim
theorem Uw (ok:tb.Ok P) {t:Nat} {x:Operand} (a:o.op=.makeInterface t x) (hv:ju (ev s ch x) λv=>match tb.ty t with
  | some e=>match e.cH with
   | .interface _=>False
   | _=>K (.v (.iface t v))
  | none=>False):fm P tb o ch s h K:=by
 obtain ⟨v,d,b⟩:=lF hv;clear hv;split at b
 ·rename_i e c;have run:(∀n,e.cH≠ .interface n)->K (.v (.iface t v))->fm P tb o ch s h K:=λi g=>
   me _ g λf p q w j=>by have m:=bX (j x (by simp [a,Op.operands])) f d;have l:=ay ok c w;simp only [execOp,a,m,LVal,Instr.makeInterface,Sem.run_bind,l,Result.andThen_ok];cases k:e.cH<;>first | exact absurd k (i _) | rfl
  grind
 ·exact b.elim
theorem Xm {fn:Fn} {first captured:Array Operand} (c:o.op=.makeFunc fn first captured)
  (hv:pS (fk s ch first.toList) λa=>pS (fk s ch captured.toList) λb=>K (.v (.func fn a.toArray b.toArray))):fm P tb o ch s h K:=by
 obtain ⟨a,i,k⟩:=HH hv;obtain ⟨b,hb,j⟩:=HH k;refine me _ j λd β ρ w e=> ?_;have m:=Cl (β:=β) (ρ:=ρ) d i λx l=>e x (by simp [c,Op.operands];grind);have n:=Cl (β:=β) (ρ:=ρ) d hb λx l=>e x (by simp [c,Op.operands];grind);have f:first.map ρ=a.toArray:=by grind
 have g:captured.map ρ=b.toArray:=by grind
 simp only [execOp,c,Instr.makeFunc,Sem.run_bind,Sem.run_pure,Result.andThen_ok,f,g,LVal]
theorem adr (ok:tb.Ok P) {src c:Nat} {x:Operand} (q:o.op=.convert src c x) (hv:ju (ev s ch x) λv=>match tb.ty src,tb.ty c,v with
  | some _,some e,.int _ n=>match e.cH with
   | .int k=>K (.v (.int k (k.wrap n)))
   | _=>oV (fB s ch) P tb c (convert src c v) h K
  | some _,some _,v=>oV (fB s ch) P tb c (convert src c v) h K
  | _,_,_=>False):fm P tb o ch s h K:=by
 obtain ⟨v,y,i⟩:=lF hv;clear hv;have l:holds s ch->∀(b:Nat->Nat) (a:Operand->Value),(∀x∈o.op.operands,fE b s a x)->∀(w g:World) (u:Value),(convert src c v).run P w=.ok u g->(execOp a o).run P w=.ok (.value u) g:=by intro d b a f w g u j;have B:=bX (f x (by simp [q,Op.operands])) d y;simp only [execOp,q,B,LVal,Sem.run_bind,j,Result.andThen_ok,Sem.run_pure]
 split at i
 ·rename_i r e k n z t;split at i
  ·rename_i D A;refine me _ i λd b a w f=>l d b a f w w _ ?_;have m:=ay ok z w;have p:=ay ok t w;rw [A] at p;generalize r.cH=C at m;simp only [convert,Sem.run_bind,m,p,Result.andThen_ok];cases C<;>rfl
  ·exact u9 (by simp_all [dg]) i λd b a f w g u j=>l d b a f w g u j
 ·exact u9 (by simp_all [dg]) i λd b a f w g u j=>l d b a f w g u j
 ·exact i.elim
theorem Cm :∀(l:List Value) (i:Nat) (new:List Value),i+new.length<=l.length->mr l i new=l.take i++new++l.drop (i+new.length)
 | l,0,[],_=>by cases l<;>simp [mr]
 | [],0,b::new,h=>by simp at h
 | a::l,0,b::new,h=>by have:=Cm l 0 new (by grind);simp only [mr,this];simp
 | [],n+1,new,h=>by simp at h
 | a::l,n+1,new,h=>by have:=Cm l n new (by simp at h ⊢;omega);simp only [mr,this];grind
theorem ads (l:List Value) (i:Nat) (new:List Value) (h:i+new.length<=l.length):(mr l i new).length=l.length:=by rw [Cm l i new h];simp;omega
theorem Qr :∀(new:List Value) (k:Nat) (l:List Value) (off:Nat),off+k+new.length<=l.length->
  ((new.zipIdx k).foldl (λ(a:Array Value) (p:Value×Nat)=>a.setIfInBounds (off+p.2) p.1) l.toArray).toList=l.take (off+k)++new++l.drop (off+k+new.length)
 | [],k,l,off,_=>by simp
 | v::new,k,l,off,h=>by
  simp only [List.zipIdx_cons,List.foldl_cons];have b:off+(k+1)+new.length<=(l.set (off+k) v).length:=by simp at h ⊢;omega
  have:=Qr new (k+1) (l.set (off+k) v) off b;rw [show (l.toArray.setIfInBounds (off+k) v)=(l.set (off+k) v).toArray by simp];rw [this];simp at h;apply List.ext_getElem?;intro j;simp only [List.getElem?_append,List.length_append,List.length_take,List.length_set,List.length_cons,List.getElem?_take,List.getElem?_drop,List.getElem?_set];grind
theorem Qs (v:Value) (l:List Value) (off:Nat) (h:off+(bA v).length<=l.length):
  (v.cells.zipIdx.foldl (λ(a:Array Value) (p:Value×Nat)=>a.setIfInBounds (off+p.2) p.1) l.toArray)=(mr l off (bA v)).toArray:=by
 apply Array.ext';rw [<-Array.foldl_toList];have:v.cells.zipIdx.toList=(bA v).zipIdx:=by rw [Array.toList_zipIdx,qi]
 rw [this,Qr (bA v) 0 l off (by omega),Cm l off _ h];simp
theorem FU {size:Nat}:∀ {e:List (Nat×Value)} {a b:List Value},pG size a e=some b->
  Instr.fill (λi=>some (i*size,size)) a.toArray e=some b.toArray
 | [],a,b,h=>by cases h;rfl
 | (i,v)::r,a,b,h=>by
  simp only [pG] at h;cases c:Nat.beq (bA v).length size with
  | false=>simp [c] at h
  | true=>
   cases d:Nat.ble (i*size+size) a.length with
   | false=>simp [c,d] at h
   | true=>
    simp only [c,d,cond_true] at h;have f:=Nat.eq_of_beq_eq_true c;have j:=Nat.le_of_ble_eq_true d;have g:v.cells.size=size:=by rw [<-Array.length_toList,qi,f]
    have:=FU h;simp only [Instr.fill,g,ne_eq,not_true,decide_false,Bool.false_or,decide_eq_true_eq];rw [if_neg (by simp;omega)];have k:=Qs v a (i*size) (by omega);grind
theorem Qt {fs:List Field} {pl:Nat->Option (Nat×Nat)} (j:∀i f e,fs[i]? =some f->tb.ty f.type=some e->pl i=some (f.offset,e.size)):
  ∀ {k:List (Nat×Value)} {a b:List Value},tv tb fs a k=some b->Instr.fill pl a.toArray k=some b.toArray
 | [],a,b,h=>by cases h;rfl
 | (i,v)::r,a,b,h=>by
  simp only [tv] at h;split at h
  ·rename_i f g;split at h
   ·rename_i e n;cases c:Nat.beq (bA v).length e.size with
    | false=>simp [c] at h
    | true=>
     cases d:Nat.ble (f.offset+e.size) a.length with
     | false=>simp [c,d] at h
     | true=>
      simp only [c,d,cond_true] at h;have l:=Nat.eq_of_beq_eq_true c;have p:=Nat.le_of_ble_eq_true d;have m:v.cells.size=e.size:=by rw [<-Array.length_toList,qi,l]
      have:=Qt j h;rw [pe] at g;simp only [Instr.fill,j i f e g n,m];rw [if_neg (by simp;omega)];rw [Qs v a f.offset (by omega)];exact this
   ·cases h
  ·cases h
theorem NT (ok:tb.Ok P) {w:World}:∀(fs:List Field),(∀f∈fs,∃e,tb.ty f.type=some e)->
  ∃a:List (Nat×Nat),(fs.mapM λf=>(do pure (f.offset,<-Go.sizeOf f.type):Sem (Nat×Nat))).run P w=.ok a w/\a.length=fs.length/\
   ∀(i:Nat) f e,fs[i]? =some f->tb.ty f.type=some e->a[i]? =some (f.offset,e.size)
 | [],_=>⟨[],by simp,rfl,by simp⟩
 | f::fs,b=>by
  obtain ⟨e,c⟩:=b f (List.mem_cons_self ..);obtain ⟨a,k,j,hp⟩:=NT ok (w:=w) fs λg d=>b g (List.mem_cons_of_mem _ d);refine ⟨(f.offset,e.size)::a,?_,by simp [j],?_⟩
  ·simp only [List.mapM_cons,Sem.run_bind,cL ok c,Result.andThen_ok,Sem.run_pure,k]
  grind
theorem O1 :∀ {fs:List Field},rK tb fs=true->∀f∈fs,∃e,tb.ty f.type=some e
 | [],_,f,hf=>by cases hf
 | g::fs,h,f,hf=>by
  simp only [rK] at h;split at h
  ·rename_i e a;rcases List.mem_cons.1 hf with rfl | hf
   ·exact ⟨e,a⟩
   ·exact O1 h f hf
  ·cases h
theorem Uy (ok:tb.Ok P) {t:Nat} {parts:Array (Nat×Operand)} (y:o.op=.build t parts)
  (hv:pS ((nv s ch parts.toList).map λ_=> []) λ_=>match nv s ch parts.toList,tb.ty t with
  | some b,some e=>match e.cH with
   | .struct fs=>cond (rK tb fs.toList) (match tv tb fs.toList (bA e.zero) b with
    | some c=>K (.v (.agg c.toArray))
    | none=>False) False
   | .array _ u=>match tb.ty u with
    | some g=>match pG g.size (bA e.zero) b with
     | some c=>K (.v (.agg c.toArray))
     | none=>False
    | none=>False
   | _=>False
  | _,_=>False):fm P tb o ch s h K:=by
 obtain ⟨_,_,a⟩:=HH hv;clear hv;split at a
 ·rename_i b e G m;have C:holds s ch->∀(β:Nat->Nat) (ρ:Operand->Value),(∀x∈o.op.operands,fE β s ρ x)->(parts.map λ(i,x)=>(i,ρ x)).toList=b:=by intro j β ρ k;have:=FT (β:=β) (ρ:=ρ) j G λx J=>k x (by simp [y,Op.operands];simpa using J);simpa using this
  split at a
  ·rename_i fs A;cases z:rK tb fs.toList with
   | false=>simp [z] at a
   | true=>
    simp only [z,cond_true] at a;split at a
    ·rename_i c r;refine me _ a λj β ρ w k=> ?_;have l:=ay ok m w;rw [A] at l;have B:=dd ok m w;obtain ⟨pl,H,L,hp⟩:=NT ok (w:=w) fs.toList (O1 z);have F:(fs.mapM λf=>(do pure (f.offset,<-Go.sizeOf f.type):Sem (Nat×Nat))).run P w=.ok pl.toArray w:=by rw [Array.mapM_eq_mapM_toList];simp only [Sem.run_map,H,Result.andThen_ok]
     have d:=Qt (tb:=tb) (fs:=fs.toList) (pl:=λ(i:Nat)=>pl[i]?) hp r;have p:(parts.map λ(i,x)=>(i,ρ x)).toList=b:=C j β ρ k;have q:(bA e.zero).toArray=e.zero.cells:=by apply Array.ext';simp [qi]
     rw [q] at d;simp only [execOp,y,Instr.build,Sem.run_bind,B,Result.andThen_ok,l,F,p];have D:(λ(i:Nat)=>pl.toArray[i]?)=λ(i:Nat)=>pl[i]?:=by funext i;simp
     rw [D,d];simp [LVal]
    ·exact a.elim
  ·rename_i n u A;split at a
   ·rename_i g E;split at a
    ·rename_i c r;refine me _ a λj β ρ w k=> ?_;have l:=ay ok m w;rw [A] at l;have B:=dd ok m w;have I:=cL ok E w;have d:=FU r;have p:(parts.map λ(i,x)=>(i,ρ x)).toList=b:=C j β ρ k;have q:(bA e.zero).toArray=e.zero.cells:=by apply Array.ext';simp [qi]
     rw [q] at d;simp only [execOp,y,Instr.build,Sem.run_bind,B,Result.andThen_ok,l,I,p,d];simp [LVal]
    ·exact a.elim
   ·exact a.elim
  ·exact a.elim
 ·exact a.elim
end
section
variable {P:Program} {tb:Tb} {o:Oper} {ch:bp} {s:St} {h:Hp} {K:LV->Prop}
theorem Ff (ok:tb.Ok P) {k:Nat} {e:Ty} {b:Bool} {v:Value} {w:World} (c:tb.ty k=some e) (a:uB e.cH=true):
  (Instr.checkKey b 10000 k v).run P w=.ok () w:=by
 have f:=ay ok c w;have key:∀n,(Instr.checkKey b (n+1) k v).run P w=.ok () w:=by intro n;unfold Instr.checkKey;simp only [Sem.run_bind,f,Result.andThen_ok];generalize e.cH=d at a;cases d<;>first | rfl | (simp [uB] at a)
 exact key 9999
theorem CZ (ok:tb.Ok P) {k:Nat} {e:Ty} {v:Value} {a:List MapEntry} {r:Option (Nat×Value)} {w:World} (b:tb.ty k=some e)
  (c:Instr.findNow e.cH v a 0=some r):(Instr.findKey k v a).run P w=.ok r w:=by
 simp only [Instr.findKey,Sem.run_bind,ay ok b,Result.andThen_ok,c,Sem.run_pure]
theorem Qc {r:Nat} {a:Array MapEntry} {ck:Nat} {w:World} (hb:w.heap[r]? =some (.map a ck)):(getObj r).run P w=.ok (.map a ck) w:=by simp [getObj,Sem.run,hb]
theorem A2 (ok:tb.Ok P) {t k u:Nat} {e j q:Ty} {m:Option Nat} {b v:Value} {y l:Bool} {w:World} (x:tb.ty t=some e) (C:e.cH=.map k u)
  (d:tb.ty k=some j) (p:tb.ty u=some q) (n:uB j.cH=true) (B:Sub h w) (f:Cq j.cH q.zero m b h v y):
  (Instr.lookup t (.map m) b l).run P w=.ok (if l then .tuple #[v,.bool y] else v) w:=by
 have g:=ay ok x w;rw [C] at g;obtain ⟨D,z,f⟩:=f;rcases z with ⟨rfl,rfl⟩ | ⟨r,ck,rfl,A⟩
 ·simp only [Instr.lookup,Sem.run_bind,g,Result.andThen_ok,Sem.run_pure,Ff ok d n];rcases f with ⟨a,hv,c⟩ | ⟨i,a,c⟩
  ·simp only [CZ ok d a,Result.andThen_ok,Sem.run_bind,dd ok p,Sem.run_pure,hv,c]
  ·simp only [CZ ok d a,Result.andThen_ok,Sem.run_bind,Sem.run_pure,c]
 ·simp only [Instr.lookup,Sem.run_bind,g,Result.andThen_ok,Qc (B r _ A),Sem.run_pure,Ff ok d n];rcases f with ⟨a,hv,c⟩ | ⟨i,a,c⟩
  ·simp only [CZ ok d a,Result.andThen_ok,Sem.run_bind,dd ok p,Sem.run_pure,hv,c]
  ·simp only [CZ ok d a,Result.andThen_ok,Sem.run_bind,Sem.run_pure,c]
theorem Tg (ok:tb.Ok P) {t:Nat} {x i:Operand} {l:Bool} (n:o.op=.lookup t x i l) (hv:ju (ev s ch x) λa=>ju (ev s ch i) λb=>match a,tb.ty t with
  | .map m,some e=>match e.cH with
   | .map k u=>match tb.ty k,tb.ty u with
    | some A,some p=>cond (uB A.cH) (pA (fB s ch) A.cH p.sh p.zero m b h λx y=>cond l (K (.v (.tuple #[p.sh.enc x,.bool y]))) (K (.v (p.sh.enc x))))
      (oV (fB s ch) P tb o.type (Instr.lookup t a b l) h K)
    | _,_=>False
   | _=>False
  | _,_=>False):fm P tb o ch s h K:=by
 obtain ⟨a,J,I⟩:=lF hv;clear hv;obtain ⟨b,L,hv⟩:=lF I;clear I;have B:holds s ch->∀(g:Nat->Nat) (d:Operand->Value),(∀x∈o.op.operands,fE g s d x)->∀(w q:World) (u:Value),(Instr.lookup t a b l).run P w=.ok u q->(execOp d o).run P w=.ok (.value u) q:=by intro c g d f w q u j;have N:=bX (f x (by simp [n,Op.operands])) c J;have M:=bX (f i (by simp [n,Op.operands])) c L;simp only [execOp,n,N,M,LVal,Sem.run_bind,j,Result.andThen_ok,Sem.run_pure]
 split at hv
 ·rename_i m e D;split at hv
  ·rename_i k u G;split at hv
   ·rename_i A p E H;cases r:uB A.cH with
    | false=>simp only [r,cond_false] at hv;exact u9 (by simp_all [dg]) hv λc g d f w q u j=>B c g d f w q u j
    | true=>
     simp only [r,cond_true] at hv;obtain ⟨y,z,j,F⟩:=hv;cases l with
     | true=>refine Fm (by simp [dg,n]) _ F λc g d w f C=>B c g d f w w _ ?_;rw [A2 ok D G E H r C (qv j c)];rfl
     | false=>refine Fm (by simp [dg,n]) _ F λc g d w f C=>B c g d f w w _ ?_;rw [A2 ok D G E H r C (qv j c)];rfl
   ·exact hv.elim
  ·exact hv.elim
 ·exact hv.elim
theorem Mf {k:IntKind} {w:World}:∀ {r:List Value} {x:Int} {v:Value},uQ jV k x r=some v->(r.foldlM Builtin.min2 (.int k x)).run P w=.ok v w
 | [],x,v,h=>by cases h;rfl
 | a::r,x,v,h=>by
  cases a<;>simp only [uQ] at h<;>first
   |cases h
   | (simp only [List.foldlM_cons,Sem.run_bind,Builtin.min2,Sem.run_pure,Result.andThen_ok]
      exact Mf h)
theorem Mg {k:IntKind} {w:World}:∀ {r:List Value} {x:Int} {v:Value},uQ rD k x r=some v->(r.foldlM Builtin.max2 (.int k x)).run P w=.ok v w
 | [],x,v,h=>by cases h;rfl
 | a::r,x,v,h=>by
  cases a<;>simp only [uQ] at h<;>first
   |cases h
   | (simp only [List.foldlM_cons,Sem.run_bind,Builtin.max2,Sem.run_pure,Result.andThen_ok]
      exact Mg h)
theorem adu (ok:tb.Ok P) {b:Builtin} {G:Array Operand} {z:Array TypeId} (j:o.op=.call {callee:=.builtin b,args:=G,argTypes:=z})
  (hv:pS (fk s ch G.toList) λF=>R4 (fB s ch) P tb b F z.toList o.type h K):fm P tb o ch s h K:=by
 obtain ⟨F,J,a⟩:=HH hv;clear hv;have q:holds s ch->∀(β:Nat->Nat) (ρ:Operand->Value),(∀x∈o.op.operands,fE β s ρ x)->G.map ρ=F.toArray:=by intro d β ρ f;have:=Cl (β:=β) (ρ:=ρ) d J λx L=>f x (by simp [j,Op.operands,Call.operands];simpa using L);grind
 unfold R4 at a;split at a
 ·rename_i x ty D;have E:z= #[ty]:=by apply Array.ext';simpa using D
  have t:holds s ch->∀(β:Nat->Nat) (ρ:Operand->Value),(∀x∈o.op.operands,fE β s ρ x)->∀(w m:World) (u:Value),(Builtin.len_ #[ty] o.type #[x]).run P w=.ok u m->(execOp ρ o).run P w=.ok (.value u) m:=by intro d β ρ f w m u C;have g:=q d β ρ f;simp only [execOp,j,resolve,invoke,builtin,Sem.run_bind,Sem.run_pure,Result.andThen_ok,g,E,C]
  unfold If at a;split at a
  ·rename_i e A;have l:=λw=>ay ok A w;split at a
   ·rename_i M i;refine me _ a λd β ρ w f=>t d β ρ f w w _ ?_;simp [Builtin.len_,l,i,goInt,LVal]
   ·rename_i I p n c i;refine me _ a λd β ρ w f=>t d β ρ f w w _ ?_;simp [Builtin.len_,l,i,goInt,LVal]
   ·rename_i y n I i;refine me _ a λd β ρ w f=>t d β ρ f w w _ ?_;cases y<;>simp [Builtin.len_,l,i,goInt,LVal]
   ·exact u9 (by simp_all [dg]) a λd β ρ f w m u C=>t d β ρ f w m u C
  ·exact a.elim
 ·rename_i p n c ty D;have E:z= #[ty]:=by apply Array.ext';simpa using D
  split at a
  ·rename_i e A;split at a
   ·rename_i u l;refine me _ a λd β ρ w f=> ?_;have g:=q d β ρ f;have H:=ay ok A w;rw [l] at H;simp [execOp,j,resolve,invoke,builtin,g,E,Builtin.cap_,H,goInt,LVal]
   ·exact a.elim
  ·exact a.elim
 ·rename_i k x r;split at a
  ·rename_i v B;refine me _ a λd β ρ w f=> ?_;have g:=q d β ρ f;simp [execOp,j,resolve,invoke,builtin,g,Builtin.min_,Mf B,LVal]
  ·exact a.elim
 ·rename_i k x r;split at a
  ·rename_i v B;refine me _ a λd β ρ w f=> ?_;have g:=q d β ρ f;simp [execOp,j,resolve,invoke,builtin,g,Builtin.max_,Mg B,LVal]
  ·exact a.elim
 ·exact a.elim
theorem NV (ok:tb.Ok P) (hv:yK P tb o ch s h K):fm P tb o ch s h K:=by
 obtain ⟨e,op,ty,pos,after,guard⟩:=o;cases op with
 | move x=>exact Qo (.inl rfl) hv
 | assign x=>exact Qo (.inr rfl) hv
 | pick x a b=>exact Xh rfl hv
 | extract x i=>exact adq rfl hv
 | binOp op t x y p=>exact ZY ok rfl hv
 | unOp op t x=>exact abX rfl hv
 | nilCheck x=>exact Z0 rfl hv
 | load t x=>exact Xj ok rfl hv
 | fieldAddr t x i=>exact aaG ok rfl hv
 | field t x i=>exact Ut ok rfl hv
 | indexAddr t x i=>exact aaI ok rfl hv
 | index t x i=>exact Uu ok rfl hv
 | slice t x j g l=>exact Uv ok rfl hv
 | makeInterface t x=>exact Uw ok rfl hv
 | makeFunc fn a b=>exact Xm rfl hv
 | convert a b x=>exact adr ok rfl hv
 | build t n=>exact Uy ok rfl hv
 | lookup t x i k=>exact Tg ok rfl hv
 | call c=>
  obtain ⟨callee,args,d⟩:=c;cases callee with
  | builtin b=>exact adu ok rfl hv
  | value f=>exact hv.elim
  | invoke r m=>exact hv.elim
 | _=>exact hv.elim
end
section
variable {P:Program} {tb:Tb} {o:Oper} {ch:bp} {s:St} {h:Hp} {K:LV->Hp->Prop}
theorem Z1 (s:St) (t:Nat) (w:Bool) (r:bp):∃b,fB s ((t,w)::r)=some b/\(b=true↔holds s ((t,w)::r)):=by
 induction r generalizing t w with
 | nil=>
  simp only [fB];split
  ·rename_i b c a;refine ⟨_,rfl,λh=> ?_,λh=> ?_⟩
   ·intro p hp;simp at hp;subst hp;simp only [hb,a];grind
   ·have:=h (t,w) (List.mem_cons_self ..);simp only [hb,a] at this;grind
  ·refine ⟨false,rfl,λh=>(by cases h),λh=> ?_⟩;have:=h (t,w) (List.mem_cons_self ..);unfold hb at this;split at this
   ·rename_i f _ b c a;exact absurd a (f b c)
   ·cases this
 | cons p r k=>
  obtain ⟨l,m⟩:=p;obtain ⟨g,j,i⟩:=k l m;simp only [fB];split
  ·rename_i b c a;rw [j];refine ⟨_,rfl,λh=> ?_,λh=> ?_⟩
   ·have e:g=true/\b=w:=by grind
    intro q hq;rcases List.mem_cons.1 hq with rfl | hq
    ·simp only [hb,a,e.2]
    ·exact i.1 e.1 q hq
   ·have d:=h (t,w) (List.mem_cons_self ..);simp only [hb,a] at d;injection d with d
    have e:g=true:=i.2 λq hq=>h q (List.mem_cons_of_mem _ hq);grind
  ·refine ⟨false,rfl,λh=>(by cases h),λh=> ?_⟩;have:=h (t,w) (List.mem_cons_self ..);unfold hb at this;split at this
   ·rename_i f _ b c a;exact absurd a (f b c)
   ·cases this
def gS (P:Program) (o:Oper) (ch:bp) (s:St) (h:Hp) (K:LV->Hp->Prop):Prop:=
 (holds s ch->∀(β:Nat->Nat) (a:Act) (w:World),(∀x∈o.op.operands,fE β s a.eval x)->Sub h w->∀(next:Act->World->Prop) (Q:Exit->Act->World->Prop),
  (∀x b c,K (.v x) b->Step h b w c->next (a.put o.dst x) c)->o.wp P a w next Q)/\
 (¬holds s ch->∃x,K (.v x) h)
theorem Fq {d:Type} {A:(d->Hp->Prop)->Hp->Prop} {K:d->Hp->Prop} (a:dm (fB s ch) A K h):(holds s ch->A K h)/\(¬holds s ch->∃x,K x h):=by
 cases ch with
 | nil=>exact ⟨λ_=>a,λc=>absurd (bY s) c⟩
 | cons p r=>obtain ⟨t,w⟩:=p;obtain ⟨b,hb,f⟩:=Z1 s t w r;rw [hb] at a;exact ⟨λe=>a.1 (f.2 e),λc=>a.2 (by grind)⟩
theorem wT {e:Type} {A:(e->Hp->Prop)->Hp->Prop} {f:e->Value} (j:dm (fB s ch) A (λx b=>K (.v (f x)) b) h)
  (c:holds s ch->∀(β:Nat->Nat) (ρ:Operand->Value) (w:World),(∀x∈o.op.operands,fE β s ρ x)->Sub h w->∀(K:e->Hp->Prop),A K h->
   ∃x b d,(execOp ρ o).run P w=.ok (.value (f x)) d/\K x b/\Step h b w d):gS P o ch s h K:=by
 obtain ⟨i,m⟩:=Fq j;refine ⟨λhh β a w ho hs next Q g=> ?_,λg=> ?_⟩
 ·obtain ⟨x,b,d,c,k,l⟩:=c hh β a.eval w ho hs _ (i hh);unfold Oper.wp;rw [c,Oper.upon_value];exact g _ _ _ k l
 grind
theorem O2 {h:Hp} {a b:Addr} {v:Value} (i:∃u,dy h b=some u):∃u,dy (h.put a v) b=some u:=by
 obtain ⟨u,j⟩:=i;obtain ⟨c,t,fr,hb,g,d⟩:=HB j;unfold Hp.put;split
 ·rename_i k l m f;unfold dy Hp.set;by_cases e:b.block=a.block
  ·rw [e] at hb;rw [hb] at f;cases f;simp only [e,if_true,g,Option.isSome_none,Bool.false_eq_true,if_false];split
   ·exact ⟨u,d⟩
   ·rw [Array.getElem?_setIfInBounds];split
    ·rename_i n;have:b.off<c.size:=by
      rcases Nat.lt_or_ge b.off c.size with h | h
      ·exact h
      ·rw [Array.getElem?_eq_none h] at d;cases d
     rw [if_pos (by omega)];exact ⟨v,rfl⟩
    ·exact ⟨u,d⟩
  ·simp only [if_neg e,hb,g];exact ⟨u,by simpa using d⟩
 grind
theorem O3 (h:Hp) (a b:Addr) (v:Value):ic (h.put a v) b=ic h b:=by
 unfold Hp.put;split
 ·rename_i c e fr hb;unfold ic Hp.set;grind
 ·rfl
theorem wM {h:Hp} {a:Addr}:∀ {n:Nat},tf h a n->∀i,i<n->(∃v,dy h (a.add i)=some v)/\ic h (a.add i)=false
 | 0,_,i,c=>by omega
 | n+1,b,i,c=>by
  rcases Nat.lt_or_ge i n with h | h
  ·exact wM b.1 i h
  ·have:i=n:=by omega
   subst this;exact b.2
theorem Hv {a:Addr}:∀(b:List Value) (i:Nat) (h:Hp) (w:World),Sub h w->jL b=true->
  (∀j,j<b.length->(∃v,dy h (a.add (i+j))=some v)/\ic h (a.add (i+j))=false)->
  ∃f,(storeCells a b i).run P w=.ok () f/\Step h (lz h a b i) w f
 | [],i,h,w,d,_,_=>⟨w,rfl,.refl d⟩
 | v::b,i,h,w,d,g,k=>by
  obtain ⟨⟨v0,e⟩,l⟩:=k 0 (by simp);rw [Nat.add_zero] at e l;have n:=Qi (v:=v) d e;have m:jL b=true/\v.oneCell'=true:=by cases v<;>simp only [jL] at g<;>first | exact ⟨g,rfl⟩ | cases g
  obtain ⟨f,r,u⟩:=Hv b (i+1) (h.put (a.add i) v) (w.setCell (a.add i) v) n.sub m.1 (λj y=>by
   have:=k (j+1) (by simp;omega);rw [show i+1+j=i+(j+1) from by omega];exact ⟨O2 this.1,by rw [O3];exact this.2⟩)
  refine ⟨f,?_,n.trans u⟩;simp only [storeCells,Sem.run_bind];have x:(store (a.add i) v).run P w=.ok () (w.setCell (a.add i) v):=by
   have p:=zj d e;obtain ⟨c,t,fr,hb,_,_⟩:=HB e;have q:w.frozen? (a.add i)=false:=by rw [Fj d hb];exact l
   have hv:=m.2;cases v<;>first
    | (simp [Value.oneCell'] at hv;done)
    |simp only [store,Sem.run,p,q,Bool.false_eq_true,if_false]
  rw [x];simp only [Result.andThen_ok];exact r
theorem UC (ok:tb.Ok P) {t:Nat} {x y:Operand} (d:o.op=.store t x y) (hv:match ev s ch x,ev s ch y with
  | some (.v (.pointer (some a))),some (.v v)=>match ch,tb.ty t with
   | [],some e=>cond (Nat.beq (bA v).length e.size) (cond (jL (bA v)) (cX h a (bA v) λg=>K (.v (.tuple #[])) g) False) False
   | _,_=>False
  | _,_=>False):gS P o ch s h K:=by
 split at hv
 ·rename_i a v k l;split at hv
  ·rename_i e i;cases b:Nat.beq (bA v).length e.size with
   | false=>simp [b] at hv
   | true=>
    cases f:jL (bA v) with
    | false=>grind
    | true=>
     simp only [b,f,cond_true] at hv;refine ⟨λhh β act w ho hs next Q c=> ?_,λc=>absurd (bY s) c⟩;have z:act.eval x=_:=bX (ho x (by simp [d,Op.operands])) hh k;have A:act.eval y=_:=bX (ho y (by simp [d,Op.operands])) hh l;obtain ⟨B,p,r⟩:=Hv (P:=P) (bA v) 0 h w hs f (λj m=>by simpa using wM hv.1 j m);have u:=cL ok i w;have n:v.cells.size=e.size:=by rw [<-Array.length_toList,qi];exact Nat.eq_of_beq_eq_true b
     unfold Oper.wp;have q:(execOp act.eval o).run P w=.ok .skip B:=by
      simp only [execOp,d,z,A,LVal,Instr.storeAt,Instr.sureAddr,Sem.run_bind,Sem.run_pure,Result.andThen_ok,storeVar,u,n,ne_eq,not_true,if_false,qi];have:(if False then (stuck "storeVar: the value has not the size of the variable" :Sem Unit) else pure PUnit.unit).run P w=.ok () w:=rfl
      first | rw [this] | skip
      simp only [p,Result.andThen_ok]
     rw [q,Oper.upon_skip];exact c _ _ _ hv.2 r
  ·exact hv.elim
 ·exact hv.elim
theorem vS {e:TypeId} {a:Array Value} {w:World}:(newRow e a).run P w=.ok ⟨w.heap.size,0,none⟩ {w with heap:=w.heap.push (.cells a e)}:=by simp [newRow]
theorem FV {a:List Value} {K:Addr->Hp->Prop} {t:Nat} {w:World} (e:Sub h w) (c:bc a K h):
  ∃b,K ⟨w.heap.size,0,none⟩ b/\Step h b w {w with heap:=w.heap.push (.cells a.toArray t)}:=by
 obtain ⟨d,f⟩:=C6 e (.cells a.toArray t);exact ⟨_,c _ t d,f⟩
theorem Th {b:List Value} {K:Addr->Hp->Prop} {t:Nat} {w:World} (d:Sub h w) (a:Cp t b K h):
  ∃c,K ⟨w.heap.size,0,none⟩ c/\Step h c w {w with heap:=w.heap.push (.cells b.toArray t)}:=by
 unfold Cp at a;split at a
 ·obtain ⟨e,f⟩:=C6 d (.cells (List.toArray [.pointer none,.slice none 0 0]) t);exact ⟨_,a _ e,f⟩
 ·exact FV d a
theorem UE (ok:tb.Ok P) {t:Nat} (j:o.op=.alloc t) (hv:match tb.ty t with
  | some e=>dm (fB s ch) (Cp t (bA e.zero)) (λa b=>K (.v (.pointer (some a))) b) h
  | none=>False):gS P o ch s h K:=by
 split at hv
 ·rename_i e d;refine wT (f:=λa=>.pointer (some a)) hv λm p q w n k K g=> ?_;obtain ⟨b,i,l⟩:=Th (t:=t) k g;refine ⟨_,b,_,?_,i,l⟩;have c:(bA e.zero).toArray=e.zero.cells:=by apply Array.ext';simp [qi]
  rw [c];simp [execOp,j,Instr.alloc,dd ok d,newVar,vS]
 ·exact hv.elim
theorem Z3 {t:Nat} {x:Operand} (c:o.op=.box t x) (hv:ju (ev s ch x) λv=>dm (fB s ch) (bc (bA v)) (λa b=>K (.v (.pointer (some a))) b) h):
  gS P o ch s h K:=by
 obtain ⟨v,e,n⟩:=lF hv;refine wT (f:=λa=>.pointer (some a)) n λg q r w k l K i=> ?_;obtain ⟨b,j,m⟩:=FV (t:=t) l i;refine ⟨_,b,_,?_,j,m⟩;have p:=bX (k x (by simp [c,Op.operands])) g e;have d:(bA v).toArray=v.cells:=by apply Array.ext';simp [qi]
 rw [d];simp [execOp,c,p,LVal,Instr.box,newVar,vS]
theorem RJ {a:Type} (l:List a):∀n,(mw l n).length=n*l.length
 | 0=>by simp [mw]
 | n+1=>by simp [mw,RJ l n,Nat.add_mul,Nat.add_comm]
theorem Qu (l:List Value):∀n i,i<n*l.length->(mw l n)[i]? =l[i%l.length]?
 | 0,i,h=>by simp at h
 | n+1,i,h=>by
  simp only [mw];rcases Nat.lt_or_ge i l.length with hi | hi
  ·rw [List.getElem?_append_left hi,Nat.mod_eq_of_lt hi]
  ·rw [List.getElem?_append_right hi,Qu l n (i-l.length) (by grind)];congr 1;rw [<-Nat.mod_eq_sub_mod hi]
theorem Fs (z:List Value) (n size:Nat) (a:z.length=size):((Array.range (n*size)).map (λi=>z.toArray[i%z.toArray.size]!))=(mw z n).toArray:=by
 apply Array.ext';apply List.ext_getElem?;intro i;rcases Nat.lt_or_ge i (n*size) with hi | hi
 ·have b:(mw z n)[i]? =z[i%z.length]?:=Qu z n i (by rw [a];exact hi);have d:0<size:=by
   rcases Nat.eq_zero_or_pos size with h | h
   ·subst h;simp at hi
   ·exact h
  have c:i%z.length<z.length:=Nat.mod_lt _ (by omega);grind
 ·have b:(mw z n).length<=i:=by rw [RJ,a];exact hi
  grind
theorem Za (ok:tb.Ok P) {t len:Nat} {parts:Array (Nat×Operand)} (n:o.op=.buildSlice t len parts) (hv:match nv s ch parts.toList,ib tb t with
  | some l,some e=>cond (Nat.ble (len*e.size) 16777216) (match pG e.size (mw (bA e.zero) len) l with
   | some m=>dm (fB s ch) (bc m) (λa d=>K (.v (.slice (some a) len len)) d) h
   | none=>False) False
  | _,_=>False):gS P o ch s h K:=by
 split at hv
 ·rename_i l e G A;obtain ⟨y,u,O,M,k⟩:=yY A;cases g:Nat.ble (len*e.size) 16777216 with
  | false=>simp [g] at hv
  | true=>
   simp only [g,cond_true] at hv;have R:=Nat.le_of_ble_eq_true g;split at hv
   ·rename_i m z;refine wT (f:=λa=>.slice (some a) len len) hv λB β ρ w E I K C=> ?_;obtain ⟨d,D,J⟩:=FV (t:=u) I C;refine ⟨_,d,_,?_,D,J⟩;have F:(parts.map λ(i,x)=>(i,ρ x)).toList=l:=by have:=FT (β:=β) (ρ:=ρ) B G λx N=>E x (by simp [n,Op.operands];simpa using N);simpa using this
    have p:=ay ok O w;rw [M] at p;have L:=cL ok k w;have Q:=dd ok k w;have q:=ok.BQ u e k;have j:=FU z;have r:e.zero.cells=(bA e.zero).toArray:=by apply Array.ext';simp [qi]
    simp only [execOp,n,Instr.buildSlice,Sem.run_bind,p,Result.andThen_ok,L,F];rw [qt];by_cases b:len*e.size=0
    ·have H:mw (bA e.zero) len=[]:=by apply List.length_eq_zero_iff.1;rw [RJ,q];exact b
     rw [H] at j;have c:(Array.map (λx=>(#[]:Array Value)[x%(#[]:Array Value).size]!) (Array.range (len*e.size)))=([]:List Value).toArray:=by rw [b];simp
     simp only [b,if_true,Sem.run_pure,Result.andThen_ok,Sem.run_bind];rw [b] at c;simp only [c,j,Sem.run_bind,vS,Result.andThen_ok,Sem.run_pure]
    ·have c:=Fs (bA e.zero) len e.size q;simp only [b,if_false,Sem.run_bind,Q,Result.andThen_ok,Sem.run_pure,r];simp only [c,j,Sem.run_bind,vS,Result.andThen_ok,Sem.run_pure]
   ·exact hv.elim
 ·exact hv.elim
end
section
variable {P:Program} {tb:Tb} {o:Oper} {ch:bp} {s:St} {h:Hp} {K:LV->Hp->Prop}
theorem Bw {base:Option Addr} {n:Nat} {b:List Value} {w:World} (q:Sub h w) (p:qP h base n b) {m c:Nat} {size:Nat} (l:n=m*size):
  (Builtin.firstCells size m (.slice base m c)).run P w=.ok b.toArray w:=by
 obtain ⟨k,f⟩:=p;subst l;cases base with
 | none=>
  rcases f with g | ⟨a,d,_⟩
  ·have:b=[]:=List.length_eq_zero_iff.1 (by omega);subst this;rfl
  ·cases d
 | some a=>
  have e:∀j v,b[j]? =some v->w.cell? (a.add j)=some v:=by
   intro j v i;rcases f with g | ⟨r,d,e⟩
   ·grind
   ·cases d;exact zj q (e j v i)
  simp only [Builtin.firstCells];rw [<-k];exact zxt e
theorem Nw {a cap:Nat} (h:cap<a):Builtin.nextslicecap a cap<=2*a:=by
 unfold Builtin.nextslicecap;split
 ·omega
 ·split
  ·omega
  ·have key:∀r c,c<2*a->(c<a->256<=c)->Builtin.growBy a r c<=2*a:=by
    intro r
    induction r with
    | zero=>intro c d _;simp only [Builtin.growBy];omega
    | succ r e=>
     intro c d b;simp only [Builtin.growBy];split
     ·omega
     ·rename_i f;have:=b (by omega);exact e _ (by omega) (by omega)
   grind
theorem yM (z:List Value):∀n,fC z n=mw z n
 | 0=>rfl
 | n+1=>by simp only [fC,List.replicate_succ,List.flatten_cons,mw];rw [<-yM z n,fC]
theorem Hy (z:Array Value) (n:Nat):Builtin.zeroCells z n=(fC z.toList n).toArray:=by rw [yM];have:=Fs z.toList n z.size (by simp);unfold Builtin.zeroCells;rw [<-this]
theorem Eo :IntKind.i64.max=9223372036854775807:=by decide
theorem NX (ok:tb.Ok P) {t I u rt n:Nat} {y e m:Ty} {l:Sl} {x:Value} {new:List Value} {K:Sl->Hp->Prop} {w:World}
  (hy:tb.ty t=some y) (hu:y.cH=.slice u) (z:tb.ty u=some e) (b2:tb.ty I=some m) (b7:∀k,m.cH≠ .int k)
  (b:Sub h w) (M:Bg u e.size e.bytes (bA e.zero) l n new K h) (B:∀w:World,(Builtin.lenOf x).run P w=.ok n w)
  (D:∀w:World,Sub h w->(Builtin.firstCells e.size n x).run P w=.ok new.toArray w) (b8:new.length=n*e.size):
  ∃r p g,(Builtin.append_ #[t,I] rt #[.slice l.base l.len l.cap,x]).run P w=.ok (.slice r.base r.len r.cap) g/\K r p/\Step h p w g:=by
 obtain ⟨d,hold,⟨b4,b3⟩,X,U,R⟩:=M;have f:=λw=>ay ok hy w;have q:=λw=>ay ok b2 w;have v:=λw=>cL ok z w;have L:=λw=>dd ok z w;obtain ⟨i,S,_,T,_⟩:=ok.info u e z;have J:∀w,(typeInfo u).run P w=.ok i w:=λw=>by simp [typeInfo,S]
 have F:(match m.cH with | .int _=>true | _=>false)=false:=by simp
 simp only [hu] at f;by_cases A:l.len+n<=l.cap
 ·obtain ⟨E,G⟩:=U A;cases hb:l.base with
  | none=>
   refine ⟨_,_,w,?_,G,?_⟩
   ·simp [Builtin.append_,f,q,v,F,B,A,D w b,hb]
   ·simp only [gP,hb];exact .refl b
  | some a=>
   obtain ⟨g,Z,b0⟩:=Hv (P:=P) new 0 h w b X (a:=a.add (l.len*e.size)) (λj hj=>by
    have:=wM (E a hb) j (by omega);simpa using this)
   refine ⟨_,_,g,?_,G,?_⟩
   ·simp [Builtin.append_,f,q,v,F,B,A,D w b,hb,Z]
   ·simp only [gP,hb];exact b0
 ·have C:l.cap<l.len+n:=by omega
  have Q:=Nw C;have b5:¬(Builtin.nextslicecap (l.len+n) l.cap*e.bytes>281474976710656):=by
   have:Builtin.nextslicecap (l.len+n) l.cap*e.bytes<=2*(l.len+n)*e.bytes:=Nat.mul_le_mul_right _ Q;have p:2*(l.len+n)*e.bytes=2*((l.len+n)*e.bytes):=by rw [Nat.mul_assoc]
   omega
  have b6:¬(((l.len+n:Nat):Int)>IntKind.i64.max):=by rw [Eo];omega
  have b1:Sub h {w with drawn:=w.drawn+1}:=b;have Y:∀w:World,Sub h w->(Builtin.firstCells e.size l.len (.slice l.base l.len l.cap)).run P w=.ok d.toArray w:=λw b=>Bw b hold rfl;let c:=(Question.appendCap (l.len+n) l.cap u).cut (w.tape w.drawn (.appendCap (l.len+n) l.cap u));have O:l.len+n<=c:=by simp only [c,Question.cut];omega
  have a8:(d.toArray++new.toArray++Builtin.zeroCells e.zero.cells (c-(l.len+n)))=(d++new++fC (bA e.zero) (c-(l.len+n))).toArray:=by rw [Hy,qi];simp
  obtain ⟨W,E⟩:=C6 b1 (.cells (d++new++fC (bA e.zero) (c-(l.len+n))).toArray u);refine ⟨_,_,_,?_,R C c _ O W,E.drew⟩;have V:¬(9223372036854775807<(l.len:Int)+(n:Int)):=by omega
  have H:Sub h w.drew:=b;have N:¬(281474976710656<Builtin.nextslicecap (l.len+n) l.cap*i.bytes):=by rw [T];omega
  have a9:d.toArray++(new.toArray++Builtin.zeroCells e.zero.cells (c-(l.len+n)))=(d++(new++fC (bA e.zero) (c-(l.len+n)))).toArray:=by rw [<-Array.append_assoc,a8,List.append_assoc]
  simp [Builtin.append_,f,q,v,J,L,F,B,Nat.not_le.2 C,V,N,Question.forced,Y _ H,D _ H,vS];refine ⟨rfl,?_⟩;rw [<-a9];rfl
theorem BO (z:List Value) (n:Nat):(fC z n).length=n*z.length:=by simp [fC]
theorem adv (ok:tb.Ok P) {t Z u rt:Nat} {m:Int} {y e M:Ty} {l:Sl} {K:Sl->Hp->Prop} {w:World}
  (hy:tb.ty t=some y) (hu:y.cH=.slice u) (E:tb.ty u=some e) (b7:tb.ty Z=some M) (hint:M.cH=.int .i64)
  (z:Sub h w) (hm:0<=m) (ha:lI e.size e.bytes (bA e.zero) l m.toNat (fC (bA e.zero) m.toNat) K h):
  ∃r H G,(Builtin.append_ #[t,Z] rt #[.slice l.base l.len l.cap,.int .i64 m]).run P w=.ok (.slice r.base r.len r.cap) G/\K r H/\Step h H w G:=by
 obtain ⟨B,hold,⟨a9,a8⟩,U,Q,O⟩:=ha;have d:=λw=>ay ok hy w;have f:=λw=>ay ok b7 w;have g:=λw=>cL ok E w;have C:=λw=>dd ok E w;obtain ⟨i,hi,_,b1,_⟩:=ok.info u e E;have p:∀w,(typeInfo u).run P w=.ok i w:=λw=>by simp [typeInfo,hi]
 simp only [hu] at d;simp only [hint] at f;have L:=ok.BQ u e E;have A:IntKind.i64.wrap m=m:=by
  (try unfold yw);unfold IntKind.wrap
  simp only [IntKind.signed,IntKind.bits];grind
 have c2:¬m<0:=by omega
 obtain ⟨n,rfl⟩:=Int.eq_ofNat_of_zero_le hm;have b2:((n:Int)).toNat=n:=by omega
 rw [b2] at a9 a8 U Q O;have c0:¬((n:Int)*(i.bytes:Int)>281474976710656):=by grind
 have v:¬(281474976710656<(n:Int)*(i.bytes:Int)):=by omega
 have b9:∀w:World,(if n*e.size=0 then (pure #[]:Sem (Array Value)) else do pure (Builtin.zeroCells (<-zeroValue u).cells n)).run P w=.ok (fC (bA e.zero) n).toArray w:=by
  intro w;by_cases b:n*e.size=0
  ·have:fC (bA e.zero) n=[]:=List.length_eq_zero_iff.1 (by rw [BO,L];exact b);rw [if_pos b,this];rfl
  ·rw [if_neg b];simp only [Sem.run_bind,C,Result.andThen_ok,Sem.run_pure];congr 1;rw [Hy,qi]
 have q:∀w:World,(asInt (.int .i64 (n:Int))).run P w=.ok (n:Int) w:=λw=>rfl;have x:¬(n:Int)<0:=by omega
 have b8:Builtin.zeroCells e.zero.cells n=(fC (bA e.zero) n).toArray:=by rw [Hy,qi]
 have X:n*e.size=0->fC (bA e.zero) n=[]:=λb=>List.length_eq_zero_iff.1 (by rw [BO,L];exact b);by_cases D:l.len+n<=l.cap
 ·obtain ⟨J,S⟩:=Q D;cases hb:l.base with
  | none=>
   refine ⟨_,_,w,?_,S,?_⟩
   ·by_cases b:n*e.size=0
    ·simp [Builtin.append_,d,f,g,p,q,A,x,v,D,b,hb]
    ·simp [Builtin.append_,d,f,g,p,C,q,A,x,v,D,b,hb]
   ·simp only [gP,hb];exact .refl z
  | some a=>
   obtain ⟨G,I,b5⟩:=Hv (P:=P) (fC (bA e.zero) n) 0 h w z U (a:=a.add (l.len*e.size)) (λj R=>by
    have:=wM (J a hb) j (by rw [BO,L] at R;exact R);simpa using this)
   refine ⟨_,_,G,?_,S,?_⟩
   ·by_cases b:n*e.size=0
    ·rw [X b] at I;simp [Builtin.append_,d,f,g,p,q,A,x,v,D,b,hb,I]
    ·simp [Builtin.append_,d,f,g,p,C,q,A,x,v,D,b,b8,hb,I]
   ·simp only [gP,hb];exact b5
 ·have F:l.cap<l.len+n:=by omega
  have b0:=Nw F;have c1:¬(Builtin.nextslicecap (l.len+n) l.cap*e.bytes>281474976710656):=by
   have:Builtin.nextslicecap (l.len+n) l.cap*e.bytes<=2*(l.len+n)*e.bytes:=Nat.mul_le_mul_right _ b0;have H:2*(l.len+n)*e.bytes=2*((l.len+n)*e.bytes):=by rw [Nat.mul_assoc]
   omega
  have b6:Sub h {w with drawn:=w.drawn+1}:=z;have V:∀w:World,Sub h w->(Builtin.firstCells e.size l.len (.slice l.base l.len l.cap)).run P w=.ok B.toArray w:=λw z=>Bw z hold rfl;let c:=(Question.appendCap (l.len+n) l.cap u).cut (w.tape w.drawn (.appendCap (l.len+n) l.cap u));have hc:l.len+n<=c:=by simp only [c,Question.cut];omega
  have b3:(B.toArray++(fC (bA e.zero) n).toArray++Builtin.zeroCells e.zero.cells (c-(l.len+n)))=(B++fC (bA e.zero) n++fC (bA e.zero) (c-(l.len+n))).toArray:=by rw [Hy,qi];simp
  obtain ⟨hn,J⟩:=C6 b6 (.cells (B++fC (bA e.zero) n++fC (bA e.zero) (c-(l.len+n))).toArray u);refine ⟨_,_,_,?_,O F c _ u hc hn,J.drew⟩;have T:¬(9223372036854775807<(l.len:Int)+(n:Int)):=by omega
  have W:Sub h w.drew:=z;have N:¬(281474976710656<Builtin.nextslicecap (l.len+n) l.cap*i.bytes):=by rw [b1];omega
  have b4:B.toArray++((fC (bA e.zero) n).toArray++Builtin.zeroCells e.zero.cells (c-(l.len+n)))=(B++(fC (bA e.zero) n++fC (bA e.zero) (c-(l.len+n)))).toArray:=by rw [<-Array.append_assoc,b3,List.append_assoc]
  have Y:∀k,Builtin.zeroCells e.zero.cells k=(fC (bA e.zero) k).toArray:=λk=>by rw [Hy,qi]
  by_cases b:n*e.size=0
  ·simp only [X b] at b4 ⊢;simp [Builtin.append_,d,f,g,p,C,q,A,x,v,Nat.not_le.2 F,Eo,T,N,Question.forced,V _ W,b,vS,Y];exact ⟨rfl,rfl⟩
  ·simp [Builtin.append_,d,f,g,p,C,q,A,x,v,Nat.not_le.2 F,Eo,T,N,Question.forced,V _ W,b,vS,Y];exact ⟨rfl,rfl⟩
theorem Ti (ok:tb.Ok P) {O:Array Operand} {F:Array TypeId} (H:o.op=.call {callee:=.builtin .append,args:=O,argTypes:=F}) {N:List Value} (Y:fk s ch O.toList=some N)
  (hv:Dh tb (fB s ch) F.toList N h K):gS P o ch s h K:=by
 have J:holds s ch->∀(β:Nat->Nat) (ρ:Operand->Value),(∀x∈o.op.operands,fE β s ρ x)->O.map ρ=N.toArray:=by intro d β ρ g;have:=Cl (β:=β) (ρ:=ρ) d Y λx Z=>g x (by simp [H,Op.operands,Call.operands];simpa using Z);apply Array.ext';simpa using this
 unfold Dh at hv;split at hv
 ·rename_i p n c p' n' U t E I;have D:F= #[t,E]:=by grind
  split at hv
  ·rename_i e Q v W;obtain ⟨y,u,j,i,b⟩:=yY v;obtain ⟨y',u',a8,b1,a9⟩:=yY W;refine wT (f:=λ(l:Sl)=>.slice l.base l.len l.cap) hv λd β ρ w g a K z=> ?_;obtain ⟨new,R,q⟩:=z;obtain ⟨r,k,G,B,A,C⟩:=NX (P:=P) (rt:=o.type) (x:=.slice p' n' U) (l:=⟨p,n,c⟩) ok j i b a8 (by grind) a (q.u u) (λw=>rfl)
    (λw a=>Bw a R rfl) R.1
   refine ⟨r,k,G,?_,A,C⟩;simp only [execOp,H,resolve,invoke,builtin,Sem.run_bind,Sem.run_pure,Result.andThen_ok,J d β ρ g,D,B]
  ·exact hv.elim
 ·rename_i p n c x t E I;have D:F= #[t,E]:=by apply Array.ext';simpa using I
  split at hv
  ·rename_i e Q v M;obtain ⟨y,u,j,i,b⟩:=yY v;split at hv
   ·rename_i T b0;cases L:Nat.beq e.bytes 1 with
    | false=>simp [L] at hv
    | true=>
     simp only [L,cond_true] at hv;have V:=Nat.eq_of_beq_eq_true L;have S:e.size=1:=(ok.leaf u e b (by rw [T];rfl)).1;refine wT (f:=λ(l:Sl)=>.slice l.base l.len l.cap) hv λd β ρ w g a K z=> ?_;have hz:bA e.zero=[.int .u8 0]:=ok.CY u e b T;have hid:D5 tb t=u:=by unfold D5;rw [j];simp only [i]
     have q:Bg u e.size e.bytes (bA e.zero) ⟨p,n,c⟩ x.size (sB x) K h:=by rw [S,V,hz,<-hid];exact z
     obtain ⟨r,k,G,B,A,C⟩:=NX (P:=P) (rt:=o.type) (x:=.string x) (l:=⟨p,n,c⟩) ok j i b M (by grind) a q (λw=>rfl)
      (λw a=>by
       have:(x.extract 0 x.size)=x:=by simp
       simp only [Builtin.firstCells,this,Sem.run_pure];congr 1;apply Array.ext';simp [sB]) (by simp [sB,S])
     refine ⟨r,k,G,?_,A,C⟩;simp only [execOp,H,resolve,invoke,builtin,Sem.run_bind,Sem.run_pure,Result.andThen_ok,J d β ρ g,D,B]
   ·exact hv.elim
  ·exact hv.elim
 ·rename_i p n c m t E I;have D:F= #[t,E]:=by apply Array.ext';simpa using I
  split at hv
  ·rename_i e Q v M;obtain ⟨y,u,j,i,b⟩:=yY v;split at hv
   ·rename_i hint;refine wT (f:=λ(l:Sl)=>.slice l.base l.len l.cap) hv λd β ρ w g a K z=> ?_;obtain ⟨X,q⟩:=z;obtain ⟨r,k,G,B,A,C⟩:=adv (P:=P) (rt:=o.type) (l:=⟨p,n,c⟩) ok j i b M hint a X q;refine ⟨r,k,G,?_,A,C⟩;simp only [execOp,H,resolve,invoke,builtin,Sem.run_bind,Sem.run_pure,Result.andThen_ok,J d β ρ g,D,B]
   ·exact hv.elim
  ·exact hv.elim
 ·exact hv.elim
theorem Xn (ok:tb.Ok P) {B:Array Operand} {A:Array TypeId} (r:o.op=.call {callee:=.builtin .copy,args:=B,argTypes:=A}) {p g:Option Addr} {n b c d:Nat} {t L:Nat}
  (W:fk s ch B.toList=some [.slice p n c,.slice g b d]) (a8:A.toList=[t,L]) {e:Ty} (N:ib tb t=some e)
  (hv:dm (fB s ch) (gE e.size ⟨p,n,c⟩ ⟨g,b,d⟩) (λk M=>K (.v (.int .i64 k)) M) h):gS P o ch s h K:=by
 have D:holds s ch->∀(β:Nat->Nat) (ρ:Operand->Value),(∀x∈o.op.operands,fE β s ρ x)->B.map ρ= #[.slice p n c,.slice g b d]:=by intro i β ρ l;have:=Cl (β:=β) (ρ:=ρ) i W λx X=>l x (by simp [r,Op.operands,Call.operands];simpa using X);apply Array.ext';simpa using this
 have J:A= #[t,L]:=by grind
 obtain ⟨y,u,Y,V,O⟩:=yY N;refine wT (f:=λ(k:Int)=>.int .i64 k) hv λi β ρ w l z K Q=> ?_;obtain ⟨new,H,R,T,F⟩:=Q;have q:=λw=>ay ok Y w;have C:=λw=>cL ok O w;rw [V] at q;have G:Nat.min b n=min b n:=rfl;have I:(Builtin.firstCells e.size (min b n) (.slice g b d)).run P w=.ok new.toArray w:=by have:=Bw (P:=P) (m:=min b n) (c:=d) z H rfl;cases g<;>exact this
 cases hp:p with
 | none=>subst hp;refine ⟨_,_,w,?_,F,by simp only [gP];exact .refl z⟩;simp only [execOp,r,resolve,invoke,builtin,Sem.run_bind,Sem.run_pure,Result.andThen_ok,D i β ρ l,J];simp [Builtin.copy_,q,C,Builtin.lenOf,G,I,goInt]
 | some a=>
  subst hp;obtain ⟨Z,S,U⟩:=Hv (P:=P) (a:=a) new 0 h w z R (λj E=>by
   have:=wM (T a rfl) j (by rw [H.1] at E;exact E);simpa using this)
  refine ⟨_,_,Z,?_,F,by simp only [gP,show a.add 0=a from by simp [Addr.add]];exact U⟩;simp only [execOp,r,resolve,invoke,builtin,Sem.run_bind,Sem.run_pure,Result.andThen_ok,D i β ρ l,J];simp [Builtin.copy_,q,C,Builtin.lenOf,G,I,goInt,S]
theorem Xp (ok:tb.Ok P) {t:Nat} {x y:Operand} (c:o.op=.makeSlice t x y) {m n:Int} {e:Ty} (E:ev s ch x=some (.v (.int .i64 m))) (F:ev s ch y=some (.v (.int .i64 n)))
  (D:ib tb t=some e) (hv:dm (fB s ch) (dU e.bytes (bA e.zero) m n) (λl r=>K (.v (.slice l.base l.len l.cap)) r) h):gS P o ch s h K:=by
 obtain ⟨y',u,R,O,a⟩:=yY D;refine wT (f:=λ(l:Sl)=>.slice l.base l.len l.cap) hv λg β p w j M K I=> ?_;obtain ⟨⟨h0,b1,a8,a9⟩,J⟩:=I;have Q:p x=_:=bX (j x (by simp [c,Op.operands])) g E;have S:p y=_:=bX (j y (by simp [c,Op.operands])) g F;have d:=ay ok R w;rw [O] at d;have z:=λw=>cL ok a w;have B:=λw=>dd ok a w;obtain ⟨i,G,_,H,_⟩:=ok.info u e a;have A:∀w,(typeInfo u).run P w=.ok i w:=λw=>by simp [typeInfo,G]
 have U:=ok.BQ u e a;have V:IntKind.i64.wrap m=m:=by simp [IntKind.wrap,IntKind.bits,IntKind.signed];omega
 have W:IntKind.i64.wrap n=n:=by simp [IntKind.wrap,IntKind.bits,IntKind.signed];omega
 have b0:¬((e.bytes:Int)*n>281474976710656):=by grind
 obtain ⟨L,N⟩:=C6 M (.cells (fC (bA e.zero) n.toNat).toArray u);refine ⟨_,_,_,?_,J _ u L,N⟩;have X:¬n<0:=by omega
 have Y:¬m<0:=by omega
 have Z:¬m>n:=by omega
 have C:((n<0 || decide ((e.bytes:Int)*n>2^48)) || decide (m<0) || decide (m>n))=false:=by grind
 have b2:(if n.toNat*e.size=0 then (#[]:Array Value) else e.zero.cells)=e.zero.cells\/n.toNat*e.size=0:=by grind
 have k:(Array.range (n.toNat*e.size)).map (λi=>e.zero.cells[i%e.zero.cells.size]!)=(fC (bA e.zero) n.toNat).toArray:=by
  have:=Fs (bA e.zero) n.toNat e.size U;rw [yM,<-this];have q:e.zero.cells=(bA e.zero).toArray:=by apply Array.ext';simp [qi]
  rw [q]
 simp only [execOp,c,Q,S,LVal,Instr.makeSlice,Sem.run_bind,d,Result.andThen_ok,asInt,asIntOf,Sem.run_pure,A,V,W,H];have hb:((n<0 || decide ((e.bytes:Int)*n>2^48)) || decide (m<0) || decide (m>n))=false:=C;simp only [hb,Bool.false_eq_true,if_false,Sem.run_bind,run_askRoom,Result.andThen_ok,z];by_cases b:n.toNat*e.size=0
 ·have T:(fC (bA e.zero) n.toNat).toArray= #[]:=by rw [<-k,b];simp
  simp [b,T,vS];grind
 ·simp [b,B,vS,k]
end
section
variable {P:Program} {tb:Tb} {o:Oper} {ch:bp} {s:St} {h:Hp} {K:LV->Hp->Prop}
theorem adw {t:Nat} (d:o.op=.makeMap t none) (hv:dm (fB s ch) yV (λm a=>K (.v (.map m)) a) h):gS P o ch s h K:=by refine wT (f:=λm=>.map m) hv λi k l w j e K b=> ?_;obtain ⟨c,g⟩:=C6 e (.map #[] 0);refine ⟨_,_,_,?_,b _ c,g⟩;simp [execOp,d,Instr.makeMap]
theorem UG (ok:tb.Ok P) {src d:Nat} {x:Operand} (m:o.op=.convert src d x) {b:ByteArray} {e g:Ty} (B:ev s ch x=some (.v (.string b))) (N:tb.ty src=some e)
  (A:ib tb d=some g) (z:e.cH=.string) (E:g.cH=.int .u8)
  (hv:dm (fB s ch) (NQ b) (λl p=>K (.v (.slice l.base l.len l.cap)) p) h):gS P o ch s h K:=by
 obtain ⟨y,u,T,Q,D⟩:=yY A;refine wT (f:=λ(l:Sl)=>.slice l.base l.len l.cap) hv λF W V w J L K G=> ?_;have S:V x=_:=bX (J x (by simp [m,Op.operands])) F B;have i:=λw=>ay ok N w;have j:=λw=>ay ok T w;have k:=λw=>ay ok D w;rw [z] at i;rw [Q] at j;rw [E] at k;let c:=(Question.appendCap b.size 0 u).cut (w.tape w.drawn (.appendCap b.size 0 u));have r:b.size<=c:=by simp only [c,Question.cut];omega
 have R:Sub h w.drew:=L;let a:=sB b++fC [.int .u8 0] (c-b.size);have t:a.length=c:=by
  have:(sB b).length=b.size:=by simp [sB]
  simp only [a,List.length_append,yM,RJ,this];simp;omega
 obtain ⟨I,O⟩:=C6 R (.cells a.toArray u (c,c+1));refine ⟨_,_,_,?_,G c _ u r I,Step.drew O⟩;have q:(b.data.map λx=>(.int .u8 x.toNat:Value))++Array.replicate (c-b.size) (.int .u8 0)=a.toArray:=by
  apply Array.ext';simp only [a,sB,yM];have:∀n,List.replicate n (.int .u8 0:Value)=mw [.int .u8 0] n:=by
   intro n;induction n with
   | zero=>rfl
   | succ n U=>simp only [List.replicate_succ,mw,U];rfl
  simp [this]
 simp only [execOp,m,S,LVal,convert,Sem.run_bind,i,j,k,Result.andThen_ok,Conv.stringToBytes,run_choose,Question.forced,Bool.false_eq_true,if_false,vS,Sem.run_pure];change _=Result.ok (Next.value (.slice (some ⟨w.heap.size,0,none⟩) b.size c)) _;rw [show ((Question.appendCap b.size 0 u).cut (w.tape w.drawn (.appendCap b.size 0 u)))=c from rfl,q];have M:({w.drew with heap:=w.heap.push (.cells a.toArray u)}:World).shape? w.heap.size=some (u,c):=by simp [World.shape?,t]
 have C:({w.drew with heap:=w.heap.push (.cells a.toArray u)}:World).freeze ⟨w.heap.size,c,none⟩ 1={w.drew with heap:=w.heap.push (.cells a.toArray u (c,c+1))}:=by simp only [World.freeze,Nat.one_ne_zero,if_false];congr 1;grind
 have H:(markStringish ⟨w.heap.size,0,none⟩).run P {w.drew with heap:=w.heap.push (.cells a.toArray u)}=.ok () {w.drew with heap:=w.heap.push (.cells a.toArray u (c,c+1))}:=by simp only [markStringish,Sem.run_bind,run_shape,Result.andThen_ok,M,run_freeze];rw [C]
 change (((markStringish ⟨w.heap.size,0,none⟩).run P {w.drew with heap:=w.heap.push (.cells a.toArray u)}).andThen _).andThen _=_;rw [H];rfl
theorem Xr (ok:tb.Ok P) {src d:Nat} {x:Operand} (m:o.op=.convert src d x) {p:Option Addr} {n c:Nat} {e g:Ty} {T:Nat} (D:ev s ch x=some (.v (.slice p n c))) (N:tb.ty src=some e)
  (C:ib tb d=some g) (B:e.cH=.slice T) (G:g.cH=.int .u8) (L:src=d)
  (hv:dm (fB s ch) (qX p) (λ_ r=>K (.v (.slice p n c)) r) h):gS P o ch s h K:=by
 obtain ⟨y,u,S,Q,F⟩:=yY C;refine wT (f:=λ(_:Unit)=>.slice p n c) hv λH V U w J q K i=> ?_;have R:U x=_:=bX (J x (by simp [m,Op.operands])) H D;have j:=λw=>ay ok N w;have k:=λw=>ay ok S w;have l:=λw=>ay ok F w;rw [B] at j;rw [Q] at k;rw [G] at l;obtain ⟨b,off,a,t,rfl,hb,i⟩:=i;have O:=wK q hb (o:=.cells a t (a.size,a.size+1));refine ⟨_,_,_,?_,i,O⟩;have A:w.heap[b]? =some (.cells a t (0,0)):=q _ _ hb;have E:w.freeze ⟨b,a.size,none⟩ 1={w with heap:=w.heap.setIfInBounds b (.cells a t (a.size,a.size+1))}:=by simp only [World.freeze,Nat.one_ne_zero,if_false];congr 1;grind
 have I:(markStringish ⟨b,off,none⟩).run P w=.ok () {w with heap:=w.heap.setIfInBounds b (.cells a t (a.size,a.size+1))}:=by
  have M:w.shape? b=some (t,a.size):=by simp [World.shape?,A]
  simp only [markStringish,Sem.run_bind,run_shape,Result.andThen_ok,M,run_freeze];rw [E]
 have z:(src==d)=true:=by rw [L];simp
 simp only [execOp,m,R,LVal,convert,Sem.run_bind,j,k,l,Result.andThen_ok,z,I,Sem.run_pure]
end
section
variable {P:Program} {tb:Tb} {o:Oper} {ch:bp} {s:St} {h:Hp} {K:LV->Hp->Prop}
theorem FW {g:Type} {A:(g->Hp->Prop)->Hp->Prop} (k:dm (fB s ch) A (λ_ b=>K (.v (.tuple #[])) b) h)
  (c:holds s ch->∀(e:Nat->Nat) (i:Operand->Value) (w:World),(∀x∈o.op.operands,fE e s i x)->Sub h w->∀(K:g->Hp->Prop),A K h->
   ∃x b d,(execOp i o).run P w=.ok .skip d/\K x b/\Step h b w d):gS P o ch s h K:=by
 obtain ⟨j,n⟩:=Fq k;refine ⟨λhh e a w ho hs next Q f=> ?_,λf=> ?_⟩
 ·obtain ⟨x,b,d,c,l,m⟩:=c hh e a.eval w ho hs _ (j hh);unfold Oper.wp;rw [c,Oper.upon_skip];exact f _ _ _ l m
 grind
theorem Cv {sh:Shape} {c:Sem Value} (hv:QI (fB s ch) P sh c K h)
  (q:holds s ch->∀(d:Nat->Nat) (b:Operand->Value),(∀x∈o.op.operands,fE d s b x)->∀(w a:World) (v:Value),c.run P w=.ok v a->(execOp b o).run P w=.ok (.value v) a):
  gS P o ch s h K:=by
 refine wT (f:=sh.enc) hv λg d b w k m K i=> ?_;obtain ⟨v,a,e,l,⟨x,p,j⟩,n⟩:=Qa c m i;subst p;exact ⟨x,e,a,q g d b k w a _ l,j,n⟩
theorem zm {t:Nat} {a:Sem Value} (hv:uM (fB s ch) P tb t a K h)
  (d:holds s ch->∀(β:Nat->Nat) (c:Operand->Value),(∀x∈o.op.operands,fE β s c x)->∀(w b:World) (v:Value),a.run P w=.ok v b->(execOp c o).run P w=.ok (.value v) b):
  gS P o ch s h K:=by
 unfold uM at hv;split at hv
 ·exact Cv hv d
 ·exact hv.elim
theorem UH {a b:ByteArray} (h:(a==b)=true):(b==a)=true:=by
 have:a=b:=by cases a;cases b;congr;exact eq_of_beq h
 grind
theorem UJ {c:TypeDesc} {a b:Value} {n:Nat} (d:uB c=true) (h:Instr.sameNow c a b=some true):Instr.sameBits n b a=true:=by
 cases c with
 | bool=>
  cases a<;>cases b<;>simp only [Instr.sameNow] at h<;>try (cases h;done)
  injection h with h
  have:∀x y:Bool,(x==y)=true->(y==x)=true:=by decide
  cases n<;>exact this _ _ h
 | int k=>
  cases a<;>cases b<;>simp only [Instr.sameNow] at h<;>try (cases h;done)
  split at h
  ·injection h with h
   have e:=eq_of_beq h;subst e;rename_i f;cases n<;>simp_all [Instr.sameBits]
  ·cases h
 | string=>
  cases a<;>cases b<;>simp only [Instr.sameNow] at h<;>try (cases h;done)
  injection h with h
  cases n<;>exact UH h
 | _=>simp [uB] at d
theorem Nx {b:TypeDesc} {k:Value}:∀ {a:List MapEntry} {j i:Nat} {u:Value},Instr.findNow b k a j=some (some (i,u))->
  j<=i/\∃e,a[i-j]? =some e/\e.val=u/\Instr.sameNow b k e.key=some true
 | [],j,i,u,h=>by simp [Instr.findNow] at h
 | e::a,j,i,u,h=>by
  simp only [Instr.findNow] at h;split at h
  ·grind
  ·obtain ⟨f,c,d,l,g⟩:=Nx h;grind
  ·cases h
theorem A3 {r:Nat} {o a:Obj} {w:World} (hb:w.heap[r]? =some a) (b:isCells a=false):(setObj r o).run P w=.ok () {w with heap:=w.heap.setIfInBounds r o}:=by simp only [setObj,Sem.run,hb];cases a<;>first | rfl | simp [isCells] at b
theorem Tj (ok:tb.Ok P) {t k u:Nat} {e p:Ty} {m:Option Nat} {b v:Value} {w:World} {K:Hp->Prop} (B:tb.ty t=some e) (H:e.cH=.map k u)
  (c:tb.ty k=some p) (f:uB p.cH=true) (j:Sub h w) (E:u5 p.cH m b v K h):
  ∃q y,(Instr.mapUpdate t (.map m) b v).run P w=.ok () y/\K q/\Step h q w y:=by
 obtain ⟨r,A,ck,rfl,g,a⟩:=E;have l:=ay ok B w;rw [H] at l;have hb:=j r _ g;rcases a with ⟨a,d⟩ | ⟨i,x,a,d⟩
 ·refine ⟨_,_,?_,d,wK j g⟩;simp only [Instr.mapUpdate,Sem.run_bind,l,Result.andThen_ok,Qc hb,Ff ok c f,CZ ok c a,A3 hb rfl]
 ·refine ⟨_,_,?_,d,wK j g⟩;obtain ⟨_,z,C,_,G⟩:=Nx a;have D:A[i]? =some z:=by simpa using C
  have F:=UJ (n:=10000) f G;simp only [Instr.mapUpdate,Sem.run_bind,l,Result.andThen_ok,Qc hb,Ff ok c f,CZ ok c a,D,Option.map_some,Option.getD_some,Instr.keyThatStays,F,if_true,Sem.run_pure,
   A3 hb rfl]
theorem Tk (ok:tb.Ok P) {t k u rt:Nat} {t':TypeId} {e n:Ty} {m:Option Nat} {b:Value} {w:World} {K:Hp->Prop} (v:tb.ty t=some e) (z:e.cH=.map k u)
  (d:tb.ty k=some n) (j:uB n.cH=true) (f:Sub h w) (y:zk n.cH m b K h):
  ∃p q,(Builtin.delete_ #[t,t'] rt #[.map m,b]).run P w=.ok (.tuple #[]) q/\K p/\Step h p w q:=by
 have g:=ay ok v w;rw [z] at g;rcases y with ⟨rfl,a⟩ | ⟨r,A,ck,rfl,l,c⟩
 ·refine ⟨_,w,?_,a,.refl f⟩;simp [Builtin.delete_,g,Ff ok d j]
 ·have hb:=f r _ l;rcases c with ⟨c,a⟩ | ⟨i,x,c,a⟩
  ·refine ⟨_,_,?_,a,wK f l⟩;simp [Builtin.delete_,g,Qc hb,Ff ok d j,CZ ok d c,A3 hb rfl]
  ·refine ⟨_,_,?_,a,wK f l⟩;simp [Builtin.delete_,g,Qc hb,Ff ok d j,CZ ok d c,A3 hb rfl]
theorem NZ (ok:tb.Ok P) {t:Nat} {x y z:Operand} (n:o.op=.mapUpdate t x y z\/o.op=.insert t x y z)
  (hv:GH P tb (fB s ch) t (ev s ch x) (ev s ch y) (ev s ch z) K h):gS P o ch s h K:=by
 obtain ⟨a,G,D⟩:=lF hv;obtain ⟨b,H,E⟩:=lF D;obtain ⟨v,I,c⟩:=lF E;clear hv D E;have run:holds s ch->∀(j:Nat->Nat) (d:Operand->Value),(∀x∈o.op.operands,fE j s d x)->∀(w f:World),(Instr.mapUpdate t a b v).run P w=.ok () f->(execOp d o).run P w=.ok .skip f:=by intro g j d i w f l;have M:d x=_:=bX (i x (by rcases n with h | h<;>simp [h,Op.operands])) g G;have N:d y=_:=bX (i y (by rcases n with h | h<;>simp [h,Op.operands])) g H;have O:d z=_:=bX (i z (by rcases n with h | h<;>simp [h,Op.operands])) g I;rcases n with h | h<;>simp only [execOp,h,M,N,O,LVal,Sem.run_bind,l,Result.andThen_ok,Sem.run_pure]
 split at c
 ·rename_i m e F;split at c
  ·rename_i k u L;split at c
   ·rename_i Q J;cases A:uB Q.cH with
    | true=>simp only [A,cond_true] at c;refine FW c λg j d w i B K r=> ?_;obtain ⟨p,f,l,q,C⟩:=Tj ok F L J A B r;exact ⟨(),p,f,run g j d i w f l,q,C⟩
    | false=>simp only [A,cond_false] at c;refine FW c λg j d w i B K r=> ?_;obtain ⟨R,f,p,l,q,C⟩:=Qa _ B r;exact ⟨(),p,f,run g j d i w f l,q,C⟩
   ·exact c.elim
  ·exact c.elim
 ·exact c.elim
theorem Mk (ok:tb.Ok P) {f:Operand} {j:Array Operand} {k:Array TypeId} {g:FuncId} {first captured:Array Value} {b:List Value} {e:Ty} {a:Act} {w:World}
  (q:o.op=.call {callee:=.value f,args:=j,argTypes:=k}) (p:tb.call g=true) (n:a.eval f=.func (.func g) first captured) (u:j.map a.eval=b.toArray)
  {c:e.sh.T->Hp->Prop} (m:ae P g (first.toList++b++captured.toList) e.sh c h) (t:Sub h w) {next:Act->World->Prop} {Q:Exit->Act->World->Prop}
  (v:∀x d i,c x d->Step h d w i->next (a.put o.dst (e.sh.enc x)) i):o.wp P a w next Q:=by
 have r:(execOp a.eval o).run P w=.ok (.enter g (first.toList++b++captured.toList).toArray) w:=by
  have l:first++b.toArray++captured=(first.toList++b++captured.toList).toArray:=by apply Array.ext';simp
  simp only [execOp,q,resolve,Deferred.ofValue,n,u,Sem.run_bind,Sem.run_pure,Result.andThen_ok,invoke,l];exact ok.call g p _ w
 unfold Oper.wp;rw [r,Oper.upon_enter];refine (m w t).mono ?_;grind
theorem Ft {d:Type} {A:(d->Hp->Prop)->Hp->Prop} {f:d->Value} (j:dm (fB s ch) A (λx b=>K (.v (f x)) b) h)
  (l:holds s ch->∀(e:Nat->Nat) (a:Act) (w:World),(∀x∈o.op.operands,fE e s a.eval x)->Sub h w->∀(K:d->Hp->Prop),A K h->∀(next:Act->World->Prop) (Q:Exit->Act->World->Prop),
   (∀x b c,K x b->Step h b w c->next (a.put o.dst (f x)) c)->o.wp P a w next Q):gS P o ch s h K:=by
 obtain ⟨i,n⟩:=Fq j;refine ⟨λhh e a w ho hs next Q g=> ?_,λg=> ?_⟩
 ·exact l hh e a w ho hs _ (i hh) next Q λx b c k m=>g _ _ _ k m
 grind
theorem Tl (ok:tb.Ok P) (hv:AA P tb o ch s h K):gS P o ch s h K:=by
 obtain ⟨b0,op,ty,pos,after,guard⟩:=o;cases op with
 | store t x y=>exact UC ok rfl hv
 | alloc t=>exact UE ok rfl hv
 | box t x=>exact Z3 rfl hv
 | buildSlice t n ps=>exact Za ok rfl hv
 | makeMap t r=>
  cases r with
  | none=>exact adw rfl hv
  | some x=>exact hv.elim
 | makeSlice t x y=>
  obtain ⟨a,B,q⟩:=lF hv;obtain ⟨b,I,E⟩:=lF q;clear hv q;split at E
  ·rename_i m n e J;exact Xp ok rfl B I J E
  ·exact E.elim
 | mapUpdate t x y z=>exact NZ ok (.inl rfl) hv
 | insert t x y z=>exact NZ ok (.inr rfl) hv
 | mapEntry t x y=>obtain ⟨a,B,q⟩:=lF hv;obtain ⟨b,I,E⟩:=lF q;refine zm E λi β ρ j w C v l=> ?_;have A:ρ x=_:=bX (j x (by simp [Op.operands])) i B;have O:ρ y=_:=bX (j y (by simp [Op.operands])) i I;simp only [execOp,A,O,LVal,Sem.run_bind,l,Result.andThen_ok,Sem.run_pure]
 | binOp op t x y g=>obtain ⟨a,B,q⟩:=lF hv;obtain ⟨b,I,E⟩:=lF q;refine zm E λi β ρ j w C v l=> ?_;have A:ρ x=_:=bX (j x (by simp [Op.operands])) i B;have O:ρ y=_:=bX (j y (by simp [Op.operands])) i I;have l:(do eqGuard op t x y a b;binOp op t a b:Sem Value).run P w=.ok v C:=l;simp only [execOp,A,O,LVal,Sem.run_bind] at l ⊢;rw [l];rfl
 | entryStore t x y z=>obtain ⟨a,B,q⟩:=lF hv;obtain ⟨b,I,E⟩:=lF q;obtain ⟨c,b2,b7⟩:=lF E;refine FW b7 λi β ρ w j F K D=> ?_;have A:ρ x=_:=bX (j x (by simp [Op.operands])) i B;have O:ρ y=_:=bX (j y (by simp [Op.operands])) i I;have hz:ρ z=_:=bX (j z (by simp [Op.operands])) i b2;obtain ⟨u',C,U,l,V,X⟩:=Qa _ F D;refine ⟨(),U,C,?_,V,X⟩;simp only [execOp,A,O,hz,LVal,Sem.run_bind,l,Result.andThen_ok,Sem.run_pure]
 | range t x=>obtain ⟨a,B,q⟩:=lF hv;refine Cv q λi β ρ j w C v l=> ?_;have A:ρ x=_:=bX (j x (by simp [Op.operands])) i B;simp only [execOp,A,LVal,Sem.run_bind,l,Result.andThen_ok,Sem.run_pure]
 | next x b=>obtain ⟨a,B,q⟩:=lF hv;refine Cv q λi β ρ j w C v l=> ?_;have A:ρ x=_:=bX (j x (by simp [Op.operands])) i B;simp only [execOp,A,LVal,Sem.run_bind,l,Result.andThen_ok,Sem.run_pure]
 | convert src b1 x=>
  obtain ⟨a,B,q⟩:=lF hv;clear hv;split at q
  ·rename_i b e g H J;split at q
   ·rename_i Y Z;exact UG ok rfl B H J Y Z q
   ·exact q.elim
  ·rename_i p n c e g H J;split at q
   ·rename_i u0 Y Z;cases hb:Nat.beq src b1 with
    | false=>grind
    | true=>simp only [hb,cond_true] at q;exact Xr ok rfl B H J Y Z (Nat.eq_of_beq_eq_true hb) q
   ·exact q.elim
  ·exact q.elim
 | call c=>
  obtain ⟨callee,S,T⟩:=c;cases callee with
  | invoke r m=>exact hv.elim
  | builtin b=>
   obtain ⟨R,N,d⟩:=HH hv;clear hv;have G:holds s ch->∀(β:Nat->Nat) (ρ:Operand->Value),(∀x∈(Op.call {callee:=.builtin b,args:=S,argTypes:=T}).operands,fE β s ρ x)->S.map ρ=R.toArray:=by intro i β ρ j;have:=Cl (β:=β) (ρ:=ρ) i N λx A=>j x (by simp [Op.operands,Call.operands];simpa using A);grind
   cases b with
   | append=>exact Ti ok rfl N d
   | copy=>
    replace d:xY _ _ _ _ _ _ _ _:=d;unfold xY at d;split at d
    ·rename_i p n c p' n' c' t t' a9;split at d
     ·rename_i e J;exact Xn ok rfl N a9 J d
     ·exact d.elim
    ·refine zm d λi β ρ j w C v l=> ?_;simp only [execOp,resolve,invoke,builtin,Sem.run_bind,Sem.run_pure,Result.andThen_ok,G i β ρ j,l]
   | delete=>
    replace d:Dl _ _ _ _ _ _ _ _:=d;unfold Dl at d;split at d
    ·rename_i m k t t' a9;have b6:T= #[t,t']:=by grind
     split at d
     ·rename_i e H;split at d
      ·rename_i kt u hu;split at d
       ·rename_i ke D;cases a8:uB ke.cH with
        | true=>simp only [a8,cond_true] at d;refine wT (f:=λ_=>.tuple #[]) d λi β ρ w j F K b4=> ?_;obtain ⟨U,C,l,V,X⟩:=Tk (rt:=ty) (t':=t') ok H hu D a8 F b4;refine ⟨(),U,C,?_,V,X⟩;have ha:=G i β ρ j;simp only [execOp,resolve,invoke,builtin,Sem.run_bind,Sem.run_pure,Result.andThen_ok,ha,b6,l]
        | false=>simp only [a8,cond_false] at d;refine zm d λi β ρ j w C v l=> ?_;simp only [execOp,resolve,invoke,builtin,Sem.run_bind,Sem.run_pure,Result.andThen_ok,G i β ρ j,l]
       ·exact d.elim
      ·exact d.elim
     ·exact d.elim
    ·exact d.elim
   | clear=>refine zm d λi β ρ j w C v l=> ?_;simp only [execOp,resolve,invoke,builtin,Sem.run_bind,Sem.run_pure,Result.andThen_ok,G i β ρ j,l]
   | _=>exact d.elim
  | value f=>
   obtain ⟨R,N,d⟩:=HH hv;clear hv;have G:holds s ch->∀(β:Nat->Nat) (ρ:Operand->Value),(∀x∈(Op.call {callee:=.value f,args:=S,argTypes:=T}).operands,fE β s ρ x)->S.map ρ=R.toArray:=by intro i β ρ j;have:=Cl (β:=β) (ρ:=ρ) i N λx A=>j x (by simp [Op.operands,Call.operands];right;simpa using A);grind
   cases f with
   | func g=>
    replace d:D8 _ _ _ _ _ _ _ _:=d;unfold D8 at d;split at d
    ·rename_i e H;cases M:tb.call g with
     | false=>
      simp only [M,cond_false] at d;split at d
      ·rename_i fx A;refine Ft (f:=e.sh.enc) d λi β a w j F K D next Q W=> ?_
       obtain ⟨u,C,U,l,⟨x,rfl,V⟩,X⟩:=Qa _ F D;have L:a.eval (.func g)=.func (.func g) #[] #[]:=rfl;have b5:(execOp a.eval {dst:=b0,op:=.call {callee:=.value (.func g),args:=S,argTypes:=T},type:=ty,pos:=pos,after:=after,guard:=guard}).run P w=.ok (.value (e.sh.enc x)) C:=by
        simp only [execOp,resolve,Deferred.ofValue,L,G i β a.eval j,Sem.run_bind,Sem.run_pure,Result.andThen_ok,invoke];have e1: #[]++R.toArray++ #[]=R.toArray:=by simp
        rw [e1,ok.ext g fx A _ w,l];rfl
       unfold Oper.wp;rw [b5,Oper.upon_value];grind
      ·exact d.elim
     | true=>
      simp only [M,cond_true] at d;refine Ft (f:=e.sh.enc) d λi β a w j F K D next Q W=> ?_
      have L:a.eval (.func g)=.func (.func g) #[] #[]:=rfl;exact Mk (first:= #[]) (captured:= #[]) ok rfl M L (G i β a.eval j) (by simpa using D) F W
    ·exact d.elim
   | tmp t=>
    replace d:D9 _ _ _ _ _ _ _ _:=d;unfold D9 at d;split at d
    ·rename_i e H;obtain ⟨fv,b3,E⟩:=lF d;refine Ft (f:=e.sh.enc) E λi β a w j F K D next Q W=> ?_
     obtain ⟨g,first,captured,rfl,M,D⟩:=D;have L:a.eval (.tmp t)=_:=bX (j (.tmp t) (by simp [Op.operands,Call.operands])) i b3;exact Mk ok rfl M L (G i β a.eval j) D F W
    ·exact d.elim
   | const v=>exact d.elim
   | global g=>exact d.elim
 | _=>exact hv.elim
theorem Tn {C:Ctx} {k:List Oper} (hv:Dm C k o ch s h K):gS C.P o ch s h K:=by
 obtain ⟨m,op,ty,pos,after,guard⟩:=o;unfold Dm at hv;split at hv
 ·rename_i x d b n;subst b;obtain ⟨a,c,i⟩:=lF hv;refine Cv i λe q l f w p v g=> ?_;have j:l x=_:=bX (f x (by simp [Op.operands])) e c;simp only [execOp,j,LVal,Sem.run_bind,g,Result.andThen_ok,Sem.run_pure]
 ·exact hv.elim
end
theorem Ea {s a:St} {c:bp} (b:∀p∈c,a.f p.1=s.f p.1):holds a c↔holds s c:=by
 have key:∀p∈c,hb a p.1=hb s p.1:=λp hp=>by unfold hb;rw [b p hp]
 exact ⟨λh p hp=>by rw [<-key p hp];exact h p hp,λh p hp=>by rw [key p hp];exact h p hp⟩
theorem G8 (s:St) (d:Nat) (l:LV) (ch:bp):(s.put (some d) l ch).f d=some (l,ch):=by simp [St.put]
theorem qL {i j:Nat} (h:i≠j):Nat.beq i j=false:=by
 cases e:Nat.beq i j with
 | false=>rfl
 | true=>exact absurd (Nat.eq_of_beq_eq_true e) h
theorem vi (s:St) {d t:Nat} (l:LV) (ch:bp) (h:t≠d):(s.put (some d) l ch).f t=s.f t:=by simp [St.put,qL h]
theorem Bh (s:St) (k:Nat) (a:List Value):(s.hO k a).m k=some a:=by simp [St.hO]
theorem zK (s:St) {k j:Nat} (a:List Value) (h:j≠k):(s.hO k a).m j=s.m j:=by simp [St.hO,qL h]
theorem zxz {a:Act} {d:Nat} {v:Value} (h:d<a.tmps.size):(a.put (some d) v).eval (.tmp d)=v:=by simp [Act.put,Act.eval,h]
theorem HC {a:Act} {d t:Nat} {v:Value} (h:t≠d):(a.put (some d) v).eval (.tmp t)=a.eval (.tmp t):=by simp [Act.put,Act.eval,Array.getElem?_setIfInBounds_ne (Ne.symm h)]
structure RR (n:Nat) (Cur Liv D N:Nat->Prop) (β:Nat->Nat) (s:St) (a:Act) (h:Hp) (w:World):Prop where
 sz:a.tmps.size=n
 sub:Sub h w
 lt:∀t l c,s.f t=some (l,c)->t<n
 chain:∀t l c,s.f t=some (l,c)->∀p∈c,D p.1
 cur:∀t l c,s.f t=some (l,c)->Cur t->holds s c->a.eval (.tmp t)=LVal β l/\∀k o,(l=.box k o\/l=.eH k o)->Liv k
 cH:∀t l c,s.f t=some (l,c)->Cur t->¬holds s c->a.eval (.tmp t)=undef
 box:∀k cs,s.m k=some cs->Liv k->h (β k)=none/\∃ct,w.heap[β k]? =some (.cells cs.toArray ct (0,0))
 inj:∀k k',s.m k≠none->s.m k'≠none->Liv k->Liv k'->β k=β k'->k=k'
 mL:∀k,N k->s.m k=none
 ly:∀k,N k->∀t l c,s.f t=some (l,c)->holds s c->∀o,l≠ .box k o/\l≠ .eH k o
def live (s:St) (a:Nat->Prop) (k:Nat):Prop:=s.m k≠none/\a k
structure im (l mm:List Nat) (lv:Nat->Prop) (β:Nat->Nat) (a:Act) (h:Hp) (w:World) (lv':Nat->Prop) (β':Nat->Nat) (a':Act) (h':Hp) (w':World):Prop where
 tmp:∀i,i∉l->a'.eval (.tmp i)=a.eval (.tmp i)
 beta:∀k,(k∉l\/k∉mm)->β' k=β k
 size:w.heap.size<=w'.heap.size
 zW:∀b,b<w.heap.size->h b=none->(∀k∈mm,lv k->β k≠b)->h' b=none
 bO:∀b,b<w.heap.size->h b=none->(∀k∈mm,lv k->β k≠b)->w'.heap[b]? =w.heap[b]?
 fresh:∀k,lv' k->(lv k/\β' k=β k)\/w.heap.size<=β' k
 os:w'.os=w.os
 tape:w'.tape=w.tape
 output:w'.output=w.output
 defers:a'.defers=a.defers
section
variable {n:Nat} {q Liv D N:Nat->Prop} {β:Nat->Nat} {s:St} {a:Act} {h:Hp} {w:World}
theorem iH {w:World} {b:Nat} {o:Obj} (h:w.heap[b]? =some o):b<w.heap.size:=by grind
theorem Xt (c:Sub h w) {b:Nat} (hb:w.heap.size<=b):h b=none:=by
 cases e:h b with
 | none=>rfl
 | some x=>exact absurd (c.lt e) (Nat.not_lt.2 hb)
theorem im.refl (l mm:List Nat):im l mm (live s Liv) β a h w (live s Liv) β a h w:=
 ⟨λ_ _=>rfl,λ_ _=>rfl,Nat.le_refl _,λ_ _ e _=>e,λ_ _ _ _=>rfl,λ_ e=>.inl ⟨e,rfl⟩,rfl,rfl,rfl,rfl⟩
theorem im.trans {l e:List Nat} {lv lv1 m:Nat->Prop} {β β1 p:Nat->Nat} {a a1 a2:Act} {h h1 d:Hp} {w w1 o:World}
  (x:im l e lv β a h w lv1 β1 a1 h1 w1) (y:im l e lv1 β1 a1 h1 w1 m p a2 d o):im l e lv β a h w m p a2 d o:=by
 have j:∀b,b<w.heap.size->(∀k∈e,lv k->β k≠b)->∀k∈e,lv1 k->β1 k≠b:=λb hb c k t r=>by
  rcases x.fresh k r with ⟨h1,d⟩ | h1
  ·rw [d];exact c k t h1
  omega
 refine ⟨λi g=>(y.tmp i g).trans (x.tmp i g),λk c=>(y.beta k c).trans (x.beta k c),Nat.le_trans x.size y.size,λb hb f c=> ?_,λb hb f c=> ?_,λk c=> ?_,
  y.os.trans x.os,y.tape.trans x.tape,y.output.trans x.output,y.defers.trans x.defers⟩
 ·exact y.zW b (Nat.lt_of_lt_of_le hb x.size) (x.zW b hb f c) (j b hb c)
 ·exact (y.bO b (Nat.lt_of_lt_of_le hb x.size) (x.zW b hb f c) (j b hb c)).trans (x.bO b hb f c)
 ·rcases y.fresh k c with ⟨h1,d⟩ | h1
  ·rw [d];exact x.fresh k h1
  ·exact .inr (Nat.le_trans x.size h1)
theorem im.mono {l v l' mm':List Nat} {p t r u:Nat->Prop} {β z:Nat->Nat} {a a1:Act} {h d:Hp} {w y:World}
  (x:im l v p β a h w t z a1 d y) (o:∀i∈l,i∈l') (j:∀i∈v,i∈mm') (hv:∀k,p k->r k) (B:∀k,u k->t k):im l' mm' r β a h w u z a1 d y:=
 ⟨λi A=>x.tmp i λe=>A (o i e),λk c=>x.beta k (c.imp (λe f=>e (o k f)) (λe f=>e (j k f))),x.size,λb hb m c=>x.zW b hb m λk d g=>c k (j k d) (hv k g),λb hb m c=>x.bO b hb m λk d g=>c k (j k d) (hv k g),
  λk c=>(x.fresh k (B k c)).imp (λe=>⟨hv k e.1,e.2⟩) id,x.os,x.tape,x.output,x.defers⟩
theorem im.step {l i:List Nat} {lv:Nat->Prop} {f:Hp} {g:World} (c:Step h f w g):im l i lv β a h w lv β a f g:=
 ⟨λ_ _=>rfl,λ_ _=>rfl,c.size,λb hb d _=>(c.bO b hb d).2,λb hb d _=>(c.bO b hb d).1,λ_ e=>.inl ⟨e,rfl⟩,c.os,c.tape,c.output,rfl⟩
theorem im.put {l mm:List Nat} {lv:Nat->Prop} {d:Option Nat} {v:Value} (b:∀i,d=some i->i∈l):im l mm lv β a h w lv β (a.put d v) h w:=by
 refine ⟨λi c=> ?_,λ_ _=>rfl,Nat.le_refl _,λ_ _ e _=>e,λ_ _ _ _=>rfl,λ_ e=>.inl ⟨e,rfl⟩,rfl,rfl,rfl,by cases d<;>rfl⟩;cases d with
 | none=>rfl
 | some d=>exact HC λe=>c (e▸b d rfl)
theorem RR.step (b:RR n q Liv D N β s a h w) {c:Hp} {e:World} (d:Step h c w e):RR n q Liv D N β s a c e:=
 ⟨b.sz,d.sub,b.lt,b.chain,b.cur,b.cH,λk f l j=>by
  obtain ⟨g,m,i⟩:=b.box k f l j;obtain ⟨o,p⟩:=d.bO _ (iH i) g;grind,b.inj,b.mL,b.ly⟩
theorem RR.congr (b:RR n q Liv D N β s a h w) {m u r v:Nat->Prop} (j:∀t,m t↔q t) (g:∀t,u t↔Liv t) (z:∀t,D t->r t) (x:∀t,v t->N t):
  RR n m u r v β s a h w:=
 ⟨b.sz,b.sub,b.lt,λt l c e p hp=>z _ (b.chain t l c e p hp),λt l c e d f=>⟨(b.cur t l c e ((j t).1 d) f).1,λk o i=>(g k).2 ((b.cur t l c e ((j t).1 d) f).2 k o i)⟩,
  λt l c e d f=>b.cH t l c e ((j t).1 d) f,λk cs e d=>b.box k cs e ((g k).1 d),λk y e i d f=>b.inj k y e i ((g k).1 d) ((g y).1 f),
  λk e=>b.mL k (x k e),λk e=>b.ly k (x k e)⟩
theorem GA {d:Nat} {l:LV} {ch c:bp} (b:¬D d) (f:∀p∈c,D p.1):holds (s.put (some d) l ch) c↔holds s c:=
 Ea λp hp=>vi s l ch λe=>b (e▸f p hp)
theorem GL (d:RR n q Liv D N β s a h w) {x:Operand} (i:∀t,x=.tmp t->q t):fE β s a.eval x:=by
 cases x with
 | tmp t=>exact λl c e b=>(d.cur t l c e (i t rfl) b).1
 | const v=>rfl
 | global g=>rfl
 | func f=>rfl
theorem Mm (b:RR n q Liv D N β s a h w) {o:Oper} (i:∀t,Operand.tmp t∈o.op.operands->q t):rP β s o w:=by
 intro t g k off c hf e d f;rcases hf with hf | hf
 ·exact (b.box k d f ((b.cur t _ c hf (i t g) e).2 k off (.inl rfl))).2
 ·exact (b.box k d f ((b.cur t _ c hf (i t g) e).2 k off (.inr rfl))).2
theorem RR.lift (g:RR n q Liv D N β s a h w) {d:Nat} {l:LV} {ch:bp} (y:d<n) (r:¬D d) (u:∀p∈ch,D p.1) (A:holds s ch->∀k o,(l=.box k o\/l=.eH k o)->¬N k):
  RR n (λt=>t≠d/\q t) Liv D N β (s.put (some d) l ch) a h w:=by
 have key:∀t b c,(s.put (some d) l ch).f t=some (b,c)->t=d/\b=l/\c=ch\/t≠d/\s.f t=some (b,c):=λt b c e=>by
  by_cases v:t=d
  ·subst v;rw [G8] at e;grind
  ·rw [vi _ _ _ v] at e;grind
 refine ⟨g.sz,g.sub,λt b c e=> ?_,λt b c e=> ?_,λt b c e m j=> ?_,λt b c e m j=> ?_,g.box,g.inj,g.mL,λk z t b c e j o=> ?_⟩
 ·rcases key t b c e with ⟨rfl,_,_⟩ | ⟨_,i⟩
  ·exact y
  ·exact g.lt t b c i
 ·rcases key t b c e with ⟨_,_,rfl⟩ | ⟨_,i⟩
  ·exact u
  ·exact g.chain t b c i
 ·rcases key t b c e with ⟨rfl,_,_⟩ | ⟨_,i⟩
  ·exact absurd rfl m.1
  ·exact g.cur t b c i m.2 ((GA r (g.chain t b c i)).1 j)
 ·rcases key t b c e with ⟨rfl,_,_⟩ | ⟨_,i⟩
  ·exact absurd rfl m.1
  ·exact g.cH t b c i m.2 λx=>j ((GA r (g.chain t b c i)).2 x)
 ·rcases key t b c e with ⟨_,rfl,rfl⟩ | ⟨_,i⟩
  ·have B:=(GA r u).1 j;grind
  ·exact g.ly k z t b c i ((GA r (g.chain t b c i)).1 j) o
theorem RR.exec (b:RR n q Liv D N β s a h w) {d:Nat} {l:LV} {ch:bp} {v:Value} (m:s.f d=some (l,ch)) (y:¬q d)
  (u:holds s ch->v=LVal β l/\∀k o,(l=.box k o\/l=.eH k o)->Liv k) (x:¬holds s ch->v=undef):
  RR n (λt=>t=d\/q t) Liv D N β s (a.put (some d) v) h w:=by
 have r:=b.lt d l ch m;refine ⟨by simpa [Act.put] using b.sz,b.sub,b.lt,b.chain,λt p c e j i=> ?_,λt p c e j i=> ?_,b.box,b.inj,b.mL,b.ly⟩
 ·by_cases g:t=d
  ·subst g;rw [m] at e;cases e;rw [zxz (by rw [b.sz];exact r)];exact u i
  ·rw [HC g];exact b.cur t p c e (j.resolve_left g) i
 ·by_cases g:t=d
  ·subst g;rw [m] at e;cases e;rw [zxz (by rw [b.sz];exact r)];exact x i
  ·rw [HC g];exact b.cH t p c e (j.resolve_left g) i
theorem RR.CJ (b:RR n q Liv D N β s a h w) {d:Nat} (u:List Value) (I:d<n) (G:¬D d) (H:N d):
  RR n (λt=>t≠d/\q t) (λk=>k≠d/\Liv k) D (λk=>k≠d/\N k) β ((s.put (some d) (.box d 0) []).hO d u) a h w:=by
 have r:∀t,t≠d->((s.put (some d) (.box d 0) []).hO d u).f t=s.f t:=λt i=>vi s _ _ i;have J:((s.put (some d) (.box d 0) []).hO d u).f d=some (.box d 0,[]):=G8 s _ _ _;have z:∀k,k≠d->((s.put (some d) (.box d 0) []).hO d u).m k=s.m k:=λk g=>zK _ _ g;have A:∀c:bp,(∀p∈c,D p.1)->(holds ((s.put (some d) (.box d 0) []).hO d u) c↔holds s c):=λc j=>Ea λp hp=>r _ λe=>G (e▸j p hp);refine ⟨b.sz,b.sub,λt l c e=> ?_,λt l c e=> ?_,λt l c e j v=> ?_,λt l c e j v=> ?_,λk E e g=> ?_,λk C e x g B=> ?_,λk g=> ?_,λk g t l c e v o=> ?_⟩
 ·by_cases i:t=d
  ·exact i▸I
  ·exact b.lt t l c (by rwa [r t i] at e)
 ·by_cases i:t=d
  ·grind
  ·exact b.chain t l c (by rwa [r t i] at e)
 ·rw [r t j.1] at e;have y:=(A c (b.chain t l c e)).1 v;have:=b.cur t l c e j.2 y;refine ⟨this.1,λk o x=>⟨λF=> ?_,this.2 k o x⟩⟩;subst F;have:=b.ly k H t l c e y o;grind
 ·rw [r t j.1] at e;exact b.cH t l c e j.2 λy=>v ((A c (b.chain t l c e)).2 y)
 ·rw [z k g.1] at e;exact b.box k E e g.2
 ·rw [z k g.1] at e;rw [z C B.1] at x;exact b.inj k C e x g.2 B.2
 ·rw [z k g.1];exact b.mL k g.2
 ·by_cases i:t=d
  ·grind
  ·rw [r t i] at e;exact b.ly k g.2 t l c e ((A c (b.chain t l c e)).1 v) o
theorem O4 (c:Sub h w) (o:Obj):Step h h w {w with heap:=w.heap.push o}:=by
 refine ⟨λb x e=> ?_,by simp,λb hb f=>⟨?_,f⟩,rfl,rfl,rfl⟩
 ·have d:=c.lt e;simp only [Array.getElem?_push,if_neg (Nat.ne_of_lt d)];exact c b x e
 grind
def xw (β:Nat->Nat) (d b:Nat):Nat->Nat:=λk=>if k=d then b else β k
theorem RR.CF (b:RR n q Liv D N β s a h w) {d:Nat} {C:List Value} (t:Nat) (G:s.f d=some (.box d 0,[])) (O:s.m d=some C) (R:¬q d) (H:¬Liv d):
  RR n (λt=>t=d\/q t) (λk=>k=d\/Liv k) D N (xw β d w.heap.size) s (a.put (some d) (.pointer (some ⟨w.heap.size,0,none⟩))) h {w with heap:=w.heap.push (.cells C.toArray t (0,0))}:=by
 have P:h w.heap.size=none:=Xt b.sub (Nat.le_refl _);have J:∀k,s.m k≠none->Liv k->β k<w.heap.size:=λk i M=>by obtain ⟨E,e⟩:=Option.ne_none_iff_exists'.1 i;obtain ⟨_,Q,K⟩:=b.box k E e M;exact iH K
 have b:=b.step (O4 b.sub (.cells C.toArray t (0,0)));have L:=b.lt d _ _ G;have p:∀k,k≠d->xw β d w.heap.size k=β k:=λk i=>by simp [xw,i]
 refine ⟨by simpa [Act.put] using b.sz,b.sub,b.lt,b.chain,λz B c e F A=> ?_,λz B c e F A=> ?_,λk E e i=> ?_,λk u e y i I r=> ?_,b.mL,b.ly⟩
 ·by_cases l:z=d
  ·subst l;rw [G] at e;cases e;rw [zxz (by rw [b.sz];exact L)];refine ⟨by simp [LVal,xw],λk o y=>.inl ?_⟩;grind
  ·rw [HC l];have:=b.cur z B c e (F.resolve_left l) A;refine ⟨?_,λk o y=>.inr (this.2 k o y)⟩;rw [this.1];cases B with
   | v x=>rfl
   | box k o=>have i:k≠d:=λg=>H (g▸this.2 k o (.inl rfl));simp [LVal,p k i]
   | eH k o=>have i:k≠d:=λg=>H (g▸this.2 k o (.inr rfl));simp [LVal,p k i]
 ·by_cases l:z=d
  ·subst l;rw [G] at e;cases e;exact absurd (bY s) A
  ·rw [HC l];exact b.cH z B c e (F.resolve_left l) A
 ·by_cases g:k=d
  ·subst g;rw [O] at e;cases e;refine ⟨?_,t,?_⟩
   ·simpa [xw] using P
   ·simp [xw]
  ·rw [p k g];exact b.box k E e (i.resolve_left g)
 ·by_cases g:k=d
  ·by_cases j:u=d
   ·rw [g,j]
   ·rw [p u j,g] at r;have:=J u y (I.resolve_left j);simp only [xw,if_true] at r;omega
  ·by_cases j:u=d
   ·rw [p k g,j] at r;have:=J k e (i.resolve_left g);simp only [xw,if_true] at r;omega
   ·rw [p k g,p u j] at r;exact b.inj k u e y (i.resolve_left g) (I.resolve_left j) r
theorem Ir {l mm:List Nat} {d:Nat} {g:List Value} (t:Nat) (r:Sub h w) (v:s.m d=some g) (u:¬Liv d) (o:d∈l) (x:d∈mm):
  im l mm (live s Liv) β a h w (live s λk=>k=d\/Liv k) (xw β d w.heap.size) (a.put (some d) (.pointer (some ⟨w.heap.size,0,none⟩))) h {w with heap:=w.heap.push (.cells g.toArray t (0,0))}:=by
 refine ⟨λi j=>HC λe=>j (e▸o),λk f=> ?_,by simp,λ_ _ e _=>e,λb hb p _=>((O4 r _).bO b hb p).1,λk f=> ?_,rfl,rfl,rfl,rfl⟩
 ·have:k≠d:=λe=>by grind
  simp [xw,this]
 ·by_cases c:k=d
  ·subst c;exact .inr (by simp [xw])
  ·exact .inl ⟨⟨f.1,f.2.resolve_left c⟩,by simp [xw,c]⟩
theorem Bi (b:Nat) (d:Nat):∀(new:List Value) (h:Hp) (i off:Nat) (c:List Value),off+i+new.length<=c.length->h b=some (.cells c.toArray d (0,0))->
  (lz h ⟨b,off,none⟩ new i) b=some (.cells (mr c (off+i) new).toArray d (0,0))/\∀f,f≠b->(lz h ⟨b,off,none⟩ new i) f=h f
 | [],h,i,off,c,g,e=>by refine ⟨?_,λ_ _=>rfl⟩;rw [Cm _ _ _ (by simpa using g)];simpa [lz] using e
 | v::new,h,i,off,c,g,e=>by
  simp at g;have l:(h.put ((⟨b,off,none⟩:Addr).add i) v)=h.set b (.cells (c.set (off+i) v).toArray d (0,0)):=by rw [kE];unfold Hp.put;grind
  have m:(h.set b (.cells (c.set (off+i) v).toArray d (0,0))) b=some (.cells (c.set (off+i) v).toArray d (0,0)):=by simp [Hp.set]
  obtain ⟨o,p⟩:=Bi b d new _ (i+1) off (c.set (off+i) v) (by simp;omega) m;simp only [lz,l];refine ⟨?_,λf k=> ?_⟩
  ·rw [o,Cm _ _ _ (by simp;omega),Cm _ _ _ (by simp;omega)];congr 3;apply List.ext_getElem?;intro j;simp only [List.getElem?_append,List.length_append,List.length_take,List.length_set,List.length_cons,List.getElem?_take,List.getElem?_drop,List.getElem?_set];grind
  ·rw [p f k];simp [Hp.set,k]
theorem acM {P:Program} {b k off:Nat} {d new:List Value} (z:Sub h w) (hb:w.heap[b]? =some (.cells d.toArray k (0,0))) (F:h b=none) (x:jL new=true) (E:off+new.length<=d.length):
  ∃c,(storeCells ⟨b,off,none⟩ new 0).run P w=.ok () c/\c.heap[b]? =some (.cells (mr d off new).toArray k (0,0))/\(∀f,f<w.heap.size->f≠b->h f=none->c.heap[f]? =w.heap[f]?)/\
   Sub h c/\w.heap.size<=c.heap.size/\c.os=w.os/\c.tape=w.tape/\c.output=w.output:=by
 have A:Sub (h.set b (.cells d.toArray k (0,0))) w:=by
  intro i o e;unfold Hp.set at e;by_cases l:i=b
  ·grind
  ·simp [l] at e;exact z i o e
 have m:(h.set b (.cells d.toArray k (0,0))) b=some (.cells d.toArray k (0,0)):=by simp [Hp.set]
 obtain ⟨c,y,g⟩:=Hv (P:=P) (a:=⟨b,off,none⟩) new 0 _ w A x (λj C=>by
  rw [kE];refine ⟨⟨d[off+(0+j)]'(by omega),?_⟩,?_⟩
  ·simp only [dy,m];simp
  ·simp only [ic,m];simp)
 obtain ⟨p,r⟩:=Bi b k new _ 0 off d (by omega) m;refine ⟨c,y,g.sub _ _ p,λf t v u=>(g.bO f t (by simp [Hp.set,v,u])).1,λi o e=>g.sub i o ?_,g.size,g.os,g.tape,g.output⟩;have l:i≠b:=λB=>by grind
 rw [r i l];simp [Hp.set,l,e]
theorem RR.DI (b:RR n q Liv D N β s a h w) {k l:Nat} {i j:List Value} {g:World} (v:s.m k=some i) (r:Liv k)
  (hb:g.heap[β k]? =some (.cells j.toArray l (0,0))) (F:∀f,f<w.heap.size->f≠β k->h f=none->g.heap[f]? =w.heap[f]?) (G:Sub h g):
  RR n q Liv D N β (s.hO k j) a h g:=by
 refine ⟨b.sz,G,b.lt,b.chain,b.cur,b.cH,λd z e u=> ?_,λx y C E=>b.inj x y ?_ ?_,λd t=> ?_,b.ly⟩
 ·by_cases c:d=k
  ·subst c;rw [Bh] at e;cases e;exact ⟨(b.box d i v r).1,l,hb⟩
  ·rw [zK _ _ c] at e;obtain ⟨o,A,p⟩:=b.box d z e u;refine ⟨o,A,?_⟩;rw [F _ (iH p) (λB=>c (b.inj d k (by simp [e]) (by simp [v]) u r B)) o];exact p
 ·intro e;by_cases c:x=k
  ·grind
  ·exact C (by rw [zK _ _ c];exact e)
 ·intro e;by_cases c:y=k
  ·grind
  ·exact E (by rw [zK _ _ c];exact e)
 ·by_cases c:d=k
  ·have:=b.mL d t;grind
  ·rw [zK _ _ c];exact b.mL d t
end
section
variable {n:Nat} {g Liv D N:Nat->Prop} {β:Nat->Nat} {s:St} {a:Act} {h:Hp} {w:World}
theorem RR.gP (j:RR n g Liv D N β s a h w) {dst:Option Nat} {l:LV} {ch:bp} {v:Value} (q:∀d,dst=some d->d<n/\¬D d) (f:∀p∈ch,D p.1)
  (i:holds s ch->v=LVal β l/\∀k o,(l=.box k o\/l=.eH k o)->Liv k/\¬N k) (m:¬holds s ch->v=undef):
  RR n (λt=>dst=some t\/g t) Liv D N β (s.put dst l ch) (a.put dst v) h w:=by
 cases dst with
 | none=>exact j.congr (λt=>by simp) (λ_=>.rfl) (λ_ e=>e) (λ_ e=>e)
 | some d=>
  obtain ⟨r,c⟩:=q d rfl;have u:=(j.lift r c f λb k o e=>(((i b).2 k o e).2)).exec (v:=v) (G8 s d l ch) (λe=>e.1 rfl)
   (λb=>⟨(i ((GA c f).1 b)).1,λk o e=>((i ((GA c f).1 b)).2 k o e).1⟩) (λb=>m λe=>b ((GA c f).2 e))
  grind
theorem Mn (v:RR n g Liv D N β s a h w) {c:bp} {k:List Oper} {m:Nat} {o:Oper} (e:rL k m o=some c) (f:vU s c=true)
  (z:∀j b p d,o.guard=some (j,b)->nth k j=some p->p.dst=some d->D d):∀p∈c,D p.1:=by
 cases m with
 | zero=>simp [rL] at e
 | succ m=>
  simp only [rL] at e;split at e
  ·cases e;simp
  ·rename_i j b A;split at e
   ·rename_i p hp;split at e
    ·rename_i d l y x;cases e;simp only [vU] at f;split at f
     ·rename_i t r u;cases i:qA r l with
      | false=>simp [i] at f
      | true=>
       have:=BZ i;subst this;intro q hq;rcases List.mem_cons.1 hq with rfl | hq
       ·grind
       ·exact v.chain d _ _ u q hq
     ·cases f
    ·cases e
   ·cases e
theorem N1 (r:RR n g Liv D N β s a h w) {ch:bp} {ops:Array Oper} {m:Nat} {o:Oper} (c:rL ops.toList m o=some ch) (i:vU s ch=true)
  (B:∀j b p d,o.guard=some (j,b)->nth ops.toList j=some p->p.dst=some d->g d):Region.wanted o (yielded ops a.tmps)=true↔holds s ch:=by
 cases m with
 | zero=>simp [rL] at c
 | succ m=>
  simp only [rL] at c;split at c
  ·rename_i k;cases c;simp [Region.wanted,k,bY]
  ·rename_i j b k;split at c
   ·rename_i p hp;split at c
    ·rename_i d A y F;cases c;simp only [vU] at i;split at i
     ·rename_i t u f;cases v:qA u A with
      | false=>simp [v] at i
      | true=>
       have:=BZ v;subst this;have x:=B j b p d k hp y;have z:d<a.tmps.size:=by rw [r.sz];exact r.lt d _ _ f
       have C:ops[j]? =some p:=by rw [pe] at hp;simpa using hp
       have E:yielded ops a.tmps j=match a.eval (.tmp d) with | .bool b=>some b | _=>none:=by unfold yielded;simp only [C,Option.bind_some,y,Act.eval];have:a.tmps[d]? =some (a.tmps[d]'z):=Array.getElem?_eq_getElem z;simp only [this,Array.getD_eq_getD_getElem?,Option.getD_some];grind
       simp only [Region.wanted,k,E];by_cases l:holds s u
       ·have:=(r.cur d _ _ f x l).1;rw [this];simp only [LVal];constructor
        ·intro e;have e:t=b:=by simpa using e
         subst e;intro q hq;rcases List.mem_cons.1 hq with rfl | hq
         ·simp [hb,f]
         ·exact l q hq
        ·intro e;have:=e (d,b) (List.mem_cons_self ..);simp only [hb,f] at this;simpa using this
       ·have:=r.cH d _ _ f x l;rw [this];simp only [undef];refine ⟨λe=>by simp at e,λe=>absurd (λq hq=>e q (List.mem_cons_of_mem _ hq)) l⟩
     ·cases i
    ·cases c
   ·cases c
def di (aY:List Nat) (o:Oper) (k:Nat):Prop:=nD aY o=true/\o.dst=some k
structure xN (C:Ctx) (l mok:List Nat) (n:Nat) (g Liv D N:Nat->Prop) (o:Oper) (β:Nat->Nat) (s:St) (a:Act) (h:Hp) (w:World) (β':Nat->Nat) (s':St) (a':Act) (h':Hp) (w':World):Prop where
 rr:RR n (λt=>o.dst=some t\/g t) (λk=>di C.aY o k\/Liv k) D (λk=>¬di C.aY o k/\N k) β' s' a' h' w'
 yv:im l mok (live s Liv) β a h w (live s' λk=>di C.aY o k\/Liv k) β' a' h' w'
 f:∀t,o.dst≠some t->s'.f t=s.f t
 m:∀k,s'.m k=s.m k\/di C.aY o k\/(xX o s k=true/\isVal C.tb o=false/\s.m k≠none/\Liv k)
 hv:isVal C.tb o=true->h'=h
 hp:nD C.aY o=true->h'=h
theorem FX {C:Ctx} {o:Oper} (h:nD C.aY o=false) (k:Nat):¬di C.aY o k:=λe=>by have:=e.1;grind
theorem Qv {C:Ctx} {l p:List Nat} {o:Oper} {b:St} {d:Act} {c:Hp} {i:World} (hp:nD C.aY o=false)
  (rr:RR n (λt=>o.dst=some t\/g t) Liv D N β b d c i) (yv:im l p (live s Liv) β a h w (live b Liv) β d c i)
  (f:∀t,o.dst≠some t->b.f t=s.f t) (m:∀k,b.m k=s.m k\/(xX o s k=true/\isVal C.tb o=false/\s.m k≠none/\Liv k)) (hv:isVal C.tb o=true->c=h):
  xN C l p n g Liv D N o β s a h w β b d c i:=by
 have j:∀k,(di C.aY o k\/Liv k)↔Liv k:=λk=>⟨λe=>e.resolve_left (FX hp k),.inr⟩;refine ⟨rr.congr (λ_=>.rfl) j (λ_ e=>e) (λ_ e=>e.2),yv.mono (λ_ e=>e) (λ_ e=>e) (λ_ e=>e) (λk e=>⟨e.1,(j k).1 e.2⟩),f,λk=>(m k).imp id .inr,hv,λe=>by grind⟩
theorem yp (s:St) (d:Option Nat) (l:LV) (ch:bp) (t:Nat) (h:d≠some t):(s.put d l ch).f t=s.f t:=by
 cases d with
 | none=>rfl
 | some d=>exact vi s l ch λe=>h (by rw [e])
theorem oi (s:St) (d:Option Nat) (l:LV) (ch:bp):(s.put d l ch).m=s.m:=by cases d<;>rfl
theorem RD {C:Ctx} {o:Oper} (h:isVal C.tb o=true):nD C.aY o=false:=by obtain ⟨b,op,ty,pos,after,guard⟩:=o;cases op<;>first | rfl | (simp [isVal] at h;done) | (cases b<;>simp [isVal,nD] at h ⊢)
theorem Mp (f:RR n g Liv D N β s a h w) {o:Oper} {ch:bp} {l:LV} (hp:nH o ch s l) (p:holds s ch) (m:∀t,Operand.tmp t∈o.op.operands->g t):
  ∀k off,(l=.box k off\/l=.eH k off)->Liv k/\¬N k:=by
 intro k off e;obtain ⟨x,q,i,hev⟩:=hp k off e;rcases hev with hev | hev
 ·obtain ⟨t,c,rfl,d,b⟩:=vg hev (by simp) p;exact ⟨(f.cur t _ c d (m t q) b).2 k i (.inl rfl),λj=>(f.ly k j t _ c d b i).1 rfl⟩
 ·obtain ⟨t,c,rfl,d,b⟩:=vg hev (by simp) p;exact ⟨(f.cur t _ c d (m t q) b).2 k i (.inr rfl),λj=>(f.ly k j t _ c d b i).2 rfl⟩
theorem Mr {C:Ctx} (ok:C.tb.Ok C.P) {G:Array Oper} {l M:List Nat} {K:St->Hp->Prop} {i:Nat} {o:Oper} (hi:G[i]? =some o) (hv:DB C G.toList M o s h K)
  (q:RR n g Liv D N β s a h w) (a8:∀t,Operand.tmp t∈o.op.operands->g t)
  (b9:∀j b p d,o.guard=some (j,b)->nth G.toList j=some p->p.dst=some d->g d/\D d) (b0:∀d,o.dst=some d->d<n/\¬D d/\d∈l)
  (hN:∀d,di C.aY o d->N d/\¬Liv d) (next:Act->World->Prop) (Q:Exit->Act->World->Prop)
  (T:∀s' z f9 a' u,K s' z->xN C l M n g Liv D N o β s a h w f9 s' a' z u->next a' u):wpOp C.P G Q i next a w:=by
 unfold DB at hv;split at hv
 ·exact hv.elim
 rename_i ch b6;cases hg:vU s ch with
 | false=>simp [hg] at hv
 | true=>
 simp only [hg,cond_true] at hv;have d8:∀j b p d,o.guard=some (j,b)->nth G.toList j=some p->p.dst=some d->g d:=λj b p d e1 e2 e3=>(b9 j b p d e1 e2 e3).1;have L:=N1 q b6 hg d8;have hD:=Mn q b6 hg λj b p d e1 e2 e3=>(b9 j b p d e1 e2 e3).2;have U:∀x∈o.op.operands,fE β s a.eval x:=λx H=>GL q λt e=>a8 t (e▸H);have b7:∀d,o.dst=some d->d<n/\¬D d:=λd e=>⟨(b0 d e).1,(b0 d e).2.1⟩;have b8:∀d,o.dst=some d->d∈l:=λd e=>(b0 d e).2.2;unfold wpOp;simp only [hi];have f8:∀(l:LV) k,live (s.put o.dst l ch) Liv k↔live s Liv k:=λl k=>by unfold live;rw [oi]
 have Y:∀(lv:LV) (z:Hp) (v:Value) (u:World),K (s.put o.dst lv ch) z->nD C.aY o=false->(isVal C.tb o=true->z=h)->Step h z w u->
   (holds s ch->v=LVal β lv/\∀k off,(lv=.box k off\/lv=.eH k off)->Liv k/\¬N k)->(¬holds s ch->v=undef)->next (a.put o.dst v) u:=by
  intro lv z v u B hp f7 J h1 F;refine T _ _ β _ _ B (Qv hp ((q.step J).gP b7 hD h1 F) ?_ (λt W=>yp s _ _ _ t W) (λk=>.inl (by rw [oi])) f7);refine ((im.step J).trans (im.put (lv:=live s Liv) b8)).mono (λ_ e=>e) (λ_ e=>e) (λ_ e=>e) (λk e=>(f8 lv k).1 e)
 cases X:isVal C.tb o with
 | true=>
  simp only [X,cond_true] at hv;obtain ⟨lv,B,V,e4⟩:=NV ok hv;by_cases A:holds s ch
  ·rw [if_pos (L.2 A)];left;obtain ⟨u,e6,c4,J⟩:=V A β a.eval w U (λ_=>q.sub) (λ_=>Mm q a8);unfold Oper.wp;rw [e6];have e9:Step h h w u:=by
    cases b2:dg C.tb o ch s with
    | mem=>exact J b2
    | pure=>rw [c4 (by rw [b2];simp)];exact .refl q.sub
    | box=>rw [c4 (by rw [b2];simp)];exact .refl q.sub
   exact Y lv h _ u B (RD X) (λ_=>rfl) e9 (λ_=>⟨rfl,Mp q e4 A a8⟩) (λe=>absurd A e)
  ·rw [if_neg (λe=>A (L.1 e))];exact Y lv h _ w B (RD X) (λ_=>rfl) (.refl q.sub) (λe=>absurd e A) (λ_=>rfl)
 | false=>
  simp only [X,cond_false] at hv;have b4:nD C.aY o=false->(gS C.P o ch s h λl z=>K (s.put o.dst l ch) z)->
    if Region.wanted o (yielded G a.tmps)=true then o.wp C.P a w next Q\/o.asks C.P a w/\LetsOut Q else next (a.put o.dst undef) w:=by
   intro hp hv;obtain ⟨h1,F⟩:=hv;by_cases A:holds s ch
   ·rw [if_pos (L.2 A)];left;refine h1 A β a w U q.sub next Q λx z u B J=> ?_
    exact Y (.v x) z x u B hp (λe=>by grind) J (λ_=>⟨rfl,λk off e=>by grind⟩) (λe=>absurd A e)
   ·rw [if_neg (λe=>A (L.1 e))];obtain ⟨x,B⟩:=F A;exact Y (.v x) h undef w B hp (λ_=>rfl) (.refl q.sub) (λe=>absurd e A) (λ_=>rfl)
  have c6:nD C.aY o=false->(AA C.P C.tb o ch s h λl z=>K (s.put o.dst l ch) z)->
    if Region.wanted o (yielded G a.tmps)=true then o.wp C.P a w next Q\/o.asks C.P a w/\LetsOut Q else next (a.put o.dst undef) w:=λhp hv=>b4 hp (Tl ok hv)
  have b5:∀(d:Nat) (r:List Value) (t:Nat),K ((s.put (some d) (.box d 0) []).hO d r) h->di C.aY o d->ch=[]->has M d=true->
    (execOp a.eval o).run C.P w=.ok (.value (.pointer (some ⟨w.heap.size,0,none⟩))) {w with heap:=w.heap.push (.cells r.toArray t (0,0))}->
    if Region.wanted o (yielded G a.tmps)=true then o.wp C.P a w next Q\/o.asks C.P a w/\LetsOut Q else next (a.put o.dst undef) w:=by
   intro d r t B hp he I V;subst he;rw [if_pos (L.2 (bY s))];left;unfold Oper.wp;rw [V];show next (a.put o.dst _) _
   rw [hp.2];obtain ⟨d3,d1,d2⟩:=b0 d hp.2;obtain ⟨c7,g0⟩:=hN d hp;have hl:=q.CJ r d3 d1 c7;have d7:((s.put (some d) (.box d 0) []).hO d r).f d=some (.box d 0,[]):=G8 s _ _ _;have c1:((s.put (some d) (.box d 0) []).hO d r).m d=some r:=Bh _ _ _;have H:=hl.CF t d7 c1 (λe=>e.1 rfl) (λe=>e.1 rfl);have d9:∀k,di C.aY o k↔k=d:=λk=>⟨λe=>by have:=e.2;rw [hp.2] at this;cases this;rfl,λe=>e▸hp⟩;refine T _ _ _ _ _ B ⟨H.congr (λt=> ?_) (λk=> ?_) (λ_ e=>e) (λk e=> ?_),?_,λt W=> ?_,λk=> ?_,λ_=>rfl,λ_=>rfl⟩
   ·rw [hp.2];grind
   ·grind
   ·grind
   ·refine (Ir (s:=(s.put (some d) (.box d 0) []).hO d r) (Liv:=λk=>k≠d/\Liv k) (β:=β) (a:=a) (l:=l) (mm:=M) t q.sub c1 (λe=>e.1 rfl) d2 ((uq _ _).1 I)).mono
     (λ_ e=>e) (λ_ e=>e) (λk e=>⟨λe'=>e.1 ?_,e.2.2⟩) (λk e=>⟨e.1,?_⟩)
    ·rw [zK _ _ e.2.1];exact e'
    ·rcases e.2 with e2 | e2
     ·exact .inl ((d9 k).1 e2)
     grind
   ·exact vi s _ _ λe=>W (by rw [hp.2,e])
   ·by_cases ek:k=d
    ·grind
    ·exact .inl (zK _ _ ek)
  split at hv
  ·rename_i d R;have a9:o.dst=some d/\has C.aY d=true:=by unfold tj at R;grind
   cases I:has M d with
   | false=>simp [I] at hv
   | true=>
    simp only [I,cond_true] at hv;split at hv
    ·rename_i t E;split at hv
     ·rename_i e he;refine b5 d (bA e.zero) t hv ⟨by simp [nD,E,a9],a9.1⟩ rfl I ?_;have e2:(bA e.zero).toArray=e.zero.cells:=by apply Array.ext';simp [qi]
      rw [e2];simp [execOp,E,Instr.alloc,dd ok he,newVar,vS]
     ·exact hv.elim
    ·rename_i t x E;obtain ⟨v,d5,f6⟩:=lF hv;refine b5 d (bA v) t f6 ⟨by simp [nD,E,a9],a9.1⟩ rfl I ?_;have H:=bX (U x (by simp [E,Op.operands])) (bY s) d5;have e2:(bA v).toArray=v.cells:=by apply Array.ext';simp [qi]
     rw [e2];simp [execOp,E,H,LVal,Instr.box,newVar,vS]
    ·exact hv.elim
  ·exact hv.elim
  ·rename_i R;have b3:nD C.aY o=false:=by
    unfold tj at R;unfold nD;split at R
    ·rename_i d' e;cases h1:has C.aY d' with
     | true=>simp [h1] at R
     | false=>rw [e];cases o.op<;>simp [h1]
    ·rename_i e;rw [e];cases o.op<;>simp
   split at hv
   ·rename_i t x y E;split at hv
    ·rename_i k off v b1 d6;split at hv
     ·rename_i r e S f5;cases h1:has M k with
      | false=>simp [h1] at hv
      | true=>
      cases F:Nat.beq (bA v).length e.size with
      | false=>simp [h1,F] at hv
      | true=>
      cases Z:Nat.ble (off+e.size) r.length with
      | false=>simp [h1,F,Z] at hv
      | true=>
      cases h4:jL (bA v) with
      | false=>simp [h1,F,Z,h4] at hv
      | true=>
      simp only [h1,F,Z,h4,cond_true] at hv;rw [if_pos (L.2 (bY s))];left;have c5:x∈o.op.operands:=by simp [E,Op.operands]
      have H:=bX (U x c5) (bY s) b1;have hy:=bX (U y (by simp [E,Op.operands])) (bY s) d6;obtain ⟨tt,c,rfl,hf,hc⟩:=vg b1 (by simp) (bY s);have hL:Liv k:=(q.cur tt _ c hf (a8 tt c5) hc).2 k off (.inl rfl);obtain ⟨c9,ct,d0⟩:=q.box k r S hL;have c0:(bA v).length=e.size:=Nat.eq_of_beq_eq_true F;obtain ⟨u,V,c8,c2,f0,e7,h5,h6,h7⟩:=acM (P:=C.P) (off:=off) q.sub d0 c9 h4 (by rw [c0];exact Nat.le_of_ble_eq_true Z);have f4:=cL ok f5 w;have e0:v.cells.size=e.size:=by rw [<-Array.length_toList,qi];exact c0
      unfold Oper.wp;have e5:(execOp a.eval o).run C.P w=.ok .skip u:=by
       simp only [execOp,E,H,hy,LVal,Instr.storeAt,Instr.sureAddr,Sem.run_bind,Sem.run_pure,Result.andThen_ok,storeVar,f4,e0,ne_eq,not_true,if_false,qi];have:(if False then (stuck "storeVar: the value has not the size of the variable" :Sem Unit) else pure PUnit.unit).run C.P w=.ok () w:=rfl
       first | rw [this] | skip
       simp only [V,Result.andThen_ok]
      rw [e5,Oper.upon_skip];have c3:=(q.DI S hL c8 c2 f0).gP (dst:=o.dst) (l:=.v (.tuple #[])) (ch:=[]) (v:=undef) b7 (by simp) (λ_=>⟨rfl,λk off e=>by rcases e with e | e<;>cases e⟩) (λe=>absurd (bY _) e);have d4:((s.hO k (mr r off (bA v))).put o.dst (.v (.tuple #[])) [])=((s.put o.dst (.v (.tuple #[])) []).hO k (mr r off (bA v))):=by cases o.dst<;>rfl
      rw [d4] at c3;have e8:∀j,((s.put o.dst (.v (.tuple #[])) []).hO k (mr r off (bA v))).m j≠none->s.m j≠none:=λj hj=>by
       by_cases O:j=k
       ·rw [O,S];simp
       ·rw [zK _ _ O,oi] at hj;exact hj
      refine T _ _ _ _ _ hv (Qv b3 c3 ?_ (λt W=>yp s _ _ _ t W) (λj=> ?_) (λ_=>rfl))
      ·refine im.trans (lv1:=live s Liv) (β1:=β) (a1:=a) (h1:=h) (w1:=u) ⟨λ_ _=>rfl,λ_ _=>rfl,e7,λ_ _ e _=>e,λb hb T B=> ?_,λ_ e=>.inl ⟨e,rfl⟩,h5,h6,h7,rfl⟩ ((im.put (lv:=live s Liv) b8).mono (λ_ e=>e) (λ_ e=>e) (λ_ e=>e) (λj e=>⟨e8 j e.1,e.2⟩));exact c2 b hb (λe=>B k ((uq _ _).1 h1) ⟨by rw [S];simp,hL⟩ e.symm) T
      ·by_cases O:j=k
       ·subst O;exact .inr ⟨by simp [xX,E,b1],X,by rw [S];simp,hL⟩
       ·exact .inl (by rw [zK _ _ O,oi])
     ·exact hv.elim
    ·exact c6 b3 hv
   ·exact b4 b3 (Tn hv)
   grind
end
abbrev Rel (n:Nat) (b:Nat->Nat) (s:St) (a:Act) (h:Hp) (w:World):Prop:=
 RR n (λ_=>True) (λ_=>True) (λ_=>False) (λ_=>False) b s a h w
abbrev dh (s:St):Nat->Prop:=live s λ_=>True
section
variable {n:Nat} {q Liv D N:Nat->Prop} {β:Nat->Nat} {s:St} {a:Act} {h:Hp} {w:World}
theorem B0 {s:St} {t:Nat} {l:LV} {c:bp} (e:s.clean.f t=some (l,c)):s.f t=some (l,[])/\c=[]:=by simp only [St.clean] at e;grind
theorem RR.clean (b:RR n (λ_=>True) (λ_=>True) D N β s a h w):Rel n β s.clean a h w:=by
 refine ⟨b.sz,b.sub,λt l c e=>b.lt t l _ (B0 e).1,λt l c e p hp=> ?_,λt l c e _ _=>b.cur t l _ (B0 e).1 trivial (bY _),λt l c e _ d=> ?_,b.box,b.inj,λ_ e=>e.elim,λ_ e=>e.elim⟩
 ·rw [(B0 e).2] at hp;cases hp
 ·rw [(B0 e).2] at d;exact absurd (bY _) d
theorem n8 {l:List Nat} {x:Option (LV×bp)} {v:LV} {c:bp} (e:rZ l x=some (v,c)):x=some (v,c)/\∀k o,(v=.box k o\/v=.eH k o)->k∉l:=by
 unfold rZ at e;split at e
 ·rename_i k o d;cases b:has l k with
  | true=>simp [b] at e
  | false=>
   simp only [b,cond_false] at e;cases e;refine ⟨rfl,λf g e'=> ?_⟩;rcases e' with e' | e'<;>cases e'
   exact BR b
 ·rename_i k o d;cases b:has l k with
  | true=>simp [b] at e
  | false=>
   simp only [b,cond_false] at e;cases e;refine ⟨rfl,λf g e'=> ?_⟩;rcases e' with e' | e'<;>cases e'
   exact BR b
 ·grind
 ·cases e
theorem ug {l:List Nat} {t:Nat} {v:LV} {c:bp} (e:(s.mH l).f t=some (v,c)):s.f t=some (v,c)/\∀k o,(v=.box k o\/v=.eH k o)->k∉l:=by
 cases l with
 | nil=>exact ⟨e,λ_ _ _ e=>by cases e⟩
 | cons x l=>exact n8 e
theorem zE {l:List Nat} {k:Nat} {c:List Value} (e:(s.mH l).m k=some c):s.m k=some c/\k∉l:=by
 cases l with
 | nil=>exact ⟨e,λe=>by cases e⟩
 | cons x l=>
  simp only [St.mH] at e;cases b:has (x::l) k with
  | true=>simp [b] at e
  | false=>simp only [b,cond_false] at e;exact ⟨e,BR b⟩
theorem RR.start (b:Rel n β s a h w) (l:List Nat):RR n (λ_=>True) (λk=>k∉l) (λ_=>False) (λk=>k∈l) β (s.mH l) a h w:=by
 refine ⟨b.sz,b.sub,λt v c e=>b.lt t v c (ug e).1,λt v c e=>b.chain t v c (ug e).1,λt v c e _ j=> ?_,λt v c e _ j=> ?_,λk g e _=>b.box k g (zE e).1 trivial,λk y e d _ _ x=> ?_,λk f=> ?_,λk f t v c e _ o=> ?_⟩
 ·have i:c=[]:=by
   cases c with
   | nil=>rfl
   | cons p c=>exact (b.chain t v _ (ug e).1 p (List.mem_cons_self ..)).elim
  subst i;exact ⟨(b.cur t v [] (ug e).1 trivial (bY _)).1,(ug e).2⟩
 ·have i:c=[]:=by
   cases c with
   | nil=>rfl
   | cons p c=>exact (b.chain t v _ (ug e).1 p (List.mem_cons_self ..)).elim
  subst i;exact absurd (bY _) j
 ·obtain ⟨g,r⟩:=Option.ne_none_iff_exists'.1 e;obtain ⟨z,u⟩:=Option.ne_none_iff_exists'.1 d;exact b.inj k y (by simp [(zE r).1]) (by simp [(zE u).1]) trivial trivial x
 ·cases e:(s.mH l).m k with
  | none=>rfl
  | some g=>exact absurd f (zE e).2
 ·exact ⟨λd=>(ug e).2 k o (.inl d) f,λd=>(ug e).2 k o (.inr d) f⟩
theorem O5 {l:List Nat} {k:Nat} (e:live (s.mH l) (λk=>k∉l) k):dh s k:=by obtain ⟨c,b⟩:=Option.ne_none_iff_exists'.1 e.1;exact ⟨by simp [(zE b).1],trivial⟩
theorem DQ :∀(x y:List Oper),cK (x++y)=cK x++cK y
 | [],y=>rfl
 | o::x,y=>by simp only [List.cons_append,cK,DQ x y];cases o.dst<;>rfl
theorem Ah {l:List Oper} {o:Oper} {d:Nat} (hm:o∈l) (b:o.dst=some d):d∈cK l:=by
 induction l with
 | nil=>cases hm
 | cons p l c=>
  rcases List.mem_cons.1 hm with rfl | hm
  ·simp [cK,b]
  ·have:=c hm;simp only [cK];grind
theorem Bj :∀ {l:List Nat},nodup l=true->l.Nodup
 | [],_=>.nil
 | a::l,h=>by
  simp only [nodup] at h;cases b:has l a with
  | true=>simp [b] at h
  | false=>simp only [b,cond_false] at h;exact List.nodup_cons.2 ⟨BR b,Bj h⟩
theorem ady {l:List Oper} {o:Oper} (h:u7 l=true) (b:o∈l):o.guard=none:=by
 induction l with
 | nil=>cases b
 | cons p l c=>simp only [u7] at h;grind
theorem LY :∀ {l:List Oper} {i j:Nat} {o:Oper} {g:Nat} {b:Bool},BN l i=true->l[j]? =some o->o.guard=some (g,b)->g<i+j
 | [],_,_,_,_,_,_,e,_=>by simp at e
 | p::l,i,0,o,g,b,h,e,c=>by
  simp at e;subst e;simp only [BN,c] at h;cases hb:Nat.blt g i with
  | true=>simp [Nat.blt] at hb;omega
  | false=>simp [hb] at h
 | p::l,i,j+1,o,g,b,h,e,c=>by
  simp at e;have d:BN l (i+1)=true:=by simp only [BN] at h;grind
  have:=LY d e c;omega
theorem RE {aY:List Nat} {o:Oper} {d:Nat} {r:List Oper} (h:di aY o d):mj aY (o::r)=d::mj aY r:=by simp [mj,h.1,h.2]
theorem Ec {aY:List Nat} {o:Oper} {r:List Oper} (h:∀d,¬di aY o d):mj aY (o::r)=mj aY r:=by
 cases hp:nD aY o with
 | false=>simp [mj,hp]
 | true=>
  cases b:o.dst with
  | none=>simp [mj,hp,b]
  | some d=>exact absurd ⟨hp,b⟩ (h d)
theorem O6 {C:Ctx} (ok:C.tb.Ok C.P) {c:Array Oper} {mok:List Nat} {K:St->Hp->Prop} {Q:Exit->Act->World->Prop} (g:Bool)
  (O:∀d∈cK c.toList,d<n) (M:g=false->u7 c.toList=true) (G:g=true->(cK c.toList).Nodup/\BN c.toList 0=true):
  ∀(r pre:List Oper) (β:Nat->Nat) (s:St) (a:Act) (h:Hp) (w:World),c.toList=pre++r->(mj C.aY r).Nodup->DF C c.toList mok r s h K->
   RR n (λ_=>True) (λk=>k∉mj C.aY r) (λt=>g=true/\t∈cK pre) (λk=>k∈mj C.aY r) β s a h w->
   (∀v u A m x,K v u->RR n (λ_=>True) (λ_=>True) (λt=>g=true/\t∈cK c.toList) (λ_=>False) A v m u x->
    im (cK c.toList) mok (live s λk=>k∉mj C.aY r) β a h w (dh v) A m u x->Q .normal m x)->
   wpOps C.P c Q (List.range' pre.length r.length) a w
 | [],pre,β,s,a,h,w,f,_,hv,J,I=>by simp only [List.length_nil,List.range'_zero];rw [List.append_nil] at f;exact I s h β a w hv (J.congr (λ_=>.rfl) (λk=>by simp [mj]) (λt e=>by rw [f];exact e) (λk e=>e.elim)) ((im.refl _ _).mono (λ_ e=>e) (λ_ e=>e) (λ_ e=>e) (λk e=>⟨e.1,by simp [mj]⟩))
 | o::r,pre,β,s,a,h,w,f,i,hv,J,I=>by
  simp only [List.length_cons,List.range'_succ,wpOps_cons];have V:c[pre.length]? =some o:=by
   have:c.toList[pre.length]? =some o:=by rw [f];simp
   simpa using this
  have H:o∈c.toList:=by rw [f];simp
  have y:∀k,(di C.aY o k\/k∉mj C.aY (o::r))↔k∉mj C.aY r:=by
   intro k;by_cases hp:∃d,di C.aY o d
   ·obtain ⟨d,hp⟩:=hp;rw [RE hp] at i ⊢;have i:=List.nodup_cons.1 i;constructor
    ·rintro (e | e)
     ·have:k=d:=by have F:=e.2;rw [hp.2] at F;cases F;rfl
      rw [this];exact i.1
     ·exact λB=>e (List.mem_cons_of_mem _ B)
    grind
   ·have Z:∀d,¬di C.aY o d:=λd e=>hp ⟨d,e⟩;rw [Ec Z];grind
  have T:∀k,k∈mj C.aY r->¬di C.aY o k/\k∈mj C.aY (o::r):=λk z=>
   ⟨λe=>(y k).1 (.inl e) z,Classical.byContradiction λe=>(y k).1 (.inr e) z⟩
  have X:(mj C.aY r).Nodup:=by
   by_cases hp:∃d,di C.aY o d
   ·obtain ⟨d,hp⟩:=hp;rw [RE hp] at i;grind
   ·rwa [Ec λd e=>hp ⟨d,e⟩] at i
  refine Mr (l:=cK c.toList) ok V hv J (λ_ _=>trivial) (λj b p d E L R=>⟨trivial,?_⟩) (λd e=>⟨O d (Ah H e),λB=> ?_,Ah H e⟩) (λd hp=> ?_) _ Q λv u A m x z out=> ?_
  ·cases g with
   | false=>rw [ady (M rfl) H] at E;cases E
   | true=>refine ⟨rfl,?_⟩;have hj:=LY (j:=pre.length) (G rfl).2 (by rw [f];simp) E;rw [pe,f,List.getElem?_append_left (by omega)] at L;exact Ah (List.mem_of_getElem? L) R
  ·have U:=(G B.1).1;rw [f,DQ] at U;have F:d∈cK (o::r):=Ah (List.mem_cons_self ..) e;grind
  ·have:d∈mj C.aY (o::r):=by rw [RE hp];simp
   grind
  ·have Y:c.toList=(pre++ [o])++r:=by rw [f];simp
   have:=O6 ok g O M G r (pre++ [o]) A v m u x Y X z
    (out.rr.congr (λt=>by simp) (λk=>(y k).symm) (λt e=>⟨e.1,by rw [DQ];grind⟩) T)
    (λs2 S b0 a2 w2 W a8 a9=>I s2 S b0 a2 w2 W a8 (out.yv.trans (a9.mono (λ_ e=>e) (λ_ e=>e) (λk e=>⟨e.1,(y k).2 e.2⟩) (λ_ e=>e))))
   simpa using this
end
theorem fT {b x:Bool} (h:cond b x false=true):b=true/\x=true:=by grind
theorem RL :∀(n:Nat) (l:List Nat),l.Nodup->(∀x∈l,x<n)->l.length<=n
 | 0,l,_,h=>by
  cases l with
  | nil=>simp
  | cons a l=>exact absurd (h a (List.mem_cons_self ..)) (Nat.not_lt_zero _)
 | n+1,l,b,h=>by
  by_cases f:n∈l
  ·have e:=RL n (l.erase n) (b.erase n) (λx d=>by
    have c:=(b.mem_erase_iff).1 d;have:=h x c.2;have:=c.1;omega)
   grind
  ·have:=RL n l b (λx d=>by
    grind)
   omega
theorem Cw {n:Nat} {l:List Nat} (b:l.Nodup) (h:∀x∈l,x<n) (c:n<=l.length) {j:Nat} (a:j<n):j∈l:=by
 refine Classical.byContradiction λe=> ?_;have:=RL n (j::l) (List.nodup_cons.2 ⟨e,b⟩) (λx hx=>by
  rcases List.mem_cons.1 hx with rfl | hx
  ·exact a
  ·exact h x hx)
 grind
def xJ (L:List Oper) (X:Nat->Prop):Prop:=∀i o,L[i]? =some o->X i->∀j∈waits o,X j
def nb (L:List Oper) (i j:Nat):Prop:=∀X:Nat->Prop,xJ L X->(∀o,L[i]? =some o->∀k∈waits o,X k)->X j
theorem HI {l m:List Nat} (h:lN l m=true):∀x∈l,x∈m:=by
 induction l with
 | nil=>simp
 | cons a l c=>
  simp only [lN] at h;cases b:has m a with
  | false=>simp [b] at h
  | true=>
   simp only [b,cond_true] at h;intro x hx;rcases List.mem_cons.1 hx with rfl | hx
   ·exact (uq _ _).1 b
   ·exact c h x hx
theorem UN {o:Oper} {e:Edge} (a:e∈o.after) (hb:Region.binds .any e=true):e.on∈waits o:=by
 have key:∀l:List Edge,e∈l->e.on∈waits.go l:=by
  intro l
  induction l with
  | nil=>intro h;cases h
  | cons x l c=>
   intro h;simp only [waits.go];rcases List.mem_cons.1 h with rfl | h
   ·have:wL e=true:=by unfold Region.binds at hb;unfold wL;cases b:e.ground<;>simp [b] at hb ⊢
    simp [this]
   grind
 exact key _ (by simpa using a)
theorem Qw {k:Nat} {l:List Nat} {j:Nat} (h:j∈xT k l):j=k\/j∈l:=by unfold xT at h;grind
theorem Qx {j:Nat}:∀ {a b:List Nat},j∈Dv a b->j∈a\/j∈b
 | [],_,h=>.inr h
 | k::r,b,h=>by
  rcases Qx (a:=r) (b:=xT k b) h with h | h
  ·grind
  ·rcases Qw h with rfl | h
   ·simp
   ·exact .inr h
theorem O7 {a:List (List Nat)}:∀ {l:List Nat} {j:Nat},j∈bV.union l a->j∈l\/∃k∈l,∃x,nth a k=some x/\j∈x
 | [],j,h=>by simp [bV.union] at h
 | k::l,j,h=>by
  simp only [bV.union] at h;rcases Qw h with rfl | h
  ·simp
  ·rcases Qx h with h | h
   ·grind
   ·rcases O7 h with h | ⟨d,b,c⟩
    ·exact .inl (List.mem_cons_of_mem _ h)
    grind
theorem O8 {L:List Oper}:∀(r pre:List Oper) (a:List (List Nat)),L=pre++r->a.length=pre.length->(∀i x,nth a i=some x->∀j∈x,nb L i j)->
  ∀i x,nth (bV r a) i=some x->∀j∈x,nb L i j
 | [],_,a,_,_,h=>h
 | o::r,pre,a,d,f,h=>by
  refine O8 r (pre++ [o]) _ (by simp [d]) (by simp [uf,f]) λi x b j c=> ?_;rw [pe,uf] at b;rcases Nat.lt_trichotomy i a.length with hi | hi | hi
  ·rw [List.getElem?_append_left hi,<-pe] at b;exact h i x b j c
  ·subst hi;simp at b;subst b;intro X e l;have g:L[a.length]? =some o:=by rw [d,f];simp
   rcases O7 c with c | ⟨k,n,y,s,m⟩
   ·exact l o g j c
   ·exact h k y s j m X e λu q t p=>e k u q (l o g k n) t p
  grind
theorem BP {L:List Oper} {i j:Nat} (h:j∈na (bV L []) i):nb L i j:=by
 unfold na at h;split at h
 ·rename_i x a;exact O8 L [] [] rfl rfl (λi x a=>by simp [nth] at a) i x a j h
 ·cases h
theorem GM :∀l:List (Nat×Operand),AK l=l.map (·.2)
 | []=>rfl
 | (_,x)::l=>by simp [AK,GM l]
theorem Ms :∀l:Option Operand,yl l=l.toArray.toList
 | none=>rfl
 | some x=>rfl
theorem N3 {op:Op} {l:List Operand} (h:Ed op=some l):∀x∈op.operands,x∈l:=by
 cases op with
 | call c=>
  obtain ⟨callee,args,g⟩:=c;cases callee with
  | value f=>cases h;intro x d;simpa [Op.operands,Call.operands] using d
  | builtin b=>cases h;intro x d;simpa [Op.operands,Call.operands] using d
  | invoke r m=>cases h
 | build t e=>cases h;intro x d;simpa [Op.operands,GM] using d
 | buildSlice t n e=>cases h;intro x d;simpa [Op.operands,GM] using d
 | makeFunc fn a b=>cases h;intro x d;simpa [Op.operands,uf] using d
 | makeMap t r=>cases h;intro x d;simpa [Op.operands,Ms] using d
 | slice t x j i k=>cases h;intro x d;simpa [Op.operands,uf,Ms,or_assoc] using d
 | alloc t=>cases h;intro x d;simp [Op.operands] at d
 | _=>first | (cases h;done) | (cases h;intro x d;simpa [Op.operands] using d)
theorem N5 {rows:List (List Nat)} {i t:Nat}:∀ {l:List Oper} {j0:Nat},xd rows i t l j0=true->∀j p,l[j]? =some p->p.dst=some t->
  j0+j∈na rows i\/i=j0+j\/i∈na rows (j0+j)
 | [],_,_,j,p,e,_=>by simp at e
 | q::l,j0,h,j,p,e,d=>by
  simp only [xd] at h;cases a:(cond (vC q t) (cond (has (na rows i) j0) true (cond (Nat.beq i j0) true (has (na rows j0) i))) true) with
  | false=>grind
  | true=>
   rw [a] at h;cases j with
   | zero=>
    simp at e;subst e;have:vC q t=true:=by simp [vC,d]
    rw [this] at a;simp only [cond_true] at a;cases b:has (na rows i) j0 with
    | true=>exact .inl ((uq _ _).1 b)
    | false=>
     rw [b] at a;simp only [cond_false] at a;cases c:Nat.beq i j0 with
     | true=>exact .inr (.inl (Nat.eq_of_beq_eq_true c))
     | false=>rw [c] at a;exact .inr (.inr ((uq _ _).1 a))
   | succ j=>have:=N5 (l:=l) (j0:=j0+1) h j p (by simpa using e) d;grind
theorem Ee {L:List Oper} {rows:List (List Nat)} {i t:Nat}:∀ {l:List Operand},dW.go L rows i l=true->Operand.tmp t∈l->xd rows i t L 0=true
 | [],_,hm=>by cases hm
 | x::l,h,hm=>by
  cases x with
  | tmp u=>
   simp only [dW.go] at h;cases a:xd rows i u L 0 with
   | false=>simp [a] at h
   | true=>
    simp only [a,cond_true] at h;rcases List.mem_cons.1 hm with e | hm
    ·cases e;exact a
    ·exact Ee h hm
  | _=>
   simp only [dW.go] at h;rcases List.mem_cons.1 hm with e | hm
   ·cases e
   ·exact Ee h hm
theorem Tp {L:List Oper} {rows:List (List Nat)} {i t:Nat} {o:Oper} (h:dW L rows i o=true) (e:Operand.tmp t∈o.op.operands) {j:Nat} {p:Oper} (c:L[j]? =some p) (b:p.dst=some t):
  j∈na rows i\/i=j\/i∈na rows j:=by
 unfold dW at h;split at h
 ·rename_i l d;cases a:dW.go L rows i l with
  | false=>simp [a] at h
  | true=>have:=N5 (Ee a (N3 d _ e)) j p c b;simpa using this
 ·cases h
theorem Ef {L:List Oper} {rows:List (List Nat)} {i j:Nat} {b:Bool} {o:Oper} (h:dW L rows i o=true) (c:o.guard=some (j,b)):j∈na rows i:=by
 unfold dW at h;split at h
 ·rename_i l d;cases a:dW.go L rows i l with
  | false=>simp [a] at h
  | true=>simp only [a,cond_true,c] at h;exact (uq _ _).1 h
 ·cases h
theorem adz {o:Oper} {t:Nat} (b:Operand.tmp t∈o.op.operands):looksAt o t=true:=by
 unfold looksAt;split
 ·rename_i l a;have hm':=N3 a _ b;clear a b
  induction l with
  | nil=>cases hm'
  | cons x l c=>
   rcases List.mem_cons.1 hm' with e | hm'
   ·subst e;simp [looksAt.go]
   ·have:=c hm';cases x<;>simp only [looksAt.go]
    ·rw [this];simp
    all_goals exact this
 ·rfl
theorem zn {rows:List (List Nat)} {j d:Nat} {o:Oper} (b:o.dst=some d):∀ {l:List Oper} {i0:Nat},iM rows j o l i0=false->∀i p,l[i]? =some p->Operand.tmp d∈p.op.operands->j∈na rows (i0+i)
 | [],_,_,i,p,e,_=>by simp at e
 | q::l,i0,h,i,p,e,c=>by
  simp only [iM,b] at h;cases a:(cond (looksAt q d) (cond (has (na rows i0) j) false true) false) with
  | true=>grind
  | false=>
   rw [a] at h;cases i with
   | zero=>
    simp at e;subst e;rw [adz c] at a;simp only [cond_true] at a;cases f:has (na rows i0) j with
    | true=>exact (uq _ _).1 f
    | false=>grind
   | succ i=>have:=zn b (l:=l) (i0:=i0+1) h i p (by simpa using e) c;grind
theorem Pd {tb:Tb} {aY:List Nat} {a:List Oper} {rows:List (List Nat)} {i:Nat} {d:List Nat} {r:List (Nat×List Nat)} {done:List Nat} {last:Option Nat}
  (h:fj tb aY a rows ((i,d)::r) done last=true):∃o,a[i]? =some o/\(∀k∈waits o,k∈done)/\dW a rows i o=true/\i∉done/\(∀e,last=some e->e∈na rows i)/\
   (((isVal tb o=true\/nD aY o=true)/\iM rows i o a 0=false/\fj tb aY a rows r (i::done) last=true)\/
    ((isVal tb o=true\/nD aY o=true)/\iM rows i o a 0=true/\fj tb aY a rows r (i::done) (some i)=true)\/
    (isVal tb o=false/\nD aY o=false/\fj.watched tb a rows d i done=true/\fj tb aY a rows r (i::done) (some i)=true)):=by
 simp only [fj] at h;split at h
 ·rename_i o c;rw [pe] at c;obtain ⟨g,h⟩:=fT h;obtain ⟨f,j⟩:=fT g;cases b:has done i with
  | true=>simp [b] at h
  | false=>
   simp only [b,cond_false] at h;obtain ⟨l,h⟩:=fT h;refine ⟨o,c,HI f,j,BR b,λe m=> ?_,?_⟩
   ·subst m;exact (uq _ _).1 l
   grind
 ·cases h
theorem Ny {tb:Tb} {g:List Oper} {rows:List (List Nat)} {b:List Nat} {e:Nat}:∀ {l:List Nat},fj.watched tb g rows b e l=true->∀i∈l,∀o,g[i]? =some o->isVal tb o=true->ud tb o=true->
  i∈b\/i∈na rows e
 | [],_,i,hi,_,_,_,_=>by cases hi
 | r::l,h,i,hi,o,d,hv,f=>by
  simp only [fj.watched] at h;obtain ⟨a,h⟩:=fT h;rcases List.mem_cons.1 hi with rfl | hi
  ·rw [pe,d] at a;simp only [hv,f,cond_true] at a;cases c:has b i with
   | true=>exact .inl ((uq _ _).1 c)
   | false=>rw [c] at a;exact .inr ((uq _ _).1 a)
  ·exact Ny h i hi o d hv f
theorem N7 {tb:Tb} {aY:List Nat} {L:List Oper}:∀ {r:List (Nat×List Nat)} {done:List Nat} {e:Nat},fj tb aY L (bV L []) r done (some e)=true->
  ∀j∈r.map (·.1),nb L j e
 | [],_,_,_,j,hj=>by cases hj
 | (i,ws)::r,done,e,h,j,hj=>by
  obtain ⟨o,u,_,_,_,n,t⟩:=Pd h;have d:=BP (n e rfl);rcases List.mem_cons.1 hj with rfl | hj
  ·exact d
  ·have step:∀a,(a=e\/a=i)->fj tb aY L (bV L []) r (i::done) (some a)=true->nb L j e:=by
    intro a l f;have c:=N7 f j hj;rcases l with rfl | rfl
    ·exact c
    ·intro X b q;have g:X a:=c X b q;exact d X b λs p k m=>b a s p g k m
   grind
def At (tb:Tb) (o:Oper) (ch:bp) (s:St) (l:LV):Prop:=
 dg tb o ch s=.mem->∀t x,o.op=.load t x->∃(e:Ty) (y:e.sh.T),tb.ty t=some e/\l=.v (e.sh.enc y)
theorem UO {P:Program} {tb:Tb} (ok:tb.Ok P) {o:Oper} {ch:bp} {s:St} {h:Hp} {K:LV->Prop} (hv:yK P tb o ch s h K):
  ∃l,K l/\(holds s ch->ri (dg tb o ch s) P o s h l)/\nH o ch s l/\At tb o ch s l:=by
 by_cases k:∃t x a,o.op=.load t x/\ev s ch x=some (.v (.pointer (some a)))
 ·obtain ⟨t,x,a,b,g⟩:=k;unfold yK at hv;simp only [b,g] at hv;split at hv
  ·rename_i e r;obtain ⟨y,f,c⟩:=hv;refine ⟨.v (e.sh.enc y),c,λi=> ?_,zC _ _ _ _,λ_ A B z=> ?_⟩
   ·intro C D w p m hb;have d:dg tb o ch s=.mem:=by simp [dg,b,g]
    have u:=bX (p x (by simp [b,Op.operands])) i g;have q:=RI ok r (λj v n=>zj (m d) (qv f i j v n));refine ⟨w,?_,λ_=>rfl,λe=>.refl (m e)⟩;simp only [execOp,b,u,LVal,Instr.loadAt,Instr.sureAddr,Sem.run_bind,Sem.run_pure,Result.andThen_ok,q]
   grind
  ·exact hv.elim
 ·obtain ⟨l,c,f,hp⟩:=NV ok hv;refine ⟨l,c,f,hp,λd t x b=> ?_⟩;refine absurd ?_ k;unfold yK at hv;simp only [b] at hv;simp only [dg,b] at d;grind
def pB (C:Ctx) (L:List Oper) (o:Oper) (s:St) (h:Hp):Prop:=
 ∃ch,rL L L.length o=some ch/\vU s ch=true/\
  ((isVal C.tb o=true/\(ud C.tb o=true\/dg C.tb o ch s=.pure)/\∃l,(∀d,o.dst=some d->s.f d=some (l,ch))/\(holds s ch->ri (dg C.tb o ch s) C.P o s h l)/\nH o ch s l/\At C.tb o ch s l)\/
   (ch=[]/\isVal C.tb o=false/\∃d a,di C.aY o d/\s.f d=some (.box d 0,[])/\s.m d=some a/\
      ∀(c:Nat->Nat) (b:Operand->Value) (w:World),(∀x∈o.op.operands,fE c s b x)->
       ∃t,(execOp b o).run C.P w=.ok (.value (.pointer (some ⟨w.heap.size,0,none⟩))) {w with heap:=w.heap.push (.cells a.toArray t (0,0))}))
section
variable {C:Ctx} {L:List Oper} {o:Oper} {s s':St} {h n:Hp} {D:Nat->Prop}
structure kM (D:Nat->Prop) (o:Oper) (s s':St):Prop where
 dn:∀t,D t->s'.f t=s.f t
 op:∀t,Operand.tmp t∈o.op.operands->s'.f t=s.f t
 ch:∀t l c,s.f t=some (l,c)->∀p∈c,D p.1
theorem kM.nJ (k:kM D o s s') {c:bp} (a:∀p∈c,D p.1):holds s' c↔holds s c:=Ea λp hp=>k.dn _ (a p hp)
theorem kM.Il (k:kM D o s s') {b:Nat->Nat} {d:Operand->Value} {x:Operand} (j:x∈o.op.operands) (a:fE b s' d x):fE b s d x:=by
 cases x with
 | tmp t=>exact λl c e i=>a l c (by rw [k.op t j];exact e) ((k.nJ (k.ch t l c e)).2 i)
 | const v=>exact a
 | global g=>exact a
 | func f=>exact a
theorem kM.Hn (k:kM D o s s') {ch:bp} {x:Operand} (a:x∈o.op.operands):ev s' ch x=ev s ch x:=by
 cases x with
 | tmp t=>simp only [ev,k.op t a]
 | const v=>rfl
 | global g=>rfl
 | func f=>rfl
theorem N9 {s s':St} {ch:bp}:∀ {l:List Operand},(∀x∈l,ev s' ch x=ev s ch x)->fk s' ch l=fk s ch l
 | [],_=>rfl
 | x::l,h=>by simp only [fk];rw [h x (List.mem_cons_self ..),N9 λy a=>h y (List.mem_cons_of_mem _ a)]
theorem kM.kind (k:kM D o s s') {tb:Tb} {ch:bp}:dg tb o ch s'=dg tb o ch s:=by
 unfold dg;cases d:o.op with
 | load t x=>simp only [k.Hn (ch:=ch) (x:=x) (by simp [d,Op.operands])]
 | binOp op t x y u=>simp only [k.Hn (ch:=ch) (x:=x) (by simp [d,Op.operands]),k.Hn (ch:=ch) (x:=y) (by simp [d,Op.operands])]
 | convert a b x=>simp only [k.Hn (ch:=ch) (x:=x) (by simp [d,Op.operands])]
 | call c=>
  obtain ⟨callee,e,g⟩:=c;cases callee with
  | builtin b=>
   cases b with
   | len=>have:fk s' ch e.toList=fk s ch e.toList:=N9 λx f=>k.Hn (by simp [d,Op.operands,Call.operands];simpa using f);simp only [this]
   | _=>rfl
  | _=>rfl
 | _=>rfl
theorem kM.DC (k:kM D o s s') {ch:bp} {l:LV} (hp:nH o ch s l):nH o ch s' l:=λb off e=>by obtain ⟨x,a,c,h⟩:=hp b off e;exact ⟨x,a,c,by rw [k.Hn a];exact h⟩
theorem RF (k:kM D o s s'):∀ {ch:bp},(∀p∈ch,D p.1)->vU s' ch=vU s ch
 | [],_=>rfl
 | (d,b)::c,a=>by simp only [vU,k.dn d (a (d,b) (List.mem_cons_self ..)),RF k λp hp=>a p (List.mem_cons_of_mem _ hp)]
theorem UP (k:kM D o s s') {e:Nat->Nat} {w:World} (j:∀t,Operand.tmp t∈o.op.operands->∀b off c,(s.f t=some (.box b off,c)\/s.f t=some (.eH b off,c))->holds s c->s'.m b=s.m b)
  (hb:rP e s' o w):rP e s o w:=by
 intro t d b off c hf a g i;refine hb t d b off c (by rw [k.op t d];exact hf) ?_ g (by grind);rcases hf with hf | hf
 ·exact (k.nJ (k.ch t _ c hf)).2 a
 ·exact (k.nJ (k.ch t _ c hf)).2 a
theorem Qd (k:kM D o s s') {a:Kd} {P:Program} {l:LV} (i:a≠ .pure->∀t,Operand.tmp t∈o.op.operands->∀b off c,(s.f t=some (.box b off,c)\/s.f t=some (.eH b off,c))->holds s c->s'.m b=s.m b)
  (g:a=.mem->n=h) (p:ri a P o s h l):ri a P o s' n l:=by
 intro r u w j q hb;obtain ⟨A,v,y,z⟩:=p r u w (λx d=>k.Il d (j x d)) (λe=>by rw [<-g e];exact q e) (λe=>UP k (i e) (hb e));grind
theorem EC (k:kM D o s s') {P:Program} {c:List Value}
  (f : ∀ (b : Nat -> Nat) (a : Operand -> Value) (w : World), (∀ x ∈ o.op.operands, fE b s a x) ->
        ∃t,(execOp a o).run P w=.ok (.value (.pointer (some ⟨w.heap.size,0,none⟩))) {w with heap:=w.heap.push (.cells c.toArray t (0,0))}):
  ∀ (b : Nat -> Nat) (a : Operand -> Value) (w : World), (∀ x ∈ o.op.operands, fE b s' a x) ->
        ∃t,(execOp a o).run P w=.ok (.value (.pointer (some ⟨w.heap.size,0,none⟩))) {w with heap:=w.heap.push (.cells c.toArray t (0,0))}:=
 λb a w e=>f b a w λx d=>k.Il d (e x d)
theorem B9 {s:St} {ch:bp} {t:Nat} {l a:LV} {c:bp} (h:ev s ch (.tmp t)=some l) (b:s.f t=some (a,c)):l=a:=by simp only [ev,b] at h;grind
theorem adA {tb:Tb} (Z:C.tb=tb) (ok:tb.Ok C.P) {K:Nat->Bool} {ch:bp} {l:LV} {d:Nat} (g:qT C K o ch s' n) (M:o.dst=some d) (G:∃c,s'.f d=some (l,c)) (B:holds s' ch)
  (A:At tb o ch s' l):dg tb o ch s'=.pure\/(dg tb o ch s'=.box/\∀t b off c,Operand.tmp t∈o.op.operands->(s'.f t=some (.box b off,c)\/s'.f t=some (.eH b off,c))->K b=false)\/(dg tb o ch s'=.mem/\ri .mem C.P o s' n l):=by
 subst Z;obtain ⟨c,G⟩:=G;unfold qT at g;split at g
 ·rename_i t x T q z;rw [M] at z;cases z;rw [G] at g;split at g
  ·rename_i v R e;cases e;split at g
   ·rename_i a r;right;right;have hkd:dg C.tb o ch s'=.mem:=by simp [dg,q,r]
    obtain ⟨e,y,b3,p⟩:=A hkd t x q;cases p;refine ⟨hkd,λβ ρ w E A hb=> ?_⟩;have b5:=bX (E x (by simp [q,Op.operands])) B r;have I:=RI ok b3 (λj v hj=>zj (A rfl) (qv g B j v hj));refine ⟨w,?_,λe=>absurd rfl e,λ_=>.refl (A rfl)⟩;simp only [execOp,q,b5,LVal,Instr.loadAt,Instr.sureAddr,Sem.run_bind,Sem.run_pure,Result.andThen_ok,I]
   ·rename_i k off r;cases H:K k with
    | true=>rw [H] at g;exact g.elim
    | false=>
     refine .inr (.inl ⟨by simp [dg,q,r],λt1 b b7 Y O hf1=> ?_⟩);have Q:x=.tmp t1:=by simpa [q,Op.operands,eq_comm] using O
     rw [Q] at r;rcases hf1 with hf1 | hf1
     ·have:=B9 r hf1;cases this;exact H
     ·have:=B9 r hf1;cases this
   ·rename_i k off r;cases H:K k with
    | true=>rw [H] at g;exact g.elim
    | false=>
     refine .inr (.inl ⟨by simp [dg,q,r],λt1 b b7 Y O hf1=> ?_⟩);have Q:x=.tmp t1:=by simpa [q,Op.operands,eq_comm] using O
     rw [Q] at r;rcases hf1 with hf1 | hf1
     ·have:=B9 r hf1;cases this
     ·have:=B9 r hf1;cases this;exact H
   ·exact g.elim
  ·exact g.elim
 ·rename_i t x i S T q z;rw [M] at z;cases z;rw [G] at g;split at g
  ·rename_i v R e;cases e;obtain ⟨a,b1,a8⟩:=lF g;obtain ⟨b,b2,a9⟩:=lF a8;have p:=qv a9 B;right;right;have b6:∀w,Sub n w->∃F,(Instr.lookup t a b S).run C.P w=.ok v F/\Step n n w F:=by
    intro w J;unfold OY at p;split at p
    ·rename_i m e U;split at p
     ·rename_i k u W;split at p
      ·rename_i ke ue V X;cases hkd:uB ke.cH with
       | true=>
        simp only [hkd,cond_true] at p;cases S with
        | true=>
         simp only [cond_true] at p;split at p
         ·rename_i x1 y1;exact ⟨w,by rw [A2 ok U W V X hkd J p];rfl,.refl J⟩
         ·exact p.elim
        | false=>simp only [cond_false] at p;obtain ⟨y1,p⟩:=p;exact ⟨w,by rw [A2 ok U W V X hkd J p];rfl,.refl J⟩
       | false=>simp only [hkd,cond_false] at p;exact Fo p J
      ·exact p.elim
     ·exact p.elim
    ·exact p.elim
   refine ⟨by simp [dg,q],λβ ρ w E A hb=> ?_⟩;have r:=bX (E x (by simp [q,Op.operands])) B b1;have hi:=bX (E i (by simp [q,Op.operands])) B b2;obtain ⟨F,I,N⟩:=b6 w (A rfl);refine ⟨F,?_,λe=>absurd rfl e,λ_=>N⟩;simp only [execOp,q,r,hi,LVal,Sem.run_bind,I,Result.andThen_ok,Sem.run_pure]
  ·exact g.elim
 ·rename_i xs ts T q z;rw [M] at z;cases z;rw [G] at g;split at g
  ·rename_i v R e;cases e;split at g
   ·rename_i x b4;have hkd:dg C.tb o ch s'=.pure\/dg C.tb o ch s'=.mem:=by unfold dg;grind
    rcases hkd with hkd | hkd
    ·exact .inl hkd
    right;right;refine ⟨hkd,λβ ρ w E A hb=> ?_⟩;have b0:xs.map ρ= #[x]:=by have:=Cl (β:=β) (ρ:=ρ) B b4 λx r=>E x (by simp [q,Op.operands,Call.operands];simpa using r);grind
    obtain ⟨F,I,N⟩:=Fo (qv g B) (A rfl);refine ⟨F,?_,λe=>absurd rfl e,λ_=>N⟩;simp only [execOp,q,resolve,invoke,builtin,Sem.run_bind,Sem.run_pure,Result.andThen_ok,b0,I,LVal]
   ·exact g.elim
  ·exact g.elim
 ·exact g.elim
end
theorem UQ (e:Edge):wL e=Region.binds .any e:=by unfold Region.binds wL;grind
theorem UR {o:Oper} {k:Nat} (h:k∈waits o):∃e∈o.after,e.on=k/\Region.binds .any e=true:=by
 have key:∀l:List Edge,k∈waits.go l->∃e∈l,e.on=k/\Region.binds .any e=true:=by
  intro l
  induction l with
  | nil=>intro h;cases h
  | cons x l d=>
   intro h;simp only [waits.go] at h;cases c:wL x with
   | false=>simp only [c,cond_false] at h;obtain ⟨e,a,b⟩:=d h;exact ⟨e,List.mem_cons_of_mem _ a,b⟩
   | true=>
    simp only [c,cond_true] at h;rcases List.mem_cons.1 h with e | h
    ·exact ⟨x,List.mem_cons_self ..,e.symm,by rw [<-UQ,c]⟩
    ·obtain ⟨e,a,b⟩:=d h;exact ⟨e,List.mem_cons_of_mem _ a,b⟩
 obtain ⟨e,a,b⟩:=key _ h;grind
theorem vW {t:Nat}:∀ {L:List Oper} {i j:Nat} {o p:Oper},(cK L).Nodup->L[i]? =some o->L[j]? =some p->o.dst=some t->p.dst=some t->i=j
 | [],_,_,_,_,_,e,_,_,_=>by simp at e
 | x::L,0,0,_,_,_,_,_,_,_=>rfl
 | x::L,0,j+1,o,p,b,e,a,h,c=>by simp at e a;subst e;simp only [cK,h] at b;exact absurd (Ah (List.mem_of_getElem? a) c) (List.nodup_cons.1 b).1
 | x::L,i+1,0,o,p,b,e,a,h,c=>by simp at e a;subst a;simp only [cK,c] at b;exact absurd (Ah (List.mem_of_getElem? e) h) (List.nodup_cons.1 b).1
 | x::L,i+1,j+1,o,p,b,e,a,h,c=>by
  have g:(cK L).Nodup:=by simp only [cK] at b;grind
  have d:L[i]? =some o:=by simpa using e
  have f:L[j]? =some p:=by simpa using a
  have:=vW g d f h c;omega
def xR (L:List Oper):List Nat->Prop
 | []=>True
 | i::d=>(∀o,L[i]? =some o->∀k∈waits o,k∈d)/\xR L d
theorem A4 {L:List Oper} {a:List Nat}:∀ {d:List Nat},xR L d->(∃i∈d,i∉a)->∃i∈d,i∉a/\∀o,L[i]? =some o->∀k∈waits o,k∈a
 | [],_,⟨i,g,_⟩=>by cases g
 | i::d,c,n=>by
  by_cases b:∃j∈d,j∉a
  ·obtain ⟨j,p,q⟩:=A4 c.2 b;grind
  ·have f:∀j∈d,j∈a:=λj hj=>Classical.byContradiction λe=>b ⟨j,hj,e⟩;obtain ⟨j,hj,l⟩:=n;rcases List.mem_cons.1 hj with rfl | hj
   ·exact ⟨j,List.mem_cons_self ..,l,λo m k h=>f k (c.1 o m k h)⟩
   grind
def mS (L:List Oper) (done ls:List Nat) (t:Nat):Prop:=∀i o,i∈done->i∉ls->L[i]? =some o->o.dst≠some t
def ux (L:List Oper) (done:List Nat) (t:Nat):Prop:=∃i o,i∈done/\L[i]? =some o/\o.dst=some t
def sJ (C:Ctx) (L:List Oper) (done:List Nat) (k:Nat):Prop:=∃i o,i∉done/\L[i]? =some o/\di C.aY o k
def iT (C:Ctx) (L:List Oper) (done ls:List Nat) (k:Nat):Prop:=(∀i o,i∈done->i∉ls->L[i]? =some o->¬di C.aY o k)/\¬sJ C L done k
structure pC (C:Ctx) (L:List Oper) (mok:List Nat) (n:Nat) (lv0:Nat->Prop) (β0:Nat->Nat) (a0:Act) (h0:Hp) (w0:World) (done ls:List Nat) (listed:Array Bool) (β:Nat->Nat) (s:St) (a:Act) (h:Hp) (w:World):Prop where
 CL:listed.size=L.length
 CK:∀i,listed.getD i false=true↔i∈ls
 Dt:ls.Nodup
 ko:∀i∈ls,i∈done
 uz:∀i∈done,i<L.length
 tg:xJ L (· ∈ls)
 mG:xJ L (· ∈done)
 uW:xR L done
 rr:RR n (mS L done ls) (iT C L done ls) (ux L done) (sJ C L done) β s a h w
 facts:∀i o,i∈done->i∉ls->L[i]? =some o->pB C L o s h/\dW L (bV L []) i o=true/\iM (bV L []) i o L 0=false/\∀d,di C.aY o d->d∈mok
 yv:im (cK L) mok lv0 β0 a0 h0 w0 (live s (iT C L done ls)) β a h w
section
variable {C:Ctx} {L:List Oper} {mok:List Nat} {n:Nat} {lv0:Nat->Prop} {β0:Nat->Nat} {a0:Act} {h0:Hp} {w0:World} {done c:List Nat} {f:Array Bool} {β:Nat->Nat} {s:St} {a:Act} {h:Hp} {w:World}
theorem Bx {i:Nat} {o p:Oper} (h:L[i]? =some o) (b:L[i]? =some p):p=o:=by grind
theorem Fu (m:(cK L).Nodup) {i:Nat} {o:Oper} (l:L[i]? =some o) (q:i∈done) (t:Nat):mS L done (i::c) t↔(o.dst=some t\/mS L done c t):=by
 constructor
 ·intro hc;by_cases k:o.dst=some t
  ·exact .inl k
  ·refine .inr λj p d g b=> ?_;by_cases r:j=i
   ·grind
   ·exact hc j p d (λe=>by grind) b
 ·rintro (k | hc) j p d g b
  ·intro e;exact g (by rw [vW m b l e k];simp)
  ·exact hc j p d (λe=>g (List.mem_cons_of_mem _ e)) b
theorem Fv (r:(cK L).Nodup) {i:Nat} {o:Oper} (q:L[i]? =some o) (u:i∈done) (k:Nat):iT C L done (i::c) k↔(di C.aY o k\/iT C L done c k):=by
 constructor
 ·rintro ⟨m,l⟩;by_cases hp:di C.aY o k
  ·exact .inl hp
  ·refine .inr ⟨λj p g b d=> ?_,l⟩;grind
 ·rintro (hp | ⟨m,l⟩)
  ·refine ⟨λj p g b d t=>b (by rw [vW r d q t.2 hp.2];simp),?_⟩;rintro ⟨j,p,g,b,d⟩;exact g (by rw [vW r b q d.2 hp.2];exact u)
  ·exact ⟨λj p g b d=>m j p g (λe=>b (List.mem_cons_of_mem _ e)) d,l⟩
theorem Oc {i j:Nat} (g:f.size=L.length) (d:i<L.length) (e:∀i,f.getD i false=true↔i∈c):(f.setIfInBounds i true).getD j false=true↔j∈i::c:=by
 by_cases b:j=i
 ·subst b;simp [g,d]
 ·have:=e j;simp [Array.getElem?_setIfInBounds_ne (Ne.symm b),b] at this ⊢;exact this
theorem GN (e:pC C L mok n lv0 β0 a0 h0 w0 done c f β s a h w) {i:Nat} {o:Oper} (u:L[i]? =some o) (x:∀k∈waits o,k∈done) (t:dW L (bV L []) i o=true) {ch:bp}
  (q:rL L L.length o=some ch) (r:vU s ch=true):∀p∈ch,ux L done p.1:=
 Mn e.rr q r λj b p d g l m=>⟨j,p,BP (Ef t g) (· ∈done) e.mG (λy v=>by grind),by rw [<-pe];exact l,m⟩
theorem Fw (ok:C.tb.Ok C.P) {ops:Array Oper} (b9:ops.toList=L) (A:(cK L).Nodup)
  (g:pC C L mok n lv0 β0 a0 h0 w0 done c f β s a h w) {i:Nat} {o:Oper} (r:L[i]? =some o) (q:i∈done) (G:i∉c) (hw:∀k∈waits o,k∈c)
  (next:Act->World->Prop) (Q:Exit->Act->World->Prop)
  (hk:∀D u m,pC C L mok n lv0 β0 a0 h0 w0 done (i::c) (f.setIfInBounds i true) D s u h m->next u m):wpOp C.P ops Q i next a w:=by
 obtain ⟨⟨ch,b2,hg,c0⟩,b6,c7,b7⟩:=g.facts i o q G r;have b1:∀j∈na (bV L []) i,j∈c:=λj hj=>BP hj (· ∈c) g.tg (λo' c6=>by grind);have K:∀t,Operand.tmp t∈o.op.operands->mS L done c t:=λt ht j p B z E J=>by have:=zn J (g.facts j p B z E).2.2.1 i o r ht;grind
 have c4:∀j b p d,o.guard=some (j,b)->nth L j=some p->p.dst=some d->mS L done c d:=λj b p d e1 T e3 j' p' B z E J=>by rw [pe] at T;have:=vW A E T J e3;subst this;exact z (b1 _ (Ef b6 e1))
 have Z:∀x∈o.op.operands,fE β s a.eval x:=λx hx=>GL g.rr λt e=>K t (e▸hx);have S:=N1 (ops:=ops) g.rr (by rw [b9];exact b2) hg (by grind);have b8:ops[i]? =some o:=by grind
 have b4:i<L.length:=g.uz i q;have X:∀d,o.dst=some d->¬mS L done c d:=λd e hc=>hc i o q G r e;have fin:∀D u m,RR n (mS L done (i::c)) (iT C L done (i::c)) (ux L done) (sJ C L done) D s u h m->im (cK L) mok (live s (iT C L done c)) β a h w (live s (iT C L done (i::c))) D u h m->next u m:=by
  intro D u m H c2;refine hk D u m ⟨by simpa using g.CL,λj=>Oc g.CL b4 g.CK,List.nodup_cons.2 ⟨G,g.Dt⟩,λj hj=> ?_,g.uz,?_,g.mG,g.uW,H,λj p B z E=>g.facts j p B (λe=>z (List.mem_cons_of_mem _ e)) E,g.yv.trans c2⟩
  ·rcases List.mem_cons.1 hj with rfl | hj
   ·exact q
   ·exact g.ko j hj
  ·intro j p hj hjm k b5;rcases List.mem_cons.1 hjm with rfl | hjm
   ·grind
   ·exact List.mem_cons_of_mem _ (g.tg j p hj hjm k b5)
 have U:∀d,o.dst=some d->d∈cK L:=λd e=>Ah (List.mem_of_getElem? r) e;unfold wpOp;simp only [b8];rcases c0 with ⟨a8,_,l,hl,O,c1,_⟩ | ⟨rfl,a8,d,cs,hp,b3,W,O⟩
 ·have c5:∀k,¬di C.aY o k:=FX (RD a8);have N:∀k,iT C L done (i::c) k↔iT C L done c k:=λk=>by rw [Fv A r q k];grind
  have b0:∀(v:Value) (m:World),Step h h w m->(holds s ch->v=LVal β l)->(¬holds s ch->v=undef)->next (a.put o.dst v) m:=by
   intro v m I B z;refine fin β _ m ?_ (((im.step I).trans (im.put (lv:=live s (iT C L done c)) U)).mono (λ_ e=>e) (λ_ e=>e) (λ_ e=>e) (λk e=>⟨e.1,(N k).1 e.2⟩));have H:=g.rr.step I;cases F:o.dst with
   | none=>exact H.congr (λt=>by rw [Fu A r q t];simp [F]) N (λ_ e=>e) (λ_ e=>e)
   | some d=>have:=H.exec (v:=v) (hl d F) (X d F) (λy=>⟨B y,λk off e=>(Mp g.rr c1 y K k off e).1⟩) z;refine this.congr (λt=> ?_) N (λ_ e=>e) (λ_ e=>e);rw [Fu A r q t,F];grind
  by_cases y:holds s ch
  ·rw [if_pos (S.2 y)];left;obtain ⟨m,R,a9,I⟩:=O y β a.eval w Z (λ_=>g.rr.sub) (λ_=>Mm g.rr K);unfold Oper.wp;rw [R];have c3:Step h h w m:=by
    cases M:dg C.tb o ch s with
    | mem=>exact I M
    | pure=>rw [a9 (by rw [M];simp)];exact .refl g.rr.sub
    | box=>rw [a9 (by rw [M];simp)];exact .refl g.rr.sub
   exact b0 _ m c3 (λ_=>rfl) (λe=>absurd y e)
  ·rw [if_neg (λe=>y (S.1 e))];exact b0 _ w (.refl g.rr.sub) (λe=>absurd e y) (λ_=>rfl)
 ·rw [if_pos (S.2 (bY s))];left;obtain ⟨t,R⟩:=O β a.eval w Z;unfold Oper.wp;rw [R];show next (a.put o.dst _) _
  have Y:¬iT C L done c d:=λe=>e.1 i o q G r hp;rw [hp.2];have V:∀k,di C.aY o k↔k=d:=λk=>⟨λe=>by have:=e.2;rw [hp.2] at this;cases this;rfl,λe=>e▸hp⟩;refine fin _ _ _ ((g.rr.CF t b3 W (X d hp.2) Y).congr (λt=> ?_) (λk=> ?_) (λ_ e=>e) (λ_ e=>e)) ((Ir (a:=a) (β:=β) t g.rr.sub W Y (U d hp.2) (b7 d hp)).mono (λ_ e=>e) (λ_ e=>e) (λ_ e=>e) (λk e=>⟨e.1,?_⟩))
  ·rw [Fu A r q t,hp.2];grind
  ·rw [Fv A r q k,V]
  ·have:=e.2;rw [Fv A r q k,V] at this;exact this
end
section
variable {C:Ctx} {L:List Oper} {mok:List Nat} {n:Nat} {lv0:Nat->Prop} {β0:Nat->Nat} {a0:Act} {h0:Hp} {w0:World} {done g:List Nat} {r:Array Bool} {β:Nat->Nat} {s:St} {a:Act} {h:Hp} {w:World}
theorem Tr {D:Nat->Prop} {o:Oper} {s':St} (k:kM D o s s') (i:∀ch,rL L L.length o=some ch->vU s ch=true->∀p∈ch,D p.1) (v:∀d,o.dst=some d->D d)
  (G:∀t,Operand.tmp t∈o.op.operands->∀b off c,(s.f t=some (.box b off,c)\/s.f t=some (.eH b off,c))->holds s c->s'.m b=s.m b) (M:∀d,di C.aY o d->s'.m d=s.m d)
  (hp:pB C L o s h):pB C L o s' h:=by
 obtain ⟨ch,u,x,H⟩:=hp;have i:=i ch u x;refine ⟨ch,u,by rw [RF k i];exact x,?_⟩;rcases H with ⟨q,J,l,F,j,I,K⟩ | ⟨rfl,q,d,z,y,A,N,j⟩
 ·refine .inl ⟨q,by rw [k.kind];exact J,l,λd e=>by rw [k.dn d (v d e)];exact F d e,λB=> ?_,k.DC I,λE=>K (by rw [<-k.kind (s':=s')];exact E)⟩;rw [k.kind];exact Qd k (λ_=>G) (λ_=>rfl) (j ((k.nJ i).1 B))
 ·exact .inr ⟨rfl,q,d,z,y,by rw [k.dn d (v d y.2)];exact A,by grind,EC k j⟩
theorem Qy (x:(cK L).Nodup) (A:pC C L mok n lv0 β0 a0 h0 w0 done g r β s a h w) {i:Nat} {o:Oper} (v:L[i]? =some o) (F:i∉done) {k:St} (d:∀t,o.dst≠some t->k.f t=s.f t)
  {j:Nat} {p:Oper} (D:L[j]? =some p) (E:j∈done) (y:∀t,Operand.tmp t∈p.op.operands->o.dst=some t->False):kM (ux L done) p s k:=by
 refine ⟨λt b=>d t λe=> ?_,λt b=>d t λe=>y t b e,λt l c e q z=>A.rr.chain t l c e q z⟩;obtain ⟨G,H,B,m,u⟩:=b;have:=vW x m v u e;grind
theorem CE (b:pC C L mok n lv0 β0 a0 h0 w0 done g r β s a h w) {j:Nat} {p:Oper} (f:L[j]? =some p) (c:j∈done) {i:Nat} (h:i∈na (bV L []) j):i∈done:=
 BP h (· ∈done) b.mG λe d=>b.mG j e d c
theorem Oe (D:(cK L).Nodup) (q:pC C L mok n lv0 β0 a0 h0 w0 done g r β s a h w) {i:Nat} {o:Oper} (x:L[i]? =some o) (hid:i∉done) (N:iM (bV L []) i o L 0=false)
  {v:St} (I:∀t,o.dst≠some t->v.f t=s.f t) (B:∀k,v.m k=s.m k\/di C.aY o k) {j:Nat} {p:Oper} (u:j∈done) (K:j∉g) (l:L[j]? =some p):
  pB C L p v h/\dW L (bV L []) j p=true/\iM (bV L []) j p L 0=false/\∀d,di C.aY p d->d∈mok:=by
 obtain ⟨F,y,G⟩:=q.facts j p u K l;refine ⟨?_,y,G⟩;have k:kM (ux L done) p s v:=Qy D q x hid I l u λt E e=>by have:=zn e N j p l E;rw [Nat.zero_add] at this;exact hid (CE q l u this)
 refine Tr k (λch H J=>GN q l (q.mG j p l u) y H J) (λd e=>⟨j,p,u,l,e⟩) (λt E b off c hfb A=> ?_) (λd hp=> ?_) F
 ·refine (B b).resolve_right λhp=> ?_;have z:sJ C L done b:=⟨i,o,hid,x,hp⟩;rcases hfb with hfb | hfb
  ·exact (q.rr.ly b z t _ c hfb A off).1 rfl
  ·exact (q.rr.ly b z t _ c hfb A off).2 rfl
 ·refine (B d).resolve_right λM=> ?_;have:=vW D x l M.2 hp.2;grind
theorem O9 (b:pC C L mok n lv0 β0 a0 h0 w0 done g r β s a h w) {i:Nat} {o:Oper} (q:L[i]? =some o) (hid:i∉done) (u:∀k∈waits o,k∈done) {c:St}
  (l:RR n (mS L (i::done) g) (iT C L (i::done) g) (ux L (i::done)) (sJ C L (i::done)) β c a h w)
  (e:∀j p,j∈i::done->j∉g->L[j]? =some p->pB C L p c h/\dW L (bV L []) j p=true/\iM (bV L []) j p L 0=false/\∀d,di C.aY p d->d∈mok)
  (m:im (cK L) mok lv0 β0 a0 h0 w0 (live c (iT C L (i::done) g)) β a h w):pC C L mok n lv0 β0 a0 h0 w0 (i::done) g r β c a h w:=by
 refine ⟨b.CL,b.CK,b.Dt,λj hj=>List.mem_cons_of_mem _ (b.ko j hj),λj hj=> ?_,b.tg,?_,⟨λv t=>by grind,b.uW⟩,l,e,m⟩
 ·rcases List.mem_cons.1 hj with rfl | hj
  ·grind
  ·exact b.uz j hj
 ·intro j p hj hjm k f;rcases List.mem_cons.1 hjm with rfl | hjm
  ·grind
  ·exact List.mem_cons_of_mem _ (b.mG j p hj hjm k f)
theorem Fx (q:pC C L mok n lv0 β0 a0 h0 w0 done g r β s a h w) {i:Nat} {o:Oper} (m:L[i]? =some o) (hid:i∉done) (t:Nat):mS L (i::done) g t↔(o.dst≠some t/\mS L done g t):=by
 constructor
 ·exact λd=>⟨d i o (List.mem_cons_self ..) (λe=>hid (q.ko i e)) m,λj p c b l=>d j p (List.mem_cons_of_mem _ c) b l⟩
 ·rintro ⟨c,b⟩ j p e1 f k;rcases List.mem_cons.1 e1 with rfl | e1
  ·grind
  ·exact b j p e1 f k
theorem C7 (l:(cK L).Nodup) {i:Nat} {o:Oper} (f:L[i]? =some o) (hid:i∉done) (k:Nat):sJ C L (i::done) k↔(¬di C.aY o k/\sJ C L done k):=by
 constructor
 ·rintro ⟨j,p,d,b,c⟩;refine ⟨λe=> ?_,j,p,λe=>d (List.mem_cons_of_mem _ e),b,c⟩;exact d (by rw [vW l b f c.2 e.2];simp)
 ·rintro ⟨h0,j,p,d,b,c⟩;refine ⟨j,p,λe=> ?_,b,c⟩;grind
theorem Bk (q:(cK L).Nodup) (t:pC C L mok n lv0 β0 a0 h0 w0 done g r β s a h w) {i:Nat} {o:Oper} (d:L[i]? =some o) (hid:i∉done) (k:Nat):
  iT C L (i::done) g k↔(¬di C.aY o k/\iT C L done g k):=by
 constructor
 ·rintro ⟨b,c⟩;have hp:¬di C.aY o k:=b i o (List.mem_cons_self ..) (λe=>hid (t.ko i e)) d;exact ⟨hp,λj p f l m=>b j p (List.mem_cons_of_mem _ f) l m,λe=>c ((C7 q d hid k).2 ⟨hp,e⟩)⟩
 ·rintro ⟨hp,b,c⟩;refine ⟨λj p f l m=> ?_,λe=>c ((C7 q d hid k).1 e).2⟩;grind
theorem Bz {i:Nat} (t:Nat) (h:ux L done t):ux L (i::done) t:=by obtain ⟨j,p,b,c,d⟩:=h;exact ⟨j,p,List.mem_cons_of_mem _ b,c,d⟩
theorem Xv (ok:C.tb.Ok C.P) (z:(cK L).Nodup) (c1:∀d∈cK L,d<n) (u:pC C L mok n lv0 β0 a0 h0 w0 done g r β s a h w) {i:Nat} {o:Oper} (y:L[i]? =some o) (hid:i∉done)
  (hw:∀k∈waits o,k∈done) (a9:dW L (bV L []) i o=true) (M:iM (bV L []) i o L 0=false) (c7:isVal C.tb o=true\/nD C.aY o=true) {K:St->Hp->Prop}
  (a8:Eb C L o s=true) (hv:DB C L mok o s h K):∃s',K s' h/\pC C L mok n lv0 β0 a0 h0 w0 (i::done) g r β s' a h w:=by
 unfold DB at hv;split at hv
 ·exact hv.elim
 rename_i ch W;cases O:vU s ch with
 | false=>simp [O] at hv
 | true=>
 simp only [O,cond_true] at hv;have U:∀p∈ch,ux L done p.1:=GN u y hw a9 W O;have b4:∀d,o.dst=some d->¬ux L done d:=λd e ⟨j,p,h1,F,A⟩=>hid (by rw [<-vW z F y A e];exact h1);have b5:∀d,o.dst=some d->d<n:=λd e=>c1 d (Ah (List.mem_of_getElem? y) e);have b9:∀ {s':St},(∀t,o.dst≠some t->s'.f t=s.f t)->kM (ux L done) o s s':=λD=>by refine ⟨λt ⟨j,p,h1,F,A⟩=>D t λe=>hid (by grind),λt J=>D t λe=> ?_,λt l c e q hq=>u.rr.chain t l c e q hq⟩;have:=zn e M i o y J;rw [Nat.zero_add] at this;exact hid (BP this (· ∈done) u.mG λo' c8=>by grind)
 cases H:isVal C.tb o with
 | true=>
  simp only [H,cond_true] at hv;obtain ⟨l,I,b1,b8,c5⟩:=UO ok hv;have c2:∀k,¬di C.aY o k:=FX (RD H);have c4:ud C.tb o=true\/dg C.tb o ch s=.pure:=by unfold Eb at a8;grind
  have D:∀t,o.dst≠some t->(s.put o.dst l ch).f t=s.f t:=λt J=>yp s _ _ _ t J;have k:=b9 D;refine ⟨_,I,O9 u y hid hw ?_ (λj p h1 F A=> ?_) ?_⟩
  ·have hb:holds s ch->∀k o',(l=.box k o'\/l=.eH k o')->¬sJ C L done k:=λQ b off e N=>by
    obtain ⟨x,hx,c0,hev⟩:=b8 b off e;rcases hev with hev | hev
    ·obtain ⟨t,c,rfl,Y,V⟩:=vg hev (by simp) Q;exact (u.rr.ly b N t _ c Y V c0).1 rfl
    ·obtain ⟨t,c,rfl,Y,V⟩:=vg hev (by simp) Q;exact (u.rr.ly b N t _ c Y V c0).2 rfl
   have b6:∀k,iT C L (i::done) g k↔iT C L done g k:=λk=>by rw [Bk z u y hid k];grind
   have b7:∀k,sJ C L (i::done) k->sJ C L done k:=λk e=>((C7 z y hid k).1 e).2;cases B:o.dst with
   | none=>exact u.rr.congr (λt=>by rw [Fx u y hid t,B];simp) b6 Bz b7
   | some d=>refine (u.rr.lift (l:=l) (ch:=ch) (b5 d B) (b4 d B) U hb).congr (λt=> ?_) b6 Bz b7;rw [Fx u y hid t,B];grind
  ·rcases List.mem_cons.1 h1 with rfl | h1
   ·rw [Bx y A];refine ⟨⟨ch,W,by rw [RF k U];exact O,.inl ⟨H,by rw [k.kind];exact c4,l,λd e=>by rw [e];exact G8 _ _ _ _,λQ=> ?_,k.DC b8,λa8=>c5 (by rw [<-k.kind (s':=s.put o.dst l ch)];exact a8)⟩⟩,a9,M,λd hp=>absurd hp (c2 d)⟩;rw [k.kind];exact Qd k (λ_ t _ b off c _ _=>by rw [oi]) (λ_=>rfl) (b1 ((k.nJ U).1 Q))
   ·exact Oe z u y hid M D (λk=>.inl (by rw [oi])) h1 F A
  ·refine u.yv.mono (λ_ e=>e) (λ_ e=>e) (λ_ e=>e) (λk e=>⟨?_,((Bk z u y hid k).1 e.2).2⟩);have:=e.1
   rwa [oi] at this
 | false=>
  simp only [H,cond_false] at hv;have b0:nD C.aY o=true:=c7.resolve_left (by rw [H];simp);have b2:∀(d:Nat) (E:List Value),K ((s.put (some d) (.box d 0) []).hO d E) h->di C.aY o d->ch=[]->has mok d=true->
    (∀(β:Nat->Nat) (S:Operand->Value) (w:World),(∀x∈o.op.operands,fE β s S x)->
     ∃t,(execOp S o).run C.P w=.ok (.value (.pointer (some ⟨w.heap.size,0,none⟩))) {w with heap:=w.heap.push (.cells E.toArray t (0,0))})->
    ∃s',K s' h/\pC C L mok n lv0 β0 a0 h0 w0 (i::done) g r β s' a h w:=by
   intro d E I hp X G b1;subst X;have Z:∀k,di C.aY o k↔k=d:=λk=>⟨λe=>by have:=e.2;rw [hp.2] at this;cases this;rfl,λe=>e▸hp⟩;have D:∀t,o.dst≠some t->((s.put (some d) (.box d 0) []).hO d E).f t=s.f t:=λt J=>vi s _ _ λe=>J (by rw [hp.2,e]);have hm:∀k,k≠d->((s.put (some d) (.box d 0) []).hO d E).m k=s.m k:=λk I=>zK _ _ I;have k:=b9 D;have N:sJ C L done d:=⟨i,o,hid,y,hp⟩;refine ⟨_,I,O9 u y hid hw ?_ (λj p h1 F A=> ?_) ?_⟩
   ·refine (u.rr.CJ E (b5 d hp.2) (b4 d hp.2) N).congr (λt=> ?_) (λk=> ?_) Bz (λk e=> ?_)
    ·rw [Fx u y hid t,hp.2];grind
    ·rw [Bk z u y hid k,Z]
    ·have:=(C7 z y hid k).1 e;grind
   ·rcases List.mem_cons.1 h1 with rfl | h1
    ·rw [Bx y A];refine ⟨⟨[],W,rfl,.inr ⟨rfl,H,d,E,hp,G8 _ _ _ _,Bh _ _ _,EC k b1⟩⟩,a9,M,λd' c3=> ?_⟩;rw [(Z d').1 c3];exact (uq _ _).1 G
    ·exact Oe z u y hid M D (λk=>by
      grind) h1 F A
   ·refine u.yv.mono (λ_ e=>e) (λ_ e=>e) (λ_ e=>e) (λk e=> ?_);have hl:=(Bk z u y hid k).1 e.2;rw [Z] at hl;refine ⟨?_,hl.2⟩;have:=e.1;grind
  split at hv
  ·rename_i d B;have b3:o.dst=some d/\has C.aY d=true:=by unfold tj at B;grind
   cases G:has mok d with
   | false=>simp [G] at hv
   | true=>
    simp only [G,cond_true] at hv;split at hv
    ·rename_i t R;split at hv
     ·rename_i e X;refine b2 d (bA e.zero) hv ⟨b0,b3.1⟩ rfl G λβ S w _=>⟨t,?_⟩;have T:(bA e.zero).toArray=e.zero.cells:=by apply Array.ext';simp [qi]
      rw [T];simp [execOp,R,Instr.alloc,dd ok X,newVar,vS]
     ·exact hv.elim
    ·rename_i t x R;obtain ⟨v,hev,c6⟩:=lF hv;refine b2 d (bA v) c6 ⟨b0,b3.1⟩ rfl G λβ S w ho=>⟨t,?_⟩;have hx:=bX (ho x (by simp [R,Op.operands])) (bY s) hev;have T:(bA v).toArray=v.cells:=by apply Array.ext';simp [qi]
     rw [T];simp [execOp,R,hx,LVal,Instr.box,newVar,vS]
    ·exact hv.elim
  ·exact hv.elim
  ·rename_i B;exfalso;unfold tj at B;unfold nD at b0;grind
end
end Lf
