/-
  Part 1 of the texts that the claim leans on.
-/
import Derived.Calls
import Derived.Orders
import Derived.Scope
import Derived.ScopeJumps
import Derived.KernelRfl
import Derived.Laws.Sem
abbrev yw(n:Int):Int:=Go.IntKind.wrap .i64 n
set_option maxRecDepth 100000
namespace Lf
open Go
def Hp :Type:=Nat->Option Obj
def Hp.set (h:Hp) (b:Nat) (o:Obj):Hp:=λi=>if i=b then some o else h i
instance:LE Hp:=⟨λh a=>∀b o,h b=some o->a b=some o⟩
theorem Hp.le_refl (h:Hp):h<=h:=λ_ _ e=>e
theorem Hp.le_trans {a b c:Hp} (h:a<=b) (k:b<=c):a<=c:=λi o e=>k i o (h i o e)
def cQ (h:Hp) (a:Addr):Option Value:=
 match h a.block with
 | some (.cells c _ _)=>if a.spot.isSome then none else c[a.off]?
 | _=>none
def fZ (h:Hp) (a:Addr):Bool:=
 match h a.block with
 | some (.cells _ _ (c,b))=>c<=a.off&&a.off<b
 | _=>false
def Hp.put (h:Hp) (a:Addr) (v:Value):Hp:=
 match h a.block with
 | some (.cells c e fr)=>h.set a.block (.cells (if a.spot.isSome then c else c.setIfInBounds a.off v) e fr)
 | _=>h
def Cd :Obj->Option (TypeId×Nat)
 | .cells c e _=>some (e,c.size)
 | _=>none
def isCells :Obj->Bool
 | .cells .. =>true
 | _=>false
def cP {α:Type} (P:Program):Sem α->(α->Hp->Prop)->Hp->Prop
 | .pure a,K,h=>K a h
 | .load _ a k,K,h=>∃v,cQ h a=some v/\cP P (k v) K h
 | .store _ _ (.agg _) _,_,_ | .store _ _ (.tuple _) _,_,_=>False
 | .store _ a v k,K,h=>(∃v0,cQ h a=some v0)/\fZ h a=false/\cP P k K (h.put a v)
 | .new o k,K,h=>∀b,h b=none->cP P (k b) K (h.set b o)
 | .shape r k,K,h=>∃o,h r=some o/\cP P (k (Cd o)) K h
 | .freeze _ _ _,_,_=>False
 | .frozen a k,K,h=>(∃o,h a.block=some o)/\cP P (k (fZ h a)) K h
 | .getObj r k,K,h=>∃o,h r=some o/\isCells o=false/\cP P (k o) K h
 | .setObj r o k,K,h=>(∃c,h r=some c/\isCells c=false)/\cP P k K (h.set r o)
 | .choose q k,K,h=>if q.forced then cP P (k 0) K h else ∀t,cP P (k (q.cut t)) K h
 | .sys _ _,_,_=>False
 | .program k,K,h=>cP P (k P) K h
 | .mark _ k,K,h=>cP P k K h
 | .halt _,_,_=>False
def Sub (h:Hp) (w:World):Prop:=∀b o,h b=some o->w.heap[b]? =some o
structure Step (h h':Hp) (w w':World):Prop where
 sub:Sub h' w'
 size:w.heap.size<=w'.heap.size
 bq:∀b,b<w.heap.size->h b=none->w'.heap[b]? =w.heap[b]?/\h' b=none
 os:w'.os=w.os
 tape:w'.tape=w.tape
 output:w'.output=w.output
theorem Sub.lt {h:Hp} {w:World} (a:Sub h w) {b:Nat} {o:Obj} (e:h b=some o):b<w.heap.size:=by have:=a b o e;grind
theorem Sub.mono {h a:Hp} {w:World} (d:Sub a w) (c:h<=a):Sub h w:=λb o e=>d b o (c b o e)
theorem Step.refl {h:Hp} {w:World} (a:Sub h w):Step h h w w:=
 ⟨a,Nat.le_refl _,λ_ _ h=>⟨rfl,h⟩,rfl,rfl,rfl⟩
theorem Step.trans {d e f:Hp} {g h j:World} (a:Step d e g h) (b:Step e f h j):Step d f g j:=by refine ⟨b.sub,Nat.le_trans a.size b.size,λi c k=> ?_,b.os.trans a.os,b.tape.trans a.tape,b.output.trans a.output⟩;have h1:=a.bq i c k;have l:=b.bq i (Nat.lt_of_lt_of_le c a.size) h1.2;grind
theorem Step.drew {h b:Hp} {w c:World} {n:Nat} (a:Step h b {w with drawn:=n} c):Step h b w c:=
 ⟨a.sub,a.size,a.bq,a.os,a.tape,a.output⟩
theorem vL {h:Hp} {w:World} (b:Sub h w) {a:Addr} {v:Value} (e:cQ h a=some v):w.cell? a=some v:=by
 unfold cQ at e;cases hb:h a.block with
 | none=>simp [hb] at e
 | some o=>have:=b _ _ hb;unfold World.cell?;grind
theorem DP {h:Hp} {w:World} (b:Sub h w) {a:Addr} {o:Obj} (e:h a.block=some o):w.frozen? a=fZ h a:=by have:=b _ _ e;unfold World.frozen? fZ;grind
theorem FF {h:Hp} {a:Addr} {v:Value} (e:cQ h a=some v):
  ∃c t fr,h a.block=some (.cells c t fr)/\a.spot=none/\c[a.off]? =some v:=by
 unfold cQ at e;split at e
 ·rename_i c t fr hb;refine ⟨c,t,fr,hb,?_⟩;cases b:a.spot with
  | none=>simp [b] at e;exact ⟨rfl,e⟩
  | some s=>simp [b] at e
 grind
theorem aaF {h:Hp} {a:Addr} {v v0:Value} (e:cQ h a=some v0):
  ∃c t fr,h a.block=some (.cells c t fr)/\h.put a v=h.set a.block (.cells (c.setIfInBounds a.off v) t fr):=by
 obtain ⟨c,t,fr,hb,b,_⟩:=FF e;refine ⟨c,t,fr,hb,?_⟩;unfold Hp.put;grind
theorem Ji {h:Hp} {w:World} (c:Sub h w) {b:Nat} {o:Obj} (hb:b<w.heap.size):
  Sub (h.set b o) {w with heap:=w.heap.setIfInBounds b o}:=by
 intro i x e;unfold Hp.set at e;by_cases a:i=b
 ·grind
 ·simp [a] at e;have:=c _ _ e;grind
theorem HM {h:Hp} {w:World} (g:Sub h w) {a:Addr} {v v0:Value} (e:cQ h a=some v0):
  Step h (h.put a v) w (w.setCell a v):=by
 obtain ⟨c,t,fr,hb,m⟩:=aaF (v:=v) e;obtain ⟨_,_,_,p,n,_⟩:=FF e;have j:=g.lt hb;have o:w.setCell a v={w with heap:=w.heap.setIfInBounds a.block (.cells (c.setIfInBounds a.off v) t fr)}:=by
  unfold World.setCell;congr 1;apply Array.ext_getElem?;intro i;by_cases d:i=a.block
  ·subst d;rw [Array.getElem?_setIfInBounds_self_of_lt j,Array.getElem?_modify,if_pos rfl,g _ _ hb];simp [n]
  ·rw [Array.getElem?_setIfInBounds_ne (Ne.symm d),Array.getElem?_modify,if_neg (Ne.symm d)]
 rw [m,o];refine ⟨Ji g j,by simp,λb q f=> ?_,rfl,rfl,rfl⟩;have k:b≠a.block:=λl=>by rw [l,hb] at f;cases f
 refine ⟨by simp [Array.getElem?_setIfInBounds_ne (Ne.symm k)],?_⟩;unfold Hp.set;rw [if_neg k];exact f
theorem tw {h:Hp} {w:World} (d:Sub h w) {r:Nat} {o i:Obj} (e:h r=some i):
  Step h (h.set r o) w {w with heap:=w.heap.setIfInBounds r o}:=by
 have g:=d.lt e;refine ⟨Ji d g,by simp,λb j a=> ?_,rfl,rfl,rfl⟩;have c:b≠r:=λf=>by rw [f,e] at a;cases a
 refine ⟨by simp [Array.getElem?_setIfInBounds_ne (Ne.symm c)],?_⟩;unfold Hp.set;rw [if_neg c];exact a
theorem Bf {h:Hp} {w:World} (a:Sub h w) (o:Obj):
  h w.heap.size=none/\Step h (h.set w.heap.size o) w {w with heap:=w.heap.push o}:=by
 have d:h w.heap.size=none:=by
  cases e:h w.heap.size with
  | none=>rfl
  | some x=>exact absurd (a.lt e) (Nat.lt_irrefl _)
 refine ⟨d,?_,by simp,λb hb g=> ?_,rfl,rfl,rfl⟩
 ·intro i x e;unfold Hp.set at e;by_cases c:i=w.heap.size
  ·grind
  ·simp [c] at e;have f:=a.lt e;have:=a _ _ e;grind
 ·refine ⟨by simp [Array.getElem?_push,Nat.ne_of_lt hb],?_⟩;unfold Hp.set;grind
theorem Lv {C:Type} {P:Program} (s:Sem C):∀ {K:C->Hp->Prop} {h:Hp} {w:World},Sub h w->cP P s K h->
  ∃a f e,s.run P w=.ok a f/\K a e/\Step h e w f:=by
 induction s with
 | pure a=>intro K h w d b;exact ⟨a,w,h,rfl,b,.refl d⟩
 | load m a k i=>intro K h w d b;obtain ⟨v,hv,b⟩:=b;obtain ⟨x,f,e,l,j,g⟩:=i v d b;exact ⟨x,f,e,by simp only [Sem.run,vL d hv,l],j,g⟩
 | store m a v k i=>
  intro K h w d b;have J:((∃v0,cQ h a=some v0)/\fZ h a=false/\cP P k K (h.put a v))->(∀p,v≠ .agg p)->(∀p,v≠ .tuple p)->
    ∃x f e,(Sem.store m a v k).run P w=.ok x f/\K x e/\Step h e w f:=by
   rintro ⟨⟨v0,A⟩,D,b⟩ G H;have g:=HM (v:=v) d A;obtain ⟨x,f,e,l,j,y⟩:=i g.sub b;refine ⟨x,f,e,?_,j,g.trans y⟩;have E:w.frozen? a=false:=by obtain ⟨c,t,fr,hb,_,_⟩:=FF A;rw [DP d hb];exact D
   cases v<;>first | exact absurd rfl (G _) | exact absurd rfl (H _) | simp only [Sem.run,vL d A,E,l,Bool.false_eq_true,if_false]
  cases v<;>first | exact b.elim | exact J b (by intros;simp) (by intros;simp)
 | new o k i=>intro K h w d b;obtain ⟨F,g⟩:=Bf d o;obtain ⟨x,f,e,l,j,y⟩:=i _ g.sub (b _ F);exact ⟨x,f,e,by simp only [Sem.run,l],j,g.trans y⟩
 | shape r k i=>
  intro K h w d b;obtain ⟨o,u,b⟩:=b;obtain ⟨x,f,e,l,j,g⟩:=i _ d b;refine ⟨x,f,e,?_,j,g⟩;simp only [Sem.run];have:w.shape? r=Cd o:=by unfold World.shape?;rw [d _ _ u];cases o<;>rfl
  grind
 | freeze a n k i=>intro K h w d b;exact b.elim
 | frozen a k i=>intro K h w d b;obtain ⟨⟨o,u⟩,b⟩:=b;obtain ⟨x,f,e,l,j,g⟩:=i _ d b;refine ⟨x,f,e,?_,j,g⟩;simp only [Sem.run,DP d u];exact l
 | getObj r k i=>intro K h w d b;obtain ⟨o,u,B,b⟩:=b;obtain ⟨x,f,e,l,j,g⟩:=i _ d b;refine ⟨x,f,e,?_,j,g⟩;simp only [Sem.run,d _ _ u];cases o<;>first | exact l | simp [isCells] at B
 | setObj r o k i=>intro K h w d b;obtain ⟨⟨L,u,B⟩,b⟩:=b;have g:=tw (o:=o) d u;obtain ⟨x,f,e,l,j,y⟩:=i g.sub b;refine ⟨x,f,e,?_,j,g.trans y⟩;simp only [Sem.run,d _ _ u];cases L<;>first | exact l | simp [isCells] at B
 | choose q k i=>
  intro K h w d b;simp only [cP] at b;by_cases z:q.forced=true
  ·simp only [z,if_true] at b;obtain ⟨x,f,e,l,j,g⟩:=i _ d b;exact ⟨x,f,e,by simp only [Sem.run,z,if_true,l],j,g⟩
  ·simp only [z,if_false,Bool.false_eq_true] at b;have I:Sub h {w with drawn:=w.drawn+1}:=d;obtain ⟨x,f,e,l,j,g⟩:=i _ I (b (w.tape w.drawn q));exact ⟨x,f,e,by simp only [Sem.run,z,if_false,Bool.false_eq_true,l],j,g.drew⟩
 | sys c k i=>intro K h w d b;exact b.elim
 | program k i=>intro K h w d b;obtain ⟨x,f,e,l,j,g⟩:=i _ d b;exact ⟨x,f,e,by simp only [Sem.run,l],j,g⟩
 | mark m k i=>intro K h w d b;obtain ⟨x,f,e,l,j,g⟩:=i d b;exact ⟨x,f,e,by simp only [Sem.run,l],j,g⟩
 | halt x=>intro K h w d b;exact b.elim
theorem Tp {j:Type} {P:Program} (s:Sem j):∀ {K g:j->Hp->Prop} {h:Hp},(∀a h,K a h->g a h)->cP P s K h->cP P s g h:=by
 induction s with
 | pure a=>intro K g h e d;exact e _ _ d
 | load m a k f=>rintro K g h e ⟨v,hv,d⟩;exact ⟨v,hv,f _ e d⟩
 | store m a v k f=>intro K g h e d;cases v<;>first | exact d.elim | exact ⟨d.1,d.2.1,f e d.2.2⟩
 | new o k f=>intro K g h e d b hb;exact f _ e (d b hb)
 | shape r k f=>rintro K g h e ⟨o,i,d⟩;exact ⟨o,i,f _ e d⟩
 | freeze a n k f=>intro K g h e d;exact d.elim
 | frozen a k f=>rintro K g h e ⟨i,d⟩;exact ⟨i,f _ e d⟩
 | getObj r k f=>rintro K g h e ⟨o,i,l,d⟩;exact ⟨o,i,l,f _ e d⟩
 | setObj r o k f=>rintro K g h e ⟨i,d⟩;exact ⟨i,f e d⟩
 | choose q k f=>intro K g h e d;simp only [cP] at d ⊢;grind
 | sys c k f=>intro K g h e d;exact d.elim
 | program k f=>intro K g h e d;exact f _ e d
 | mark m k f=>intro K g h e d;exact f e d
 | halt x=>intro K g h e d;exact d.elim
theorem DQ {d e:Type} {P:Program} (s:Sem d) (f:d->Sem e):∀ {K:e->Hp->Prop} {h:Hp},
  cP P (s.bind f) K h↔cP P s (λa h=>cP P (f a) K h) h:=by
 induction s with
 | pure a=>intro K h;exact Iff.rfl
 | load m a k b=>intro K h;simp only [Sem.bind,cP];grind
 | store m a v k b=>intro K h;cases v<;>simp only [Sem.bind,cP]<;>first | exact Iff.rfl | grind
 | new o k b=>intro K h;simp only [Sem.bind,cP];grind
 | shape r k b=>intro K h;simp only [Sem.bind,cP];grind
 | freeze a n k b=>intro K h;exact Iff.rfl
 | frozen a k b=>intro K h;simp only [Sem.bind,cP];grind
 | getObj r k b=>intro K h;simp only [Sem.bind,cP];grind
 | setObj r o k b=>intro K h;simp only [Sem.bind,cP];grind
 | choose q k b=>intro K h;simp only [Sem.bind,cP];grind
 | sys c k b=>intro K h;exact Iff.rfl
 | program k b=>intro K h;simp only [Sem.bind,cP];exact b _
 | mark m k b=>intro K h;simp only [Sem.bind,cP];exact b
 | halt x=>intro K h;exact Iff.rfl
structure Shape where
 T:Type
 enc:T->Value
 dec:Value->Option T
 ok:∀v x,dec v=some x->enc x=v
structure Sl where
 base:Option Addr
 len:Nat
 cap:Nat
def Sl.v (s:Sl):Value:=.slice s.base s.len s.cap
def Gk :IntKind->IntKind->Bool
 | .i8,.i8 | .i16,.i16 | .i32,.i32 | .i64,.i64 | .u8,.u8 | .u16,.u16 | .u32,.u32 | .u64,.u64=>true
 | _,_=>false
theorem KA {a b:IntKind} (h:Gk a b=true):a=b:=by cases a<;>cases b<;>first | rfl | cases h
def NM :FloatKind->FloatKind->Bool
 | .f32,.f32 | .f64,.f64=>true
 | _,_=>false
theorem aaH {a b:FloatKind} (h:NM a b=true):a=b:=by cases a<;>cases b<;>first | rfl | cases h
@[reducible] def af (k : IntKind) : Shape where
 T:=Int
 enc:=λn=>.int k n
 dec:=λv=>match v with
  | .int b n=>cond (Gk b k) (some n) none
  | _=>none
 ok:=by
  intro v x h;split at h
  ·rename_i b n;cases a:Gk b k
   ·simp [a] at h
   ·simp [a] at h;rw [KA a,h]
  ·cases h
@[reducible] def bB : Shape where
 T:=Bool
 enc:=λn=>.bool n
 dec:=λv=>match v with
  | .bool n=>some n
  | _=>none
 ok:=by intro v x h;split at h<;>cases h;rfl
@[reducible] def lY : Shape where
 T:=ByteArray
 enc:=λn=>.string n
 dec:=λv=>match v with
  | .string n=>some n
  | _=>none
 ok:=by intro v x h;split at h<;>cases h;rfl
@[reducible] def ah : Shape where
 T:=Option Addr
 enc:=λn=>.pointer n
 dec:=λv=>match v with
  | .pointer n=>some n
  | _=>none
 ok:=by intro v x h;split at h<;>cases h;rfl
@[reducible] def av : Shape where
 T:=Sl
 enc:=λn=>.slice n.base n.len n.cap
 dec:=λv=>match v with
  | .slice a l c=>some ⟨a,l,c⟩
  | _=>none
 ok:=by grind
@[reducible] def fN : Shape where
 T:=Option Nat
 enc:=λn=>.map n
 dec:=λv=>match v with
  | .map n=>some n
  | _=>none
 ok:=by intro v x h;split at h<;>cases h;rfl
@[reducible] def iO (k : FloatKind) : Shape where
 T:=Nat
 enc:=λn=>.float k n
 dec:=λv=>match v with
  | .float b n=>cond (NM b k) (some n) none
  | _=>none
 ok:=by
  intro v x h;split at h
  ·rename_i b n;cases a:NM b k
   ·simp [a] at h
   ·simp [a] at h;rw [aaH a,h]
  ·cases h
@[reducible] def zu : Shape where
 T:=Value
 enc:=λv=>v
 dec:=λv=>some v
 ok:=by simp
def Jj :Value->Bool
 | .agg _=>false
 | _=>true
structure pg where
 v:Value
 ok:Jj v=true
@[reducible] def jh : Shape where
 T:=pg
 enc:=λx=>x.v
 dec:=λv=>match h:Jj v with
  | true=>some ⟨v,h⟩
  | false=>none
 ok:=by grind
structure wg where
 g:Nat
 first:Array Value
 captured:Array Value
@[reducible] def gv : Shape where
 T:=wg
 enc:=λx=>.func (.func x.g) x.first x.captured
 dec:=λv=>match v with
  | .func (.func g) a b=>some ⟨g,a,b⟩
  | _=>none
 ok:=by grind
structure qT (n:Nat) where
 l:List Value
 ok:Nat.beq l.length n=true
theorem qT.size {n:Nat} (x:qT n):(Array.mk x.l).size=n:=Nat.eq_of_beq_eq_true x.ok
@[reducible] def Zr (n : Nat) : Shape where
 T:=qT n
 enc:=λx=>.agg ⟨x.l⟩
 dec:=λv=>match v with
  | .agg ⟨l⟩=>match h:Nat.beq l.length n with
   | true=>some ⟨l,h⟩
   | false=>none
  | _=>none
 ok:=by grind
@[reducible] def sW : Shape where
 T:=Unit
 enc:=λ_=>.tuple #[]
 dec:=λv=>match v with
  | .tuple ⟨[]⟩=>some ()
  | _=>none
 ok:=by grind
structure FT where
 more:Bool
 rest:List Value
@[reducible] def aaJ : Shape where
 T:=FT
 enc:=λx=>.tuple ⟨.bool x.more::x.rest⟩
 dec:=λv=>match v with
  | .tuple ⟨.bool b::r⟩=>some ⟨b,r⟩
  | _=>none
 ok:=by grind
@[reducible] def mu (a b : Shape) : Shape where
 T:=a.T×b.T
 enc:=λp=>.tuple #[a.enc p.1,b.enc p.2]
 dec:=λv=>match v with
  | .tuple ⟨[x,y]⟩=>match a.dec x,b.dec y with
   | some x,some y=>some (x,y)
   | _,_=>none
  | _=>none
 ok:=by
  intro v x h;split at h
  ·split at h
   ·rename_i c d;cases h;rw [a.ok _ _ c,b.ok _ _ d]
   ·cases h
  ·cases h
@[reducible] def rK (a b c : Shape) : Shape where
 T:=a.T×b.T×c.T
 enc:=λp=>.tuple #[a.enc p.1,b.enc p.2.1,c.enc p.2.2]
 dec:=λv=>match v with
  | .tuple ⟨[x,y,z]⟩=>match a.dec x,b.dec y,c.dec z with
   | some x,some y,some z=>some (x,y,z)
   | _,_,_=>none
  | _=>none
 ok:=by
  intro v x h;split at h
  ·split at h
   ·rename_i d e f;cases h;rw [a.ok _ _ d,b.ok _ _ e,c.ok _ _ f]
   ·cases h
  ·cases h
@[reducible] def xB (a b c d : Shape) : Shape where
 T:=a.T×b.T×c.T×d.T
 enc:=λp=>.tuple #[a.enc p.1,b.enc p.2.1,c.enc p.2.2.1,d.enc p.2.2.2]
 dec:=λv=>match v with
  | .tuple ⟨[x,y,z,u]⟩=>match a.dec x,b.dec y,c.dec z,d.dec u with
   | some x,some y,some z,some u=>some (x,y,z,u)
   | _,_,_,_=>none
  | _=>none
 ok:=by
  intro v x h;split at h
  ·split at h
   ·rename_i e f g i;cases h;rw [a.ok _ _ e,b.ok _ _ f,c.ok _ _ g,d.ok _ _ i]
   ·cases h
  ·cases h
@[reducible] def xC (a b c d e : Shape) : Shape where
 T:=a.T×b.T×c.T×d.T×e.T
 enc:=λp=>.tuple #[a.enc p.1,b.enc p.2.1,c.enc p.2.2.1,d.enc p.2.2.2.1,e.enc p.2.2.2.2]
 dec:=λv=>match v with
  | .tuple ⟨[x,y,z,u,w]⟩=>match a.dec x,b.dec y,c.dec z,d.dec u,e.dec w with
   | some x,some y,some z,some u,some w=>some (x,y,z,u,w)
   | _,_,_,_,_=>none
  | _=>none
 ok:=by
  intro v x h;split at h
  ·split at h
   ·rename_i f g i j k;cases h;rw [a.ok _ _ f,b.ok _ _ g,c.ok _ _ i,d.ok _ _ j,e.ok _ _ k]
   ·cases h
  ·cases h
@[reducible] def aaL (a b c d e f g : Shape) : Shape where
 T:=a.T×b.T×c.T×d.T×e.T×f.T×g.T
 enc:=λp=>.tuple #[a.enc p.1,b.enc p.2.1,c.enc p.2.2.1,d.enc p.2.2.2.1,e.enc p.2.2.2.2.1,f.enc p.2.2.2.2.2.1,g.enc p.2.2.2.2.2.2]
 dec:=λv=>match v with
  | .tuple ⟨[x,y,z,u,w,o,q]⟩=>match a.dec x,b.dec y,c.dec z,d.dec u,e.dec w,f.dec o,g.dec q with
   | some x,some y,some z,some u,some w,some o,some q=>some (x,y,z,u,w,o,q)
   | _,_,_,_,_,_,_=>none
  | _=>none
 ok:=by
  intro v x h;split at h
  ·split at h
   ·rename_i i j k l m n r;cases h;rw [a.ok _ _ i,b.ok _ _ j,c.ok _ _ k,d.ok _ _ l,e.ok _ _ m,f.ok _ _ n,g.ok _ _ r]
   ·cases h
  ·cases h
structure Ty where
 aN:TypeDesc
 size:Nat
 bytes:Nat
 zero:Value
 sh:Shape
structure Tb where
 ty:Nat->Option Ty
 call:Nat->Bool
 ext:Nat->Option (Array Value->Sem Value)
def nB :TypeDesc->Bool
 | .struct _ | .array _ _=>true
 | _=>false
def dt (tb:Tb) (t:Nat):Shape:=match tb.ty t with
 | some e=>e.sh
 | none=>sW
def nth {b:Type _}:List b->Nat->Option b
 | [],_=>none
 | a::_,0=>some a
 | _::l,n+1=>nth l n
def ou {a:Type _}:List a->Nat->List a
 | l,0=>l
 | [],_+1=> []
 | _::l,n+1=>ou l n
def oV {b:Type _}:List b->Nat->List b
 | _,0=> []
 | [],_+1=> []
 | a::l,n+1=>a::oV l n
def j7 {c:Type _}:List c->Nat->List c->List c
 | l,0,[]=>l
 | [],0,_::_=> []
 | _::l,0,b::new=>b::j7 l 0 new
 | [],_+1,_=> []
 | a::l,n+1,new=>a::j7 l n new
inductive LV where
 | v (x:Value)
 | box (k off:Nat)
 | dz (k off:Nat)
abbrev aS :=List (Nat×Bool)
structure St where
 f:Nat->Option (LV×aS)
 m:Nat->Option (List Value)
def St.put (s:St) (d:Option Nat) (l:LV) (ch:aS):St:=
 match d with
 | none=>s
 | some d=>{f:=λi=>cond (Nat.beq i d) (some (l,ch)) (s.f i),m:=s.m}
def St.fV (s:St) (k:Nat) (cs:List Value):St:=
 {f:=s.f,m:=λi=>cond (Nat.beq i k) (some cs) (s.m i)}
def KB :Bool->Bool->Bool
 | true,b=>b
 | false,true=>false
 | false,false=>true
def nJ :aS->aS->Bool
 | [],[]=>true
 | (t,w)::c,(u,x)::d=>cond (Nat.beq t u) (cond (KB w x) (nJ c d) false) false
 | _,_=>false
def mq (c:aS):aS->Bool
 | []=>match c with
  | []=>true
  | _=>false
 | p::d=>match c with
  | []=>true
  | _=>cond (nJ c (p::d)) true (mq c d)
def ev (s:St) (ch:aS):Operand->Option LV
 | .tmp t=>match s.f t with
  | some (l,c)=>cond (mq c ch) (some l) none
  | none=>none
 | .const v=>some (.v v)
 | .global g=>some (.v (.pointer (some ⟨g,0,none⟩)))
 | .func f=>some (.v (.func (.func f) #[] #[]))
def ee (s:St):aS->Option Bool
 | []=>none
 | [(t,w)]=>match s.f t with
  | some (.v (.bool b),_)=>some (cond w b (!b))
  | _=>some false
 | (t,w)::p::r=>match s.f t with
  | some (.v (.bool b),_)=>match ee s (p::r) with
   | some x=>some (cond w (x&&b) (x&& !b))
   | none=>some (cond w b (!b))
  | _=>some false
def kg (c:Option Bool) (p:Prop):Prop:=
 match c with
 | none=>p
 | some b=>b=true->p
def hH :List Value->Bool
 | []=>true
 | .agg _::_=>false
 | .tuple _::_=>false
 | _::r=>hH r
def aV (h:Hp) (a:Addr) (cs:List Value):Prop:=∀i v,cs[i]? =some v->cQ h (a.add i)=some v
def bg (v:Value):List Value:=match v with
 | .agg cs=>cs.toList
 | v=> [v]
def aP (c:Option Bool) (sh:Shape) (h:Hp) (a:Addr) (K:sh.T->Prop):Prop:=
 ∃x,kg c (aV h a (bg (sh.enc x)))/\K x
def ai (c:Option Bool) (p:Option Addr) (K:Addr->Prop):Prop:=∃a,kg c (p=some a)/\K a
def jL (P:Program) (s:Sem Value) (h:Hp) (v:Value):Prop:=∀w,Sub h w->∃a,s.run P w=.ok v a/\Step h h w a
def iC (c:Option Bool) (P:Program) (s:Sem Value) (sh:Shape) (h:Hp) (K:sh.T->Prop):Prop:=
 ∃x,kg c (jL P s h (sh.enc x))/\K x
def jy (P:Program) (s:Sem Value) (sh:Shape) (K:sh.T->Hp->Prop) (h:Hp):Prop:=
 cP P s (λv a=>∃x,v=sh.enc x/\K x a) h
def FZ (P:Program) (s:Sem Unit) (K:Hp->Prop) (h:Hp):Prop:=cP P s (λ_ a=>K a) h
def dy {a:Type} (c:Option Bool) (A:(a->Hp->Prop)->Hp->Prop) (K:a->Hp->Prop) (h:Hp):Prop:=
 match c with
 | none=>A K h
 | some b=>(b=true->A K h)/\(b=false->∃x,K x h)
def bc (cs:List Value) (K:Addr->Hp->Prop) (h:Hp):Prop:=
 ∀b t,h b=none->K ⟨b,0,none⟩ (h.set b (.cells cs.toArray t (0,0)))
def FR (t:Nat) (a:List Value) (K:Addr->Hp->Prop) (h:Hp):Prop:=
 ∀b,h b=none->K ⟨b,0,none⟩ (h.set b (.cells a.toArray t (0,0)))
def xD (t:Nat) (a:List Value) (K:Addr->Hp->Prop) (h:Hp):Prop:=
 match a with
 | [.pointer none,.slice none 0 0]=>FR t a K h
 | _=>bc a K h
def jA (h:Hp) (a:Addr):List Value->Nat->Hp
 | [],_=>h
 | v::l,i=>jA (h.put (a.add i) v) a l (i+1)
def pS (h:Hp) (a:Addr):Nat->Prop
 | 0=>True
 | n+1=>pS h a n/\(∃v,cQ h (a.add n)=some v)/\fZ h (a.add n)=false
def bW (h:Hp) (a:Addr) (b:List Value) (K:Hp->Prop):Prop:=pS h a b.length/\K (jA h a b 0)
def rX (P:Program) (g:FuncId) (args:List Value) (K:Value->Hp->Prop) (h:Hp):Prop:=
 ∀w,Sub h w->Calls P g args.toArray w (λe b=>∃v a,e=.returned v/\K v a/\Step h a w b)
def ae (P:Program) (g:FuncId) (args:List Value) (sh:Shape) (K:sh.T->Hp->Prop) (h:Hp):Prop:=
 rX P g args (λv a=>∃x,v=sh.enc x/\K x a) h
def fX (P:Program) (tb:Tb) (f:Value) (args:List Value) (sh:Shape) (K:sh.T->Hp->Prop) (h:Hp):Prop:=
 ∃g first captured,f=.func (.func g) first captured/\tb.call g=true/\ae P g (first.toList++args++captured.toList) sh K h
def mI {σ:Type} (A:(σ->Hp->Prop)->Prop) (B:σ->Hp->Prop):Prop:=∃R:σ->Hp->Prop,A R/\∀x h,R x h->B x h
def rY {σ:Type} (d:(σ->Hp->Prop)->σ->Hp->Prop) (x:σ) (h:Hp):Prop:=
 ∃(I:σ->Hp->Prop) (c:σ->Hp->Nat),I x h/\∀x h,I x h->d (λb a=>I b a/\c b a<c x h) x h
def aJ {α:Type} (x:α) (K:α->Prop):Prop:=∀y,y=x->K y
def nX (h:Hp) (base:Option Addr) (n:Nat) (b:List Value):Prop:=
 b.length=n/\(n=0\/∃a,base=some a/\aV h a b)
def fk (zero:List Value) (n:Nat):List Value:=(List.replicate n zero).flatten
def fI (h:Hp) (base:Option Addr) (off:Nat) (b:List Value):Hp:=match base with
 | some a=>jA h (a.add off) b 0
 | none=>h
def jG (size bytes:Nat) (zero:List Value) (l:Sl) (n:Nat) (new:List Value) (K:Sl->Hp->Prop) (h:Hp):Prop:=
 ∃d,nX h l.base (l.len*size) d/\(l.len+n<=140737488355328/\(l.len+n)*bytes<=140737488355328)/\
  hH new=true/\(l.len+n<=l.cap->(∀a,l.base=some a->pS h (a.add (l.len*size)) (n*size))/\K ⟨l.base,l.len+n,l.cap⟩ (fI h l.base (l.len*size) new))/\
  (l.cap<l.len+n->∀c b t,l.len+n<=c->h b=none->
   K ⟨some ⟨b,0,none⟩,l.len+n,c⟩ (h.set b (.cells (d++new++fk zero (c-(l.len+n))).toArray t (0,0))))
def eS (size bytes:Nat) (zero:List Value) (l x:Sl) (K:Sl->Hp->Prop) (h:Hp):Prop:=
 ∃new,nX h x.base (x.len*size) new/\jG size bytes zero l x.len new K h
def yq (size bytes:Nat) (zero:List Value) (l:Sl) (m:Int) (K:Sl->Hp->Prop) (h:Hp):Prop:=
 0<=m/\jG size bytes zero l m.toNat (fk zero m.toNat) K h
def pI (s:ByteArray):List Value:=s.data.toList.map λb=>.int .u8 b.toNat
def xP (u:Nat) (size bytes:Nat) (zero:List Value) (l:Sl) (n:Nat) (new:List Value) (K:Sl->Hp->Prop) (h:Hp):Prop:=
 ∃d,nX h l.base (l.len*size) d/\(l.len+n<=140737488355328/\(l.len+n)*bytes<=140737488355328)/\
  hH new=true/\(l.len+n<=l.cap->(∀a,l.base=some a->pS h (a.add (l.len*size)) (n*size))/\K ⟨l.base,l.len+n,l.cap⟩ (fI h l.base (l.len*size) new))/\
  (l.cap<l.len+n->∀c b,l.len+n<=c->h b=none->
   K ⟨some ⟨b,0,none⟩,l.len+n,c⟩ (h.set b (.cells (d++new++fk zero (c-(l.len+n))).toArray u (0,0))))
theorem jG.u {size bytes:Nat} {zero:List Value} {l:Sl} {n:Nat} {new:List Value} {K:Sl->Hp->Prop} {h:Hp} (u:Nat) (a:jG size bytes zero l n new K h):xP u size bytes zero l n new K h:=by obtain ⟨g,a1,a2,a3,a4,a5⟩:=a;exact ⟨g,a1,a2,a3,a4,λd c b e f=>a5 d c b u e f⟩
def Ro (u:Nat) (l:Sl) (s:ByteArray) (K:Sl->Hp->Prop) (h:Hp):Prop:=
 xP u 1 1 [.int .u8 0] l s.size (pI s) K h
def fD (size:Nat) (d x:Sl) (K:Int->Hp->Prop) (h:Hp):Prop:=
 ∃new,nX h x.base (min x.len d.len*size) new/\hH new=true/\(∀a,d.base=some a->pS h a (min x.len d.len*size))/\K (min x.len d.len:Nat) (fI h d.base 0 new)
def dA (bytes:Nat) (zero:List Value) (len cap:Int) (K:Sl->Hp->Prop) (h:Hp):Prop:=
 (0<=len/\len<=cap/\cap<=281474976710656/\cap.toNat*bytes<=281474976710656)/\
  ∀b t,h b=none->K ⟨some ⟨b,0,none⟩,len.toNat,cap.toNat⟩ (h.set b (.cells (fk zero cap.toNat).toArray t (0,0)))
def KC (s:ByteArray) (K:Sl->Hp->Prop) (h:Hp):Prop:=
 ∀c b t,s.size<=c->h b=none->
  K ⟨some ⟨b,0,none⟩,s.size,c⟩ (h.set b (.cells (pI s++fk [.int .u8 0] (c-s.size)).toArray t (c,c+1)))
def zb (a:Option Addr) (K:Unit->Hp->Prop) (h:Hp):Prop:=
 ∃b off c t,a=some ⟨b,off,none⟩/\h b=some (.cells c t (0,0))/\K () (h.set b (.cells c t (c.size,c.size+1)))
def ER (K:Option Nat->Hp->Prop) (h:Hp):Prop:=∀b,h b=none->K (some b) (h.set b (.map #[] 0))
def FQ (h:Hp) (m:Option Nat) (a:List MapEntry):Prop:=
 (m=none/\a=[])\/∃r ck,m=some r/\h r=some (.map a.toArray ck)
def xE (b:TypeDesc) (zero:Value) (m:Option Nat) (k:Value) (h:Hp) (v:Value) (ok:Bool):Prop:=
 ∃a,FQ h m a/\((Instr.findNow b k a 0=some none/\v=zero/\ok=false)\/∃i,Instr.findNow b k a 0=some (some (i,v))/\ok=true)
def kR (c:Option Bool) (a:TypeDesc) (sh:Shape) (zero:Value) (m:Option Nat) (k:Value) (h:Hp) (K:sh.T->Bool->Prop):Prop:=
 ∃x ok,kg c (xE a zero m k h (sh.enc x) ok)/\K x ok
def uh (b:TypeDesc) (m:Option Nat) (k v:Value) (K:Hp->Prop) (h:Hp):Prop:=
 ∃r a ck,m=some r/\h r=some (.map a ck)/\
  ((Instr.findNow b k a.toList 0=some none/\K (h.set r (.map (a.push {key:=k,val:=v,born:=ck}) (ck+1))))\/
   ∃i u,Instr.findNow b k a.toList 0=some (some (i,u))/\K (h.set r (.map (a.modify i λe=>{e with key:=k,val:=v}) ck)))
def vO (b:TypeDesc) (m:Option Nat) (k:Value) (K:Hp->Prop) (h:Hp):Prop:=
 (m=none/\K h)\/∃r a ck,m=some r/\h r=some (.map a ck)/\
  ((Instr.findNow b k a.toList 0=some none/\K (h.set r (.map a ck)))\/
   ∃i u,Instr.findNow b k a.toList 0=some (some (i,u))/\K (h.set r (.map (a.eraseIdxIfInBounds i) ck)))
def qP :TypeDesc->Bool
 | .int _ | .string | .bool=>true
 | _=>false
def du (op:BinOp) (k:IntKind) (x y:Int):Int:=
 match op with
 | .and=>k.wrap ((BitVec.ofInt k.bits x&&&BitVec.ofInt k.bits y).toNat)
 | .or=>k.wrap ((BitVec.ofInt k.bits x ||| BitVec.ofInt k.bits y).toNat)
 | .xor=>k.wrap ((BitVec.ofInt k.bits x^^^BitVec.ofInt k.bits y).toNat)
 | _=>k.wrap ((BitVec.ofInt k.bits x&&& ~~~ BitVec.ofInt k.bits y).toNat)
def ni (k:IntKind) (x y:Int):Int:=k.wrap (x*2^(min y.toNat k.bits))
def gF (k:IntKind) (x y:Int):Int:=x.fdiv (2^(min y.toNat k.bits))
def sat (base:Option Addr) (size:Nat) (i:Int):Addr:=(base.getD ⟨0,0,none⟩).add (i.toNat*size)
def bJ (base:Option Addr) (len:Nat) (i:Int):Prop:=base≠none/\0<=i/\i<(len:Int)
def aW (base:Option Addr) (size l m:Nat):Option Addr:=if m=l then base else base.map (·.add (l*size))
def Gj (c:Option Bool) (op:BinOp) (k:IntKind) (x y:Int) (K:LV->Prop):Prop:=
 match op with
 | .add=>K (.v (.int k (k.wrap (x+y))))
 | .sub=>K (.v (.int k (k.wrap (x-y))))
 | .mul=>K (.v (.int k (k.wrap (x*y))))
 | .quo=>kg c (y≠0)/\K (.v (.int k (k.wrap (x.tdiv y))))
 | .rem=>kg c (y≠0)/\K (.v (.int k (x.tmod y)))
 | .and=>K (.v (.int k (du .and k x y)))
 | .or=>K (.v (.int k (du .or k x y)))
 | .xor=>K (.v (.int k (du .xor k x y)))
 | .andNot=>K (.v (.int k (du .andNot k x y)))
 | .eql=>K (.v (.bool (x==y)))
 | .neq=>K (.v (.bool (x !=y)))
 | .lss=>K (.v (.bool (decide (x<y))))
 | .leq=>K (.v (.bool (decide (x<=y))))
 | .gtr=>K (.v (.bool (decide (x>y))))
 | .geq=>K (.v (.bool (decide (x>=y))))
 | _=>False
def mj (c:Option Bool) (P:Program) (tb:Tb) (t:Nat) (s:Sem Value) (h:Hp) (K:LV->Prop):Prop:=
 match tb.ty t with
 | some e=>iC c P s e.sh h (λx=>K (.v (e.sh.enc x)))
 | none=>False
def cX (op:BinOp) (t:Nat) (x y:Operand) (a b:Value):Sem Value:=do eqGuard op t x y a b;binOp op t a b
def rB :Operand->Bool
 | .const (.pointer none) | .const (.slice none _ _) | .const (.map none) | .const .nilFunc | .const .nilIface=>true
 | _=>false
def xb (op:BinOp) (b:Bool) (K:LV->Prop):Prop:=
 match op with
 | .eql=>K (.v (.bool b))
 | .neq=>K (.v (.bool (!b)))
 | _=>False
def Lw :Value->Bool
 | .nilIface=>true
 | _=>false
def Ce :Operand->Bool
 | .const .nilIface=>true
 | _=>false
def uU (tb:Tb) (t:Nat):Bool:=match tb.ty t with
 | some e=>match e.aN with
  | .interface _=>true
  | _=>false
 | none=>false
def oJ :Value->Bool
 | .nilIface=>true
 | .iface _ _=>true
 | _=>false
def sj (c:Option Bool) (P:Program) (tb:Tb) (op:BinOp) (t:Nat) (x y:Operand) (d:Nat) (a b:Value) (h:Hp) (K:LV->Prop):Prop:=
 match a,b with
 | .int k m,.int f n=>
  match op with
  | .shl=>kg c (0<=n)/\K (.v (.int k (ni k m n)))
  | .shr=>kg c (0<=n)/\K (.v (.int k (gF k m n)))
  | op=>cond (Gk k f) (Gj c op k m n K) False
 | .bool m,.bool n=>match tb.ty t with
  | some e=>match e.aN,op with
   | .bool,.eql=>K (.v (.bool (m==n)))
   | .bool,.neq=>K (.v (.bool (!(m==n))))
   | _,_=>False
  | none=>False
 | .string m,.string n=>match op with
  | .eql=>K (.v (.bool (m.toList==n.toList)))
  | .neq=>K (.v (.bool (!(m.toList==n.toList))))
  | .add=>kg c (m.size+n.size<=9223372036854775807)/\K (.v (.string (m++n)))
  | _=>mj c P tb d (cX op t x y (.string m) (.string n)) h K
 | .pointer p,.pointer q=>cond (rB y) (match tb.ty t with
  | some e=>match e.aN with
   | .pointer _=>xb op p.isNone K
   | _=>False
  | none=>False) (mj c P tb d (cX op t x y (.pointer p) (.pointer q)) h K)
 | a,b=>mj c P tb d (cX op t x y a b) h K
def uG (c:Option Bool) (P:Program) (tb:Tb) (op:BinOp) (t:Nat) (x y:Operand) (d:Nat) (a b:Value) (h:Hp) (K:LV->Prop):Prop:=
 cond (Ce y) (cond (uU tb t) (kg c (oJ a=true)/\xb op (Lw a) K) (sj c P tb op t x y d a b h K)) (sj c P tb op t x y d a b h K)
def Mp (l:Option LV) (K:LV->Prop):Prop:=match l with
 | some l=>K l
 | none=>False
def gU (l:Option LV) (K:Value->Prop):Prop:=match l with
 | some (.v x)=>K x
 | _=>False
def dN (s:St) (ch:aS):List Operand->Option (List Value)
 | []=>some []
 | x::l=>match ev s ch x,dN s ch l with
  | some (.v v),some r=>some (v::r)
  | _,_=>none
def mW (l:Option (List Value)) (K:List Value->Prop):Prop:=match l with
 | some l=>K l
 | none=>False
def yF (tb:Tb) (t i:Nat) (K:Nat->Nat->Prop):Prop:=
 match tb.ty t with
 | some e=>match e.aN with
  | .struct a=>match nth a.toList i with
   | some f=>match tb.ty f.type with
    | some g=>match g.size with
     | 0=>False
     | n+1=>K f.offset (n+1)
    | none=>False
   | none=>False
  | _=>False
 | none=>False
def fY (tb:Tb) (t:Nat):Option Ty:=
 match tb.ty t with
 | some e=>match e.aN with
  | .slice u=>tb.ty u
  | _=>none
 | none=>none
def Ds (tb:Tb) (t:Nat):Nat:=
 match tb.ty t with
 | some e=>match e.aN with
  | .slice u=>u
  | _=>0
 | none=>0
def kV (tb:Tb) (t:Nat):Option (Nat×Ty):=
 match tb.ty t with
 | some e=>match e.aN with
  | .array n u=>match tb.ty u with
   | some g=>some (n,g)
   | none=>none
  | _=>none
 | none=>none
def iv (tb:Tb) (t:Nat) (a:List Value) (off:Nat) (K:LV->Prop):Prop:=
 match tb.ty t with
 | some e=>cond (nB e.aN) (cond (Nat.ble (off+e.size) a.length) (K (.v (.agg (oV (ou a off) e.size).toArray))) False)
  (match nth a off with
   | some v=>K (.v v)
   | none=>False)
 | none=>False
def DR :Operand->Bool
 | .const _=>true
 | _=>false
def oX (tb:Tb):List Field->Bool
 | []=>true
 | f::r=>match tb.ty f.type with
  | some _=>oX tb r
  | none=>false
def pZ (tb:Tb) (b:List Field) (a:List Value):List (Nat×Value)->Option (List Value)
 | []=>some a
 | (i,v)::r=>match nth b i with
  | some f=>match tb.ty f.type with
   | some e=>cond (Nat.beq (bg v).length e.size) (cond (Nat.ble (f.offset+e.size) a.length) (pZ tb b (j7 a f.offset (bg v)) r) none) none
   | none=>none
  | none=>none
def mO (size:Nat) (a:List Value):List (Nat×Value)->Option (List Value)
 | []=>some a
 | (i,v)::r=>cond (Nat.beq (bg v).length size) (cond (Nat.ble (i*size+size) a.length) (mO size (j7 a (i*size) (bg v)) r) none) none
def lh (s:St) (ch:aS):List (Nat×Operand)->Option (List (Nat×Value))
 | []=>some []
 | (i,x)::l=>match ev s ch x,lh s ch l with
  | some (.v v),some r=>some ((i,v)::r)
  | _,_=>none
def j9 {a:Type _} (l:List a):Nat->List a
 | 0=> []
 | n+1=>l++j9 l n
def GB (c:Option Bool) (a:Bool) (len cap:Nat) (d b e:Option Int) (K:Nat->Nat->Nat->Prop):Prop:=
 match d,b,e with
 | none,none,none=>K 0 len cap
 | some l,none,none=>kg c (0<=l/\l<=(len:Int))/\K l.toNat len cap
 | none,some x,none=>kg c (0<=x/\x<=(cap:Int))/\K 0 x.toNat cap
 | some l,some x,none=>kg c (0<=l/\l<=x/\x<=(cap:Int))/\K l.toNat x.toNat cap
 | none,some x,some m=>kg c (0<=x/\x<=m/\m<=(cap:Int))/\K 0 x.toNat m.toNat
 | some l,some x,some m=>kg c (0<=l/\l<=x/\x<=m/\m<=(cap:Int))/\K l.toNat x.toNat m.toNat
 | _,none,some _=>a= !a
def nO (s:St) (ch:aS):Option Operand->Option (Option Int)
 | none=>some none
 | some x=>match ev s ch x with
  | some (.v (.int _ n))=>some (some n)
  | _=>none
def Dt (c:Option Bool) (tb:Tb) (t:Nat) (x:Value) (f d g:Option Int) (K:LV->Prop):Prop:=
 match x with
 | .slice base len cap=>match fY tb t with
  | some e=>GB c true len cap f d g λl n m=>aJ (⟨aW base e.size l m,n-l,m-l⟩:Sl) λy=>K (.v (.slice y.base y.len y.cap))
  | none=>False
 | .pointer (some a)=>match kV tb t with
  | some (n,e)=>GB c false n n f d g λl x m=>aJ (⟨aW (some a) e.size l m,x-l,m-l⟩:Sl) λy=>K (.v (.slice y.base y.len y.cap))
  | none=>False
 | .string b=>match tb.ty t,g with
  | some e,none=>match e.aN with
   | .string=>GB c false b.size b.size f d none λl n _=>K (.v (.string (b.extract l n)))
   | _=>False
  | _,_=>False
 | _=>False
def Gm (c:Option Bool) (P:Program) (tb:Tb) (ty a:Nat) (x:Value) (h:Hp) (K:LV->Prop):Prop:=
 match tb.ty ty with
 | some e=>match e.aN,x with
  | .string,.string b=>K (.v (.int .i64 (b.size:Int)))
  | .slice _,.slice _ n _=>K (.v (.int .i64 (n:Int)))
  | .array n _,_=>K (.v (.int .i64 (n:Int)))
  | _,_=>mj c P tb a (Builtin.len_ #[ty] a #[x]) h K
 | none=>False
def ri (lt:Int->Int->Int) (k:IntKind) (x:Int):List Value->Option Value
 | []=>some (.int k x)
 | .int _ y::r=>ri lt k (lt x y) r
 | _=>none
def im (x y:Int):Int:=if y<x then y else x
def oK (x y:Int):Int:=if y>x then y else x
def NW (op:UnOp) (x:Value) (K:LV->Prop):Prop:=
 match op,x with
 | .not,.bool b=>K (.v (.bool !b))
 | .neg,.int k n=>K (.v (.int k (k.wrap (0-n))))
 | .neg,.float k b=>K (.v (.float k (Op.negFloat k b)))
 | .xor,.int k n=>K (.v (.int k (du .xor k (if k.signed then -1 else k.max) n)))
 | _,_=>False
def xF (s:St) (ch:aS) (t:Nat) (w:Bool) (x:Operand):Option LV:=
 match x with
 | .tmp u=>match s.f u with
  | some (l,c)=>cond (mq c ((t,w)::ch)) (some l) none
  | none=>none
 | .const v=>some (.v v)
 | _=>none
def u5 (s:St) (ch:aS) (x a b:Operand) (K:LV->Prop):Prop:=
 match x with
 | .tmp t=>match s.f t with
  | some (.v (.bool p),c)=>cond (mq c ch)
   (match a,b with
    | .tmp _,.const (.bool false)=>gU (xF s ch t true a) λv=>match v with
     | .bool q=>aJ (p&&q) λy=>K (.v (.bool y))
     | _=>False
    | .const (.bool true),.tmp _=>gU (xF s ch t false b) λv=>match v with
     | .bool q=>aJ (p || q) λy=>K (.v (.bool y))
     | _=>False
    | .const (.bool true),.const (.bool false)=>K (.v (.bool p))
    | .const (.bool x),.const (.bool y)=>K (.v (.bool (cond p x y)))
    | _,_=>False) False
  | _=>False
 | _=>False
def NJ (c:Option Bool) (P:Program) (tb:Tb) (b:Builtin) (f:List Value) (d:List TypeId) (a:Nat) (h:Hp) (K:LV->Prop):Prop:=
 match b,f,d with
 | .len,[x],[ty]=>Gm c P tb ty a x h K
 | .cap,[.slice _ _ c],[ty]=>match tb.ty ty with
  | some e=>match e.aN with
   | .slice _=>K (.v (.int .i64 (c:Int)))
   | _=>False
  | none=>False
 | .min,.int k x::r,_=>match ri im k x r with
  | some v=>K (.v v)
  | none=>False
 | .max,.int k x::r,_=>match ri oK k x r with
  | some v=>K (.v v)
  | none=>False
 | _,_,_=>False
def Gp (n:Int):Nat:=match n with
 | .ofNat m=>m
 | .negSucc _=>0
def Bx (c:Option Bool) (tb:Tb) (t:Nat) (cs:List Value) (n:Int) (K:LV->Prop):Prop:=
 match kV tb t with
 | some (len,e)=>cond (nB e.aN) False (kg c (0<=n/\n<(len:Int))/\∃x,kg c (cs[n.toNat*e.size]? =some (e.sh.enc x))/\K (.v (e.sh.enc x)))
 | none=>False
def vk (P:Program) (tb:Tb) (o:Oper) (ch:aS) (s:St) (h:Hp) (K:LV->Prop):Prop:=
 match o.op with
 | .move x=>Mp (ev s ch x) K
 | .assign x=>Mp (ev s ch x) K
 | .pick x a b=>u5 s ch x a b K
 | .extract x i=>gU (ev s ch x) λv=>match v with
  | .tuple z=>match nth z.toList i with
   | some y=>K (.v y)
   | none=>False
  | _=>False
 | .binOp op t x y _=>gU (ev s ch x) λa=>gU (ev s ch y) λb=>uG (ee s ch) P tb op t x y o.type a b h K
 | .unOp op _ x=>gU (ev s ch x) λa=>NW op a K
 | .nilCheck x=>match ev s ch x with
  | some (.v (.pointer p))=>ai (ee s ch) p λa=>K (.v (.pointer (some a)))
  | some (.box k off)=>K (.box k off)
  | some (.dz k off)=>K (.dz k off)
  | _=>False
 | .load t x=>match ev s ch x with
  | some (.v (.pointer (some a)))=>match tb.ty t with
   | some e=>aP (ee s ch) e.sh h a λx=>K (.v (e.sh.enc x))
   | none=>False
  | some (.box k off)=>match s.m k with
   | some c=>iv tb t c off K
   | none=>False
  | some (.dz k off)=>match s.m k,tb.ty t with
   | some c,some e=>cond (nB e.aN) False (∃x,kg (ee s ch) (c[off]? =some (e.sh.enc x))/\K (.v (e.sh.enc x)))
   | _,_=>False
  | _=>False
 | .fieldAddr t x i=>yF tb t i λoff _=>match ev s ch x with
  | some (.v (.pointer (some a)))=>K (.v (.pointer (some (a.add off))))
  | some (.box k o)=>K (.box k (o+off))
  | some (.dz k o)=>K (.dz k (o+off))
  | _=>False
 | .field t x i=>match tb.ty t with
  | some e=>match e.aN with
   | .struct j=>match nth j.toList i with
    | some f=>gU (ev s ch x) λv=>match v with
     | .agg c=>iv tb f.type c.toList f.offset K
     | _=>False
    | none=>False
   | _=>False
  | none=>False
 | .indexAddr t x i=>match ev s ch x,ev s ch i with
  | some (.v (.slice base len _)),some (.v (.int _ n))=>match fY tb t with
   | some e=>kg (ee s ch) (bJ base len n)/\K (.v (.pointer (some (sat base e.size n))))
   | none=>False
  | some (.v (.pointer (some a))),some (.v (.int _ n))=>match kV tb t with
   | some (len,e)=>kg (ee s ch) (0<=n/\n<(len:Int))/\K (.v (.pointer (some (a.add (n.toNat*e.size)))))
   | none=>False
  | some (.box k off),some (.v (.int _ n))=>match kV tb t with
   | some (len,e)=>kg (ee s ch) (0<=n/\n<(len:Int))/\cond (DR i) (K (.box k (off+Gp n*e.size))) (K (.dz k (off+n.toNat*e.size)))
   | none=>False
  | _,_=>False
 | .index t x i=>match ev s ch x,ev s ch i with
  | some (.v (.string b)),some (.v (.int _ n))=>match tb.ty t with
   | some y=>match y.aN with
    | .string=>kg (ee s ch) (0<=n/\n<(b.size:Int))/\K (.v (.int .u8 ((b.data.toList.getD n.toNat 0).toNat:Int)))
    | _=>False
   | none=>False
  | some (.v (.agg c)),some (.v (.int _ n))=>Bx (ee s ch) tb t c.toList n K
  | _,_=>False
 | .slice t x r q w=>gU (ev s ch x) λv=>match nO s ch r,nO s ch q,nO s ch w with
  | some r,some q,some w=>Dt (ee s ch) tb t v r q w K
  | _,_,_=>False
 | .makeInterface t x=>gU (ev s ch x) λv=>match tb.ty t with
  | some e=>match e.aN with
   | .interface _=>False
   | _=>K (.v (.iface t v))
  | none=>False
 | .makeFunc fn first captured=>mW (dN s ch first.toList) λa=>mW (dN s ch captured.toList) λb=>K (.v (.func fn a.toArray b.toArray))
 | .convert src d x=>gU (ev s ch x) λv=>match tb.ty src,tb.ty d,v with
  | some _,some e,.int _ n=>match e.aN with
   | .int k=>K (.v (.int k (k.wrap n)))
   | _=>mj (ee s ch) P tb d (convert src d v) h K
  | some _,some _,v=>mj (ee s ch) P tb d (convert src d v) h K
  | _,_,_=>False
 | .build t parts=>mW ((lh s ch parts.toList).map λ_=> []) λ_=>match lh s ch parts.toList,tb.ty t with
  | some B,some e=>match e.aN with
   | .struct j=>cond (oX tb j.toList) (match pZ tb j.toList (bg e.zero) B with
    | some c=>K (.v (.agg c.toArray))
    | none=>False) False
   | .array _ u=>match tb.ty u with
    | some g=>match mO g.size (bg e.zero) B with
     | some c=>K (.v (.agg c.toArray))
     | none=>False
    | none=>False
   | _=>False
  | _,_=>False
 | .lookup t x i ok=>gU (ev s ch x) λa=>gU (ev s ch i) λb=>match a,tb.ty t with
  | .map m,some e=>match e.aN with
   | .map k u=>match tb.ty k,tb.ty u with
    | some A,some l=>cond (qP A.aN) (kR (ee s ch) A.aN l.sh l.zero m b h λx y=>cond ok (K (.v (.tuple #[l.sh.enc x,.bool y]))) (K (.v (l.sh.enc x))))
      (mj (ee s ch) P tb o.type (Instr.lookup t a b ok) h K)
    | _,_=>False
   | _=>False
  | _,_=>False
 | .call {callee:=.builtin b,args:=D,argTypes:=C}=>mW (dN s ch D.toList) λz=>NJ (ee s ch) P tb b z C.toList o.type h K
 | _=>False
inductive Kd where
 | pure
 | box
 | mem
def bZ (tb:Tb) (o:Oper) (ch:aS) (s:St):Kd:=
 match o.op with
 | .load _ x=>match ev s ch x with
  | some (.box _ _)=>.box
  | some (.dz _ _)=>.box
  | _=>.mem
 | .lookup .. =>.mem
 | .binOp op _ x y _=>match ev s ch x,ev s ch y with
  | some (.v (.int _ _)),some (.v (.int _ _))=>.pure
  | some (.v (.bool _)),some (.v (.bool _))=>.pure
  | some (.v (.string _)),some (.v (.string _))=>match op with
   | .eql=>.pure
   | .neq=>.pure
   | .add=>.pure
   | _=>.mem
  | some (.v (.pointer _)),some (.v (.pointer _))=>cond (rB y) .pure .mem
  | _,_=>.mem
 | .convert _ d x=>match ev s ch x,tb.ty d with
  | some (.v (.int _ _)),some e=>match e.aN with
   | .int _=>.pure
   | _=>.mem
  | _,_=>.mem
 | .call {callee:=.builtin .len,args:=b,argTypes:=a}=>match dN s ch b.toList,a.toList with
  | some [x],[t]=>match tb.ty t with
   | some e=>match e.aN,x with
    | .string,.string _=>.pure
    | .slice _,.slice _ _ _=>.pure
    | .array _ _,_=>.pure
    | _,_=>.mem
   | none=>.mem
  | _,_=>.mem
 | _=>.pure
def q9 (c:Option Bool) (P:Program) (tb:Tb) (t:Nat) (s:Sem Value) (K:LV->Hp->Prop) (h:Hp):Prop:=
 match tb.ty t with
 | some e=>dy c (λ(K:e.sh.T->Hp->Prop) h=>jy P s e.sh K h) (λx a=>K (.v (e.sh.enc x)) a) h
 | none=>False
def Mt (c:Option Bool) (P:Program) (sh:Shape) (s:Sem Value) (K:LV->Hp->Prop) (h:Hp):Prop:=
 dy c (λ(K:sh.T->Hp->Prop) h=>jy P s sh K h) (λx a=>K (.v (sh.enc x)) a) h
def Cg (P:Program) (tb:Tb) (c:Option Bool) (t:Nat) (x y z:Option LV) (K:LV->Hp->Prop) (h:Hp):Prop:=
 gU x λa=>gU y λb=>gU z λv=>match a,tb.ty t with
  | .map m,some e=>match e.aN with
   | .map k _=>match tb.ty k with
    | some d=>dy c (λ(K:Unit->Hp->Prop) h=>cond (qP d.aN) (uh d.aN m b v (K ()) h) (FZ P (Instr.mapUpdate t a b v) (K ()) h)) (λ_ f=>K (.v (.tuple #[])) f) h
    | none=>False
   | _=>False
  | _,_=>False
def Bq (tb:Tb) (c:Option Bool) (k:List TypeId) (o:List Value) (h:Hp) (K:LV->Hp->Prop):Prop:=
 match o,k with
 | [.slice p n a,.slice j i g],[t,d]=>match fY tb t,fY tb d with
  | some e,some _=>dy c (eS e.size e.bytes (bg e.zero) ⟨p,n,a⟩ ⟨j,i,g⟩) (λl b=>K (.v (.slice l.base l.len l.cap)) b) h
  | _,_=>False
 | [.slice p n a,.string x],[t,d]=>match fY tb t,tb.ty d with
  | some e,some f=>match e.aN,f.aN with
   | .int .u8,.string=>cond (Nat.beq e.bytes 1) (dy c (Ro (Ds tb t) ⟨p,n,a⟩ x) (λl b=>K (.v (.slice l.base l.len l.cap)) b) h) False
   | _,_=>False
  | _,_=>False
 | [.slice p n a,.int .i64 m],[t,d]=>match fY tb t,tb.ty d with
  | some e,some f=>match f.aN with
   | .int .i64=>dy c (yq e.size e.bytes (bg e.zero) ⟨p,n,a⟩ m) (λl b=>K (.v (.slice l.base l.len l.cap)) b) h
   | _=>False
  | _,_=>False
 | _,_=>False
def uJ (P:Program) (tb:Tb) (ty:Nat) (c:Option Bool) (a:Array TypeId) (b:List Value) (h:Hp) (K:LV->Hp->Prop):Prop:=
 match b,a.toList with
 | [.slice p n f,.slice j i d],[t,_]=>match fY tb t with
  | some e=>dy c (fD e.size ⟨p,n,f⟩ ⟨j,i,d⟩) (λk g=>K (.v (.int .i64 k)) g) h
  | none=>False
 | _,_=>q9 c P tb ty (Builtin.copy_ a ty b.toArray) K h
def Bu (P:Program) (tb:Tb) (ty:Nat) (c:Option Bool) (b:Array TypeId) (d:List Value) (h:Hp) (K:LV->Hp->Prop):Prop:=
 match d,b.toList with
 | [.map m,k],[t,_]=>match tb.ty t with
  | some e=>match e.aN with
   | .map g _=>match tb.ty g with
    | some a=>cond (qP a.aN) (dy c (λ(K:Unit->Hp->Prop) h=>vO a.aN m k (K ()) h) (λ_ f=>K (.v (.tuple #[])) f) h)
      (q9 c P tb ty (Builtin.delete_ b ty d.toArray) K h)
    | none=>False
   | _=>False
  | none=>False
 | _,_=>False
def Du (P:Program) (tb:Tb) (ty:Nat) (c:Option Bool) (g:FuncId) (b:List Value) (h:Hp) (K:LV->Hp->Prop):Prop:=
 match tb.ty ty with
 | some e=>cond (tb.call g) (dy c (ae P g b e.sh) (λx a=>K (.v (e.sh.enc x)) a) h) (match tb.ext g with
  | some f=>dy c (λ(K:e.sh.T->Hp->Prop) h=>jy P (f b.toArray) e.sh K h) (λx a=>K (.v (e.sh.enc x)) a) h
  | none=>False)
 | none=>False
def Dv (P:Program) (tb:Tb) (ty:Nat) (c:Option Bool) (a:Option LV) (d:List Value) (h:Hp) (K:LV->Hp->Prop):Prop:=
 match tb.ty ty with
 | some e=>gU a λa=>dy c (fX P tb a d e.sh) (λx b=>K (.v (e.sh.enc x)) b) h
 | none=>False
def wU (P:Program) (tb:Tb) (o:Oper) (ch:aS) (s:St) (h:Hp) (K:LV->Hp->Prop):Prop:=
 match o.op with
 | .store t x y=>match ev s ch x,ev s ch y with
  | some (.v (.pointer (some a))),some (.v v)=>match ch,tb.ty t with
   | [],some e=>cond (Nat.beq (bg v).length e.size) (cond (hH (bg v)) (bW h a (bg v) λd=>K (.v (.tuple #[])) d) False) False
   | _,_=>False
  | _,_=>False
 | .alloc t=>match tb.ty t with
  | some e=>dy (ee s ch) (xD t (bg e.zero)) (λa d=>K (.v (.pointer (some a))) d) h
  | none=>False
 | .box _ x=>gU (ev s ch x) λv=>dy (ee s ch) (bc (bg v)) (λa d=>K (.v (.pointer (some a))) d) h
 | .buildSlice t len parts=>match lh s ch parts.toList,fY tb t with
  | some u,some e=>cond (Nat.ble (len*e.size) 16777216) (match mO e.size (j9 (bg e.zero) len) u with
   | some r=>dy (ee s ch) (bc r) (λa d=>K (.v (.slice (some a) len len)) d) h
   | none=>False) False
  | _,_=>False
 | .makeMap _ none=>dy (ee s ch) ER (λm d=>K (.v (.map m)) d) h
 | .makeSlice t x y=>gU (ev s ch x) λa=>gU (ev s ch y) λb=>match a,b,fY tb t with
  | .int .i64 m,.int .i64 n,some e=>dy (ee s ch) (dA e.bytes (bg e.zero) m n) (λl d=>K (.v (.slice l.base l.len l.cap)) d) h
  | _,_,_=>False
 | .mapUpdate t x y z=>Cg P tb (ee s ch) t (ev s ch x) (ev s ch y) (ev s ch z) K h
 | .insert t x y z=>Cg P tb (ee s ch) t (ev s ch x) (ev s ch y) (ev s ch z) K h
 | .mapEntry t x y=>gU (ev s ch x) λa=>gU (ev s ch y) λb=>q9 (ee s ch) P tb o.type (Instr.mapEntry t a b) K h
 | .binOp op t x y _=>gU (ev s ch x) λa=>gU (ev s ch y) λb=>q9 (ee s ch) P tb o.type (cX op t x y a b) K h
 | .entryStore t x y z=>gU (ev s ch x) λa=>gU (ev s ch y) λb=>gU (ev s ch z) λc=>
  dy (ee s ch) (λ(K:Unit->Hp->Prop) h=>FZ P (Instr.entryStore t a b c) (K ()) h) (λ_ d=>K (.v (.tuple #[])) d) h
 | .range t x=>gU (ev s ch x) λa=>Mt (ee s ch) P ah (Instr.range t a) K h
 | .next x b=>gU (ev s ch x) λa=>Mt (ee s ch) P aaJ (Instr.next a b o.type) K h
 | .convert src q x=>gU (ev s ch x) λv=>match v,tb.ty src,fY tb q with
  | .string b,some e,some g=>match e.aN,g.aN with
   | .string,.int .u8=>dy (ee s ch) (KC b) (λl d=>K (.v (.slice l.base l.len l.cap)) d) h
   | _,_=>False
  | .slice p n c,some e,some g=>match e.aN,g.aN with
   | .slice _,.int .u8=>cond (Nat.beq src q) (dy (ee s ch) (zb p) (λ_ d=>K (.v (.slice p n c)) d) h) False
   | _,_=>False
  | _,_,_=>False
 | .call {callee:=.builtin b,args:=k,argTypes:=j}=>mW (dN s ch k.toList) λi=>match b with
  | .append=>Bq tb (ee s ch) j.toList i h K
  | .copy=>uJ P tb o.type (ee s ch) j i h K
  | .delete=>Bu P tb o.type (ee s ch) j i h K
  | .clear=>q9 (ee s ch) P tb o.type (Builtin.clear_ j o.type i.toArray) K h
  | _=>False
 | .call {callee:=.value f,args:=k,argTypes:=_}=>mW (dN s ch k.toList) λi=>match f with
  | .func g=>Du P tb o.type (ee s ch) g i h K
  | .tmp t=>Dv P tb o.type (ee s ch) (ev s ch (.tmp t)) i h K
  | _=>False
 | _=>False
def Zs (tb:Tb) (o:Oper):Bool:=
 match o.op with
 | .convert s d _=>match tb.ty s,tb.ty d with
  | some a,some b=>match a.aN,b.aN with
   | .int _,.int _ | .int _,.float _ | .float _,.int _ | .float _,.float _ | .int _,.string | .slice _,.string | .string,.string=>true
   | _,_=>false
  | _,_=>false
 | _=>false
def NP (tb:Tb) (op:BinOp) (t:Nat):Bool:=
 match op with
 | .add | .sub | .mul | .quo=>match tb.ty t with
  | some e=>match e.aN with
   | .float _=>true
   | _=>false
  | none=>false
 | _=>false
def isVal (tb:Tb) (o:Oper):Bool:=
 match o.op with
 | .binOp op t _ _ _=>cond (NP tb op t) false true
 | .move _ | .assign _ | .pick .. | .extract .. | .unOp .. | .nilCheck _ | .load .. | .fieldAddr .. | .field .. | .indexAddr .. | .index ..
 | .slice .. | .makeInterface .. | .makeFunc .. | .build .. | .lookup .. =>true
 | .convert .. =>Zs tb o
 | .call {callee:=.builtin b,..}=>match b with
  | .len | .cap | .min | .max=>true
  | _=>false
 | _=>false
def has (l:List Nat) (i:Nat):Bool:=
 match l with
 | []=>false
 | a::r=>cond (Nat.beq i a) true (has r i)
def bO :List Oper->List Nat
 | []=> []
 | o::r=>match o.dst with
  | some d=>d::bO r
  | none=>bO r
def app {b:Type _}:List b->List b->List b
 | [],l=>l
 | a::r,l=>a::app r l
def jM :List Nat->List Nat->Bool
 | [],_=>true
 | a::r,l=>cond (has l a) (jM r l) false
structure Ctx where
 P:Program
 tb:Tb
 aK:List Nat
def pW (l:List Nat) (o:Oper):Option Nat:=
 match o.dst with
 | some d=>cond (has l d) (some d) none
 | none=>none
def pd (a:List Oper):Nat->Oper->Option aS
 | 0,_=>none
 | n+1,o=>match o.guard with
  | none=>some []
  | some (j,w)=>match nth a j with
   | some p=>match p.dst,pd a n p with
    | some d,some c=>some ((d,w)::c)
    | _,_=>none
   | none=>none
def LD (C:Ctx) (t:Nat) (a b:Value) (ok:Bool) (h:Hp) (v:Value):Prop:=
 match a,C.tb.ty t with
 | .map m,some e=>match e.aN with
  | .map k u=>match C.tb.ty k,C.tb.ty u with
   | some c,some d=>cond (qP c.aN) (cond ok (match v with
     | .tuple ⟨[x,.bool y]⟩=>xE c.aN d.zero m b h x y
     | _=>False) (∃y,xE c.aN d.zero m b h v y)) (jL C.P (Instr.lookup t a b ok) h v)
   | _,_=>False
  | _=>False
 | _,_=>False
def nY (C:Ctx) (c:Nat->Bool) (o:Oper) (ch:aS) (s:St) (h:Hp):Prop:=
 match o.op,o.dst with
 | .load _ x,some d=>match s.f d with
  | some (.v v,_)=>match ev s ch x with
   | some (.v (.pointer (some a)))=>kg (ee s ch) (aV h a (bg v))
   | some (.box b _)=>cond (c b) False True
   | some (.dz b _)=>cond (c b) False True
   | _=>False
  | _=>False
 | .lookup t x i ok,some d=>match s.f d with
  | some (.v v,_)=>gU (ev s ch x) λa=>gU (ev s ch i) λb=>kg (ee s ch) (LD C t a b ok h v)
  | _=>False
 | .call {callee:=.builtin .len,args:=g,argTypes:=e},some d=>match s.f d with
  | some (.v v,_)=>match dN s ch g.toList with
   | some [x]=>kg (ee s ch) (jL C.P (Builtin.len_ e o.type #[x]) h v)
   | _=>False
  | _=>False
 | _,_=>False
def ES (C:Ctx) (b:Nat->Bool) (a:List Oper) (s:St) (h:Hp):List Nat->Prop
 | []=>True
 | r::l=>(match nth a r with
   | some o=>match pd a a.length o with
    | some ch=>nY C b o ch s h
    | none=>False
   | none=>False)/\ES C b a s h l
def sO (s:St):aS->Bool
 | []=>true
 | (d,_)::c=>match s.f d with
  | some (.v (.bool _),a)=>cond (nJ a c) (sO s c) false
  | _=>false
def nodup :List Nat->Bool
 | []=>true
 | a::r=>cond (has r a) false (nodup r)
def rC :List Oper->Bool
 | []=>true
 | o::r=>match o.guard with
  | none=>rC r
  | some _=>false
def xG (d i:Nat):List Oper->Option Nat
 | []=>none
 | o::r=>match o.op with
  | .extract (.tmp t) j=>cond (Nat.beq t d) (cond (Nat.beq j i) (some o.type) (xG d i r)) (xG d i r)
  | _=>xG d i r
def KD (tb:Tb) (d i:Nat) (a:List Oper):Shape:=match xG d i a with
 | some t=>match tb.ty t with
  | some e=>e.sh
  | none=>zu
 | none=>zu
def Bv (C:Ctx) (b:List Oper) (o:Oper) (ch:aS) (s:St) (h:Hp) (K:LV->Hp->Prop):Prop:=
 match o.op,o.dst with
 | .entry x,some d=>gU (ev s ch x) λa=>Mt (ee s ch) C.P (mu (KD C.tb d 0 b) (KD C.tb d 1 b)) (Instr.entry a) K h
 | _,_=>False
def BM (C:Ctx) (b:List Oper) (f:List Nat) (o:Oper) (s:St) (h:Hp) (K:St->Hp->Prop):Prop:=
 match pd b b.length o with
 | none=>False
 | some ch=>cond (sO s ch)
  (cond (isVal C.tb o) (vk C.P C.tb o ch s h λl=>K (s.put o.dst l ch) h)
  (match pW C.aK o,ch with
   | some d,[]=>cond (has f d) (match o.op with
    | .alloc t=>match C.tb.ty t with
     | some e=>K ((s.put (some d) (.box d 0) []).fV d (bg e.zero)) h
     | none=>False
    | .box _ x=>gU (ev s ch x) λv=>K ((s.put (some d) (.box d 0) []).fV d (bg v)) h
    | _=>False) False
   | some _,_=>False
   | none,_=>match o.op with
    | .store t x y=>match ev s ch x,ev s ch y with
     | some (.box k off),some (.v v)=>match s.m k,C.tb.ty t,ch with
      | some c,some e,[]=>cond (has f k) (cond (Nat.beq (bg v).length e.size) (cond (Nat.ble (off+e.size) c.length) (cond (hH (bg v))
        (K ((s.put o.dst (.v (.tuple #[])) ch).fV k (j7 c off (bg v))) h) False) False) False) False
      | _,_,_=>False
     | _,_=>wU C.P C.tb o ch s h λl a=>K (s.put o.dst l ch) a
    | .entry _=>Bv C b o ch s h λl a=>K (s.put o.dst l ch) a
    | _=>wU C.P C.tb o ch s h λl a=>K (s.put o.dst l ch) a)) False
def uH (o:Oper) (s:St) (k:Nat):Bool:=match o.op with
 | .store _ x _=>(match ev s [] x with
  | some (.box b _)=>Nat.beq k b
  | some (.v _)=>false
  | _=>true)
 | _=>false
def qG (tb:Tb) (o:Oper):Bool:=match o.op with
 | .move _ | .assign _ | .pick .. | .extract .. | .unOp .. | .nilCheck _ | .fieldAddr .. | .field .. | .indexAddr .. | .index .. | .slice .. | .makeInterface .. | .makeFunc .. | .build .. =>false
 | .binOp _ t _ _ _=>match tb.ty t with
  | some e=>match e.aN with
   | .int _ | .bool | .string | .float _=>false
   | _=>true
  | none=>true
 | .call {callee:=.builtin b,argTypes:=a,..}=>match b with
  | .cap | .min | .max=>false
  | .len=>match a.toList with
   | [t]=>match tb.ty t with
    | some e=>match e.aN with
     | .slice _ | .string | .array _ _=>false
     | _=>true
    | none=>true
   | _=>true
  | _=>true
 | .convert s _ _=>match tb.ty s with
  | some e=>match e.aN with
   | .int _ | .float _ | .string=>false
   | _=>true
  | none=>true
 | _=>true
def Dw (C:Ctx) (a:List Oper) (o:Oper) (s:St):Bool:=
 cond (isVal C.tb o) (cond (qG C.tb o) true (match pd a a.length o with
  | some ch=>match bZ C.tb o ch s with
   | .pure=>true
   | _=>false
  | none=>false)) true
def nR (C:Ctx) (a:List Oper) (c:List Nat):List (Nat×List Nat)->St->Hp->(St->Hp->Prop)->Prop
 | [],s,h,K=>K s h
 | (i,ws)::r,s,h,K=>match nth a i with
  | some o=>cond (Dw C a o s) (BM C a c o s h λd b=>match ws with
   | []=>nR C a c r d b K
   | ws=>ES C (uH o s) a d b ws/\nR C a c r d b K) False
  | none=>False
def BQ (C:Ctx) (b:List Oper) (a:List Nat):List Oper->St->Hp->(St->Hp->Prop)->Prop
 | [],s,h,K=>K s h
 | o::r,s,h,K=>BM C b a o s h λd c=>BQ C b a r d c K
def tx (e:Edge):Bool:=match e.ground with
 | .textOnly _=>false
 | .gcOnly _=>false
 | _=>true
def waits (o:Oper):List Nat:=go o.after.toList
 where
 go:List Edge->List Nat
  | []=> []
  | e::r=>cond (tx e) (e.on::go r) (go r)
def uF (j:Nat) (l:List Nat):List Nat:=cond (has l j) l (j::l)
def BF :List Nat->List Nat->List Nat
 | [],b=>b
 | a::r,b=>BF r (uF a b)
def bw :List Oper->List (List Nat)->List (List Nat)
 | [],a=>a
 | o::r,a=>bw r (app a [union (waits o) a])
 where
 union:List Nat->List (List Nat)->List Nat
  | [],_=> []
  | j::l,a=>uF j (BF (match nth a j with
   | some x=>x
   | none=> []) (union l a))
def kN (rows:List (List Nat)) (i:Nat):List Nat:=match nth rows i with
 | some l=>l
 | none=> []
def ly (aK:List Nat) (o:Oper):Bool:=match o.op,o.dst with
 | .alloc _,some d=>has aK d
 | .box _ _,some d=>has aK d
 | _,_=>false
def xf :List (Nat×Operand)->List Operand
 | []=> []
 | (_,x)::r=>x::xf r
def u3 :Option Operand->List Operand
 | none=> []
 | some x=> [x]
def Dx :Op->Option (List Operand)
 | .alloc _=>some []
 | .move x | .assign x | .box _ x | .load _ x | .nilCheck x | .unOp _ _ x | .convert _ _ x | .fieldAddr _ x _ | .field _ x _ | .range _ x | .next x _ | .entry x | .extract x _ | .makeInterface _ x=>some [x]
 | .pick c a b=>some [c,a,b]
 | .build _ e | .buildSlice _ _ e=>some (xf e.toList)
 | .store _ a v | .binOp _ _ a v _ | .makeSlice _ a v | .indexAddr _ a v | .index _ a v | .lookup _ a v _ | .mapEntry _ a v=>some [a,v]
 | .makeFunc _ first captured=>some (app first.toList captured.toList)
 | .makeMap _ r=>some (u3 r)
 | .slice _ x l h m=>some (x::app (u3 l) (app (u3 h) (u3 m)))
 | .mapUpdate _ m k v | .entryStore _ m k v | .insert _ m k v=>some [m,k,v]
 | .call {callee:=.value f,args:=d,..}=>some (f::d.toList)
 | .call {callee:=.builtin _,args:=d,..}=>some d.toList
 | _=>none
def sm (o:Oper) (t:Nat):Bool:=match o.dst with
 | some d=>Nat.beq d t
 | none=>false
def looksAt (o:Oper) (t:Nat):Bool:=match Dx o.op with
 | some l=>go l
 | none=>true
 where
 go:List Operand->Bool
  | []=>false
  | .tmp u::r=>cond (Nat.beq u t) true (go r)
  | _::r=>go r
def tQ (rows:List (List Nat)) (i t:Nat):List Oper->Nat->Bool
 | [],_=>true
 | p::r,j=>cond (cond (sm p t) (cond (has (kN rows i) j) true (cond (Nat.beq i j) true (has (kN rows j) i))) true) (tQ rows i t r (j+1)) false
def de (a:List Oper) (rows:List (List Nat)) (i:Nat) (o:Oper):Bool:=
 match Dx o.op with
 | some l=>cond (go l) (match o.guard with
  | none=>true
  | some (j,_)=>has (kN rows i) j) false
 | none=>false
 where
 go:List Operand->Bool
  | []=>true
  | .tmp t::r=>cond (tQ rows i t a 0) (go r) false
  | _::r=>go r
def gD (rows:List (List Nat)) (j:Nat) (o:Oper):List Oper->Nat->Bool
 | [],_=>false
 | p::r,i=>match o.dst with
  | none=>false
  | some d=>cond (cond (looksAt p d) (cond (has (kN rows i) j) false true) false) true (gD rows j o r (i+1))
def dM (tb:Tb) (aK:List Nat) (a:List Oper) (rows:List (List Nat)):List (Nat×List Nat)->List Nat->Option Nat->Bool
 | [],_,_=>true
 | (i,b)::r,done,last=>match nth a i with
  | some o=>cond (cond (jM (waits o) done) (de a rows i o) false)
   (cond (has done i) false (cond (match last with
     | none=>true
     | some e=>has (kN rows i) e)
    (match cond (isVal tb o) true (ly aK o),gD rows i o a 0 with
     | true,false=>dM tb aK a rows r (i::done) last
     | true,true=>dM tb aK a rows r (i::done) (some i)
     | false,_=>cond (watched tb a rows b i done) (dM tb aK a rows r (i::done) (some i)) false) false)) false
  | none=>false
 where
 watched (tb:Tb) (a:List Oper) (rows:List (List Nat)) (b:List Nat) (e:Nat):List Nat->Bool
  | []=>true
  | r::l=>cond (match nth a r with
    | some o=>cond (cond (qG tb o) (isVal tb o) false) (cond (has b r) true (has (kN rows e) r)) true
    | none=>false) (watched tb a rows b e l) false
def St.clean (s:St):St:={f:=λi=>match s.f i with | some (l,[])=>some (l,[]) | _=>none,m:=s.m}
def j6 (aK:List Nat):List Oper->List Nat
 | []=> []
 | o::r=>cond (ly aK o) (match o.dst with
  | some d=>d::j6 aK r
  | none=>j6 aK r) (j6 aK r)
def pv (l:List Nat) (x:Option (LV×aS)):Option (LV×aS):=match x with
 | some (.box k o,c)=>cond (has l k) none (some (.box k o,c))
 | some (.dz k o,c)=>cond (has l k) none (some (.dz k o,c))
 | some (.v v,c)=>some (.v v,c)
 | none=>none
def St.ki (s:St) (l:List Nat):St:=match l with
 | []=>s
 | l=>{f:=λi=>pv l (s.f i),m:=λk=>cond (has l k) none (s.m k)}
def yg :List Oper->Nat->Bool
 | [],_=>true
 | o::r,i=>match o.guard with
  | none=>yg r (i+1)
  | some (j,_)=>cond (Nat.blt j i) (yg r (i+1)) false
def zt (aK:List Nat) (a:List Oper):Bool:=
 cond (nodup (j6 aK a)) (cond (rC a) true (cond (nodup (bO a)) (yg a 0) false)) false
structure J where
 NQ:Bool
 i:Nat
 t:Nat
inductive bp where
 | tt
 | sq (x y:bp)
 | jn (js:List J) (mm:List Nat) (x y:bp)
 | lp (js:List J) (mm:List Nat) (x:bp)
 | bk (x:bp)
 | bj (js:List J) (mm:List Nat) (x:bp)
 | sp (k:Nat) (x y:bp)
 | gs (l:Nat) (x:bp)
 | gj (l:Nat) (js:List J) (mm:List Nat) (x y:bp)
 | rg (ord:List (Nat×List Nat))
 | r2 (pre:List (Nat×List Nat)) (i j:Nat) (x y:bp)
 | gd (l:Nat) (a x:bp)
def bp.fst :bp->bp
 | .sq x _ | .jn _ _ x _ | .gj _ _ _ x _ | .sp _ x _ | .lp _ _ x | .bk x | .bj _ _ x=>x
 | _=>.tt
def bp.snd :bp->bp
 | .sq _ y | .jn _ _ _ y | .gj _ _ _ _ y | .sp _ _ y=>y
 | _=>.tt
inductive Ex where
 | fR
 | ret
 | ext (i:Nat)
 | jD (i:Nat)
abbrev Env :=Ex->St->Hp->Prop
def Env.fR (E:Env) (K:St->Hp->Prop):Env
 | .fR=>K
 | .ret=>E .ret
 | .ext i=>E (.ext i)
 | .jD i=>E (.jD i)
def Env.fu (E:Env) (id:Nat) (K:St->Hp->Prop):Env
 | .fR=>K
 | .ret=>E .ret
 | .ext i=>cond (Nat.beq i id) K (E (.ext i))
 | .jD i=>E (.jD i)
def Env.lg (E:Env):Env
 | .fR=>E .fR
 | .ret=>E .ret
 | .ext i=>E (.ext i)
 | .jD _=>λ_ _=>False
def nG (tb:Tb):List J->Type
 | []=>Unit
 | [j]=>(dt tb j.t).T
 | j::a::js=>(dt tb j.t).T×nG tb (a::js)
def xH (tb:Tb) (t:Nat):Bool:=match tb.ty t with
 | some e=>nB e.aN
 | none=>false
def yG (tb:Tb) (t:Nat) (a:List Value):Option Value:=
 cond (xH tb t) (some (.agg a.toArray)) (match a with
  | [v]=>some v
  | _=>none)
def NB (sh:Shape) (v:Value) (K:sh.T->Prop):Prop:=∃x,sh.enc x=v/\K x
def zi (tb:Tb) (t:Nat):Bool:=match tb.ty t with
 | some e=>match e.aN with
  | .interface _=>true
  | _=>false
 | none=>false
def th (tb:Tb) (t:Nat) (v:Value) (K:(dt tb t).T->Prop):Prop:=
 cond (zi tb t) (NB (dt tb t) v K) (match (dt tb t).dec v with
  | some x=>K x
  | none=>False)
def xI (tb:Tb) (s:St) (j:J) (K:(dt tb j.t).T->Prop):Prop:=
 cond j.NQ
  (match s.m j.i with
   | some a=>match yG tb j.t a with
    | some v=>th tb j.t v K
    | none=>False
   | none=>False)
  (match s.f j.i with
   | some (.v v,[])=>th tb j.t v K
   | _=>False)
def mQ (tb:Tb):(js:List J)->St->(nG tb js->Prop)->Prop
 | [],_,K=>K ()
 | [j],s,K=>xI tb s j K
 | j::a::js,s,K=>xI tb s j λx=>mQ tb (a::js) s λy=>K (x,y)
def vZ (tb:Tb) (j:J) (x:(dt tb j.t).T) (s:St):St:=
 cond j.NQ (s.fV j.i (bg ((dt tb j.t).enc x))) (s.put (some j.i) (.v ((dt tb j.t).enc x)) [])
def ng (tb:Tb):(js:List J)->nG tb js->St->St
 | [],_,s=>s
 | [j],x,s=>vZ tb j x s
 | j::a::js,p,s=>ng tb (a::js) p.2 (vZ tb j p.1 s)
def dH :Code->List Nat
 | .region _ c _=>bO c.toList
 | .seq a b=>app (dH a) (dH b)
 | .cond _ a b=>app (dH a) (dH b)
 | .block _ a=>dH a
 | .loop a=>dH a
 | .scope a=>dH a
 | _=> []
def St.forget (s:St) (l a:List Nat):St:=
 {f:=λi=>cond (has l i) none (pv l (s.f i)),m:=λi=>cond (has a i) none (s.m i)}
inductive Md where
 | full
 | fr (l:Nat)
 | pr (l:Nat)
 | rs (l:Nat)
 | rz (l:Nat)
def ko :Code->Nat->Bool
 | .seq a b,l=>cond (ko a l) (ko b l) false
 | .label c,l=>cond (Nat.beq c l) false true
 | _,_=>true
def pM :Code->Nat->Option Code
 | .seq a b,l=>match a with
  | .label c=>cond (Nat.beq c l) (some b) none
  | _=>cond (ko a l) (pM b l) none
 | _,_=>none
def mF :Code->Nat->Option Code
 | .seq a b,l=>match a with
  | .label c=>cond (Nat.beq c l) (some b) (mF b l)
  | _=>cond (ko a l) (mF b l) none
 | _,_=>none
def Env.put (E:Env) (l:Nat) (K:St->Hp->Prop):Env
 | .fR=>E .fR
 | .ret=>E .ret
 | .ext i=>E (.ext i)
 | .jD i=>cond (Nat.beq i l) K (E (.jD i))
def uS (R:Nat->bp->Env->St->Hp->Prop):bp->Env->Env
 | .gd l a x,E=>uS R x (E.put l (R l a E))
 | _,E=>E
def zg :bp->bp
 | .gd _ _ x=>zg x
 | a=>a
def Env.Mn (E:Env) (l:Nat) (K:St->Hp->Prop):Env
 | .fR=>K
 | .ret=>E .ret
 | .ext i=>E (.ext i)
 | .jD i=>cond (Nat.beq i l) K λ_ _=>False
def BO (k:Nat) (s:St) (h:Hp) (K:St->Hp->Prop):Prop:=
 match s.f k,s.m k with
 | some (.box d off,[]),some b=>cond (Nat.beq k d) (cond (Nat.beq off 0) (bc b (λa c=>
   K {f:=λi=>cond (Nat.beq i k) (some (.v (.pointer (some a)),[])) (s.f i),m:=λi=>cond (Nat.beq i k) none (s.m i)} c) h) False) False
 | _,_=>False
def dW :List Oper->Nat->Nat->List Oper
 | [],_,_=> []
 | o::r,0,i=>{o with after:=⟨app o.after.toList [⟨i,.data⟩]⟩}::r
 | o::r,j+1,i=>o::dW r j i
def ui (tb:Tb) (aK:List Nat) (a:List Oper) (rows:List (List Nat)):List (Nat×List Nat)->List Nat->Option Nat->List Nat×Option Nat
 | [],done,last=>(done,last)
 | (i,_)::r,done,last=>match nth a i with
  | some o=>match cond (isVal tb o) true (ly aK o),gD rows i o a 0 with
   | true,false=>ui tb aK a rows r (i::done) last
   | _,_=>ui tb aK a rows r (i::done) (some i)
  | none=>(done,last)
def tT (rows:List (List Nat)) (i:Nat) (done:List Nat):Nat->Bool
 | 0=>true
 | k+1=>cond (cond (has done k) true (cond (Nat.beq k i) true (has (kN rows k) i))) (tT rows i done k) false
def tU (b:List Oper) (c:List (List Nat)) (a:List Oper) (rows:List (List Nat)):List Nat->Bool
 | []=>true
 | k::r=>cond (match nth a k with
  | some o=>cond (gD c k o b 0) true (cond (de a rows k o) (cond (gD rows k o a 0) false true) false)
  | none=>false) (tU b c a rows r) false
def KE (a:List Oper) (i j:Nat) (done:List Nat) (last:Option Nat):Bool:=
 cond (Nat.beq i j) false (match nth a i,nth a j with
  | some o,some p=>cond (has done i) false (cond (has done j) false (cond (jM (waits o) done) (cond (jM (waits p) done) (cond (match last with
    | none=>true
    | some e=>cond (has done e) (tT (bw a []) e done a.length) false)
   (cond (tT (bw (dW a j i) []) i done a.length) (cond (tT (bw (dW a i j) []) j done a.length)
    (cond (tU a (bw a []) (dW a j i) (bw (dW a j i) []) done) (tU a (bw a []) (dW a i j) (bw (dW a i j) []) done) false) false) false) false) false) false))
  | _,_=>false)
def mY (tb:Tb) (aK:List Nat):bp->List Oper->List Nat->Option Nat->Bool
 | .rg ord,ops,done,last=>cond (Nat.beq (done.length+ord.length) ops.length) (dM tb aK ops (bw ops []) ord done last) false
 | .r2 pre i j x y,ops,done,last=>cond (dM tb aK ops (bw ops []) pre done last) (match ui tb aK ops (bw ops []) pre done last with
   | (d,l)=>cond (KE ops i j d l) (cond (mY tb aK x (dW ops j i) d l) (mY tb aK y (dW ops i j) d l) false) false) false
 | _,_,_,_=>false
def va (C:Ctx) (b:List Nat) (K:St->Hp->Prop):bp->List Oper->St->Hp->Prop
 | .rg e,a,s,h=>nR C a b e s h K
 | .r2 pre i j x y,a,s,h=>nR C a b pre s h λd c=>va C b K x (dW a j i) d c/\va C b K y (dW a i j) d c
 | _,_,_,_=>False
def liftM (C:Ctx):Code->Md->bp->List Nat->St->Env->Hp->Prop
 | .skip,.full,_,_,s,E,h=>E .fR s h
 | .ret,.full,_,_,s,E,h=>E .ret s h
 | .exit id,.full,_,_,s,E,h=>E (.ext id) s h
 | .goto l,.full,_,_,s,E,h=>E (.jD l) s h
 | .label _,.full,_,_,s,E,h=>E .fR s h
 | .region _ g n,.full,A,mok,s,E,h=>
  match n with
  | false=>cond (zt C.aK g.toList) (BQ C g.toList mok g.toList (s.ki (j6 C.aK g.toList)) h λe d=>E .fR e.clean d) False
  | true=>cond (cond (nodup (bO g.toList)) (mY C.tb C.aK A g.toList [] none) false) (va C mok (λe d=>E .fR e.clean d) A g.toList (s.ki (j6 C.aK g.toList)) h) False
 | .seq a b,.full,A,mok,s,E,h=>
  match A with
  | .jn f mm _ _=>cond (jM mm mok) (mI (λ(R:nG C.tb f->Hp->Prop)=>liftM C a .full A.fst mm s (E.fR λe d=>mQ C.tb f e λx=>R x d) h)
    (λx d=>liftM C b .full A.snd mok (ng C.tb f x (s.forget (dH a) mm)) E d)) False
  | .sp k _ _=>cond (has mok k) (liftM C a .full A.fst mok s (E.fR λe d=>BO k e d λs2 o=>liftM C b .full A.snd mok s2 E o) h) False
  | _=>liftM C a .full A.fst mok s (E.fR λe d=>liftM C b .full A.snd mok e E d) h
 | .seq a b,.fr l,A,mok,s,E,h=>
  match a with
  | .label _=>E .fR s h
  | _=>liftM C a .full A.fst mok s (E.fR λe d=>liftM C b (.fr l) A.snd mok e E d) h
 | .seq a b,.pr l,A,mok,s,E,h=>
  match a with
  | .label _=>False
  | _=>match A with
   | .gj _ f mm x _=>cond (jM mm mok) (liftM C a .full .tt mok s (E.lg.fR λe d=>
     mI (λ(R:nG C.tb f->Hp->Prop)=>liftM C b (.fr l) x mm e (E.Mn l λe d=>mQ C.tb f e λx=>R x d) d)
      (λx d=>liftM C b (.rs l) A.snd mok (ng C.tb f x (e.forget (dH b) mm)) E.lg d)) h) False
   | _=>liftM C a .full A.fst mok s (E.lg.fR λe d=>liftM C b (.pr l) A.snd mok e E d) h
 | .seq a b,.rs l,A,mok,s,E,h=>
  match a with
  | .label _=>liftM C b .full A mok s E h
  | _=>liftM C b (.rs l) A mok s E h
 | .seq a b,.rz l,A,mok,s,E,h=>
  match a with
  | .label p=>cond (Nat.beq p l) (liftM C b .full A mok s E h) (liftM C b (.rz l) A mok s E h)
  | _=>liftM C b (.rz l) A mok s E h
 | .cond c a b,.full,A,mok,s,E,h=>gU (ev s [] c) λv=>match v with
  | .bool t=>if t=true then liftM C a .full A.fst mok s E h else liftM C b .full A.snd mok s E h
  | _=>False
 | .scope a,.full,A,mok,s,E,h=>
  match A with
  | .gs l x=>match pM a l with
   | some _=>liftM C a (.pr l) x mok s E h
   | none=>False
  | .gd j a0 i=>liftM C a .full (zg (.gd j a0 i)) mok s (uS (λl m E s h=>match mF a l with
   | some _=>liftM C a (.rz l) m mok s E h
   | none=>False) (.gd j a0 i) E.lg) h
  | _=>liftM C a .full A mok s E.lg h
 | .block id a,.full,A,mok,s,E,h=>
  match A with
  | .bj f mm _=>cond (jM mm mok) (mI (λ(R:nG C.tb f->Hp->Prop)=>liftM C a .full A.fst mm s (E.fu id λe d=>mQ C.tb f e λx=>R x d) h)
    (λx d=>E .fR (ng C.tb f x (s.forget (dH a) mm)) d)) False
  | _=>liftM C a .full A.fst mok s (E.fu id (E .fR)) h
 | .loop a,.full,A,mok,s,E,h=>
  match A with
  | .lp f mm _=>cond (jM mm mok) (mQ C.tb f s λi=>rY (λ(R:nG C.tb f->Hp->Prop) x h=>liftM C a .full A.fst mm (ng C.tb f x (s.forget (dH a) mm))
    (E.fR λe d=>mQ C.tb f e λx=>R x d) h) i h) False
  | _=>False
 | _,_,_,_,_,_,_=>False
def mw (C:Ctx) (s:St) (r:ResultVar) (t:Nat) (K:(dt C.tb t).T->Prop):Prop:=
 match r with
 | .tmp i=>match s.f i with
  | some (.v v,[])=>th C.tb t v K
  | _=>False
 | .cell i b=>cond (Nat.beq b t) (match s.f i,C.tb.ty t with
  | some (.box k 0,[]),some _=>match s.m k with
   | some a=>match yG C.tb t a with
    | some v=>th C.tb t v K
    | none=>False
   | none=>False
  | _,_=>False) False
def bn (tb:Tb):List Nat->Shape
 | []=>sW
 | [a]=>dt tb a
 | [a,b]=>mu (dt tb a) (dt tb b)
 | [a,b,c]=>rK (dt tb a) (dt tb b) (dt tb c)
 | [a,b,c,d]=>xB (dt tb a) (dt tb b) (dt tb c) (dt tb d)
 | [a,b,c,d,e]=>xC (dt tb a) (dt tb b) (dt tb c) (dt tb d) (dt tb e)
 | [a,b,c,d,e,f,g]=>aaL (dt tb a) (dt tb b) (dt tb c) (dt tb d) (dt tb e) (dt tb f) (dt tb g)
 | _=>sW
def tu (C:Ctx) (s:St) (h:Hp):(rs:List ResultVar)->(u:List Nat)->((bn C.tb u).T->Hp->Prop)->Prop
 | [],[],K=>K () h
 | [r],[t],K=>mw C s r t λx=>K x h
 | [a,r2],[t1,t2],K=>mw C s a t1 λb=>mw C s r2 t2 λc=>K (b,c) h
 | [a,r2,d],[t1,t2,e],K=>mw C s a t1 λb=>mw C s r2 t2 λc=>mw C s d e λf=>K (b,c,f) h
 | [a,r2,d,g],[t1,t2,e,i],K=>mw C s a t1 λb=>mw C s r2 t2 λc=>mw C s d e λf=>mw C s g i λj=>K (b,c,f,j) h
 | [a,r2,d,g,k],[t1,t2,e,i,l],K=>mw C s a t1 λb=>mw C s r2 t2 λc=>mw C s d e λf=>mw C s g i λj=>
   mw C s k l λm=>K (b,c,f,j,m) h
 | [a,r2,d,g,k,n,o],[t1,t2,e,i,l,p,q],K=>mw C s a t1 λb=>mw C s r2 t2 λc=>mw C s d e λf=>mw C s g i λj=>
   mw C s k l λm=>mw C s n p λv=>mw C s o q λw=>K (b,c,f,j,m,v,w) h
 | _,_,_=>False
def sf (args:List Value) (i:Nat):Option (LV×aS):=match nth args i with
 | some v=>some (.v v,[])
 | none=>none
def v7 (f:Func):Code:=match f.body with
 | some c=>c
 | none=>.refuse ""
def se (n:Nat):List Nat->Bool
 | []=>true
 | i::r=>cond (Nat.blt i n) (se n r) false
def Gh (C:Ctx) (f:Func) (A:bp) (args:List Value) (K:(bn C.tb f.resultTypes.toList).T->Hp->Prop) (h:Hp):Prop:=
 cond (cond (Nat.ble args.length f.ntmps) (se f.ntmps (dH (v7 f))) false)
  (liftM C (v7 f) .full A C.aK {f:=sf args,m:=λ_=>none} (λe s h=>match e with
   | .fR | .ret=>tu C s h f.results.toList f.resultTypes.toList K
   | _=>False) h) False
structure Tb.Ok (P:Program) (tb:Tb):Prop where
 aN:∀t e,tb.ty t=some e->P.underlying t=some e.aN
 info:∀t e,tb.ty t=some e->∃i,P.info? t=some i/\i.size=e.size/\i.bytes=e.bytes/\i.zero=some e.zero
 agg:∀t e,tb.ty t=some e->nB e.aN=true->∀x,∃cs,e.sh.enc x=.agg cs/\cs.size=e.size
 leaf:∀t e,tb.ty t=some e->nB e.aN=false->e.size=1/\∀x,(bg (e.sh.enc x)).length=1/\∀cs,e.sh.enc x≠ .agg cs
 yj:∀t e,tb.ty t=some e->(bg e.zero).length=e.size
 A8:∀t e,tb.ty t=some e->e.aN=.int .u8->bg e.zero=[.int .u8 0]
 N6:∀t e,tb.ty t=some e->nB e.aN=true->∃cs,e.zero=.agg cs
 call:∀g,tb.call g=true->∀args w,(callFunc g args).run P w=.ok (.enter g args) w
 ext:∀g f,tb.ext g=some f->∀args w,(callFunc g args).run P w=((f args).run P w).andThen λv w'=>.ok (.value v) w'
 mixed:P.follows .mixedOrders=true
theorem yJ :∀ {c d:aS},nJ c d=true->c=d
 | [],[],_=>rfl
 | [],_::_,h=>by simp [nJ] at h
 | (t,w)::c,[],h=>by simp [nJ] at h
 | (t,w)::c,(u,x)::d,h=>by
  simp only [nJ] at h;cases a:Nat.beq t u with
  | false=>simp [a] at h
  | true=>
   cases b:KB w x with
   | false=>simp [a,b] at h
   | true=>
    simp only [a,b,cond_true] at h;have e:t=u:=Nat.eq_of_beq_eq_true a;have f:w=x:=by cases w<;>cases x<;>first | rfl | cases b
    rw [e,f,yJ h]
theorem HV :∀ {c ch:aS},mq c ch=true->∀p∈c,p∈ch
 | c,[],h=>by
  cases c with
  | nil=>intro p hp;cases hp
  | cons a r=>simp [mq] at h
 | c,q::d,h=>by
  cases c with
  | nil=>intro p hp;cases hp
  | cons a r=>
   simp only [mq] at h;cases b:nJ (a::r) (q::d) with
   | true=>intro p hp;rw [<-yJ b];exact hp
   | false=>simp only [b,cond_false] at h;intro p hp;exact List.mem_cons_of_mem _ (HV h p hp)
def hb (s:St) (t:Nat):Option Bool:=match s.f t with
 | some (.v (.bool b),_)=>some b
 | _=>none
def holds (s:St) (ch:aS):Prop:=∀p∈ch,hb s p.1=some p.2
theorem bz (s:St):holds s []:=λ_ h=>by cases h
theorem xo {s:St} {c ch:aS} (a:mq c ch=true) (h:holds s ch):holds s c:=λp hp=>h p (HV a p hp)
theorem HW {s:St} (t:Nat) (w:Bool) (r:aS):∃b,ee s ((t,w)::r)=some b/\(holds s ((t,w)::r)->b=true):=by
 induction r generalizing t w with
 | nil=>
  simp only [ee];split
  ·rename_i b c a;refine ⟨_,rfl,λh=> ?_⟩;have:=h (t,w) (List.mem_cons_self ..);simp only [hb,a] at this;grind
  ·refine ⟨false,rfl,λh=> ?_⟩;have:=h (t,w) (List.mem_cons_self ..);unfold hb at this;split at this
   ·rename_i e _ b c a;exact absurd a (e b c)
   ·cases this
 | cons p r k=>
  obtain ⟨l,m⟩:=p;obtain ⟨f,g,i⟩:=k l m;simp only [ee];split
  ·rename_i b c a;rw [g];refine ⟨_,rfl,λh=> ?_⟩;have d:=h (t,w) (List.mem_cons_self ..);simp only [hb,a] at d;injection d with d
   have n:f=true:=i λq j=>h q (List.mem_cons_of_mem _ j);grind
  ·refine ⟨false,rfl,λh=> ?_⟩;have:=h (t,w) (List.mem_cons_self ..);unfold hb at this;split at this
   ·rename_i e _ b c a;exact absurd a (e b c)
   ·cases this
theorem ny {s:St} {ch:aS} {p:Prop} (h:kg (ee s ch) p) (a:holds s ch):p:=by
 cases ch with
 | nil=>exact h
 | cons q r=>obtain ⟨t,w⟩:=q;obtain ⟨b,hb,c⟩:=HW (s:=s) t w r;rw [hb] at h;exact h (c a)
def LVal (a:Nat->Nat):LV->Value
 | .v x=>x
 | .box k o=>.pointer (some ⟨a k,o,none⟩)
 | .dz k o=>.pointer (some ⟨a k,o,none⟩)
def eg (β:Nat->Nat) (s:St) (ρ:Operand->Value):Operand->Prop
 | .tmp t=>∀l c,s.f t=some (l,c)->holds s c->ρ (.tmp t)=LVal β l
 | .const v=>ρ (.const v)=v
 | .global g=>ρ (.global g)=.pointer (some ⟨g,0,none⟩)
 | .func f=>ρ (.func f)=.func (.func f) #[] #[]
theorem bx {e:Nat->Nat} {s:St} {h:Operand->Value} {x:Operand} {ch:aS} {l:LV} (b:eg e s h x) (j:holds s ch) (a:ev s ch x=some l):h x=LVal e l:=by
 cases x with
 | tmp t=>
  simp only [ev] at a;split at a
  ·rename_i k c i;cases d:mq c ch with
   | false=>simp [d] at a
   | true=>simp only [d,cond_true] at a;cases a;exact b l c i (xo d j)
  ·cases a
 | const v=>cases a;exact b
 | global g=>cases a;exact b
 | func f=>cases a;exact b
theorem WH {l:Option LV} {K:LV->Prop} (h:Mp l K):∃x,l=some x/\K x:=by
 cases l with
 | none=>exact h.elim
 | some x=>exact ⟨x,rfl,h⟩
theorem jB {l:Option LV} {K:Value->Prop} (h:gU l K):∃x,l=some (.v x)/\K x:=by
 cases l with
 | none=>exact h.elim
 | some x=>cases x<;>first | exact ⟨_,rfl,h⟩ | exact h.elim
theorem FL {l:Option (List Value)} {K:List Value->Prop} (h:mW l K):∃x,l=some x/\K x:=by
 cases l with
 | none=>exact h.elim
 | some x=>exact ⟨x,rfl,h⟩
def pe (d:Nat->Nat) (s:St) (o:Oper) (w:World):Prop:=
 ∀t,Operand.tmp t∈o.op.operands->∀k off c,(s.f t=some (.box k off,c)\/s.f t=some (.dz k off,c))->holds s c->∀a,s.m k=some a->∃b,w.heap[d k]? =some (.cells a.toArray b (0,0))
theorem rL {s:St} {ch:aS} {x:Operand} {l:LV} (a:ev s ch x=some l) (h:∀v,l≠ .v v) (e:holds s ch):∃t c,x=.tmp t/\s.f t=some (l,c)/\holds s c:=by
 cases x with
 | tmp t=>
  simp only [ev] at a;split at a
  ·rename_i i c d;cases b:mq c ch with
   | false=>simp [b] at a
   | true=>simp only [b,cond_true] at a;cases a;exact ⟨t,c,rfl,d,xo b e⟩
  ·cases a
 | const v=>cases a;grind
 | global g=>cases a;grind
 | func f=>cases a;grind
theorem pe.box {β:Nat->Nat} {s:St} {o:Oper} {w:World} (hb:pe β s o w) {ch:aS} {x:Operand} {k off:Nat} (i:x∈o.op.operands) (e:ev s ch x=some (.box k off)) (g:holds s ch)
  {a:List Value} (h:s.m k=some a):∃b,w.heap[β k]? =some (.cells a.toArray b (0,0)):=by
 obtain ⟨t,c,rfl,f,d⟩:=rL e (by simp) g;exact hb t i k off c (.inl f) d a h
theorem pe.dz {b:Nat->Nat} {s:St} {o:Oper} {w:World} (hb:pe b s o w) {ch:aS} {x:Operand} {k off:Nat} (j:x∈o.op.operands) (f:ev s ch x=some (.dz k off)) (h:holds s ch)
  {a:List Value} (i:s.m k=some a):∃d,w.heap[b k]? =some (.cells a.toArray d (0,0)):=by
 obtain ⟨t,c,rfl,g,e⟩:=rL f (by simp) h;exact hb t j k off c (.inr g) e a i
def oh (a:Kd) (P:Program) (o:Oper) (s:St) (h:Hp) (l:LV):Prop:=
 ∀(c:Nat->Nat) (d:Operand->Value) (w:World),(∀x∈o.op.operands,eg c s d x)->(a=.mem->Sub h w)->(a≠ .pure->pe c s o w)->
  ∃b,(execOp d o).run P w=.ok (.value (LVal c l)) b/\(a≠ .mem->b=w)/\(a=.mem->Step h h w b)
theorem ma {b:Type _}:∀(l:List b) (i:Nat),nth l i=l[i]?
 | [],_=>by simp [nth]
 | a::l,0=>by simp [nth]
 | a::l,n+1=>by simp [nth,ma l n]
theorem HX {b:Type _}:∀(l:List b) (i:Nat),ou l i=l.drop i
 | l,0=>by simp [ou]
 | [],n+1=>by simp [ou]
 | a::l,n+1=>by simp [ou,HX l n]
theorem HY {b:Type _}:∀(l:List b) (i:Nat),oV l i=l.take i
 | l,0=>by simp [oV]
 | [],n+1=>by simp [oV]
 | a::l,n+1=>by simp [oV,HY l n]
theorem qH {b:Type _}:∀(l r:List b),app l r=l++r
 | [],r=>rfl
 | a::l,r=>by simp [app,qH l r]
theorem qD :∀(l:List Nat) (i:Nat),has l i=true↔i∈l
 | [],i=>by simp [has]
 | a::l,i=>by
  simp only [has];cases h:Nat.beq i a with
  | true=>simp [Nat.eq_of_beq_eq_true h]
  | false=>
   have:i≠a:=λe=>by rw [e] at h;simp at h
   simp [qD l i,this]
theorem yk {l:List Nat} {i:Nat} (h:has l i=false):i∉l:=λa=>by rw [(qD l i).2 a] at h;cases h
section
variable {P:Program} {tb:Tb}
theorem ax (ok:tb.Ok P) {t:Nat} {e:Ty} (h:tb.ty t=some e) (w:World):(underlying t).run P w=.ok e.aN w:=by simp [underlying,ok.aN t e h]
theorem ku (ok:tb.Ok P) {t:Nat} {e:Ty} (h:tb.ty t=some e) (w:World):
  ∃i,(typeInfo t).run P w=.ok i w/\i.size=e.size/\i.bytes=e.bytes/\i.zero=some e.zero:=by
 obtain ⟨i,d,a,b,c⟩:=ok.info t e h;exact ⟨i,by simp [typeInfo,d],a,b,c⟩
theorem bP (ok:tb.Ok P) {t:Nat} {e:Ty} (h:tb.ty t=some e) (w:World):(Go.sizeOf t).run P w=.ok e.size w:=by obtain ⟨i,b,a,c,d⟩:=ku ok h w;simp only [Go.sizeOf,Sem.run_bind,b,Result.andThen_ok,Sem.run_pure,a]
theorem bX (ok:tb.Ok P) {t:Nat} {e:Ty} (h:tb.ty t=some e) (w:World):(zeroValue t).run P w=.ok e.zero w:=by obtain ⟨i,b,c,d,a⟩:=ku ok h w;simp only [zeroValue,Sem.run_bind,b,Result.andThen_ok,a,Sem.run_pure]
theorem kJ (ok:tb.Ok P) {t:Nat} {e:Ty} (h:tb.ty t=some e) (w:World):(isAgg t).run P w=.ok (nB e.aN) w:=by simp only [isAgg,Sem.run_bind,ax ok h,Result.andThen_ok];cases e.aN<;>rfl
theorem nq (v:Value):v.cells.toList=bg v:=by cases v<;>rfl
theorem zuq {w:World} {a:Addr}:∀(n i:Nat) (d:Array Value) (b:List Value),b.length=n->
  (∀j v,b[j]? =some v->w.cell? (a.add (i+j))=some v)->(loadCellsFrom a i n d).run P w=.ok (d++b.toArray) w
 | 0,i,d,b,e,_=>by have:b=[]:=List.length_eq_zero_iff.1 e;subst this;simp [loadCellsFrom]
 | n+1,i,d,[],e,_=>by simp at e
 | n+1,i,d,c::b,e,f=>by
  have g:w.cell? (a.add i)=some c:=by simpa using f 0 c (by simp)
  have k:=zuq n (i+1) (d.push c) b (by simpa using e) (λj v h=>by
   have:=f (j+1) v (by simpa using h)
   rwa [show i+1+j=i+(j+1) from by omega])
  simp only [loadCellsFrom,Sem.run_bind,run_load,g,Result.andThen_ok,k];congr 1;simp
theorem zvw {w:World} {a:Addr} {b:List Value} (c:∀j v,b[j]? =some v->w.cell? (a.add j)=some v):(loadCells a b.length).run P w=.ok b.toArray w:=by unfold loadCells;rw [zuq b.length 0 #[] b rfl (by simpa using c)];simp
theorem Nr (ok:tb.Ok P) {t:Nat} {e:Ty} (h:tb.ty t=some e) {w:World} {a:Addr} {x:e.sh.T}
  (d:∀j v,(bg (e.sh.enc x))[j]? =some v->w.cell? (a.add j)=some v):(loadVar t a).run P w=.ok (e.sh.enc x) w:=by
 simp only [loadVar,Sem.run_bind,kJ ok h,Result.andThen_ok];cases c:nB e.aN with
 | true=>
  obtain ⟨b,f,o⟩:=ok.agg t e h c x;simp only [if_true,Sem.run_bind,bP ok h,Result.andThen_ok];have m:b.toList.length=e.size:=by simpa using o
  have k:∀j v,b.toList[j]? =some v->w.cell? (a.add j)=some v:=by simpa [f,bg] using d
  rw [<-m,zvw k];simp [f]
 | false=>
  obtain ⟨p,i⟩:=ok.leaf t e h c;have n:=(i x).2;have l:bg (e.sh.enc x)=[e.sh.enc x]:=by generalize e.sh.enc x=v at n;cases v<;>first | rfl | grind
  have:=d 0 (e.sh.enc x) (by simp [l]);have g:a.add 0=a:=by simp [Addr.add]
  rw [g] at this;simp [this]
theorem sP (a:Addr) (i j:Nat):(a.add i).add j=a.add (i+j):=by unfold Addr.add;grind
theorem jC (b o i:Nat):(⟨b,o,none⟩:Addr).add i=⟨b,o+i,none⟩:=by unfold Addr.add;simp
theorem ED {w:World} {b t:Nat} {a:List Value} (hb:w.heap[b]? =some (.cells a.toArray t (0,0))) (i:Nat):w.cell? ⟨b,i,none⟩=a[i]?:=by unfold World.cell?;simp [hb]
end
section
variable {P:Program} {tb:Tb}
def lG (o:Oper) (ch:aS) (s:St) (l:LV):Prop:=
 ∀k off,(l=.box k off\/l=.dz k off)->∃x∈o.op.operands,∃a,ev s ch x=some (.box k a)\/ev s ch x=some (.dz k a)
theorem wa (o:Oper) (ch:aS) (s:St) (v:Value):lG o ch s (.v v):=λ_ _ e=>by grind
theorem Ch {o:Oper} {ch:aS} {s:St} {l:LV} {x:Operand} (a:x∈o.op.operands) (b:ev s ch x=some l):lG o ch s l:=λk off e=>
 ⟨x,a,off,by grind⟩
theorem HZ {o:Oper} {ch:aS} {s:St} {l:LV} {x:Operand} {k off:Nat} (c:x∈o.op.operands) (d:ev s ch x=some (.box k off))
  (f:∀a b,(l=.box a b\/l=.dz a b)->a=k):lG o ch s l:=λa b e=>⟨x,c,off,.inl (by grind)⟩
theorem TI {o:Oper} {ch:aS} {s:St} {l:LV} {x:Operand} {k off:Nat} (c:x∈o.op.operands) (d:ev s ch x=some (.dz k off))
  (f:∀a b,(l=.box a b\/l=.dz a b)->a=k):lG o ch s l:=λa b e=>⟨x,c,off,.inr (by grind)⟩
def dP (P:Program) (tb:Tb) (o:Oper) (ch:aS) (s:St) (h:Hp) (K:LV->Prop):Prop:=
 ∃l,K l/\(holds s ch->oh (bZ tb o ch s) P o s h l)/\lG o ch s l
theorem jV {o:Oper} {ch:aS} {s:St} {h:Hp} {K:LV->Prop} (l:LV) (b:K l)
  (d:holds s ch->∀(β:Nat->Nat) (ρ:Operand->Value) (w:World),(∀x∈o.op.operands,eg β s ρ x)->
   (execOp ρ o).run P w=.ok (.value (LVal β l)) w)
  (hp:lG o ch s l:=by exact wa _ _ _ _):dP P tb o ch s h K:=
 ⟨l,b,λa β ρ w c f hb=>⟨w,d a β ρ w c,λ_=>rfl,λe=>.refl (f e)⟩,hp⟩
theorem LF {o:Oper} {ch:aS} {s:St} {h:Hp} {K:LV->Prop} (f:bZ tb o ch s=.box) (l:LV) (d:K l)
  (i:holds s ch->∀(a:Nat->Nat) (b:Operand->Value) (w:World),(∀x∈o.op.operands,eg a s b x)->pe a s o w->
   (execOp b o).run P w=.ok (.value (LVal a l)) w)
  (hp:lG o ch s l:=by exact wa _ _ _ _):dP P tb o ch s h K:=
 ⟨l,d,λc a b w g j hb=>⟨w,i c a b w g (hb (by rw [f];simp)),λ_=>rfl,λe=>.refl (j e)⟩,hp⟩
theorem DT {o:Oper} {ch:aS} {s:St} {h:Hp} {K:LV->Prop} (g:bZ tb o ch s=.mem) (l:LV) (f:K l)
  (j:holds s ch->∀(a:Nat->Nat) (b:Operand->Value) (w:World),(∀x∈o.op.operands,eg a s b x)->Sub h w->
   (execOp b o).run P w=.ok (.value (LVal a l)) w)
  (hp:lG o ch s l:=by exact wa _ _ _ _):dP P tb o ch s h K:=
 ⟨l,f,λd a b w i c hb=>⟨w,j d a b w i (c g),λ_=>rfl,λe=>.refl (c e)⟩,hp⟩
theorem DU {s:Sem Value} {h:Hp} {v:Value} (b:jL P s h v) {w:World} (c:Sub h w):∃a,s.run P w=.ok v a/\Step h h w a:=b w c
theorem rD {o:Oper} {ch:aS} {s:St} {h:Hp} {K:LV->Prop} {t:Nat} {i:Sem Value} (g:bZ tb o ch s=.mem) (b:mj (ee s ch) P tb t i h K)
  (p:holds s ch->∀(d:Nat->Nat) (c:Operand->Value),(∀x∈o.op.operands,eg d s c x)->∀(w a:World) (v:Value),i.run P w=.ok v a->(execOp c o).run P w=.ok (.value v) a):
  dP P tb o ch s h K:=by
 unfold mj at b;split at b
 ·rename_i e r;obtain ⟨x,q,j⟩:=b;refine ⟨_,j,λf d c w k m hb=> ?_,wa _ _ _ _⟩;obtain ⟨a,l,n⟩:=DU (ny q f) (m g);exact ⟨a,p f d c k w a _ l,λe=>absurd g e,λ_=>n⟩
 ·exact b.elim
theorem H0 {o:Oper} {ch:aS} {s:St} {h:Hp} {K:LV->Prop} {x:Operand} (a:o.op=.move x\/o.op=.assign x) (hv:Mp (ev s ch x) K):dP P tb o ch s h K:=by obtain ⟨l,b,d⟩:=WH hv;refine jV l d (λc g i w e=> ?_) (Ch (by rcases a with h | h<;>simp [h,Op.operands]) b);have f:i x=LVal g l:=bx (e x (by rcases a with h | h<;>simp [h,Op.operands])) c b;rcases a with h | h<;>simp [execOp,h,f]
theorem HJ {t:Nat} {w:World} {a b:Bool} (c:(underlying t).run P w=.ok .bool w):(Op.equal t (.bool a) (.bool b)).run P w=.ok (a==b) w:=by
 have key:∀d,(Op.equalIn (d+1) t (.bool a) (.bool b)).run P w=.ok (a==b) w:=by intro d;unfold Op.equalIn;simp only [Sem.run_bind,c,Result.andThen_ok,Sem.run_pure]
 exact key 9999
theorem IZ {t elem:Nat} {w:World} {p:Option Addr} (a:(underlying t).run P w=.ok (.pointer elem) w):(Op.equal t (.pointer p) (.pointer none)).run P w=.ok p.isNone w:=by
 have key:∀d,(Op.equalIn (d+1) t (.pointer p) (.pointer none)).run P w=.ok p.isNone w:=by intro d;unfold Op.equalIn;simp only [Sem.run_bind,a,Result.andThen_ok];cases p<;>simp only [Sem.run_pure]<;>rfl
 exact key 9999
set_option maxHeartbeats 800000 in
theorem H2 (ok:tb.Ok P) {o:Oper} {ch:aS} {s:St} {h:Hp} {K:LV->Prop} {op:BinOp} {t R:Nat} {x y:Operand} (F:o.op=.binOp op t x y R)
  (hv:gU (ev s ch x) λa=>gU (ev s ch y) λb=>sj (ee s ch) P tb op t x y o.type a b h K):dP P tb o ch s h K:=by
 obtain ⟨a,L,G⟩:=jB hv;clear hv;obtain ⟨b,E,hv⟩:=jB G;clear G;have Q:holds s ch->∀(g:Nat->Nat) (d:Operand->Value),(∀x∈o.op.operands,eg g s d x)->d x=a/\d y=b:=λc g d i=>
  ⟨bx (i x (by simp [F,Op.operands])) c L,bx (i y (by simp [F,Op.operands])) c E⟩
 have C:holds s ch->∀(g:Nat->Nat) (d:Operand->Value),(∀x∈o.op.operands,eg g s d x)->∀(w l:World) (v:Value),(cX op t x y a b).run P w=.ok v l->
   (execOp d o).run P w=.ok (.value v) l:=by
  intro c g d i w l v j;obtain ⟨J,hb⟩:=Q c g d i;simp only [execOp,F,J,hb];change (cX op t x y a b>>=λx=>pure (Next.value x)).run P w=_;rw [Sem.run_bind,j];rfl
 have gen:∀v:Value,K (.v v)->(holds s ch->∀w,(cX op t x y a b).run P w=.ok v w)->dP P tb o ch s h K:=λv A j=>
  jV (.v v) A λc g d w i=>C c g d i w w v (j c w)
 unfold sj at hv;split at hv
 · -- numbers
  rename_i k m H n;have f:∀w:World,(eqGuard op t x y (.int k m) (.int H n)).run P w=.ok () w:=λw=>by unfold eqGuard;split<;>rfl
  split at hv
  ·refine gen _ hv.2 λc w=> ?_;have r:=ny hv.1 c;simp only [cX,Sem.run_bind,f,Result.andThen_ok];simp [binOp,Op.shift,ni,Int.not_lt.2 r]
  ·refine gen _ hv.2 λc w=> ?_;have r:=ny hv.1 c;simp only [cX,Sem.run_bind,f,Result.andThen_ok];simp [binOp,Op.shift,gF,Int.not_lt.2 r]
  ·cases A:Gk k H with
   | false=>simp [A] at hv
   | true=>
    have N:=KA A;subst N;simp only [A,cond_true] at hv;cases op<;>simp only [Gj] at hv<;>
     first
     |exact hv.elim
     |exact gen _ hv λ_ w=>by simp only [cX,Sem.run_bind,f,Result.andThen_ok];simp [binOp,Op.intArith,Op.intCmp,Op.intBits,du]
     |exact gen _ hv.2 λc w=>by have r:=ny hv.1 c;simp only [cX,Sem.run_bind,f,Result.andThen_ok];simp [binOp,Op.intDiv,r]
 · -- truths
  rename_i m n;split at hv
  ·rename_i e D;have f:∀w:World,(eqGuard op t x y (.bool m) (.bool n)).run P w=.ok () w:=λw=>by unfold eqGuard;split<;>rfl
   have B:=λw=>ax ok D w;split at hv
   ·rename_i u;refine gen _ hv λ_ w=> ?_;simp only [cX,Sem.run_bind,f,Result.andThen_ok,binOp,HJ (u▸B w),Sem.run_pure]
   ·rename_i u;refine gen _ hv λ_ w=> ?_;simp only [cX,Sem.run_bind,f,Result.andThen_ok,binOp,HJ (u▸B w),Sem.run_pure]
   ·exact hv.elim
  ·exact hv.elim
 · -- texts
  rename_i m n;have f:∀w:World,(eqGuard op t x y (.string m) (.string n)).run P w=.ok () w:=λw=>by unfold eqGuard;split<;>rfl
  split at hv
  ·exact gen _ hv λ_ w=>by simp only [cX,Sem.run_bind,f,Result.andThen_ok];simp [binOp,Op.stringOp]
  ·exact gen _ hv λ_ w=>by simp only [cX,Sem.run_bind,f,Result.andThen_ok];simp [binOp,Op.stringOp]
  ·refine gen _ hv.2 λc w=> ?_;have r:=ny hv.1 c;simp only [cX,Sem.run_bind,f,Result.andThen_ok];have I:¬(((m.size+n.size:Nat):Int)>IntKind.i64.max):=by
    have:IntKind.i64.max=9223372036854775807:=by decide
    rw [this];omega
   simp only [binOp,Op.stringOp,if_neg I,Sem.run_pure]
  ·exact rD (by simp_all [bZ]) hv λc g d i w l v j=>C c g d i w l v j
 · -- pointers
  rename_i p q;cases z:rB y with
  | false=>simp only [z,cond_false] at hv;exact rD (by simp_all [bZ]) hv λc g d i w l v j=>C c g d i w l v j
  | true=>
   simp only [z,cond_true] at hv;split at hv
   ·rename_i e D;split at hv
    ·rename_i elem u;have O:q=none:=by
      cases y with
      | const v=>
       simp only [ev] at E;cases E;cases q with
       | none=>rfl
       | some _=>simp [rB] at z
      | tmp _=>simp [rB] at z
      | global _=>simp [rB] at z
      | func _=>simp [rB] at z
     subst O;have f:∀w:World,(eqGuard op t x y (.pointer p) (.pointer none)).run P w=.ok () w:=λw=>by unfold eqGuard;split<;>rfl
     have B:=λw=>ax ok D w;unfold xb at hv;split at hv
     ·refine gen _ hv λ_ w=> ?_;simp only [cX,Sem.run_bind,f,Result.andThen_ok,binOp,IZ (u▸B w),Sem.run_pure]
     ·refine gen _ hv λ_ w=> ?_;simp only [cX,Sem.run_bind,f,Result.andThen_ok,binOp,IZ (u▸B w),Sem.run_pure]
     ·exact hv.elim
    ·exact hv.elim
   ·exact hv.elim
 ·rename_i S T U V;have M:bZ tb o ch s=.mem:=by unfold bZ;grind
  exact rD M hv λc g d i w l v j=>C c g d i w l v j
theorem Jz {t:Nat} {w:World} {ms} {a:Value} (b:oJ a=true) (c:(underlying t).run P w=.ok (.interface ms) w):(Op.equal t a .nilIface).run P w=.ok (Lw a) w:=by
 have key:∀d,(Op.equalIn (d+1) t a .nilIface).run P w=.ok (Lw a) w:=by intro d;unfold Op.equalIn;simp only [Sem.run_bind,c,Result.andThen_ok];cases a<;>first | rfl | cases b
 exact key 9999
theorem Cj {a:Value} (b:oJ a=true):a=.nilIface\/∃t v,a=.iface t v:=by cases a<;>first | exact .inl rfl | exact .inr ⟨_,_,rfl⟩ | cases b
theorem Zt (ok:tb.Ok P) {o:Oper} {ch:aS} {s:St} {h:Hp} {K:LV->Prop} {op:BinOp} {t I:Nat} {x y:Operand} (j:o.op=.binOp op t x y I)
  (hv:gU (ev s ch x) λa=>gU (ev s ch y) λb=>uG (ee s ch) P tb op t x y o.type a b h K):dP P tb o ch s h K:=by
 cases k:Ce y with
 | false=>refine H2 ok j ?_;simpa only [uG,k,cond_false] using hv
 | true=>
  cases g:uU tb t with
  | false=>refine H2 ok j ?_;simpa only [uG,k,g,cond_false,cond_true] using hv
  | true=>
   obtain ⟨a,E,A⟩:=jB hv;clear hv;obtain ⟨b,p,hv⟩:=jB A;clear A;simp only [uG,k,g,cond_true] at hv;obtain ⟨u,hv⟩:=hv;have H:y=.const .nilIface:=by unfold Ce at k;grind
   subst H;have hb:b=.nilIface:=by simp only [ev] at p;grind
   subst hb;have F:holds s ch->∀(l:Nat->Nat) (i:Operand->Value),(∀x∈o.op.operands,eg l s i x)->∀(w n:World) (v:Value),(cX op t x (.const .nilIface) a .nilIface).run P w=.ok v n->
     (execOp i o).run P w=.ok (.value v) n:=by
    intro d l i f w n v m;have c:i x=a:=bx (f x (by simp [j,Op.operands])) d E;have hb:i (.const .nilIface)=.nilIface:=bx (f (.const .nilIface) (by simp [j,Op.operands])) d p;simp only [execOp,j,c,hb];change (cX op t x (.const .nilIface) a .nilIface>>=λx=>pure (Next.value x)).run P w=_;rw [Sem.run_bind,m];rfl
   have gen:∀v:Value,K (.v v)->(holds s ch->∀w,(cX op t x (.const .nilIface) a .nilIface).run P w=.ok v w)->dP P tb o ch s h K:=λv G m=>
    jV (.v v) G λd l i w f=>F d l i f w w v (m d w)
   unfold uU at g;split at g
   ·rename_i e D;split at g
    ·rename_i J q;have z:=λw=>ax ok D w;have r:oJ a=true->∀w:World,(eqGuard op t x (.const .nilIface) a .nilIface).run P w=.ok () w:=λc w=>by unfold eqGuard;rcases Cj c with rfl | ⟨_,_,rfl⟩<;>cases op<;>first | rfl | (cases x<;>rfl)
     have C:oJ a=true->op=.eql->∀w:World,(binOp op t a .nilIface).run P w=.ok (.bool (Lw a)) w:=λc f w=>by subst f;rcases Cj c with rfl | ⟨_,_,rfl⟩<;>simp only [binOp,Sem.run_bind,Jz (P:=P) c (q▸z w),Result.andThen_ok,Sem.run_pure]
     have B:oJ a=true->op=.neq->∀w:World,(binOp op t a .nilIface).run P w=.ok (.bool (!Lw a)) w:=λc f w=>by subst f;rcases Cj c with rfl | ⟨_,_,rfl⟩<;>simp only [binOp,Sem.run_bind,Jz (P:=P) c (q▸z w),Result.andThen_ok,Sem.run_pure]
     unfold xb at hv;split at hv
     ·refine gen _ hv λd w=> ?_;have c:=ny u d;simp only [cX,Sem.run_bind,r c,Result.andThen_ok,C c rfl]
     ·refine gen _ hv λd w=> ?_;have c:=ny u d;simp only [cX,Sem.run_bind,r c,Result.andThen_ok,B c rfl]
     ·exact hv.elim
    ·cases g
   ·cases g
end
section
variable {P:Program} {tb:Tb} {o:Oper} {ch:aS} {s:St} {h:Hp} {K:LV->Prop}
theorem yO {β:Nat->Nat} {ρ:Operand->Value} (b:holds s ch):∀ {l:List Operand} {a:List Value},dN s ch l=some a->(∀x∈l,eg β s ρ x)->l.map ρ=a
 | [],a,h,_=>by cases h;rfl
 | x::l,a,h,c=>by
  simp only [dN] at h;split at h
  ·rename_i v r hv d;cases h;simp only [List.map_cons];rw [bx (c x (List.mem_cons_self ..)) b hv,yO b d λy e=>c y (List.mem_cons_of_mem _ e)];rfl
  ·cases h
theorem EE {β:Nat->Nat} {ρ:Operand->Value} (b:holds s ch):∀ {l:List (Nat×Operand)} {a:List (Nat×Value)},lh s ch l=some a->(∀x∈l.map (·.2),eg β s ρ x)->
  l.map (λp=>(p.1,ρ p.2))=a
 | [],a,h,_=>by cases h;rfl
 | (i,x)::l,a,h,c=>by
  simp only [lh] at h;split at h
  ·rename_i v r hv d;cases h;simp only [List.map_cons];rw [bx (c x (by simp)) b hv,EE b d λy e=>c y (by grind)];rfl
  ·cases h
theorem LG {e:Nat->Nat} {i:Operand->Value} {x:Operand} {t:Nat} {w:Bool} {l:LV} (d:eg e s i x) (m:holds s ch) (j:hb s t=some w)
  (a:xF s ch t w x=some l):i x=LVal e l:=by
 cases x with
 | tmp u=>
  simp only [xF] at a;split at a
  ·rename_i n c k;cases b:mq c ((t,w)::ch) with
   | false=>simp [b] at a
   | true=>
    simp only [b,cond_true] at a;cases a;refine d l c k (xo b λp hp=> ?_);rcases List.mem_cons.1 hp with rfl | hp
    ·exact j
    ·exact m p hp
  ·cases a
 | const v=>cases a;exact d
 | global g=>cases a
 | func f=>cases a
theorem WJ {x a b:Operand} (f:o.op=.pick x a b) (hv:u5 s ch x a b K):dP P tb o ch s h K:=by
 unfold u5 at hv;split at hv
 ·rename_i t;split at hv
  ·rename_i p y r;cases m:mq y ch with
   | false=>simp [m] at hv
   | true=>
    simp only [m,cond_true] at hv;have n:hb s t=some p:=by simp [hb,r]
    have i:holds s ch->∀(g:Nat->Nat) (c:Operand->Value),(∀x∈o.op.operands,eg g s c x)->c (.tmp t)=.bool p:=λe g c d=>
     d (.tmp t) (by simp [f,Op.operands]) _ _ r (xo m e)
    have run:∀(c:Operand->Value) (w:World),c (.tmp t)=.bool p->(execOp c o).run P w=.ok (.value (if p=true then c a else c b)) w:=by intro c w hp;simp only [execOp,f,hp,asBool,Sem.run_bind,Sem.run_pure,Result.andThen_ok]
    split at hv
    ·rename_i u;obtain ⟨v,l,hv⟩:=jB hv;split at hv
     ·rename_i q;refine jV (.v (.bool (p&&q))) (hv _ rfl) λe g c w d=> ?_;rw [run c w (i e g c d)];cases hp:p with
      | true=>have:=LG (d (.tmp u) (by simp [f,Op.operands])) e (hp▸n) l;simp [this,LVal]
      | false=>have:c (.const (.bool false))=.bool false:=d (.const (.bool false)) (by simp [f,Op.operands]);simp [this,LVal]
     ·exact hv.elim
    ·rename_i u;obtain ⟨v,l,hv⟩:=jB hv;split at hv
     ·rename_i q;refine jV (.v (.bool (p || q))) (hv _ rfl) λe g c w d=> ?_;rw [run c w (i e g c d)];cases hp:p with
      | false=>have:=LG (d (.tmp u) (by simp [f,Op.operands])) e (hp▸n) l;simp [this,LVal]
      | true=>have:c (.const (.bool true))=.bool true:=d (.const (.bool true)) (by simp [f,Op.operands]);simp [this,LVal]
     ·exact hv.elim
    ·refine jV _ hv λe g c w d=> ?_;rw [run c w (i e g c d)];have j:c (.const (.bool true))=.bool true:=d (.const (.bool true)) (by simp [f,Op.operands]);have k:c (.const (.bool false))=.bool false:=d (.const (.bool false)) (by simp [f,Op.operands]);cases p<;>simp [j,k,LVal]
    ·rename_i u v _;refine jV _ hv λe g c w d=> ?_;rw [run c w (i e g c d)];have j:c (.const (.bool u))=.bool u:=d (.const (.bool u)) (by simp [f,Op.operands]);have k:c (.const (.bool v))=.bool v:=d (.const (.bool v)) (by simp [f,Op.operands]);cases p<;>simp [j,k,LVal]
    ·exact hv.elim
  ·exact hv.elim
 ·exact hv.elim
theorem Ox {x:Operand} {i:Nat} (c:o.op=.extract x i) (hv:gU (ev s ch x) λv=>match v with
  | .tuple b=>match nth b.toList i with
   | some y=>K (.v y)
   | none=>False
  | _=>False):dP P tb o ch s h K:=by
 obtain ⟨v,e,a⟩:=jB hv;clear hv;split at a
 ·rename_i b;split at a
  ·rename_i y d;refine jV (.v y) a λf k l w g=> ?_;have j:=bx (g x (by simp [c,Op.operands])) f e;have:b[i]? =some y:=by rw [ma] at d;simpa using d
   simp only [execOp,c,j,LVal,Instr.extract,this,Sem.run_bind,Sem.run_pure,Result.andThen_ok]
  ·exact a.elim
 ·exact a.elim
theorem aaN {op:UnOp} {t:Nat} {x:Operand} (c:o.op=.unOp op t x) (hv:gU (ev s ch x) λa=>NW op a K):dP P tb o ch s h K:=by
 obtain ⟨v,d,b⟩:=jB hv;clear hv;unfold NW at b;split at b<;>
  first
  |exact b.elim
  |refine jV _ b λe i j w f=> ?_
   have g:=bx (f x (by simp [c,Op.operands])) e d;simp [execOp,c,g,LVal,Op.unary,Op.intArith,Op.intBits,du]
theorem Zu {x:Operand} (b:o.op=.nilCheck x) (hv:match ev s ch x with
  | some (.v (.pointer p))=>ai (ee s ch) p λa=>K (.v (.pointer (some a)))
  | some (.box k off)=>K (.box k off)
  | some (.dz k off)=>K (.dz k off)
  | _=>False):dP P tb o ch s h K:=by
 split at hv
 ·rename_i p c;obtain ⟨a,l,j⟩:=hv;refine jV _ j λd g i w e=> ?_;have f:=bx (e x (by simp [b,Op.operands])) d c;have hp:=ny l d;subst hp;simp [execOp,b,f,LVal]
 ·rename_i k off c;refine jV _ hv (λd g i w e=> ?_) (Ch (by simp [b,Op.operands]) c);have f:=bx (e x (by simp [b,Op.operands])) d c;simp [execOp,b,f,LVal]
 ·rename_i k off c;refine jV _ hv (λd g i w e=> ?_) (Ch (by simp [b,Op.operands]) c);have f:=bx (e x (by simp [b,Op.operands])) d c;simp [execOp,b,f,LVal]
 ·exact hv.elim
theorem KK {t:Nat} {a:List Value} {off:Nat} (hv:iv tb t a off K):
  ∃e v,tb.ty t=some e/\K (.v v)/\((nB e.aN=true/\v=.agg ((a.drop off).take e.size).toArray/\off+e.size<=a.length)\/(nB e.aN=false/\a[off]? =some v)):=by
 unfold iv at hv;split at hv
 ·rename_i e d;cases b:nB e.aN with
  | true=>
   simp only [b,cond_true,HX,HY] at hv;cases c:Nat.ble (off+e.size) a.length with
   | false=>simp [c] at hv
   | true=>simp only [c,cond_true] at hv;exact ⟨e,_,d,hv,.inl ⟨b,rfl,Nat.le_of_ble_eq_true c⟩⟩
  | false=>simp only [b,cond_false,ma] at hv;grind
 ·exact hv.elim
theorem J0 (ok:tb.Ok P) {t:Nat} {a:List Value} {off b f:Nat} {e:Ty} {v:Value} {w:World} (d:tb.ty t=some e)
  (hv:(nB e.aN=true/\v=.agg ((a.drop off).take e.size).toArray/\off+e.size<=a.length)\/(nB e.aN=false/\a[off]? =some v))
  (hb:w.heap[b]? =some (.cells a.toArray f (0,0))):(loadVar t ⟨b,off,none⟩).run P w=.ok v w:=by
 simp only [loadVar,Sem.run_bind,kJ ok d,Result.andThen_ok];rcases hv with ⟨c,hv,l⟩ | ⟨c,hv⟩
 ·have i:((a.drop off).take e.size).length=e.size:=by simp;omega
  have g:∀j v,((a.drop off).take e.size)[j]? =some v->w.cell? ((⟨b,off,none⟩:Addr).add j)=some v:=by intro j v k;rw [jC,ED hb];grind
  rw [c];simp only [if_true,Sem.run_bind,bP ok d,Result.andThen_ok]
  conv=>lhs;rw [<-i]
  rw [zvw g];simp [hv]
 ·have:=ED hb off;rw [hv] at this;simp [c,this]
theorem WL (ok:tb.Ok P) {t:Nat} {x:Operand} (d:o.op=.load t x) (hv:match ev s ch x with
  | some (.v (.pointer (some a)))=>match tb.ty t with
   | some e=>aP (ee s ch) e.sh h a λx=>K (.v (e.sh.enc x))
   | none=>False
  | some (.box k off)=>match s.m k with
   | some i=>iv tb t i off K
   | none=>False
  | some (.dz k off)=>match s.m k,tb.ty t with
   | some i,some e=>cond (nB e.aN) False (∃x,kg (ee s ch) (i[off]? =some (e.sh.enc x))/\K (.v (e.sh.enc x)))
   | _,_=>False
  | _=>False):dP P tb o ch s h K:=by
 have run:∀(f:Operand->Value) (w:World) (a:Addr) (v:Value),f x=.pointer (some a)->(loadVar t a).run P w=.ok v w->(execOp f o).run P w=.ok (.value v) w:=by intro f w a v g p;simp only [execOp,d,g,Instr.loadAt,Instr.sureAddr,Sem.run_bind,Sem.run_pure,Result.andThen_ok,p]
 split at hv
 ·rename_i a b;split at hv
  ·rename_i e q;obtain ⟨y,p,l⟩:=hv;refine DT (by simp [bZ,d,b]) _ l λc A f w n E=> ?_;have g:=bx (n x (by simp [d,Op.operands])) c b;exact run f w a _ g (Nr ok q λj v D=>vL E (ny p c j v D))
  ·exact hv.elim
 ·rename_i k off b;split at hv
  ·rename_i i z;obtain ⟨e,v,q,l,C⟩:=KK hv;refine LF (by simp [bZ,d,b]) _ l λc A f w n hb=> ?_;have g:=bx (n x (by simp [d,Op.operands])) c b;obtain ⟨B,u⟩:=hb.box (by simp [d,Op.operands]) b c z;exact run f w _ _ g (J0 ok q C u)
  ·exact hv.elim
 ·rename_i k off b;split at hv
  ·rename_i i e z q;cases r:nB e.aN with
   | true=>simp [r] at hv
   | false=>simp only [r,cond_false] at hv;obtain ⟨y,p,l⟩:=hv;refine LF (by simp [bZ,d,b]) _ l λc A f w n hb=> ?_;have g:=bx (n x (by simp [d,Op.operands])) c b;obtain ⟨B,u⟩:=hb.dz (by simp [d,Op.operands]) b c z;exact run f w _ _ g (J0 ok q (.inr ⟨r,ny p c⟩) u)
  ·exact hv.elim
 ·exact hv.elim
theorem ab0 {t i:Nat} {Q:Nat->Nat->Prop} (hv:yF tb t i Q):
  ∃e a f g,tb.ty t=some e/\e.aN=.struct a/\a[i]? =some f/\tb.ty f.type=some g/\g.size≠0/\Q f.offset g.size:=by
 unfold yF at hv;split at hv
 ·rename_i e c;split at hv
  ·rename_i a d;split at hv
   ·rename_i f b;split at hv
    ·rename_i g j;split at hv
     ·exact hv.elim
     ·rename_i n k;refine ⟨e,a,f,g,c,d,by rw [ma] at b;simpa using b,j,by omega,k▸hv⟩
    ·exact hv.elim
   ·exact hv.elim
  ·exact hv.elim
 ·exact hv.elim
theorem aai (ok:tb.Ok P) {t i:Nat} {x:Operand} (d:o.op=.fieldAddr t x i) (hv:yF tb t i λoff _=>match ev s ch x with
  | some (.v (.pointer (some a)))=>K (.v (.pointer (some (a.add off))))
  | some (.box k o)=>K (.box k (o+off))
  | some (.dz k o)=>K (.dz k (o+off))
  | _=>False):dP P tb o ch s h K:=by
 obtain ⟨e,D,f,g,q,u,r,y,B,m⟩:=ab0 hv;have run:∀(b:Operand->Value) (w:World) (a:Addr),b x=.pointer (some a)->(execOp b o).run P w=.ok (.value (.pointer (some (a.add f.offset)))) w:=by intro b w a A;have n:=ax ok q w;rw [u] at n;have z:=bP ok y w;simp only [execOp,d,A,Instr.fieldAt,Instr.sureAddr,Sem.run_bind,n,Result.andThen_ok,r,Sem.run_pure,fieldPlace,z,if_neg B]
 split at m
 ·rename_i a c;refine jV _ m λj p b w l=> ?_;exact run b w a (bx (l x (by simp [d,Op.operands])) j c)
 ·rename_i k C c;refine jV _ m (λj p b w l=> ?_) (HZ (by simp [d,Op.operands]) c (by simp));rw [run b w _ (bx (l x (by simp [d,Op.operands])) j c),jC];rfl
 ·rename_i k C c;refine jV _ m (λj p b w l=> ?_) (TI (by simp [d,Op.operands]) c (by simp));rw [run b w _ (bx (l x (by simp [d,Op.operands])) j c),jC];rfl
 ·exact m.elim
theorem H3 (ok:tb.Ok P) {t:Nat} {cs:List Value} {off:Nat} {e:Ty} {v:Value} {w:World} (b:tb.ty t=some e)
  (hv:(nB e.aN=true/\v=.agg ((cs.drop off).take e.size).toArray/\off+e.size<=cs.length)\/(nB e.aN=false/\cs[off]? =some v)):
  (part t cs.toArray off).run P w=.ok v w:=by
 simp only [part,Sem.run_bind,kJ ok b,Result.andThen_ok];rcases hv with ⟨a,hv,_⟩ | ⟨a,hv⟩
 ·simp only [a,if_true,Sem.run_bind,bP ok b,Result.andThen_ok,Sem.run_pure,hv];simp
 ·simp [a,hv]
theorem TL (ok:tb.Ok P) {t i:Nat} {x:Operand} (j:o.op=.field t x i) (hv:match tb.ty t with
  | some e=>match e.aN with
   | .struct a=>match nth a.toList i with
    | some f=>gU (ev s ch x) λv=>match v with
     | .agg c=>iv tb f.type c.toList f.offset K
     | _=>False
    | none=>False
   | _=>False
  | none=>False):dP P tb o ch s h K:=by
 split at hv
 ·rename_i e m;split at hv
  ·rename_i a q;split at hv
   ·rename_i f d;obtain ⟨v,n,b⟩:=jB hv;clear hv;split at b
    ·rename_i c;obtain ⟨g,y,r,z,l⟩:=KK b;refine jV _ z λu C D w A=> ?_;have B:=bx (A x (by simp [j,Op.operands])) u n;have k:=ax ok m w;rw [q] at k;have p:a[i]? =some f:=by rw [ma] at d;simpa using d
     have hp:=H3 (w:=w) ok r l;simp only [Array.toArray_toList] at hp;simp only [execOp,j,B,LVal,Instr.field,Sem.run_bind,k,Result.andThen_ok,p,asAgg,Sem.run_pure,hp]
    ·exact b.elim
   ·exact hv.elim
  ·exact hv.elim
 ·exact hv.elim
end
section
variable {P:Program} {tb:Tb} {o:Oper} {ch:aS} {s:St} {h:Hp} {K:LV->Prop}
theorem vy {t:Nat} {g:Ty} (h:fY tb t=some g):∃e u,tb.ty t=some e/\e.aN=.slice u/\tb.ty u=some g:=by unfold fY at h;grind
theorem C8 {t n:Nat} {g:Ty} (h:kV tb t=some (n,g)):∃e u,tb.ty t=some e/\e.aN=.array n u/\tb.ty u=some g:=by unfold kV at h;grind
theorem aak (ok:tb.Ok P) {t:Nat} {x i:Operand} (d:o.op=.indexAddr t x i) (hv:match ev s ch x,ev s ch i with
  | some (.v (.slice base len _)),some (.v (.int _ n))=>match fY tb t with
   | some e=>kg (ee s ch) (bJ base len n)/\K (.v (.pointer (some (sat base e.size n))))
   | none=>False
  | some (.v (.pointer (some a))),some (.v (.int _ n))=>match kV tb t with
   | some (len,e)=>kg (ee s ch) (0<=n/\n<(len:Int))/\K (.v (.pointer (some (a.add (n.toNat*e.size)))))
   | none=>False
  | some (.box k off),some (.v (.int _ n))=>match kV tb t with
   | some (len,e)=>kg (ee s ch) (0<=n/\n<(len:Int))/\cond (DR i) (K (.box k (off+n.toNat*e.size))) (K (.dz k (off+n.toNat*e.size)))
   | none=>False
  | _,_=>False):dP P tb o ch s h K:=by
 have L:∀(f:Operand->Value) (w:World) (a:Addr) (k:IntKind) (n:Int) (len:Nat) (e:Ty),kV tb t=some (len,e)->f x=.pointer (some a)->f i=.int k n->0<=n/\n<(len:Int)->
   (execOp f o).run P w=.ok (.value (.pointer (some (a.add (n.toNat*e.size))))) w:=by
  intro f w a k n len e j F C hb;obtain ⟨y,u,G,E,B⟩:=C8 j;have r:=ax ok G w;have D:=bP ok B w;rw [E] at r;simp only [execOp,d,F,C,Instr.indexAt,asIntOf,Instr.sureAddr,Sem.run_bind,Sem.run_pure,Result.andThen_ok,r,if_pos hb,D]
 split at hv
 ·rename_i base len c k n m q;split at hv
  ·rename_i e j;obtain ⟨y,u,G,E,B⟩:=vy j;refine jV _ hv.2 λb z f w g=> ?_;have F:=bx (g x (by simp [d,Op.operands])) b m;have C:=bx (g i (by simp [d,Op.operands])) b q;obtain ⟨O,M,N⟩:=ny hv.1 b;obtain ⟨a,rfl⟩:∃a,base=some a:=Option.ne_none_iff_exists'.1 O;have r:=ax ok G w;have D:=bP ok B w;rw [E] at r;simp only [execOp,d,F,C,LVal,Instr.indexAt,asIntOf,Sem.run_bind,Sem.run_pure,Result.andThen_ok,r,if_pos (And.intro M N),D,sat,Option.getD_some]
  ·exact hv.elim
 ·rename_i a k n m q;split at hv
  ·rename_i len e j;refine jV _ hv.2 λb z f w g=> ?_;exact L f w a k n len e j (bx (g x (by simp [d,Op.operands])) b m) (bx (g i (by simp [d,Op.operands])) b q) (ny hv.1 b)
  ·exact hv.elim
 ·rename_i p off k n m q;split at hv
  ·rename_i len e j;have J:∀l:LV,(∀z,LVal z l=.pointer (some ⟨z p,off+n.toNat*e.size,none⟩))->(∀H A,(l=.box H A\/l=.dz H A)->H=p)->K l->dP P tb o ch s h K:=λl R hb Q=>
    jV l Q (λb z f w g=>by
     rw [L f w _ k n len e j (bx (g x (by simp [d,Op.operands])) b m) (bx (g i (by simp [d,Op.operands])) b q) (ny hv.1 b),jC,R]) (HZ (by simp [d,Op.operands]) m hb)
   cases I:DR i with
   | true=>exact J (.box p (off+n.toNat*e.size)) (λ_=>rfl) (by intro p A e;rcases e with e | e<;>cases e<;>rfl) (by simpa [I] using hv.2)
   | false=>exact J (.dz p (off+n.toNat*e.size)) (λ_=>rfl) (by intro p A e;rcases e with e | e<;>cases e<;>rfl) (by simpa [I] using hv.2)
  ·exact hv.elim
 ·exact hv.elim
theorem TO (ok:tb.Ok P) {t:Nat} {x i:Operand} (c:o.op=.index t x i) (hv:match ev s ch x,ev s ch i with
  | some (.v (.string b)),some (.v (.int _ n))=>match tb.ty t with
   | some y=>match y.aN with
    | .string=>kg (ee s ch) (0<=n/\n<(b.size:Int))/\K (.v (.int .u8 ((b.data.toList.getD n.toNat 0).toNat:Int)))
    | _=>False
   | none=>False
  | some (.v (.agg cs)),some (.v (.int _ n))=>Bx (ee s ch) tb t cs.toList n K
  | _,_=>False):dP P tb o ch s h K:=by
 split at hv
 ·rename_i b k n j g;split at hv
  ·rename_i y q;split at hv
   ·rename_i m;refine jV _ hv.2 λa I J w d=> ?_;have p:=bx (d x (by simp [c,Op.operands])) a j;have l:=bx (d i (by simp [c,Op.operands])) a g;obtain ⟨C,L⟩:=ny hv.1 a;have f:=ax ok q w;rw [m] at f;have B:n.toNat<b.size:=by omega
    have E:b[n.toNat]? =some (b.data.toList.getD n.toNat 0):=by
     rw [getElem?_pos b n.toNat B];congr 1;have:n.toNat<b.data.toList.length:=by simpa using B
     rw [List.getD_eq_getElem?_getD,List.getElem?_eq_getElem this];rfl
    simp only [execOp,c,p,l,LVal,Instr.index,asIntOf,Sem.run_bind,Sem.run_pure,Result.andThen_ok,f,if_pos C,E]
   ·exact hv.elim
  ·exact hv.elim
 ·rename_i cs k n j g;unfold Bx at hv;split at hv
  ·rename_i len e D;obtain ⟨y,u,q,m,A⟩:=C8 D;cases r:nB e.aN with
   | true=>grind
   | false=>simp only [r,cond_false] at hv;obtain ⟨hb,z,H,F⟩:=hv;refine jV _ F λa I J w d=> ?_;have p:=bx (d x (by simp [c,Op.operands])) a j;have l:=bx (d i (by simp [c,Op.operands])) a g;have f:=ax ok q w;have G:=bP ok A w;have hp:=H3 ok (w:=w) (cs:=cs.toList) A (.inr ⟨r,ny H a⟩);rw [m] at f;simp only [Array.toArray_toList] at hp;simp only [execOp,c,p,l,LVal,Instr.index,asIntOf,Sem.run_bind,Sem.run_pure,Result.andThen_ok,f,if_pos (ny hb a),G,hp]
  ·exact hv.elim
 ·exact hv.elim
theorem WN {f:Nat->Nat} {b:Operand->Value} (c:holds s ch) {x:Option Operand} {r:Option Int} (a:nO s ch x=some r) (d:∀y,x=some y->eg f s b y):
  (x=none/\r=none)\/∃y k n,x=some y/\b y=.int k n/\r=some n:=by
 cases x with
 | none=>cases a;simp
 | some y=>
  simp only [nO] at a;split at a
  ·rename_i k n e;cases a;exact .inr ⟨y,k,n,rfl,bx (d y rfl) c e,rfl⟩
  ·cases a
theorem yl {k:IntKind} {n:Int} {m:Nat} {c:BoundsCode} {w:World} (a:0<=n) (b:n<=(m:Int)):(Instr.sliceBound (.int k n) m c).run P w=.ok n.toNat w:=by simp only [Instr.sliceBound,asIntOf,Sem.run_bind,Sem.run_pure,Result.andThen_ok,if_pos (And.intro a b)]
theorem Cm {c:Option Bool} {v:Bool} {len cap:Nat} {r q t:Option Int} {Q:Nat->Nat->Nat->Prop} (hv:GB c v len cap r q t Q):
  ∃l x m,Q l x m/\((c=none\/(c=some true))->∀(g f i:Option Value),(r=none/\g=none\/∃k n,r=some n/\g=some (.int k n))->
   (q=none/\f=none\/∃k n,q=some n/\f=some (.int k n))->(t=none/\i=none\/∃k n,t=some n/\i=some (.int k n))->
   ∀w:World,(Instr.sliceBounds v len cap g f i).run P w=.ok (l,x,m) w):=by
 have j:∀ {p:Prop},kg c p->(c=none\/c=some true)->p:=by
  intro p u hc;rcases hc with hc | hc<;>subst hc
  ·exact u
  ·exact u rfl
 unfold GB at hv;split at hv
 ·refine ⟨_,_,_,hv,λhc g f i a b d w=> ?_⟩;simp at a b d;subst a;subst b;subst d;simp [Instr.sliceBounds]
 ·rename_i l;refine ⟨_,_,_,hv.2,λhc g f i a b d w=> ?_⟩;obtain ⟨a0,a1⟩:=j hv.1 hc;simp at a b d;subst b;subst d;obtain ⟨k,rfl⟩:=a;simp [Instr.sliceBounds,yl a0 a1]
 ·rename_i x;refine ⟨_,_,_,hv.2,λhc g f i a b d w=> ?_⟩;obtain ⟨a0,a1⟩:=j hv.1 hc;simp at a b d;subst a;subst d;obtain ⟨k,rfl⟩:=b;simp [Instr.sliceBounds,yl a0 a1]
 ·rename_i l x;refine ⟨_,_,_,hv.2,λhc g f i a b d w=> ?_⟩;obtain ⟨a0,a1,a2⟩:=j hv.1 hc;simp at a b d;subst d;obtain ⟨k,rfl⟩:=a;obtain ⟨y,rfl⟩:=b;have e:(x.toNat:Int)=x:=Int.toNat_of_nonneg (by omega);simp [Instr.sliceBounds,yl (Int.le_trans a0 a1) a2,yl (n:=l) (m:=x.toNat) a0 (by omega)]
 ·rename_i x m;refine ⟨_,_,_,hv.2,λhc g f i a b d w=> ?_⟩;obtain ⟨a0,a1,a2⟩:=j hv.1 hc;simp at a b d;subst a;obtain ⟨k,rfl⟩:=b;obtain ⟨y,rfl⟩:=d;simp [Instr.sliceBounds,yl (n:=m) (Int.le_trans a0 a1) a2,yl (n:=x) (m:=m.toNat) a0 (by omega)]
 ·rename_i l x m;refine ⟨_,_,_,hv.2,λhc g f i a b d w=> ?_⟩;obtain ⟨a0,a1,a2,a3⟩:=j hv.1 hc;simp at a b d;obtain ⟨k,rfl⟩:=a;obtain ⟨y,rfl⟩:=b;obtain ⟨z,rfl⟩:=d;simp [Instr.sliceBounds,yl (n:=m) (by omega) a3,yl (n:=x) (m:=m.toNat) (by omega) (by omega),yl (n:=l) (m:=x.toNat) a0 (by omega)]
 ·simp at hv
end
section
variable {P:Program} {tb:Tb} {o:Oper} {ch:aS} {s:St} {h:Hp} {K:LV->Prop}
theorem DW (a:holds s ch):ee s ch=none\/ee s ch=some true:=by
 cases ch with
 | nil=>exact .inl rfl
 | cons q r=>obtain ⟨t,w⟩:=q;obtain ⟨b,hb,c⟩:=HW (s:=s) t w r;grind
theorem TR (ok:tb.Ok P) {t:Nat} {x:Operand} {I H A:Option Operand} (j:o.op=.slice t x I H A) (hv:gU (ev s ch x) λv=>match nO s ch I,nO s ch H,nO s ch A with
  | some I,some H,some A=>Dt (ee s ch) tb t v I H A K
  | _,_,_=>False):dP P tb o ch s h K:=by
 obtain ⟨v,L,f⟩:=jB hv;clear hv;split at f
 ·rename_i l n m N O B;have q:holds s ch->∀(p:Nat->Nat) (i:Operand->Value),(∀x∈o.op.operands,eg p s i x)->∀ {y:Option Operand} {r:Option Int},nO s ch y=some r->(∀z,y=some z->z∈o.op.operands)->
    (r=none/\y.map i=none\/∃k n,r=some n/\y.map i=some (.int k n)):=by
   intro c p i g y r Z B;rcases WN c Z (λz d=>g z (B z d)) with ⟨T,U⟩ | ⟨z,k,n,T,U,h3⟩
   ·exact .inl ⟨U,by rw [T];rfl⟩
   grind
  unfold Dt at f;split at f
  ·rename_i base len cap;split at f
   ·rename_i e J;obtain ⟨y,u,S,R,M⟩:=vy J;obtain ⟨W,Y,X,C,E⟩:=Cm (P:=P) f;refine jV _ (C _ rfl) λc p i w g=> ?_;have G:=bx (g x (by simp [j,Op.operands])) c L;have F:=ax ok S w;have Q:=bP ok M w;rw [R] at F;have D:=E (DW c) _ _ _ (q c p i g N (by intro z d;simp [j,Op.operands,d])) (q c p i g O (by intro z d;simp [j,Op.operands,d]))
     (q c p i g B (by intro z d;simp [j,Op.operands,d])) w
    simp only [execOp,j,G,LVal,Instr.sliceAt,Instr.slice,Sem.run_bind,F,Result.andThen_ok,D,Q,Sem.run_pure,aW]
   ·exact f.elim
  ·rename_i a;split at f
   ·rename_i n' e J;obtain ⟨y',u,b0,a9,M⟩:=C8 J;obtain ⟨W,Y,X,C,E⟩:=Cm (P:=P) f;refine jV _ (C _ rfl) λc p i w g=> ?_;have G:=bx (g x (by simp [j,Op.operands])) c L;have V:=ax ok b0 w;have Q:=bP ok M w;rw [a9] at V;have D:=E (DW c) _ _ _ (q c p i g N (by intro z d;simp [j,Op.operands,d])) (q c p i g O (by intro z d;simp [j,Op.operands,d]))
     (q c p i g B (by intro z d;simp [j,Op.operands,d])) w
    simp only [execOp,j,G,LVal,Instr.sliceAt,Instr.slice,Instr.sureAddr,Sem.run_bind,Result.andThen_ok,V,D,Q,Sem.run_pure,aW];split<;>simp_all
   ·exact f.elim
  ·rename_i b;split at f
   ·rename_i e S;split at f
    ·rename_i R;obtain ⟨W,Y,X,C,E⟩:=Cm (P:=P) f;refine jV _ C λc p i w g=> ?_;have G:=bx (g x (by simp [j,Op.operands])) c L;have F:=ax ok S w;rw [R] at F;have a8:A=none:=by
      cases A with
      | none=>rfl
      | some z=>simp only [nO] at B;grind
     have D:=E (DW c) _ _ none (q c p i g N (by intro z d;simp [j,Op.operands,d])) (q c p i g O (by intro z d;simp [j,Op.operands,d])) (.inl ⟨rfl,rfl⟩) w;subst a8;simp [execOp,j,G,LVal,Instr.sliceAt,Instr.slice,F,D]
    ·exact f.elim
   ·exact f.elim
  ·exact f.elim
 ·exact f.elim
theorem TU (ok:tb.Ok P) {t:Nat} {x:Operand} (a:o.op=.makeInterface t x) (hv:gU (ev s ch x) λv=>match tb.ty t with
  | some e=>match e.aN with
   | .interface _=>False
   | _=>K (.v (.iface t v))
  | none=>False):dP P tb o ch s h K:=by
 obtain ⟨v,d,b⟩:=jB hv;clear hv;split at b
 ·rename_i e c;have run:(∀n,e.aN≠ .interface n)->K (.v (.iface t v))->dP P tb o ch s h K:=λi g=>
   jV _ g λf p q w j=>by have m:=bx (j x (by simp [a,Op.operands])) f d;have l:=ax ok c w;simp only [execOp,a,m,LVal,Instr.makeInterface,Sem.run_bind,l,Result.andThen_ok];cases k:e.aN<;>first | exact absurd k (i _) | rfl
  grind
 ·exact b.elim
theorem WQ {fn:Fn} {first captured:Array Operand} (c:o.op=.makeFunc fn first captured)
  (hv:mW (dN s ch first.toList) λa=>mW (dN s ch captured.toList) λb=>K (.v (.func fn a.toArray b.toArray))):dP P tb o ch s h K:=by
 obtain ⟨a,i,k⟩:=FL hv;obtain ⟨b,hb,j⟩:=FL k;refine jV _ j λd β ρ w e=> ?_;have m:=yO (β:=β) (ρ:=ρ) d i λx l=>e x (by simp [c,Op.operands];grind);have n:=yO (β:=β) (ρ:=ρ) d hb λx l=>e x (by simp [c,Op.operands];grind);have f:first.map ρ=a.toArray:=by grind
 have g:captured.map ρ=b.toArray:=by grind
 simp only [execOp,c,Instr.makeFunc,Sem.run_bind,Sem.run_pure,Result.andThen_ok,f,g,LVal]
theorem Oy (ok:tb.Ok P) {src c:Nat} {x:Operand} (q:o.op=.convert src c x) (hv:gU (ev s ch x) λv=>match tb.ty src,tb.ty c,v with
  | some _,some e,.int _ n=>match e.aN with
   | .int k=>K (.v (.int k (k.wrap n)))
   | _=>mj (ee s ch) P tb c (convert src c v) h K
  | some _,some _,v=>mj (ee s ch) P tb c (convert src c v) h K
  | _,_,_=>False):dP P tb o ch s h K:=by
 obtain ⟨v,y,i⟩:=jB hv;clear hv;have l:holds s ch->∀(b:Nat->Nat) (a:Operand->Value),(∀x∈o.op.operands,eg b s a x)->∀(w g:World) (u:Value),(convert src c v).run P w=.ok u g->(execOp a o).run P w=.ok (.value u) g:=by intro d b a f w g u j;have B:=bx (f x (by simp [q,Op.operands])) d y;simp only [execOp,q,B,LVal,Sem.run_bind,j,Result.andThen_ok,Sem.run_pure]
 split at i
 ·rename_i r e k n z t;split at i
  ·rename_i D A;refine jV _ i λd b a w f=>l d b a f w w _ ?_;have m:=ax ok z w;have p:=ax ok t w;rw [A] at p;generalize r.aN=C at m;simp only [convert,Sem.run_bind,m,p,Result.andThen_ok];cases C<;>rfl
  ·exact rD (by simp_all [bZ]) i λd b a f w g u j=>l d b a f w g u j
 ·exact rD (by simp_all [bZ]) i λd b a f w g u j=>l d b a f w g u j
 ·exact i.elim
theorem yQ :∀(l:List Value) (i:Nat) (new:List Value),i+new.length<=l.length->j7 l i new=l.take i++new++l.drop (i+new.length)
 | l,0,[],_=>by cases l<;>simp [j7]
 | [],0,b::new,h=>by simp at h
 | a::l,0,b::new,h=>by have:=yQ l 0 new (by grind);simp only [j7,this];simp
 | [],n+1,new,h=>by simp at h
 | a::l,n+1,new,h=>by have:=yQ l n new (by simp at h ⊢;omega);simp only [j7,this];grind
theorem OA (l:List Value) (i:Nat) (new:List Value) (h:i+new.length<=l.length):(j7 l i new).length=l.length:=by rw [yQ l i new h];simp;omega
theorem H4 :∀(new:List Value) (k:Nat) (l:List Value) (off:Nat),off+k+new.length<=l.length->
  ((new.zipIdx k).foldl (λ(a:Array Value) (p:Value×Nat)=>a.setIfInBounds (off+p.2) p.1) l.toArray).toList=l.take (off+k)++new++l.drop (off+k+new.length)
 | [],k,l,off,_=>by simp
 | v::new,k,l,off,h=>by
  simp only [List.zipIdx_cons,List.foldl_cons];have b:off+(k+1)+new.length<=(l.set (off+k) v).length:=by simp at h ⊢;omega
  have:=H4 new (k+1) (l.set (off+k) v) off b;rw [show (l.toArray.setIfInBounds (off+k) v)=(l.set (off+k) v).toArray by simp];rw [this];simp at h;apply List.ext_getElem?;intro j;simp only [List.getElem?_append,List.length_append,List.length_take,List.length_set,List.length_cons,List.getElem?_take,List.getElem?_drop,List.getElem?_set];grind
theorem H6 (v:Value) (l:List Value) (off:Nat) (h:off+(bg v).length<=l.length):
  (v.cells.zipIdx.foldl (λ(a:Array Value) (p:Value×Nat)=>a.setIfInBounds (off+p.2) p.1) l.toArray)=(j7 l off (bg v)).toArray:=by
 apply Array.ext';rw [<-Array.foldl_toList];have:v.cells.zipIdx.toList=(bg v).zipIdx:=by rw [Array.toList_zipIdx,nq]
 rw [this,H4 (bg v) 0 l off (by omega),yQ l off _ h];simp
theorem EF {size:Nat}:∀ {e:List (Nat×Value)} {a b:List Value},mO size a e=some b->
  Instr.fill (λi=>some (i*size,size)) a.toArray e=some b.toArray
 | [],a,b,h=>by cases h;rfl
 | (i,v)::r,a,b,h=>by
  simp only [mO] at h;cases c:Nat.beq (bg v).length size with
  | false=>simp [c] at h
  | true=>
   cases d:Nat.ble (i*size+size) a.length with
   | false=>simp [c,d] at h
   | true=>
    simp only [c,d,cond_true] at h;have f:=Nat.eq_of_beq_eq_true c;have j:=Nat.le_of_ble_eq_true d;have g:v.cells.size=size:=by rw [<-Array.length_toList,nq,f]
    have:=EF h;simp only [Instr.fill,g,ne_eq,not_true,decide_false,Bool.false_or,decide_eq_true_eq];rw [if_neg (by simp;omega)];have k:=H6 v a (i*size) (by omega);grind
theorem H7 {fs:List Field} {pl:Nat->Option (Nat×Nat)} (j:∀i f e,fs[i]? =some f->tb.ty f.type=some e->pl i=some (f.offset,e.size)):
  ∀ {k:List (Nat×Value)} {a b:List Value},pZ tb fs a k=some b->Instr.fill pl a.toArray k=some b.toArray
 | [],a,b,h=>by cases h;rfl
 | (i,v)::r,a,b,h=>by
  simp only [pZ] at h;split at h
  ·rename_i f g;split at h
   ·rename_i e n;cases c:Nat.beq (bg v).length e.size with
    | false=>simp [c] at h
    | true=>
     cases d:Nat.ble (f.offset+e.size) a.length with
     | false=>simp [c,d] at h
     | true=>
      simp only [c,d,cond_true] at h;have l:=Nat.eq_of_beq_eq_true c;have p:=Nat.le_of_ble_eq_true d;have m:v.cells.size=e.size:=by rw [<-Array.length_toList,nq,l]
      have:=H7 j h;rw [ma] at g;simp only [Instr.fill,j i f e g n,m];rw [if_neg (by simp;omega)];rw [H6 v a f.offset (by omega)];exact this
   ·cases h
  ·cases h
theorem KM (ok:tb.Ok P) {w:World}:∀(fs:List Field),(∀f∈fs,∃e,tb.ty f.type=some e)->
  ∃a:List (Nat×Nat),(fs.mapM λf=>(do pure (f.offset,<-Go.sizeOf f.type):Sem (Nat×Nat))).run P w=.ok a w/\a.length=fs.length/\
   ∀(i:Nat) f e,fs[i]? =some f->tb.ty f.type=some e->a[i]? =some (f.offset,e.size)
 | [],_=>⟨[],by simp,rfl,by simp⟩
 | f::fs,b=>by
  obtain ⟨e,c⟩:=b f (List.mem_cons_self ..);obtain ⟨a,k,j,hp⟩:=KM ok (w:=w) fs λg d=>b g (List.mem_cons_of_mem _ d);refine ⟨(f.offset,e.size)::a,?_,by simp [j],?_⟩
  ·simp only [List.mapM_cons,Sem.run_bind,bP ok c,Result.andThen_ok,Sem.run_pure,k]
  grind
theorem LH :∀ {fs:List Field},oX tb fs=true->∀f∈fs,∃e,tb.ty f.type=some e
 | [],_,f,hf=>by cases hf
 | g::fs,h,f,hf=>by
  simp only [oX] at h;split at h
  ·rename_i e a;rcases List.mem_cons.1 hf with rfl | hf
   ·exact ⟨e,a⟩
   ·exact LH h f hf
  ·cases h
theorem TY (ok:tb.Ok P) {t:Nat} {parts:Array (Nat×Operand)} (y:o.op=.build t parts)
  (hv:mW ((lh s ch parts.toList).map λ_=> []) λ_=>match lh s ch parts.toList,tb.ty t with
  | some b,some e=>match e.aN with
   | .struct fs=>cond (oX tb fs.toList) (match pZ tb fs.toList (bg e.zero) b with
    | some c=>K (.v (.agg c.toArray))
    | none=>False) False
   | .array _ u=>match tb.ty u with
    | some g=>match mO g.size (bg e.zero) b with
     | some c=>K (.v (.agg c.toArray))
     | none=>False
    | none=>False
   | _=>False
  | _,_=>False):dP P tb o ch s h K:=by
 obtain ⟨_,_,a⟩:=FL hv;clear hv;split at a
 ·rename_i b e G m;have C:holds s ch->∀(β:Nat->Nat) (ρ:Operand->Value),(∀x∈o.op.operands,eg β s ρ x)->(parts.map λ(i,x)=>(i,ρ x)).toList=b:=by intro j β ρ k;have:=EE (β:=β) (ρ:=ρ) j G λx J=>k x (by simp [y,Op.operands];simpa using J);simpa using this
  split at a
  ·rename_i fs A;cases z:oX tb fs.toList with
   | false=>simp [z] at a
   | true=>
    simp only [z,cond_true] at a;split at a
    ·rename_i c r;refine jV _ a λj β ρ w k=> ?_;have l:=ax ok m w;rw [A] at l;have B:=bX ok m w;obtain ⟨pl,H,L,hp⟩:=KM ok (w:=w) fs.toList (LH z);have F:(fs.mapM λf=>(do pure (f.offset,<-Go.sizeOf f.type):Sem (Nat×Nat))).run P w=.ok pl.toArray w:=by rw [Array.mapM_eq_mapM_toList];simp only [Sem.run_map,H,Result.andThen_ok]
     have d:=H7 (tb:=tb) (fs:=fs.toList) (pl:=λ(i:Nat)=>pl[i]?) hp r;have p:(parts.map λ(i,x)=>(i,ρ x)).toList=b:=C j β ρ k;have q:(bg e.zero).toArray=e.zero.cells:=by apply Array.ext';simp [nq]
     rw [q] at d;simp only [execOp,y,Instr.build,Sem.run_bind,B,Result.andThen_ok,l,F,p];have D:(λ(i:Nat)=>pl.toArray[i]?)=λ(i:Nat)=>pl[i]?:=by funext i;simp
     rw [D,d];simp [LVal]
    ·exact a.elim
  ·rename_i n u A;split at a
   ·rename_i g E;split at a
    ·rename_i c r;refine jV _ a λj β ρ w k=> ?_;have l:=ax ok m w;rw [A] at l;have B:=bX ok m w;have I:=bP ok E w;have d:=EF r;have p:(parts.map λ(i,x)=>(i,ρ x)).toList=b:=C j β ρ k;have q:(bg e.zero).toArray=e.zero.cells:=by apply Array.ext';simp [nq]
     rw [q] at d;simp only [execOp,y,Instr.build,Sem.run_bind,B,Result.andThen_ok,l,I,p,d];simp [LVal]
    ·exact a.elim
   ·exact a.elim
  ·exact a.elim
 ·exact a.elim
end
section
variable {P:Program} {tb:Tb} {o:Oper} {ch:aS} {s:St} {h:Hp} {K:LV->Prop}
theorem zip (ok:tb.Ok P) {k:Nat} {e:Ty} {b:Bool} {v:Value} {w:World} (c:tb.ty k=some e) (a:qP e.aN=true):
  (Instr.checkKey b 10000 k v).run P w=.ok () w:=by
 have f:=ax ok c w;have key:∀n,(Instr.checkKey b (n+1) k v).run P w=.ok () w:=by intro n;unfold Instr.checkKey;simp only [Sem.run_bind,f,Result.andThen_ok];generalize e.aN=d at a;cases d<;>first | rfl | (simp [qP] at a)
 exact key 9999
theorem Ba (ok:tb.Ok P) {k:Nat} {e:Ty} {v:Value} {a:List MapEntry} {r:Option (Nat×Value)} {w:World} (b:tb.ty k=some e)
  (c:Instr.findNow e.aN v a 0=some r):(Instr.findKey k v a).run P w=.ok r w:=by
 simp only [Instr.findKey,Sem.run_bind,ax ok b,Result.andThen_ok,c,Sem.run_pure]
theorem Lx {r:Nat} {a:Array MapEntry} {ck:Nat} {w:World} (hb:w.heap[r]? =some (.map a ck)):(getObj r).run P w=.ok (.map a ck) w:=by simp [getObj,Sem.run,hb]
theorem xp (ok:tb.Ok P) {t k u:Nat} {e j q:Ty} {m:Option Nat} {b v:Value} {y l:Bool} {w:World} (x:tb.ty t=some e) (C:e.aN=.map k u)
  (d:tb.ty k=some j) (p:tb.ty u=some q) (n:qP j.aN=true) (B:Sub h w) (f:xE j.aN q.zero m b h v y):
  (Instr.lookup t (.map m) b l).run P w=.ok (if l then .tuple #[v,.bool y] else v) w:=by
 have g:=ax ok x w;rw [C] at g;obtain ⟨D,z,f⟩:=f;rcases z with ⟨rfl,rfl⟩ | ⟨r,ck,rfl,A⟩
 ·simp only [Instr.lookup,Sem.run_bind,g,Result.andThen_ok,Sem.run_pure,zip ok d n];rcases f with ⟨a,hv,c⟩ | ⟨i,a,c⟩
  ·simp only [Ba ok d a,Result.andThen_ok,Sem.run_bind,bX ok p,Sem.run_pure,hv,c]
  ·simp only [Ba ok d a,Result.andThen_ok,Sem.run_bind,Sem.run_pure,c]
 ·simp only [Instr.lookup,Sem.run_bind,g,Result.andThen_ok,Lx (B r _ A),Sem.run_pure,zip ok d n];rcases f with ⟨a,hv,c⟩ | ⟨i,a,c⟩
  ·simp only [Ba ok d a,Result.andThen_ok,Sem.run_bind,bX ok p,Sem.run_pure,hv,c]
  ·simp only [Ba ok d a,Result.andThen_ok,Sem.run_bind,Sem.run_pure,c]
theorem Rq (ok:tb.Ok P) {t:Nat} {x i:Operand} {l:Bool} (n:o.op=.lookup t x i l) (hv:gU (ev s ch x) λa=>gU (ev s ch i) λb=>match a,tb.ty t with
  | .map m,some e=>match e.aN with
   | .map k u=>match tb.ty k,tb.ty u with
    | some A,some p=>cond (qP A.aN) (kR (ee s ch) A.aN p.sh p.zero m b h λx y=>cond l (K (.v (.tuple #[p.sh.enc x,.bool y]))) (K (.v (p.sh.enc x))))
      (mj (ee s ch) P tb o.type (Instr.lookup t a b l) h K)
    | _,_=>False
   | _=>False
  | _,_=>False):dP P tb o ch s h K:=by
 obtain ⟨a,J,I⟩:=jB hv;clear hv;obtain ⟨b,L,hv⟩:=jB I;clear I;have B:holds s ch->∀(g:Nat->Nat) (d:Operand->Value),(∀x∈o.op.operands,eg g s d x)->∀(w q:World) (u:Value),(Instr.lookup t a b l).run P w=.ok u q->(execOp d o).run P w=.ok (.value u) q:=by intro c g d f w q u j;have N:=bx (f x (by simp [n,Op.operands])) c J;have M:=bx (f i (by simp [n,Op.operands])) c L;simp only [execOp,n,N,M,LVal,Sem.run_bind,j,Result.andThen_ok,Sem.run_pure]
 split at hv
 ·rename_i m e D;split at hv
  ·rename_i k u G;split at hv
   ·rename_i A p E H;cases r:qP A.aN with
    | false=>simp only [r,cond_false] at hv;exact rD (by simp_all [bZ]) hv λc g d f w q u j=>B c g d f w q u j
    | true=>
     simp only [r,cond_true] at hv;obtain ⟨y,z,j,F⟩:=hv;cases l with
     | true=>refine DT (by simp [bZ,n]) _ F λc g d w f C=>B c g d f w w _ ?_;rw [xp ok D G E H r C (ny j c)];rfl
     | false=>refine DT (by simp [bZ,n]) _ F λc g d w f C=>B c g d f w w _ ?_;rw [xp ok D G E H r C (ny j c)];rfl
   ·exact hv.elim
  ·exact hv.elim
 ·exact hv.elim
theorem Jk {k:IntKind} {w:World}:∀ {r:List Value} {x:Int} {v:Value},ri im k x r=some v->(r.foldlM Builtin.min2 (.int k x)).run P w=.ok v w
 | [],x,v,h=>by cases h;rfl
 | a::r,x,v,h=>by
  cases a<;>simp only [ri] at h<;>first
   |cases h
   | (simp only [List.foldlM_cons,Sem.run_bind,Builtin.min2,Sem.run_pure,Result.andThen_ok]
      exact Jk h)
theorem Jl {k:IntKind} {w:World}:∀ {r:List Value} {x:Int} {v:Value},ri oK k x r=some v->(r.foldlM Builtin.max2 (.int k x)).run P w=.ok v w
 | [],x,v,h=>by cases h;rfl
 | a::r,x,v,h=>by
  cases a<;>simp only [ri] at h<;>first
   |cases h
   | (simp only [List.foldlM_cons,Sem.run_bind,Builtin.max2,Sem.run_pure,Result.andThen_ok]
      exact Jl h)
theorem OC (ok:tb.Ok P) {b:Builtin} {G:Array Operand} {z:Array TypeId} (j:o.op=.call {callee:=.builtin b,args:=G,argTypes:=z})
  (hv:mW (dN s ch G.toList) λF=>NJ (ee s ch) P tb b F z.toList o.type h K):dP P tb o ch s h K:=by
 obtain ⟨F,J,a⟩:=FL hv;clear hv;have q:holds s ch->∀(β:Nat->Nat) (ρ:Operand->Value),(∀x∈o.op.operands,eg β s ρ x)->G.map ρ=F.toArray:=by intro d β ρ f;have:=yO (β:=β) (ρ:=ρ) d J λx L=>f x (by simp [j,Op.operands,Call.operands];simpa using L);grind
 unfold NJ at a;split at a
 ·rename_i x ty D;have E:z= #[ty]:=by apply Array.ext';simpa using D
  have t:holds s ch->∀(β:Nat->Nat) (ρ:Operand->Value),(∀x∈o.op.operands,eg β s ρ x)->∀(w m:World) (u:Value),(Builtin.len_ #[ty] o.type #[x]).run P w=.ok u m->(execOp ρ o).run P w=.ok (.value u) m:=by intro d β ρ f w m u C;have g:=q d β ρ f;simp only [execOp,j,resolve,invoke,builtin,Sem.run_bind,Sem.run_pure,Result.andThen_ok,g,E,C]
  unfold Gm at a;split at a
  ·rename_i e A;have l:=λw=>ax ok A w;split at a
   ·rename_i M i;refine jV _ a λd β ρ w f=>t d β ρ f w w _ ?_;simp [Builtin.len_,l,i,goInt,LVal]
   ·rename_i I p n c i;refine jV _ a λd β ρ w f=>t d β ρ f w w _ ?_;simp [Builtin.len_,l,i,goInt,LVal]
   ·rename_i y n I i;refine jV _ a λd β ρ w f=>t d β ρ f w w _ ?_;cases y<;>simp [Builtin.len_,l,i,goInt,LVal]
   ·exact rD (by simp_all [bZ]) a λd β ρ f w m u C=>t d β ρ f w m u C
  ·exact a.elim
 ·rename_i p n c ty D;have E:z= #[ty]:=by apply Array.ext';simpa using D
  split at a
  ·rename_i e A;split at a
   ·rename_i u l;refine jV _ a λd β ρ w f=> ?_;have g:=q d β ρ f;have H:=ax ok A w;rw [l] at H;simp [execOp,j,resolve,invoke,builtin,g,E,Builtin.cap_,H,goInt,LVal]
   ·exact a.elim
  ·exact a.elim
 ·rename_i k x r;split at a
  ·rename_i v B;refine jV _ a λd β ρ w f=> ?_;have g:=q d β ρ f;simp [execOp,j,resolve,invoke,builtin,g,Builtin.min_,Jk B,LVal]
  ·exact a.elim
 ·rename_i k x r;split at a
  ·rename_i v B;refine jV _ a λd β ρ w f=> ?_;have g:=q d β ρ f;simp [execOp,j,resolve,invoke,builtin,g,Builtin.max_,Jl B,LVal]
  ·exact a.elim
 ·exact a.elim
theorem KO (ok:tb.Ok P) (hv:vk P tb o ch s h K):dP P tb o ch s h K:=by
 obtain ⟨e,op,ty,pos,after,guard⟩:=o;cases op with
 | move x=>exact H0 (.inl rfl) hv
 | assign x=>exact H0 (.inr rfl) hv
 | pick x a b=>exact WJ rfl hv
 | extract x i=>exact Ox rfl hv
 | binOp op t x y p=>exact Zt ok rfl hv
 | unOp op t x=>exact aaN rfl hv
 | nilCheck x=>exact Zu rfl hv
 | load t x=>exact WL ok rfl hv
 | fieldAddr t x i=>exact aai ok rfl hv
 | field t x i=>exact TL ok rfl hv
 | indexAddr t x i=>exact aak ok rfl hv
 | index t x i=>exact TO ok rfl hv
 | slice t x j g l=>exact TR ok rfl hv
 | makeInterface t x=>exact TU ok rfl hv
 | makeFunc fn a b=>exact WQ rfl hv
 | convert a b x=>exact Oy ok rfl hv
 | build t n=>exact TY ok rfl hv
 | lookup t x i k=>exact Rq ok rfl hv
 | call c=>
  obtain ⟨callee,args,d⟩:=c;cases callee with
  | builtin b=>exact OC ok rfl hv
  | value f=>exact hv.elim
  | invoke r m=>exact hv.elim
 | _=>exact hv.elim
end
section
variable {P:Program} {tb:Tb} {o:Oper} {ch:aS} {s:St} {h:Hp} {K:LV->Hp->Prop}
theorem Zv (s:St) (t:Nat) (w:Bool) (r:aS):∃b,ee s ((t,w)::r)=some b/\(b=true↔holds s ((t,w)::r)):=by
 induction r generalizing t w with
 | nil=>
  simp only [ee];split
  ·rename_i b c a;refine ⟨_,rfl,λh=> ?_,λh=> ?_⟩
   ·intro p hp;simp at hp;subst hp;simp only [hb,a];grind
   ·have:=h (t,w) (List.mem_cons_self ..);simp only [hb,a] at this;grind
  ·refine ⟨false,rfl,λh=>(by cases h),λh=> ?_⟩;have:=h (t,w) (List.mem_cons_self ..);unfold hb at this;split at this
   ·rename_i f _ b c a;exact absurd a (f b c)
   ·cases this
 | cons p r k=>
  obtain ⟨l,m⟩:=p;obtain ⟨g,j,i⟩:=k l m;simp only [ee];split
  ·rename_i b c a;rw [j];refine ⟨_,rfl,λh=> ?_,λh=> ?_⟩
   ·have e:g=true/\b=w:=by grind
    intro q hq;rcases List.mem_cons.1 hq with rfl | hq
    ·simp only [hb,a,e.2]
    ·exact i.1 e.1 q hq
   ·have d:=h (t,w) (List.mem_cons_self ..);simp only [hb,a] at d;injection d with d
    have e:g=true:=i.2 λq hq=>h q (List.mem_cons_of_mem _ hq);grind
  ·refine ⟨false,rfl,λh=>(by cases h),λh=> ?_⟩;have:=h (t,w) (List.mem_cons_self ..);unfold hb at this;split at this
   ·rename_i f _ b c a;exact absurd a (f b c)
   ·cases this
def fJ (P:Program) (o:Oper) (ch:aS) (s:St) (h:Hp) (K:LV->Hp->Prop):Prop:=
 (holds s ch->∀(β:Nat->Nat) (a:Act) (w:World),(∀x∈o.op.operands,eg β s a.eval x)->Sub h w->∀(next:Act->World->Prop) (Q:Exit->Act->World->Prop),
  (∀x b c,K (.v x) b->Step h b w c->next (a.put o.dst x) c)->o.wp P a w next Q)/\
 (¬holds s ch->∃x,K (.v x) h)
theorem DY {d:Type} {A:(d->Hp->Prop)->Hp->Prop} {K:d->Hp->Prop} (a:dy (ee s ch) A K h):(holds s ch->A K h)/\(¬holds s ch->∃x,K x h):=by
 cases ch with
 | nil=>exact ⟨λ_=>a,λc=>absurd (bz s) c⟩
 | cons p r=>obtain ⟨t,w⟩:=p;obtain ⟨b,hb,f⟩:=Zv s t w r;rw [hb] at a;exact ⟨λe=>a.1 (f.2 e),λc=>a.2 (by grind)⟩
theorem tJ {e:Type} {A:(e->Hp->Prop)->Hp->Prop} {f:e->Value} (j:dy (ee s ch) A (λx b=>K (.v (f x)) b) h)
  (c:holds s ch->∀(β:Nat->Nat) (ρ:Operand->Value) (w:World),(∀x∈o.op.operands,eg β s ρ x)->Sub h w->∀(K:e->Hp->Prop),A K h->
   ∃x b d,(execOp ρ o).run P w=.ok (.value (f x)) d/\K x b/\Step h b w d):fJ P o ch s h K:=by
 obtain ⟨i,m⟩:=DY j;refine ⟨λhh β a w ho hs next Q g=> ?_,λg=> ?_⟩
 ·obtain ⟨x,b,d,c,k,l⟩:=c hh β a.eval w ho hs _ (i hh);unfold Oper.wp;rw [c,Oper.upon_value];exact g _ _ _ k l
 grind
theorem LI {h:Hp} {a b:Addr} {v:Value} (i:∃u,cQ h b=some u):∃u,cQ (h.put a v) b=some u:=by
 obtain ⟨u,j⟩:=i;obtain ⟨c,t,fr,hb,g,d⟩:=FF j;unfold Hp.put;split
 ·rename_i k l m f;unfold cQ Hp.set;by_cases e:b.block=a.block
  ·rw [e] at hb;rw [hb] at f;cases f;simp only [e,if_true,g,Option.isSome_none,Bool.false_eq_true,if_false];split
   ·exact ⟨u,d⟩
   ·rw [Array.getElem?_setIfInBounds];split
    ·rename_i n;have:b.off<c.size:=by
      rcases Nat.lt_or_ge b.off c.size with h | h
      ·exact h
      ·rw [Array.getElem?_eq_none h] at d;cases d
     rw [if_pos (by omega)];exact ⟨v,rfl⟩
    ·exact ⟨u,d⟩
  ·simp only [if_neg e,hb,g];exact ⟨u,by simpa using d⟩
 grind
theorem LJ (h:Hp) (a b:Addr) (v:Value):fZ (h.put a v) b=fZ h b:=by
 unfold Hp.put;split
 ·rename_i c e fr hb;unfold fZ Hp.set;grind
 ·rfl
theorem tz {h:Hp} {a:Addr}:∀ {n:Nat},pS h a n->∀i,i<n->(∃v,cQ h (a.add i)=some v)/\fZ h (a.add i)=false
 | 0,_,i,c=>by omega
 | n+1,b,i,c=>by
  rcases Nat.lt_or_ge i n with h | h
  ·exact tz b.1 i h
  ·have:i=n:=by omega
   subst this;exact b.2
theorem Fx {a:Addr}:∀(b:List Value) (i:Nat) (h:Hp) (w:World),Sub h w->hH b=true->
  (∀j,j<b.length->(∃v,cQ h (a.add (i+j))=some v)/\fZ h (a.add (i+j))=false)->
  ∃f,(storeCells a b i).run P w=.ok () f/\Step h (jA h a b i) w f
 | [],i,h,w,d,_,_=>⟨w,rfl,.refl d⟩
 | v::b,i,h,w,d,g,k=>by
  obtain ⟨⟨v0,e⟩,l⟩:=k 0 (by simp);rw [Nat.add_zero] at e l;have n:=HM (v:=v) d e;have m:hH b=true/\v.oneCell'=true:=by cases v<;>simp only [hH] at g<;>first | exact ⟨g,rfl⟩ | cases g
  obtain ⟨f,r,u⟩:=Fx b (i+1) (h.put (a.add i) v) (w.setCell (a.add i) v) n.sub m.1 (λj y=>by
   have:=k (j+1) (by simp;omega);rw [show i+1+j=i+(j+1) from by omega];exact ⟨LI this.1,by rw [LJ];exact this.2⟩)
  refine ⟨f,?_,n.trans u⟩;simp only [storeCells,Sem.run_bind];have x:(store (a.add i) v).run P w=.ok () (w.setCell (a.add i) v):=by
   have p:=vL d e;obtain ⟨c,t,fr,hb,_,_⟩:=FF e;have q:w.frozen? (a.add i)=false:=by rw [DP d hb];exact l
   have hv:=m.2;cases v<;>first
    | (simp [Value.oneCell'] at hv;done)
    |simp only [store,Sem.run,p,q,Bool.false_eq_true,if_false]
  rw [x];simp only [Result.andThen_ok];exact r
theorem T4 (ok:tb.Ok P) {t:Nat} {x y:Operand} (d:o.op=.store t x y) (hv:match ev s ch x,ev s ch y with
  | some (.v (.pointer (some a))),some (.v v)=>match ch,tb.ty t with
   | [],some e=>cond (Nat.beq (bg v).length e.size) (cond (hH (bg v)) (bW h a (bg v) λg=>K (.v (.tuple #[])) g) False) False
   | _,_=>False
  | _,_=>False):fJ P o ch s h K:=by
 split at hv
 ·rename_i a v k l;split at hv
  ·rename_i e i;cases b:Nat.beq (bg v).length e.size with
   | false=>simp [b] at hv
   | true=>
    cases f:hH (bg v) with
    | false=>grind
    | true=>
     simp only [b,f,cond_true] at hv;refine ⟨λhh β act w ho hs next Q c=> ?_,λc=>absurd (bz s) c⟩;have z:act.eval x=_:=bx (ho x (by simp [d,Op.operands])) hh k;have A:act.eval y=_:=bx (ho y (by simp [d,Op.operands])) hh l;obtain ⟨B,p,r⟩:=Fx (P:=P) (bg v) 0 h w hs f (λj m=>by simpa using tz hv.1 j m);have u:=bP ok i w;have n:v.cells.size=e.size:=by rw [<-Array.length_toList,nq];exact Nat.eq_of_beq_eq_true b
     unfold Oper.wp;have q:(execOp act.eval o).run P w=.ok .skip B:=by
      simp only [execOp,d,z,A,LVal,Instr.storeAt,Instr.sureAddr,Sem.run_bind,Sem.run_pure,Result.andThen_ok,storeVar,u,n,ne_eq,not_true,if_false,nq];have:(if False then (stuck "storeVar: the value has not the size of the variable" :Sem Unit) else pure PUnit.unit).run P w=.ok () w:=rfl
      first | rw [this] | skip
      simp only [p,Result.andThen_ok]
     rw [q,Oper.upon_skip];exact c _ _ _ hv.2 r
  ·exact hv.elim
 ·exact hv.elim
theorem sM {e:TypeId} {a:Array Value} {w:World}:(newRow e a).run P w=.ok ⟨w.heap.size,0,none⟩ {w with heap:=w.heap.push (.cells a e)}:=by simp [newRow]
theorem EG {a:List Value} {K:Addr->Hp->Prop} {t:Nat} {w:World} (e:Sub h w) (c:bc a K h):
  ∃b,K ⟨w.heap.size,0,none⟩ b/\Step h b w {w with heap:=w.heap.push (.cells a.toArray t)}:=by
 obtain ⟨d,f⟩:=Bf e (.cells a.toArray t);exact ⟨_,c _ t d,f⟩
theorem Rr {b:List Value} {K:Addr->Hp->Prop} {t:Nat} {w:World} (d:Sub h w) (a:xD t b K h):
  ∃c,K ⟨w.heap.size,0,none⟩ c/\Step h c w {w with heap:=w.heap.push (.cells b.toArray t)}:=by
 unfold xD at a;split at a
 ·obtain ⟨e,f⟩:=Bf d (.cells (List.toArray [.pointer none,.slice none 0 0]) t);exact ⟨_,a _ e,f⟩
 ·exact EG d a
theorem T6 (ok:tb.Ok P) {t:Nat} (j:o.op=.alloc t) (hv:match tb.ty t with
  | some e=>dy (ee s ch) (xD t (bg e.zero)) (λa b=>K (.v (.pointer (some a))) b) h
  | none=>False):fJ P o ch s h K:=by
 split at hv
 ·rename_i e d;refine tJ (f:=λa=>.pointer (some a)) hv λm p q w n k K g=> ?_;obtain ⟨b,i,l⟩:=Rr (t:=t) k g;refine ⟨_,b,_,?_,i,l⟩;have c:(bg e.zero).toArray=e.zero.cells:=by apply Array.ext';simp [nq]
  rw [c];simp [execOp,j,Instr.alloc,bX ok d,newVar,sM]
 ·exact hv.elim
theorem Zw {t:Nat} {x:Operand} (c:o.op=.box t x) (hv:gU (ev s ch x) λv=>dy (ee s ch) (bc (bg v)) (λa b=>K (.v (.pointer (some a))) b) h):
  fJ P o ch s h K:=by
 obtain ⟨v,e,n⟩:=jB hv;refine tJ (f:=λa=>.pointer (some a)) n λg q r w k l K i=> ?_;obtain ⟨b,j,m⟩:=EG (t:=t) l i;refine ⟨_,b,_,?_,j,m⟩;have p:=bx (k x (by simp [c,Op.operands])) g e;have d:(bg v).toArray=v.cells:=by apply Array.ext';simp [nq]
 rw [d];simp [execOp,c,p,LVal,Instr.box,newVar,sM]
theorem Ns {a:Type} (l:List a):∀n,(j9 l n).length=n*l.length
 | 0=>by simp [j9]
 | n+1=>by simp [j9,Ns l n,Nat.add_mul,Nat.add_comm]
theorem H9 (l:List Value):∀n i,i<n*l.length->(j9 l n)[i]? =l[i%l.length]?
 | 0,i,h=>by simp at h
 | n+1,i,h=>by
  simp only [j9];rcases Nat.lt_or_ge i l.length with hi | hi
  ·rw [List.getElem?_append_left hi,Nat.mod_eq_of_lt hi]
  ·rw [List.getElem?_append_right hi,H9 l n (i-l.length) (by grind)];congr 1;rw [<-Nat.mod_eq_sub_mod hi]
theorem DZ (z:List Value) (n size:Nat) (a:z.length=size):((Array.range (n*size)).map (λi=>z.toArray[i%z.toArray.size]!))=(j9 z n).toArray:=by
 apply Array.ext';apply List.ext_getElem?;intro i;rcases Nat.lt_or_ge i (n*size) with hi | hi
 ·have b:(j9 z n)[i]? =z[i%z.length]?:=H9 z n i (by rw [a];exact hi);have d:0<size:=by
   rcases Nat.eq_zero_or_pos size with h | h
   ·subst h;simp at hi
   ·exact h
  have c:i%z.length<z.length:=Nat.mod_lt _ (by omega);grind
 ·have b:(j9 z n).length<=i:=by rw [Ns,a];exact hi
  grind
theorem YC (ok:tb.Ok P) {t len:Nat} {parts:Array (Nat×Operand)} (n:o.op=.buildSlice t len parts) (hv:match lh s ch parts.toList,fY tb t with
  | some l,some e=>cond (Nat.ble (len*e.size) 16777216) (match mO e.size (j9 (bg e.zero) len) l with
   | some m=>dy (ee s ch) (bc m) (λa d=>K (.v (.slice (some a) len len)) d) h
   | none=>False) False
  | _,_=>False):fJ P o ch s h K:=by
 split at hv
 ·rename_i l e G A;obtain ⟨y,u,O,M,k⟩:=vy A;cases g:Nat.ble (len*e.size) 16777216 with
  | false=>simp [g] at hv
  | true=>
   simp only [g,cond_true] at hv;have R:=Nat.le_of_ble_eq_true g;split at hv
   ·rename_i m z;refine tJ (f:=λa=>.slice (some a) len len) hv λB β ρ w E I K C=> ?_;obtain ⟨d,D,J⟩:=EG (t:=u) I C;refine ⟨_,d,_,?_,D,J⟩;have F:(parts.map λ(i,x)=>(i,ρ x)).toList=l:=by have:=EE (β:=β) (ρ:=ρ) B G λx N=>E x (by simp [n,Op.operands];simpa using N);simpa using this
    have p:=ax ok O w;rw [M] at p;have L:=bP ok k w;have Q:=bX ok k w;have q:=ok.yj u e k;have j:=EF z;have r:e.zero.cells=(bg e.zero).toArray:=by apply Array.ext';simp [nq]
    simp only [execOp,n,Instr.buildSlice,Sem.run_bind,p,Result.andThen_ok,L,F];rw [if_neg (by omega)];by_cases b:len*e.size=0
    ·have H:j9 (bg e.zero) len=[]:=by apply List.length_eq_zero_iff.1;rw [Ns,q];exact b
     rw [H] at j;have c:(Array.map (λx=>(#[]:Array Value)[x%(#[]:Array Value).size]!) (Array.range (len*e.size)))=([]:List Value).toArray:=by rw [b];simp
     simp only [b,if_true,Sem.run_pure,Result.andThen_ok,Sem.run_bind];rw [b] at c;simp only [c,j,Sem.run_bind,sM,Result.andThen_ok,Sem.run_pure]
    ·have c:=DZ (bg e.zero) len e.size q;simp only [b,if_false,Sem.run_bind,Q,Result.andThen_ok,Sem.run_pure,r];simp only [c,j,Sem.run_bind,sM,Result.andThen_ok,Sem.run_pure]
   ·exact hv.elim
 ·exact hv.elim
end
section
variable {P:Program} {tb:Tb} {o:Oper} {ch:aS} {s:St} {h:Hp} {K:LV->Hp->Prop}
theorem yr {base:Option Addr} {n:Nat} {b:List Value} {w:World} (q:Sub h w) (p:nX h base n b) {m c:Nat} {size:Nat} (l:n=m*size):
  (Builtin.firstCells size m (.slice base m c)).run P w=.ok b.toArray w:=by
 obtain ⟨k,f⟩:=p;subst l;cases base with
 | none=>
  rcases f with g | ⟨a,d,_⟩
  ·have:b=[]:=List.length_eq_zero_iff.1 (by omega);subst this;rfl
  ·cases d
 | some a=>
  have e:∀j v,b[j]? =some v->w.cell? (a.add j)=some v:=by
   intro j v i;rcases f with g | ⟨r,d,e⟩
   ·grind
   ·cases d;exact vL q (e j v i)
  simp only [Builtin.firstCells];rw [<-k];exact zvw e
theorem J2 {a cap:Nat} (h:cap<a):Builtin.nextslicecap a cap<=2*a:=by
 unfold Builtin.nextslicecap;split
 ·omega
 ·split
  ·omega
  ·have key:∀r c,c<2*a->(c<a->256<=c)->Builtin.growBy a r c<=2*a:=by
    intro r
    induction r with
    | zero=>intro c d _;simp only [Builtin.growBy];omega
    | succ r e=>
     intro c d b;simp only [Builtin.growBy];split
     ·omega
     ·rename_i f;have:=b (by omega);exact e _ (by omega) (by omega)
   grind
theorem vr (z:List Value):∀n,fk z n=j9 z n
 | 0=>rfl
 | n+1=>by simp only [fk,List.replicate_succ,List.flatten_cons,j9];rw [<-vr z n,fk]
theorem FB (z:Array Value) (n:Nat):Builtin.zeroCells z n=(fk z.toList n).toArray:=by rw [vr];have:=DZ z.toList n z.size (by simp);unfold Builtin.zeroCells;rw [<-this]
theorem Dy :IntKind.i64.max=9223372036854775807:=by decide
theorem KQ (ok:tb.Ok P) {t I u rt n:Nat} {y e m:Ty} {l:Sl} {x:Value} {new:List Value} {K:Sl->Hp->Prop} {w:World}
  (hy:tb.ty t=some y) (hu:y.aN=.slice u) (z:tb.ty u=some e) (b2:tb.ty I=some m) (b7:∀k,m.aN≠ .int k)
  (b:Sub h w) (M:xP u e.size e.bytes (bg e.zero) l n new K h) (B:∀w:World,(Builtin.lenOf x).run P w=.ok n w)
  (D:∀w:World,Sub h w->(Builtin.firstCells e.size n x).run P w=.ok new.toArray w) (b8:new.length=n*e.size):
  ∃r p g,(Builtin.append_ #[t,I] rt #[.slice l.base l.len l.cap,x]).run P w=.ok (.slice r.base r.len r.cap) g/\K r p/\Step h p w g:=by
 obtain ⟨d,hold,⟨b4,b3⟩,X,U,R⟩:=M;have f:=λw=>ax ok hy w;have q:=λw=>ax ok b2 w;have v:=λw=>bP ok z w;have L:=λw=>bX ok z w;obtain ⟨i,S,_,T,_⟩:=ok.info u e z;have J:∀w,(typeInfo u).run P w=.ok i w:=λw=>by simp [typeInfo,S]
 have F:(match m.aN with | .int _=>true | _=>false)=false:=by simp
 simp only [hu] at f;by_cases A:l.len+n<=l.cap
 ·obtain ⟨E,G⟩:=U A;cases hb:l.base with
  | none=>
   refine ⟨_,_,w,?_,G,?_⟩
   ·simp [Builtin.append_,f,q,v,F,B,A,D w b,hb]
   ·simp only [fI,hb];exact .refl b
  | some a=>
   obtain ⟨g,Z,b0⟩:=Fx (P:=P) new 0 h w b X (a:=a.add (l.len*e.size)) (λj hj=>by
    have:=tz (E a hb) j (by omega);simpa using this)
   refine ⟨_,_,g,?_,G,?_⟩
   ·simp [Builtin.append_,f,q,v,F,B,A,D w b,hb,Z]
   ·simp only [fI,hb];exact b0
 ·have C:l.cap<l.len+n:=by omega
  have Q:=J2 C;have b5:¬(Builtin.nextslicecap (l.len+n) l.cap*e.bytes>281474976710656):=by
   have:Builtin.nextslicecap (l.len+n) l.cap*e.bytes<=2*(l.len+n)*e.bytes:=Nat.mul_le_mul_right _ Q;have p:2*(l.len+n)*e.bytes=2*((l.len+n)*e.bytes):=by rw [Nat.mul_assoc]
   omega
  have b6:¬(((l.len+n:Nat):Int)>IntKind.i64.max):=by rw [Dy];omega
  have b1:Sub h {w with drawn:=w.drawn+1}:=b;have Y:∀w:World,Sub h w->(Builtin.firstCells e.size l.len (.slice l.base l.len l.cap)).run P w=.ok d.toArray w:=λw b=>yr b hold rfl;let c:=(Question.appendCap (l.len+n) l.cap u).cut (w.tape w.drawn (.appendCap (l.len+n) l.cap u));have O:l.len+n<=c:=by simp only [c,Question.cut];omega
  have a8:(d.toArray++new.toArray++Builtin.zeroCells e.zero.cells (c-(l.len+n)))=(d++new++fk (bg e.zero) (c-(l.len+n))).toArray:=by rw [FB,nq];simp
  obtain ⟨W,E⟩:=Bf b1 (.cells (d++new++fk (bg e.zero) (c-(l.len+n))).toArray u);refine ⟨_,_,_,?_,R C c _ O W,E.drew⟩;have V:¬(9223372036854775807<(l.len:Int)+(n:Int)):=by omega
  have H:Sub h w.drew:=b;have N:¬(281474976710656<Builtin.nextslicecap (l.len+n) l.cap*i.bytes):=by rw [T];omega
  have a9:d.toArray++(new.toArray++Builtin.zeroCells e.zero.cells (c-(l.len+n)))=(d++(new++fk (bg e.zero) (c-(l.len+n)))).toArray:=by rw [<-Array.append_assoc,a8,List.append_assoc]
  simp [Builtin.append_,f,q,v,J,L,F,B,Nat.not_le.2 C,V,N,Question.forced,Y _ H,D _ H,sM];refine ⟨rfl,?_⟩;rw [<-a9];rfl
theorem yh (z:List Value) (n:Nat):(fk z n).length=n*z.length:=by simp [fk]
theorem OE (ok:tb.Ok P) {t Z u rt:Nat} {m:Int} {y e M:Ty} {l:Sl} {K:Sl->Hp->Prop} {w:World}
  (hy:tb.ty t=some y) (hu:y.aN=.slice u) (E:tb.ty u=some e) (b7:tb.ty Z=some M) (hint:M.aN=.int .i64)
  (z:Sub h w) (hm:0<=m) (ha:jG e.size e.bytes (bg e.zero) l m.toNat (fk (bg e.zero) m.toNat) K h):
  ∃r H G,(Builtin.append_ #[t,Z] rt #[.slice l.base l.len l.cap,.int .i64 m]).run P w=.ok (.slice r.base r.len r.cap) G/\K r H/\Step h H w G:=by
 obtain ⟨B,hold,⟨a9,a8⟩,U,Q,O⟩:=ha;have d:=λw=>ax ok hy w;have f:=λw=>ax ok b7 w;have g:=λw=>bP ok E w;have C:=λw=>bX ok E w;obtain ⟨i,hi,_,b1,_⟩:=ok.info u e E;have p:∀w,(typeInfo u).run P w=.ok i w:=λw=>by simp [typeInfo,hi]
 simp only [hu] at d;simp only [hint] at f;have L:=ok.yj u e E;have A:IntKind.i64.wrap m=m:=by
  (try unfold yw);unfold IntKind.wrap
  simp only [IntKind.signed,IntKind.bits];grind
 have c2:¬m<0:=by omega
 obtain ⟨n,rfl⟩:=Int.eq_ofNat_of_zero_le hm;have b2:((n:Int)).toNat=n:=by omega
 rw [b2] at a9 a8 U Q O;have c0:¬((n:Int)*(i.bytes:Int)>281474976710656):=by grind
 have v:¬(281474976710656<(n:Int)*(i.bytes:Int)):=by omega
 have b9:∀w:World,(if n*e.size=0 then (pure #[]:Sem (Array Value)) else do pure (Builtin.zeroCells (<-zeroValue u).cells n)).run P w=.ok (fk (bg e.zero) n).toArray w:=by
  intro w;by_cases b:n*e.size=0
  ·have:fk (bg e.zero) n=[]:=List.length_eq_zero_iff.1 (by rw [yh,L];exact b);rw [if_pos b,this];rfl
  ·rw [if_neg b];simp only [Sem.run_bind,C,Result.andThen_ok,Sem.run_pure];congr 1;rw [FB,nq]
 have q:∀w:World,(asInt (.int .i64 (n:Int))).run P w=.ok (n:Int) w:=λw=>rfl;have x:¬(n:Int)<0:=by omega
 have b8:Builtin.zeroCells e.zero.cells n=(fk (bg e.zero) n).toArray:=by rw [FB,nq]
 have X:n*e.size=0->fk (bg e.zero) n=[]:=λb=>List.length_eq_zero_iff.1 (by rw [yh,L];exact b);by_cases D:l.len+n<=l.cap
 ·obtain ⟨J,S⟩:=Q D;cases hb:l.base with
  | none=>
   refine ⟨_,_,w,?_,S,?_⟩
   ·by_cases b:n*e.size=0
    ·simp [Builtin.append_,d,f,g,p,q,A,x,v,D,b,hb]
    ·simp [Builtin.append_,d,f,g,p,C,q,A,x,v,D,b,hb]
   ·simp only [fI,hb];exact .refl z
  | some a=>
   obtain ⟨G,I,b5⟩:=Fx (P:=P) (fk (bg e.zero) n) 0 h w z U (a:=a.add (l.len*e.size)) (λj R=>by
    have:=tz (J a hb) j (by rw [yh,L] at R;exact R);simpa using this)
   refine ⟨_,_,G,?_,S,?_⟩
   ·by_cases b:n*e.size=0
    ·rw [X b] at I;simp [Builtin.append_,d,f,g,p,q,A,x,v,D,b,hb,I]
    ·simp [Builtin.append_,d,f,g,p,C,q,A,x,v,D,b,b8,hb,I]
   ·simp only [fI,hb];exact b5
 ·have F:l.cap<l.len+n:=by omega
  have b0:=J2 F;have c1:¬(Builtin.nextslicecap (l.len+n) l.cap*e.bytes>281474976710656):=by
   have:Builtin.nextslicecap (l.len+n) l.cap*e.bytes<=2*(l.len+n)*e.bytes:=Nat.mul_le_mul_right _ b0;have H:2*(l.len+n)*e.bytes=2*((l.len+n)*e.bytes):=by rw [Nat.mul_assoc]
   omega
  have b6:Sub h {w with drawn:=w.drawn+1}:=z;have V:∀w:World,Sub h w->(Builtin.firstCells e.size l.len (.slice l.base l.len l.cap)).run P w=.ok B.toArray w:=λw z=>yr z hold rfl;let c:=(Question.appendCap (l.len+n) l.cap u).cut (w.tape w.drawn (.appendCap (l.len+n) l.cap u));have hc:l.len+n<=c:=by simp only [c,Question.cut];omega
  have b3:(B.toArray++(fk (bg e.zero) n).toArray++Builtin.zeroCells e.zero.cells (c-(l.len+n)))=(B++fk (bg e.zero) n++fk (bg e.zero) (c-(l.len+n))).toArray:=by rw [FB,nq];simp
  obtain ⟨hn,J⟩:=Bf b6 (.cells (B++fk (bg e.zero) n++fk (bg e.zero) (c-(l.len+n))).toArray u);refine ⟨_,_,_,?_,O F c _ u hc hn,J.drew⟩;have T:¬(9223372036854775807<(l.len:Int)+(n:Int)):=by omega
  have W:Sub h w.drew:=z;have N:¬(281474976710656<Builtin.nextslicecap (l.len+n) l.cap*i.bytes):=by rw [b1];omega
  have b4:B.toArray++((fk (bg e.zero) n).toArray++Builtin.zeroCells e.zero.cells (c-(l.len+n)))=(B++(fk (bg e.zero) n++fk (bg e.zero) (c-(l.len+n)))).toArray:=by rw [<-Array.append_assoc,b3,List.append_assoc]
  have Y:∀k,Builtin.zeroCells e.zero.cells k=(fk (bg e.zero) k).toArray:=λk=>by rw [FB,nq]
  by_cases b:n*e.size=0
  ·simp only [X b] at b4 ⊢;simp [Builtin.append_,d,f,g,p,C,q,A,x,v,Nat.not_le.2 F,Dy,T,N,Question.forced,V _ W,b,sM,Y];exact ⟨rfl,rfl⟩
  ·simp [Builtin.append_,d,f,g,p,C,q,A,x,v,Nat.not_le.2 F,Dy,T,N,Question.forced,V _ W,b,sM,Y];exact ⟨rfl,rfl⟩
theorem Rt (ok:tb.Ok P) {O:Array Operand} {F:Array TypeId} (H:o.op=.call {callee:=.builtin .append,args:=O,argTypes:=F}) {N:List Value} (Y:dN s ch O.toList=some N)
  (hv:Bq tb (ee s ch) F.toList N h K):fJ P o ch s h K:=by
 have J:holds s ch->∀(β:Nat->Nat) (ρ:Operand->Value),(∀x∈o.op.operands,eg β s ρ x)->O.map ρ=N.toArray:=by intro d β ρ g;have:=yO (β:=β) (ρ:=ρ) d Y λx Z=>g x (by simp [H,Op.operands,Call.operands];simpa using Z);apply Array.ext';simpa using this
 unfold Bq at hv;split at hv
 ·rename_i p n c p' n' U t E I;have D:F= #[t,E]:=by grind
  split at hv
  ·rename_i e Q v W;obtain ⟨y,u,j,i,b⟩:=vy v;obtain ⟨y',u',a8,b1,a9⟩:=vy W;refine tJ (f:=λ(l:Sl)=>.slice l.base l.len l.cap) hv λd β ρ w g a K z=> ?_;obtain ⟨new,R,q⟩:=z;obtain ⟨r,k,G,B,A,C⟩:=KQ (P:=P) (rt:=o.type) (x:=.slice p' n' U) (l:=⟨p,n,c⟩) ok j i b a8 (by grind) a (q.u u) (λw=>rfl)
    (λw a=>yr a R rfl) R.1
   refine ⟨r,k,G,?_,A,C⟩;simp only [execOp,H,resolve,invoke,builtin,Sem.run_bind,Sem.run_pure,Result.andThen_ok,J d β ρ g,D,B]
  ·exact hv.elim
 ·rename_i p n c x t E I;have D:F= #[t,E]:=by apply Array.ext';simpa using I
  split at hv
  ·rename_i e Q v M;obtain ⟨y,u,j,i,b⟩:=vy v;split at hv
   ·rename_i T b0;cases L:Nat.beq e.bytes 1 with
    | false=>simp [L] at hv
    | true=>
     simp only [L,cond_true] at hv;have V:=Nat.eq_of_beq_eq_true L;have S:e.size=1:=(ok.leaf u e b (by rw [T];rfl)).1;refine tJ (f:=λ(l:Sl)=>.slice l.base l.len l.cap) hv λd β ρ w g a K z=> ?_;have hz:bg e.zero=[.int .u8 0]:=ok.A8 u e b T;have hid:Ds tb t=u:=by unfold Ds;rw [j];simp only [i]
     have q:xP u e.size e.bytes (bg e.zero) ⟨p,n,c⟩ x.size (pI x) K h:=by rw [S,V,hz,<-hid];exact z
     obtain ⟨r,k,G,B,A,C⟩:=KQ (P:=P) (rt:=o.type) (x:=.string x) (l:=⟨p,n,c⟩) ok j i b M (by grind) a q (λw=>rfl)
      (λw a=>by
       have:(x.extract 0 x.size)=x:=by simp
       simp only [Builtin.firstCells,this,Sem.run_pure];congr 1;apply Array.ext';simp [pI]) (by simp [pI,S])
     refine ⟨r,k,G,?_,A,C⟩;simp only [execOp,H,resolve,invoke,builtin,Sem.run_bind,Sem.run_pure,Result.andThen_ok,J d β ρ g,D,B]
   ·exact hv.elim
  ·exact hv.elim
 ·rename_i p n c m t E I;have D:F= #[t,E]:=by apply Array.ext';simpa using I
  split at hv
  ·rename_i e Q v M;obtain ⟨y,u,j,i,b⟩:=vy v;split at hv
   ·rename_i hint;refine tJ (f:=λ(l:Sl)=>.slice l.base l.len l.cap) hv λd β ρ w g a K z=> ?_;obtain ⟨X,q⟩:=z;obtain ⟨r,k,G,B,A,C⟩:=OE (P:=P) (rt:=o.type) (l:=⟨p,n,c⟩) ok j i b M hint a X q;refine ⟨r,k,G,?_,A,C⟩;simp only [execOp,H,resolve,invoke,builtin,Sem.run_bind,Sem.run_pure,Result.andThen_ok,J d β ρ g,D,B]
   ·exact hv.elim
  ·exact hv.elim
 ·exact hv.elim
theorem WS (ok:tb.Ok P) {B:Array Operand} {A:Array TypeId} (r:o.op=.call {callee:=.builtin .copy,args:=B,argTypes:=A}) {p g:Option Addr} {n b c d:Nat} {t L:Nat}
  (W:dN s ch B.toList=some [.slice p n c,.slice g b d]) (a8:A.toList=[t,L]) {e:Ty} (N:fY tb t=some e)
  (hv:dy (ee s ch) (fD e.size ⟨p,n,c⟩ ⟨g,b,d⟩) (λk M=>K (.v (.int .i64 k)) M) h):fJ P o ch s h K:=by
 have D:holds s ch->∀(β:Nat->Nat) (ρ:Operand->Value),(∀x∈o.op.operands,eg β s ρ x)->B.map ρ= #[.slice p n c,.slice g b d]:=by intro i β ρ l;have:=yO (β:=β) (ρ:=ρ) i W λx X=>l x (by simp [r,Op.operands,Call.operands];simpa using X);apply Array.ext';simpa using this
 have J:A= #[t,L]:=by grind
 obtain ⟨y,u,Y,V,O⟩:=vy N;refine tJ (f:=λ(k:Int)=>.int .i64 k) hv λi β ρ w l z K Q=> ?_;obtain ⟨new,H,R,T,F⟩:=Q;have q:=λw=>ax ok Y w;have C:=λw=>bP ok O w;rw [V] at q;have G:Nat.min b n=min b n:=rfl;have I:(Builtin.firstCells e.size (min b n) (.slice g b d)).run P w=.ok new.toArray w:=by have:=yr (P:=P) (m:=min b n) (c:=d) z H rfl;cases g<;>exact this
 cases hp:p with
 | none=>subst hp;refine ⟨_,_,w,?_,F,by simp only [fI];exact .refl z⟩;simp only [execOp,r,resolve,invoke,builtin,Sem.run_bind,Sem.run_pure,Result.andThen_ok,D i β ρ l,J];simp [Builtin.copy_,q,C,Builtin.lenOf,G,I,goInt]
 | some a=>
  subst hp;obtain ⟨Z,S,U⟩:=Fx (P:=P) (a:=a) new 0 h w z R (λj E=>by
   have:=tz (T a rfl) j (by rw [H.1] at E;exact E);simpa using this)
  refine ⟨_,_,Z,?_,F,by simp only [fI,show a.add 0=a from by simp [Addr.add]];exact U⟩;simp only [execOp,r,resolve,invoke,builtin,Sem.run_bind,Sem.run_pure,Result.andThen_ok,D i β ρ l,J];simp [Builtin.copy_,q,C,Builtin.lenOf,G,I,goInt,S]
theorem WV (ok:tb.Ok P) {t:Nat} {x y:Operand} (c:o.op=.makeSlice t x y) {m n:Int} {e:Ty} (E:ev s ch x=some (.v (.int .i64 m))) (F:ev s ch y=some (.v (.int .i64 n)))
  (D:fY tb t=some e) (hv:dy (ee s ch) (dA e.bytes (bg e.zero) m n) (λl r=>K (.v (.slice l.base l.len l.cap)) r) h):fJ P o ch s h K:=by
 obtain ⟨y',u,R,O,a⟩:=vy D;refine tJ (f:=λ(l:Sl)=>.slice l.base l.len l.cap) hv λg β p w j M K I=> ?_;obtain ⟨⟨h0,b1,a8,a9⟩,J⟩:=I;have Q:p x=_:=bx (j x (by simp [c,Op.operands])) g E;have S:p y=_:=bx (j y (by simp [c,Op.operands])) g F;have d:=ax ok R w;rw [O] at d;have z:=λw=>bP ok a w;have B:=λw=>bX ok a w;obtain ⟨i,G,_,H,_⟩:=ok.info u e a;have A:∀w,(typeInfo u).run P w=.ok i w:=λw=>by simp [typeInfo,G]
 have U:=ok.yj u e a;have V:IntKind.i64.wrap m=m:=by simp [IntKind.wrap,IntKind.bits,IntKind.signed];omega
 have W:IntKind.i64.wrap n=n:=by simp [IntKind.wrap,IntKind.bits,IntKind.signed];omega
 have b0:¬((e.bytes:Int)*n>281474976710656):=by grind
 obtain ⟨L,N⟩:=Bf M (.cells (fk (bg e.zero) n.toNat).toArray u);refine ⟨_,_,_,?_,J _ u L,N⟩;have X:¬n<0:=by omega
 have Y:¬m<0:=by omega
 have Z:¬m>n:=by omega
 have C:((n<0 || decide ((e.bytes:Int)*n>2^48)) || decide (m<0) || decide (m>n))=false:=by grind
 have b2:(if n.toNat*e.size=0 then (#[]:Array Value) else e.zero.cells)=e.zero.cells\/n.toNat*e.size=0:=by grind
 have k:(Array.range (n.toNat*e.size)).map (λi=>e.zero.cells[i%e.zero.cells.size]!)=(fk (bg e.zero) n.toNat).toArray:=by
  have:=DZ (bg e.zero) n.toNat e.size U;rw [vr,<-this];have q:e.zero.cells=(bg e.zero).toArray:=by apply Array.ext';simp [nq]
  rw [q]
 simp only [execOp,c,Q,S,LVal,Instr.makeSlice,Sem.run_bind,d,Result.andThen_ok,asInt,asIntOf,Sem.run_pure,A,V,W,H];have hb:((n<0 || decide ((e.bytes:Int)*n>2^48)) || decide (m<0) || decide (m>n))=false:=C;simp only [hb,Bool.false_eq_true,if_false,Sem.run_bind,run_askRoom,Result.andThen_ok,z];by_cases b:n.toNat*e.size=0
 ·have T:(fk (bg e.zero) n.toNat).toArray= #[]:=by rw [<-k,b];simp
  simp [b,T,sM];grind
 ·simp [b,B,sM,k]
end
section
variable {P:Program} {tb:Tb} {o:Oper} {ch:aS} {s:St} {h:Hp} {K:LV->Hp->Prop}
theorem OG {t:Nat} (d:o.op=.makeMap t none) (hv:dy (ee s ch) ER (λm a=>K (.v (.map m)) a) h):fJ P o ch s h K:=by refine tJ (f:=λm=>.map m) hv λi k l w j e K b=> ?_;obtain ⟨c,g⟩:=Bf e (.map #[] 0);refine ⟨_,_,_,?_,b _ c,g⟩;simp [execOp,d,Instr.makeMap]
theorem Ub (ok:tb.Ok P) {src d:Nat} {x:Operand} (m:o.op=.convert src d x) {b:ByteArray} {e g:Ty} (B:ev s ch x=some (.v (.string b))) (N:tb.ty src=some e)
  (A:fY tb d=some g) (z:e.aN=.string) (E:g.aN=.int .u8)
  (hv:dy (ee s ch) (KC b) (λl p=>K (.v (.slice l.base l.len l.cap)) p) h):fJ P o ch s h K:=by
 obtain ⟨y,u,T,Q,D⟩:=vy A;refine tJ (f:=λ(l:Sl)=>.slice l.base l.len l.cap) hv λF W V w J L K G=> ?_;have S:V x=_:=bx (J x (by simp [m,Op.operands])) F B;have i:=λw=>ax ok N w;have j:=λw=>ax ok T w;have k:=λw=>ax ok D w;rw [z] at i;rw [Q] at j;rw [E] at k;let c:=(Question.appendCap b.size 0 u).cut (w.tape w.drawn (.appendCap b.size 0 u));have r:b.size<=c:=by simp only [c,Question.cut];omega
 have R:Sub h w.drew:=L;let a:=pI b++fk [.int .u8 0] (c-b.size);have t:a.length=c:=by
  have:(pI b).length=b.size:=by simp [pI]
  simp only [a,List.length_append,vr,Ns,this];simp;omega
 obtain ⟨I,O⟩:=Bf R (.cells a.toArray u (c,c+1));refine ⟨_,_,_,?_,G c _ u r I,Step.drew O⟩;have q:(b.data.map λx=>(.int .u8 x.toNat:Value))++Array.replicate (c-b.size) (.int .u8 0)=a.toArray:=by
  apply Array.ext';simp only [a,pI,vr];have:∀n,List.replicate n (.int .u8 0:Value)=j9 [.int .u8 0] n:=by
   intro n;induction n with
   | zero=>rfl
   | succ n U=>simp only [List.replicate_succ,j9,U];rfl
  simp [this]
 simp only [execOp,m,S,LVal,convert,Sem.run_bind,i,j,k,Result.andThen_ok,Conv.stringToBytes,run_choose,Question.forced,Bool.false_eq_true,if_false,sM,Sem.run_pure];change _=Result.ok (Next.value (.slice (some ⟨w.heap.size,0,none⟩) b.size c)) _;rw [show ((Question.appendCap b.size 0 u).cut (w.tape w.drawn (.appendCap b.size 0 u)))=c from rfl,q];have M:({w.drew with heap:=w.heap.push (.cells a.toArray u)}:World).shape? w.heap.size=some (u,c):=by simp [World.shape?,t]
 have C:({w.drew with heap:=w.heap.push (.cells a.toArray u)}:World).freeze ⟨w.heap.size,c,none⟩ 1={w.drew with heap:=w.heap.push (.cells a.toArray u (c,c+1))}:=by simp only [World.freeze,Nat.one_ne_zero,if_false];congr 1;grind
 have H:(markStringish ⟨w.heap.size,0,none⟩).run P {w.drew with heap:=w.heap.push (.cells a.toArray u)}=.ok () {w.drew with heap:=w.heap.push (.cells a.toArray u (c,c+1))}:=by simp only [markStringish,Sem.run_bind,run_shape,Result.andThen_ok,M,run_freeze];rw [C]
 change (((markStringish ⟨w.heap.size,0,none⟩).run P {w.drew with heap:=w.heap.push (.cells a.toArray u)}).andThen _).andThen _=_;rw [H];rfl
theorem WX (ok:tb.Ok P) {src d:Nat} {x:Operand} (m:o.op=.convert src d x) {p:Option Addr} {n c:Nat} {e g:Ty} {T:Nat} (D:ev s ch x=some (.v (.slice p n c))) (N:tb.ty src=some e)
  (C:fY tb d=some g) (B:e.aN=.slice T) (G:g.aN=.int .u8) (L:src=d)
  (hv:dy (ee s ch) (zb p) (λ_ r=>K (.v (.slice p n c)) r) h):fJ P o ch s h K:=by
 obtain ⟨y,u,S,Q,F⟩:=vy C;refine tJ (f:=λ(_:Unit)=>.slice p n c) hv λH V U w J q K i=> ?_;have R:U x=_:=bx (J x (by simp [m,Op.operands])) H D;have j:=λw=>ax ok N w;have k:=λw=>ax ok S w;have l:=λw=>ax ok F w;rw [B] at j;rw [Q] at k;rw [G] at l;obtain ⟨b,off,a,t,rfl,hb,i⟩:=i;have O:=tw q hb (o:=.cells a t (a.size,a.size+1));refine ⟨_,_,_,?_,i,O⟩;have A:w.heap[b]? =some (.cells a t (0,0)):=q _ _ hb;have E:w.freeze ⟨b,a.size,none⟩ 1={w with heap:=w.heap.setIfInBounds b (.cells a t (a.size,a.size+1))}:=by simp only [World.freeze,Nat.one_ne_zero,if_false];congr 1;grind
 have I:(markStringish ⟨b,off,none⟩).run P w=.ok () {w with heap:=w.heap.setIfInBounds b (.cells a t (a.size,a.size+1))}:=by
  have M:w.shape? b=some (t,a.size):=by simp [World.shape?,A]
  simp only [markStringish,Sem.run_bind,run_shape,Result.andThen_ok,M,run_freeze];rw [E]
 have z:(src==d)=true:=by rw [L];simp
 simp only [execOp,m,R,LVal,convert,Sem.run_bind,j,k,l,Result.andThen_ok,z,I,Sem.run_pure]
end
section
variable {P:Program} {tb:Tb} {o:Oper} {ch:aS} {s:St} {h:Hp} {K:LV->Hp->Prop}
theorem EH {g:Type} {A:(g->Hp->Prop)->Hp->Prop} (k:dy (ee s ch) A (λ_ b=>K (.v (.tuple #[])) b) h)
  (c:holds s ch->∀(e:Nat->Nat) (i:Operand->Value) (w:World),(∀x∈o.op.operands,eg e s i x)->Sub h w->∀(K:g->Hp->Prop),A K h->
   ∃x b d,(execOp i o).run P w=.ok .skip d/\K x b/\Step h b w d):fJ P o ch s h K:=by
 obtain ⟨j,n⟩:=DY k;refine ⟨λhh e a w ho hs next Q f=> ?_,λf=> ?_⟩
 ·obtain ⟨x,b,d,c,l,m⟩:=c hh e a.eval w ho hs _ (j hh);unfold Oper.wp;rw [c,Oper.upon_skip];exact f _ _ _ l m
 grind
theorem xJ {sh:Shape} {c:Sem Value} (hv:Mt (ee s ch) P sh c K h)
  (q:holds s ch->∀(d:Nat->Nat) (b:Operand->Value),(∀x∈o.op.operands,eg d s b x)->∀(w a:World) (v:Value),c.run P w=.ok v a->(execOp b o).run P w=.ok (.value v) a):
  fJ P o ch s h K:=by
 refine tJ (f:=sh.enc) hv λg d b w k m K i=> ?_;obtain ⟨v,a,e,l,⟨x,p,j⟩,n⟩:=Lv c m i;subst p;exact ⟨x,e,a,q g d b k w a _ l,j,n⟩
theorem vP {t:Nat} {a:Sem Value} (hv:q9 (ee s ch) P tb t a K h)
  (d:holds s ch->∀(β:Nat->Nat) (c:Operand->Value),(∀x∈o.op.operands,eg β s c x)->∀(w b:World) (v:Value),a.run P w=.ok v b->(execOp c o).run P w=.ok (.value v) b):
  fJ P o ch s h K:=by
 unfold q9 at hv;split at hv
 ·exact xJ hv d
 ·exact hv.elim
theorem Ud {a b:ByteArray} (h:(a==b)=true):(b==a)=true:=by
 have:a=b:=by cases a;cases b;congr;exact eq_of_beq h
 grind
theorem Uf {c:TypeDesc} {a b:Value} {n:Nat} (d:qP c=true) (h:Instr.sameNow c a b=some true):Instr.sameBits n b a=true:=by
 cases c with
 | bool=>
  cases a<;>cases b<;>simp only [Instr.sameNow] at h<;>try (cases h;done)
  injection h with h
  have:∀x y:Bool,(x==y)=true->(y==x)=true:=by decide
  cases n<;>exact this _ _ h
 | int k=>
  cases a<;>cases b<;>simp only [Instr.sameNow] at h<;>try (cases h;done)
  split at h
  ·injection h with h
   have e:=eq_of_beq h;subst e;rename_i f;cases n<;>simp_all [Instr.sameBits]
  ·cases h
 | string=>
  cases a<;>cases b<;>simp only [Instr.sameNow] at h<;>try (cases h;done)
  injection h with h
  cases n<;>exact Ud h
 | _=>simp [qP] at d
theorem J3 {b:TypeDesc} {k:Value}:∀ {a:List MapEntry} {j i:Nat} {u:Value},Instr.findNow b k a j=some (some (i,u))->
  j<=i/\∃e,a[i-j]? =some e/\e.val=u/\Instr.sameNow b k e.key=some true
 | [],j,i,u,h=>by simp [Instr.findNow] at h
 | e::a,j,i,u,h=>by
  simp only [Instr.findNow] at h;split at h
  ·grind
  ·obtain ⟨f,c,d,l,g⟩:=J3 h;grind
  ·cases h
theorem xq {r:Nat} {o a:Obj} {w:World} (hb:w.heap[r]? =some a) (b:isCells a=false):(setObj r o).run P w=.ok () {w with heap:=w.heap.setIfInBounds r o}:=by simp only [setObj,Sem.run,hb];cases a<;>first | rfl | simp [isCells] at b
theorem Ru (ok:tb.Ok P) {t k u:Nat} {e p:Ty} {m:Option Nat} {b v:Value} {w:World} {K:Hp->Prop} (B:tb.ty t=some e) (H:e.aN=.map k u)
  (c:tb.ty k=some p) (f:qP p.aN=true) (j:Sub h w) (E:uh p.aN m b v K h):
  ∃q y,(Instr.mapUpdate t (.map m) b v).run P w=.ok () y/\K q/\Step h q w y:=by
 obtain ⟨r,A,ck,rfl,g,a⟩:=E;have l:=ax ok B w;rw [H] at l;have hb:=j r _ g;rcases a with ⟨a,d⟩ | ⟨i,x,a,d⟩
 ·refine ⟨_,_,?_,d,tw j g⟩;simp only [Instr.mapUpdate,Sem.run_bind,l,Result.andThen_ok,Lx hb,zip ok c f,Ba ok c a,xq hb rfl]
 ·refine ⟨_,_,?_,d,tw j g⟩;obtain ⟨_,z,C,_,G⟩:=J3 a;have D:A[i]? =some z:=by simpa using C
  have F:=Uf (n:=10000) f G;simp only [Instr.mapUpdate,Sem.run_bind,l,Result.andThen_ok,Lx hb,zip ok c f,Ba ok c a,D,Option.map_some,Option.getD_some,Instr.keyThatStays,F,if_true,Sem.run_pure,
   xq hb rfl]
theorem Rv (ok:tb.Ok P) {t k u rt:Nat} {t':TypeId} {e n:Ty} {m:Option Nat} {b:Value} {w:World} {K:Hp->Prop} (v:tb.ty t=some e) (z:e.aN=.map k u)
  (d:tb.ty k=some n) (j:qP n.aN=true) (f:Sub h w) (y:vO n.aN m b K h):
  ∃p q,(Builtin.delete_ #[t,t'] rt #[.map m,b]).run P w=.ok (.tuple #[]) q/\K p/\Step h p w q:=by
 have g:=ax ok v w;rw [z] at g;rcases y with ⟨rfl,a⟩ | ⟨r,A,ck,rfl,l,c⟩
 ·refine ⟨_,w,?_,a,.refl f⟩;simp [Builtin.delete_,g,zip ok d j]
 ·have hb:=f r _ l;rcases c with ⟨c,a⟩ | ⟨i,x,c,a⟩
  ·refine ⟨_,_,?_,a,tw f l⟩;simp [Builtin.delete_,g,Lx hb,zip ok d j,Ba ok d c,xq hb rfl]
  ·refine ⟨_,_,?_,a,tw f l⟩;simp [Builtin.delete_,g,Lx hb,zip ok d j,Ba ok d c,xq hb rfl]
theorem KS (ok:tb.Ok P) {t:Nat} {x y z:Operand} (n:o.op=.mapUpdate t x y z\/o.op=.insert t x y z)
  (hv:Cg P tb (ee s ch) t (ev s ch x) (ev s ch y) (ev s ch z) K h):fJ P o ch s h K:=by
 obtain ⟨a,G,D⟩:=jB hv;obtain ⟨b,H,E⟩:=jB D;obtain ⟨v,I,c⟩:=jB E;clear hv D E;have run:holds s ch->∀(j:Nat->Nat) (d:Operand->Value),(∀x∈o.op.operands,eg j s d x)->∀(w f:World),(Instr.mapUpdate t a b v).run P w=.ok () f->(execOp d o).run P w=.ok .skip f:=by intro g j d i w f l;have M:d x=_:=bx (i x (by rcases n with h | h<;>simp [h,Op.operands])) g G;have N:d y=_:=bx (i y (by rcases n with h | h<;>simp [h,Op.operands])) g H;have O:d z=_:=bx (i z (by rcases n with h | h<;>simp [h,Op.operands])) g I;rcases n with h | h<;>simp only [execOp,h,M,N,O,LVal,Sem.run_bind,l,Result.andThen_ok,Sem.run_pure]
 split at c
 ·rename_i m e F;split at c
  ·rename_i k u L;split at c
   ·rename_i Q J;cases A:qP Q.aN with
    | true=>simp only [A,cond_true] at c;refine EH c λg j d w i B K r=> ?_;obtain ⟨p,f,l,q,C⟩:=Ru ok F L J A B r;exact ⟨(),p,f,run g j d i w f l,q,C⟩
    | false=>simp only [A,cond_false] at c;refine EH c λg j d w i B K r=> ?_;obtain ⟨R,f,p,l,q,C⟩:=Lv _ B r;exact ⟨(),p,f,run g j d i w f l,q,C⟩
   ·exact c.elim
  ·exact c.elim
 ·exact c.elim
theorem Jm (ok:tb.Ok P) {f:Operand} {j:Array Operand} {k:Array TypeId} {g:FuncId} {first captured:Array Value} {b:List Value} {e:Ty} {a:Act} {w:World}
  (q:o.op=.call {callee:=.value f,args:=j,argTypes:=k}) (p:tb.call g=true) (n:a.eval f=.func (.func g) first captured) (u:j.map a.eval=b.toArray)
  {c:e.sh.T->Hp->Prop} (m:ae P g (first.toList++b++captured.toList) e.sh c h) (t:Sub h w) {next:Act->World->Prop} {Q:Exit->Act->World->Prop}
  (v:∀x d i,c x d->Step h d w i->next (a.put o.dst (e.sh.enc x)) i):o.wp P a w next Q:=by
 have r:(execOp a.eval o).run P w=.ok (.enter g (first.toList++b++captured.toList).toArray) w:=by
  have l:first++b.toArray++captured=(first.toList++b++captured.toList).toArray:=by apply Array.ext';simp
  simp only [execOp,q,resolve,Deferred.ofValue,n,u,Sem.run_bind,Sem.run_pure,Result.andThen_ok,invoke,l];exact ok.call g p _ w
 unfold Oper.wp;rw [r,Oper.upon_enter];refine (m w t).mono ?_;grind
theorem D0 {d:Type} {A:(d->Hp->Prop)->Hp->Prop} {f:d->Value} (j:dy (ee s ch) A (λx b=>K (.v (f x)) b) h)
  (l:holds s ch->∀(e:Nat->Nat) (a:Act) (w:World),(∀x∈o.op.operands,eg e s a.eval x)->Sub h w->∀(K:d->Hp->Prop),A K h->∀(next:Act->World->Prop) (Q:Exit->Act->World->Prop),
   (∀x b c,K x b->Step h b w c->next (a.put o.dst (f x)) c)->o.wp P a w next Q):fJ P o ch s h K:=by
 obtain ⟨i,n⟩:=DY j;refine ⟨λhh e a w ho hs next Q g=> ?_,λg=> ?_⟩
 ·exact l hh e a w ho hs _ (i hh) next Q λx b c k m=>g _ _ _ k m
 grind
theorem Rx (ok:tb.Ok P) (hv:wU P tb o ch s h K):fJ P o ch s h K:=by
 obtain ⟨b0,op,ty,pos,after,guard⟩:=o;cases op with
 | store t x y=>exact T4 ok rfl hv
 | alloc t=>exact T6 ok rfl hv
 | box t x=>exact Zw rfl hv
 | buildSlice t n ps=>exact YC ok rfl hv
 | makeMap t r=>
  cases r with
  | none=>exact OG rfl hv
  | some x=>exact hv.elim
 | makeSlice t x y=>
  obtain ⟨a,B,q⟩:=jB hv;obtain ⟨b,I,E⟩:=jB q;clear hv q;split at E
  ·rename_i m n e J;exact WV ok rfl B I J E
  ·exact E.elim
 | mapUpdate t x y z=>exact KS ok (.inl rfl) hv
 | insert t x y z=>exact KS ok (.inr rfl) hv
 | mapEntry t x y=>obtain ⟨a,B,q⟩:=jB hv;obtain ⟨b,I,E⟩:=jB q;refine vP E λi β ρ j w C v l=> ?_;have A:ρ x=_:=bx (j x (by simp [Op.operands])) i B;have O:ρ y=_:=bx (j y (by simp [Op.operands])) i I;simp only [execOp,A,O,LVal,Sem.run_bind,l,Result.andThen_ok,Sem.run_pure]
 | binOp op t x y g=>obtain ⟨a,B,q⟩:=jB hv;obtain ⟨b,I,E⟩:=jB q;refine vP E λi β ρ j w C v l=> ?_;have A:ρ x=_:=bx (j x (by simp [Op.operands])) i B;have O:ρ y=_:=bx (j y (by simp [Op.operands])) i I;have l:(do eqGuard op t x y a b;binOp op t a b:Sem Value).run P w=.ok v C:=l;simp only [execOp,A,O,LVal,Sem.run_bind] at l ⊢;rw [l];rfl
 | entryStore t x y z=>obtain ⟨a,B,q⟩:=jB hv;obtain ⟨b,I,E⟩:=jB q;obtain ⟨c,b2,b7⟩:=jB E;refine EH b7 λi β ρ w j F K D=> ?_;have A:ρ x=_:=bx (j x (by simp [Op.operands])) i B;have O:ρ y=_:=bx (j y (by simp [Op.operands])) i I;have hz:ρ z=_:=bx (j z (by simp [Op.operands])) i b2;obtain ⟨u',C,U,l,V,X⟩:=Lv _ F D;refine ⟨(),U,C,?_,V,X⟩;simp only [execOp,A,O,hz,LVal,Sem.run_bind,l,Result.andThen_ok,Sem.run_pure]
 | range t x=>obtain ⟨a,B,q⟩:=jB hv;refine xJ q λi β ρ j w C v l=> ?_;have A:ρ x=_:=bx (j x (by simp [Op.operands])) i B;simp only [execOp,A,LVal,Sem.run_bind,l,Result.andThen_ok,Sem.run_pure]
 | next x b=>obtain ⟨a,B,q⟩:=jB hv;refine xJ q λi β ρ j w C v l=> ?_;have A:ρ x=_:=bx (j x (by simp [Op.operands])) i B;simp only [execOp,A,LVal,Sem.run_bind,l,Result.andThen_ok,Sem.run_pure]
 | convert src b1 x=>
  obtain ⟨a,B,q⟩:=jB hv;clear hv;split at q
  ·rename_i b e g H J;split at q
   ·rename_i Y Z;exact Ub ok rfl B H J Y Z q
   ·exact q.elim
  ·rename_i p n c e g H J;split at q
   ·rename_i u0 Y Z;cases hb:Nat.beq src b1 with
    | false=>grind
    | true=>simp only [hb,cond_true] at q;exact WX ok rfl B H J Y Z (Nat.eq_of_beq_eq_true hb) q
   ·exact q.elim
  ·exact q.elim
 | call c=>
  obtain ⟨callee,S,T⟩:=c;cases callee with
  | invoke r m=>exact hv.elim
  | builtin b=>
   obtain ⟨R,N,d⟩:=FL hv;clear hv;have G:holds s ch->∀(β:Nat->Nat) (ρ:Operand->Value),(∀x∈(Op.call {callee:=.builtin b,args:=S,argTypes:=T}).operands,eg β s ρ x)->S.map ρ=R.toArray:=by intro i β ρ j;have:=yO (β:=β) (ρ:=ρ) i N λx A=>j x (by simp [Op.operands,Call.operands];simpa using A);grind
   cases b with
   | append=>exact Rt ok rfl N d
   | copy=>
    replace d:uJ _ _ _ _ _ _ _ _:=d;unfold uJ at d;split at d
    ·rename_i p n c p' n' c' t t' a9;split at d
     ·rename_i e J;exact WS ok rfl N a9 J d
     ·exact d.elim
    ·refine vP d λi β ρ j w C v l=> ?_;simp only [execOp,resolve,invoke,builtin,Sem.run_bind,Sem.run_pure,Result.andThen_ok,G i β ρ j,l]
   | delete=>
    replace d:Bu _ _ _ _ _ _ _ _:=d;unfold Bu at d;split at d
    ·rename_i m k t t' a9;have b6:T= #[t,t']:=by grind
     split at d
     ·rename_i e H;split at d
      ·rename_i kt u hu;split at d
       ·rename_i ke D;cases a8:qP ke.aN with
        | true=>simp only [a8,cond_true] at d;refine tJ (f:=λ_=>.tuple #[]) d λi β ρ w j F K b4=> ?_;obtain ⟨U,C,l,V,X⟩:=Rv (rt:=ty) (t':=t') ok H hu D a8 F b4;refine ⟨(),U,C,?_,V,X⟩;have ha:=G i β ρ j;simp only [execOp,resolve,invoke,builtin,Sem.run_bind,Sem.run_pure,Result.andThen_ok,ha,b6,l]
        | false=>simp only [a8,cond_false] at d;refine vP d λi β ρ j w C v l=> ?_;simp only [execOp,resolve,invoke,builtin,Sem.run_bind,Sem.run_pure,Result.andThen_ok,G i β ρ j,l]
       ·exact d.elim
      ·exact d.elim
     ·exact d.elim
    ·exact d.elim
   | clear=>refine vP d λi β ρ j w C v l=> ?_;simp only [execOp,resolve,invoke,builtin,Sem.run_bind,Sem.run_pure,Result.andThen_ok,G i β ρ j,l]
   | _=>exact d.elim
  | value f=>
   obtain ⟨R,N,d⟩:=FL hv;clear hv;have G:holds s ch->∀(β:Nat->Nat) (ρ:Operand->Value),(∀x∈(Op.call {callee:=.value f,args:=S,argTypes:=T}).operands,eg β s ρ x)->S.map ρ=R.toArray:=by intro i β ρ j;have:=yO (β:=β) (ρ:=ρ) i N λx A=>j x (by simp [Op.operands,Call.operands];right;simpa using A);grind
   cases f with
   | func g=>
    replace d:Du _ _ _ _ _ _ _ _:=d;unfold Du at d;split at d
    ·rename_i e H;cases M:tb.call g with
     | false=>
      simp only [M,cond_false] at d;split at d
      ·rename_i fx A;refine D0 (f:=e.sh.enc) d λi β a w j F K D next Q W=> ?_
       obtain ⟨u,C,U,l,⟨x,rfl,V⟩,X⟩:=Lv _ F D;have L:a.eval (.func g)=.func (.func g) #[] #[]:=rfl;have b5:(execOp a.eval {dst:=b0,op:=.call {callee:=.value (.func g),args:=S,argTypes:=T},type:=ty,pos:=pos,after:=after,guard:=guard}).run P w=.ok (.value (e.sh.enc x)) C:=by
        simp only [execOp,resolve,Deferred.ofValue,L,G i β a.eval j,Sem.run_bind,Sem.run_pure,Result.andThen_ok,invoke];have e1: #[]++R.toArray++ #[]=R.toArray:=by simp
        rw [e1,ok.ext g fx A _ w,l];rfl
       unfold Oper.wp;rw [b5,Oper.upon_value];grind
      ·exact d.elim
     | true=>
      simp only [M,cond_true] at d;refine D0 (f:=e.sh.enc) d λi β a w j F K D next Q W=> ?_
      have L:a.eval (.func g)=.func (.func g) #[] #[]:=rfl;exact Jm (first:= #[]) (captured:= #[]) ok rfl M L (G i β a.eval j) (by simpa using D) F W
    ·exact d.elim
   | tmp t=>
    replace d:Dv _ _ _ _ _ _ _ _:=d;unfold Dv at d;split at d
    ·rename_i e H;obtain ⟨fv,b3,E⟩:=jB d;refine D0 (f:=e.sh.enc) E λi β a w j F K D next Q W=> ?_
     obtain ⟨g,first,captured,rfl,M,D⟩:=D;have L:a.eval (.tmp t)=_:=bx (j (.tmp t) (by simp [Op.operands,Call.operands])) i b3;exact Jm ok rfl M L (G i β a.eval j) D F W
    ·exact d.elim
   | const v=>exact d.elim
   | global g=>exact d.elim
 | _=>exact hv.elim
theorem Ry {C:Ctx} {k:List Oper} (hv:Bv C k o ch s h K):fJ C.P o ch s h K:=by
 obtain ⟨m,op,ty,pos,after,guard⟩:=o;unfold Bv at hv;split at hv
 ·rename_i x d b n;subst b;obtain ⟨a,c,i⟩:=jB hv;refine xJ i λe q l f w p v g=> ?_;have j:l x=_:=bx (f x (by simp [Op.operands])) e c;simp only [execOp,j,LVal,Sem.run_bind,g,Result.andThen_ok,Sem.run_pure]
 ·exact hv.elim
end
theorem CN {s a:St} {c:aS} (b:∀p∈c,a.f p.1=s.f p.1):holds a c↔holds s c:=by
 have key:∀p∈c,hb a p.1=hb s p.1:=λp hp=>by unfold hb;rw [b p hp]
 exact ⟨λh p hp=>by rw [<-key p hp];exact h p hp,λh p hp=>by rw [key p hp];exact h p hp⟩
theorem ET (s:St) (d:Nat) (l:LV) (ch:aS):(s.put (some d) l ch).f d=some (l,ch):=by simp [St.put]
theorem nT {i j:Nat} (h:i≠j):Nat.beq i j=false:=by
 cases e:Nat.beq i j with
 | false=>rfl
 | true=>exact absurd (Nat.eq_of_beq_eq_true e) h
theorem rM (s:St) {d t:Nat} (l:LV) (ch:aS) (h:t≠d):(s.put (some d) l ch).f t=s.f t:=by simp [St.put,nT h]
theorem xQ (s:St) (k:Nat) (a:List Value):(s.fV k a).m k=some a:=by simp [St.fV]
theorem vU (s:St) {k j:Nat} (a:List Value) (h:j≠k):(s.fV k a).m j=s.m j:=by simp [St.fV,nT h]
theorem zwc {a:Act} {d:Nat} {v:Value} (h:d<a.tmps.size):(a.put (some d) v).eval (.tmp d)=v:=by simp [Act.put,Act.eval,h]
theorem FG {a:Act} {d t:Nat} {v:Value} (h:t≠d):(a.put (some d) v).eval (.tmp t)=a.eval (.tmp t):=by simp [Act.put,Act.eval,Array.getElem?_setIfInBounds_ne (Ne.symm h)]
structure RR (n:Nat) (Cur Liv D N:Nat->Prop) (β:Nat->Nat) (s:St) (a:Act) (h:Hp) (w:World):Prop where
 sz:a.tmps.size=n
 sub:Sub h w
 lt:∀t l c,s.f t=some (l,c)->t<n
 chain:∀t l c,s.f t=some (l,c)->∀p∈c,D p.1
 cur:∀t l c,s.f t=some (l,c)->Cur t->holds s c->a.eval (.tmp t)=LVal β l/\∀k o,(l=.box k o\/l=.dz k o)->Liv k
 aN:∀t l c,s.f t=some (l,c)->Cur t->¬holds s c->a.eval (.tmp t)=undef
 box:∀k cs,s.m k=some cs->Liv k->h (β k)=none/\∃ct,w.heap[β k]? =some (.cells cs.toArray ct (0,0))
 inj:∀k k',s.m k≠none->s.m k'≠none->Liv k->Liv k'->β k=β k'->k=k'
 kq:∀k,N k->s.m k=none
 jz:∀k,N k->∀t l c,s.f t=some (l,c)->holds s c->∀o,l≠ .box k o/\l≠ .dz k o
def live (s:St) (a:Nat->Prop) (k:Nat):Prop:=s.m k≠none/\a k
structure gm (l mm:List Nat) (lv:Nat->Prop) (β:Nat->Nat) (a:Act) (h:Hp) (w:World) (lv':Nat->Prop) (β':Nat->Nat) (a':Act) (h':Hp) (w':World):Prop where
 tmp:∀i,i∉l->a'.eval (.tmp i)=a.eval (.tmp i)
 beta:∀k,(k∉l\/k∉mm)->β' k=β k
 size:w.heap.size<=w'.heap.size
 wo:∀b,b<w.heap.size->h b=none->(∀k∈mm,lv k->β k≠b)->h' b=none
 bq:∀b,b<w.heap.size->h b=none->(∀k∈mm,lv k->β k≠b)->w'.heap[b]? =w.heap[b]?
 fresh:∀k,lv' k->(lv k/\β' k=β k)\/w.heap.size<=β' k
 os:w'.os=w.os
 tape:w'.tape=w.tape
 output:w'.output=w.output
 defers:a'.defers=a.defers
section
variable {n:Nat} {q Liv D N:Nat->Prop} {β:Nat->Nat} {s:St} {a:Act} {h:Hp} {w:World}
theorem gy {w:World} {b:Nat} {o:Obj} (h:w.heap[b]? =some o):b<w.heap.size:=by grind
theorem WZ (c:Sub h w) {b:Nat} (hb:w.heap.size<=b):h b=none:=by
 cases e:h b with
 | none=>rfl
 | some x=>exact absurd (c.lt e) (Nat.not_lt.2 hb)
theorem gm.refl (l mm:List Nat):gm l mm (live s Liv) β a h w (live s Liv) β a h w:=
 ⟨λ_ _=>rfl,λ_ _=>rfl,Nat.le_refl _,λ_ _ e _=>e,λ_ _ _ _=>rfl,λ_ e=>.inl ⟨e,rfl⟩,rfl,rfl,rfl,rfl⟩
theorem gm.trans {l e:List Nat} {lv lv1 m:Nat->Prop} {β β1 p:Nat->Nat} {a a1 a2:Act} {h h1 d:Hp} {w w1 o:World}
  (x:gm l e lv β a h w lv1 β1 a1 h1 w1) (y:gm l e lv1 β1 a1 h1 w1 m p a2 d o):gm l e lv β a h w m p a2 d o:=by
 have j:∀b,b<w.heap.size->(∀k∈e,lv k->β k≠b)->∀k∈e,lv1 k->β1 k≠b:=λb hb c k t r=>by
  rcases x.fresh k r with ⟨h1,d⟩ | h1
  ·rw [d];exact c k t h1
  omega
 refine ⟨λi g=>(y.tmp i g).trans (x.tmp i g),λk c=>(y.beta k c).trans (x.beta k c),Nat.le_trans x.size y.size,λb hb f c=> ?_,λb hb f c=> ?_,λk c=> ?_,
  y.os.trans x.os,y.tape.trans x.tape,y.output.trans x.output,y.defers.trans x.defers⟩
 ·exact y.wo b (Nat.lt_of_lt_of_le hb x.size) (x.wo b hb f c) (j b hb c)
 ·exact (y.bq b (Nat.lt_of_lt_of_le hb x.size) (x.wo b hb f c) (j b hb c)).trans (x.bq b hb f c)
 ·rcases y.fresh k c with ⟨h1,d⟩ | h1
  ·rw [d];exact x.fresh k h1
  ·exact .inr (Nat.le_trans x.size h1)
theorem gm.mono {l v l' mm':List Nat} {p t r u:Nat->Prop} {β z:Nat->Nat} {a a1:Act} {h d:Hp} {w y:World}
  (x:gm l v p β a h w t z a1 d y) (o:∀i∈l,i∈l') (j:∀i∈v,i∈mm') (hv:∀k,p k->r k) (B:∀k,u k->t k):gm l' mm' r β a h w u z a1 d y:=
 ⟨λi A=>x.tmp i λe=>A (o i e),λk c=>x.beta k (c.imp (λe f=>e (o k f)) (λe f=>e (j k f))),x.size,λb hb m c=>x.wo b hb m λk d g=>c k (j k d) (hv k g),λb hb m c=>x.bq b hb m λk d g=>c k (j k d) (hv k g),
  λk c=>(x.fresh k (B k c)).imp (λe=>⟨hv k e.1,e.2⟩) id,x.os,x.tape,x.output,x.defers⟩
theorem gm.step {l i:List Nat} {lv:Nat->Prop} {f:Hp} {g:World} (c:Step h f w g):gm l i lv β a h w lv β a f g:=
 ⟨λ_ _=>rfl,λ_ _=>rfl,c.size,λb hb d _=>(c.bq b hb d).2,λb hb d _=>(c.bq b hb d).1,λ_ e=>.inl ⟨e,rfl⟩,c.os,c.tape,c.output,rfl⟩
theorem gm.put {l mm:List Nat} {lv:Nat->Prop} {d:Option Nat} {v:Value} (b:∀i,d=some i->i∈l):gm l mm lv β a h w lv β (a.put d v) h w:=by
 refine ⟨λi c=> ?_,λ_ _=>rfl,Nat.le_refl _,λ_ _ e _=>e,λ_ _ _ _=>rfl,λ_ e=>.inl ⟨e,rfl⟩,rfl,rfl,rfl,by cases d<;>rfl⟩;cases d with
 | none=>rfl
 | some d=>exact FG λe=>c (e▸b d rfl)
theorem RR.step (b:RR n q Liv D N β s a h w) {c:Hp} {e:World} (d:Step h c w e):RR n q Liv D N β s a c e:=
 ⟨b.sz,d.sub,b.lt,b.chain,b.cur,b.aN,λk f l j=>by
  obtain ⟨g,m,i⟩:=b.box k f l j;obtain ⟨o,p⟩:=d.bq _ (gy i) g;grind,b.inj,b.kq,b.jz⟩
theorem RR.congr (b:RR n q Liv D N β s a h w) {m u r v:Nat->Prop} (j:∀t,m t↔q t) (g:∀t,u t↔Liv t) (z:∀t,D t->r t) (x:∀t,v t->N t):
  RR n m u r v β s a h w:=
 ⟨b.sz,b.sub,b.lt,λt l c e p hp=>z _ (b.chain t l c e p hp),λt l c e d f=>⟨(b.cur t l c e ((j t).1 d) f).1,λk o i=>(g k).2 ((b.cur t l c e ((j t).1 d) f).2 k o i)⟩,
  λt l c e d f=>b.aN t l c e ((j t).1 d) f,λk cs e d=>b.box k cs e ((g k).1 d),λk y e i d f=>b.inj k y e i ((g k).1 d) ((g y).1 f),
  λk e=>b.kq k (x k e),λk e=>b.jz k (x k e)⟩
theorem En {d:Nat} {l:LV} {ch c:aS} (b:¬D d) (f:∀p∈c,D p.1):holds (s.put (some d) l ch) c↔holds s c:=
 CN λp hp=>rM s l ch λe=>b (e▸f p hp)
theorem Cq (d:RR n q Liv D N β s a h w) {x:Operand} (i:∀t,x=.tmp t->q t):eg β s a.eval x:=by
 cases x with
 | tmp t=>exact λl c e b=>(d.cur t l c e (i t rfl) b).1
 | const v=>rfl
 | global g=>rfl
 | func f=>rfl
theorem Jn (b:RR n q Liv D N β s a h w) {o:Oper} (i:∀t,Operand.tmp t∈o.op.operands->q t):pe β s o w:=by
 intro t g k off c hf e d f;rcases hf with hf | hf
 ·exact (b.box k d f ((b.cur t _ c hf (i t g) e).2 k off (.inl rfl))).2
 ·exact (b.box k d f ((b.cur t _ c hf (i t g) e).2 k off (.inr rfl))).2
theorem RR.lift (g:RR n q Liv D N β s a h w) {d:Nat} {l:LV} {ch:aS} (y:d<n) (r:¬D d) (u:∀p∈ch,D p.1) (A:holds s ch->∀k o,(l=.box k o\/l=.dz k o)->¬N k):
  RR n (λt=>t≠d/\q t) Liv D N β (s.put (some d) l ch) a h w:=by
 have key:∀t b c,(s.put (some d) l ch).f t=some (b,c)->t=d/\b=l/\c=ch\/t≠d/\s.f t=some (b,c):=λt b c e=>by
  by_cases v:t=d
  ·subst v;rw [ET] at e;grind
  ·rw [rM _ _ _ v] at e;grind
 refine ⟨g.sz,g.sub,λt b c e=> ?_,λt b c e=> ?_,λt b c e m j=> ?_,λt b c e m j=> ?_,g.box,g.inj,g.kq,λk z t b c e j o=> ?_⟩
 ·rcases key t b c e with ⟨rfl,_,_⟩ | ⟨_,i⟩
  ·exact y
  ·exact g.lt t b c i
 ·rcases key t b c e with ⟨_,_,rfl⟩ | ⟨_,i⟩
  ·exact u
  ·exact g.chain t b c i
 ·rcases key t b c e with ⟨rfl,_,_⟩ | ⟨_,i⟩
  ·exact absurd rfl m.1
  ·exact g.cur t b c i m.2 ((En r (g.chain t b c i)).1 j)
 ·rcases key t b c e with ⟨rfl,_,_⟩ | ⟨_,i⟩
  ·exact absurd rfl m.1
  ·exact g.aN t b c i m.2 λx=>j ((En r (g.chain t b c i)).2 x)
 ·rcases key t b c e with ⟨_,rfl,rfl⟩ | ⟨_,i⟩
  ·have B:=(En r u).1 j;grind
  ·exact g.jz k z t b c i ((En r (g.chain t b c i)).1 j) o
theorem RR.exec (b:RR n q Liv D N β s a h w) {d:Nat} {l:LV} {ch:aS} {v:Value} (m:s.f d=some (l,ch)) (y:¬q d)
  (u:holds s ch->v=LVal β l/\∀k o,(l=.box k o\/l=.dz k o)->Liv k) (x:¬holds s ch->v=undef):
  RR n (λt=>t=d\/q t) Liv D N β s (a.put (some d) v) h w:=by
 have r:=b.lt d l ch m;refine ⟨by simpa [Act.put] using b.sz,b.sub,b.lt,b.chain,λt p c e j i=> ?_,λt p c e j i=> ?_,b.box,b.inj,b.kq,b.jz⟩
 ·by_cases g:t=d
  ·subst g;rw [m] at e;cases e;rw [zwc (by rw [b.sz];exact r)];exact u i
  ·rw [FG g];exact b.cur t p c e (j.resolve_left g) i
 ·by_cases g:t=d
  ·subst g;rw [m] at e;cases e;rw [zwc (by rw [b.sz];exact r)];exact x i
  ·rw [FG g];exact b.aN t p c e (j.resolve_left g) i
theorem RR.zj (b:RR n q Liv D N β s a h w) {d:Nat} (u:List Value) (I:d<n) (G:¬D d) (H:N d):
  RR n (λt=>t≠d/\q t) (λk=>k≠d/\Liv k) D (λk=>k≠d/\N k) β ((s.put (some d) (.box d 0) []).fV d u) a h w:=by
 have r:∀t,t≠d->((s.put (some d) (.box d 0) []).fV d u).f t=s.f t:=λt i=>rM s _ _ i;have J:((s.put (some d) (.box d 0) []).fV d u).f d=some (.box d 0,[]):=ET s _ _ _;have z:∀k,k≠d->((s.put (some d) (.box d 0) []).fV d u).m k=s.m k:=λk g=>vU _ _ g;have A:∀c:aS,(∀p∈c,D p.1)->(holds ((s.put (some d) (.box d 0) []).fV d u) c↔holds s c):=λc j=>CN λp hp=>r _ λe=>G (e▸j p hp);refine ⟨b.sz,b.sub,λt l c e=> ?_,λt l c e=> ?_,λt l c e j v=> ?_,λt l c e j v=> ?_,λk E e g=> ?_,λk C e x g B=> ?_,λk g=> ?_,λk g t l c e v o=> ?_⟩
 ·by_cases i:t=d
  ·exact i▸I
  ·exact b.lt t l c (by rwa [r t i] at e)
 ·by_cases i:t=d
  ·grind
  ·exact b.chain t l c (by rwa [r t i] at e)
 ·rw [r t j.1] at e;have y:=(A c (b.chain t l c e)).1 v;have:=b.cur t l c e j.2 y;refine ⟨this.1,λk o x=>⟨λF=> ?_,this.2 k o x⟩⟩;subst F;have:=b.jz k H t l c e y o;grind
 ·rw [r t j.1] at e;exact b.aN t l c e j.2 λy=>v ((A c (b.chain t l c e)).2 y)
 ·rw [z k g.1] at e;exact b.box k E e g.2
 ·rw [z k g.1] at e;rw [z C B.1] at x;exact b.inj k C e x g.2 B.2
 ·rw [z k g.1];exact b.kq k g.2
 ·by_cases i:t=d
  ·grind
  ·rw [r t i] at e;exact b.jz k g.2 t l c e ((A c (b.chain t l c e)).1 v) o
theorem LK (c:Sub h w) (o:Obj):Step h h w {w with heap:=w.heap.push o}:=by
 refine ⟨λb x e=> ?_,by simp,λb hb f=>⟨?_,f⟩,rfl,rfl,rfl⟩
 ·have d:=c.lt e;simp only [Array.getElem?_push,if_neg (Nat.ne_of_lt d)];exact c b x e
 grind
def uc (β:Nat->Nat) (d b:Nat):Nat->Nat:=λk=>if k=d then b else β k
theorem RR.zf (b:RR n q Liv D N β s a h w) {d:Nat} {C:List Value} (t:Nat) (G:s.f d=some (.box d 0,[])) (O:s.m d=some C) (R:¬q d) (H:¬Liv d):
  RR n (λt=>t=d\/q t) (λk=>k=d\/Liv k) D N (uc β d w.heap.size) s (a.put (some d) (.pointer (some ⟨w.heap.size,0,none⟩))) h {w with heap:=w.heap.push (.cells C.toArray t (0,0))}:=by
 have P:h w.heap.size=none:=WZ b.sub (Nat.le_refl _);have J:∀k,s.m k≠none->Liv k->β k<w.heap.size:=λk i M=>by obtain ⟨E,e⟩:=Option.ne_none_iff_exists'.1 i;obtain ⟨_,Q,K⟩:=b.box k E e M;exact gy K
 have b:=b.step (LK b.sub (.cells C.toArray t (0,0)));have L:=b.lt d _ _ G;have p:∀k,k≠d->uc β d w.heap.size k=β k:=λk i=>by simp [uc,i]
 refine ⟨by simpa [Act.put] using b.sz,b.sub,b.lt,b.chain,λz B c e F A=> ?_,λz B c e F A=> ?_,λk E e i=> ?_,λk u e y i I r=> ?_,b.kq,b.jz⟩
 ·by_cases l:z=d
  ·subst l;rw [G] at e;cases e;rw [zwc (by rw [b.sz];exact L)];refine ⟨by simp [LVal,uc],λk o y=>.inl ?_⟩;grind
  ·rw [FG l];have:=b.cur z B c e (F.resolve_left l) A;refine ⟨?_,λk o y=>.inr (this.2 k o y)⟩;rw [this.1];cases B with
   | v x=>rfl
   | box k o=>have i:k≠d:=λg=>H (g▸this.2 k o (.inl rfl));simp [LVal,p k i]
   | dz k o=>have i:k≠d:=λg=>H (g▸this.2 k o (.inr rfl));simp [LVal,p k i]
 ·by_cases l:z=d
  ·subst l;rw [G] at e;cases e;exact absurd (bz s) A
  ·rw [FG l];exact b.aN z B c e (F.resolve_left l) A
 ·by_cases g:k=d
  ·subst g;rw [O] at e;cases e;refine ⟨?_,t,?_⟩
   ·simpa [uc] using P
   ·simp [uc]
  ·rw [p k g];exact b.box k E e (i.resolve_left g)
 ·by_cases g:k=d
  ·by_cases j:u=d
   ·rw [g,j]
   ·rw [p u j,g] at r;have:=J u y (I.resolve_left j);simp only [uc,if_true] at r;omega
  ·by_cases j:u=d
   ·rw [p k g,j] at r;have:=J k e (i.resolve_left g);simp only [uc,if_true] at r;omega
   ·rw [p k g,p u j] at r;exact b.inj k u e y (i.resolve_left g) (I.resolve_left j) r
theorem Gz {l mm:List Nat} {d:Nat} {g:List Value} (t:Nat) (r:Sub h w) (v:s.m d=some g) (u:¬Liv d) (o:d∈l) (x:d∈mm):
  gm l mm (live s Liv) β a h w (live s λk=>k=d\/Liv k) (uc β d w.heap.size) (a.put (some d) (.pointer (some ⟨w.heap.size,0,none⟩))) h {w with heap:=w.heap.push (.cells g.toArray t (0,0))}:=by
 refine ⟨λi j=>FG λe=>j (e▸o),λk f=> ?_,by simp,λ_ _ e _=>e,λb hb p _=>((LK r _).bq b hb p).1,λk f=> ?_,rfl,rfl,rfl,rfl⟩
 ·have:k≠d:=λe=>by grind
  simp [uc,this]
 ·by_cases c:k=d
  ·subst c;exact .inr (by simp [uc])
  ·exact .inl ⟨⟨f.1,f.2.resolve_left c⟩,by simp [uc,c]⟩
theorem xS (b:Nat) (d:Nat):∀(new:List Value) (h:Hp) (i off:Nat) (c:List Value),off+i+new.length<=c.length->h b=some (.cells c.toArray d (0,0))->
  (jA h ⟨b,off,none⟩ new i) b=some (.cells (j7 c (off+i) new).toArray d (0,0))/\∀f,f≠b->(jA h ⟨b,off,none⟩ new i) f=h f
 | [],h,i,off,c,g,e=>by refine ⟨?_,λ_ _=>rfl⟩;rw [yQ _ _ _ (by simpa using g)];simpa [jA] using e
 | v::new,h,i,off,c,g,e=>by
  simp at g;have l:(h.put ((⟨b,off,none⟩:Addr).add i) v)=h.set b (.cells (c.set (off+i) v).toArray d (0,0)):=by rw [jC];unfold Hp.put;grind
  have m:(h.set b (.cells (c.set (off+i) v).toArray d (0,0))) b=some (.cells (c.set (off+i) v).toArray d (0,0)):=by simp [Hp.set]
  obtain ⟨o,p⟩:=xS b d new _ (i+1) off (c.set (off+i) v) (by simp;omega) m;simp only [jA,l];refine ⟨?_,λf k=> ?_⟩
  ·rw [o,yQ _ _ _ (by simp;omega),yQ _ _ _ (by simp;omega)];congr 3;apply List.ext_getElem?;intro j;simp only [List.getElem?_append,List.length_append,List.length_take,List.length_set,List.length_cons,List.getElem?_take,List.getElem?_drop,List.getElem?_set];grind
  ·rw [p f k];simp [Hp.set,k]
theorem ab1 {P:Program} {b k off:Nat} {d new:List Value} (z:Sub h w) (hb:w.heap[b]? =some (.cells d.toArray k (0,0))) (F:h b=none) (x:hH new=true) (E:off+new.length<=d.length):
  ∃c,(storeCells ⟨b,off,none⟩ new 0).run P w=.ok () c/\c.heap[b]? =some (.cells (j7 d off new).toArray k (0,0))/\(∀f,f<w.heap.size->f≠b->h f=none->c.heap[f]? =w.heap[f]?)/\
   Sub h c/\w.heap.size<=c.heap.size/\c.os=w.os/\c.tape=w.tape/\c.output=w.output:=by
 have A:Sub (h.set b (.cells d.toArray k (0,0))) w:=by
  intro i o e;unfold Hp.set at e;by_cases l:i=b
  ·grind
  ·simp [l] at e;exact z i o e
 have m:(h.set b (.cells d.toArray k (0,0))) b=some (.cells d.toArray k (0,0)):=by simp [Hp.set]
 obtain ⟨c,y,g⟩:=Fx (P:=P) (a:=⟨b,off,none⟩) new 0 _ w A x (λj C=>by
  rw [jC];refine ⟨⟨d[off+(0+j)]'(by omega),?_⟩,?_⟩
  ·simp only [cQ,m];simp
  ·simp only [fZ,m];simp)
 obtain ⟨p,r⟩:=xS b k new _ 0 off d (by omega) m;refine ⟨c,y,g.sub _ _ p,λf t v u=>(g.bq f t (by simp [Hp.set,v,u])).1,λi o e=>g.sub i o ?_,g.size,g.os,g.tape,g.output⟩;have l:i≠b:=λB=>by grind
 rw [r i l];simp [Hp.set,l,e]
theorem RR.BT (b:RR n q Liv D N β s a h w) {k l:Nat} {i j:List Value} {g:World} (v:s.m k=some i) (r:Liv k)
  (hb:g.heap[β k]? =some (.cells j.toArray l (0,0))) (F:∀f,f<w.heap.size->f≠β k->h f=none->g.heap[f]? =w.heap[f]?) (G:Sub h g):
  RR n q Liv D N β (s.fV k j) a h g:=by
 refine ⟨b.sz,G,b.lt,b.chain,b.cur,b.aN,λd z e u=> ?_,λx y C E=>b.inj x y ?_ ?_,λd t=> ?_,b.jz⟩
 ·by_cases c:d=k
  ·subst c;rw [xQ] at e;cases e;exact ⟨(b.box d i v r).1,l,hb⟩
  ·rw [vU _ _ c] at e;obtain ⟨o,A,p⟩:=b.box d z e u;refine ⟨o,A,?_⟩;rw [F _ (gy p) (λB=>c (b.inj d k (by simp [e]) (by simp [v]) u r B)) o];exact p
 ·intro e;by_cases c:x=k
  ·grind
  ·exact C (by rw [vU _ _ c];exact e)
 ·intro e;by_cases c:y=k
  ·grind
  ·exact E (by rw [vU _ _ c];exact e)
 ·by_cases c:d=k
  ·have:=b.kq d t;grind
  ·rw [vU _ _ c];exact b.kq d t
end
section
variable {n:Nat} {g Liv D N:Nat->Prop} {β:Nat->Nat} {s:St} {a:Act} {h:Hp} {w:World}
theorem RR.fI (j:RR n g Liv D N β s a h w) {dst:Option Nat} {l:LV} {ch:aS} {v:Value} (q:∀d,dst=some d->d<n/\¬D d) (f:∀p∈ch,D p.1)
  (i:holds s ch->v=LVal β l/\∀k o,(l=.box k o\/l=.dz k o)->Liv k/\¬N k) (m:¬holds s ch->v=undef):
  RR n (λt=>dst=some t\/g t) Liv D N β (s.put dst l ch) (a.put dst v) h w:=by
 cases dst with
 | none=>exact j.congr (λt=>by simp) (λ_=>.rfl) (λ_ e=>e) (λ_ e=>e)
 | some d=>
  obtain ⟨r,c⟩:=q d rfl;have u:=(j.lift r c f λb k o e=>(((i b).2 k o e).2)).exec (v:=v) (ET s d l ch) (λe=>e.1 rfl)
   (λb=>⟨(i ((En c f).1 b)).1,λk o e=>((i ((En c f).1 b)).2 k o e).1⟩) (λb=>m λe=>b ((En c f).2 e))
  grind
theorem Jo (v:RR n g Liv D N β s a h w) {c:aS} {k:List Oper} {m:Nat} {o:Oper} (e:pd k m o=some c) (f:sO s c=true)
  (z:∀j b p d,o.guard=some (j,b)->nth k j=some p->p.dst=some d->D d):∀p∈c,D p.1:=by
 cases m with
 | zero=>simp [pd] at e
 | succ m=>
  simp only [pd] at e;split at e
  ·cases e;simp
  ·rename_i j b A;split at e
   ·rename_i p hp;split at e
    ·rename_i d l y x;cases e;simp only [sO] at f;split at f
     ·rename_i t r u;cases i:nJ r l with
      | false=>simp [i] at f
      | true=>
       have:=yJ i;subst this;intro q hq;rcases List.mem_cons.1 hq with rfl | hq
       ·grind
       ·exact v.chain d _ _ u q hq
     ·cases f
    ·cases e
   ·cases e
theorem KT (r:RR n g Liv D N β s a h w) {ch:aS} {ops:Array Oper} {m:Nat} {o:Oper} (c:pd ops.toList m o=some ch) (i:sO s ch=true)
  (B:∀j b p d,o.guard=some (j,b)->nth ops.toList j=some p->p.dst=some d->g d):Region.wanted o (yielded ops a.tmps)=true↔holds s ch:=by
 cases m with
 | zero=>simp [pd] at c
 | succ m=>
  simp only [pd] at c;split at c
  ·rename_i k;cases c;simp [Region.wanted,k,bz]
  ·rename_i j b k;split at c
   ·rename_i p hp;split at c
    ·rename_i d A y F;cases c;simp only [sO] at i;split at i
     ·rename_i t u f;cases v:nJ u A with
      | false=>simp [v] at i
      | true=>
       have:=yJ v;subst this;have x:=B j b p d k hp y;have z:d<a.tmps.size:=by rw [r.sz];exact r.lt d _ _ f
       have C:ops[j]? =some p:=by rw [ma] at hp;simpa using hp
       have E:yielded ops a.tmps j=match a.eval (.tmp d) with | .bool b=>some b | _=>none:=by unfold yielded;simp only [C,Option.bind_some,y,Act.eval];have:a.tmps[d]? =some (a.tmps[d]'z):=Array.getElem?_eq_getElem z;simp only [this,Array.getD_eq_getD_getElem?,Option.getD_some];grind
       simp only [Region.wanted,k,E];by_cases l:holds s u
       ·have:=(r.cur d _ _ f x l).1;rw [this];simp only [LVal];constructor
        ·intro e;have e:t=b:=by simpa using e
         subst e;intro q hq;rcases List.mem_cons.1 hq with rfl | hq
         ·simp [hb,f]
         ·exact l q hq
        ·intro e;have:=e (d,b) (List.mem_cons_self ..);simp only [hb,f] at this;simpa using this
       ·have:=r.aN d _ _ f x l;rw [this];simp only [undef];refine ⟨λe=>by simp at e,λe=>absurd (λq hq=>e q (List.mem_cons_of_mem _ hq)) l⟩
     ·cases i
    ·cases c
   ·cases c
def cd (aK:List Nat) (o:Oper) (k:Nat):Prop:=ly aK o=true/\o.dst=some k
structure uz (C:Ctx) (l mok:List Nat) (n:Nat) (g Liv D N:Nat->Prop) (o:Oper) (β:Nat->Nat) (s:St) (a:Act) (h:Hp) (w:World) (β':Nat->Nat) (s':St) (a':Act) (h':Hp) (w':World):Prop where
 rr:RR n (λt=>o.dst=some t\/g t) (λk=>cd C.aK o k\/Liv k) D (λk=>¬cd C.aK o k/\N k) β' s' a' h' w'
 vd:gm l mok (live s Liv) β a h w (live s' λk=>cd C.aK o k\/Liv k) β' a' h' w'
 f:∀t,o.dst≠some t->s'.f t=s.f t
 m:∀k,s'.m k=s.m k\/cd C.aK o k\/(uH o s k=true/\isVal C.tb o=false/\s.m k≠none/\Liv k)
 hv:isVal C.tb o=true->h'=h
 hp:ly C.aK o=true->h'=h
theorem EI {C:Ctx} {o:Oper} (h:ly C.aK o=false) (k:Nat):¬cd C.aK o k:=λe=>by have:=e.1;grind
theorem Ic {C:Ctx} {l p:List Nat} {o:Oper} {b:St} {d:Act} {c:Hp} {i:World} (hp:ly C.aK o=false)
  (rr:RR n (λt=>o.dst=some t\/g t) Liv D N β b d c i) (vd:gm l p (live s Liv) β a h w (live b Liv) β d c i)
  (f:∀t,o.dst≠some t->b.f t=s.f t) (m:∀k,b.m k=s.m k\/(uH o s k=true/\isVal C.tb o=false/\s.m k≠none/\Liv k)) (hv:isVal C.tb o=true->c=h):
  uz C l p n g Liv D N o β s a h w β b d c i:=by
 have j:∀k,(cd C.aK o k\/Liv k)↔Liv k:=λk=>⟨λe=>e.resolve_left (EI hp k),.inr⟩;refine ⟨rr.congr (λ_=>.rfl) j (λ_ e=>e) (λ_ e=>e.2),vd.mono (λ_ e=>e) (λ_ e=>e) (λ_ e=>e) (λk e=>⟨e.1,(j k).1 e.2⟩),f,λk=>(m k).imp id .inr,hv,λe=>by grind⟩
theorem u7 (s:St) (d:Option Nat) (l:LV) (ch:aS) (t:Nat) (h:d≠some t):(s.put d l ch).f t=s.f t:=by
 cases d with
 | none=>rfl
 | some d=>exact rM s l ch λe=>h (by rw [e])
theorem lW (s:St) (d:Option Nat) (l:LV) (ch:aS):(s.put d l ch).m=s.m:=by cases d<;>rfl
theorem Nj {C:Ctx} {o:Oper} (h:isVal C.tb o=true):ly C.aK o=false:=by obtain ⟨b,op,ty,pos,after,guard⟩:=o;cases op<;>first | rfl | (simp [isVal] at h;done) | (cases b<;>simp [isVal,ly] at h ⊢)
theorem Jp (f:RR n g Liv D N β s a h w) {o:Oper} {ch:aS} {l:LV} (hp:lG o ch s l) (p:holds s ch) (m:∀t,Operand.tmp t∈o.op.operands->g t):
  ∀k off,(l=.box k off\/l=.dz k off)->Liv k/\¬N k:=by
 intro k off e;obtain ⟨x,q,i,hev⟩:=hp k off e;rcases hev with hev | hev
 ·obtain ⟨t,c,rfl,d,b⟩:=rL hev (by simp) p;exact ⟨(f.cur t _ c d (m t q) b).2 k i (.inl rfl),λj=>(f.jz k j t _ c d b i).1 rfl⟩
 ·obtain ⟨t,c,rfl,d,b⟩:=rL hev (by simp) p;exact ⟨(f.cur t _ c d (m t q) b).2 k i (.inr rfl),λj=>(f.jz k j t _ c d b i).2 rfl⟩
theorem Jq {C:Ctx} (ok:C.tb.Ok C.P) {G:Array Oper} {l M:List Nat} {K:St->Hp->Prop} {i:Nat} {o:Oper} (hi:G[i]? =some o) (hv:BM C G.toList M o s h K)
  (q:RR n g Liv D N β s a h w) (a8:∀t,Operand.tmp t∈o.op.operands->g t)
  (b9:∀j b p d,o.guard=some (j,b)->nth G.toList j=some p->p.dst=some d->g d/\D d) (b0:∀d,o.dst=some d->d<n/\¬D d/\d∈l)
  (hN:∀d,cd C.aK o d->N d/\¬Liv d) (next:Act->World->Prop) (Q:Exit->Act->World->Prop)
  (T:∀s' z g0 a' u,K s' z->uz C l M n g Liv D N o β s a h w g0 s' a' z u->next a' u):wpOp C.P G Q i next a w:=by
 unfold BM at hv;split at hv
 ·exact hv.elim
 rename_i ch b6;cases hg:sO s ch with
 | false=>simp [hg] at hv
 | true=>
 simp only [hg,cond_true] at hv;have d9:∀j b p d,o.guard=some (j,b)->nth G.toList j=some p->p.dst=some d->g d:=λj b p d e1 e2 e3=>(b9 j b p d e1 e2 e3).1;have L:=KT q b6 hg d9;have hD:=Jo q b6 hg λj b p d e1 e2 e3=>(b9 j b p d e1 e2 e3).2;have U:∀x∈o.op.operands,eg β s a.eval x:=λx H=>Cq q λt e=>a8 t (e▸H);have b7:∀d,o.dst=some d->d<n/\¬D d:=λd e=>⟨(b0 d e).1,(b0 d e).2.1⟩;have b8:∀d,o.dst=some d->d∈l:=λd e=>(b0 d e).2.2;unfold wpOp;simp only [hi];have f9:∀(l:LV) k,live (s.put o.dst l ch) Liv k↔live s Liv k:=λl k=>by unfold live;rw [lW]
 have Y:∀(lv:LV) (z:Hp) (v:Value) (u:World),K (s.put o.dst lv ch) z->ly C.aK o=false->(isVal C.tb o=true->z=h)->Step h z w u->
   (holds s ch->v=LVal β lv/\∀k off,(lv=.box k off\/lv=.dz k off)->Liv k/\¬N k)->(¬holds s ch->v=undef)->next (a.put o.dst v) u:=by
  intro lv z v u B hp f8 J h1 F;refine T _ _ β _ _ B (Ic hp ((q.step J).fI b7 hD h1 F) ?_ (λt W=>u7 s _ _ _ t W) (λk=>.inl (by rw [lW])) f8);refine ((gm.step J).trans (gm.put (lv:=live s Liv) b8)).mono (λ_ e=>e) (λ_ e=>e) (λ_ e=>e) (λk e=>(f9 lv k).1 e)
 cases X:isVal C.tb o with
 | true=>
  simp only [X,cond_true] at hv;obtain ⟨lv,B,V,e5⟩:=KO ok hv;by_cases A:holds s ch
  ·rw [if_pos (L.2 A)];left;obtain ⟨u,e7,c4,J⟩:=V A β a.eval w U (λ_=>q.sub) (λ_=>Jn q a8);unfold Oper.wp;rw [e7];have f0:Step h h w u:=by
    cases b2:bZ C.tb o ch s with
    | mem=>exact J b2
    | pure=>rw [c4 (by rw [b2];simp)];exact .refl q.sub
    | box=>rw [c4 (by rw [b2];simp)];exact .refl q.sub
   exact Y lv h _ u B (Nj X) (λ_=>rfl) f0 (λ_=>⟨rfl,Jp q e5 A a8⟩) (λe=>absurd A e)
  ·rw [if_neg (λe=>A (L.1 e))];exact Y lv h _ w B (Nj X) (λ_=>rfl) (.refl q.sub) (λe=>absurd e A) (λ_=>rfl)
 | false=>
  simp only [X,cond_false] at hv;have b4:ly C.aK o=false->(fJ C.P o ch s h λl z=>K (s.put o.dst l ch) z)->
    if Region.wanted o (yielded G a.tmps)=true then o.wp C.P a w next Q\/o.asks C.P a w/\LetsOut Q else next (a.put o.dst undef) w:=by
   intro hp hv;obtain ⟨h1,F⟩:=hv;by_cases A:holds s ch
   ·rw [if_pos (L.2 A)];left;refine h1 A β a w U q.sub next Q λx z u B J=> ?_
    exact Y (.v x) z x u B hp (λe=>by grind) J (λ_=>⟨rfl,λk off e=>by grind⟩) (λe=>absurd A e)
   ·rw [if_neg (λe=>A (L.1 e))];obtain ⟨x,B⟩:=F A;exact Y (.v x) h undef w B hp (λ_=>rfl) (.refl q.sub) (λe=>absurd e A) (λ_=>rfl)
  have c6:ly C.aK o=false->(wU C.P C.tb o ch s h λl z=>K (s.put o.dst l ch) z)->
    if Region.wanted o (yielded G a.tmps)=true then o.wp C.P a w next Q\/o.asks C.P a w/\LetsOut Q else next (a.put o.dst undef) w:=λhp hv=>b4 hp (Rx ok hv)
  have b5:∀(d:Nat) (r:List Value) (t:Nat),K ((s.put (some d) (.box d 0) []).fV d r) h->cd C.aK o d->ch=[]->has M d=true->
    (execOp a.eval o).run C.P w=.ok (.value (.pointer (some ⟨w.heap.size,0,none⟩))) {w with heap:=w.heap.push (.cells r.toArray t (0,0))}->
    if Region.wanted o (yielded G a.tmps)=true then o.wp C.P a w next Q\/o.asks C.P a w/\LetsOut Q else next (a.put o.dst undef) w:=by
   intro d r t B hp he I V;subst he;rw [if_pos (L.2 (bz s))];left;unfold Oper.wp;rw [V];show next (a.put o.dst _) _
   rw [hp.2];obtain ⟨d4,d2,d3⟩:=b0 d hp.2;obtain ⟨c7,g1⟩:=hN d hp;have hl:=q.zj r d4 d2 c7;have d8:((s.put (some d) (.box d 0) []).fV d r).f d=some (.box d 0,[]):=ET s _ _ _;have c1:((s.put (some d) (.box d 0) []).fV d r).m d=some r:=xQ _ _ _;have H:=hl.zf t d8 c1 (λe=>e.1 rfl) (λe=>e.1 rfl);have e0:∀k,cd C.aK o k↔k=d:=λk=>⟨λe=>by have:=e.2;rw [hp.2] at this;cases this;rfl,λe=>e▸hp⟩;refine T _ _ _ _ _ B ⟨H.congr (λt=> ?_) (λk=> ?_) (λ_ e=>e) (λk e=> ?_),?_,λt W=> ?_,λk=> ?_,λ_=>rfl,λ_=>rfl⟩
   ·rw [hp.2];grind
   ·grind
   ·grind
   ·refine (Gz (s:=(s.put (some d) (.box d 0) []).fV d r) (Liv:=λk=>k≠d/\Liv k) (β:=β) (a:=a) (l:=l) (mm:=M) t q.sub c1 (λe=>e.1 rfl) d3 ((qD _ _).1 I)).mono
     (λ_ e=>e) (λ_ e=>e) (λk e=>⟨λe'=>e.1 ?_,e.2.2⟩) (λk e=>⟨e.1,?_⟩)
    ·rw [vU _ _ e.2.1];exact e'
    ·rcases e.2 with e2 | e2
     ·exact .inl ((e0 k).1 e2)
     grind
   ·exact rM s _ _ λe=>W (by rw [hp.2,e])
   ·by_cases ek:k=d
    ·grind
    ·exact .inl (vU _ _ ek)
  split at hv
  ·rename_i d R;have a9:o.dst=some d/\has C.aK d=true:=by unfold pW at R;grind
   cases I:has M d with
   | false=>simp [I] at hv
   | true=>
    simp only [I,cond_true] at hv;split at hv
    ·rename_i t E;split at hv
     ·rename_i e he;refine b5 d (bg e.zero) t hv ⟨by simp [ly,E,a9],a9.1⟩ rfl I ?_;have e2:(bg e.zero).toArray=e.zero.cells:=by apply Array.ext';simp [nq]
      rw [e2];simp [execOp,E,Instr.alloc,bX ok he,newVar,sM]
     ·exact hv.elim
    ·rename_i t x E;obtain ⟨v,d6,f7⟩:=jB hv;refine b5 d (bg v) t f7 ⟨by simp [ly,E,a9],a9.1⟩ rfl I ?_;have H:=bx (U x (by simp [E,Op.operands])) (bz s) d6;have e2:(bg v).toArray=v.cells:=by apply Array.ext';simp [nq]
     rw [e2];simp [execOp,E,H,LVal,Instr.box,newVar,sM]
    ·exact hv.elim
  ·exact hv.elim
  ·rename_i R;have b3:ly C.aK o=false:=by
    unfold pW at R;unfold ly;split at R
    ·rename_i d' e;cases h1:has C.aK d' with
     | true=>simp [h1] at R
     | false=>rw [e];cases o.op<;>simp [h1]
    ·rename_i e;rw [e];cases o.op<;>simp
   split at hv
   ·rename_i t x y E;split at hv
    ·rename_i k off v b1 d7;split at hv
     ·rename_i r e S f6;cases h1:has M k with
      | false=>simp [h1] at hv
      | true=>
      cases F:Nat.beq (bg v).length e.size with
      | false=>simp [h1,F] at hv
      | true=>
      cases Z:Nat.ble (off+e.size) r.length with
      | false=>simp [h1,F,Z] at hv
      | true=>
      cases h4:hH (bg v) with
      | false=>simp [h1,F,Z,h4] at hv
      | true=>
      simp only [h1,F,Z,h4,cond_true] at hv;rw [if_pos (L.2 (bz s))];left;have c5:x∈o.op.operands:=by simp [E,Op.operands]
      have H:=bx (U x c5) (bz s) b1;have hy:=bx (U y (by simp [E,Op.operands])) (bz s) d7;obtain ⟨tt,c,rfl,hf,hc⟩:=rL b1 (by simp) (bz s);have hL:Liv k:=(q.cur tt _ c hf (a8 tt c5) hc).2 k off (.inl rfl);obtain ⟨d0,ct,d1⟩:=q.box k r S hL;have c0:(bg v).length=e.size:=Nat.eq_of_beq_eq_true F;obtain ⟨u,V,c8,c2,f4,e8,h5,h6,h7⟩:=ab1 (P:=C.P) (off:=off) q.sub d1 d0 h4 (by rw [c0];exact Nat.le_of_ble_eq_true Z);have f5:=bP ok f6 w;have e4:v.cells.size=e.size:=by rw [<-Array.length_toList,nq];exact c0
      unfold Oper.wp;have e6:(execOp a.eval o).run C.P w=.ok .skip u:=by
       simp only [execOp,E,H,hy,LVal,Instr.storeAt,Instr.sureAddr,Sem.run_bind,Sem.run_pure,Result.andThen_ok,storeVar,f5,e4,ne_eq,not_true,if_false,nq];have:(if False then (stuck "storeVar: the value has not the size of the variable" :Sem Unit) else pure PUnit.unit).run C.P w=.ok () w:=rfl
       first | rw [this] | skip
       simp only [V,Result.andThen_ok]
      rw [e6,Oper.upon_skip];have c3:=(q.BT S hL c8 c2 f4).fI (dst:=o.dst) (l:=.v (.tuple #[])) (ch:=[]) (v:=undef) b7 (by simp) (λ_=>⟨rfl,λk off e=>by rcases e with e | e<;>cases e⟩) (λe=>absurd (bz _) e);have d5:((s.fV k (j7 r off (bg v))).put o.dst (.v (.tuple #[])) [])=((s.put o.dst (.v (.tuple #[])) []).fV k (j7 r off (bg v))):=by cases o.dst<;>rfl
      rw [d5] at c3;have e9:∀j,((s.put o.dst (.v (.tuple #[])) []).fV k (j7 r off (bg v))).m j≠none->s.m j≠none:=λj hj=>by
       by_cases O:j=k
       ·rw [O,S];simp
       ·rw [vU _ _ O,lW] at hj;exact hj
      refine T _ _ _ _ _ hv (Ic b3 c3 ?_ (λt W=>u7 s _ _ _ t W) (λj=> ?_) (λ_=>rfl))
      ·refine gm.trans (lv1:=live s Liv) (β1:=β) (a1:=a) (h1:=h) (w1:=u) ⟨λ_ _=>rfl,λ_ _=>rfl,e8,λ_ _ e _=>e,λb hb T B=> ?_,λ_ e=>.inl ⟨e,rfl⟩,h5,h6,h7,rfl⟩ ((gm.put (lv:=live s Liv) b8).mono (λ_ e=>e) (λ_ e=>e) (λ_ e=>e) (λj e=>⟨e9 j e.1,e.2⟩));exact c2 b hb (λe=>B k ((qD _ _).1 h1) ⟨by rw [S];simp,hL⟩ e.symm) T
      ·by_cases O:j=k
       ·subst O;exact .inr ⟨by simp [uH,E,b1],X,by rw [S];simp,hL⟩
       ·exact .inl (by rw [vU _ _ O,lW])
     ·exact hv.elim
    ·exact c6 b3 hv
   ·exact b4 b3 (Ry hv)
   grind
end
abbrev Rel (n:Nat) (b:Nat->Nat) (s:St) (a:Act) (h:Hp) (w:World):Prop:=
 RR n (λ_=>True) (λ_=>True) (λ_=>False) (λ_=>False) b s a h w
abbrev cc (s:St):Nat->Prop:=live s λ_=>True
section
variable {n:Nat} {q Liv D N:Nat->Prop} {β:Nat->Nat} {s:St} {a:Act} {h:Hp} {w:World}
theorem yK {s:St} {t:Nat} {l:LV} {c:aS} (e:s.clean.f t=some (l,c)):s.f t=some (l,[])/\c=[]:=by simp only [St.clean] at e;grind
theorem RR.clean (b:RR n (λ_=>True) (λ_=>True) D N β s a h w):Rel n β s.clean a h w:=by
 refine ⟨b.sz,b.sub,λt l c e=>b.lt t l _ (yK e).1,λt l c e p hp=> ?_,λt l c e _ _=>b.cur t l _ (yK e).1 trivial (bz _),λt l c e _ d=> ?_,b.box,b.inj,λ_ e=>e.elim,λ_ e=>e.elim⟩
 ·rw [(yK e).2] at hp;cases hp
 ·rw [(yK e).2] at d;exact absurd (bz _) d
theorem lU {l:List Nat} {x:Option (LV×aS)} {v:LV} {c:aS} (e:pv l x=some (v,c)):x=some (v,c)/\∀k o,(v=.box k o\/v=.dz k o)->k∉l:=by
 unfold pv at e;split at e
 ·rename_i k o d;cases b:has l k with
  | true=>simp [b] at e
  | false=>
   simp only [b,cond_false] at e;cases e;refine ⟨rfl,λf g e'=> ?_⟩;rcases e' with e' | e'<;>cases e'
   exact yk b
 ·rename_i k o d;cases b:has l k with
  | true=>simp [b] at e
  | false=>
   simp only [b,cond_false] at e;cases e;refine ⟨rfl,λf g e'=> ?_⟩;rcases e' with e' | e'<;>cases e'
   exact yk b
 ·grind
 ·cases e
theorem qI {l:List Nat} {t:Nat} {v:LV} {c:aS} (e:(s.ki l).f t=some (v,c)):s.f t=some (v,c)/\∀k o,(v=.box k o\/v=.dz k o)->k∉l:=by
 cases l with
 | nil=>exact ⟨e,λ_ _ _ e=>by cases e⟩
 | cons x l=>exact lU e
theorem wb {l:List Nat} {k:Nat} {c:List Value} (e:(s.ki l).m k=some c):s.m k=some c/\k∉l:=by
 cases l with
 | nil=>exact ⟨e,λe=>by cases e⟩
 | cons x l=>
  simp only [St.ki] at e;cases b:has (x::l) k with
  | true=>simp [b] at e
  | false=>simp only [b,cond_false] at e;exact ⟨e,yk b⟩
theorem RR.start (b:Rel n β s a h w) (l:List Nat):RR n (λ_=>True) (λk=>k∉l) (λ_=>False) (λk=>k∈l) β (s.ki l) a h w:=by
 refine ⟨b.sz,b.sub,λt v c e=>b.lt t v c (qI e).1,λt v c e=>b.chain t v c (qI e).1,λt v c e _ j=> ?_,λt v c e _ j=> ?_,λk g e _=>b.box k g (wb e).1 trivial,λk y e d _ _ x=> ?_,λk f=> ?_,λk f t v c e _ o=> ?_⟩
 ·have i:c=[]:=by
   cases c with
   | nil=>rfl
   | cons p c=>exact (b.chain t v _ (qI e).1 p (List.mem_cons_self ..)).elim
  subst i;exact ⟨(b.cur t v [] (qI e).1 trivial (bz _)).1,(qI e).2⟩
 ·have i:c=[]:=by
   cases c with
   | nil=>rfl
   | cons p c=>exact (b.chain t v _ (qI e).1 p (List.mem_cons_self ..)).elim
  subst i;exact absurd (bz _) j
 ·obtain ⟨g,r⟩:=Option.ne_none_iff_exists'.1 e;obtain ⟨z,u⟩:=Option.ne_none_iff_exists'.1 d;exact b.inj k y (by simp [(wb r).1]) (by simp [(wb u).1]) trivial trivial x
 ·cases e:(s.ki l).m k with
  | none=>rfl
  | some g=>exact absurd f (wb e).2
 ·exact ⟨λd=>(qI e).2 k o (.inl d) f,λd=>(qI e).2 k o (.inr d) f⟩
theorem LL {l:List Nat} {k:Nat} (e:live (s.ki l) (λk=>k∉l) k):cc s k:=by obtain ⟨c,b⟩:=Option.ne_none_iff_exists'.1 e.1;exact ⟨by simp [(wb b).1],trivial⟩
theorem B0 :∀(x y:List Oper),bO (x++y)=bO x++bO y
 | [],y=>rfl
 | o::x,y=>by simp only [List.cons_append,bO,B0 x y];cases o.dst<;>rfl
theorem wC {l:List Oper} {o:Oper} {d:Nat} (hm:o∈l) (b:o.dst=some d):d∈bO l:=by
 induction l with
 | nil=>cases hm
 | cons p l c=>
  rcases List.mem_cons.1 hm with rfl | hm
  ·simp [bO,b]
  ·have:=c hm;simp only [bO];grind
theorem xT :∀ {l:List Nat},nodup l=true->l.Nodup
 | [],_=>.nil
 | a::l,h=>by
  simp only [nodup] at h;cases b:has l a with
  | true=>simp [b] at h
  | false=>simp only [b,cond_false] at h;exact List.nodup_cons.2 ⟨yk b,xT h⟩
theorem OJ {l:List Oper} {o:Oper} (h:rC l=true) (b:o∈l):o.guard=none:=by
 induction l with
 | nil=>cases b
 | cons p l c=>simp only [rC] at h;grind
theorem HK :∀ {l:List Oper} {i j:Nat} {o:Oper} {g:Nat} {b:Bool},yg l i=true->l[j]? =some o->o.guard=some (g,b)->g<i+j
 | [],_,_,_,_,_,_,e,_=>by simp at e
 | p::l,i,0,o,g,b,h,e,c=>by
  simp at e;subst e;simp only [yg,c] at h;cases hb:Nat.blt g i with
  | true=>simp [Nat.blt] at hb;omega
  | false=>simp [hb] at h
 | p::l,i,j+1,o,g,b,h,e,c=>by
  simp at e;have d:yg l (i+1)=true:=by simp only [yg] at h;grind
  have:=HK d e c;omega
theorem Nk {aK:List Nat} {o:Oper} {d:Nat} {r:List Oper} (h:cd aK o d):j6 aK (o::r)=d::j6 aK r:=by simp [j6,h.1,h.2]
theorem CO {aK:List Nat} {o:Oper} {r:List Oper} (h:∀d,¬cd aK o d):j6 aK (o::r)=j6 aK r:=by
 cases hp:ly aK o with
 | false=>simp [j6,hp]
 | true=>
  cases b:o.dst with
  | none=>simp [j6,hp,b]
  | some d=>exact absurd ⟨hp,b⟩ (h d)
theorem LM {C:Ctx} (ok:C.tb.Ok C.P) {c:Array Oper} {mok:List Nat} {K:St->Hp->Prop} {Q:Exit->Act->World->Prop} (g:Bool)
  (O:∀d∈bO c.toList,d<n) (M:g=false->rC c.toList=true) (G:g=true->(bO c.toList).Nodup/\yg c.toList 0=true):
  ∀(r pre:List Oper) (β:Nat->Nat) (s:St) (a:Act) (h:Hp) (w:World),c.toList=pre++r->(j6 C.aK r).Nodup->BQ C c.toList mok r s h K->
   RR n (λ_=>True) (λk=>k∉j6 C.aK r) (λt=>g=true/\t∈bO pre) (λk=>k∈j6 C.aK r) β s a h w->
   (∀v u A m x,K v u->RR n (λ_=>True) (λ_=>True) (λt=>g=true/\t∈bO c.toList) (λ_=>False) A v m u x->
    gm (bO c.toList) mok (live s λk=>k∉j6 C.aK r) β a h w (cc v) A m u x->Q .normal m x)->
   wpOps C.P c Q (List.range' pre.length r.length) a w
 | [],pre,β,s,a,h,w,f,_,hv,J,I=>by simp only [List.length_nil,List.range'_zero];rw [List.append_nil] at f;exact I s h β a w hv (J.congr (λ_=>.rfl) (λk=>by simp [j6]) (λt e=>by rw [f];exact e) (λk e=>e.elim)) ((gm.refl _ _).mono (λ_ e=>e) (λ_ e=>e) (λ_ e=>e) (λk e=>⟨e.1,by simp [j6]⟩))
 | o::r,pre,β,s,a,h,w,f,i,hv,J,I=>by
  simp only [List.length_cons,List.range'_succ,wpOps_cons];have V:c[pre.length]? =some o:=by
   have:c.toList[pre.length]? =some o:=by rw [f];simp
   simpa using this
  have H:o∈c.toList:=by rw [f];simp
  have y:∀k,(cd C.aK o k\/k∉j6 C.aK (o::r))↔k∉j6 C.aK r:=by
   intro k;by_cases hp:∃d,cd C.aK o d
   ·obtain ⟨d,hp⟩:=hp;rw [Nk hp] at i ⊢;have i:=List.nodup_cons.1 i;constructor
    ·rintro (e | e)
     ·have:k=d:=by have F:=e.2;rw [hp.2] at F;cases F;rfl
      rw [this];exact i.1
     ·exact λB=>e (List.mem_cons_of_mem _ B)
    grind
   ·have Z:∀d,¬cd C.aK o d:=λd e=>hp ⟨d,e⟩;rw [CO Z];grind
  have T:∀k,k∈j6 C.aK r->¬cd C.aK o k/\k∈j6 C.aK (o::r):=λk z=>
   ⟨λe=>(y k).1 (.inl e) z,Classical.byContradiction λe=>(y k).1 (.inr e) z⟩
  have X:(j6 C.aK r).Nodup:=by
   by_cases hp:∃d,cd C.aK o d
   ·obtain ⟨d,hp⟩:=hp;rw [Nk hp] at i;grind
   ·rwa [CO λd e=>hp ⟨d,e⟩] at i
  refine Jq (l:=bO c.toList) ok V hv J (λ_ _=>trivial) (λj b p d E L R=>⟨trivial,?_⟩) (λd e=>⟨O d (wC H e),λB=> ?_,wC H e⟩) (λd hp=> ?_) _ Q λv u A m x z out=> ?_
  ·cases g with
   | false=>rw [OJ (M rfl) H] at E;cases E
   | true=>refine ⟨rfl,?_⟩;have hj:=HK (j:=pre.length) (G rfl).2 (by rw [f];simp) E;rw [ma,f,List.getElem?_append_left (by omega)] at L;exact wC (List.mem_of_getElem? L) R
  ·have U:=(G B.1).1;rw [f,B0] at U;have F:d∈bO (o::r):=wC (List.mem_cons_self ..) e;grind
  ·have:d∈j6 C.aK (o::r):=by rw [Nk hp];simp
   grind
  ·have Y:c.toList=(pre++ [o])++r:=by rw [f];simp
   have:=LM ok g O M G r (pre++ [o]) A v m u x Y X z
    (out.rr.congr (λt=>by simp) (λk=>(y k).symm) (λt e=>⟨e.1,by rw [B0];grind⟩) T)
    (λs2 S b0 a2 w2 W a8 a9=>I s2 S b0 a2 w2 W a8 (out.vd.trans (a9.mono (λ_ e=>e) (λ_ e=>e) (λk e=>⟨e.1,(y k).2 e.2⟩) (λ_ e=>e))))
   simpa using this
end
theorem eV {b x:Bool} (h:cond b x false=true):b=true/\x=true:=by grind
theorem Nt :∀(n:Nat) (l:List Nat),l.Nodup->(∀x∈l,x<n)->l.length<=n
 | 0,l,_,h=>by
  cases l with
  | nil=>simp
  | cons a l=>exact absurd (h a (List.mem_cons_self ..)) (Nat.not_lt_zero _)
 | n+1,l,b,h=>by
  by_cases f:n∈l
  ·have e:=Nt n (l.erase n) (b.erase n) (λx d=>by
    have c:=(b.mem_erase_iff).1 d;have:=h x c.2;have:=c.1;omega)
   grind
  ·have:=Nt n l b (λx d=>by
    grind)
   omega
theorem xK {n:Nat} {l:List Nat} (b:l.Nodup) (h:∀x∈l,x<n) (c:n<=l.length) {j:Nat} (a:j<n):j∈l:=by
 refine Classical.byContradiction λe=> ?_;have:=Nt n (j::l) (List.nodup_cons.2 ⟨e,b⟩) (λx hx=>by
  rcases List.mem_cons.1 hx with rfl | hx
  ·exact a
  ·exact h x hx)
 grind
def uw (L:List Oper) (X:Nat->Prop):Prop:=∀i o,L[i]? =some o->X i->∀j∈waits o,X j
def kO (L:List Oper) (i j:Nat):Prop:=∀X:Nat->Prop,uw L X->(∀o,L[i]? =some o->∀k∈waits o,X k)->X j
theorem FM {l m:List Nat} (h:jM l m=true):∀x∈l,x∈m:=by
 induction l with
 | nil=>simp
 | cons a l c=>
  simp only [jM] at h;cases b:has m a with
  | false=>simp [b] at h
  | true=>
   simp only [b,cond_true] at h;intro x hx;rcases List.mem_cons.1 hx with rfl | hx
   ·exact (qD _ _).1 b
   ·exact c h x hx
theorem Um {o:Oper} {e:Edge} (a:e∈o.after) (hb:Region.binds .any e=true):e.on∈waits o:=by
 have key:∀l:List Edge,e∈l->e.on∈waits.go l:=by
  intro l
  induction l with
  | nil=>intro h;cases h
  | cons x l c=>
   intro h;simp only [waits.go];rcases List.mem_cons.1 h with rfl | h
   ·have:tx e=true:=by unfold Region.binds at hb;unfold tx;cases b:e.ground<;>simp [b] at hb ⊢
    simp [this]
   grind
 exact key _ (by simpa using a)
theorem Ie {k:Nat} {l:List Nat} {j:Nat} (h:j∈uF k l):j=k\/j∈l:=by unfold uF at h;grind
theorem If {j:Nat}:∀ {a b:List Nat},j∈BF a b->j∈a\/j∈b
 | [],_,h=>.inr h
 | k::r,b,h=>by
  rcases If (a:=r) (b:=uF k b) h with h | h
  ·grind
  ·rcases Ie h with rfl | h
   ·simp
   ·exact .inr h
theorem LN {a:List (List Nat)}:∀ {l:List Nat} {j:Nat},j∈bw.union l a->j∈l\/∃k∈l,∃x,nth a k=some x/\j∈x
 | [],j,h=>by simp [bw.union] at h
 | k::l,j,h=>by
  simp only [bw.union] at h;rcases Ie h with rfl | h
  ·simp
  ·rcases If h with h | h
   ·grind
   ·rcases LN h with h | ⟨d,b,c⟩
    ·exact .inl (List.mem_cons_of_mem _ h)
    grind
theorem LO {L:List Oper}:∀(r pre:List Oper) (a:List (List Nat)),L=pre++r->a.length=pre.length->(∀i x,nth a i=some x->∀j∈x,kO L i j)->
  ∀i x,nth (bw r a) i=some x->∀j∈x,kO L i j
 | [],_,a,_,_,h=>h
 | o::r,pre,a,d,f,h=>by
  refine LO r (pre++ [o]) _ (by simp [d]) (by simp [qH,f]) λi x b j c=> ?_;rw [ma,qH] at b;rcases Nat.lt_trichotomy i a.length with hi | hi | hi
  ·rw [List.getElem?_append_left hi,<-ma] at b;exact h i x b j c
  ·subst hi;simp at b;subst b;intro X e l;have g:L[a.length]? =some o:=by rw [d,f];simp
   rcases LN c with c | ⟨k,n,y,s,m⟩
   ·exact l o g j c
   ·exact h k y s j m X e λu q t p=>e k u q (l o g k n) t p
  grind
theorem yi {L:List Oper} {i j:Nat} (h:j∈kN (bw L []) i):kO L i j:=by
 unfold kN at h;split at h
 ·rename_i x a;exact LO L [] [] rfl rfl (λi x a=>by simp [nth] at a) i x a j h
 ·cases h
theorem Cr :∀l:List (Nat×Operand),xf l=l.map (·.2)
 | []=>rfl
 | (_,x)::l=>by simp [xf,Cr l]
theorem Jr :∀l:Option Operand,u3 l=l.toArray.toList
 | none=>rfl
 | some x=>rfl
theorem KU {op:Op} {l:List Operand} (h:Dx op=some l):∀x∈op.operands,x∈l:=by
 cases op with
 | call c=>
  obtain ⟨callee,args,g⟩:=c;cases callee with
  | value f=>cases h;intro x d;simpa [Op.operands,Call.operands] using d
  | builtin b=>cases h;intro x d;simpa [Op.operands,Call.operands] using d
  | invoke r m=>cases h
 | build t e=>cases h;intro x d;simpa [Op.operands,Cr] using d
 | buildSlice t n e=>cases h;intro x d;simpa [Op.operands,Cr] using d
 | makeFunc fn a b=>cases h;intro x d;simpa [Op.operands,qH] using d
 | makeMap t r=>cases h;intro x d;simpa [Op.operands,Jr] using d
 | slice t x j i k=>cases h;intro x d;simpa [Op.operands,qH,Jr,or_assoc] using d
 | alloc t=>cases h;intro x d;simp [Op.operands] at d
 | _=>first | (cases h;done) | (cases h;intro x d;simpa [Op.operands] using d)
theorem KV {rows:List (List Nat)} {i t:Nat}:∀ {l:List Oper} {j0:Nat},tQ rows i t l j0=true->∀j p,l[j]? =some p->p.dst=some t->
  j0+j∈kN rows i\/i=j0+j\/i∈kN rows (j0+j)
 | [],_,_,j,p,e,_=>by simp at e
 | q::l,j0,h,j,p,e,d=>by
  simp only [tQ] at h;cases a:(cond (sm q t) (cond (has (kN rows i) j0) true (cond (Nat.beq i j0) true (has (kN rows j0) i))) true) with
  | false=>grind
  | true=>
   rw [a] at h;cases j with
   | zero=>
    simp at e;subst e;have:sm q t=true:=by simp [sm,d]
    rw [this] at a;simp only [cond_true] at a;cases b:has (kN rows i) j0 with
    | true=>exact .inl ((qD _ _).1 b)
    | false=>
     rw [b] at a;simp only [cond_false] at a;cases c:Nat.beq i j0 with
     | true=>exact .inr (.inl (Nat.eq_of_beq_eq_true c))
     | false=>rw [c] at a;exact .inr (.inr ((qD _ _).1 a))
   | succ j=>have:=KV (l:=l) (j0:=j0+1) h j p (by simpa using e) d;grind
theorem CP {L:List Oper} {rows:List (List Nat)} {i t:Nat}:∀ {l:List Operand},de.go L rows i l=true->Operand.tmp t∈l->tQ rows i t L 0=true
 | [],_,hm=>by cases hm
 | x::l,h,hm=>by
  cases x with
  | tmp u=>
   simp only [de.go] at h;cases a:tQ rows i u L 0 with
   | false=>simp [a] at h
   | true=>
    simp only [a,cond_true] at h;rcases List.mem_cons.1 hm with e | hm
    ·cases e;exact a
    ·exact CP h hm
  | _=>
   simp only [de.go] at h;rcases List.mem_cons.1 hm with e | hm
   ·cases e
   ·exact CP h hm
theorem Rz {L:List Oper} {rows:List (List Nat)} {i t:Nat} {o:Oper} (h:de L rows i o=true) (e:Operand.tmp t∈o.op.operands) {j:Nat} {p:Oper} (c:L[j]? =some p) (b:p.dst=some t):
  j∈kN rows i\/i=j\/i∈kN rows j:=by
 unfold de at h;split at h
 ·rename_i l d;cases a:de.go L rows i l with
  | false=>simp [a] at h
  | true=>have:=KV (CP a (KU d _ e)) j p c b;simpa using this
 ·cases h
theorem CQ {L:List Oper} {rows:List (List Nat)} {i j:Nat} {b:Bool} {o:Oper} (h:de L rows i o=true) (c:o.guard=some (j,b)):j∈kN rows i:=by
 unfold de at h;split at h
 ·rename_i l d;cases a:de.go L rows i l with
  | false=>simp [a] at h
  | true=>simp only [a,cond_true,c] at h;exact (qD _ _).1 h
 ·cases h
theorem OL {o:Oper} {t:Nat} (b:Operand.tmp t∈o.op.operands):looksAt o t=true:=by
 unfold looksAt;split
 ·rename_i l a;have hm':=KU a _ b;clear a b
  induction l with
  | nil=>cases hm'
  | cons x l c=>
   rcases List.mem_cons.1 hm' with e | hm'
   ·subst e;simp [looksAt.go]
   ·have:=c hm';cases x<;>simp only [looksAt.go]
    ·rw [this];simp
    all_goals exact this
 ·rfl
theorem vQ {rows:List (List Nat)} {j d:Nat} {o:Oper} (b:o.dst=some d):∀ {l:List Oper} {i0:Nat},gD rows j o l i0=false->∀i p,l[i]? =some p->Operand.tmp d∈p.op.operands->j∈kN rows (i0+i)
 | [],_,_,i,p,e,_=>by simp at e
 | q::l,i0,h,i,p,e,c=>by
  simp only [gD,b] at h;cases a:(cond (looksAt q d) (cond (has (kN rows i0) j) false true) false) with
  | true=>grind
  | false=>
   rw [a] at h;cases i with
   | zero=>
    simp at e;subst e;rw [OL c] at a;simp only [cond_true] at a;cases f:has (kN rows i0) j with
    | true=>exact (qD _ _).1 f
    | false=>grind
   | succ i=>have:=vQ b (l:=l) (i0:=i0+1) h i p (by simpa using e) c;grind
theorem Ko {tb:Tb} {aK:List Nat} {a:List Oper} {rows:List (List Nat)} {i:Nat} {d:List Nat} {r:List (Nat×List Nat)} {done:List Nat} {last:Option Nat}
  (h:dM tb aK a rows ((i,d)::r) done last=true):∃o,a[i]? =some o/\(∀k∈waits o,k∈done)/\de a rows i o=true/\i∉done/\(∀e,last=some e->e∈kN rows i)/\
   (((isVal tb o=true\/ly aK o=true)/\gD rows i o a 0=false/\dM tb aK a rows r (i::done) last=true)\/
    ((isVal tb o=true\/ly aK o=true)/\gD rows i o a 0=true/\dM tb aK a rows r (i::done) (some i)=true)\/
    (isVal tb o=false/\ly aK o=false/\dM.watched tb a rows d i done=true/\dM tb aK a rows r (i::done) (some i)=true)):=by
 simp only [dM] at h;split at h
 ·rename_i o c;rw [ma] at c;obtain ⟨g,h⟩:=eV h;obtain ⟨f,j⟩:=eV g;cases b:has done i with
  | true=>simp [b] at h
  | false=>
   simp only [b,cond_false] at h;obtain ⟨l,h⟩:=eV h;refine ⟨o,c,FM f,j,yk b,λe m=> ?_,?_⟩
   ·subst m;exact (qD _ _).1 l
   grind
 ·cases h
theorem J4 {tb:Tb} {g:List Oper} {rows:List (List Nat)} {b:List Nat} {e:Nat}:∀ {l:List Nat},dM.watched tb g rows b e l=true->∀i∈l,∀o,g[i]? =some o->isVal tb o=true->qG tb o=true->
  i∈b\/i∈kN rows e
 | [],_,i,hi,_,_,_,_=>by cases hi
 | r::l,h,i,hi,o,d,hv,f=>by
  simp only [dM.watched] at h;obtain ⟨a,h⟩:=eV h;rcases List.mem_cons.1 hi with rfl | hi
  ·rw [ma,d] at a;simp only [hv,f,cond_true] at a;cases c:has b i with
   | true=>exact .inl ((qD _ _).1 c)
   | false=>rw [c] at a;exact .inr ((qD _ _).1 a)
  ·exact J4 h i hi o d hv f
theorem KW {tb:Tb} {aK:List Nat} {L:List Oper}:∀ {r:List (Nat×List Nat)} {done:List Nat} {e:Nat},dM tb aK L (bw L []) r done (some e)=true->
  ∀j∈r.map (·.1),kO L j e
 | [],_,_,_,j,hj=>by cases hj
 | (i,ws)::r,done,e,h,j,hj=>by
  obtain ⟨o,u,_,_,_,n,t⟩:=Ko h;have d:=yi (n e rfl);rcases List.mem_cons.1 hj with rfl | hj
  ·exact d
  ·have step:∀a,(a=e\/a=i)->dM tb aK L (bw L []) r (i::done) (some a)=true->kO L j e:=by
    intro a l f;have c:=KW f j hj;rcases l with rfl | rfl
    ·exact c
    ·intro X b q;have g:X a:=c X b q;exact d X b λs p k m=>b a s p g k m
   grind
def wL (tb:Tb) (o:Oper) (ch:aS) (s:St) (l:LV):Prop:=
 bZ tb o ch s=.mem->∀t x,o.op=.load t x->∃(e:Ty) (y:e.sh.T),tb.ty t=some e/\l=.v (e.sh.enc y)
theorem Up {P:Program} {tb:Tb} (ok:tb.Ok P) {o:Oper} {ch:aS} {s:St} {h:Hp} {K:LV->Prop} (hv:vk P tb o ch s h K):
  ∃l,K l/\(holds s ch->oh (bZ tb o ch s) P o s h l)/\lG o ch s l/\wL tb o ch s l:=by
 by_cases k:∃t x a,o.op=.load t x/\ev s ch x=some (.v (.pointer (some a)))
 ·obtain ⟨t,x,a,b,g⟩:=k;unfold vk at hv;simp only [b,g] at hv;split at hv
  ·rename_i e r;obtain ⟨y,f,c⟩:=hv;refine ⟨.v (e.sh.enc y),c,λi=> ?_,wa _ _ _ _,λ_ A B z=> ?_⟩
   ·intro C D w p m hb;have d:bZ tb o ch s=.mem:=by simp [bZ,b,g]
    have u:=bx (p x (by simp [b,Op.operands])) i g;have q:=Nr ok r (λj v n=>vL (m d) (ny f i j v n));refine ⟨w,?_,λ_=>rfl,λe=>.refl (m e)⟩;simp only [execOp,b,u,LVal,Instr.loadAt,Instr.sureAddr,Sem.run_bind,Sem.run_pure,Result.andThen_ok,q]
   grind
  ·exact hv.elim
 ·obtain ⟨l,c,f,hp⟩:=KO ok hv;refine ⟨l,c,f,hp,λd t x b=> ?_⟩;refine absurd ?_ k;unfold vk at hv;simp only [b] at hv;simp only [bZ,b] at d;grind
def mJ (C:Ctx) (L:List Oper) (o:Oper) (s:St) (h:Hp):Prop:=
 ∃ch,pd L L.length o=some ch/\sO s ch=true/\
  ((isVal C.tb o=true/\(qG C.tb o=true\/bZ C.tb o ch s=.pure)/\∃l,(∀d,o.dst=some d->s.f d=some (l,ch))/\(holds s ch->oh (bZ C.tb o ch s) C.P o s h l)/\lG o ch s l/\wL C.tb o ch s l)\/
   (ch=[]/\isVal C.tb o=false/\∃d a,cd C.aK o d/\s.f d=some (.box d 0,[])/\s.m d=some a/\
      ∀(c:Nat->Nat) (b:Operand->Value) (w:World),(∀x∈o.op.operands,eg c s b x)->
       ∃t,(execOp b o).run C.P w=.ok (.value (.pointer (some ⟨w.heap.size,0,none⟩))) {w with heap:=w.heap.push (.cells a.toArray t (0,0))}))
section
variable {C:Ctx} {L:List Oper} {o:Oper} {s s':St} {h n:Hp} {D:Nat->Prop}
structure iU (D:Nat->Prop) (o:Oper) (s s':St):Prop where
 dn:∀t,D t->s'.f t=s.f t
 op:∀t,Operand.tmp t∈o.op.operands->s'.f t=s.f t
 ch:∀t l c,s.f t=some (l,c)->∀p∈c,D p.1
theorem iU.lK (k:iU D o s s') {c:aS} (a:∀p∈c,D p.1):holds s' c↔holds s c:=CN λp hp=>k.dn _ (a p hp)
theorem iU.Gs (k:iU D o s s') {b:Nat->Nat} {d:Operand->Value} {x:Operand} (j:x∈o.op.operands) (a:eg b s' d x):eg b s d x:=by
 cases x with
 | tmp t=>exact λl c e i=>a l c (by rw [k.op t j];exact e) ((k.lK (k.ch t l c e)).2 i)
 | const v=>exact a
 | global g=>exact a
 | func f=>exact a
theorem iU.Fo (k:iU D o s s') {ch:aS} {x:Operand} (a:x∈o.op.operands):ev s' ch x=ev s ch x:=by
 cases x with
 | tmp t=>simp only [ev,k.op t a]
 | const v=>rfl
 | global g=>rfl
 | func f=>rfl
theorem KX {s s':St} {ch:aS}:∀ {l:List Operand},(∀x∈l,ev s' ch x=ev s ch x)->dN s' ch l=dN s ch l
 | [],_=>rfl
 | x::l,h=>by simp only [dN];rw [h x (List.mem_cons_self ..),KX λy a=>h y (List.mem_cons_of_mem _ a)]
theorem iU.kind (k:iU D o s s') {tb:Tb} {ch:aS}:bZ tb o ch s'=bZ tb o ch s:=by
 unfold bZ;cases d:o.op with
 | load t x=>simp only [k.Fo (ch:=ch) (x:=x) (by simp [d,Op.operands])]
 | binOp op t x y u=>simp only [k.Fo (ch:=ch) (x:=x) (by simp [d,Op.operands]),k.Fo (ch:=ch) (x:=y) (by simp [d,Op.operands])]
 | convert a b x=>simp only [k.Fo (ch:=ch) (x:=x) (by simp [d,Op.operands])]
 | call c=>
  obtain ⟨callee,e,g⟩:=c;cases callee with
  | builtin b=>
   cases b with
   | len=>have:dN s' ch e.toList=dN s ch e.toList:=KX λx f=>k.Fo (by simp [d,Op.operands,Call.operands];simpa using f);simp only [this]
   | _=>rfl
  | _=>rfl
 | _=>rfl
theorem iU.BN (k:iU D o s s') {ch:aS} {l:LV} (hp:lG o ch s l):lG o ch s' l:=λb off e=>by obtain ⟨x,a,c,h⟩:=hp b off e;exact ⟨x,a,c,by rw [k.Fo a];exact h⟩
theorem Nl (k:iU D o s s'):∀ {ch:aS},(∀p∈ch,D p.1)->sO s' ch=sO s ch
 | [],_=>rfl
 | (d,b)::c,a=>by simp only [sO,k.dn d (a (d,b) (List.mem_cons_self ..)),Nl k λp hp=>a p (List.mem_cons_of_mem _ hp)]
theorem Ur (k:iU D o s s') {e:Nat->Nat} {w:World} (j:∀t,Operand.tmp t∈o.op.operands->∀b off c,(s.f t=some (.box b off,c)\/s.f t=some (.dz b off,c))->holds s c->s'.m b=s.m b)
  (hb:pe e s' o w):pe e s o w:=by
 intro t d b off c hf a g i;refine hb t d b off c (by rw [k.op t d];exact hf) ?_ g (by grind);rcases hf with hf | hf
 ·exact (k.lK (k.ch t _ c hf)).2 a
 ·exact (k.lK (k.ch t _ c hf)).2 a
theorem Ly (k:iU D o s s') {a:Kd} {P:Program} {l:LV} (i:a≠ .pure->∀t,Operand.tmp t∈o.op.operands->∀b off c,(s.f t=some (.box b off,c)\/s.f t=some (.dz b off,c))->holds s c->s'.m b=s.m b)
  (g:a=.mem->n=h) (p:oh a P o s h l):oh a P o s' n l:=by
 intro r u w j q hb;obtain ⟨A,v,y,z⟩:=p r u w (λx d=>k.Gs d (j x d)) (λe=>by rw [<-g e];exact q e) (λe=>Ur k (i e) (hb e));grind
theorem C9 (k:iU D o s s') {P:Program} {c:List Value}
  (f : ∀ (b : Nat -> Nat) (a : Operand -> Value) (w : World), (∀ x ∈ o.op.operands, eg b s a x) ->
        ∃t,(execOp a o).run P w=.ok (.value (.pointer (some ⟨w.heap.size,0,none⟩))) {w with heap:=w.heap.push (.cells c.toArray t (0,0))}):
  ∀ (b : Nat -> Nat) (a : Operand -> Value) (w : World), (∀ x ∈ o.op.operands, eg b s' a x) ->
        ∃t,(execOp a o).run P w=.ok (.value (.pointer (some ⟨w.heap.size,0,none⟩))) {w with heap:=w.heap.push (.cells c.toArray t (0,0))}:=
 λb a w e=>f b a w λx d=>k.Gs d (e x d)
theorem yL {s:St} {ch:aS} {t:Nat} {l a:LV} {c:aS} (h:ev s ch (.tmp t)=some l) (b:s.f t=some (a,c)):l=a:=by simp only [ev,b] at h;grind
theorem ON {tb:Tb} (Z:C.tb=tb) (ok:tb.Ok C.P) {K:Nat->Bool} {ch:aS} {l:LV} {d:Nat} (g:nY C K o ch s' n) (M:o.dst=some d) (G:∃c,s'.f d=some (l,c)) (B:holds s' ch)
  (A:wL tb o ch s' l):bZ tb o ch s'=.pure\/(bZ tb o ch s'=.box/\∀t b off c,Operand.tmp t∈o.op.operands->(s'.f t=some (.box b off,c)\/s'.f t=some (.dz b off,c))->K b=false)\/(bZ tb o ch s'=.mem/\oh .mem C.P o s' n l):=by
 subst Z;obtain ⟨c,G⟩:=G;unfold nY at g;split at g
 ·rename_i t x T q z;rw [M] at z;cases z;rw [G] at g;split at g
  ·rename_i v R e;cases e;split at g
   ·rename_i a r;right;right;have hkd:bZ C.tb o ch s'=.mem:=by simp [bZ,q,r]
    obtain ⟨e,y,b3,p⟩:=A hkd t x q;cases p;refine ⟨hkd,λβ ρ w E A hb=> ?_⟩;have b5:=bx (E x (by simp [q,Op.operands])) B r;have I:=Nr ok b3 (λj v hj=>vL (A rfl) (ny g B j v hj));refine ⟨w,?_,λe=>absurd rfl e,λ_=>.refl (A rfl)⟩;simp only [execOp,q,b5,LVal,Instr.loadAt,Instr.sureAddr,Sem.run_bind,Sem.run_pure,Result.andThen_ok,I]
   ·rename_i k off r;cases H:K k with
    | true=>rw [H] at g;exact g.elim
    | false=>
     refine .inr (.inl ⟨by simp [bZ,q,r],λt1 b b7 Y O hf1=> ?_⟩);have Q:x=.tmp t1:=by simpa [q,Op.operands,eq_comm] using O
     rw [Q] at r;rcases hf1 with hf1 | hf1
     ·have:=yL r hf1;cases this;exact H
     ·have:=yL r hf1;cases this
   ·rename_i k off r;cases H:K k with
    | true=>rw [H] at g;exact g.elim
    | false=>
     refine .inr (.inl ⟨by simp [bZ,q,r],λt1 b b7 Y O hf1=> ?_⟩);have Q:x=.tmp t1:=by simpa [q,Op.operands,eq_comm] using O
     rw [Q] at r;rcases hf1 with hf1 | hf1
     ·have:=yL r hf1;cases this
     ·have:=yL r hf1;cases this;exact H
   ·exact g.elim
  ·exact g.elim
 ·rename_i t x i S T q z;rw [M] at z;cases z;rw [G] at g;split at g
  ·rename_i v R e;cases e;obtain ⟨a,b1,a8⟩:=jB g;obtain ⟨b,b2,a9⟩:=jB a8;have p:=ny a9 B;right;right;have b6:∀w,Sub n w->∃F,(Instr.lookup t a b S).run C.P w=.ok v F/\Step n n w F:=by
    intro w J;unfold LD at p;split at p
    ·rename_i m e U;split at p
     ·rename_i k u W;split at p
      ·rename_i ke ue V X;cases hkd:qP ke.aN with
       | true=>
        simp only [hkd,cond_true] at p;cases S with
        | true=>
         simp only [cond_true] at p;split at p
         ·rename_i x1 y1;exact ⟨w,by rw [xp ok U W V X hkd J p];rfl,.refl J⟩
         ·exact p.elim
        | false=>simp only [cond_false] at p;obtain ⟨y1,p⟩:=p;exact ⟨w,by rw [xp ok U W V X hkd J p];rfl,.refl J⟩
       | false=>simp only [hkd,cond_false] at p;exact DU p J
      ·exact p.elim
     ·exact p.elim
    ·exact p.elim
   refine ⟨by simp [bZ,q],λβ ρ w E A hb=> ?_⟩;have r:=bx (E x (by simp [q,Op.operands])) B b1;have hi:=bx (E i (by simp [q,Op.operands])) B b2;obtain ⟨F,I,N⟩:=b6 w (A rfl);refine ⟨F,?_,λe=>absurd rfl e,λ_=>N⟩;simp only [execOp,q,r,hi,LVal,Sem.run_bind,I,Result.andThen_ok,Sem.run_pure]
  ·exact g.elim
 ·rename_i xs ts T q z;rw [M] at z;cases z;rw [G] at g;split at g
  ·rename_i v R e;cases e;split at g
   ·rename_i x b4;have hkd:bZ C.tb o ch s'=.pure\/bZ C.tb o ch s'=.mem:=by unfold bZ;grind
    rcases hkd with hkd | hkd
    ·exact .inl hkd
    right;right;refine ⟨hkd,λβ ρ w E A hb=> ?_⟩;have b0:xs.map ρ= #[x]:=by have:=yO (β:=β) (ρ:=ρ) B b4 λx r=>E x (by simp [q,Op.operands,Call.operands];simpa using r);grind
    obtain ⟨F,I,N⟩:=DU (ny g B) (A rfl);refine ⟨F,?_,λe=>absurd rfl e,λ_=>N⟩;simp only [execOp,q,resolve,invoke,builtin,Sem.run_bind,Sem.run_pure,Result.andThen_ok,b0,I,LVal]
   ·exact g.elim
  ·exact g.elim
 ·exact g.elim
end
theorem Uu (e:Edge):tx e=Region.binds .any e:=by unfold Region.binds tx;grind
theorem Uw {o:Oper} {k:Nat} (h:k∈waits o):∃e∈o.after,e.on=k/\Region.binds .any e=true:=by
 have key:∀l:List Edge,k∈waits.go l->∃e∈l,e.on=k/\Region.binds .any e=true:=by
  intro l
  induction l with
  | nil=>intro h;cases h
  | cons x l d=>
   intro h;simp only [waits.go] at h;cases c:tx x with
   | false=>simp only [c,cond_false] at h;obtain ⟨e,a,b⟩:=d h;exact ⟨e,List.mem_cons_of_mem _ a,b⟩
   | true=>
    simp only [c,cond_true] at h;rcases List.mem_cons.1 h with e | h
    ·exact ⟨x,List.mem_cons_self ..,e.symm,by rw [<-Uu,c]⟩
    ·obtain ⟨e,a,b⟩:=d h;exact ⟨e,List.mem_cons_of_mem _ a,b⟩
 obtain ⟨e,a,b⟩:=key _ h;grind
theorem sQ {t:Nat}:∀ {L:List Oper} {i j:Nat} {o p:Oper},(bO L).Nodup->L[i]? =some o->L[j]? =some p->o.dst=some t->p.dst=some t->i=j
 | [],_,_,_,_,_,e,_,_,_=>by simp at e
 | x::L,0,0,_,_,_,_,_,_,_=>rfl
 | x::L,0,j+1,o,p,b,e,a,h,c=>by simp at e a;subst e;simp only [bO,h] at b;exact absurd (wC (List.mem_of_getElem? a) c) (List.nodup_cons.1 b).1
 | x::L,i+1,0,o,p,b,e,a,h,c=>by simp at e a;subst a;simp only [bO,c] at b;exact absurd (wC (List.mem_of_getElem? e) h) (List.nodup_cons.1 b).1
 | x::L,i+1,j+1,o,p,b,e,a,h,c=>by
  have g:(bO L).Nodup:=by simp only [bO] at b;grind
  have d:L[i]? =some o:=by simpa using e
  have f:L[j]? =some p:=by simpa using a
  have:=sQ g d f h c;omega
def uD (L:List Oper):List Nat->Prop
 | []=>True
 | i::d=>(∀o,L[i]? =some o->∀k∈waits o,k∈d)/\uD L d
theorem xr {L:List Oper} {a:List Nat}:∀ {d:List Nat},uD L d->(∃i∈d,i∉a)->∃i∈d,i∉a/\∀o,L[i]? =some o->∀k∈waits o,k∈a
 | [],_,⟨i,g,_⟩=>by cases g
 | i::d,c,n=>by
  by_cases b:∃j∈d,j∉a
  ·obtain ⟨j,p,q⟩:=xr c.2 b;grind
  ·have f:∀j∈d,j∈a:=λj hj=>Classical.byContradiction λe=>b ⟨j,hj,e⟩;obtain ⟨j,hj,l⟩:=n;rcases List.mem_cons.1 hj with rfl | hj
   ·exact ⟨j,List.mem_cons_self ..,l,λo m k h=>f k (c.1 o m k h)⟩
   grind
def kE (L:List Oper) (done ls:List Nat) (t:Nat):Prop:=∀i o,i∈done->i∉ls->L[i]? =some o->o.dst≠some t
def qM (L:List Oper) (done:List Nat) (t:Nat):Prop:=∃i o,i∈done/\L[i]? =some o/\o.dst=some t
def pK (C:Ctx) (L:List Oper) (done:List Nat) (k:Nat):Prop:=∃i o,i∉done/\L[i]? =some o/\cd C.aK o k
def gI (C:Ctx) (L:List Oper) (done ls:List Nat) (k:Nat):Prop:=(∀i o,i∈done->i∉ls->L[i]? =some o->¬cd C.aK o k)/\¬pK C L done k
structure mL (C:Ctx) (L:List Oper) (mok:List Nat) (n:Nat) (lv0:Nat->Prop) (β0:Nat->Nat) (a0:Act) (h0:Hp) (w0:World) (done ls:List Nat) (listed:Array Bool) (β:Nat->Nat) (s:St) (a:Act) (h:Hp) (w:World):Prop where
 zl:listed.size=L.length
 zk:∀i,listed.getD i false=true↔i∈ls
 BC:ls.Nodup
 iM:∀i∈ls,i∈done
 qO:∀i∈done,i<L.length
 pU:uw L (· ∈ls)
 kh:uw L (· ∈done)
 ry:uD L done
 rr:RR n (kE L done ls) (gI C L done ls) (qM L done) (pK C L done) β s a h w
 facts:∀i o,i∈done->i∉ls->L[i]? =some o->mJ C L o s h/\de L (bw L []) i o=true/\gD (bw L []) i o L 0=false/\∀d,cd C.aK o d->d∈mok
 vd:gm (bO L) mok lv0 β0 a0 h0 w0 (live s (gI C L done ls)) β a h w
section
variable {C:Ctx} {L:List Oper} {mok:List Nat} {n:Nat} {lv0:Nat->Prop} {β0:Nat->Nat} {a0:Act} {h0:Hp} {w0:World} {done ls:List Nat} {c:Array Bool} {β:Nat->Nat} {s:St} {a:Act} {h:Hp} {w:World}
theorem yu {i:Nat} {o p:Oper} (h:L[i]? =some o) (b:L[i]? =some p):p=o:=by grind
theorem D2 (l:(bO L).Nodup) {i:Nat} {o:Oper} (k:L[i]? =some o) (m:i∈done) (t:Nat):kE L done (i::ls) t↔(o.dst=some t\/kE L done ls t):=by
 constructor
 ·intro hc;by_cases g:o.dst=some t
  ·exact .inl g
  ·refine .inr λj p d f b=> ?_;by_cases q:j=i
   ·grind
   ·exact hc j p d (λe=>by grind) b
 ·rintro (g | hc) j p d f b
  ·intro e;exact f (by rw [sQ l b k e g];simp)
  ·exact hc j p d (λe=>f (List.mem_cons_of_mem _ e)) b
theorem D3 (q:(bO L).Nodup) {i:Nat} {o:Oper} (m:L[i]? =some o) (t:i∈done) (k:Nat):gI C L done (i::ls) k↔(cd C.aK o k\/gI C L done ls k):=by
 constructor
 ·rintro ⟨l,g⟩;by_cases hp:cd C.aK o k
  ·exact .inl hp
  ·refine .inr ⟨λj p f b d=> ?_,g⟩;grind
 ·rintro (hp | ⟨l,g⟩)
  ·refine ⟨λj p f b d r=>b (by rw [sQ q d m r.2 hp.2];simp),?_⟩;rintro ⟨j,p,f,b,d⟩;exact f (by rw [sQ q b m d.2 hp.2];exact t)
  ·exact ⟨λj p f b d=>l j p f (λe=>b (List.mem_cons_of_mem _ e)) d,g⟩
theorem KY {i j:Nat} (f:c.size=L.length) (d:i<L.length) (e:∀i,c.getD i false=true↔i∈ls):(c.setIfInBounds i true).getD j false=true↔j∈i::ls:=by
 by_cases b:j=i
 ·subst b;simp [f,d]
 ·have:=e j;simp [Array.getElem?_setIfInBounds_ne (Ne.symm b),b] at this ⊢;exact this
theorem Cu (e:mL C L mok n lv0 β0 a0 h0 w0 done ls c β s a h w) {i:Nat} {o:Oper} (t:L[i]? =some o) (v:∀k∈waits o,k∈done) (r:de L (bw L []) i o=true) {ch:aS}
  (m:pd L L.length o=some ch) (q:sO s ch=true):∀p∈ch,qM L done p.1:=
 Jo e.rr m q λj b p d f g l=>⟨j,p,yi (CQ r f) (· ∈done) e.kh (λx u=>by grind),by rw [<-ma];exact g,l⟩
theorem D4 (ok:C.tb.Ok C.P) {ops:Array Oper} (b8:ops.toList=L) (z:(bO L).Nodup)
  (f:mL C L mok n lv0 β0 a0 h0 w0 done ls c β s a h w) {i:Nat} {o:Oper} (q:L[i]? =some o) (m:i∈done) (F:i∉ls) (hw:∀k∈waits o,k∈ls)
  (next:Act->World->Prop) (Q:Exit->Act->World->Prop)
  (hk:∀B r g,mL C L mok n lv0 β0 a0 h0 w0 done (i::ls) (c.setIfInBounds i true) B s r h g->next r g):wpOp C.P ops Q i next a w:=by
 obtain ⟨⟨ch,b1,hg,b9⟩,b5,c6,b6⟩:=f.facts i o m F q;have b0:∀j∈kN (bw L []) i,j∈ls:=λj hj=>yi hj (· ∈ls) f.pU (λo' c5=>by grind);have J:∀t,Operand.tmp t∈o.op.operands->kE L done ls t:=λt ht j p A y D I=>by have:=vQ I (f.facts j p A y D).2.2.1 i o q ht;grind
 have c3:∀j b p d,o.guard=some (j,b)->nth L j=some p->p.dst=some d->kE L done ls d:=λj b p d e1 S e3 j' p' A y D I=>by rw [ma] at S;have:=sQ z D S I e3;subst this;exact y (b0 _ (CQ b5 e1))
 have Y:∀x∈o.op.operands,eg β s a.eval x:=λx hx=>Cq f.rr λt e=>J t (e▸hx);have R:=KT (ops:=ops) f.rr (by rw [b8];exact b1) hg (by grind);have b7:ops[i]? =some o:=by grind
 have b3:i<L.length:=f.qO i m;have W:∀d,o.dst=some d->¬kE L done ls d:=λd e hc=>hc i o m F q e;have fin:∀B r g,RR n (kE L done (i::ls)) (gI C L done (i::ls)) (qM L done) (pK C L done) B s r h g->gm (bO L) mok (live s (gI C L done ls)) β a h w (live s (gI C L done (i::ls))) B r h g->next r g:=by
  intro B r g G c1;refine hk B r g ⟨by simpa using f.zl,λj=>KY f.zl b3 f.zk,List.nodup_cons.2 ⟨F,f.BC⟩,λj hj=> ?_,f.qO,?_,f.kh,f.ry,G,λj p A y D=>f.facts j p A (λe=>y (List.mem_cons_of_mem _ e)) D,f.vd.trans c1⟩
  ·rcases List.mem_cons.1 hj with rfl | hj
   ·exact m
   ·exact f.iM j hj
  ·intro j p hj hjm k b4;rcases List.mem_cons.1 hjm with rfl | hjm
   ·grind
   ·exact List.mem_cons_of_mem _ (f.pU j p hj hjm k b4)
 have T:∀d,o.dst=some d->d∈bO L:=λd e=>wC (List.mem_of_getElem? q) e;unfold wpOp;simp only [b7];rcases b9 with ⟨Z,_,l,hl,N,c0,_⟩ | ⟨rfl,Z,d,cs,hp,b2,V,N⟩
 ·have c4:∀k,¬cd C.aK o k:=EI (Nj Z);have M:∀k,gI C L done (i::ls) k↔gI C L done ls k:=λk=>by rw [D3 z q m k];grind
  have a9:∀(v:Value) (g:World),Step h h w g->(holds s ch->v=LVal β l)->(¬holds s ch->v=undef)->next (a.put o.dst v) g:=by
   intro v g H A y;refine fin β _ g ?_ (((gm.step H).trans (gm.put (lv:=live s (gI C L done ls)) T)).mono (λ_ e=>e) (λ_ e=>e) (λ_ e=>e) (λk e=>⟨e.1,(M k).1 e.2⟩));have G:=f.rr.step H;cases E:o.dst with
   | none=>exact G.congr (λt=>by rw [D2 z q m t];simp [E]) M (λ_ e=>e) (λ_ e=>e)
   | some d=>have:=G.exec (v:=v) (hl d E) (W d E) (λu=>⟨A u,λk off e=>(Jp f.rr c0 u J k off e).1⟩) y;refine this.congr (λt=> ?_) M (λ_ e=>e) (λ_ e=>e);rw [D2 z q m t,E];grind
  by_cases u:holds s ch
  ·rw [if_pos (R.2 u)];left;obtain ⟨g,O,a8,H⟩:=N u β a.eval w Y (λ_=>f.rr.sub) (λ_=>Jn f.rr J);unfold Oper.wp;rw [O];have c2:Step h h w g:=by
    cases K:bZ C.tb o ch s with
    | mem=>exact H K
    | pure=>rw [a8 (by rw [K];simp)];exact .refl f.rr.sub
    | box=>rw [a8 (by rw [K];simp)];exact .refl f.rr.sub
   exact a9 _ g c2 (λ_=>rfl) (λe=>absurd u e)
  ·rw [if_neg (λe=>u (R.1 e))];exact a9 _ w (.refl f.rr.sub) (λe=>absurd e u) (λ_=>rfl)
 ·rw [if_pos (R.2 (bz s))];left;obtain ⟨t,O⟩:=N β a.eval w Y;unfold Oper.wp;rw [O];show next (a.put o.dst _) _
  have X:¬gI C L done ls d:=λe=>e.1 i o m F q hp;rw [hp.2];have U:∀k,cd C.aK o k↔k=d:=λk=>⟨λe=>by have:=e.2;rw [hp.2] at this;cases this;rfl,λe=>e▸hp⟩;refine fin _ _ _ ((f.rr.zf t b2 V (W d hp.2) X).congr (λt=> ?_) (λk=> ?_) (λ_ e=>e) (λ_ e=>e)) ((Gz (a:=a) (β:=β) t f.rr.sub V X (T d hp.2) (b6 d hp)).mono (λ_ e=>e) (λ_ e=>e) (λ_ e=>e) (λk e=>⟨e.1,?_⟩))
  ·rw [D2 z q m t,hp.2];grind
  ·rw [D3 z q m k,U]
  ·have:=e.2;rw [D3 z q m k,U] at this;exact this
end
section
variable {C:Ctx} {L:List Oper} {mok:List Nat} {n:Nat} {lv0:Nat->Prop} {β0:Nat->Nat} {a0:Act} {h0:Hp} {w0:World} {done ls:List Nat} {g:Array Bool} {β:Nat->Nat} {s:St} {a:Act} {h:Hp} {w:World}
theorem RA {D:Nat->Prop} {o:Oper} {s':St} (k:iU D o s s') (i:∀ch,pd L L.length o=some ch->sO s ch=true->∀p∈ch,D p.1) (u:∀d,o.dst=some d->D d)
  (F:∀t,Operand.tmp t∈o.op.operands->∀b off c,(s.f t=some (.box b off,c)\/s.f t=some (.dz b off,c))->holds s c->s'.m b=s.m b) (K:∀d,cd C.aK o d->s'.m d=s.m d)
  (hp:mJ C L o s h):mJ C L o s' h:=by
 obtain ⟨ch,r,v,G⟩:=hp;have i:=i ch r v;refine ⟨ch,r,by rw [Nl k i];exact v,?_⟩;rcases G with ⟨q,I,l,E,j,H,J⟩ | ⟨rfl,q,d,y,x,z,M,j⟩
 ·refine .inl ⟨q,by rw [k.kind];exact I,l,λd e=>by rw [k.dn d (u d e)];exact E d e,λA=> ?_,k.BN H,λB=>J (by rw [<-k.kind (s':=s')];exact B)⟩;rw [k.kind];exact Ly k (λ_=>F) (λ_=>rfl) (j ((k.lK i).1 A))
 ·exact .inr ⟨rfl,q,d,y,x,by rw [k.dn d (u d x.2)];exact z,by grind,C9 k j⟩
theorem Ig (v:(bO L).Nodup) (z:mL C L mok n lv0 β0 a0 h0 w0 done ls g β s a h w) {i:Nat} {o:Oper} (u:L[i]? =some o) (E:i∉done) {k:St} (d:∀t,o.dst≠some t->k.f t=s.f t)
  {j:Nat} {p:Oper} (B:L[j]? =some p) (D:j∈done) (x:∀t,Operand.tmp t∈p.op.operands->o.dst=some t->False):iU (qM L done) p s k:=by
 refine ⟨λt b=>d t λe=> ?_,λt b=>d t λe=>x t b e,λt l c e q y=>z.rr.chain t l c e q y⟩;obtain ⟨F,G,A,m,r⟩:=b;have:=sQ v m u r e;grind
theorem ze (b:mL C L mok n lv0 β0 a0 h0 w0 done ls g β s a h w) {j:Nat} {p:Oper} (f:L[j]? =some p) (c:j∈done) {i:Nat} (h:i∈kN (bw L []) j):i∈done:=
 yi h (· ∈done) b.kh λe d=>b.kh j e d c
theorem KZ (B:(bO L).Nodup) (q:mL C L mok n lv0 β0 a0 h0 w0 done ls g β s a h w) {i:Nat} {o:Oper} (v:L[i]? =some o) (hid:i∉done) (M:gD (bw L []) i o L 0=false)
  {u:St} (H:∀t,o.dst≠some t->u.f t=s.f t) (A:∀k,u.m k=s.m k\/cd C.aK o k) {j:Nat} {p:Oper} (r:j∈done) (J:j∉ls) (l:L[j]? =some p):
  mJ C L p u h/\de L (bw L []) j p=true/\gD (bw L []) j p L 0=false/\∀d,cd C.aK p d->d∈mok:=by
 obtain ⟨E,x,F⟩:=q.facts j p r J l;refine ⟨?_,x,F⟩;have k:iU (qM L done) p s u:=Ig B q v hid H l r λt D e=>by have:=vQ e M j p l D;rw [Nat.zero_add] at this;exact hid (ze q l r this)
 refine RA k (λch G I=>Cu q l (q.kh j p l r) x G I) (λd e=>⟨j,p,r,l,e⟩) (λt D b off c hfb z=> ?_) (λd hp=> ?_) E
 ·refine (A b).resolve_right λhp=> ?_;have y:pK C L done b:=⟨i,o,hid,v,hp⟩;rcases hfb with hfb | hfb
  ·exact (q.rr.jz b y t _ c hfb z off).1 rfl
  ·exact (q.rr.jz b y t _ c hfb z off).2 rfl
 ·refine (A d).resolve_right λK=> ?_;have:=sQ B v l K.2 hp.2;grind
theorem LP (b:mL C L mok n lv0 β0 a0 h0 w0 done ls g β s a h w) {i:Nat} {o:Oper} (q:L[i]? =some o) (hid:i∉done) (t:∀k∈waits o,k∈done) {c:St}
  (l:RR n (kE L (i::done) ls) (gI C L (i::done) ls) (qM L (i::done)) (pK C L (i::done)) β c a h w)
  (e:∀j p,j∈i::done->j∉ls->L[j]? =some p->mJ C L p c h/\de L (bw L []) j p=true/\gD (bw L []) j p L 0=false/\∀d,cd C.aK p d->d∈mok)
  (m:gm (bO L) mok lv0 β0 a0 h0 w0 (live c (gI C L (i::done) ls)) β a h w):mL C L mok n lv0 β0 a0 h0 w0 (i::done) ls g β c a h w:=by
 refine ⟨b.zl,b.zk,b.BC,λj hj=>List.mem_cons_of_mem _ (b.iM j hj),λj hj=> ?_,b.pU,?_,⟨λu r=>by grind,b.ry⟩,l,e,m⟩
 ·rcases List.mem_cons.1 hj with rfl | hj
  ·grind
  ·exact b.qO j hj
 ·intro j p hj hjm k f;rcases List.mem_cons.1 hjm with rfl | hjm
  ·grind
  ·exact List.mem_cons_of_mem _ (b.kh j p hj hjm k f)
theorem D6 (q:mL C L mok n lv0 β0 a0 h0 w0 done ls g β s a h w) {i:Nat} {o:Oper} (m:L[i]? =some o) (hid:i∉done) (t:Nat):kE L (i::done) ls t↔(o.dst≠some t/\kE L done ls t):=by
 constructor
 ·exact λd=>⟨d i o (List.mem_cons_self ..) (λe=>hid (q.iM i e)) m,λj p c b l=>d j p (List.mem_cons_of_mem _ c) b l⟩
 ·rintro ⟨c,b⟩ j p e1 f k;rcases List.mem_cons.1 e1 with rfl | e1
  ·grind
  ·exact b j p e1 f k
theorem Bg (l:(bO L).Nodup) {i:Nat} {o:Oper} (f:L[i]? =some o) (hid:i∉done) (k:Nat):pK C L (i::done) k↔(¬cd C.aK o k/\pK C L done k):=by
 constructor
 ·rintro ⟨j,p,d,b,c⟩;refine ⟨λe=> ?_,j,p,λe=>d (List.mem_cons_of_mem _ e),b,c⟩;exact d (by rw [sQ l b f c.2 e.2];simp)
 ·rintro ⟨h0,j,p,d,b,c⟩;refine ⟨j,p,λe=> ?_,b,c⟩;grind
theorem xU (q:(bO L).Nodup) (r:mL C L mok n lv0 β0 a0 h0 w0 done ls g β s a h w) {i:Nat} {o:Oper} (d:L[i]? =some o) (hid:i∉done) (k:Nat):
  gI C L (i::done) ls k↔(¬cd C.aK o k/\gI C L done ls k):=by
 constructor
 ·rintro ⟨b,c⟩;have hp:¬cd C.aK o k:=b i o (List.mem_cons_self ..) (λe=>hid (r.iM i e)) d;exact ⟨hp,λj p f l m=>b j p (List.mem_cons_of_mem _ f) l m,λe=>c ((Bg q d hid k).2 ⟨hp,e⟩)⟩
 ·rintro ⟨hp,b,c⟩;refine ⟨λj p f l m=> ?_,λe=>c ((Bg q d hid k).1 e).2⟩;grind
theorem yv {i:Nat} (t:Nat) (h:qM L done t):qM L (i::done) t:=by obtain ⟨j,p,b,c,d⟩:=h;exact ⟨j,p,List.mem_cons_of_mem _ b,c,d⟩
theorem W4 (ok:C.tb.Ok C.P) (y:(bO L).Nodup) (c0:∀d∈bO L,d<n) (r:mL C L mok n lv0 β0 a0 h0 w0 done ls g β s a h w) {i:Nat} {o:Oper} (u:L[i]? =some o) (hid:i∉done)
  (hw:∀k∈waits o,k∈done) (a8:de L (bw L []) i o=true) (J:gD (bw L []) i o L 0=false) (c6:isVal C.tb o=true\/ly C.aK o=true) {K:St->Hp->Prop}
  (Z:Dw C L o s=true) (hv:BM C L mok o s h K):∃s',K s' h/\mL C L mok n lv0 β0 a0 h0 w0 (i::done) ls g β s' a h w:=by
 unfold BM at hv;split at hv
 ·exact hv.elim
 rename_i ch V;cases N:sO s ch with
 | false=>simp [N] at hv
 | true=>
 simp only [N,cond_true] at hv;have T:∀p∈ch,qM L done p.1:=Cu r u hw a8 V N;have b3:∀d,o.dst=some d->¬qM L done d:=λd e ⟨j,p,h1,E,z⟩=>hid (by rw [<-sQ y E u z e];exact h1);have b4:∀d,o.dst=some d->d<n:=λd e=>c0 d (wC (List.mem_of_getElem? u) e);have b8:∀ {s':St},(∀t,o.dst≠some t->s'.f t=s.f t)->iU (qM L done) o s s':=λB=>by refine ⟨λt ⟨j,p,h1,E,z⟩=>B t λe=>hid (by grind),λt I=>B t λe=> ?_,λt l c e q hq=>r.rr.chain t l c e q hq⟩;have:=vQ e J i o u I;rw [Nat.zero_add] at this;exact hid (yi this (· ∈done) r.kh λo' c7=>by grind)
 cases G:isVal C.tb o with
 | true=>
  simp only [G,cond_true] at hv;obtain ⟨l,H,b0,b7,c4⟩:=Up ok hv;have c1:∀k,¬cd C.aK o k:=EI (Nj G);have c3:qG C.tb o=true\/bZ C.tb o ch s=.pure:=by unfold Dw at Z;grind
  have B:∀t,o.dst≠some t->(s.put o.dst l ch).f t=s.f t:=λt I=>u7 s _ _ _ t I;have k:=b8 B;refine ⟨_,H,LP r u hid hw ?_ (λj p h1 E z=> ?_) ?_⟩
  ·have hb:holds s ch->∀k o',(l=.box k o'\/l=.dz k o')->¬pK C L done k:=λO b off e M=>by
    obtain ⟨x,hx,b9,hev⟩:=b7 b off e;rcases hev with hev | hev
    ·obtain ⟨t,c,rfl,X,U⟩:=rL hev (by simp) O;exact (r.rr.jz b M t _ c X U b9).1 rfl
    ·obtain ⟨t,c,rfl,X,U⟩:=rL hev (by simp) O;exact (r.rr.jz b M t _ c X U b9).2 rfl
   have b5:∀k,gI C L (i::done) ls k↔gI C L done ls k:=λk=>by rw [xU y r u hid k];grind
   have b6:∀k,pK C L (i::done) k->pK C L done k:=λk e=>((Bg y u hid k).1 e).2;cases A:o.dst with
   | none=>exact r.rr.congr (λt=>by rw [D6 r u hid t,A];simp) b5 yv b6
   | some d=>refine (r.rr.lift (l:=l) (ch:=ch) (b4 d A) (b3 d A) T hb).congr (λt=> ?_) b5 yv b6;rw [D6 r u hid t,A];grind
  ·rcases List.mem_cons.1 h1 with rfl | h1
   ·rw [yu u z];refine ⟨⟨ch,V,by rw [Nl k T];exact N,.inl ⟨G,by rw [k.kind];exact c3,l,λd e=>by rw [e];exact ET _ _ _ _,λO=> ?_,k.BN b7,λZ=>c4 (by rw [<-k.kind (s':=s.put o.dst l ch)];exact Z)⟩⟩,a8,J,λd hp=>absurd hp (c1 d)⟩;rw [k.kind];exact Ly k (λ_ t _ b off c _ _=>by rw [lW]) (λ_=>rfl) (b0 ((k.lK T).1 O))
   ·exact KZ y r u hid J B (λk=>.inl (by rw [lW])) h1 E z
  ·refine r.vd.mono (λ_ e=>e) (λ_ e=>e) (λ_ e=>e) (λk e=>⟨?_,((xU y r u hid k).1 e.2).2⟩);have:=e.1
   rwa [lW] at this
 | false=>
  simp only [G,cond_false] at hv;have a9:ly C.aK o=true:=c6.resolve_left (by rw [G];simp);have b1:∀(d:Nat) (D:List Value),K ((s.put (some d) (.box d 0) []).fV d D) h->cd C.aK o d->ch=[]->has mok d=true->
    (∀(β:Nat->Nat) (R:Operand->Value) (w:World),(∀x∈o.op.operands,eg β s R x)->
     ∃t,(execOp R o).run C.P w=.ok (.value (.pointer (some ⟨w.heap.size,0,none⟩))) {w with heap:=w.heap.push (.cells D.toArray t (0,0))})->
    ∃s',K s' h/\mL C L mok n lv0 β0 a0 h0 w0 (i::done) ls g β s' a h w:=by
   intro d D H hp W F b0;subst W;have Y:∀k,cd C.aK o k↔k=d:=λk=>⟨λe=>by have:=e.2;rw [hp.2] at this;cases this;rfl,λe=>e▸hp⟩;have B:∀t,o.dst≠some t->((s.put (some d) (.box d 0) []).fV d D).f t=s.f t:=λt I=>rM s _ _ λe=>I (by rw [hp.2,e]);have hm:∀k,k≠d->((s.put (some d) (.box d 0) []).fV d D).m k=s.m k:=λk H=>vU _ _ H;have k:=b8 B;have M:pK C L done d:=⟨i,o,hid,u,hp⟩;refine ⟨_,H,LP r u hid hw ?_ (λj p h1 E z=> ?_) ?_⟩
   ·refine (r.rr.zj D (b4 d hp.2) (b3 d hp.2) M).congr (λt=> ?_) (λk=> ?_) yv (λk e=> ?_)
    ·rw [D6 r u hid t,hp.2];grind
    ·rw [xU y r u hid k,Y]
    ·have:=(Bg y u hid k).1 e;grind
   ·rcases List.mem_cons.1 h1 with rfl | h1
    ·rw [yu u z];refine ⟨⟨[],V,rfl,.inr ⟨rfl,G,d,D,hp,ET _ _ _ _,xQ _ _ _,C9 k b0⟩⟩,a8,J,λd' c2=> ?_⟩;rw [(Y d').1 c2];exact (qD _ _).1 F
    ·exact KZ y r u hid J B (λk=>by
      grind) h1 E z
   ·refine r.vd.mono (λ_ e=>e) (λ_ e=>e) (λ_ e=>e) (λk e=> ?_);have hl:=(xU y r u hid k).1 e.2;rw [Y] at hl;refine ⟨?_,hl.2⟩;have:=e.1;grind
  split at hv
  ·rename_i d A;have b2:o.dst=some d/\has C.aK d=true:=by unfold pW at A;grind
   cases F:has mok d with
   | false=>simp [F] at hv
   | true=>
    simp only [F,cond_true] at hv;split at hv
    ·rename_i t Q;split at hv
     ·rename_i e W;refine b1 d (bg e.zero) hv ⟨a9,b2.1⟩ rfl F λβ R w _=>⟨t,?_⟩;have S:(bg e.zero).toArray=e.zero.cells:=by apply Array.ext';simp [nq]
      rw [S];simp [execOp,Q,Instr.alloc,bX ok W,newVar,sM]
     ·exact hv.elim
    ·rename_i t x Q;obtain ⟨v,hev,c5⟩:=jB hv;refine b1 d (bg v) c5 ⟨a9,b2.1⟩ rfl F λβ R w ho=>⟨t,?_⟩;have hx:=bx (ho x (by simp [Q,Op.operands])) (bz s) hev;have S:(bg v).toArray=v.cells:=by apply Array.ext';simp [nq]
     rw [S];simp [execOp,Q,hx,LVal,Instr.box,newVar,sM]
    ·exact hv.elim
  ·exact hv.elim
  ·rename_i A;exfalso;unfold pW at A;unfold ly at a9;grind
end
end Lf
