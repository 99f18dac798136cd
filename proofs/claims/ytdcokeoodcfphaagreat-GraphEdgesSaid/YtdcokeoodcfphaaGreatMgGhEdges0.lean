/-
  Part 1 of the texts that the claim leans on.
-/
import Derived.Calls
import Derived.Orders
import Derived.Scope
import Derived.ScopeJumps
import Derived.KernelRfl
import Derived.Laws.Sem
abbrev yw(n:Int):Int:=Go.IntKind.wrap .i64 n
set_option maxRecDepth 100000
namespace Lf
open Go
theorem fT {p:Prop} [Decidable p] (h:p:=by omega):decide p=true:=decide_eq_true h
theorem iT {p:Prop} [Decidable p] {c:Sort _} {a b:c} (h:¬p:=by simp):(if p then a else b)=b:=if_neg h
theorem om {p:Prop} [Decidable p] {c:Sort _} {a b:c} (h:¬p:=by omega):(if p then a else b)=b:=if_neg h
def Hp :Type:=Nat->Option Obj
def Hp.set (h:Hp) (b:Nat) (o:Obj):Hp:=λi=>if i=b then some o else h i
instance:LE Hp:=⟨λh h'=>∀b o,h b=some o->h' b=some o⟩
theorem Hp.le_refl (h:Hp):h<=h:=λ_ _ e=>e
theorem Hp.le_trans {a b c:Hp} (h:a<=b) (k:b<=c):a<=c:=λi o e=>k i o (h i o e)
def dh (h:Hp) (a:Addr):Option Value:=
 match h a.block with
 | some (.cells c _ _)=>if a.spot.isSome then none else c[a.off]?
 | _=>none
def gN (h:Hp) (a:Addr):Bool:=
 match h a.block with
 | some (.cells _ _ (lo,hi))=>lo<=a.off&&a.off<hi
 | _=>false
def Hp.put (h:Hp) (a:Addr) (v:Value):Hp:=
 match h a.block with
 | some (.cells c e fr)=>h.set a.block (.cells (if a.spot.isSome then c else c.setIfInBounds a.off v) e fr)
 | _=>h
def EP :Obj->Option (TypeId×Nat)
 | .cells c e _=>some (e,c.size)
 | _=>none
def isCells :Obj->Bool
 | .cells .. =>true
 | _=>false
def dg {α:Type} (P:Program):Sem α->(α->Hp->Prop)->Hp->Prop
 | .pure a,K,h=>K a h
 | .load _ a k,K,h=>∃v,dh h a=some v/\dg P (k v) K h
 | .store _ _ (.agg _) _,_,_ | .store _ _ (.tuple _) _,_,_=>False
 | .store _ a v k,K,h=>(∃v0,dh h a=some v0)/\gN h a=false/\dg P k K (h.put a v)
 | .new o k,K,h=>∀b,h b=none->dg P (k b) K (h.set b o)
 | .shape r k,K,h=>∃o,h r=some o/\dg P (k (EP o)) K h
 | .freeze _ _ _,_,_=>False
 | .frozen a k,K,h=>(∃o,h a.block=some o)/\dg P (k (gN h a)) K h
 | .getObj r k,K,h=>∃o,h r=some o/\isCells o=false/\dg P (k o) K h
 | .setObj r o k,K,h=>(∃c,h r=some c/\isCells c=false)/\dg P k K (h.set r o)
 | .choose q k,K,h=>if q.forced then dg P (k 0) K h else ∀t,dg P (k (q.cut t)) K h
 | .sys _ _,_,_=>False
 | .program k,K,h=>dg P (k P) K h
 | .mark _ k,K,h=>dg P k K h
 | .halt _,_,_=>False
def Sub (h:Hp) (w:World):Prop:=∀b o,h b=some o->w.heap[b]? =some o
structure Step (h h':Hp) (w w':World):Prop where
 sub:Sub h' w'
 size:w.heap.size<=w'.heap.size
 cT:∀b,b<w.heap.size->h b=none->w'.heap[b]? =w.heap[b]?/\h' b=none
 os:w'.os=w.os
 tape:w'.tape=w.tape
 output:w'.output=w.output
theorem Sub.lt {h:Hp} {w:World} (a:Sub h w) {b:Nat} {o:Obj} (e:h b=some o):b<w.heap.size:=by have:=a b o e;grind
theorem Sub.mono {h a:Hp} {w:World} (d:Sub a w) (c:h<=a):Sub h w:=λb o e=>d b o (c b o e)
theorem Step.refl {h:Hp} {w:World} (a:Sub h w):Step h h w w:=
 ⟨a,Nat.le_refl _,λ_ _ h=>⟨rfl,h⟩,rfl,rfl,rfl⟩
theorem Step.trans {c d e:Hp} {f g h:World} (a:Step c d f g) (b:Step d e g h):Step c e f h:=by refine ⟨b.sub,Nat.le_trans a.size b.size,λi hi j=> ?_,b.os.trans a.os,b.tape.trans a.tape,b.output.trans a.output⟩;have h1:=a.cT i hi j;have k:=b.cT i (Nat.lt_of_lt_of_le hi a.size) h1.2;grind
theorem Step.drew {h b:Hp} {w c:World} {n:Nat} (a:Step h b {w with drawn:=n} c):Step h b w c:=
 ⟨a.sub,a.size,a.cT,a.os,a.tape,a.output⟩
theorem vb {h:Hp} {w:World} (b:Sub h w) {a:Addr} {v:Value} (e:dh h a=some v):w.cell? a=some v:=by
 unfold dh at e;cases hb:h a.block with
 | none=>simp [hb] at e
 | some o=>have:=b _ _ hb;unfold World.cell?;grind
theorem Dr {h:Hp} {w:World} (b:Sub h w) {a:Addr} {o:Obj} (e:h a.block=some o):w.frozen? a=gN h a:=by have:=b _ _ e;unfold World.frozen? gN;grind
theorem D6 {h:Hp} {a:Addr} {v:Value} (e:dh h a=some v):
  ∃c t fr,h a.block=some (.cells c t fr)/\a.spot=none/\c[a.off]? =some v:=by
 unfold dh at e;split at e
 ·rename_i c t fr hb;refine ⟨c,t,fr,hb,?_⟩;cases b:a.spot with
  | none=>simp [b] at e;exact ⟨rfl,e⟩
  | some s=>simp [b] at e
 grind
theorem Yq {h:Hp} {a:Addr} {v v0:Value} (e:dh h a=some v0):
  ∃c t fr,h a.block=some (.cells c t fr)/\h.put a v=h.set a.block (.cells (c.setIfInBounds a.off v) t fr):=by
 obtain ⟨c,t,fr,hb,b,_⟩:=D6 e;refine ⟨c,t,fr,hb,?_⟩;unfold Hp.put;grind
theorem IC {h:Hp} {w:World} (a:Sub h w) {b:Nat} {o:Obj} (hb:b<w.heap.size):
  Sub (h.set b o) {w with heap:=w.heap.setIfInBounds b o}:=by
 intro i x e;unfold Hp.set at e;by_cases hi:i=b
 ·grind
 ·simp [hi] at e;have:=a _ _ e;grind
theorem M0 {h:Hp} {w:World} (f:Sub h w) {a:Addr} {v v0:Value} (e:dh h a=some v0):
  Step h (h.put a v) w (w.setCell a v):=by
 obtain ⟨c,t,fr,hb,l⟩:=Yq (v:=v) e;obtain ⟨_,_,_,o,m,_⟩:=D6 e;have g:=f.lt hb;have n:w.setCell a v={w with heap:=w.heap.setIfInBounds a.block (.cells (c.setIfInBounds a.off v) t fr)}:=by
  unfold World.setCell;congr 1;apply Array.ext_getElem?;intro i;by_cases hi:i=a.block
  ·subst hi;rw [Array.getElem?_setIfInBounds_self_of_lt g,Array.getElem?_modify,if_pos rfl,f _ _ hb];simp [m]
  ·rw [Array.getElem?_setIfInBounds_ne (Ne.symm hi),Array.getElem?_modify,if_neg (Ne.symm hi)]
 rw [l,n];refine ⟨IC f g,by simp,λb p d=> ?_,rfl,rfl,rfl⟩;have j:b≠a.block:=λk=>by rw [k,hb] at d;cases d
 refine ⟨by simp [Array.getElem?_setIfInBounds_ne (Ne.symm j)],?_⟩;unfold Hp.set;rw [if_neg j];exact d
theorem uC {h:Hp} {w:World} (d:Sub h w) {r:Nat} {o i:Obj} (e:h r=some i):
  Step h (h.set r o) w {w with heap:=w.heap.setIfInBounds r o}:=by
 have g:=d.lt e;refine ⟨IC d g,by simp,λb j a=> ?_,rfl,rfl,rfl⟩;have c:b≠r:=λf=>by rw [f,e] at a;cases a
 refine ⟨by simp [Array.getElem?_setIfInBounds_ne (Ne.symm c)],?_⟩;unfold Hp.set;rw [if_neg c];exact a
theorem Bd {h:Hp} {w:World} (a:Sub h w) (o:Obj):
  h w.heap.size=none/\Step h (h.set w.heap.size o) w {w with heap:=w.heap.push o}:=by
 have c:h w.heap.size=none:=by
  cases e:h w.heap.size with
  | none=>rfl
  | some x=>exact absurd (a.lt e) (Nat.lt_irrefl _)
 refine ⟨c,?_,by simp,λb hb f=> ?_,rfl,rfl,rfl⟩
 ·intro i x e;unfold Hp.set at e;by_cases hi:i=w.heap.size
  ·grind
  ·simp [hi] at e;have d:=a.lt e;have:=a _ _ e;grind
 ·refine ⟨by simp [Array.getElem?_push,Nat.ne_of_lt hb],?_⟩;unfold Hp.set;grind
theorem MX {C:Type} {P:Program} (s:Sem C):∀ {K:C->Hp->Prop} {h:Hp} {w:World},Sub h w->dg P s K h->
  ∃a f e,s.run P w=.ok a f/\K a e/\Step h e w f:=by
 induction s with
 | pure a=>intro K h w d b;exact ⟨a,w,h,rfl,b,.refl d⟩
 | load m a k i=>intro K h w d b;obtain ⟨v,hv,b⟩:=b;obtain ⟨x,f,e,l,j,g⟩:=i v d b;exact ⟨x,f,e,by simp only [Sem.run,vb d hv,l],j,g⟩
 | store m a v k i=>
  intro K h w d b;have J:((∃v0,dh h a=some v0)/\gN h a=false/\dg P k K (h.put a v))->(∀p,v≠ .agg p)->(∀p,v≠ .tuple p)->
    ∃x f e,(Sem.store m a v k).run P w=.ok x f/\K x e/\Step h e w f:=by
   rintro ⟨⟨v0,A⟩,D,b⟩ G H;have g:=M0 (v:=v) d A;obtain ⟨x,f,e,l,j,y⟩:=i g.sub b;refine ⟨x,f,e,?_,j,g.trans y⟩;have E:w.frozen? a=false:=by obtain ⟨c,t,fr,hb,_,_⟩:=D6 A;rw [Dr d hb];exact D
   cases v<;>first | exact absurd rfl (G _) | exact absurd rfl (H _) | simp only [Sem.run,vb d A,E,l,Bool.false_eq_true,if_false]
  cases v<;>first | exact b.elim | exact J b (by intros;simp) (by intros;simp)
 | new o k i=>intro K h w d b;obtain ⟨F,g⟩:=Bd d o;obtain ⟨x,f,e,l,j,y⟩:=i _ g.sub (b _ F);exact ⟨x,f,e,by simp only [Sem.run,l],j,g.trans y⟩
 | shape r k i=>
  intro K h w d b;obtain ⟨o,u,b⟩:=b;obtain ⟨x,f,e,l,j,g⟩:=i _ d b;refine ⟨x,f,e,?_,j,g⟩;simp only [Sem.run];have:w.shape? r=EP o:=by unfold World.shape?;rw [d _ _ u];cases o<;>rfl
  grind
 | freeze a n k i=>intro K h w d b;exact b.elim
 | frozen a k i=>intro K h w d b;obtain ⟨⟨o,u⟩,b⟩:=b;obtain ⟨x,f,e,l,j,g⟩:=i _ d b;refine ⟨x,f,e,?_,j,g⟩;simp only [Sem.run,Dr d u];exact l
 | getObj r k i=>intro K h w d b;obtain ⟨o,u,B,b⟩:=b;obtain ⟨x,f,e,l,j,g⟩:=i _ d b;refine ⟨x,f,e,?_,j,g⟩;simp only [Sem.run,d _ _ u];cases o<;>first | exact l | simp [isCells] at B
 | setObj r o k i=>intro K h w d b;obtain ⟨⟨L,u,B⟩,b⟩:=b;have g:=uC (o:=o) d u;obtain ⟨x,f,e,l,j,y⟩:=i g.sub b;refine ⟨x,f,e,?_,j,g.trans y⟩;simp only [Sem.run,d _ _ u];cases L<;>first | exact l | simp [isCells] at B
 | choose q k i=>
  intro K h w d b;simp only [dg] at b;by_cases z:q.forced=true
  ·simp only [z,if_true] at b;obtain ⟨x,f,e,l,j,g⟩:=i _ d b;exact ⟨x,f,e,by simp only [Sem.run,z,if_true,l],j,g⟩
  ·simp only [z,if_false,Bool.false_eq_true] at b;have I:Sub h {w with drawn:=w.drawn+1}:=d;obtain ⟨x,f,e,l,j,g⟩:=i _ I (b (w.tape w.drawn q));exact ⟨x,f,e,by simp only [Sem.run,z,if_false,Bool.false_eq_true,l],j,g.drew⟩
 | sys c k i=>intro K h w d b;exact b.elim
 | program k i=>intro K h w d b;obtain ⟨x,f,e,l,j,g⟩:=i _ d b;exact ⟨x,f,e,by simp only [Sem.run,l],j,g⟩
 | mark m k i=>intro K h w d b;obtain ⟨x,f,e,l,j,g⟩:=i d b;exact ⟨x,f,e,by simp only [Sem.run,l],j,g⟩
 | halt x=>intro K h w d b;exact b.elim
theorem Re {j:Type} {P:Program} (s:Sem j):∀ {K g:j->Hp->Prop} {h:Hp},(∀a h,K a h->g a h)->dg P s K h->dg P s g h:=by
 induction s with
 | pure a=>intro K g h e d;exact e _ _ d
 | load m a k f=>rintro K g h e ⟨v,hv,d⟩;exact ⟨v,hv,f _ e d⟩
 | store m a v k f=>intro K g h e d;cases v<;>first | exact d.elim | exact ⟨d.1,d.2.1,f e d.2.2⟩
 | new o k f=>intro K g h e d b hb;exact f _ e (d b hb)
 | shape r k f=>rintro K g h e ⟨o,i,d⟩;exact ⟨o,i,f _ e d⟩
 | freeze a n k f=>intro K g h e d;exact d.elim
 | frozen a k f=>rintro K g h e ⟨i,d⟩;exact ⟨i,f _ e d⟩
 | getObj r k f=>rintro K g h e ⟨o,i,l,d⟩;exact ⟨o,i,l,f _ e d⟩
 | setObj r o k f=>rintro K g h e ⟨i,d⟩;exact ⟨i,f e d⟩
 | choose q k f=>intro K g h e d;simp only [dg] at d ⊢;grind
 | sys c k f=>intro K g h e d;exact d.elim
 | program k f=>intro K g h e d;exact f _ e d
 | mark m k f=>intro K g h e d;exact f e d
 | halt x=>intro K g h e d;exact d.elim
theorem Ds {d e:Type} {P:Program} (s:Sem d) (f:d->Sem e):∀ {K:e->Hp->Prop} {h:Hp},
  dg P (s.bind f) K h↔dg P s (λa h=>dg P (f a) K h) h:=by
 induction s with
 | pure a=>intro K h;exact Iff.rfl
 | load m a k b=>intro K h;simp only [Sem.bind,dg];grind
 | store m a v k b=>intro K h;cases v<;>simp only [Sem.bind,dg]<;>first | exact Iff.rfl | grind
 | new o k b=>intro K h;simp only [Sem.bind,dg];grind
 | shape r k b=>intro K h;simp only [Sem.bind,dg];grind
 | freeze a n k b=>intro K h;exact Iff.rfl
 | frozen a k b=>intro K h;simp only [Sem.bind,dg];grind
 | getObj r k b=>intro K h;simp only [Sem.bind,dg];grind
 | setObj r o k b=>intro K h;simp only [Sem.bind,dg];grind
 | choose q k b=>intro K h;simp only [Sem.bind,dg];grind
 | sys c k b=>intro K h;exact Iff.rfl
 | program k b=>intro K h;simp only [Sem.bind,dg];exact b _
 | mark m k b=>intro K h;simp only [Sem.bind,dg];exact b
 | halt x=>intro K h;exact Iff.rfl
structure Shape where
 T:Type
 enc:T->Value
 dec:Value->Option T
 ok:∀v x,dec v=some x->enc x=v
structure Sl where
 base:Option Addr
 len:Nat
 cap:Nat
def Sl.v (s:Sl):Value:=.slice s.base s.len s.cap
def Gm :IntKind->IntKind->Bool
 | .i8,.i8 | .i16,.i16 | .i32,.i32 | .i64,.i64 | .u8,.u8 | .u16,.u16 | .u32,.u32 | .u64,.u64=>true
 | _,_=>false
theorem Ko {a b:IntKind} (h:Gm a b=true):a=b:=by cases a<;>cases b<;>first | rfl | cases h
def PZ :FloatKind->FloatKind->Bool
 | .f32,.f32 | .f64,.f64=>true
 | _,_=>false
theorem Ys {a b:FloatKind} (h:PZ a b=true):a=b:=by cases a<;>cases b<;>first | rfl | cases h
@[reducible] def ab (k : IntKind) : Shape where
 T:=Int
 enc:=λn=>.int k n
 dec:=λv=>match v with
  | .int b n=>cond (Gm b k) (some n) none
  | _=>none
 ok:=by
  intro v x h;split at h
  ·rename_i b n;cases a:Gm b k
   ·simp [a] at h
   ·simp [a] at h;rw [Ko a,h]
  ·cases h
@[reducible] def aW : Shape where
 T:=Bool
 enc:=λn=>.bool n
 dec:=λv=>match v with
  | .bool n=>some n
  | _=>none
 ok:=by intro v x h;split at h<;>cases h;rfl
@[reducible] def pX : Shape where
 T:=ByteArray
 enc:=λn=>.string n
 dec:=λv=>match v with
  | .string n=>some n
  | _=>none
 ok:=by intro v x h;split at h<;>cases h;rfl
@[reducible] def an : Shape where
 T:=Option Addr
 enc:=λn=>.pointer n
 dec:=λv=>match v with
  | .pointer n=>some n
  | _=>none
 ok:=by intro v x h;split at h<;>cases h;rfl
@[reducible] def af : Shape where
 T:=Sl
 enc:=λn=>.slice n.base n.len n.cap
 dec:=λv=>match v with
  | .slice a l c=>some ⟨a,l,c⟩
  | _=>none
 ok:=by grind
@[reducible] def gE : Shape where
 T:=Option Nat
 enc:=λn=>.map n
 dec:=λv=>match v with
  | .map n=>some n
  | _=>none
 ok:=by intro v x h;split at h<;>cases h;rfl
@[reducible] def jD (k : FloatKind) : Shape where
 T:=Nat
 enc:=λn=>.float k n
 dec:=λv=>match v with
  | .float b n=>cond (PZ b k) (some n) none
  | _=>none
 ok:=by
  intro v x h;split at h
  ·rename_i b n;cases a:PZ b k
   ·simp [a] at h
   ·simp [a] at h;rw [Ys a,h]
  ·cases h
@[reducible] def AY : Shape where
 T:=Value
 enc:=λv=>v
 dec:=λv=>some v
 ok:=by simp
def IE :Value->Bool
 | .agg _=>false
 | _=>true
structure FU where
 v:Value
 ok:IE v=true
@[reducible] def Yu : Shape where
 T:=FU
 enc:=λx=>x.v
 dec:=λv=>match h:IE v with
  | true=>some ⟨v,h⟩
  | false=>none
 ok:=by grind
structure xB where
 g:Nat
 first:Array Value
 captured:Array Value
@[reducible] def jV : Shape where
 T:=xB
 enc:=λx=>.func (.func x.g) x.first x.captured
 dec:=λv=>match v with
  | .func (.func g) a b=>some ⟨g,a,b⟩
  | _=>none
 ok:=by grind
structure sf (n:Nat) where
 l:List Value
 ok:Nat.beq l.length n=true
theorem sf.size {n:Nat} (x:sf n):(Array.mk x.l).size=n:=Nat.eq_of_beq_eq_true x.ok
@[reducible] def We (n : Nat) : Shape where
 T:=sf n
 enc:=λx=>.agg ⟨x.l⟩
 dec:=λv=>match v with
  | .agg ⟨l⟩=>match h:Nat.beq l.length n with
   | true=>some ⟨l,h⟩
   | false=>none
  | _=>none
 ok:=by grind
@[reducible] def uf : Shape where
 T:=Unit
 enc:=λ_=>.tuple #[]
 dec:=λv=>match v with
  | .tuple ⟨[]⟩=>some ()
  | _=>none
 ok:=by grind
structure AA where
 more:Bool
 rest:List Value
@[reducible] def Ks : Shape where
 T:=AA
 enc:=λx=>.tuple ⟨.bool x.more::x.rest⟩
 dec:=λv=>match v with
  | .tuple ⟨.bool b::r⟩=>some ⟨b,r⟩
  | _=>none
 ok:=by grind
@[reducible] def oj (a b : Shape) : Shape where
 T:=a.T×b.T
 enc:=λp=>.tuple #[a.enc p.1,b.enc p.2]
 dec:=λv=>match v with
  | .tuple ⟨[x,y]⟩=>match a.dec x,b.dec y with
   | some x,some y=>some (x,y)
   | _,_=>none
  | _=>none
 ok:=by
  intro v x h;split at h
  ·split at h
   ·rename_i c d;cases h;rw [a.ok _ _ c,b.ok _ _ d]
   ·cases h
  ·cases h
@[reducible] def sV (a b c : Shape) : Shape where
 T:=a.T×b.T×c.T
 enc:=λp=>.tuple #[a.enc p.1,b.enc p.2.1,c.enc p.2.2]
 dec:=λv=>match v with
  | .tuple ⟨[x,y,z]⟩=>match a.dec x,b.dec y,c.dec z with
   | some x,some y,some z=>some (x,y,z)
   | _,_,_=>none
  | _=>none
 ok:=by
  intro v x h;split at h
  ·split at h
   ·rename_i d e f;cases h;rw [a.ok _ _ d,b.ok _ _ e,c.ok _ _ f]
   ·cases h
  ·cases h
@[reducible] def Ac (a b c d : Shape) : Shape where
 T:=a.T×b.T×c.T×d.T
 enc:=λp=>.tuple #[a.enc p.1,b.enc p.2.1,c.enc p.2.2.1,d.enc p.2.2.2]
 dec:=λv=>match v with
  | .tuple ⟨[x,y,z,u]⟩=>match a.dec x,b.dec y,c.dec z,d.dec u with
   | some x,some y,some z,some u=>some (x,y,z,u)
   | _,_,_,_=>none
  | _=>none
 ok:=by
  intro v x h;split at h
  ·split at h
   ·rename_i e f g i;cases h;rw [a.ok _ _ e,b.ok _ _ f,c.ok _ _ g,d.ok _ _ i]
   ·cases h
  ·cases h
@[reducible] def Ad (a b c d e : Shape) : Shape where
 T:=a.T×b.T×c.T×d.T×e.T
 enc:=λp=>.tuple #[a.enc p.1,b.enc p.2.1,c.enc p.2.2.1,d.enc p.2.2.2.1,e.enc p.2.2.2.2]
 dec:=λv=>match v with
  | .tuple ⟨[x,y,z,u,w]⟩=>match a.dec x,b.dec y,c.dec z,d.dec u,e.dec w with
   | some x,some y,some z,some u,some w=>some (x,y,z,u,w)
   | _,_,_,_,_=>none
  | _=>none
 ok:=by
  intro v x h;split at h
  ·split at h
   ·rename_i f g i j k;cases h;rw [a.ok _ _ f,b.ok _ _ g,c.ok _ _ i,d.ok _ _ j,e.ok _ _ k]
   ·cases h
  ·cases h
@[reducible] def Yv (a b c d e f g : Shape) : Shape where
 T:=a.T×b.T×c.T×d.T×e.T×f.T×g.T
 enc:=λp=>.tuple #[a.enc p.1,b.enc p.2.1,c.enc p.2.2.1,d.enc p.2.2.2.1,e.enc p.2.2.2.2.1,f.enc p.2.2.2.2.2.1,g.enc p.2.2.2.2.2.2]
 dec:=λv=>match v with
  | .tuple ⟨[x,y,z,u,w,o,q]⟩=>match a.dec x,b.dec y,c.dec z,d.dec u,e.dec w,f.dec o,g.dec q with
   | some x,some y,some z,some u,some w,some o,some q=>some (x,y,z,u,w,o,q)
   | _,_,_,_,_,_,_=>none
  | _=>none
 ok:=by
  intro v x h;split at h
  ·split at h
   ·rename_i i j k l m n r;cases h;rw [a.ok _ _ i,b.ok _ _ j,c.ok _ _ k,d.ok _ _ l,e.ok _ _ m,f.ok _ _ n,g.ok _ _ r]
   ·cases h
  ·cases h
structure Ty where
 cm:TypeDesc
 size:Nat
 bytes:Nat
 zero:Value
 sh:Shape
structure Tb where
 ty:Nat->Option Ty
 call:Nat->Bool
 ext:Nat->Option (Array Value->Sem Value)
def pE :TypeDesc->Bool
 | .struct _ | .array _ _=>true
 | _=>false
def dN (tb:Tb) (t:Nat):Shape:=match tb.ty t with
 | some e=>e.sh
 | none=>uf
def nth {b:Type _}:List b->Nat->Option b
 | [],_=>none
 | a::_,0=>some a
 | _::l,n+1=>nth l n
def pS {a:Type _}:List a->Nat->List a
 | l,0=>l
 | [],_+1=> []
 | _::l,n+1=>pS l n
def pY {b:Type _}:List b->Nat->List b
 | _,0=> []
 | [],_+1=> []
 | a::l,n+1=>a::pY l n
def kP {c:Type _}:List c->Nat->List c->List c
 | l,0,[]=>l
 | [],0,_::_=> []
 | _::l,0,b::new=>b::kP l 0 new
 | [],_+1,_=> []
 | a::l,n+1,new=>a::kP l n new
inductive LV where
 | v (x:Value)
 | box (k off:Nat)
 | dS (k off:Nat)
abbrev aY :=List (Nat×Bool)
structure St where
 f:Nat->Option (LV×aY)
 m:Nat->Option (List Value)
def St.put (s:St) (d:Option Nat) (l:LV) (ch:aY):St:=
 match d with
 | none=>s
 | some d=>{f:=λi=>cond (Nat.beq i d) (some (l,ch)) (s.f i),m:=s.m}
def St.gL (s:St) (k:Nat) (cs:List Value):St:=
 {f:=s.f,m:=λi=>cond (Nat.beq i k) (some cs) (s.m i)}
def Ku :Bool->Bool->Bool
 | true,b=>b
 | false,true=>false
 | false,false=>true
def oV :aY->aY->Bool
 | [],[]=>true
 | (t,w)::c,(u,x)::d=>cond (Nat.beq t u) (cond (Ku w x) (oV c d) false) false
 | _,_=>false
def ni (c:aY):aY->Bool
 | []=>match c with
  | []=>true
  | _=>false
 | p::d=>match c with
  | []=>true
  | _=>cond (oV c (p::d)) true (ni c d)
def ev (s:St) (ch:aY):Operand->Option LV
 | .tmp t=>match s.f t with
  | some (l,c)=>cond (ni c ch) (some l) none
  | none=>none
 | .const v=>some (.v v)
 | .global g=>some (.v (.pointer (some ⟨g,0,none⟩)))
 | .func f=>some (.v (.func (.func f) #[] #[]))
def dH (s:St):aY->Option Bool
 | []=>none
 | [(t,w)]=>match s.f t with
  | some (.v (.bool b),_)=>some (cond w b (!b))
  | _=>some false
 | (t,w)::p::r=>match s.f t with
  | some (.v (.bool b),_)=>match dH s (p::r) with
   | some x=>some (cond w (x&&b) (x&& !b))
   | none=>some (cond w b (!b))
  | _=>some false
def kU (c:Option Bool) (p:Prop):Prop:=
 match c with
 | none=>p
 | some b=>b=true->p
def iX :List Value->Bool
 | []=>true
 | .agg _::_=>false
 | .tuple _::_=>false
 | _::r=>iX r
def aR (h:Hp) (a:Addr) (cs:List Value):Prop:=∀i v,cs[i]? =some v->dh h (a.add i)=some v
def ba (v:Value):List Value:=match v with
 | .agg cs=>cs.toList
 | v=> [v]
def aD (c:Option Bool) (sh:Shape) (h:Hp) (a:Addr) (K:sh.T->Prop):Prop:=
 ∃x,kU c (aR h a (ba (sh.enc x)))/\K x
def aj (c:Option Bool) (p:Option Addr) (K:Addr->Prop):Prop:=∃a,kU c (p=some a)/\K a
def kA (P:Program) (s:Sem Value) (h:Hp) (v:Value):Prop:=∀w,Sub h w->∃a,s.run P w=.ok v a/\Step h h w a
def jj (c:Option Bool) (P:Program) (s:Sem Value) (sh:Shape) (h:Hp) (K:sh.T->Prop):Prop:=
 ∃x,kU c (kA P s h (sh.enc x))/\K x
def ji (P:Program) (s:Sem Value) (sh:Shape) (K:sh.T->Hp->Prop) (h:Hp):Prop:=
 dg P s (λv a=>∃x,v=sh.enc x/\K x a) h
def F8 (P:Program) (s:Sem Unit) (K:Hp->Prop) (h:Hp):Prop:=dg P s (λ_ a=>K a) h
def bX {a:Type} (c:Option Bool) (A:(a->Hp->Prop)->Hp->Prop) (K:a->Hp->Prop) (h:Hp):Prop:=
 match c with
 | none=>A K h
 | some b=>(b=true->A K h)/\(b=false->∃x,K x h)
def bG (cs:List Value) (K:Addr->Hp->Prop) (h:Hp):Prop:=
 ∀b t,h b=none->K ⟨b,0,none⟩ (h.set b (.cells cs.toArray t (0,0)))
def FX (t:Nat) (a:List Value) (K:Addr->Hp->Prop) (h:Hp):Prop:=
 ∀b,h b=none->K ⟨b,0,none⟩ (h.set b (.cells a.toArray t (0,0)))
def Ae (t:Nat) (a:List Value) (K:Addr->Hp->Prop) (h:Hp):Prop:=
 match a with
 | [.pointer none,.slice none 0 0]=>FX t a K h
 | _=>bG a K h
def ki (h:Hp) (a:Addr):List Value->Nat->Hp
 | [],_=>h
 | v::l,i=>ki (h.put (a.add i) v) a l (i+1)
def qQ (h:Hp) (a:Addr):Nat->Prop
 | 0=>True
 | n+1=>qQ h a n/\(∃v,dh h (a.add n)=some v)/\gN h (a.add n)=false
def cl (h:Hp) (a:Addr) (b:List Value) (K:Hp->Prop):Prop:=qQ h a b.length/\K (ki h a b 0)
def s9 (P:Program) (g:FuncId) (args:List Value) (K:Value->Hp->Prop) (h:Hp):Prop:=
 ∀w,Sub h w->Calls P g args.toArray w (λe b=>∃v a,e=.returned v/\K v a/\Step h a w b)
def aa (P:Program) (g:FuncId) (args:List Value) (sh:Shape) (K:sh.T->Hp->Prop) (h:Hp):Prop:=
 s9 P g args (λv a=>∃x,v=sh.enc x/\K x a) h
def ig (P:Program) (tb:Tb) (f:Value) (args:List Value) (sh:Shape) (K:sh.T->Hp->Prop) (h:Hp):Prop:=
 ∃g first captured,f=.func (.func g) first captured/\tb.call g=true/\aa P g (first.toList++args++captured.toList) sh K h
def lX {σ:Type} (A:(σ->Hp->Prop)->Prop) (B:σ->Hp->Prop):Prop:=∃R:σ->Hp->Prop,A R/\∀x h,R x h->B x h
def qH {σ:Type} (d:(σ->Hp->Prop)->σ->Hp->Prop) (x:σ) (h:Hp):Prop:=
 ∃(I:σ->Hp->Prop) (c:σ->Hp->Nat),I x h/\∀x h,I x h->d (λb a=>I b a/\c b a<c x h) x h
def aA {α:Type} (x:α) (K:α->Prop):Prop:=∀y,y=x->K y
def pC (h:Hp) (base:Option Addr) (n:Nat) (b:List Value):Prop:=
 b.length=n/\(n=0\/∃a,base=some a/\aR h a b)
def fm (zero:List Value) (n:Nat):List Value:=(List.replicate n zero).flatten
def gu (h:Hp) (base:Option Addr) (off:Nat) (b:List Value):Hp:=match base with
 | some a=>ki h (a.add off) b 0
 | none=>h
def ko (size bytes:Nat) (zero:List Value) (l:Sl) (n:Nat) (new:List Value) (K:Sl->Hp->Prop) (h:Hp):Prop:=
 ∃lg,pC h l.base (l.len*size) lg/\(l.len+n<=140737488355328/\(l.len+n)*bytes<=140737488355328)/\
  iX new=true/\(l.len+n<=l.cap->(∀a,l.base=some a->qQ h (a.add (l.len*size)) (n*size))/\K ⟨l.base,l.len+n,l.cap⟩ (gu h l.base (l.len*size) new))/\
  (l.cap<l.len+n->∀c b t,l.len+n<=c->h b=none->
   K ⟨some ⟨b,0,none⟩,l.len+n,c⟩ (h.set b (.cells (lg++new++fm zero (c-(l.len+n))).toArray t (0,0))))
def gv (size bytes:Nat) (zero:List Value) (l x:Sl) (K:Sl->Hp->Prop) (h:Hp):Prop:=
 ∃new,pC h x.base (x.len*size) new/\ko size bytes zero l x.len new K h
def zb (size bytes:Nat) (zero:List Value) (l:Sl) (m:Int) (K:Sl->Hp->Prop) (h:Hp):Prop:=
 0<=m/\ko size bytes zero l m.toNat (fm zero m.toNat) K h
def qz (s:ByteArray):List Value:=s.data.toList.map λb=>.int .u8 b.toNat
def yQ (u:Nat) (size bytes:Nat) (zero:List Value) (l:Sl) (n:Nat) (new:List Value) (K:Sl->Hp->Prop) (h:Hp):Prop:=
 ∃lg,pC h l.base (l.len*size) lg/\(l.len+n<=140737488355328/\(l.len+n)*bytes<=140737488355328)/\
  iX new=true/\(l.len+n<=l.cap->(∀a,l.base=some a->qQ h (a.add (l.len*size)) (n*size))/\K ⟨l.base,l.len+n,l.cap⟩ (gu h l.base (l.len*size) new))/\
  (l.cap<l.len+n->∀c b,l.len+n<=c->h b=none->
   K ⟨some ⟨b,0,none⟩,l.len+n,c⟩ (h.set b (.cells (lg++new++fm zero (c-(l.len+n))).toArray u (0,0))))
theorem ko.u {size bytes:Nat} {zero:List Value} {l:Sl} {n:Nat} {new:List Value} {K:Sl->Hp->Prop} {h:Hp} (u:Nat) (a:ko size bytes zero l n new K h):yQ u size bytes zero l n new K h:=by obtain ⟨lg,a1,a2,a3,a4,a5⟩:=a;exact ⟨lg,a1,a2,a3,a4,λd c b e f=>a5 d c b u e f⟩
def abv (u:Nat) (l:Sl) (s:ByteArray) (K:Sl->Hp->Prop) (h:Hp):Prop:=
 yQ u 1 1 [.int .u8 0] l s.size (qz s) K h
def fW (size:Nat) (d x:Sl) (K:Int->Hp->Prop) (h:Hp):Prop:=
 ∃new,pC h x.base (min x.len d.len*size) new/\iX new=true/\(∀a,d.base=some a->qQ h a (min x.len d.len*size))/\K (min x.len d.len:Nat) (gu h d.base 0 new)
def dL (bytes:Nat) (zero:List Value) (len cap:Int) (K:Sl->Hp->Prop) (h:Hp):Prop:=
 (0<=len/\len<=cap/\cap<=281474976710656/\cap.toNat*bytes<=281474976710656)/\
  ∀b t,h b=none->K ⟨some ⟨b,0,none⟩,len.toNat,cap.toNat⟩ (h.set b (.cells (fm zero cap.toNat).toArray t (0,0)))
def Kv (s:ByteArray) (K:Sl->Hp->Prop) (h:Hp):Prop:=
 ∀c b t,s.size<=c->h b=none->
  K ⟨some ⟨b,0,none⟩,s.size,c⟩ (h.set b (.cells (qz s++fm [.int .u8 0] (c-s.size)).toArray t (c,c+1)))
def Az (a:Option Addr) (K:Unit->Hp->Prop) (h:Hp):Prop:=
 ∃b off c t,a=some ⟨b,off,none⟩/\h b=some (.cells c t (0,0))/\K () (h.set b (.cells c t (c.size,c.size+1)))
def Be (K:Option Nat->Hp->Prop) (h:Hp):Prop:=∀b,h b=none->K (some b) (h.set b (.map #[] 0))
def FW (h:Hp) (m:Option Nat) (a:List MapEntry):Prop:=
 (m=none/\a=[])\/∃r ck,m=some r/\h r=some (.map a.toArray ck)
def Af (b:TypeDesc) (zero:Value) (m:Option Nat) (k:Value) (h:Hp) (v:Value) (ok:Bool):Prop:=
 ∃a,FW h m a/\((Instr.findNow b k a 0=some none/\v=zero/\ok=false)\/∃i,Instr.findNow b k a 0=some (some (i,v))/\ok=true)
def jZ (c:Option Bool) (a:TypeDesc) (sh:Shape) (zero:Value) (m:Option Nat) (k:Value) (h:Hp) (K:sh.T->Bool->Prop):Prop:=
 ∃x ok,kU c (Af a zero m k h (sh.enc x) ok)/\K x ok
def tZ (b:TypeDesc) (m:Option Nat) (k v:Value) (K:Hp->Prop) (h:Hp):Prop:=
 ∃r a ck,m=some r/\h r=some (.map a ck)/\
  ((Instr.findNow b k a.toList 0=some none/\K (h.set r (.map (a.push {key:=k,val:=v,born:=ck}) (ck+1))))\/
   ∃i u,Instr.findNow b k a.toList 0=some (some (i,u))/\K (h.set r (.map (a.modify i λe=>{e with key:=k,val:=v}) ck)))
def wY (b:TypeDesc) (m:Option Nat) (k:Value) (K:Hp->Prop) (h:Hp):Prop:=
 (m=none/\K h)\/∃r a ck,m=some r/\h r=some (.map a ck)/\
  ((Instr.findNow b k a.toList 0=some none/\K (h.set r (.map a ck)))\/
   ∃i u,Instr.findNow b k a.toList 0=some (some (i,u))/\K (h.set r (.map (a.eraseIdxIfInBounds i) ck)))
def sb :TypeDesc->Bool
 | .int _ | .string | .bool=>true
 | _=>false
def df (op:BinOp) (k:IntKind) (x y:Int):Int:=
 match op with
 | .and=>k.wrap ((BitVec.ofInt k.bits x&&&BitVec.ofInt k.bits y).toNat)
 | .or=>k.wrap ((BitVec.ofInt k.bits x ||| BitVec.ofInt k.bits y).toNat)
 | .xor=>k.wrap ((BitVec.ofInt k.bits x^^^BitVec.ofInt k.bits y).toNat)
 | _=>k.wrap ((BitVec.ofInt k.bits x&&& ~~~ BitVec.ofInt k.bits y).toNat)
def mQ (k:IntKind) (x y:Int):Int:=k.wrap (x*2^(min y.toNat k.bits))
def fA (k:IntKind) (x y:Int):Int:=x.fdiv (2^(min y.toNat k.bits))
def sat (base:Option Addr) (size:Nat) (i:Int):Addr:=(base.getD ⟨0,0,none⟩).add (i.toNat*size)
def aG (base:Option Addr) (len:Nat) (i:Int):Prop:=base≠none/\0<=i/\i<(len:Int)
def aV (base:Option Addr) (size l m:Nat):Option Addr:=if m=l then base else base.map (·.add (l*size))
def Gl (c:Option Bool) (op:BinOp) (k:IntKind) (x y:Int) (K:LV->Prop):Prop:=
 match op with
 | .add=>K (.v (.int k (k.wrap (x+y))))
 | .sub=>K (.v (.int k (k.wrap (x-y))))
 | .mul=>K (.v (.int k (k.wrap (x*y))))
 | .quo=>kU c (y≠0)/\K (.v (.int k (k.wrap (x.tdiv y))))
 | .rem=>kU c (y≠0)/\K (.v (.int k (x.tmod y)))
 | .and=>K (.v (.int k (df .and k x y)))
 | .or=>K (.v (.int k (df .or k x y)))
 | .xor=>K (.v (.int k (df .xor k x y)))
 | .andNot=>K (.v (.int k (df .andNot k x y)))
 | .eql=>K (.v (.bool (x==y)))
 | .neq=>K (.v (.bool (x !=y)))
 | .lss=>K (.v (.bool (decide (x<y))))
 | .leq=>K (.v (.bool (decide (x<=y))))
 | .gtr=>K (.v (.bool (decide (x>y))))
 | .geq=>K (.v (.bool (decide (x>=y))))
 | _=>False
def ng (c:Option Bool) (P:Program) (tb:Tb) (t:Nat) (s:Sem Value) (h:Hp) (K:LV->Prop):Prop:=
 match tb.ty t with
 | some e=>jj c P s e.sh h (λx=>K (.v (e.sh.enc x)))
 | none=>False
def dt (op:BinOp) (t:Nat) (x y:Operand) (a b:Value):Sem Value:=do eqGuard op t x y a b;binOp op t a b
def sM :Operand->Bool
 | .const (.pointer none) | .const (.slice none _ _) | .const (.map none) | .const .nilFunc | .const .nilIface=>true
 | _=>false
def yi (op:BinOp) (b:Bool) (K:LV->Prop):Prop:=
 match op with
 | .eql=>K (.v (.bool b))
 | .neq=>K (.v (.bool (!b)))
 | _=>False
def MY :Value->Bool
 | .nilIface=>true
 | _=>false
def ER :Operand->Bool
 | .const .nilIface=>true
 | _=>false
def vR (tb:Tb) (t:Nat):Bool:=match tb.ty t with
 | some e=>match e.cm with
  | .interface _=>true
  | _=>false
 | none=>false
def pU :Value->Bool
 | .nilIface=>true
 | .iface _ _=>true
 | _=>false
def tr (c:Option Bool) (P:Program) (tb:Tb) (op:BinOp) (t:Nat) (x y:Operand) (d:Nat) (a b:Value) (h:Hp) (K:LV->Prop):Prop:=
 match a,b with
 | .int k m,.int f n=>
  match op with
  | .shl=>kU c (0<=n)/\K (.v (.int k (mQ k m n)))
  | .shr=>kU c (0<=n)/\K (.v (.int k (fA k m n)))
  | op=>cond (Gm k f) (Gl c op k m n K) False
 | .bool m,.bool n=>match tb.ty t with
  | some e=>match e.cm,op with
   | .bool,.eql=>K (.v (.bool (m==n)))
   | .bool,.neq=>K (.v (.bool (!(m==n))))
   | _,_=>False
  | none=>False
 | .string m,.string n=>match op with
  | .eql=>K (.v (.bool (m.toList==n.toList)))
  | .neq=>K (.v (.bool (!(m.toList==n.toList))))
  | .add=>kU c (m.size+n.size<=9223372036854775807)/\K (.v (.string (m++n)))
  | _=>ng c P tb d (dt op t x y (.string m) (.string n)) h K
 | .pointer p,.pointer q=>cond (sM y) (match tb.ty t with
  | some e=>match e.cm with
   | .pointer _=>yi op p.isNone K
   | _=>False
  | none=>False) (ng c P tb d (dt op t x y (.pointer p) (.pointer q)) h K)
 | a,b=>ng c P tb d (dt op t x y a b) h K
def vC (c:Option Bool) (P:Program) (tb:Tb) (op:BinOp) (t:Nat) (x y:Operand) (d:Nat) (a b:Value) (h:Hp) (K:LV->Prop):Prop:=
 cond (ER y) (cond (vR tb t) (kU c (pU a=true)/\yi op (MY a) K) (tr c P tb op t x y d a b h K)) (tr c P tb op t x y d a b h K)
def On (l:Option LV) (K:LV->Prop):Prop:=match l with
 | some l=>K l
 | none=>False
def iH (l:Option LV) (K:Value->Prop):Prop:=match l with
 | some (.v x)=>K x
 | _=>False
def eh (s:St) (ch:aY):List Operand->Option (List Value)
 | []=>some []
 | x::l=>match ev s ch x,eh s ch l with
  | some (.v v),some r=>some (v::r)
  | _,_=>none
def nK (l:Option (List Value)) (K:List Value->Prop):Prop:=match l with
 | some l=>K l
 | none=>False
def zI (tb:Tb) (t i:Nat) (K:Nat->Nat->Prop):Prop:=
 match tb.ty t with
 | some e=>match e.cm with
  | .struct a=>match nth a.toList i with
   | some f=>match tb.ty f.type with
    | some g=>match g.size with
     | 0=>False
     | n+1=>K f.offset (n+1)
    | none=>False
   | none=>False
  | _=>False
 | none=>False
def gM (tb:Tb) (t:Nat):Option Ty:=
 match tb.ty t with
 | some e=>match e.cm with
  | .slice u=>tb.ty u
  | _=>none
 | none=>none
def Ci (tb:Tb) (t:Nat):Nat:=
 match tb.ty t with
 | some e=>match e.cm with
  | .slice u=>u
  | _=>0
 | none=>0
def mg (tb:Tb) (t:Nat):Option (Nat×Ty):=
 match tb.ty t with
 | some e=>match e.cm with
  | .array n u=>match tb.ty u with
   | some g=>some (n,g)
   | none=>none
  | _=>none
 | none=>none
def iV (tb:Tb) (t:Nat) (a:List Value) (off:Nat) (K:LV->Prop):Prop:=
 match tb.ty t with
 | some e=>cond (pE e.cm) (cond (Nat.ble (off+e.size) a.length) (K (.v (.agg (pY (pS a off) e.size).toArray))) False)
  (match nth a off with
   | some v=>K (.v v)
   | none=>False)
 | none=>False
def Dt :Operand->Bool
 | .const _=>true
 | _=>false
def pZ (tb:Tb):List Field->Bool
 | []=>true
 | f::r=>match tb.ty f.type with
  | some _=>pZ tb r
  | none=>false
def qY (tb:Tb) (b:List Field) (a:List Value):List (Nat×Value)->Option (List Value)
 | []=>some a
 | (i,v)::r=>match nth b i with
  | some f=>match tb.ty f.type with
   | some e=>cond (Nat.beq (ba v).length e.size) (cond (Nat.ble (f.offset+e.size) a.length) (qY tb b (kP a f.offset (ba v)) r) none) none
   | none=>none
  | none=>none
def nD (size:Nat) (a:List Value):List (Nat×Value)->Option (List Value)
 | []=>some a
 | (i,v)::r=>cond (Nat.beq (ba v).length size) (cond (Nat.ble (i*size+size) a.length) (nD size (kP a (i*size) (ba v)) r) none) none
def mw (s:St) (ch:aY):List (Nat×Operand)->Option (List (Nat×Value))
 | []=>some []
 | (i,x)::l=>match ev s ch x,mw s ch l with
  | some (.v v),some r=>some ((i,v)::r)
  | _,_=>none
def kR {a:Type _} (l:List a):Nat->List a
 | 0=> []
 | n+1=>l++kR l n
def GI (c:Option Bool) (a:Bool) (len cap:Nat) (lo hi b:Option Int) (K:Nat->Nat->Nat->Prop):Prop:=
 match lo,hi,b with
 | none,none,none=>K 0 len cap
 | some l,none,none=>kU c (0<=l/\l<=(len:Int))/\K l.toNat len cap
 | none,some x,none=>kU c (0<=x/\x<=(cap:Int))/\K 0 x.toNat cap
 | some l,some x,none=>kU c (0<=l/\l<=x/\x<=(cap:Int))/\K l.toNat x.toNat cap
 | none,some x,some m=>kU c (0<=x/\x<=m/\m<=(cap:Int))/\K 0 x.toNat m.toNat
 | some l,some x,some m=>kU c (0<=l/\l<=x/\x<=m/\m<=(cap:Int))/\K l.toNat x.toNat m.toNat
 | _,none,some _=>a= !a
def ph (s:St) (ch:aY):Option Operand->Option (Option Int)
 | none=>some none
 | some x=>match ev s ch x with
  | some (.v (.int _ n))=>some (some n)
  | _=>none
def Cj (c:Option Bool) (tb:Tb) (t:Nat) (x:Value) (lo hi d:Option Int) (K:LV->Prop):Prop:=
 match x with
 | .slice base len cap=>match gM tb t with
  | some e=>GI c true len cap lo hi d λl n m=>aA (⟨aV base e.size l m,n-l,m-l⟩:Sl) λy=>K (.v (.slice y.base y.len y.cap))
  | none=>False
 | .pointer (some a)=>match mg tb t with
  | some (n,e)=>GI c false n n lo hi d λl x m=>aA (⟨aV (some a) e.size l m,x-l,m-l⟩:Sl) λy=>K (.v (.slice y.base y.len y.cap))
  | none=>False
 | .string b=>match tb.ty t,d with
  | some e,none=>match e.cm with
   | .string=>GI c false b.size b.size lo hi none λl n _=>K (.v (.string (b.extract l n)))
   | _=>False
  | _,_=>False
 | _=>False
def Gt (c:Option Bool) (P:Program) (tb:Tb) (ty a:Nat) (x:Value) (h:Hp) (K:LV->Prop):Prop:=
 match tb.ty ty with
 | some e=>match e.cm,x with
  | .string,.string b=>K (.v (.int .i64 (b.size:Int)))
  | .slice _,.slice _ n _=>K (.v (.int .i64 (n:Int)))
  | .array n _,_=>K (.v (.int .i64 (n:Int)))
  | _,_=>ng c P tb a (Builtin.len_ #[ty] a #[x]) h K
 | none=>False
def sC (lt:Int->Int->Int) (k:IntKind) (x:Int):List Value->Option Value
 | []=>some (.int k x)
 | .int _ y::r=>sC lt k (lt x y) r
 | _=>none
def fK (x y:Int):Int:=if y<x then y else x
def pV (x y:Int):Int:=if y>x then y else x
def Qq (op:UnOp) (x:Value) (K:LV->Prop):Prop:=
 match op,x with
 | .not,.bool b=>K (.v (.bool !b))
 | .neg,.int k n=>K (.v (.int k (k.wrap (0-n))))
 | .neg,.float k b=>K (.v (.float k (Op.negFloat k b)))
 | .xor,.int k n=>K (.v (.int k (df .xor k (if k.signed then -1 else k.max) n)))
 | _,_=>False
def Ag (s:St) (ch:aY) (t:Nat) (w:Bool) (x:Operand):Option LV:=
 match x with
 | .tmp u=>match s.f u with
  | some (l,c)=>cond (ni c ((t,w)::ch)) (some l) none
  | none=>none
 | .const v=>some (.v v)
 | _=>none
def wg (s:St) (ch:aY) (x a b:Operand) (K:LV->Prop):Prop:=
 match x with
 | .tmp t=>match s.f t with
  | some (.v (.bool p),c)=>cond (ni c ch)
   (match a,b with
    | .tmp _,.const (.bool false)=>iH (Ag s ch t true a) λv=>match v with
     | .bool q=>aA (p&&q) λy=>K (.v (.bool y))
     | _=>False
    | .const (.bool true),.tmp _=>iH (Ag s ch t false b) λv=>match v with
     | .bool q=>aA (p || q) λy=>K (.v (.bool y))
     | _=>False
    | .const (.bool true),.const (.bool false)=>K (.v (.bool p))
    | .const (.bool x),.const (.bool y)=>K (.v (.bool (cond p x y)))
    | _,_=>False) False
  | _=>False
 | _=>False
def PS (c:Option Bool) (P:Program) (tb:Tb) (b:Builtin) (f:List Value) (d:List TypeId) (a:Nat) (h:Hp) (K:LV->Prop):Prop:=
 match b,f,d with
 | .len,[x],[ty]=>Gt c P tb ty a x h K
 | .cap,[.slice _ _ c],[ty]=>match tb.ty ty with
  | some e=>match e.cm with
   | .slice _=>K (.v (.int .i64 (c:Int)))
   | _=>False
  | none=>False
 | .min,.int k x::r,_=>match sC fK k x r with
  | some v=>K (.v v)
  | none=>False
 | .max,.int k x::r,_=>match sC pV k x r with
  | some v=>K (.v v)
  | none=>False
 | _,_,_=>False
def Gv (n:Int):Nat:=match n with
 | .ofNat m=>m
 | .negSucc _=>0
def Bz (c:Option Bool) (tb:Tb) (t:Nat) (cs:List Value) (n:Int) (K:LV->Prop):Prop:=
 match mg tb t with
 | some (len,e)=>cond (pE e.cm) False (kU c (0<=n/\n<(len:Int))/\∃x,kU c (cs[n.toNat*e.size]? =some (e.sh.enc x))/\K (.v (e.sh.enc x)))
 | none=>False
def wG (P:Program) (tb:Tb) (o:Oper) (ch:aY) (s:St) (h:Hp) (K:LV->Prop):Prop:=
 match o.op with
 | .move x=>On (ev s ch x) K
 | .assign x=>On (ev s ch x) K
 | .pick x a b=>wg s ch x a b K
 | .extract x i=>iH (ev s ch x) λv=>match v with
  | .tuple w=>match nth w.toList i with
   | some y=>K (.v y)
   | none=>False
  | _=>False
 | .binOp op t x y _=>iH (ev s ch x) λa=>iH (ev s ch y) λb=>vC (dH s ch) P tb op t x y o.type a b h K
 | .unOp op _ x=>iH (ev s ch x) λa=>Qq op a K
 | .nilCheck x=>match ev s ch x with
  | some (.v (.pointer p))=>aj (dH s ch) p λa=>K (.v (.pointer (some a)))
  | some (.box k off)=>K (.box k off)
  | some (.dS k off)=>K (.dS k off)
  | _=>False
 | .load t x=>match ev s ch x with
  | some (.v (.pointer (some a)))=>match tb.ty t with
   | some e=>aD (dH s ch) e.sh h a λx=>K (.v (e.sh.enc x))
   | none=>False
  | some (.box k off)=>match s.m k with
   | some c=>iV tb t c off K
   | none=>False
  | some (.dS k off)=>match s.m k,tb.ty t with
   | some c,some e=>cond (pE e.cm) False (∃x,kU (dH s ch) (c[off]? =some (e.sh.enc x))/\K (.v (e.sh.enc x)))
   | _,_=>False
  | _=>False
 | .fieldAddr t x i=>zI tb t i λoff _=>match ev s ch x with
  | some (.v (.pointer (some a)))=>K (.v (.pointer (some (a.add off))))
  | some (.box k o)=>K (.box k (o+off))
  | some (.dS k o)=>K (.dS k (o+off))
  | _=>False
 | .field t x i=>match tb.ty t with
  | some e=>match e.cm with
   | .struct j=>match nth j.toList i with
    | some f=>iH (ev s ch x) λv=>match v with
     | .agg c=>iV tb f.type c.toList f.offset K
     | _=>False
    | none=>False
   | _=>False
  | none=>False
 | .indexAddr t x i=>match ev s ch x,ev s ch i with
  | some (.v (.slice base len _)),some (.v (.int _ n))=>match gM tb t with
   | some e=>kU (dH s ch) (aG base len n)/\K (.v (.pointer (some (sat base e.size n))))
   | none=>False
  | some (.v (.pointer (some a))),some (.v (.int _ n))=>match mg tb t with
   | some (len,e)=>kU (dH s ch) (0<=n/\n<(len:Int))/\K (.v (.pointer (some (a.add (n.toNat*e.size)))))
   | none=>False
  | some (.box k off),some (.v (.int _ n))=>match mg tb t with
   | some (len,e)=>kU (dH s ch) (0<=n/\n<(len:Int))/\cond (Dt i) (K (.box k (off+Gv n*e.size))) (K (.dS k (off+n.toNat*e.size)))
   | none=>False
  | _,_=>False
 | .index t x i=>match ev s ch x,ev s ch i with
  | some (.v (.string b)),some (.v (.int _ n))=>match tb.ty t with
   | some y=>match y.cm with
    | .string=>kU (dH s ch) (0<=n/\n<(b.size:Int))/\K (.v (.int .u8 ((b.data.toList.getD n.toNat 0).toNat:Int)))
    | _=>False
   | none=>False
  | some (.v (.agg c)),some (.v (.int _ n))=>Bz (dH s ch) tb t c.toList n K
  | _,_=>False
 | .slice t x lo hi q=>iH (ev s ch x) λv=>match ph s ch lo,ph s ch hi,ph s ch q with
  | some lo,some hi,some q=>Cj (dH s ch) tb t v lo hi q K
  | _,_,_=>False
 | .makeInterface t x=>iH (ev s ch x) λv=>match tb.ty t with
  | some e=>match e.cm with
   | .interface _=>False
   | _=>K (.v (.iface t v))
  | none=>False
 | .makeFunc fn first captured=>nK (eh s ch first.toList) λa=>nK (eh s ch captured.toList) λb=>K (.v (.func fn a.toArray b.toArray))
 | .convert r d x=>iH (ev s ch x) λv=>match tb.ty r,tb.ty d,v with
  | some _,some e,.int _ n=>match e.cm with
   | .int k=>K (.v (.int k (k.wrap n)))
   | _=>ng (dH s ch) P tb d (convert r d v) h K
  | some _,some _,v=>ng (dH s ch) P tb d (convert r d v) h K
  | _,_,_=>False
 | .build t parts=>nK ((mw s ch parts.toList).map λ_=> []) λ_=>match mw s ch parts.toList,tb.ty t with
  | some A,some e=>match e.cm with
   | .struct j=>cond (pZ tb j.toList) (match qY tb j.toList (ba e.zero) A with
    | some c=>K (.v (.agg c.toArray))
    | none=>False) False
   | .array _ u=>match tb.ty u with
    | some g=>match nD g.size (ba e.zero) A with
     | some c=>K (.v (.agg c.toArray))
     | none=>False
    | none=>False
   | _=>False
  | _,_=>False
 | .lookup t x i ok=>iH (ev s ch x) λa=>iH (ev s ch i) λb=>match a,tb.ty t with
  | .map m,some e=>match e.cm with
   | .map k u=>match tb.ty k,tb.ty u with
    | some z,some l=>cond (sb z.cm) (jZ (dH s ch) z.cm l.sh l.zero m b h λx y=>cond ok (K (.v (.tuple #[l.sh.enc x,.bool y]))) (K (.v (l.sh.enc x))))
      (ng (dH s ch) P tb o.type (Instr.lookup t a b ok) h K)
    | _,_=>False
   | _=>False
  | _,_=>False
 | .call {callee:=.builtin b,args:=C,argTypes:=B}=>nK (eh s ch C.toList) λw=>PS (dH s ch) P tb b w B.toList o.type h K
 | _=>False
inductive Kd where
 | pure
 | box
 | mem
def cX (tb:Tb) (o:Oper) (ch:aY) (s:St):Kd:=
 match o.op with
 | .load _ x=>match ev s ch x with
  | some (.box _ _)=>.box
  | some (.dS _ _)=>.box
  | _=>.mem
 | .lookup .. =>.mem
 | .binOp op _ x y _=>match ev s ch x,ev s ch y with
  | some (.v (.int _ _)),some (.v (.int _ _))=>.pure
  | some (.v (.bool _)),some (.v (.bool _))=>.pure
  | some (.v (.string _)),some (.v (.string _))=>match op with
   | .eql=>.pure
   | .neq=>.pure
   | .add=>.pure
   | _=>.mem
  | some (.v (.pointer _)),some (.v (.pointer _))=>cond (sM y) .pure .mem
  | _,_=>.mem
 | .convert _ d x=>match ev s ch x,tb.ty d with
  | some (.v (.int _ _)),some e=>match e.cm with
   | .int _=>.pure
   | _=>.mem
  | _,_=>.mem
 | .call {callee:=.builtin .len,args:=b,argTypes:=a}=>match eh s ch b.toList,a.toList with
  | some [x],[t]=>match tb.ty t with
   | some e=>match e.cm,x with
    | .string,.string _=>.pure
    | .slice _,.slice _ _ _=>.pure
    | .array _ _,_=>.pure
    | _,_=>.mem
   | none=>.mem
  | _,_=>.mem
 | _=>.pure
def sv (c:Option Bool) (P:Program) (tb:Tb) (t:Nat) (s:Sem Value) (K:LV->Hp->Prop) (h:Hp):Prop:=
 match tb.ty t with
 | some e=>bX c (λ(K:e.sh.T->Hp->Prop) h=>ji P s e.sh K h) (λx a=>K (.v (e.sh.enc x)) a) h
 | none=>False
def Ot (c:Option Bool) (P:Program) (sh:Shape) (s:Sem Value) (K:LV->Hp->Prop) (h:Hp):Prop:=
 bX c (λ(K:sh.T->Hp->Prop) h=>ji P s sh K h) (λx a=>K (.v (sh.enc x)) a) h
def ES (P:Program) (tb:Tb) (c:Option Bool) (t:Nat) (x y z:Option LV) (K:LV->Hp->Prop) (h:Hp):Prop:=
 iH x λa=>iH y λb=>iH z λv=>match a,tb.ty t with
  | .map m,some e=>match e.cm with
   | .map k _=>match tb.ty k with
    | some d=>bX c (λ(K:Unit->Hp->Prop) h=>cond (sb d.cm) (tZ d.cm m b v (K ()) h) (F8 P (Instr.mapUpdate t a b v) (K ()) h)) (λ_ f=>K (.v (.tuple #[])) f) h
    | none=>False
   | _=>False
  | _,_=>False
def Br (tb:Tb) (c:Option Bool) (k:List TypeId) (o:List Value) (h:Hp) (K:LV->Hp->Prop):Prop:=
 match o,k with
 | [.slice p n a,.slice j i g],[t,d]=>match gM tb t,gM tb d with
  | some e,some _=>bX c (gv e.size e.bytes (ba e.zero) ⟨p,n,a⟩ ⟨j,i,g⟩) (λl b=>K (.v (.slice l.base l.len l.cap)) b) h
  | _,_=>False
 | [.slice p n a,.string x],[t,d]=>match gM tb t,tb.ty d with
  | some e,some f=>match e.cm,f.cm with
   | .int .u8,.string=>cond (Nat.beq e.bytes 1) (bX c (abv (Ci tb t) ⟨p,n,a⟩ x) (λl b=>K (.v (.slice l.base l.len l.cap)) b) h) False
   | _,_=>False
  | _,_=>False
 | [.slice p n a,.int .i64 m],[t,d]=>match gM tb t,tb.ty d with
  | some e,some f=>match f.cm with
   | .int .i64=>bX c (zb e.size e.bytes (ba e.zero) ⟨p,n,a⟩ m) (λl b=>K (.v (.slice l.base l.len l.cap)) b) h
   | _=>False
  | _,_=>False
 | _,_=>False
def vF (P:Program) (tb:Tb) (ty:Nat) (c:Option Bool) (a:Array TypeId) (b:List Value) (h:Hp) (K:LV->Hp->Prop):Prop:=
 match b,a.toList with
 | [.slice p n f,.slice j i d],[t,_]=>match gM tb t with
  | some e=>bX c (fW e.size ⟨p,n,f⟩ ⟨j,i,d⟩) (λk g=>K (.v (.int .i64 k)) g) h
  | none=>False
 | _,_=>sv c P tb ty (Builtin.copy_ a ty b.toArray) K h
def Bu (P:Program) (tb:Tb) (ty:Nat) (c:Option Bool) (b:Array TypeId) (d:List Value) (h:Hp) (K:LV->Hp->Prop):Prop:=
 match d,b.toList with
 | [.map m,k],[t,_]=>match tb.ty t with
  | some e=>match e.cm with
   | .map g _=>match tb.ty g with
    | some a=>cond (sb a.cm) (bX c (λ(K:Unit->Hp->Prop) h=>wY a.cm m k (K ()) h) (λ_ f=>K (.v (.tuple #[])) f) h)
      (sv c P tb ty (Builtin.delete_ b ty d.toArray) K h)
    | none=>False
   | _=>False
  | none=>False
 | _,_=>False
def Ck (P:Program) (tb:Tb) (ty:Nat) (c:Option Bool) (g:FuncId) (b:List Value) (h:Hp) (K:LV->Hp->Prop):Prop:=
 match tb.ty ty with
 | some e=>cond (tb.call g) (bX c (aa P g b e.sh) (λx a=>K (.v (e.sh.enc x)) a) h) (match tb.ext g with
  | some f=>bX c (λ(K:e.sh.T->Hp->Prop) h=>ji P (f b.toArray) e.sh K h) (λx a=>K (.v (e.sh.enc x)) a) h
  | none=>False)
 | none=>False
def Cl (P:Program) (tb:Tb) (ty:Nat) (c:Option Bool) (a:Option LV) (d:List Value) (h:Hp) (K:LV->Hp->Prop):Prop:=
 match tb.ty ty with
 | some e=>iH a λa=>bX c (ig P tb a d e.sh) (λx b=>K (.v (e.sh.enc x)) b) h
 | none=>False
def yd (P:Program) (tb:Tb) (o:Oper) (ch:aY) (s:St) (h:Hp) (K:LV->Hp->Prop):Prop:=
 match o.op with
 | .store t x y=>match ev s ch x,ev s ch y with
  | some (.v (.pointer (some a))),some (.v v)=>match ch,tb.ty t with
   | [],some e=>cond (Nat.beq (ba v).length e.size) (cond (iX (ba v)) (cl h a (ba v) λd=>K (.v (.tuple #[])) d) False) False
   | _,_=>False
  | _,_=>False
 | .alloc t=>match tb.ty t with
  | some e=>bX (dH s ch) (Ae t (ba e.zero)) (λa d=>K (.v (.pointer (some a))) d) h
  | none=>False
 | .box _ x=>iH (ev s ch x) λv=>bX (dH s ch) (bG (ba v)) (λa d=>K (.v (.pointer (some a))) d) h
 | .buildSlice t len parts=>match mw s ch parts.toList,gM tb t with
  | some w,some e=>cond (Nat.ble (len*e.size) 16777216) (match nD e.size (kR (ba e.zero) len) w with
   | some u=>bX (dH s ch) (bG u) (λa d=>K (.v (.slice (some a) len len)) d) h
   | none=>False) False
  | _,_=>False
 | .makeMap _ none=>bX (dH s ch) Be (λm d=>K (.v (.map m)) d) h
 | .makeSlice t x y=>iH (ev s ch x) λa=>iH (ev s ch y) λb=>match a,b,gM tb t with
  | .int .i64 m,.int .i64 n,some e=>bX (dH s ch) (dL e.bytes (ba e.zero) m n) (λl d=>K (.v (.slice l.base l.len l.cap)) d) h
  | _,_,_=>False
 | .mapUpdate t x y z=>ES P tb (dH s ch) t (ev s ch x) (ev s ch y) (ev s ch z) K h
 | .insert t x y z=>ES P tb (dH s ch) t (ev s ch x) (ev s ch y) (ev s ch z) K h
 | .mapEntry t x y=>iH (ev s ch x) λa=>iH (ev s ch y) λb=>sv (dH s ch) P tb o.type (Instr.mapEntry t a b) K h
 | .binOp op t x y _=>iH (ev s ch x) λa=>iH (ev s ch y) λb=>sv (dH s ch) P tb o.type (dt op t x y a b) K h
 | .entryStore t x y z=>iH (ev s ch x) λa=>iH (ev s ch y) λb=>iH (ev s ch z) λc=>
  bX (dH s ch) (λ(K:Unit->Hp->Prop) h=>F8 P (Instr.entryStore t a b c) (K ()) h) (λ_ d=>K (.v (.tuple #[])) d) h
 | .range t x=>iH (ev s ch x) λa=>Ot (dH s ch) P an (Instr.range t a) K h
 | .next x b=>iH (ev s ch x) λa=>Ot (dH s ch) P Ks (Instr.next a b o.type) K h
 | .convert r q x=>iH (ev s ch x) λv=>match v,tb.ty r,gM tb q with
  | .string b,some e,some g=>match e.cm,g.cm with
   | .string,.int .u8=>bX (dH s ch) (Kv b) (λl d=>K (.v (.slice l.base l.len l.cap)) d) h
   | _,_=>False
  | .slice p n c,some e,some g=>match e.cm,g.cm with
   | .slice _,.int .u8=>cond (Nat.beq r q) (bX (dH s ch) (Az p) (λ_ d=>K (.v (.slice p n c)) d) h) False
   | _,_=>False
  | _,_,_=>False
 | .call {callee:=.builtin b,args:=k,argTypes:=j}=>nK (eh s ch k.toList) λi=>match b with
  | .append=>Br tb (dH s ch) j.toList i h K
  | .copy=>vF P tb o.type (dH s ch) j i h K
  | .delete=>Bu P tb o.type (dH s ch) j i h K
  | .clear=>sv (dH s ch) P tb o.type (Builtin.clear_ j o.type i.toArray) K h
  | _=>False
 | .call {callee:=.value f,args:=k,argTypes:=_}=>nK (eh s ch k.toList) λi=>match f with
  | .func g=>Ck P tb o.type (dH s ch) g i h K
  | .tmp t=>Cl P tb o.type (dH s ch) (ev s ch (.tmp t)) i h K
  | _=>False
 | _=>False
def Wf (tb:Tb) (o:Oper):Bool:=
 match o.op with
 | .convert s d _=>match tb.ty s,tb.ty d with
  | some a,some b=>match a.cm,b.cm with
   | .int _,.int _ | .int _,.float _ | .float _,.int _ | .float _,.float _ | .int _,.string | .slice _,.string | .string,.string=>true
   | _,_=>false
  | _,_=>false
 | _=>false
def P3 (tb:Tb) (op:BinOp) (t:Nat):Bool:=
 match op with
 | .add | .sub | .mul | .quo=>match tb.ty t with
  | some e=>match e.cm with
   | .float _=>true
   | _=>false
  | none=>false
 | _=>false
def isVal (tb:Tb) (o:Oper):Bool:=
 match o.op with
 | .binOp op t _ _ _=>cond (P3 tb op t) false true
 | .move _ | .assign _ | .pick .. | .extract .. | .unOp .. | .nilCheck _ | .load .. | .fieldAddr .. | .field .. | .indexAddr .. | .index ..
 | .slice .. | .makeInterface .. | .makeFunc .. | .build .. | .lookup .. =>true
 | .convert .. =>Wf tb o
 | .call {callee:=.builtin b,..}=>match b with
  | .len | .cap | .min | .max=>true
  | _=>false
 | _=>false
def has (l:List Nat) (i:Nat):Bool:=
 match l with
 | []=>false
 | a::r=>cond (Nat.beq i a) true (has r i)
def cv :List Oper->List Nat
 | []=> []
 | o::r=>match o.dst with
  | some d=>d::cv r
  | none=>cv r
def app {b:Type _}:List b->List b->List b
 | [],l=>l
 | a::r,l=>a::app r l
def kB :List Nat->List Nat->Bool
 | [],_=>true
 | a::r,l=>cond (has l a) (kB r l) false
structure Ctx where
 P:Program
 tb:Tb
 aQ:List Nat
def qU (l:List Nat) (o:Oper):Option Nat:=
 match o.dst with
 | some d=>cond (has l d) (some d) none
 | none=>none
def qa (a:List Oper):Nat->Oper->Option aY
 | 0,_=>none
 | n+1,o=>match o.guard with
  | none=>some []
  | some (j,w)=>match nth a j with
   | some p=>match p.dst,qa a n p with
    | some d,some c=>some ((d,w)::c)
    | _,_=>none
   | none=>none
def LQ (C:Ctx) (t:Nat) (a b:Value) (ok:Bool) (h:Hp) (v:Value):Prop:=
 match a,C.tb.ty t with
 | .map m,some e=>match e.cm with
  | .map k u=>match C.tb.ty k,C.tb.ty u with
   | some c,some d=>cond (sb c.cm) (cond ok (match v with
     | .tuple ⟨[x,.bool y]⟩=>Af c.cm d.zero m b h x y
     | _=>False) (∃y,Af c.cm d.zero m b h v y)) (kA C.P (Instr.lookup t a b ok) h v)
   | _,_=>False
  | _=>False
 | _,_=>False
def pF (C:Ctx) (c:Nat->Bool) (o:Oper) (ch:aY) (s:St) (h:Hp):Prop:=
 match o.op,o.dst with
 | .load _ x,some d=>match s.f d with
  | some (.v v,_)=>match ev s ch x with
   | some (.v (.pointer (some a)))=>kU (dH s ch) (aR h a (ba v))
   | some (.box b _)=>cond (c b) False True
   | some (.dS b _)=>cond (c b) False True
   | _=>False
  | _=>False
 | .lookup t x i ok,some d=>match s.f d with
  | some (.v v,_)=>iH (ev s ch x) λa=>iH (ev s ch i) λb=>kU (dH s ch) (LQ C t a b ok h v)
  | _=>False
 | .call {callee:=.builtin .len,args:=g,argTypes:=e},some d=>match s.f d with
  | some (.v v,_)=>match eh s ch g.toList with
   | some [x]=>kU (dH s ch) (kA C.P (Builtin.len_ e o.type #[x]) h v)
   | _=>False
  | _=>False
 | _,_=>False
def Fi (C:Ctx) (b:Nat->Bool) (a:List Oper) (s:St) (h:Hp):List Nat->Prop
 | []=>True
 | r::l=>(match nth a r with
   | some o=>match qa a a.length o with
    | some ch=>pF C b o ch s h
    | none=>False
   | none=>False)/\Fi C b a s h l
def ua (s:St):aY->Bool
 | []=>true
 | (d,_)::c=>match s.f d with
  | some (.v (.bool _),a)=>cond (oV a c) (ua s c) false
  | _=>false
def nodup :List Nat->Bool
 | []=>true
 | a::r=>cond (has r a) false (nodup r)
def sN :List Oper->Bool
 | []=>true
 | o::r=>match o.guard with
  | none=>sN r
  | some _=>false
def Ah (d i:Nat):List Oper->Option Nat
 | []=>none
 | o::r=>match o.op with
  | .extract (.tmp t) j=>cond (Nat.beq t d) (cond (Nat.beq j i) (some o.type) (Ah d i r)) (Ah d i r)
  | _=>Ah d i r
def Kx (tb:Tb) (d i:Nat) (a:List Oper):Shape:=match Ah d i a with
 | some t=>match tb.ty t with
  | some e=>e.sh
  | none=>AY
 | none=>AY
def Bv (C:Ctx) (b:List Oper) (o:Oper) (ch:aY) (s:St) (h:Hp) (K:LV->Hp->Prop):Prop:=
 match o.op,o.dst with
 | .entry x,some d=>iH (ev s ch x) λa=>Ot (dH s ch) C.P (oj (Kx C.tb d 0 b) (Kx C.tb d 1 b)) (Instr.entry a) K h
 | _,_=>False
def BO (C:Ctx) (b:List Oper) (f:List Nat) (o:Oper) (s:St) (h:Hp) (K:St->Hp->Prop):Prop:=
 match qa b b.length o with
 | none=>False
 | some ch=>cond (ua s ch)
  (cond (isVal C.tb o) (wG C.P C.tb o ch s h λl=>K (s.put o.dst l ch) h)
  (match qU C.aQ o,ch with
   | some d,[]=>cond (has f d) (match o.op with
    | .alloc t=>match C.tb.ty t with
     | some e=>K ((s.put (some d) (.box d 0) []).gL d (ba e.zero)) h
     | none=>False
    | .box _ x=>iH (ev s ch x) λv=>K ((s.put (some d) (.box d 0) []).gL d (ba v)) h
    | _=>False) False
   | some _,_=>False
   | none,_=>match o.op with
    | .store t x y=>match ev s ch x,ev s ch y with
     | some (.box k off),some (.v v)=>match s.m k,C.tb.ty t,ch with
      | some c,some e,[]=>cond (has f k) (cond (Nat.beq (ba v).length e.size) (cond (Nat.ble (off+e.size) c.length) (cond (iX (ba v))
        (K ((s.put o.dst (.v (.tuple #[])) ch).gL k (kP c off (ba v))) h) False) False) False) False
      | _,_,_=>False
     | _,_=>yd C.P C.tb o ch s h λl a=>K (s.put o.dst l ch) a
    | .entry _=>Bv C b o ch s h λl a=>K (s.put o.dst l ch) a
    | _=>yd C.P C.tb o ch s h λl a=>K (s.put o.dst l ch) a)) False
def vE (o:Oper) (s:St) (k:Nat):Bool:=match o.op with
 | .store _ x _=>(match ev s [] x with
  | some (.box b _)=>Nat.beq k b
  | some (.v _)=>false
  | _=>true)
 | _=>false
def rM (tb:Tb) (o:Oper):Bool:=match o.op with
 | .move _ | .assign _ | .pick .. | .extract .. | .unOp .. | .nilCheck _ | .fieldAddr .. | .field .. | .indexAddr .. | .index .. | .slice .. | .makeInterface .. | .makeFunc .. | .build .. =>false
 | .binOp _ t _ _ _=>match tb.ty t with
  | some e=>match e.cm with
   | .int _ | .bool | .string | .float _=>false
   | _=>true
  | none=>true
 | .call {callee:=.builtin b,argTypes:=a,..}=>match b with
  | .cap | .min | .max=>false
  | .len=>match a.toList with
   | [t]=>match tb.ty t with
    | some e=>match e.cm with
     | .slice _ | .string | .array _ _=>false
     | _=>true
    | none=>true
   | _=>true
  | _=>true
 | .convert s _ _=>match tb.ty s with
  | some e=>match e.cm with
   | .int _ | .float _ | .string=>false
   | _=>true
  | none=>true
 | _=>true
def Cm (C:Ctx) (a:List Oper) (o:Oper) (s:St):Bool:=
 cond (isVal C.tb o) (cond (rM C.tb o) true (match qa a a.length o with
  | some ch=>match cX C.tb o ch s with
   | .pure=>true
   | _=>false
  | none=>false)) true
def pj (C:Ctx) (a:List Oper) (c:List Nat):List (Nat×List Nat)->St->Hp->(St->Hp->Prop)->Prop
 | [],s,h,K=>K s h
 | (i,ws)::r,s,h,K=>match nth a i with
  | some o=>cond (Cm C a o s) (BO C a c o s h λd b=>match ws with
   | []=>pj C a c r d b K
   | ws=>Fi C (vE o s) a d b ws/\pj C a c r d b K) False
  | none=>False
def BR (C:Ctx) (b:List Oper) (a:List Nat):List Oper->St->Hp->(St->Hp->Prop)->Prop
 | [],s,h,K=>K s h
 | o::r,s,h,K=>BO C b a o s h λd c=>BR C b a r d c K
def uD (e:Edge):Bool:=match e.ground with
 | .textOnly _=>false
 | .gcOnly _=>false
 | _=>true
def waits (o:Oper):List Nat:=go o.after.toList
 where
 go:List Edge->List Nat
  | []=> []
  | e::r=>cond (uD e) (e.on::go r) (go r)
def vA (j:Nat) (l:List Nat):List Nat:=cond (has l j) l (j::l)
def BH :List Nat->List Nat->List Nat
 | [],b=>b
 | a::r,b=>BH r (vA a b)
def bF :List Oper->List (List Nat)->List (List Nat)
 | [],a=>a
 | o::r,a=>bF r (app a [union (waits o) a])
 where
 union:List Nat->List (List Nat)->List Nat
  | [],_=> []
  | j::l,a=>vA j (BH (match nth a j with
   | some x=>x
   | none=> []) (union l a))
def lU (rows:List (List Nat)) (i:Nat):List Nat:=match nth rows i with
 | some l=>l
 | none=> []
def mH (aQ:List Nat) (o:Oper):Bool:=match o.op,o.dst with
 | .alloc _,some d=>has aQ d
 | .box _ _,some d=>has aQ d
 | _,_=>false
def yl :List (Nat×Operand)->List Operand
 | []=> []
 | (_,x)::r=>x::yl r
def wa :Option Operand->List Operand
 | none=> []
 | some x=> [x]
def Cn :Op->Option (List Operand)
 | .alloc _=>some []
 | .move x | .assign x | .box _ x | .load _ x | .nilCheck x | .unOp _ _ x | .convert _ _ x | .fieldAddr _ x _ | .field _ x _ | .range _ x | .next x _ | .entry x | .extract x _ | .makeInterface _ x=>some [x]
 | .pick c a b=>some [c,a,b]
 | .build _ e | .buildSlice _ _ e=>some (yl e.toList)
 | .store _ a v | .binOp _ _ a v _ | .makeSlice _ a v | .indexAddr _ a v | .index _ a v | .lookup _ a v _ | .mapEntry _ a v=>some [a,v]
 | .makeFunc _ first captured=>some (app first.toList captured.toList)
 | .makeMap _ r=>some (wa r)
 | .slice _ x l h m=>some (x::app (wa l) (app (wa h) (wa m)))
 | .mapUpdate _ m k v | .entryStore _ m k v | .insert _ m k v=>some [m,k,v]
 | .call {callee:=.value f,args:=d,..}=>some (f::d.toList)
 | .call {callee:=.builtin _,args:=d,..}=>some d.toList
 | _=>none
def tw (o:Oper) (t:Nat):Bool:=match o.dst with
 | some d=>Nat.beq d t
 | none=>false
def looksAt (o:Oper) (t:Nat):Bool:=match Cn o.op with
 | some l=>go l
 | none=>true
 where
 go:List Operand->Bool
  | []=>false
  | .tmp u::r=>cond (Nat.beq u t) true (go r)
  | _::r=>go r
def uO (rows:List (List Nat)) (i t:Nat):List Oper->Nat->Bool
 | [],_=>true
 | p::r,j=>cond (cond (tw p t) (cond (has (lU rows i) j) true (cond (Nat.beq i j) true (has (lU rows j) i))) true) (uO rows i t r (j+1)) false
def dy (a:List Oper) (rows:List (List Nat)) (i:Nat) (o:Oper):Bool:=
 match Cn o.op with
 | some l=>cond (go l) (match o.guard with
  | none=>true
  | some (j,_)=>has (lU rows i) j) false
 | none=>false
 where
 go:List Operand->Bool
  | []=>true
  | .tmp t::r=>cond (uO rows i t a 0) (go r) false
  | _::r=>go r
def il (rows:List (List Nat)) (j:Nat) (o:Oper):List Oper->Nat->Bool
 | [],_=>false
 | p::r,i=>match o.dst with
  | none=>false
  | some d=>cond (cond (looksAt p d) (cond (has (lU rows i) j) false true) false) true (il rows j o r (i+1))
def eg (tb:Tb) (aQ:List Nat) (a:List Oper) (rows:List (List Nat)):List (Nat×List Nat)->List Nat->Option Nat->Bool
 | [],_,_=>true
 | (i,b)::r,done,last=>match nth a i with
  | some o=>cond (cond (kB (waits o) done) (dy a rows i o) false)
   (cond (has done i) false (cond (match last with
     | none=>true
     | some e=>has (lU rows i) e)
    (match cond (isVal tb o) true (mH aQ o),il rows i o a 0 with
     | true,false=>eg tb aQ a rows r (i::done) last
     | true,true=>eg tb aQ a rows r (i::done) (some i)
     | false,_=>cond (watched tb a rows b i done) (eg tb aQ a rows r (i::done) (some i)) false) false)) false
  | none=>false
 where
 watched (tb:Tb) (a:List Oper) (rows:List (List Nat)) (b:List Nat) (e:Nat):List Nat->Bool
  | []=>true
  | r::l=>cond (match nth a r with
    | some o=>cond (cond (rM tb o) (isVal tb o) false) (cond (has b r) true (has (lU rows e) r)) true
    | none=>false) (watched tb a rows b e l) false
def St.clean (s:St):St:={f:=λi=>match s.f i with | some (l,[])=>some (l,[]) | _=>none,m:=s.m}
def kN (aQ:List Nat):List Oper->List Nat
 | []=> []
 | o::r=>cond (mH aQ o) (match o.dst with
  | some d=>d::kN aQ r
  | none=>kN aQ r) (kN aQ r)
def qk (l:List Nat) (x:Option (LV×aY)):Option (LV×aY):=match x with
 | some (.box k o,c)=>cond (has l k) none (some (.box k o,c))
 | some (.dS k o,c)=>cond (has l k) none (some (.dS k o,c))
 | some (.v v,c)=>some (.v v,c)
 | none=>none
def St.kX (s:St) (l:List Nat):St:=match l with
 | []=>s
 | l=>{f:=λi=>qk l (s.f i),m:=λk=>cond (has l k) none (s.m k)}
def zA :List Oper->Nat->Bool
 | [],_=>true
 | o::r,i=>match o.guard with
  | none=>zA r (i+1)
  | some (j,_)=>cond (Nat.blt j i) (zA r (i+1)) false
def AX (aQ:List Nat) (a:List Oper):Bool:=
 cond (nodup (kN aQ a)) (cond (sN a) true (cond (nodup (cv a)) (zA a 0) false)) false
structure J where
 P4:Bool
 i:Nat
 t:Nat
inductive iY where
 | tt
 | sq (x y:iY)
 | jn (js:List J) (mm:List Nat) (x y:iY)
 | lp (js:List J) (mm:List Nat) (x:iY)
 | bk (x:iY)
 | bj (js:List J) (mm:List Nat) (x:iY)
 | sp (k:Nat) (x y:iY)
 | gs (l:Nat) (x:iY)
 | gj (l:Nat) (js:List J) (mm:List Nat) (x y:iY)
 | rg (ord:List (Nat×List Nat))
 | r2 (pre:List (Nat×List Nat)) (i j:Nat) (x y:iY)
 | gd (l:Nat) (a x:iY)
def iY.fst :iY->iY
 | .sq x _ | .jn _ _ x _ | .gj _ _ _ x _ | .sp _ x _ | .lp _ _ x | .bk x | .bj _ _ x=>x
 | _=>.tt
def iY.snd :iY->iY
 | .sq _ y | .jn _ _ _ y | .gj _ _ _ _ y | .sp _ _ y=>y
 | _=>.tt
inductive Ex where
 | gH
 | ret
 | ext (i:Nat)
 | kn (i:Nat)
abbrev Env :=Ex->St->Hp->Prop
def Env.gH (E:Env) (K:St->Hp->Prop):Env
 | .gH=>K
 | .ret=>E .ret
 | .ext i=>E (.ext i)
 | .kn i=>E (.kn i)
def Env.eV (E:Env) (id:Nat) (K:St->Hp->Prop):Env
 | .gH=>K
 | .ret=>E .ret
 | .ext i=>cond (Nat.beq i id) K (E (.ext i))
 | .kn i=>E (.kn i)
def Env.mu (E:Env):Env
 | .gH=>E .gH
 | .ret=>E .ret
 | .ext i=>E (.ext i)
 | .kn _=>λ_ _=>False
def oH (tb:Tb):List J->Type
 | []=>Unit
 | [j]=>(dN tb j.t).T
 | j::a::js=>(dN tb j.t).T×oH tb (a::js)
def Ai (tb:Tb) (t:Nat):Bool:=match tb.ty t with
 | some e=>pE e.cm
 | none=>false
def zK (tb:Tb) (t:Nat) (a:List Value):Option Value:=
 cond (Ai tb t) (some (.agg a.toArray)) (match a with
  | [v]=>some v
  | _=>none)
def PL (sh:Shape) (v:Value) (K:sh.T->Prop):Prop:=∃x,sh.enc x=v/\K x
def AN (tb:Tb) (t:Nat):Bool:=match tb.ty t with
 | some e=>match e.cm with
  | .interface _=>true
  | _=>false
 | none=>false
def ur (tb:Tb) (t:Nat) (v:Value) (K:(dN tb t).T->Prop):Prop:=
 cond (AN tb t) (PL (dN tb t) v K) (match (dN tb t).dec v with
  | some x=>K x
  | none=>False)
def Aj (tb:Tb) (s:St) (j:J) (K:(dN tb j.t).T->Prop):Prop:=
 cond j.P4
  (match s.m j.i with
   | some a=>match zK tb j.t a with
    | some v=>ur tb j.t v K
    | none=>False
   | none=>False)
  (match s.f j.i with
   | some (.v v,[])=>ur tb j.t v K
   | _=>False)
def nE (tb:Tb):(js:List J)->St->(oH tb js->Prop)->Prop
 | [],_,K=>K ()
 | [j],s,K=>Aj tb s j K
 | j::a::js,s,K=>Aj tb s j λx=>nE tb (a::js) s λy=>K (x,y)
def xi (tb:Tb) (j:J) (x:(dN tb j.t).T) (s:St):St:=
 cond j.P4 (s.gL j.i (ba ((dN tb j.t).enc x))) (s.put (some j.i) (.v ((dN tb j.t).enc x)) [])
def nV (tb:Tb):(js:List J)->oH tb js->St->St
 | [],_,s=>s
 | [j],x,s=>xi tb j x s
 | j::a::js,p,s=>nV tb (a::js) p.2 (xi tb j p.1 s)
def dX :Code->List Nat
 | .region _ c _=>cv c.toList
 | .seq a b=>app (dX a) (dX b)
 | .cond _ a b=>app (dX a) (dX b)
 | .block _ a=>dX a
 | .loop a=>dX a
 | .scope a=>dX a
 | _=> []
def St.forget (s:St) (l a:List Nat):St:=
 {f:=λi=>cond (has l i) none (qk l (s.f i)),m:=λi=>cond (has a i) none (s.m i)}
inductive Md where
 | full
 | fr (l:Nat)
 | pr (l:Nat)
 | rs (l:Nat)
 | rz (l:Nat)
def kY :Code->Nat->Bool
 | .seq a b,l=>cond (kY a l) (kY b l) false
 | .label c,l=>cond (Nat.beq c l) false true
 | _,_=>true
def qF :Code->Nat->Option Code
 | .seq a b,l=>match a with
  | .label c=>cond (Nat.beq c l) (some b) none
  | _=>cond (kY a l) (qF b l) none
 | _,_=>none
def ns :Code->Nat->Option Code
 | .seq a b,l=>match a with
  | .label c=>cond (Nat.beq c l) (some b) (ns b l)
  | _=>cond (kY a l) (ns b l) none
 | _,_=>none
def Env.put (E:Env) (l:Nat) (K:St->Hp->Prop):Env
 | .gH=>E .gH
 | .ret=>E .ret
 | .ext i=>E (.ext i)
 | .kn i=>cond (Nat.beq i l) K (E (.kn i))
def vP (R:Nat->iY->Env->St->Hp->Prop):iY->Env->Env
 | .gd l a x,E=>vP R x (E.put l (R l a E))
 | _,E=>E
def AL :iY->iY
 | .gd _ _ x=>AL x
 | a=>a
def Env.Om (E:Env) (l:Nat) (K:St->Hp->Prop):Env
 | .gH=>K
 | .ret=>E .ret
 | .ext i=>E (.ext i)
 | .kn i=>cond (Nat.beq i l) K λ_ _=>False
def BQ (k:Nat) (s:St) (h:Hp) (K:St->Hp->Prop):Prop:=
 match s.f k,s.m k with
 | some (.box d off,[]),some b=>cond (Nat.beq k d) (cond (Nat.beq off 0) (bG b (λa c=>
   K {f:=λi=>cond (Nat.beq i k) (some (.v (.pointer (some a)),[])) (s.f i),m:=λi=>cond (Nat.beq i k) none (s.m i)} c) h) False) False
 | _,_=>False
def eJ :List Oper->Nat->Nat->List Oper
 | [],_,_=> []
 | o::r,0,i=>{o with after:=⟨app o.after.toList [⟨i,.data⟩]⟩}::r
 | o::r,j+1,i=>o::eJ r j i
def vd (tb:Tb) (aQ:List Nat) (a:List Oper) (rows:List (List Nat)):List (Nat×List Nat)->List Nat->Option Nat->List Nat×Option Nat
 | [],done,last=>(done,last)
 | (i,_)::r,done,last=>match nth a i with
  | some o=>match cond (isVal tb o) true (mH aQ o),il rows i o a 0 with
   | true,false=>vd tb aQ a rows r (i::done) last
   | _,_=>vd tb aQ a rows r (i::done) (some i)
  | none=>(done,last)
def uP (rows:List (List Nat)) (i:Nat) (done:List Nat):Nat->Bool
 | 0=>true
 | k+1=>cond (cond (has done k) true (cond (Nat.beq k i) true (has (lU rows k) i))) (uP rows i done k) false
def uQ (b:List Oper) (c:List (List Nat)) (a:List Oper) (rows:List (List Nat)):List Nat->Bool
 | []=>true
 | k::r=>cond (match nth a k with
  | some o=>cond (il c k o b 0) true (cond (dy a rows k o) (cond (il rows k o a 0) false true) false)
  | none=>false) (uQ b c a rows r) false
def Kz (a:List Oper) (i j:Nat) (done:List Nat) (last:Option Nat):Bool:=
 cond (Nat.beq i j) false (match nth a i,nth a j with
  | some o,some p=>cond (has done i) false (cond (has done j) false (cond (kB (waits o) done) (cond (kB (waits p) done) (cond (match last with
    | none=>true
    | some e=>cond (has done e) (uP (bF a []) e done a.length) false)
   (cond (uP (bF (eJ a j i) []) i done a.length) (cond (uP (bF (eJ a i j) []) j done a.length)
    (cond (uQ a (bF a []) (eJ a j i) (bF (eJ a j i) []) done) (uQ a (bF a []) (eJ a i j) (bF (eJ a i j) []) done) false) false) false) false) false) false))
  | _,_=>false)
def nM (tb:Tb) (aQ:List Nat):iY->List Oper->List Nat->Option Nat->Bool
 | .rg ord,ops,done,last=>cond (Nat.beq (done.length+ord.length) ops.length) (eg tb aQ ops (bF ops []) ord done last) false
 | .r2 pre i j x y,ops,done,last=>cond (eg tb aQ ops (bF ops []) pre done last) (match vd tb aQ ops (bF ops []) pre done last with
   | (d,l)=>cond (Kz ops i j d l) (cond (nM tb aQ x (eJ ops j i) d l) (nM tb aQ y (eJ ops i j) d l) false) false) false
 | _,_,_,_=>false
def wo (C:Ctx) (b:List Nat) (K:St->Hp->Prop):iY->List Oper->St->Hp->Prop
 | .rg e,a,s,h=>pj C a b e s h K
 | .r2 pre i j x y,a,s,h=>pj C a b pre s h λd c=>wo C b K x (eJ a j i) d c/\wo C b K y (eJ a i j) d c
 | _,_,_,_=>False
def liftM (C:Ctx):Code->Md->iY->List Nat->St->Env->Hp->Prop
 | .skip,.full,_,_,s,E,h=>E .gH s h
 | .ret,.full,_,_,s,E,h=>E .ret s h
 | .exit id,.full,_,_,s,E,h=>E (.ext id) s h
 | .goto l,.full,_,_,s,E,h=>E (.kn l) s h
 | .label _,.full,_,_,s,E,h=>E .gH s h
 | .region _ g n,.full,A,mok,s,E,h=>
  match n with
  | false=>cond (AX C.aQ g.toList) (BR C g.toList mok g.toList (s.kX (kN C.aQ g.toList)) h λe d=>E .gH e.clean d) False
  | true=>cond (cond (nodup (cv g.toList)) (nM C.tb C.aQ A g.toList [] none) false) (wo C mok (λe d=>E .gH e.clean d) A g.toList (s.kX (kN C.aQ g.toList)) h) False
 | .seq a b,.full,A,mok,s,E,h=>
  match A with
  | .jn f mm _ _=>cond (kB mm mok) (lX (λ(R:oH C.tb f->Hp->Prop)=>liftM C a .full A.fst mm s (E.gH λe d=>nE C.tb f e λx=>R x d) h)
    (λx d=>liftM C b .full A.snd mok (nV C.tb f x (s.forget (dX a) mm)) E d)) False
  | .sp k _ _=>cond (has mok k) (liftM C a .full A.fst mok s (E.gH λe d=>BQ k e d λs2 o=>liftM C b .full A.snd mok s2 E o) h) False
  | _=>liftM C a .full A.fst mok s (E.gH λe d=>liftM C b .full A.snd mok e E d) h
 | .seq a b,.fr l,A,mok,s,E,h=>
  match a with
  | .label _=>E .gH s h
  | _=>liftM C a .full A.fst mok s (E.gH λe d=>liftM C b (.fr l) A.snd mok e E d) h
 | .seq a b,.pr l,A,mok,s,E,h=>
  match a with
  | .label _=>False
  | _=>match A with
   | .gj _ f mm x _=>cond (kB mm mok) (liftM C a .full .tt mok s (E.mu.gH λe d=>
     lX (λ(R:oH C.tb f->Hp->Prop)=>liftM C b (.fr l) x mm e (E.Om l λe d=>nE C.tb f e λx=>R x d) d)
      (λx d=>liftM C b (.rs l) A.snd mok (nV C.tb f x (e.forget (dX b) mm)) E.mu d)) h) False
   | _=>liftM C a .full A.fst mok s (E.mu.gH λe d=>liftM C b (.pr l) A.snd mok e E d) h
 | .seq a b,.rs l,A,mok,s,E,h=>
  match a with
  | .label _=>liftM C b .full A mok s E h
  | _=>liftM C b (.rs l) A mok s E h
 | .seq a b,.rz l,A,mok,s,E,h=>
  match a with
  | .label p=>cond (Nat.beq p l) (liftM C b .full A mok s E h) (liftM C b (.rz l) A mok s E h)
  | _=>liftM C b (.rz l) A mok s E h
 | .cond c a b,.full,A,mok,s,E,h=>iH (ev s [] c) λv=>match v with
  | .bool t=>if t=true then liftM C a .full A.fst mok s E h else liftM C b .full A.snd mok s E h
  | _=>False
 | .scope a,.full,A,mok,s,E,h=>
  match A with
  | .gs l x=>match qF a l with
   | some _=>liftM C a (.pr l) x mok s E h
   | none=>False
  | .gd j a0 i=>liftM C a .full (AL (.gd j a0 i)) mok s (vP (λl m E s h=>match ns a l with
   | some _=>liftM C a (.rz l) m mok s E h
   | none=>False) (.gd j a0 i) E.mu) h
  | _=>liftM C a .full A mok s E.mu h
 | .block id a,.full,A,mok,s,E,h=>
  match A with
  | .bj f mm _=>cond (kB mm mok) (lX (λ(R:oH C.tb f->Hp->Prop)=>liftM C a .full A.fst mm s (E.eV id λe d=>nE C.tb f e λx=>R x d) h)
    (λx d=>E .gH (nV C.tb f x (s.forget (dX a) mm)) d)) False
  | _=>liftM C a .full A.fst mok s (E.eV id (E .gH)) h
 | .loop a,.full,A,mok,s,E,h=>
  match A with
  | .lp f mm _=>cond (kB mm mok) (nE C.tb f s λi=>qH (λ(R:oH C.tb f->Hp->Prop) x h=>liftM C a .full A.fst mm (nV C.tb f x (s.forget (dX a) mm))
    (E.gH λe d=>nE C.tb f e λx=>R x d) h) i h) False
  | _=>False
 | _,_,_,_,_,_,_=>False
def nk (C:Ctx) (s:St) (r:ResultVar) (t:Nat) (K:(dN C.tb t).T->Prop):Prop:=
 match r with
 | .tmp i=>match s.f i with
  | some (.v v,[])=>ur C.tb t v K
  | _=>False
 | .cell i b=>cond (Nat.beq b t) (match s.f i,C.tb.ty t with
  | some (.box k 0,[]),some _=>match s.m k with
   | some a=>match zK C.tb t a with
    | some v=>ur C.tb t v K
    | none=>False
   | none=>False
  | _,_=>False) False
def bC (tb:Tb):List Nat->Shape
 | []=>uf
 | [a]=>dN tb a
 | [a,b]=>oj (dN tb a) (dN tb b)
 | [a,b,c]=>sV (dN tb a) (dN tb b) (dN tb c)
 | [a,b,c,d]=>Ac (dN tb a) (dN tb b) (dN tb c) (dN tb d)
 | [a,b,c,d,e]=>Ad (dN tb a) (dN tb b) (dN tb c) (dN tb d) (dN tb e)
 | [a,b,c,d,e,f,g]=>Yv (dN tb a) (dN tb b) (dN tb c) (dN tb d) (dN tb e) (dN tb f) (dN tb g)
 | _=>uf
def uB (C:Ctx) (s:St) (h:Hp):(rs:List ResultVar)->(u:List Nat)->((bC C.tb u).T->Hp->Prop)->Prop
 | [],[],K=>K () h
 | [r],[t],K=>nk C s r t λx=>K x h
 | [a,r2],[t1,t2],K=>nk C s a t1 λb=>nk C s r2 t2 λc=>K (b,c) h
 | [a,r2,d],[t1,t2,e],K=>nk C s a t1 λb=>nk C s r2 t2 λc=>nk C s d e λf=>K (b,c,f) h
 | [a,r2,d,g],[t1,t2,e,i],K=>nk C s a t1 λb=>nk C s r2 t2 λc=>nk C s d e λf=>nk C s g i λj=>K (b,c,f,j) h
 | [a,r2,d,g,k],[t1,t2,e,i,l],K=>nk C s a t1 λb=>nk C s r2 t2 λc=>nk C s d e λf=>nk C s g i λj=>
   nk C s k l λm=>K (b,c,f,j,m) h
 | [a,r2,d,g,k,n,o],[t1,t2,e,i,l,p,q],K=>nk C s a t1 λb=>nk C s r2 t2 λc=>nk C s d e λf=>nk C s g i λj=>
   nk C s k l λm=>nk C s n p λv=>nk C s o q λw=>K (b,c,f,j,m,v,w) h
 | _,_,_=>False
def tq (args:List Value) (i:Nat):Option (LV×aY):=match nth args i with
 | some v=>some (.v v,[])
 | none=>none
def xj (f:Func):Code:=match f.body with
 | some c=>c
 | none=>.refuse ""
def tn (n:Nat):List Nat->Bool
 | []=>true
 | i::r=>cond (Nat.blt i n) (tn n r) false
def Bx (C:Ctx) (f:Func) (A:iY) (args:List Value) (K:(bC C.tb f.resultTypes.toList).T->Hp->Prop) (h:Hp):Prop:=
 cond (cond (Nat.ble args.length f.ntmps) (tn f.ntmps (dX (xj f))) false)
  (liftM C (xj f) .full A C.aQ {f:=tq args,m:=λ_=>none} (λe s h=>match e with
   | .gH | .ret=>uB C s h f.results.toList f.resultTypes.toList K
   | _=>False) h) False
structure Tb.Ok (P:Program) (tb:Tb):Prop where
 cm:∀t e,tb.ty t=some e->P.underlying t=some e.cm
 info:∀t e,tb.ty t=some e->∃i,P.info? t=some i/\i.size=e.size/\i.bytes=e.bytes/\i.zero=some e.zero
 agg:∀t e,tb.ty t=some e->pE e.cm=true->∀x,∃cs,e.sh.enc x=.agg cs/\cs.size=e.size
 leaf:∀t e,tb.ty t=some e->pE e.cm=false->e.size=1/\∀x,(ba (e.sh.enc x)).length=1/\∀cs,e.sh.enc x≠ .agg cs
 zD:∀t e,tb.ty t=some e->(ba e.zero).length=e.size
 A8:∀t e,tb.ty t=some e->e.cm=.int .u8->ba e.zero=[.int .u8 0]
 Qy:∀t e,tb.ty t=some e->pE e.cm=true->∃cs,e.zero=.agg cs
 call:∀g,tb.call g=true->∀args w,(callFunc g args).run P w=.ok (.enter g args) w
 ext:∀g f,tb.ext g=some f->∀args w,(callFunc g args).run P w=((f args).run P w).andThen λv w'=>.ok (.value v) w'
 mixed:P.follows .mixedOrders=true
theorem zM :∀ {c d:aY},oV c d=true->c=d
 | [],[],_=>rfl
 | [],_::_,h=>by simp [oV] at h
 | (t,w)::c,[],h=>by simp [oV] at h
 | (t,w)::c,(u,x)::d,h=>by
  simp only [oV] at h;cases a:Nat.beq t u with
  | false=>simp [a] at h
  | true=>
   cases b:Ku w x with
   | false=>simp [a,b] at h
   | true=>
    simp only [a,b,cond_true] at h;have e:t=u:=Nat.eq_of_beq_eq_true a;have f:w=x:=by cases w<;>cases x<;>first | rfl | cases b
    rw [e,f,zM h]
theorem M7 :∀ {c ch:aY},ni c ch=true->∀p∈c,p∈ch
 | c,[],h=>by
  cases c with
  | nil=>intro p hp;cases hp
  | cons a r=>simp [ni] at h
 | c,q::d,h=>by
  cases c with
  | nil=>intro p hp;cases hp
  | cons a r=>
   simp only [ni] at h;cases b:oV (a::r) (q::d) with
   | true=>intro p hp;rw [<-zM b];exact hp
   | false=>simp only [b,cond_false] at h;intro p hp;exact List.mem_cons_of_mem _ (M7 h p hp)
def hb (s:St) (t:Nat):Option Bool:=match s.f t with
 | some (.v (.bool b),_)=>some b
 | _=>none
def holds (s:St) (ch:aY):Prop:=∀p∈ch,hb s p.1=some p.2
theorem bL (s:St):holds s []:=λ_ h=>by cases h
theorem yy {s:St} {c ch:aY} (a:ni c ch=true) (h:holds s ch):holds s c:=λp hp=>h p (M7 a p hp)
theorem M8 {s:St} (t:Nat) (w:Bool) (r:aY):∃b,dH s ((t,w)::r)=some b/\(holds s ((t,w)::r)->b=true):=by
 induction r generalizing t w with
 | nil=>
  simp only [dH];split
  ·rename_i b c a;refine ⟨_,rfl,λh=> ?_⟩;have:=h (t,w) (List.mem_cons_self ..);simp only [hb,a] at this;grind
  ·refine ⟨false,rfl,λh=> ?_⟩;have:=h (t,w) (List.mem_cons_self ..);unfold hb at this;split at this
   ·rename_i e _ b c a;exact absurd a (e b c)
   ·cases this
 | cons p r k=>
  obtain ⟨l,m⟩:=p;obtain ⟨f,g,i⟩:=k l m;simp only [dH];split
  ·rename_i b c a;rw [g];refine ⟨_,rfl,λh=> ?_⟩;have d:=h (t,w) (List.mem_cons_self ..);simp only [hb,a] at d;injection d with d
   have n:f=true:=i λq j=>h q (List.mem_cons_of_mem _ j);grind
  ·refine ⟨false,rfl,λh=> ?_⟩;have:=h (t,w) (List.mem_cons_self ..);unfold hb at this;split at this
   ·rename_i e _ b c a;exact absurd a (e b c)
   ·cases this
theorem ov {s:St} {ch:aY} {p:Prop} (h:kU (dH s ch) p) (a:holds s ch):p:=by
 cases ch with
 | nil=>exact h
 | cons q r=>obtain ⟨t,w⟩:=q;obtain ⟨b,hb,hi⟩:=M8 (s:=s) t w r;rw [hb] at h;exact h (hi a)
def LVal (a:Nat->Nat):LV->Value
 | .v x=>x
 | .box k o=>.pointer (some ⟨a k,o,none⟩)
 | .dS k o=>.pointer (some ⟨a k,o,none⟩)
def eZ (β:Nat->Nat) (s:St) (ρ:Operand->Value):Operand->Prop
 | .tmp t=>∀l c,s.f t=some (l,c)->holds s c->ρ (.tmp t)=LVal β l
 | .const v=>ρ (.const v)=v
 | .global g=>ρ (.global g)=.pointer (some ⟨g,0,none⟩)
 | .func f=>ρ (.func f)=.func (.func f) #[] #[]
theorem bJ {e:Nat->Nat} {s:St} {h:Operand->Value} {x:Operand} {ch:aY} {l:LV} (b:eZ e s h x) (j:holds s ch) (a:ev s ch x=some l):h x=LVal e l:=by
 cases x with
 | tmp t=>
  simp only [ev] at a;split at a
  ·rename_i k c i;cases d:ni c ch with
   | false=>simp [d] at a
   | true=>simp only [d,cond_true] at a;cases a;exact b l c i (yy d j)
  ·cases a
 | const v=>cases a;exact b
 | global g=>cases a;exact b
 | func f=>cases a;exact b
theorem TV {l:Option LV} {K:LV->Prop} (h:On l K):∃x,l=some x/\K x:=by
 cases l with
 | none=>exact h.elim
 | some x=>exact ⟨x,rfl,h⟩
theorem kj {l:Option LV} {K:Value->Prop} (h:iH l K):∃x,l=some (.v x)/\K x:=by
 cases l with
 | none=>exact h.elim
 | some x=>cases x<;>first | exact ⟨_,rfl,h⟩ | exact h.elim
theorem FL {l:Option (List Value)} {K:List Value->Prop} (h:nK l K):∃x,l=some x/\K x:=by
 cases l with
 | none=>exact h.elim
 | some x=>exact ⟨x,rfl,h⟩
def qb (d:Nat->Nat) (s:St) (o:Oper) (w:World):Prop:=
 ∀t,Operand.tmp t∈o.op.operands->∀k off c,(s.f t=some (.box k off,c)\/s.f t=some (.dS k off,c))->holds s c->∀a,s.m k=some a->∃b,w.heap[d k]? =some (.cells a.toArray b (0,0))
theorem sW {s:St} {ch:aY} {x:Operand} {l:LV} (a:ev s ch x=some l) (h:∀v,l≠ .v v) (e:holds s ch):∃t c,x=.tmp t/\s.f t=some (l,c)/\holds s c:=by
 cases x with
 | tmp t=>
  simp only [ev] at a;split at a
  ·rename_i i c d;cases b:ni c ch with
   | false=>simp [b] at a
   | true=>simp only [b,cond_true] at a;cases a;exact ⟨t,c,rfl,d,yy b e⟩
  ·cases a
 | const v=>cases a;grind
 | global g=>cases a;grind
 | func f=>cases a;grind
theorem qb.box {β:Nat->Nat} {s:St} {o:Oper} {w:World} (hb:qb β s o w) {ch:aY} {x:Operand} {k off:Nat} (i:x∈o.op.operands) (e:ev s ch x=some (.box k off)) (g:holds s ch)
  {a:List Value} (h:s.m k=some a):∃b,w.heap[β k]? =some (.cells a.toArray b (0,0)):=by
 obtain ⟨t,c,rfl,f,d⟩:=sW e (by simp) g;exact hb t i k off c (.inl f) d a h
theorem qb.dS {b:Nat->Nat} {s:St} {o:Oper} {w:World} (hb:qb b s o w) {ch:aY} {x:Operand} {k off:Nat} (j:x∈o.op.operands) (f:ev s ch x=some (.dS k off)) (h:holds s ch)
  {a:List Value} (i:s.m k=some a):∃d,w.heap[b k]? =some (.cells a.toArray d (0,0)):=by
 obtain ⟨t,c,rfl,g,e⟩:=sW f (by simp) h;exact hb t j k off c (.inr g) e a i
def pN (a:Kd) (P:Program) (o:Oper) (s:St) (h:Hp) (l:LV):Prop:=
 ∀(c:Nat->Nat) (d:Operand->Value) (w:World),(∀x∈o.op.operands,eZ c s d x)->(a=.mem->Sub h w)->(a≠ .pure->qb c s o w)->
  ∃b,(execOp d o).run P w=.ok (.value (LVal c l)) b/\(a≠ .mem->b=w)/\(a=.mem->Step h h w b)
theorem nj {b:Type _}:∀(l:List b) (i:Nat),nth l i=l[i]?
 | [],_=>by simp [nth]
 | a::l,0=>by simp [nth]
 | a::l,n+1=>by simp [nth,nj l n]
theorem M9 {b:Type _}:∀(l:List b) (i:Nat),pS l i=l.drop i
 | l,0=>by simp [pS]
 | [],n+1=>by simp [pS]
 | a::l,n+1=>by simp [pS,M9 l n]
theorem Na {b:Type _}:∀(l:List b) (i:Nat),pY l i=l.take i
 | l,0=>by simp [pY]
 | [],n+1=>by simp [pY]
 | a::l,n+1=>by simp [pY,Na l n]
theorem rN {b:Type _}:∀(l r:List b),app l r=l++r
 | [],r=>rfl
 | a::l,r=>by simp [app,rN l r]
theorem rT :∀(l:List Nat) (i:Nat),has l i=true↔i∈l
 | [],i=>by simp [has]
 | a::l,i=>by
  simp only [has];cases h:Nat.beq i a with
  | true=>simp [Nat.eq_of_beq_eq_true h]
  | false=>
   have:i≠a:=λe=>by rw [e] at h;simp at h
   simp [rT l i,this]
theorem zE {l:List Nat} {i:Nat} (h:has l i=false):i∉l:=λa=>by rw [(rT l i).2 a] at h;cases h
section
variable {P:Program} {tb:Tb}
theorem ay (ok:tb.Ok P) {t:Nat} {e:Ty} (h:tb.ty t=some e) (w:World):(underlying t).run P w=.ok e.cm w:=by simp [underlying,ok.cm t e h]
theorem lh (ok:tb.Ok P) {t:Nat} {e:Ty} (h:tb.ty t=some e) (w:World):
  ∃i,(typeInfo t).run P w=.ok i w/\i.size=e.size/\i.bytes=e.bytes/\i.zero=some e.zero:=by
 obtain ⟨i,hi,a,b,c⟩:=ok.info t e h;exact ⟨i,by simp [typeInfo,hi],a,b,c⟩
theorem cw (ok:tb.Ok P) {t:Nat} {e:Ty} (h:tb.ty t=some e) (w:World):(Go.sizeOf t).run P w=.ok e.size w:=by obtain ⟨i,hi,a,b,c⟩:=lh ok h w;simp only [Go.sizeOf,Sem.run_bind,hi,Result.andThen_ok,Sem.run_pure,a]
theorem cU (ok:tb.Ok P) {t:Nat} {e:Ty} (h:tb.ty t=some e) (w:World):(zeroValue t).run P w=.ok e.zero w:=by obtain ⟨i,hi,b,c,a⟩:=lh ok h w;simp only [zeroValue,Sem.run_bind,hi,Result.andThen_ok,a,Sem.run_pure]
theorem lQ (ok:tb.Ok P) {t:Nat} {e:Ty} (h:tb.ty t=some e) (w:World):(isAgg t).run P w=.ok (pE e.cm) w:=by simp only [isAgg,Sem.run_bind,ay ok h,Result.andThen_ok];cases e.cm<;>rfl
theorem oi (v:Value):v.cells.toList=ba v:=by cases v<;>rfl
theorem zwb {w:World} {a:Addr}:∀(n i:Nat) (d:Array Value) (b:List Value),b.length=n->
  (∀j v,b[j]? =some v->w.cell? (a.add (i+j))=some v)->(loadCellsFrom a i n d).run P w=.ok (d++b.toArray) w
 | 0,i,d,b,e,_=>by have:b=[]:=List.length_eq_zero_iff.1 e;subst this;simp [loadCellsFrom]
 | n+1,i,d,[],e,_=>by simp at e
 | n+1,i,d,c::b,e,f=>by
  have g:w.cell? (a.add i)=some c:=by simpa using f 0 c (by simp)
  have k:=zwb n (i+1) (d.push c) b (by simpa using e) (λj v h=>by
   have:=f (j+1) v (by simpa using h)
   rwa [show i+1+j=i+(j+1) from by omega])
  simp only [loadCellsFrom,Sem.run_bind,run_load,g,Result.andThen_ok,k];congr 1;simp
theorem zxg {w:World} {a:Addr} {b:List Value} (c:∀j v,b[j]? =some v->w.cell? (a.add j)=some v):(loadCells a b.length).run P w=.ok b.toArray w:=by unfold loadCells;rw [zwb b.length 0 #[] b rfl (by simpa using c)];simp
theorem Py (ok:tb.Ok P) {t:Nat} {e:Ty} (h:tb.ty t=some e) {w:World} {a:Addr} {x:e.sh.T}
  (d:∀j v,(ba (e.sh.enc x))[j]? =some v->w.cell? (a.add j)=some v):(loadVar t a).run P w=.ok (e.sh.enc x) w:=by
 simp only [loadVar,Sem.run_bind,lQ ok h,Result.andThen_ok];cases c:pE e.cm with
 | true=>
  obtain ⟨b,f,o⟩:=ok.agg t e h c x;simp only [if_true,Sem.run_bind,cw ok h,Result.andThen_ok];have m:b.toList.length=e.size:=by simpa using o
  have k:∀j v,b.toList[j]? =some v->w.cell? (a.add j)=some v:=by simpa [f,ba] using d
  rw [<-m,zxg k];simp [f]
 | false=>
  obtain ⟨p,i⟩:=ok.leaf t e h c;have n:=(i x).2;have l:ba (e.sh.enc x)=[e.sh.enc x]:=by generalize e.sh.enc x=v at n;cases v<;>first | rfl | grind
  have:=d 0 (e.sh.enc x) (by simp [l]);have g:a.add 0=a:=by simp [Addr.add]
  rw [g] at this;simp [this]
theorem rY (a:Addr) (i j:Nat):(a.add i).add j=a.add (i+j):=by unfold Addr.add;grind
theorem km (b o i:Nat):(⟨b,o,none⟩:Addr).add i=⟨b,o+i,none⟩:=by unfold Addr.add;simp
theorem D9 {w:World} {b t:Nat} {a:List Value} (hb:w.heap[b]? =some (.cells a.toArray t (0,0))) (i:Nat):w.cell? ⟨b,i,none⟩=a[i]?:=by unfold World.cell?;simp [hb]
end
section
variable {P:Program} {tb:Tb}
def mK (o:Oper) (ch:aY) (s:St) (l:LV):Prop:=
 ∀k off,(l=.box k off\/l=.dS k off)->∃x∈o.op.operands,∃a,ev s ch x=some (.box k a)\/ev s ch x=some (.dS k a)
theorem xk (o:Oper) (ch:aY) (s:St) (v:Value):mK o ch s (.v v):=λ_ _ e=>by grind
theorem ET {o:Oper} {ch:aY} {s:St} {l:LV} {x:Operand} (a:x∈o.op.operands) (b:ev s ch x=some l):mK o ch s l:=λk off e=>
 ⟨x,a,off,by grind⟩
theorem Nb {o:Oper} {ch:aY} {s:St} {l:LV} {x:Operand} {k off:Nat} (c:x∈o.op.operands) (d:ev s ch x=some (.box k off))
  (f:∀a b,(l=.box a b\/l=.dS a b)->a=k):mK o ch s l:=λa b e=>⟨x,c,off,.inl (by grind)⟩
theorem Rl {o:Oper} {ch:aY} {s:St} {l:LV} {x:Operand} {k off:Nat} (c:x∈o.op.operands) (d:ev s ch x=some (.dS k off))
  (f:∀a b,(l=.box a b\/l=.dS a b)->a=k):mK o ch s l:=λa b e=>⟨x,c,off,.inr (by grind)⟩
def eA (P:Program) (tb:Tb) (o:Oper) (ch:aY) (s:St) (h:Hp) (K:LV->Prop):Prop:=
 ∃l,K l/\(holds s ch->pN (cX tb o ch s) P o s h l)/\mK o ch s l
theorem kJ {o:Oper} {ch:aY} {s:St} {h:Hp} {K:LV->Prop} (l:LV) (b:K l)
  (d:holds s ch->∀(β:Nat->Nat) (ρ:Operand->Value) (w:World),(∀x∈o.op.operands,eZ β s ρ x)->
   (execOp ρ o).run P w=.ok (.value (LVal β l)) w)
  (hp:mK o ch s l:=by exact xk _ _ _ _):eA P tb o ch s h K:=
 ⟨l,b,λa β ρ w c f hb=>⟨w,d a β ρ w c,λ_=>rfl,λe=>.refl (f e)⟩,hp⟩
theorem LR {o:Oper} {ch:aY} {s:St} {h:Hp} {K:LV->Prop} (f:cX tb o ch s=.box) (l:LV) (d:K l)
  (i:holds s ch->∀(a:Nat->Nat) (b:Operand->Value) (w:World),(∀x∈o.op.operands,eZ a s b x)->qb a s o w->
   (execOp b o).run P w=.ok (.value (LVal a l)) w)
  (hp:mK o ch s l:=by exact xk _ _ _ _):eA P tb o ch s h K:=
 ⟨l,d,λc a b w g j hb=>⟨w,i c a b w g (hb (by rw [f];simp)),λ_=>rfl,λe=>.refl (j e)⟩,hp⟩
theorem Du {o:Oper} {ch:aY} {s:St} {h:Hp} {K:LV->Prop} (g:cX tb o ch s=.mem) (l:LV) (f:K l)
  (j:holds s ch->∀(a:Nat->Nat) (b:Operand->Value) (w:World),(∀x∈o.op.operands,eZ a s b x)->Sub h w->
   (execOp b o).run P w=.ok (.value (LVal a l)) w)
  (hp:mK o ch s l:=by exact xk _ _ _ _):eA P tb o ch s h K:=
 ⟨l,f,λd a b w i c hb=>⟨w,j d a b w i (c g),λ_=>rfl,λe=>.refl (c e)⟩,hp⟩
theorem Dv {s:Sem Value} {h:Hp} {v:Value} (hi:kA P s h v) {w:World} (b:Sub h w):∃a,s.run P w=.ok v a/\Step h h w a:=hi w b
theorem sO {o:Oper} {ch:aY} {s:St} {h:Hp} {K:LV->Prop} {t:Nat} {i:Sem Value} (g:cX tb o ch s=.mem) (b:ng (dH s ch) P tb t i h K)
  (p:holds s ch->∀(d:Nat->Nat) (c:Operand->Value),(∀x∈o.op.operands,eZ d s c x)->∀(w a:World) (v:Value),i.run P w=.ok v a->(execOp c o).run P w=.ok (.value v) a):
  eA P tb o ch s h K:=by
 unfold ng at b;split at b
 ·rename_i e r;obtain ⟨x,q,j⟩:=b;refine ⟨_,j,λf d c w k m hb=> ?_,xk _ _ _ _⟩;obtain ⟨a,l,n⟩:=Dv (ov q f) (m g);exact ⟨a,p f d c k w a _ l,λe=>absurd g e,λ_=>n⟩
 ·exact b.elim
theorem Nc {o:Oper} {ch:aY} {s:St} {h:Hp} {K:LV->Prop} {x:Operand} (a:o.op=.move x\/o.op=.assign x) (hv:On (ev s ch x) K):eA P tb o ch s h K:=by obtain ⟨l,b,d⟩:=TV hv;refine kJ l d (λc g i w e=> ?_) (ET (by rcases a with h | h<;>simp [h,Op.operands]) b);have f:i x=LVal g l:=bJ (e x (by rcases a with h | h<;>simp [h,Op.operands])) c b;rcases a with h | h<;>simp [execOp,h,f]
theorem IH {t:Nat} {w:World} {a b:Bool} (c:(underlying t).run P w=.ok .bool w):(Op.equal t (.bool a) (.bool b)).run P w=.ok (a==b) w:=by
 have key:∀d,(Op.equalIn (d+1) t (.bool a) (.bool b)).run P w=.ok (a==b) w:=by intro d;unfold Op.equalIn;simp only [Sem.run_bind,c,Result.andThen_ok,Sem.run_pure]
 exact key 9999
theorem Jp {t elem:Nat} {w:World} {p:Option Addr} (a:(underlying t).run P w=.ok (.pointer elem) w):(Op.equal t (.pointer p) (.pointer none)).run P w=.ok p.isNone w:=by
 have key:∀d,(Op.equalIn (d+1) t (.pointer p) (.pointer none)).run P w=.ok p.isNone w:=by intro d;unfold Op.equalIn;simp only [Sem.run_bind,a,Result.andThen_ok];cases p<;>simp only [Sem.run_pure]<;>rfl
 exact key 9999
set_option maxHeartbeats 800000 in
theorem Nd (ok:tb.Ok P) {o:Oper} {ch:aY} {s:St} {h:Hp} {K:LV->Prop} {op:BinOp} {t R:Nat} {x y:Operand} (F:o.op=.binOp op t x y R)
  (hv:iH (ev s ch x) λa=>iH (ev s ch y) λb=>tr (dH s ch) P tb op t x y o.type a b h K):eA P tb o ch s h K:=by
 obtain ⟨a,L,G⟩:=kj hv;clear hv;obtain ⟨b,E,hv⟩:=kj G;clear G;have Q:holds s ch->∀(g:Nat->Nat) (d:Operand->Value),(∀x∈o.op.operands,eZ g s d x)->d x=a/\d y=b:=λc g d i=>
  ⟨bJ (i x (by simp [F,Op.operands])) c L,bJ (i y (by simp [F,Op.operands])) c E⟩
 have C:holds s ch->∀(g:Nat->Nat) (d:Operand->Value),(∀x∈o.op.operands,eZ g s d x)->∀(w l:World) (v:Value),(dt op t x y a b).run P w=.ok v l->
   (execOp d o).run P w=.ok (.value v) l:=by
  intro c g d i w l v j;obtain ⟨J,hb⟩:=Q c g d i;simp only [execOp,F,J,hb];change (dt op t x y a b>>=λx=>pure (Next.value x)).run P w=_;rw [Sem.run_bind,j];rfl
 have gen:∀v:Value,K (.v v)->(holds s ch->∀w,(dt op t x y a b).run P w=.ok v w)->eA P tb o ch s h K:=λv A j=>
  kJ (.v v) A λc g d w i=>C c g d i w w v (j c w)
 unfold tr at hv;split at hv
 · -- numbers
  rename_i k m H n;have f:∀w:World,(eqGuard op t x y (.int k m) (.int H n)).run P w=.ok () w:=λw=>by unfold eqGuard;split<;>rfl
  split at hv
  ·refine gen _ hv.2 λc w=> ?_;have r:=ov hv.1 c;simp only [dt,Sem.run_bind,f,Result.andThen_ok];simp [binOp,Op.shift,mQ,Int.not_lt.2 r]
  ·refine gen _ hv.2 λc w=> ?_;have r:=ov hv.1 c;simp only [dt,Sem.run_bind,f,Result.andThen_ok];simp [binOp,Op.shift,fA,Int.not_lt.2 r]
  ·cases A:Gm k H with
   | false=>simp [A] at hv
   | true=>
    have N:=Ko A;subst N;simp only [A,cond_true] at hv;cases op<;>simp only [Gl] at hv<;>
     first
     |exact hv.elim
     |exact gen _ hv λ_ w=>by simp only [dt,Sem.run_bind,f,Result.andThen_ok];simp [binOp,Op.intArith,Op.intCmp,Op.intBits,df]
     |exact gen _ hv.2 λc w=>by have r:=ov hv.1 c;simp only [dt,Sem.run_bind,f,Result.andThen_ok];simp [binOp,Op.intDiv,r]
 · -- truths
  rename_i m n;split at hv
  ·rename_i e D;have f:∀w:World,(eqGuard op t x y (.bool m) (.bool n)).run P w=.ok () w:=λw=>by unfold eqGuard;split<;>rfl
   have B:=λw=>ay ok D w;split at hv
   ·rename_i u;refine gen _ hv λ_ w=> ?_;simp only [dt,Sem.run_bind,f,Result.andThen_ok,binOp,IH (u▸B w),Sem.run_pure]
   ·rename_i u;refine gen _ hv λ_ w=> ?_;simp only [dt,Sem.run_bind,f,Result.andThen_ok,binOp,IH (u▸B w),Sem.run_pure]
   ·exact hv.elim
  ·exact hv.elim
 · -- texts
  rename_i m n;have f:∀w:World,(eqGuard op t x y (.string m) (.string n)).run P w=.ok () w:=λw=>by unfold eqGuard;split<;>rfl
  split at hv
  ·exact gen _ hv λ_ w=>by simp only [dt,Sem.run_bind,f,Result.andThen_ok];simp [binOp,Op.stringOp]
  ·exact gen _ hv λ_ w=>by simp only [dt,Sem.run_bind,f,Result.andThen_ok];simp [binOp,Op.stringOp]
  ·refine gen _ hv.2 λc w=> ?_;have r:=ov hv.1 c;simp only [dt,Sem.run_bind,f,Result.andThen_ok];have I:¬(((m.size+n.size:Nat):Int)>IntKind.i64.max):=by
    have:IntKind.i64.max=9223372036854775807:=by decide
    rw [this];omega
   simp only [binOp,Op.stringOp,if_neg I,Sem.run_pure]
  ·exact sO (by simp_all [cX]) hv λc g d i w l v j=>C c g d i w l v j
 · -- pointers
  rename_i p q;cases z:sM y with
  | false=>simp only [z,cond_false] at hv;exact sO (by simp_all [cX]) hv λc g d i w l v j=>C c g d i w l v j
  | true=>
   simp only [z,cond_true] at hv;split at hv
   ·rename_i e D;split at hv
    ·rename_i elem u;have O:q=none:=by
      cases y with
      | const v=>
       simp only [ev] at E;cases E;cases q with
       | none=>rfl
       | some _=>simp [sM] at z
      | tmp _=>simp [sM] at z
      | global _=>simp [sM] at z
      | func _=>simp [sM] at z
     subst O;have f:∀w:World,(eqGuard op t x y (.pointer p) (.pointer none)).run P w=.ok () w:=λw=>by unfold eqGuard;split<;>rfl
     have B:=λw=>ay ok D w;unfold yi at hv;split at hv
     ·refine gen _ hv λ_ w=> ?_;simp only [dt,Sem.run_bind,f,Result.andThen_ok,binOp,Jp (u▸B w),Sem.run_pure]
     ·refine gen _ hv λ_ w=> ?_;simp only [dt,Sem.run_bind,f,Result.andThen_ok,binOp,Jp (u▸B w),Sem.run_pure]
     ·exact hv.elim
    ·exact hv.elim
   ·exact hv.elim
 ·rename_i S T U V;have M:cX tb o ch s=.mem:=by unfold cX;grind
  exact sO M hv λc g d i w l v j=>C c g d i w l v j
theorem J0 {t:Nat} {w:World} {ms} {a:Value} (b:pU a=true) (c:(underlying t).run P w=.ok (.interface ms) w):(Op.equal t a .nilIface).run P w=.ok (MY a) w:=by
 have key:∀d,(Op.equalIn (d+1) t a .nilIface).run P w=.ok (MY a) w:=by intro d;unfold Op.equalIn;simp only [Sem.run_bind,c,Result.andThen_ok];cases a<;>first | rfl | cases b
 exact key 9999
theorem EU {a:Value} (b:pU a=true):a=.nilIface\/∃t v,a=.iface t v:=by cases a<;>first | exact .inl rfl | exact .inr ⟨_,_,rfl⟩ | cases b
theorem Wg (ok:tb.Ok P) {o:Oper} {ch:aY} {s:St} {h:Hp} {K:LV->Prop} {op:BinOp} {t H:Nat} {x y:Operand} (i:o.op=.binOp op t x y H)
  (hv:iH (ev s ch x) λa=>iH (ev s ch y) λb=>vC (dH s ch) P tb op t x y o.type a b h K):eA P tb o ch s h K:=by
 cases j:ER y with
 | false=>refine Nd ok i ?_;simpa only [vC,j,cond_false] using hv
 | true=>
  cases hi:vR tb t with
  | false=>refine Nd ok i ?_;simpa only [vC,j,hi,cond_false,cond_true] using hv
  | true=>
   obtain ⟨a,D,z⟩:=kj hv;clear hv;obtain ⟨b,n,hv⟩:=kj z;clear z;simp only [vC,j,hi,cond_true] at hv;obtain ⟨r,hv⟩:=hv;have G:y=.const .nilIface:=by unfold ER at j;grind
   subst G;have hb:b=.nilIface:=by simp only [ev] at n;grind
   subst hb;have E:holds s ch->∀(k:Nat->Nat) (g:Operand->Value),(∀x∈o.op.operands,eZ k s g x)->∀(w m:World) (v:Value),(dt op t x (.const .nilIface) a .nilIface).run P w=.ok v m->
     (execOp g o).run P w=.ok (.value v) m:=by
    intro d k g f w m v l;have c:g x=a:=bJ (f x (by simp [i,Op.operands])) d D;have hb:g (.const .nilIface)=.nilIface:=bJ (f (.const .nilIface) (by simp [i,Op.operands])) d n;simp only [execOp,i,c,hb];change (dt op t x (.const .nilIface) a .nilIface>>=λx=>pure (Next.value x)).run P w=_;rw [Sem.run_bind,l];rfl
   have gen:∀v:Value,K (.v v)->(holds s ch->∀w,(dt op t x (.const .nilIface) a .nilIface).run P w=.ok v w)->eA P tb o ch s h K:=λv F l=>
    kJ (.v v) F λd k g w f=>E d k g f w w v (l d w)
   unfold vR at hi;split at hi
   ·rename_i e C;split at hi
    ·rename_i I p;have u:=λw=>ay ok C w;have q:pU a=true->∀w:World,(eqGuard op t x (.const .nilIface) a .nilIface).run P w=.ok () w:=λc w=>by unfold eqGuard;rcases EU c with rfl | ⟨_,_,rfl⟩<;>cases op<;>first | rfl | (cases x<;>rfl)
     have B:pU a=true->op=.eql->∀w:World,(binOp op t a .nilIface).run P w=.ok (.bool (MY a)) w:=λc f w=>by subst f;rcases EU c with rfl | ⟨_,_,rfl⟩<;>simp only [binOp,Sem.run_bind,J0 (P:=P) c (p▸u w),Result.andThen_ok,Sem.run_pure]
     have A:pU a=true->op=.neq->∀w:World,(binOp op t a .nilIface).run P w=.ok (.bool (!MY a)) w:=λc f w=>by subst f;rcases EU c with rfl | ⟨_,_,rfl⟩<;>simp only [binOp,Sem.run_bind,J0 (P:=P) c (p▸u w),Result.andThen_ok,Sem.run_pure]
     unfold yi at hv;split at hv
     ·refine gen _ hv λd w=> ?_;have c:=ov r d;simp only [dt,Sem.run_bind,q c,Result.andThen_ok,B c rfl]
     ·refine gen _ hv λd w=> ?_;have c:=ov r d;simp only [dt,Sem.run_bind,q c,Result.andThen_ok,A c rfl]
     ·exact hv.elim
    ·cases hi
   ·cases hi
end
section
variable {P:Program} {tb:Tb} {o:Oper} {ch:aY} {s:St} {h:Hp} {K:LV->Prop}
theorem Am {β:Nat->Nat} {ρ:Operand->Value} (b:holds s ch):∀ {l:List Operand} {a:List Value},eh s ch l=some a->(∀x∈l,eZ β s ρ x)->l.map ρ=a
 | [],a,h,_=>by cases h;rfl
 | x::l,a,h,c=>by
  simp only [eh] at h;split at h
  ·rename_i v r hv d;cases h;simp only [List.map_cons];rw [bJ (c x (List.mem_cons_self ..)) b hv,Am b d λy e=>c y (List.mem_cons_of_mem _ e)];rfl
  ·cases h
theorem Ea {β:Nat->Nat} {ρ:Operand->Value} (b:holds s ch):∀ {l:List (Nat×Operand)} {a:List (Nat×Value)},mw s ch l=some a->(∀x∈l.map (·.2),eZ β s ρ x)->
  l.map (λp=>(p.1,ρ p.2))=a
 | [],a,h,_=>by cases h;rfl
 | (i,x)::l,a,h,c=>by
  simp only [mw] at h;split at h
  ·rename_i v r hv d;cases h;simp only [List.map_cons];rw [bJ (c x (by simp)) b hv,Ea b d λy e=>c y (by grind)];rfl
  ·cases h
theorem LS {e:Nat->Nat} {i:Operand->Value} {x:Operand} {t:Nat} {w:Bool} {l:LV} (d:eZ e s i x) (m:holds s ch) (j:hb s t=some w)
  (a:Ag s ch t w x=some l):i x=LVal e l:=by
 cases x with
 | tmp u=>
  simp only [Ag] at a;split at a
  ·rename_i n c k;cases b:ni c ((t,w)::ch) with
   | false=>simp [b] at a
   | true=>
    simp only [b,cond_true] at a;cases a;refine d l c k (yy b λp hp=> ?_);rcases List.mem_cons.1 hp with rfl | hp
    ·exact j
    ·exact m p hp
  ·cases a
 | const v=>cases a;exact d
 | global g=>cases a
 | func f=>cases a
theorem TY {x a b:Operand} (f:o.op=.pick x a b) (hv:wg s ch x a b K):eA P tb o ch s h K:=by
 unfold wg at hv;split at hv
 ·rename_i t;split at hv
  ·rename_i p y r;cases m:ni y ch with
   | false=>simp [m] at hv
   | true=>
    simp only [m,cond_true] at hv;have n:hb s t=some p:=by simp [hb,r]
    have i:holds s ch->∀(g:Nat->Nat) (c:Operand->Value),(∀x∈o.op.operands,eZ g s c x)->c (.tmp t)=.bool p:=λe g c d=>
     d (.tmp t) (by simp [f,Op.operands]) _ _ r (yy m e)
    have run:∀(c:Operand->Value) (w:World),c (.tmp t)=.bool p->(execOp c o).run P w=.ok (.value (if p=true then c a else c b)) w:=by intro c w hp;simp only [execOp,f,hp,asBool,Sem.run_bind,Sem.run_pure,Result.andThen_ok]
    split at hv
    ·rename_i u;obtain ⟨v,l,hv⟩:=kj hv;split at hv
     ·rename_i q;refine kJ (.v (.bool (p&&q))) (hv _ rfl) λe g c w d=> ?_;rw [run c w (i e g c d)];cases hp:p with
      | true=>have:=LS (d (.tmp u) (by simp [f,Op.operands])) e (hp▸n) l;simp [this,LVal]
      | false=>have:c (.const (.bool false))=.bool false:=d (.const (.bool false)) (by simp [f,Op.operands]);simp [this,LVal]
     ·exact hv.elim
    ·rename_i u;obtain ⟨v,l,hv⟩:=kj hv;split at hv
     ·rename_i q;refine kJ (.v (.bool (p || q))) (hv _ rfl) λe g c w d=> ?_;rw [run c w (i e g c d)];cases hp:p with
      | false=>have:=LS (d (.tmp u) (by simp [f,Op.operands])) e (hp▸n) l;simp [this,LVal]
      | true=>have:c (.const (.bool true))=.bool true:=d (.const (.bool true)) (by simp [f,Op.operands]);simp [this,LVal]
     ·exact hv.elim
    ·refine kJ _ hv λe g c w d=> ?_;rw [run c w (i e g c d)];have j:c (.const (.bool true))=.bool true:=d (.const (.bool true)) (by simp [f,Op.operands]);have k:c (.const (.bool false))=.bool false:=d (.const (.bool false)) (by simp [f,Op.operands]);cases p<;>simp [j,k,LVal]
    ·rename_i u v _;refine kJ _ hv λe g c w d=> ?_;rw [run c w (i e g c d)];have j:c (.const (.bool u))=.bool u:=d (.const (.bool u)) (by simp [f,Op.operands]);have k:c (.const (.bool v))=.bool v:=d (.const (.bool v)) (by simp [f,Op.operands]);cases p<;>simp [j,k,LVal]
    ·exact hv.elim
  ·exact hv.elim
 ·exact hv.elim
theorem aah {x:Operand} {i:Nat} (c:o.op=.extract x i) (hv:iH (ev s ch x) λv=>match v with
  | .tuple b=>match nth b.toList i with
   | some y=>K (.v y)
   | none=>False
  | _=>False):eA P tb o ch s h K:=by
 obtain ⟨v,e,a⟩:=kj hv;clear hv;split at a
 ·rename_i b;split at a
  ·rename_i y d;refine kJ (.v y) a λf k l w g=> ?_;have j:=bJ (g x (by simp [c,Op.operands])) f e;have:b[i]? =some y:=by rw [nj] at d;simpa using d
   simp only [execOp,c,j,LVal,Instr.extract,this,Sem.run_bind,Sem.run_pure,Result.andThen_ok]
  ·exact a.elim
 ·exact a.elim
theorem Yw {op:UnOp} {t:Nat} {x:Operand} (c:o.op=.unOp op t x) (hv:iH (ev s ch x) λa=>Qq op a K):eA P tb o ch s h K:=by
 obtain ⟨v,d,b⟩:=kj hv;clear hv;unfold Qq at b;split at b<;>
  first
  |exact b.elim
  |refine kJ _ b λe i j w f=> ?_
   have g:=bJ (f x (by simp [c,Op.operands])) e d;simp [execOp,c,g,LVal,Op.unary,Op.intArith,Op.intBits,df]
theorem Wi {x:Operand} (b:o.op=.nilCheck x) (hv:match ev s ch x with
  | some (.v (.pointer p))=>aj (dH s ch) p λa=>K (.v (.pointer (some a)))
  | some (.box k off)=>K (.box k off)
  | some (.dS k off)=>K (.dS k off)
  | _=>False):eA P tb o ch s h K:=by
 split at hv
 ·rename_i p c;obtain ⟨a,l,j⟩:=hv;refine kJ _ j λd g i w e=> ?_;have f:=bJ (e x (by simp [b,Op.operands])) d c;have hp:=ov l d;subst hp;simp [execOp,b,f,LVal]
 ·rename_i k off c;refine kJ _ hv (λd g i w e=> ?_) (ET (by simp [b,Op.operands]) c);have f:=bJ (e x (by simp [b,Op.operands])) d c;simp [execOp,b,f,LVal]
 ·rename_i k off c;refine kJ _ hv (λd g i w e=> ?_) (ET (by simp [b,Op.operands]) c);have f:=bJ (e x (by simp [b,Op.operands])) d c;simp [execOp,b,f,LVal]
 ·exact hv.elim
theorem K9 {t:Nat} {a:List Value} {off:Nat} (hv:iV tb t a off K):
  ∃e v,tb.ty t=some e/\K (.v v)/\((pE e.cm=true/\v=.agg ((a.drop off).take e.size).toArray/\off+e.size<=a.length)\/(pE e.cm=false/\a[off]? =some v)):=by
 unfold iV at hv;split at hv
 ·rename_i e d;cases b:pE e.cm with
  | true=>
   simp only [b,cond_true,M9,Na] at hv;cases c:Nat.ble (off+e.size) a.length with
   | false=>simp [c] at hv
   | true=>simp only [c,cond_true] at hv;exact ⟨e,_,d,hv,.inl ⟨b,rfl,Nat.le_of_ble_eq_true c⟩⟩
  | false=>simp only [b,cond_false,nj] at hv;grind
 ·exact hv.elim
theorem Kb (ok:tb.Ok P) {t:Nat} {a:List Value} {off b f:Nat} {e:Ty} {v:Value} {w:World} (d:tb.ty t=some e)
  (hv:(pE e.cm=true/\v=.agg ((a.drop off).take e.size).toArray/\off+e.size<=a.length)\/(pE e.cm=false/\a[off]? =some v))
  (hb:w.heap[b]? =some (.cells a.toArray f (0,0))):(loadVar t ⟨b,off,none⟩).run P w=.ok v w:=by
 simp only [loadVar,Sem.run_bind,lQ ok d,Result.andThen_ok];rcases hv with ⟨c,hv,l⟩ | ⟨c,hv⟩
 ·have i:((a.drop off).take e.size).length=e.size:=by simp;omega
  have g:∀j v,((a.drop off).take e.size)[j]? =some v->w.cell? ((⟨b,off,none⟩:Addr).add j)=some v:=by intro j v k;rw [km,D9 hb];grind
  rw [c];simp only [if_true,Sem.run_bind,cw ok d,Result.andThen_ok]
  conv=>lhs;rw [<-i]
  rw [zxg g];simp [hv]
 ·have:=D9 hb off;rw [hv] at this;simp [c,this]
theorem TZ (ok:tb.Ok P) {t:Nat} {x:Operand} (d:o.op=.load t x) (hv:match ev s ch x with
  | some (.v (.pointer (some a)))=>match tb.ty t with
   | some e=>aD (dH s ch) e.sh h a λx=>K (.v (e.sh.enc x))
   | none=>False
  | some (.box k off)=>match s.m k with
   | some i=>iV tb t i off K
   | none=>False
  | some (.dS k off)=>match s.m k,tb.ty t with
   | some i,some e=>cond (pE e.cm) False (∃x,kU (dH s ch) (i[off]? =some (e.sh.enc x))/\K (.v (e.sh.enc x)))
   | _,_=>False
  | _=>False):eA P tb o ch s h K:=by
 have run:∀(f:Operand->Value) (w:World) (a:Addr) (v:Value),f x=.pointer (some a)->(loadVar t a).run P w=.ok v w->(execOp f o).run P w=.ok (.value v) w:=by intro f w a v g p;simp only [execOp,d,g,Instr.loadAt,Instr.sureAddr,Sem.run_bind,Sem.run_pure,Result.andThen_ok,p]
 split at hv
 ·rename_i a b;split at hv
  ·rename_i e q;obtain ⟨y,p,l⟩:=hv;refine Du (by simp [cX,d,b]) _ l λc A f w n E=> ?_;have g:=bJ (n x (by simp [d,Op.operands])) c b;exact run f w a _ g (Py ok q λj v D=>vb E (ov p c j v D))
  ·exact hv.elim
 ·rename_i k off b;split at hv
  ·rename_i i z;obtain ⟨e,v,q,l,C⟩:=K9 hv;refine LR (by simp [cX,d,b]) _ l λc A f w n hb=> ?_;have g:=bJ (n x (by simp [d,Op.operands])) c b;obtain ⟨B,u⟩:=hb.box (by simp [d,Op.operands]) b c z;exact run f w _ _ g (Kb ok q C u)
  ·exact hv.elim
 ·rename_i k off b;split at hv
  ·rename_i i e z q;cases r:pE e.cm with
   | true=>simp [r] at hv
   | false=>simp only [r,cond_false] at hv;obtain ⟨y,p,l⟩:=hv;refine LR (by simp [cX,d,b]) _ l λc A f w n hb=> ?_;have g:=bJ (n x (by simp [d,Op.operands])) c b;obtain ⟨B,u⟩:=hb.dS (by simp [d,Op.operands]) b c z;exact run f w _ _ g (Kb ok q (.inr ⟨r,ov p c⟩) u)
  ·exact hv.elim
 ·exact hv.elim
theorem ZF {t i:Nat} {Q:Nat->Nat->Prop} (hv:zI tb t i Q):
  ∃e a f g,tb.ty t=some e/\e.cm=.struct a/\a[i]? =some f/\tb.ty f.type=some g/\g.size≠0/\Q f.offset g.size:=by
 unfold zI at hv;split at hv
 ·rename_i e c;split at hv
  ·rename_i a d;split at hv
   ·rename_i f b;split at hv
    ·rename_i g j;split at hv
     ·exact hv.elim
     ·rename_i n k;refine ⟨e,a,f,g,c,d,by rw [nj] at b;simpa using b,j,by omega,k▸hv⟩
    ·exact hv.elim
   ·exact hv.elim
  ·exact hv.elim
 ·exact hv.elim
theorem X7 (ok:tb.Ok P) {t i:Nat} {x:Operand} (d:o.op=.fieldAddr t x i) (hv:zI tb t i λoff _=>match ev s ch x with
  | some (.v (.pointer (some a)))=>K (.v (.pointer (some (a.add off))))
  | some (.box k o)=>K (.box k (o+off))
  | some (.dS k o)=>K (.dS k (o+off))
  | _=>False):eA P tb o ch s h K:=by
 obtain ⟨e,D,f,g,q,u,r,y,B,m⟩:=ZF hv;have run:∀(b:Operand->Value) (w:World) (a:Addr),b x=.pointer (some a)->(execOp b o).run P w=.ok (.value (.pointer (some (a.add f.offset)))) w:=by intro b w a A;have n:=ay ok q w;rw [u] at n;have z:=cw ok y w;simp only [execOp,d,A,Instr.fieldAt,Instr.sureAddr,Sem.run_bind,n,Result.andThen_ok,r,Sem.run_pure,fieldPlace,z,if_neg B]
 split at m
 ·rename_i a c;refine kJ _ m λj p b w l=> ?_;exact run b w a (bJ (l x (by simp [d,Op.operands])) j c)
 ·rename_i k C c;refine kJ _ m (λj p b w l=> ?_) (Nb (by simp [d,Op.operands]) c (by simp));rw [run b w _ (bJ (l x (by simp [d,Op.operands])) j c),km];rfl
 ·rename_i k C c;refine kJ _ m (λj p b w l=> ?_) (Rl (by simp [d,Op.operands]) c (by simp));rw [run b w _ (bJ (l x (by simp [d,Op.operands])) j c),km];rfl
 ·exact m.elim
theorem Nf (ok:tb.Ok P) {t:Nat} {cs:List Value} {off:Nat} {e:Ty} {v:Value} {w:World} (b:tb.ty t=some e)
  (hv:(pE e.cm=true/\v=.agg ((cs.drop off).take e.size).toArray/\off+e.size<=cs.length)\/(pE e.cm=false/\cs[off]? =some v)):
  (part t cs.toArray off).run P w=.ok v w:=by
 simp only [part,Sem.run_bind,lQ ok b,Result.andThen_ok];rcases hv with ⟨a,hv,_⟩ | ⟨a,hv⟩
 ·simp only [a,if_true,Sem.run_bind,cw ok b,Result.andThen_ok,Sem.run_pure,hv];simp
 ·simp [a,hv]
theorem Rn (ok:tb.Ok P) {t i:Nat} {x:Operand} (j:o.op=.field t x i) (hv:match tb.ty t with
  | some e=>match e.cm with
   | .struct a=>match nth a.toList i with
    | some f=>iH (ev s ch x) λv=>match v with
     | .agg c=>iV tb f.type c.toList f.offset K
     | _=>False
    | none=>False
   | _=>False
  | none=>False):eA P tb o ch s h K:=by
 split at hv
 ·rename_i e m;split at hv
  ·rename_i a q;split at hv
   ·rename_i f d;obtain ⟨v,n,b⟩:=kj hv;clear hv;split at b
    ·rename_i c;obtain ⟨g,y,r,z,l⟩:=K9 b;refine kJ _ z λu C D w A=> ?_;have B:=bJ (A x (by simp [j,Op.operands])) u n;have k:=ay ok m w;rw [q] at k;have p:a[i]? =some f:=by rw [nj] at d;simpa using d
     have hp:=Nf (w:=w) ok r l;simp only [Array.toArray_toList] at hp;simp only [execOp,j,B,LVal,Instr.field,Sem.run_bind,k,Result.andThen_ok,p,asAgg,Sem.run_pure,hp]
    ·exact b.elim
   ·exact hv.elim
  ·exact hv.elim
 ·exact hv.elim
end
section
variable {P:Program} {tb:Tb} {o:Oper} {ch:aY} {s:St} {h:Hp} {K:LV->Prop}
theorem wX {t:Nat} {g:Ty} (h:gM tb t=some g):∃e u,tb.ty t=some e/\e.cm=.slice u/\tb.ty u=some g:=by unfold gM at h;grind
theorem CT {t n:Nat} {g:Ty} (h:mg tb t=some (n,g)):∃e u,tb.ty t=some e/\e.cm=.array n u/\tb.ty u=some g:=by unfold mg at h;grind
theorem X9 (ok:tb.Ok P) {t:Nat} {x i:Operand} (d:o.op=.indexAddr t x i) (hv:match ev s ch x,ev s ch i with
  | some (.v (.slice base len _)),some (.v (.int _ n))=>match gM tb t with
   | some e=>kU (dH s ch) (aG base len n)/\K (.v (.pointer (some (sat base e.size n))))
   | none=>False
  | some (.v (.pointer (some a))),some (.v (.int _ n))=>match mg tb t with
   | some (len,e)=>kU (dH s ch) (0<=n/\n<(len:Int))/\K (.v (.pointer (some (a.add (n.toNat*e.size)))))
   | none=>False
  | some (.box k off),some (.v (.int _ n))=>match mg tb t with
   | some (len,e)=>kU (dH s ch) (0<=n/\n<(len:Int))/\cond (Dt i) (K (.box k (off+n.toNat*e.size))) (K (.dS k (off+n.toNat*e.size)))
   | none=>False
  | _,_=>False):eA P tb o ch s h K:=by
 have J:∀(f:Operand->Value) (w:World) (a:Addr) (k:IntKind) (n:Int) (len:Nat) (e:Ty),mg tb t=some (len,e)->f x=.pointer (some a)->f i=.int k n->0<=n/\n<(len:Int)->
   (execOp f o).run P w=.ok (.value (.pointer (some (a.add (n.toNat*e.size))))) w:=by
  intro f w a k n len e j E hi hb;obtain ⟨y,u,F,D,B⟩:=CT j;have r:=ay ok F w;have C:=cw ok B w;rw [D] at r;simp only [execOp,d,E,hi,Instr.indexAt,asIntOf,Instr.sureAddr,Sem.run_bind,Sem.run_pure,Result.andThen_ok,r,if_pos hb,C]
 split at hv
 ·rename_i base len c k n m q;split at hv
  ·rename_i e j;obtain ⟨y,u,F,D,B⟩:=wX j;refine kJ _ hv.2 λb z f w g=> ?_;have E:=bJ (g x (by simp [d,Op.operands])) b m;have hi:=bJ (g i (by simp [d,Op.operands])) b q;obtain ⟨N,L,M⟩:=ov hv.1 b;obtain ⟨a,rfl⟩:∃a,base=some a:=Option.ne_none_iff_exists'.1 N;have r:=ay ok F w;have C:=cw ok B w;rw [D] at r;simp only [execOp,d,E,hi,LVal,Instr.indexAt,asIntOf,Sem.run_bind,Sem.run_pure,Result.andThen_ok,r,if_pos (And.intro L M),C,sat,Option.getD_some]
  ·exact hv.elim
 ·rename_i a k n m q;split at hv
  ·rename_i len e j;refine kJ _ hv.2 λb z f w g=> ?_;exact J f w a k n len e j (bJ (g x (by simp [d,Op.operands])) b m) (bJ (g i (by simp [d,Op.operands])) b q) (ov hv.1 b)
  ·exact hv.elim
 ·rename_i p off k n m q;split at hv
  ·rename_i len e j;have I:∀l:LV,(∀z,LVal z l=.pointer (some ⟨z p,off+n.toNat*e.size,none⟩))->(∀G A,(l=.box G A\/l=.dS G A)->G=p)->K l->eA P tb o ch s h K:=λl Q hb O=>
    kJ l O (λb z f w g=>by
     rw [J f w _ k n len e j (bJ (g x (by simp [d,Op.operands])) b m) (bJ (g i (by simp [d,Op.operands])) b q) (ov hv.1 b),km,Q]) (Nb (by simp [d,Op.operands]) m hb)
   cases H:Dt i with
   | true=>exact I (.box p (off+n.toNat*e.size)) (λ_=>rfl) (by intro p A e;rcases e with e | e<;>cases e<;>rfl) (by simpa [H] using hv.2)
   | false=>exact I (.dS p (off+n.toNat*e.size)) (λ_=>rfl) (by intro p A e;rcases e with e | e<;>cases e<;>rfl) (by simpa [H] using hv.2)
  ·exact hv.elim
 ·exact hv.elim
theorem Rq (ok:tb.Ok P) {t:Nat} {x i:Operand} (c:o.op=.index t x i) (hv:match ev s ch x,ev s ch i with
  | some (.v (.string b)),some (.v (.int _ n))=>match tb.ty t with
   | some y=>match y.cm with
    | .string=>kU (dH s ch) (0<=n/\n<(b.size:Int))/\K (.v (.int .u8 ((b.data.toList.getD n.toNat 0).toNat:Int)))
    | _=>False
   | none=>False
  | some (.v (.agg cs)),some (.v (.int _ n))=>Bz (dH s ch) tb t cs.toList n K
  | _,_=>False):eA P tb o ch s h K:=by
 split at hv
 ·rename_i b k n j g;split at hv
  ·rename_i y p;split at hv
   ·rename_i l;refine kJ _ hv.2 λa H I w d=> ?_;have m:=bJ (d x (by simp [c,Op.operands])) a j;have hi:=bJ (d i (by simp [c,Op.operands])) a g;obtain ⟨B,J⟩:=ov hv.1 a;have f:=ay ok p w;rw [l] at f;have A:n.toNat<b.size:=by omega
    have D:b[n.toNat]? =some (b.data.toList.getD n.toNat 0):=by
     rw [getElem?_pos b n.toNat A];congr 1;have:n.toNat<b.data.toList.length:=by simpa using A
     rw [List.getD_eq_getElem?_getD,List.getElem?_eq_getElem this];rfl
    simp only [execOp,c,m,hi,LVal,Instr.index,asIntOf,Sem.run_bind,Sem.run_pure,Result.andThen_ok,f,if_pos B,D]
   ·exact hv.elim
  ·exact hv.elim
 ·rename_i cs k n j g;unfold Bz at hv;split at hv
  ·rename_i len e C;obtain ⟨y,u,p,l,r⟩:=CT C;cases q:pE e.cm with
   | true=>grind
   | false=>simp only [q,cond_false] at hv;obtain ⟨hb,z,G,E⟩:=hv;refine kJ _ E λa H I w d=> ?_;have m:=bJ (d x (by simp [c,Op.operands])) a j;have hi:=bJ (d i (by simp [c,Op.operands])) a g;have f:=ay ok p w;have F:=cw ok r w;have hp:=Nf ok (w:=w) (cs:=cs.toList) r (.inr ⟨q,ov G a⟩);rw [l] at f;simp only [Array.toArray_toList] at hp;simp only [execOp,c,m,hi,LVal,Instr.index,asIntOf,Sem.run_bind,Sem.run_pure,Result.andThen_ok,f,if_pos (ov hb a),F,hp]
  ·exact hv.elim
 ·exact hv.elim
theorem T0 {f:Nat->Nat} {b:Operand->Value} (c:holds s ch) {x:Option Operand} {r:Option Int} (a:ph s ch x=some r) (d:∀y,x=some y->eZ f s b y):
  (x=none/\r=none)\/∃y k n,x=some y/\b y=.int k n/\r=some n:=by
 cases x with
 | none=>cases a;simp
 | some y=>
  simp only [ph] at a;split at a
  ·rename_i k n e;cases a;exact .inr ⟨y,k,n,rfl,bJ (d y rfl) c e,rfl⟩
  ·cases a
theorem zF {k:IntKind} {n:Int} {m:Nat} {c:BoundsCode} {w:World} (a:0<=n) (b:n<=(m:Int)):(Instr.sliceBound (.int k n) m c).run P w=.ok n.toNat w:=by simp only [Instr.sliceBound,asIntOf,Sem.run_bind,Sem.run_pure,Result.andThen_ok,if_pos (And.intro a b)]
theorem EV {c:Option Bool} {t:Bool} {len cap:Nat} {lo hi q:Option Int} {Q:Nat->Nat->Nat->Prop} (hv:GI c t len cap lo hi q Q):
  ∃l x m,Q l x m/\((c=none\/(c=some true))->∀(g f i:Option Value),(lo=none/\g=none\/∃k n,lo=some n/\g=some (.int k n))->
   (hi=none/\f=none\/∃k n,hi=some n/\f=some (.int k n))->(q=none/\i=none\/∃k n,q=some n/\i=some (.int k n))->
   ∀w:World,(Instr.sliceBounds t len cap g f i).run P w=.ok (l,x,m) w):=by
 have j:∀ {p:Prop},kU c p->(c=none\/c=some true)->p:=by
  intro p r hc;rcases hc with hc | hc<;>subst hc
  ·exact r
  ·exact r rfl
 unfold GI at hv;split at hv
 ·refine ⟨_,_,_,hv,λhc g f i a b d w=> ?_⟩;simp at a b d;subst a;subst b;subst d;simp [Instr.sliceBounds]
 ·rename_i l;refine ⟨_,_,_,hv.2,λhc g f i a b d w=> ?_⟩;obtain ⟨a0,a1⟩:=j hv.1 hc;simp at a b d;subst b;subst d;obtain ⟨k,rfl⟩:=a;simp [Instr.sliceBounds,zF a0 a1]
 ·rename_i x;refine ⟨_,_,_,hv.2,λhc g f i a b d w=> ?_⟩;obtain ⟨a0,a1⟩:=j hv.1 hc;simp at a b d;subst a;subst d;obtain ⟨k,rfl⟩:=b;simp [Instr.sliceBounds,zF a0 a1]
 ·rename_i l x;refine ⟨_,_,_,hv.2,λhc g f i a b d w=> ?_⟩;obtain ⟨a0,a1,a2⟩:=j hv.1 hc;simp at a b d;subst d;obtain ⟨k,rfl⟩:=a;obtain ⟨u,rfl⟩:=b;have e:(x.toNat:Int)=x:=Int.toNat_of_nonneg (by omega);simp [Instr.sliceBounds,zF (Int.le_trans a0 a1) a2,zF (n:=l) (m:=x.toNat) a0 (by omega)]
 ·rename_i x m;refine ⟨_,_,_,hv.2,λhc g f i a b d w=> ?_⟩;obtain ⟨a0,a1,a2⟩:=j hv.1 hc;simp at a b d;subst a;obtain ⟨k,rfl⟩:=b;obtain ⟨u,rfl⟩:=d;simp [Instr.sliceBounds,zF (n:=m) (Int.le_trans a0 a1) a2,zF (n:=x) (m:=m.toNat) a0 (by omega)]
 ·rename_i l x m;refine ⟨_,_,_,hv.2,λhc g f i a b d w=> ?_⟩;obtain ⟨a0,a1,a2,a3⟩:=j hv.1 hc;simp at a b d;obtain ⟨k,rfl⟩:=a;obtain ⟨u,rfl⟩:=b;obtain ⟨v,rfl⟩:=d;simp [Instr.sliceBounds,zF (n:=m) (by omega) a3,zF (n:=x) (m:=m.toNat) (by omega) (by omega),zF (n:=l) (m:=x.toNat) a0 (by omega)]
 ·simp at hv
end
section
variable {P:Program} {tb:Tb} {o:Oper} {ch:aY} {s:St} {h:Hp} {K:LV->Prop}
theorem Dw (a:holds s ch):dH s ch=none\/dH s ch=some true:=by
 cases ch with
 | nil=>exact .inl rfl
 | cons q r=>obtain ⟨t,w⟩:=q;obtain ⟨b,hb,hi⟩:=M8 (s:=s) t w r;grind
theorem Rt (ok:tb.Ok P) {t:Nat} {x:Operand} {lo hi A:Option Operand} (j:o.op=.slice t x lo hi A) (hv:iH (ev s ch x) λv=>match ph s ch lo,ph s ch hi,ph s ch A with
  | some lo,some hi,some A=>Cj (dH s ch) tb t v lo hi A K
  | _,_,_=>False):eA P tb o ch s h K:=by
 obtain ⟨v,I,f⟩:=kj hv;clear hv;split at f
 ·rename_i l n m L M B;have q:holds s ch->∀(p:Nat->Nat) (i:Operand->Value),(∀x∈o.op.operands,eZ p s i x)->∀ {y:Option Operand} {r:Option Int},ph s ch y=some r->(∀z,y=some z->z∈o.op.operands)->
    (r=none/\y.map i=none\/∃k n,r=some n/\y.map i=some (.int k n)):=by
   intro c p i g y r X B;rcases T0 c X (λz d=>g z (B z d)) with ⟨R,S⟩ | ⟨z,k,n,R,S,h3⟩
   ·exact .inl ⟨S,by rw [R];rfl⟩
   grind
  unfold Cj at f;split at f
  ·rename_i base len cap;split at f
   ·rename_i e H;obtain ⟨y,u,Q,O,J⟩:=wX H;obtain ⟨U,W,V,C,E⟩:=EV (P:=P) f;refine kJ _ (C _ rfl) λc p i w g=> ?_;have G:=bJ (g x (by simp [j,Op.operands])) c I;have F:=ay ok Q w;have N:=cw ok J w;rw [O] at F;have D:=E (Dw c) _ _ _ (q c p i g L (by intro z d;simp [j,Op.operands,d])) (q c p i g M (by intro z d;simp [j,Op.operands,d]))
     (q c p i g B (by intro z d;simp [j,Op.operands,d])) w
    simp only [execOp,j,G,LVal,Instr.sliceAt,Instr.slice,Sem.run_bind,F,Result.andThen_ok,D,N,Sem.run_pure,aV]
   ·exact f.elim
  ·rename_i a;split at f
   ·rename_i n' e H;obtain ⟨y',u,a8,Z,J⟩:=CT H;obtain ⟨U,W,V,C,E⟩:=EV (P:=P) f;refine kJ _ (C _ rfl) λc p i w g=> ?_;have G:=bJ (g x (by simp [j,Op.operands])) c I;have T:=ay ok a8 w;have N:=cw ok J w;rw [Z] at T;have D:=E (Dw c) _ _ _ (q c p i g L (by intro z d;simp [j,Op.operands,d])) (q c p i g M (by intro z d;simp [j,Op.operands,d]))
     (q c p i g B (by intro z d;simp [j,Op.operands,d])) w
    simp only [execOp,j,G,LVal,Instr.sliceAt,Instr.slice,Instr.sureAddr,Sem.run_bind,Result.andThen_ok,T,D,N,Sem.run_pure,aV];split<;>simp_all
   ·exact f.elim
  ·rename_i b;split at f
   ·rename_i e Q;split at f
    ·rename_i O;obtain ⟨U,W,V,C,E⟩:=EV (P:=P) f;refine kJ _ C λc p i w g=> ?_;have G:=bJ (g x (by simp [j,Op.operands])) c I;have F:=ay ok Q w;rw [O] at F;have Y:A=none:=by
      cases A with
      | none=>rfl
      | some z=>simp only [ph] at B;grind
     have D:=E (Dw c) _ _ none (q c p i g L (by intro z d;simp [j,Op.operands,d])) (q c p i g M (by intro z d;simp [j,Op.operands,d])) (.inl ⟨rfl,rfl⟩) w;subst Y;simp [execOp,j,G,LVal,Instr.sliceAt,Instr.slice,F,D]
    ·exact f.elim
   ·exact f.elim
  ·exact f.elim
 ·exact f.elim
theorem Rx (ok:tb.Ok P) {t:Nat} {x:Operand} (a:o.op=.makeInterface t x) (hv:iH (ev s ch x) λv=>match tb.ty t with
  | some e=>match e.cm with
   | .interface _=>False
   | _=>K (.v (.iface t v))
  | none=>False):eA P tb o ch s h K:=by
 obtain ⟨v,d,b⟩:=kj hv;clear hv;split at b
 ·rename_i e c;have run:(∀n,e.cm≠ .interface n)->K (.v (.iface t v))->eA P tb o ch s h K:=λi g=>
   kJ _ g λf p q w j=>by have m:=bJ (j x (by simp [a,Op.operands])) f d;have l:=ay ok c w;simp only [execOp,a,m,LVal,Instr.makeInterface,Sem.run_bind,l,Result.andThen_ok];cases k:e.cm<;>first | exact absurd k (i _) | rfl
  grind
 ·exact b.elim
theorem T1 {fn:Fn} {first captured:Array Operand} (c:o.op=.makeFunc fn first captured)
  (hv:nK (eh s ch first.toList) λa=>nK (eh s ch captured.toList) λb=>K (.v (.func fn a.toArray b.toArray))):eA P tb o ch s h K:=by
 obtain ⟨a,i,k⟩:=FL hv;obtain ⟨b,hb,j⟩:=FL k;refine kJ _ j λd β ρ w e=> ?_;have m:=Am (β:=β) (ρ:=ρ) d i λx l=>e x (by simp [c,Op.operands];grind);have n:=Am (β:=β) (ρ:=ρ) d hb λx l=>e x (by simp [c,Op.operands];grind);have f:first.map ρ=a.toArray:=by grind
 have g:captured.map ρ=b.toArray:=by grind
 simp only [execOp,c,Instr.makeFunc,Sem.run_bind,Sem.run_pure,Result.andThen_ok,f,g,LVal]
theorem aak (ok:tb.Ok P) {l c:Nat} {x:Operand} (r:o.op=.convert l c x) (hv:iH (ev s ch x) λv=>match tb.ty l,tb.ty c,v with
  | some _,some e,.int _ n=>match e.cm with
   | .int k=>K (.v (.int k (k.wrap n)))
   | _=>ng (dH s ch) P tb c (convert l c v) h K
  | some _,some _,v=>ng (dH s ch) P tb c (convert l c v) h K
  | _,_,_=>False):eA P tb o ch s h K:=by
 obtain ⟨v,z,i⟩:=kj hv;clear hv;have m:holds s ch->∀(b:Nat->Nat) (a:Operand->Value),(∀x∈o.op.operands,eZ b s a x)->∀(w g:World) (u:Value),(convert l c v).run P w=.ok u g->(execOp a o).run P w=.ok (.value u) g:=by intro d b a f w g u j;have C:=bJ (f x (by simp [r,Op.operands])) d z;simp only [execOp,r,C,LVal,Sem.run_bind,j,Result.andThen_ok,Sem.run_pure]
 split at i
 ·rename_i t e k n A y;split at i
  ·rename_i E B;refine kJ _ i λd b a w f=>m d b a f w w _ ?_;have p:=ay ok A w;have q:=ay ok y w;rw [B] at q;generalize t.cm=D at p;simp only [convert,Sem.run_bind,p,q,Result.andThen_ok];cases D<;>rfl
  ·exact sO (by simp_all [cX]) i λd b a f w g u j=>m d b a f w g u j
 ·exact sO (by simp_all [cX]) i λd b a f w g u j=>m d b a f w g u j
 ·exact i.elim
theorem An :∀(l:List Value) (i:Nat) (new:List Value),i+new.length<=l.length->kP l i new=l.take i++new++l.drop (i+new.length)
 | l,0,[],_=>by cases l<;>simp [kP]
 | [],0,b::new,h=>by simp at h
 | a::l,0,b::new,h=>by have:=An l 0 new (by grind);simp only [kP,this];simp
 | [],n+1,new,h=>by simp at h
 | a::l,n+1,new,h=>by have:=An l n new (by simp at h ⊢;omega);simp only [kP,this];grind
theorem aal (l:List Value) (i:Nat) (new:List Value) (h:i+new.length<=l.length):(kP l i new).length=l.length:=by rw [An l i new h];simp;omega
theorem Ng :∀(new:List Value) (k:Nat) (l:List Value) (off:Nat),off+k+new.length<=l.length->
  ((new.zipIdx k).foldl (λ(a:Array Value) (p:Value×Nat)=>a.setIfInBounds (off+p.2) p.1) l.toArray).toList=l.take (off+k)++new++l.drop (off+k+new.length)
 | [],k,l,off,_=>by simp
 | v::new,k,l,off,h=>by
  simp only [List.zipIdx_cons,List.foldl_cons];have b:off+(k+1)+new.length<=(l.set (off+k) v).length:=by simp at h ⊢;omega
  have:=Ng new (k+1) (l.set (off+k) v) off b;rw [show (l.toArray.setIfInBounds (off+k) v)=(l.set (off+k) v).toArray by simp];rw [this];simp at h;apply List.ext_getElem?;intro j;simp only [List.getElem?_append,List.length_append,List.length_take,List.length_set,List.length_cons,List.getElem?_take,List.getElem?_drop,List.getElem?_set];grind
theorem Nh (v:Value) (l:List Value) (off:Nat) (h:off+(ba v).length<=l.length):
  (v.cells.zipIdx.foldl (λ(a:Array Value) (p:Value×Nat)=>a.setIfInBounds (off+p.2) p.1) l.toArray)=(kP l off (ba v)).toArray:=by
 apply Array.ext';rw [<-Array.foldl_toList];have:v.cells.zipIdx.toList=(ba v).zipIdx:=by rw [Array.toList_zipIdx,oi]
 rw [this,Ng (ba v) 0 l off (by omega),An l off _ h];simp
theorem Eb {size:Nat}:∀ {e:List (Nat×Value)} {a b:List Value},nD size a e=some b->
  Instr.fill (λi=>some (i*size,size)) a.toArray e=some b.toArray
 | [],a,b,h=>by cases h;rfl
 | (i,v)::r,a,b,h=>by
  simp only [nD] at h;cases c:Nat.beq (ba v).length size with
  | false=>simp [c] at h
  | true=>
   cases d:Nat.ble (i*size+size) a.length with
   | false=>simp [c,d] at h
   | true=>
    simp only [c,d,cond_true] at h;have f:=Nat.eq_of_beq_eq_true c;have j:=Nat.le_of_ble_eq_true d;have g:v.cells.size=size:=by rw [<-Array.length_toList,oi,f]
    have:=Eb h;simp only [Instr.fill,g,ne_eq,not_true,decide_false,Bool.false_or,decide_eq_true_eq];rw [if_neg (by simp;omega)];have k:=Nh v a (i*size) (by omega);grind
theorem Ni {fs:List Field} {pl:Nat->Option (Nat×Nat)} (j:∀i f e,fs[i]? =some f->tb.ty f.type=some e->pl i=some (f.offset,e.size)):
  ∀ {k:List (Nat×Value)} {a b:List Value},qY tb fs a k=some b->Instr.fill pl a.toArray k=some b.toArray
 | [],a,b,h=>by cases h;rfl
 | (i,v)::r,a,b,h=>by
  simp only [qY] at h;split at h
  ·rename_i f g;split at h
   ·rename_i e n;cases c:Nat.beq (ba v).length e.size with
    | false=>simp [c] at h
    | true=>
     cases d:Nat.ble (f.offset+e.size) a.length with
     | false=>simp [c,d] at h
     | true=>
      simp only [c,d,cond_true] at h;have l:=Nat.eq_of_beq_eq_true c;have p:=Nat.le_of_ble_eq_true d;have m:v.cells.size=e.size:=by rw [<-Array.length_toList,oi,l]
      have:=Ni j h;rw [nj] at g;simp only [Instr.fill,j i f e g n,m];rw [if_neg (by simp;omega)];rw [Nh v a f.offset (by omega)];exact this
   ·cases h
  ·cases h
theorem La (ok:tb.Ok P) {w:World}:∀(fs:List Field),(∀f∈fs,∃e,tb.ty f.type=some e)->
  ∃a:List (Nat×Nat),(fs.mapM λf=>(do pure (f.offset,<-Go.sizeOf f.type):Sem (Nat×Nat))).run P w=.ok a w/\a.length=fs.length/\
   ∀(i:Nat) f e,fs[i]? =some f->tb.ty f.type=some e->a[i]? =some (f.offset,e.size)
 | [],_=>⟨[],by simp,rfl,by simp⟩
 | f::fs,b=>by
  obtain ⟨e,c⟩:=b f (List.mem_cons_self ..);obtain ⟨a,k,j,hp⟩:=La ok (w:=w) fs λg d=>b g (List.mem_cons_of_mem _ d);refine ⟨(f.offset,e.size)::a,?_,by simp [j],?_⟩
  ·simp only [List.mapM_cons,Sem.run_bind,cw ok c,Result.andThen_ok,Sem.run_pure,k]
  grind
theorem LU :∀ {fs:List Field},pZ tb fs=true->∀f∈fs,∃e,tb.ty f.type=some e
 | [],_,f,hf=>by cases hf
 | g::fs,h,f,hf=>by
  simp only [pZ] at h;split at h
  ·rename_i e a;rcases List.mem_cons.1 hf with rfl | hf
   ·exact ⟨e,a⟩
   ·exact LU h f hf
  ·cases h
theorem Rz (ok:tb.Ok P) {t:Nat} {parts:Array (Nat×Operand)} (y:o.op=.build t parts)
  (hv:nK ((mw s ch parts.toList).map λ_=> []) λ_=>match mw s ch parts.toList,tb.ty t with
  | some b,some e=>match e.cm with
   | .struct fs=>cond (pZ tb fs.toList) (match qY tb fs.toList (ba e.zero) b with
    | some c=>K (.v (.agg c.toArray))
    | none=>False) False
   | .array _ u=>match tb.ty u with
    | some g=>match nD g.size (ba e.zero) b with
     | some c=>K (.v (.agg c.toArray))
     | none=>False
    | none=>False
   | _=>False
  | _,_=>False):eA P tb o ch s h K:=by
 obtain ⟨_,_,a⟩:=FL hv;clear hv;split at a
 ·rename_i b e G m;have C:holds s ch->∀(β:Nat->Nat) (ρ:Operand->Value),(∀x∈o.op.operands,eZ β s ρ x)->(parts.map λ(i,x)=>(i,ρ x)).toList=b:=by intro j β ρ k;have:=Ea (β:=β) (ρ:=ρ) j G λx J=>k x (by simp [y,Op.operands];simpa using J);simpa using this
  split at a
  ·rename_i fs A;cases z:pZ tb fs.toList with
   | false=>simp [z] at a
   | true=>
    simp only [z,cond_true] at a;split at a
    ·rename_i c r;refine kJ _ a λj β ρ w k=> ?_;have l:=ay ok m w;rw [A] at l;have B:=cU ok m w;obtain ⟨pl,H,L,hp⟩:=La ok (w:=w) fs.toList (LU z);have F:(fs.mapM λf=>(do pure (f.offset,<-Go.sizeOf f.type):Sem (Nat×Nat))).run P w=.ok pl.toArray w:=by rw [Array.mapM_eq_mapM_toList];simp only [Sem.run_map,H,Result.andThen_ok]
     have d:=Ni (tb:=tb) (fs:=fs.toList) (pl:=λ(i:Nat)=>pl[i]?) hp r;have p:(parts.map λ(i,x)=>(i,ρ x)).toList=b:=C j β ρ k;have q:(ba e.zero).toArray=e.zero.cells:=by apply Array.ext';simp [oi]
     rw [q] at d;simp only [execOp,y,Instr.build,Sem.run_bind,B,Result.andThen_ok,l,F,p];have D:(λ(i:Nat)=>pl.toArray[i]?)=λ(i:Nat)=>pl[i]?:=by funext i;simp
     rw [D,d];simp [LVal]
    ·exact a.elim
  ·rename_i n u A;split at a
   ·rename_i g E;split at a
    ·rename_i c r;refine kJ _ a λj β ρ w k=> ?_;have l:=ay ok m w;rw [A] at l;have B:=cU ok m w;have I:=cw ok E w;have d:=Eb r;have p:(parts.map λ(i,x)=>(i,ρ x)).toList=b:=C j β ρ k;have q:(ba e.zero).toArray=e.zero.cells:=by apply Array.ext';simp [oi]
     rw [q] at d;simp only [execOp,y,Instr.build,Sem.run_bind,B,Result.andThen_ok,l,I,p,d];simp [LVal]
    ·exact a.elim
   ·exact a.elim
  ·exact a.elim
 ·exact a.elim
end
section
variable {P:Program} {tb:Tb} {o:Oper} {ch:aY} {s:St} {h:Hp} {K:LV->Prop}
theorem DP (ok:tb.Ok P) {k:Nat} {e:Ty} {b:Bool} {v:Value} {w:World} (c:tb.ty k=some e) (a:sb e.cm=true):
  (Instr.checkKey b 10000 k v).run P w=.ok () w:=by
 have f:=ay ok c w;have key:∀n,(Instr.checkKey b (n+1) k v).run P w=.ok () w:=by intro n;unfold Instr.checkKey;simp only [Sem.run_bind,f,Result.andThen_ok];generalize e.cm=d at a;cases d<;>first | rfl | (simp [sb] at a)
 exact key 9999
theorem A9 (ok:tb.Ok P) {k:Nat} {e:Ty} {v:Value} {a:List MapEntry} {r:Option (Nat×Value)} {w:World} (b:tb.ty k=some e)
  (c:Instr.findNow e.cm v a 0=some r):(Instr.findKey k v a).run P w=.ok r w:=by
 simp only [Instr.findKey,Sem.run_bind,ay ok b,Result.andThen_ok,c,Sem.run_pure]
theorem MZ {r:Nat} {a:Array MapEntry} {ck:Nat} {w:World} (hb:w.heap[r]? =some (.map a ck)):(getObj r).run P w=.ok (.map a ck) w:=by simp [getObj,Sem.run,hb]
theorem yz (ok:tb.Ok P) {t k u:Nat} {e j q:Ty} {m:Option Nat} {b v:Value} {y l:Bool} {w:World} (x:tb.ty t=some e) (C:e.cm=.map k u)
  (d:tb.ty k=some j) (p:tb.ty u=some q) (n:sb j.cm=true) (B:Sub h w) (f:Af j.cm q.zero m b h v y):
  (Instr.lookup t (.map m) b l).run P w=.ok (if l then .tuple #[v,.bool y] else v) w:=by
 have g:=ay ok x w;rw [C] at g;obtain ⟨D,z,f⟩:=f;rcases z with ⟨rfl,rfl⟩ | ⟨r,ck,rfl,A⟩
 ·simp only [Instr.lookup,Sem.run_bind,g,Result.andThen_ok,Sem.run_pure,DP ok d n];rcases f with ⟨a,hv,c⟩ | ⟨i,a,c⟩
  ·simp only [A9 ok d a,Result.andThen_ok,Sem.run_bind,cU ok p,Sem.run_pure,hv,c]
  ·simp only [A9 ok d a,Result.andThen_ok,Sem.run_bind,Sem.run_pure,c]
 ·simp only [Instr.lookup,Sem.run_bind,g,Result.andThen_ok,MZ (B r _ A),Sem.run_pure,DP ok d n];rcases f with ⟨a,hv,c⟩ | ⟨i,a,c⟩
  ·simp only [A9 ok d a,Result.andThen_ok,Sem.run_bind,cU ok p,Sem.run_pure,hv,c]
  ·simp only [A9 ok d a,Result.andThen_ok,Sem.run_bind,Sem.run_pure,c]
theorem abw (ok:tb.Ok P) {t:Nat} {x i:Operand} {l:Bool} (n:o.op=.lookup t x i l) (hv:iH (ev s ch x) λa=>iH (ev s ch i) λb=>match a,tb.ty t with
  | .map m,some e=>match e.cm with
   | .map k u=>match tb.ty k,tb.ty u with
    | some A,some p=>cond (sb A.cm) (jZ (dH s ch) A.cm p.sh p.zero m b h λx y=>cond l (K (.v (.tuple #[p.sh.enc x,.bool y]))) (K (.v (p.sh.enc x))))
      (ng (dH s ch) P tb o.type (Instr.lookup t a b l) h K)
    | _,_=>False
   | _=>False
  | _,_=>False):eA P tb o ch s h K:=by
 obtain ⟨a,J,I⟩:=kj hv;clear hv;obtain ⟨b,L,hv⟩:=kj I;clear I;have B:holds s ch->∀(g:Nat->Nat) (d:Operand->Value),(∀x∈o.op.operands,eZ g s d x)->∀(w q:World) (u:Value),(Instr.lookup t a b l).run P w=.ok u q->(execOp d o).run P w=.ok (.value u) q:=by intro c g d f w q u j;have M:=bJ (f x (by simp [n,Op.operands])) c J;have hi:=bJ (f i (by simp [n,Op.operands])) c L;simp only [execOp,n,M,hi,LVal,Sem.run_bind,j,Result.andThen_ok,Sem.run_pure]
 split at hv
 ·rename_i m e D;split at hv
  ·rename_i k u G;split at hv
   ·rename_i A p E H;cases r:sb A.cm with
    | false=>simp only [r,cond_false] at hv;exact sO (by simp_all [cX]) hv λc g d f w q u j=>B c g d f w q u j
    | true=>
     simp only [r,cond_true] at hv;obtain ⟨y,z,j,F⟩:=hv;cases l with
     | true=>refine Du (by simp [cX,n]) _ F λc g d w f C=>B c g d f w w _ ?_;rw [yz ok D G E H r C (ov j c)];rfl
     | false=>refine Du (by simp [cX,n]) _ F λc g d w f C=>B c g d f w w _ ?_;rw [yz ok D G E H r C (ov j c)];rfl
   ·exact hv.elim
  ·exact hv.elim
 ·exact hv.elim
theorem IG {k:IntKind} {w:World}:∀ {r:List Value} {x:Int} {v:Value},sC fK k x r=some v->(r.foldlM Builtin.min2 (.int k x)).run P w=.ok v w
 | [],x,v,h=>by cases h;rfl
 | a::r,x,v,h=>by
  cases a<;>simp only [sC] at h<;>first
   |cases h
   | (simp only [List.foldlM_cons,Sem.run_bind,Builtin.min2,Sem.run_pure,Result.andThen_ok]
      exact IG h)
theorem II {k:IntKind} {w:World}:∀ {r:List Value} {x:Int} {v:Value},sC pV k x r=some v->(r.foldlM Builtin.max2 (.int k x)).run P w=.ok v w
 | [],x,v,h=>by cases h;rfl
 | a::r,x,v,h=>by
  cases a<;>simp only [sC] at h<;>first
   |cases h
   | (simp only [List.foldlM_cons,Sem.run_bind,Builtin.max2,Sem.run_pure,Result.andThen_ok]
      exact II h)
theorem aam (ok:tb.Ok P) {b:Builtin} {G:Array Operand} {z:Array TypeId} (j:o.op=.call {callee:=.builtin b,args:=G,argTypes:=z})
  (hv:nK (eh s ch G.toList) λF=>PS (dH s ch) P tb b F z.toList o.type h K):eA P tb o ch s h K:=by
 obtain ⟨F,J,a⟩:=FL hv;clear hv;have q:holds s ch->∀(β:Nat->Nat) (ρ:Operand->Value),(∀x∈o.op.operands,eZ β s ρ x)->G.map ρ=F.toArray:=by intro d β ρ f;have:=Am (β:=β) (ρ:=ρ) d J λx L=>f x (by simp [j,Op.operands,Call.operands];simpa using L);grind
 unfold PS at a;split at a
 ·rename_i x ty D;have E:z= #[ty]:=by apply Array.ext';simpa using D
  have t:holds s ch->∀(β:Nat->Nat) (ρ:Operand->Value),(∀x∈o.op.operands,eZ β s ρ x)->∀(w m:World) (u:Value),(Builtin.len_ #[ty] o.type #[x]).run P w=.ok u m->(execOp ρ o).run P w=.ok (.value u) m:=by intro d β ρ f w m u C;have g:=q d β ρ f;simp only [execOp,j,resolve,invoke,builtin,Sem.run_bind,Sem.run_pure,Result.andThen_ok,g,E,C]
  unfold Gt at a;split at a
  ·rename_i e A;have l:=λw=>ay ok A w;split at a
   ·rename_i M i;refine kJ _ a λd β ρ w f=>t d β ρ f w w _ ?_;simp [Builtin.len_,l,i,goInt,LVal]
   ·rename_i I p n c i;refine kJ _ a λd β ρ w f=>t d β ρ f w w _ ?_;simp [Builtin.len_,l,i,goInt,LVal]
   ·rename_i y n I i;refine kJ _ a λd β ρ w f=>t d β ρ f w w _ ?_;cases y<;>simp [Builtin.len_,l,i,goInt,LVal]
   ·exact sO (by simp_all [cX]) a λd β ρ f w m u C=>t d β ρ f w m u C
  ·exact a.elim
 ·rename_i p n c ty D;have E:z= #[ty]:=by apply Array.ext';simpa using D
  split at a
  ·rename_i e A;split at a
   ·rename_i u l;refine kJ _ a λd β ρ w f=> ?_;have g:=q d β ρ f;have H:=ay ok A w;rw [l] at H;simp [execOp,j,resolve,invoke,builtin,g,E,Builtin.cap_,H,goInt,LVal]
   ·exact a.elim
  ·exact a.elim
 ·rename_i k x r;split at a
  ·rename_i v B;refine kJ _ a λd β ρ w f=> ?_;have g:=q d β ρ f;simp [execOp,j,resolve,invoke,builtin,g,Builtin.min_,IG B,LVal]
  ·exact a.elim
 ·rename_i k x r;split at a
  ·rename_i v B;refine kJ _ a λd β ρ w f=> ?_;have g:=q d β ρ f;simp [execOp,j,resolve,invoke,builtin,g,Builtin.max_,II B,LVal]
  ·exact a.elim
 ·exact a.elim
theorem Lb (ok:tb.Ok P) (hv:wG P tb o ch s h K):eA P tb o ch s h K:=by
 obtain ⟨e,op,ty,pos,after,guard⟩:=o;cases op with
 | move x=>exact Nc (.inl rfl) hv
 | assign x=>exact Nc (.inr rfl) hv
 | pick x a b=>exact TY rfl hv
 | extract x i=>exact aah rfl hv
 | binOp op t x y l=>exact Wg ok rfl hv
 | unOp op t x=>exact Yw rfl hv
 | nilCheck x=>exact Wi rfl hv
 | load t x=>exact TZ ok rfl hv
 | fieldAddr t x i=>exact X7 ok rfl hv
 | field t x i=>exact Rn ok rfl hv
 | indexAddr t x i=>exact X9 ok rfl hv
 | index t x i=>exact Rq ok rfl hv
 | slice t x lo hi g=>exact Rt ok rfl hv
 | makeInterface t x=>exact Rx ok rfl hv
 | makeFunc fn a b=>exact T1 rfl hv
 | convert a b x=>exact aak ok rfl hv
 | build t j=>exact Rz ok rfl hv
 | lookup t x i k=>exact abw ok rfl hv
 | call c=>
  obtain ⟨callee,args,d⟩:=c;cases callee with
  | builtin b=>exact aam ok rfl hv
  | value f=>exact hv.elim
  | invoke r m=>exact hv.elim
 | _=>exact hv.elim
end
section
variable {P:Program} {tb:Tb} {o:Oper} {ch:aY} {s:St} {h:Hp} {K:LV->Hp->Prop}
theorem Wj (s:St) (t:Nat) (w:Bool) (r:aY):∃b,dH s ((t,w)::r)=some b/\(b=true↔holds s ((t,w)::r)):=by
 induction r generalizing t w with
 | nil=>
  simp only [dH];split
  ·rename_i b c a;refine ⟨_,rfl,λh=> ?_,λh=> ?_⟩
   ·intro p hp;simp at hp;subst hp;simp only [hb,a];grind
   ·have:=h (t,w) (List.mem_cons_self ..);simp only [hb,a] at this;grind
  ·refine ⟨false,rfl,λh=>(by cases h),λh=> ?_⟩;have:=h (t,w) (List.mem_cons_self ..);unfold hb at this;split at this
   ·rename_i f _ b c a;exact absurd a (f b c)
   ·cases this
 | cons p r k=>
  obtain ⟨l,m⟩:=p;obtain ⟨g,j,i⟩:=k l m;simp only [dH];split
  ·rename_i b c a;rw [j];refine ⟨_,rfl,λh=> ?_,λh=> ?_⟩
   ·have e:g=true/\b=w:=by grind
    intro q hq;rcases List.mem_cons.1 hq with rfl | hq
    ·simp only [hb,a,e.2]
    ·exact i.1 e.1 q hq
   ·have d:=h (t,w) (List.mem_cons_self ..);simp only [hb,a] at d;injection d with d
    have e:g=true:=i.2 λq hq=>h q (List.mem_cons_of_mem _ hq);grind
  ·refine ⟨false,rfl,λh=>(by cases h),λh=> ?_⟩;have:=h (t,w) (List.mem_cons_self ..);unfold hb at this;split at this
   ·rename_i f _ b c a;exact absurd a (f b c)
   ·cases this
def gw (P:Program) (o:Oper) (ch:aY) (s:St) (h:Hp) (K:LV->Hp->Prop):Prop:=
 (holds s ch->∀(β:Nat->Nat) (a:Act) (w:World),(∀x∈o.op.operands,eZ β s a.eval x)->Sub h w->∀(next:Act->World->Prop) (Q:Exit->Act->World->Prop),
  (∀x b c,K (.v x) b->Step h b w c->next (a.put o.dst x) c)->o.wp P a w next Q)/\
 (¬holds s ch->∃x,K (.v x) h)
theorem Dx {d:Type} {A:(d->Hp->Prop)->Hp->Prop} {K:d->Hp->Prop} (a:bX (dH s ch) A K h):(holds s ch->A K h)/\(¬holds s ch->∃x,K x h):=by
 cases ch with
 | nil=>exact ⟨λ_=>a,λc=>absurd (bL s) c⟩
 | cons p r=>obtain ⟨t,w⟩:=p;obtain ⟨b,hb,hi⟩:=Wj s t w r;rw [hb] at a;exact ⟨λe=>a.1 (hi.2 e),λc=>a.2 (by grind)⟩
theorem uL {e:Type} {A:(e->Hp->Prop)->Hp->Prop} {f:e->Value} (j:bX (dH s ch) A (λx b=>K (.v (f x)) b) h)
  (c:holds s ch->∀(β:Nat->Nat) (ρ:Operand->Value) (w:World),(∀x∈o.op.operands,eZ β s ρ x)->Sub h w->∀(K:e->Hp->Prop),A K h->
   ∃x b d,(execOp ρ o).run P w=.ok (.value (f x)) d/\K x b/\Step h b w d):gw P o ch s h K:=by
 obtain ⟨i,m⟩:=Dx j;refine ⟨λhh β a w ho hs next Q g=> ?_,λg=> ?_⟩
 ·obtain ⟨x,b,d,c,k,l⟩:=c hh β a.eval w ho hs _ (i hh);unfold Oper.wp;rw [c,Oper.upon_value];exact g _ _ _ k l
 grind
theorem LW {h:Hp} {a b:Addr} {v:Value} (i:∃u,dh h b=some u):∃u,dh (h.put a v) b=some u:=by
 obtain ⟨u,j⟩:=i;obtain ⟨c,t,fr,hb,g,d⟩:=D6 j;unfold Hp.put;split
 ·rename_i k l m f;unfold dh Hp.set;by_cases e:b.block=a.block
  ·rw [e] at hb;rw [hb] at f;cases f;simp only [e,if_true,g,Option.isSome_none,Bool.false_eq_true,if_false];split
   ·exact ⟨u,d⟩
   ·rw [Array.getElem?_setIfInBounds];split
    ·rename_i n;have:b.off<c.size:=by
      rcases Nat.lt_or_ge b.off c.size with h | h
      ·exact h
      ·rw [Array.getElem?_eq_none h] at d;cases d
     rw [if_pos (by omega)];exact ⟨v,rfl⟩
    ·exact ⟨u,d⟩
  ·simp only [if_neg e,hb,g];exact ⟨u,by simpa using d⟩
 grind
theorem LX (h:Hp) (a b:Addr) (v:Value):gN (h.put a v) b=gN h b:=by
 unfold Hp.put;split
 ·rename_i c e fr hb;unfold gN Hp.set;grind
 ·rfl
theorem uE {h:Hp} {a:Addr}:∀ {n:Nat},qQ h a n->∀i,i<n->(∃v,dh h (a.add i)=some v)/\gN h (a.add i)=false
 | 0,_,i,hi=>by omega
 | n+1,b,i,hi=>by
  rcases Nat.lt_or_ge i n with h | h
  ·exact uE b.1 i h
  ·have:i=n:=by omega
   subst this;exact b.2
theorem FB {a:Addr}:∀(b:List Value) (i:Nat) (h:Hp) (w:World),Sub h w->iX b=true->
  (∀j,j<b.length->(∃v,dh h (a.add (i+j))=some v)/\gN h (a.add (i+j))=false)->
  ∃f,(storeCells a b i).run P w=.ok () f/\Step h (ki h a b i) w f
 | [],i,h,w,d,_,_=>⟨w,rfl,.refl d⟩
 | v::b,i,h,w,d,g,k=>by
  obtain ⟨⟨v0,e⟩,l⟩:=k 0 (by simp);rw [Nat.add_zero] at e l;have n:=M0 (v:=v) d e;have m:iX b=true/\v.oneCell'=true:=by cases v<;>simp only [iX] at g<;>first | exact ⟨g,rfl⟩ | cases g
  obtain ⟨f,r,u⟩:=FB b (i+1) (h.put (a.add i) v) (w.setCell (a.add i) v) n.sub m.1 (λj y=>by
   have:=k (j+1) (by simp;omega);rw [show i+1+j=i+(j+1) from by omega];exact ⟨LW this.1,by rw [LX];exact this.2⟩)
  refine ⟨f,?_,n.trans u⟩;simp only [storeCells,Sem.run_bind];have x:(store (a.add i) v).run P w=.ok () (w.setCell (a.add i) v):=by
   have p:=vb d e;obtain ⟨c,t,fr,hb,_,_⟩:=D6 e;have q:w.frozen? (a.add i)=false:=by rw [Dr d hb];exact l
   have hv:=m.2;cases v<;>first
    | (simp [Value.oneCell'] at hv;done)
    |simp only [store,Sem.run,p,q,Bool.false_eq_true,if_false]
  rw [x];simp only [Result.andThen_ok];exact r
theorem RB (ok:tb.Ok P) {t:Nat} {x y:Operand} (d:o.op=.store t x y) (hv:match ev s ch x,ev s ch y with
  | some (.v (.pointer (some a))),some (.v v)=>match ch,tb.ty t with
   | [],some e=>cond (Nat.beq (ba v).length e.size) (cond (iX (ba v)) (cl h a (ba v) λg=>K (.v (.tuple #[])) g) False) False
   | _,_=>False
  | _,_=>False):gw P o ch s h K:=by
 split at hv
 ·rename_i a v k l;split at hv
  ·rename_i e i;cases b:Nat.beq (ba v).length e.size with
   | false=>simp [b] at hv
   | true=>
    cases f:iX (ba v) with
    | false=>grind
    | true=>
     simp only [b,f,cond_true] at hv;refine ⟨λhh β act w ho hs next Q c=> ?_,λc=>absurd (bL s) c⟩;have z:act.eval x=_:=bJ (ho x (by simp [d,Op.operands])) hh k;have A:act.eval y=_:=bJ (ho y (by simp [d,Op.operands])) hh l;obtain ⟨B,p,r⟩:=FB (P:=P) (ba v) 0 h w hs f (λj m=>by simpa using uE hv.1 j m);have u:=cw ok i w;have n:v.cells.size=e.size:=by rw [<-Array.length_toList,oi];exact Nat.eq_of_beq_eq_true b
     unfold Oper.wp;have q:(execOp act.eval o).run P w=.ok .skip B:=by
      simp only [execOp,d,z,A,LVal,Instr.storeAt,Instr.sureAddr,Sem.run_bind,Sem.run_pure,Result.andThen_ok,storeVar,u,n,ne_eq,not_true,if_false,oi];have:(if False then (stuck "storeVar: the value has not the size of the variable" :Sem Unit) else pure PUnit.unit).run P w=.ok () w:=rfl
      first | rw [this] | skip
      simp only [p,Result.andThen_ok]
     rw [q,Oper.upon_skip];exact c _ _ _ hv.2 r
  ·exact hv.elim
 ·exact hv.elim
theorem tX {e:TypeId} {a:Array Value} {w:World}:(newRow e a).run P w=.ok ⟨w.heap.size,0,none⟩ {w with heap:=w.heap.push (.cells a e)}:=by simp [newRow]
theorem Ec {a:List Value} {K:Addr->Hp->Prop} {t:Nat} {w:World} (e:Sub h w) (c:bG a K h):
  ∃b,K ⟨w.heap.size,0,none⟩ b/\Step h b w {w with heap:=w.heap.push (.cells a.toArray t)}:=by
 obtain ⟨d,f⟩:=Bd e (.cells a.toArray t);exact ⟨_,c _ t d,f⟩
theorem abx {b:List Value} {K:Addr->Hp->Prop} {t:Nat} {w:World} (d:Sub h w) (a:Ae t b K h):
  ∃c,K ⟨w.heap.size,0,none⟩ c/\Step h c w {w with heap:=w.heap.push (.cells b.toArray t)}:=by
 unfold Ae at a;split at a
 ·obtain ⟨e,f⟩:=Bd d (.cells (List.toArray [.pointer none,.slice none 0 0]) t);exact ⟨_,a _ e,f⟩
 ·exact Ec d a
theorem RC (ok:tb.Ok P) {t:Nat} (j:o.op=.alloc t) (hv:match tb.ty t with
  | some e=>bX (dH s ch) (Ae t (ba e.zero)) (λa b=>K (.v (.pointer (some a))) b) h
  | none=>False):gw P o ch s h K:=by
 split at hv
 ·rename_i e d;refine uL (f:=λa=>.pointer (some a)) hv λm p q w n k K g=> ?_;obtain ⟨b,i,l⟩:=abx (t:=t) k g;refine ⟨_,b,_,?_,i,l⟩;have c:(ba e.zero).toArray=e.zero.cells:=by apply Array.ext';simp [oi]
  rw [c];simp [execOp,j,Instr.alloc,cU ok d,newVar,tX]
 ·exact hv.elim
theorem Wk {t:Nat} {x:Operand} (c:o.op=.box t x) (hv:iH (ev s ch x) λv=>bX (dH s ch) (bG (ba v)) (λa b=>K (.v (.pointer (some a))) b) h):
  gw P o ch s h K:=by
 obtain ⟨v,e,n⟩:=kj hv;refine uL (f:=λa=>.pointer (some a)) n λg q r w k l K i=> ?_;obtain ⟨b,j,m⟩:=Ec (t:=t) l i;refine ⟨_,b,_,?_,j,m⟩;have p:=bJ (k x (by simp [c,Op.operands])) g e;have d:(ba v).toArray=v.cells:=by apply Array.ext';simp [oi]
 rw [d];simp [execOp,c,p,LVal,Instr.box,newVar,tX]
theorem Pz {a:Type} (l:List a):∀n,(kR l n).length=n*l.length
 | 0=>by simp [kR]
 | n+1=>by simp [kR,Pz l n,Nat.add_mul,Nat.add_comm]
theorem Nj (l:List Value):∀n i,i<n*l.length->(kR l n)[i]? =l[i%l.length]?
 | 0,i,h=>by simp at h
 | n+1,i,h=>by
  simp only [kR];rcases Nat.lt_or_ge i l.length with hi | hi
  ·rw [List.getElem?_append_left hi,Nat.mod_eq_of_lt hi]
  ·rw [List.getElem?_append_right hi,Nj l n (i-l.length) (by grind)];congr 1;rw [<-Nat.mod_eq_sub_mod hi]
theorem Dy (z:List Value) (n size:Nat) (a:z.length=size):((Array.range (n*size)).map (λi=>z.toArray[i%z.toArray.size]!))=(kR z n).toArray:=by
 apply Array.ext';apply List.ext_getElem?;intro i;rcases Nat.lt_or_ge i (n*size) with hi | hi
 ·have b:(kR z n)[i]? =z[i%z.length]?:=Nj z n i (by rw [a];exact hi);have d:0<size:=by
   rcases Nat.eq_zero_or_pos size with h | h
   ·subst h;simp at hi
   ·exact h
  have c:i%z.length<z.length:=Nat.mod_lt _ (by omega);grind
 ·have b:(kR z n).length<=i:=by rw [Pz,a];exact hi
  grind
theorem WA (ok:tb.Ok P) {t len:Nat} {parts:Array (Nat×Operand)} (n:o.op=.buildSlice t len parts) (hv:match mw s ch parts.toList,gM tb t with
  | some l,some e=>cond (Nat.ble (len*e.size) 16777216) (match nD e.size (kR (ba e.zero) len) l with
   | some m=>bX (dH s ch) (bG m) (λa d=>K (.v (.slice (some a) len len)) d) h
   | none=>False) False
  | _,_=>False):gw P o ch s h K:=by
 split at hv
 ·rename_i l e G A;obtain ⟨y,u,O,M,k⟩:=wX A;cases g:Nat.ble (len*e.size) 16777216 with
  | false=>simp [g] at hv
  | true=>
   simp only [g,cond_true] at hv;have R:=Nat.le_of_ble_eq_true g;split at hv
   ·rename_i m z;refine uL (f:=λa=>.slice (some a) len len) hv λB β ρ w E I K C=> ?_;obtain ⟨d,D,J⟩:=Ec (t:=u) I C;refine ⟨_,d,_,?_,D,J⟩;have F:(parts.map λ(i,x)=>(i,ρ x)).toList=l:=by have:=Ea (β:=β) (ρ:=ρ) B G λx N=>E x (by simp [n,Op.operands];simpa using N);simpa using this
    have p:=ay ok O w;rw [M] at p;have L:=cw ok k w;have Q:=cU ok k w;have q:=ok.zD u e k;have j:=Eb z;have r:e.zero.cells=(ba e.zero).toArray:=by apply Array.ext';simp [oi]
    simp only [execOp,n,Instr.buildSlice,Sem.run_bind,p,Result.andThen_ok,L,F];rw [om];by_cases b:len*e.size=0
    ·have H:kR (ba e.zero) len=[]:=by apply List.length_eq_zero_iff.1;rw [Pz,q];exact b
     rw [H] at j;have c:(Array.map (λx=>(#[]:Array Value)[x%(#[]:Array Value).size]!) (Array.range (len*e.size)))=([]:List Value).toArray:=by rw [b];simp
     simp only [b,if_true,Sem.run_pure,Result.andThen_ok,Sem.run_bind];rw [b] at c;simp only [c,j,Sem.run_bind,tX,Result.andThen_ok,Sem.run_pure]
    ·have c:=Dy (ba e.zero) len e.size q;simp only [b,if_false,Sem.run_bind,Q,Result.andThen_ok,Sem.run_pure,r];simp only [c,j,Sem.run_bind,tX,Result.andThen_ok,Sem.run_pure]
   ·exact hv.elim
 ·exact hv.elim
end
section
variable {P:Program} {tb:Tb} {o:Oper} {ch:aY} {s:St} {h:Hp} {K:LV->Hp->Prop}
theorem zc {base:Option Addr} {n:Nat} {b:List Value} {w:World} (q:Sub h w) (p:pC h base n b) {m c:Nat} {size:Nat} (l:n=m*size):
  (Builtin.firstCells size m (.slice base m c)).run P w=.ok b.toArray w:=by
 obtain ⟨k,f⟩:=p;subst l;cases base with
 | none=>
  rcases f with g | ⟨a,d,_⟩
  ·have:b=[]:=List.length_eq_zero_iff.1 (by omega);subst this;rfl
  ·cases d
 | some a=>
  have e:∀j v,b[j]? =some v->w.cell? (a.add j)=some v:=by
   intro j v i;rcases f with g | ⟨r,d,e⟩
   ·grind
   ·cases d;exact vb q (e j v i)
  simp only [Builtin.firstCells];rw [<-k];exact zxg e
theorem Kc {a cap:Nat} (h:cap<a):Builtin.nextslicecap a cap<=2*a:=by
 unfold Builtin.nextslicecap;split
 ·omega
 ·split
  ·omega
  ·have key:∀r c,c<2*a->(c<a->256<=c)->Builtin.growBy a r c<=2*a:=by
    intro r
    induction r with
    | zero=>intro c d _;simp only [Builtin.growBy];omega
    | succ r e=>
     intro c d b;simp only [Builtin.growBy];split
     ·omega
     ·rename_i f;have:=b (by omega);exact e _ (by omega) (by omega)
   grind
theorem Oj (z:List Value):∀n,fm z n=kR z n
 | 0=>rfl
 | n+1=>by simp only [fm,List.replicate_succ,List.flatten_cons,kR];rw [<-Oj z n,fm]
theorem FE (z:Array Value) (n:Nat):Builtin.zeroCells z n=(fm z.toList n).toArray:=by rw [Oj];have:=Dy z.toList n z.size (by simp);unfold Builtin.zeroCells;rw [<-this]
theorem Cp :IntKind.i64.max=9223372036854775807:=by decide
theorem Lc (ok:tb.Ok P) {t H u rt n:Nat} {y e g:Ty} {l:Sl} {x:Value} {new:List Value} {K:Sl->Hp->Prop} {w:World}
  (hy:tb.ty t=some y) (hu:y.cm=.slice u) (v:tb.ty u=some e) (b0:tb.ty H=some g) (b5:∀k,g.cm≠ .int k)
  (b:Sub h w) (L:yQ u e.size e.bytes (ba e.zero) l n new K h) (A:∀w:World,(Builtin.lenOf x).run P w=.ok n w)
  (C:∀w:World,Sub h w->(Builtin.firstCells e.size n x).run P w=.ok new.toArray w) (b6:new.length=n*e.size):
  ∃r m f,(Builtin.append_ #[t,H] rt #[.slice l.base l.len l.cap,x]).run P w=.ok (.slice r.base r.len r.cap) f/\K r m/\Step h m w f:=by
 obtain ⟨lg,hold,⟨b2,b1⟩,V,S,Q⟩:=L;have d:=λw=>ay ok hy w;have p:=λw=>ay ok b0 w;have q:=λw=>cw ok v w;have J:=λw=>cU ok v w;obtain ⟨i,hi,_,R,_⟩:=ok.info u e v;have I:∀w,(typeInfo u).run P w=.ok i w:=λw=>by simp [typeInfo,hi]
 have E:(match g.cm with | .int _=>true | _=>false)=false:=by simp
 simp only [hu] at d;by_cases z:l.len+n<=l.cap
 ·obtain ⟨D,F⟩:=S z;cases hb:l.base with
  | none=>
   refine ⟨_,_,w,?_,F,?_⟩
   ·simp [Builtin.append_,d,p,q,E,A,z,C w b,hb]
   ·simp only [gu,hb];exact .refl b
  | some a=>
   obtain ⟨f,X,a8⟩:=FB (P:=P) new 0 h w b V (a:=a.add (l.len*e.size)) (λj hj=>by
    have:=uE (D a hb) j (by omega);simpa using this)
   refine ⟨_,_,f,?_,F,?_⟩
   ·simp [Builtin.append_,d,p,q,E,A,z,C w b,hb,X]
   ·simp only [gu,hb];exact a8
 ·have B:l.cap<l.len+n:=by omega
  have O:=Kc B;have b3:¬(Builtin.nextslicecap (l.len+n) l.cap*e.bytes>281474976710656):=by
   have:Builtin.nextslicecap (l.len+n) l.cap*e.bytes<=2*(l.len+n)*e.bytes:=Nat.mul_le_mul_right _ O;have m:2*(l.len+n)*e.bytes=2*((l.len+n)*e.bytes):=by rw [Nat.mul_assoc]
   omega
  have b4:¬(((l.len+n:Nat):Int)>IntKind.i64.max):=by rw [Cp];omega
  have a9:Sub h {w with drawn:=w.drawn+1}:=b;have W:∀w:World,Sub h w->(Builtin.firstCells e.size l.len (.slice l.base l.len l.cap)).run P w=.ok lg.toArray w:=λw b=>zc b hold rfl;let c:=(Question.appendCap (l.len+n) l.cap u).cut (w.tape w.drawn (.appendCap (l.len+n) l.cap u));have N:l.len+n<=c:=by simp only [c,Question.cut];omega
  have Y:(lg.toArray++new.toArray++Builtin.zeroCells e.zero.cells (c-(l.len+n)))=(lg++new++fm (ba e.zero) (c-(l.len+n))).toArray:=by rw [FE,oi];simp
  obtain ⟨U,D⟩:=Bd a9 (.cells (lg++new++fm (ba e.zero) (c-(l.len+n))).toArray u);refine ⟨_,_,_,?_,Q B c _ N U,D.drew⟩;have T:¬(9223372036854775807<(l.len:Int)+(n:Int)):=by omega
  have G:Sub h w.drew:=b;have M:¬(281474976710656<Builtin.nextslicecap (l.len+n) l.cap*i.bytes):=by rw [R];omega
  have Z:lg.toArray++(new.toArray++Builtin.zeroCells e.zero.cells (c-(l.len+n)))=(lg++(new++fm (ba e.zero) (c-(l.len+n)))).toArray:=by rw [<-Array.append_assoc,Y,List.append_assoc]
  simp [Builtin.append_,d,p,q,I,J,E,A,Nat.not_le.2 B,T,M,Question.forced,W _ G,C _ G,tX];refine ⟨rfl,?_⟩;rw [<-Z];rfl
theorem zB (z:List Value) (n:Nat):(fm z n).length=n*z.length:=by simp [fm]
theorem aan (ok:tb.Ok P) {t Y u rt:Nat} {m:Int} {y e L:Ty} {l:Sl} {K:Sl->Hp->Prop} {w:World}
  (hy:tb.ty t=some y) (hu:y.cm=.slice u) (D:tb.ty u=some e) (b7:tb.ty Y=some L) (hint:L.cm=.int .i64)
  (z:Sub h w) (hm:0<=m) (Z:ko e.size e.bytes (ba e.zero) l m.toNat (fm (ba e.zero) m.toNat) K h):
  ∃r G F,(Builtin.append_ #[t,Y] rt #[.slice l.base l.len l.cap,.int .i64 m]).run P w=.ok (.slice r.base r.len r.cap) F/\K r G/\Step h G w F:=by
 obtain ⟨lg,hold,⟨a9,a8⟩,T,O,N⟩:=Z;have d:=λw=>ay ok hy w;have f:=λw=>ay ok b7 w;have g:=λw=>cw ok D w;have B:=λw=>cU ok D w;obtain ⟨i,hi,_,b1,_⟩:=ok.info u e D;have p:∀w,(typeInfo u).run P w=.ok i w:=λw=>by simp [typeInfo,hi]
 simp only [hu] at d;simp only [hint] at f;have J:=ok.zD u e D;have A:IntKind.i64.wrap m=m:=by
  (try unfold yw);unfold IntKind.wrap
  simp only [IntKind.signed,IntKind.bits];grind
 have c2:¬m<0:=by omega
 obtain ⟨n,rfl⟩:=Int.eq_ofNat_of_zero_le hm;have b2:((n:Int)).toNat=n:=by omega
 rw [b2] at a9 a8 T O N;have c0:¬((n:Int)*(i.bytes:Int)>281474976710656):=by grind
 have v:¬(281474976710656<(n:Int)*(i.bytes:Int)):=by omega
 have b9:∀w:World,(if n*e.size=0 then (pure #[]:Sem (Array Value)) else do pure (Builtin.zeroCells (<-zeroValue u).cells n)).run P w=.ok (fm (ba e.zero) n).toArray w:=by
  intro w;by_cases b:n*e.size=0
  ·have:fm (ba e.zero) n=[]:=List.length_eq_zero_iff.1 (by rw [zB,J];exact b);rw [if_pos b,this];rfl
  ·rw [if_neg b];simp only [Sem.run_bind,B,Result.andThen_ok,Sem.run_pure];congr 1;rw [FE,oi]
 have q:∀w:World,(asInt (.int .i64 (n:Int))).run P w=.ok (n:Int) w:=λw=>rfl;have x:¬(n:Int)<0:=by omega
 have b8:Builtin.zeroCells e.zero.cells n=(fm (ba e.zero) n).toArray:=by rw [FE,oi]
 have W:n*e.size=0->fm (ba e.zero) n=[]:=λb=>List.length_eq_zero_iff.1 (by rw [zB,J];exact b);by_cases C:l.len+n<=l.cap
 ·obtain ⟨I,R⟩:=O C;cases hb:l.base with
  | none=>
   refine ⟨_,_,w,?_,R,?_⟩
   ·by_cases b:n*e.size=0
    ·simp [Builtin.append_,d,f,g,p,q,A,x,v,C,b,hb]
    ·simp [Builtin.append_,d,f,g,p,B,q,A,x,v,C,b,hb]
   ·simp only [gu,hb];exact .refl z
  | some a=>
   obtain ⟨F,H,b5⟩:=FB (P:=P) (fm (ba e.zero) n) 0 h w z T (a:=a.add (l.len*e.size)) (λj Q=>by
    have:=uE (I a hb) j (by rw [zB,J] at Q;exact Q);simpa using this)
   refine ⟨_,_,F,?_,R,?_⟩
   ·by_cases b:n*e.size=0
    ·rw [W b] at H;simp [Builtin.append_,d,f,g,p,q,A,x,v,C,b,hb,H]
    ·simp [Builtin.append_,d,f,g,p,B,q,A,x,v,C,b,b8,hb,H]
   ·simp only [gu,hb];exact b5
 ·have E:l.cap<l.len+n:=by omega
  have b0:=Kc E;have c1:¬(Builtin.nextslicecap (l.len+n) l.cap*e.bytes>281474976710656):=by
   have:Builtin.nextslicecap (l.len+n) l.cap*e.bytes<=2*(l.len+n)*e.bytes:=Nat.mul_le_mul_right _ b0;have G:2*(l.len+n)*e.bytes=2*((l.len+n)*e.bytes):=by rw [Nat.mul_assoc]
   omega
  have b6:Sub h {w with drawn:=w.drawn+1}:=z;have U:∀w:World,Sub h w->(Builtin.firstCells e.size l.len (.slice l.base l.len l.cap)).run P w=.ok lg.toArray w:=λw z=>zc z hold rfl;let c:=(Question.appendCap (l.len+n) l.cap u).cut (w.tape w.drawn (.appendCap (l.len+n) l.cap u));have hc:l.len+n<=c:=by simp only [c,Question.cut];omega
  have b3:(lg.toArray++(fm (ba e.zero) n).toArray++Builtin.zeroCells e.zero.cells (c-(l.len+n)))=(lg++fm (ba e.zero) n++fm (ba e.zero) (c-(l.len+n))).toArray:=by rw [FE,oi];simp
  obtain ⟨hn,I⟩:=Bd b6 (.cells (lg++fm (ba e.zero) n++fm (ba e.zero) (c-(l.len+n))).toArray u);refine ⟨_,_,_,?_,N E c _ u hc hn,I.drew⟩;have S:¬(9223372036854775807<(l.len:Int)+(n:Int)):=by omega
  have V:Sub h w.drew:=z;have M:¬(281474976710656<Builtin.nextslicecap (l.len+n) l.cap*i.bytes):=by rw [b1];omega
  have b4:lg.toArray++((fm (ba e.zero) n).toArray++Builtin.zeroCells e.zero.cells (c-(l.len+n)))=(lg++(fm (ba e.zero) n++fm (ba e.zero) (c-(l.len+n)))).toArray:=by rw [<-Array.append_assoc,b3,List.append_assoc]
  have X:∀k,Builtin.zeroCells e.zero.cells k=(fm (ba e.zero) k).toArray:=λk=>by rw [FE,oi]
  by_cases b:n*e.size=0
  ·simp only [W b] at b4 ⊢;simp [Builtin.append_,d,f,g,p,B,q,A,x,v,Nat.not_le.2 E,Cp,S,M,Question.forced,U _ V,b,tX,X];exact ⟨rfl,rfl⟩
  ·simp [Builtin.append_,d,f,g,p,B,q,A,x,v,Nat.not_le.2 E,Cp,S,M,Question.forced,U _ V,b,tX,X];exact ⟨rfl,rfl⟩
theorem aby (ok:tb.Ok P) {O:Array Operand} {F:Array TypeId} (H:o.op=.call {callee:=.builtin .append,args:=O,argTypes:=F}) {N:List Value} (Y:eh s ch O.toList=some N)
  (hv:Br tb (dH s ch) F.toList N h K):gw P o ch s h K:=by
 have J:holds s ch->∀(β:Nat->Nat) (ρ:Operand->Value),(∀x∈o.op.operands,eZ β s ρ x)->O.map ρ=N.toArray:=by intro d β ρ g;have:=Am (β:=β) (ρ:=ρ) d Y λx Z=>g x (by simp [H,Op.operands,Call.operands];simpa using Z);apply Array.ext';simpa using this
 unfold Br at hv;split at hv
 ·rename_i p n c p' n' U t E I;have D:F= #[t,E]:=by grind
  split at hv
  ·rename_i e Q v W;obtain ⟨y,u,j,i,b⟩:=wX v;obtain ⟨y',u',a8,b1,a9⟩:=wX W;refine uL (f:=λ(l:Sl)=>.slice l.base l.len l.cap) hv λd β ρ w g a K z=> ?_;obtain ⟨new,R,q⟩:=z;obtain ⟨r,k,G,B,A,C⟩:=Lc (P:=P) (rt:=o.type) (x:=.slice p' n' U) (l:=⟨p,n,c⟩) ok j i b a8 (by grind) a (q.u u) (λw=>rfl)
    (λw a=>zc a R rfl) R.1
   refine ⟨r,k,G,?_,A,C⟩;simp only [execOp,H,resolve,invoke,builtin,Sem.run_bind,Sem.run_pure,Result.andThen_ok,J d β ρ g,D,B]
  ·exact hv.elim
 ·rename_i p n c x t E I;have D:F= #[t,E]:=by apply Array.ext';simpa using I
  split at hv
  ·rename_i e Q v M;obtain ⟨y,u,j,i,b⟩:=wX v;split at hv
   ·rename_i T b0;cases L:Nat.beq e.bytes 1 with
    | false=>simp [L] at hv
    | true=>
     simp only [L,cond_true] at hv;have V:=Nat.eq_of_beq_eq_true L;have S:e.size=1:=(ok.leaf u e b (by rw [T];rfl)).1;refine uL (f:=λ(l:Sl)=>.slice l.base l.len l.cap) hv λd β ρ w g a K z=> ?_;have hz:ba e.zero=[.int .u8 0]:=ok.A8 u e b T;have hid:Ci tb t=u:=by unfold Ci;rw [j];simp only [i]
     have q:yQ u e.size e.bytes (ba e.zero) ⟨p,n,c⟩ x.size (qz x) K h:=by rw [S,V,hz,<-hid];exact z
     obtain ⟨r,k,G,B,A,C⟩:=Lc (P:=P) (rt:=o.type) (x:=.string x) (l:=⟨p,n,c⟩) ok j i b M (by grind) a q (λw=>rfl)
      (λw a=>by
       have:(x.extract 0 x.size)=x:=by simp
       simp only [Builtin.firstCells,this,Sem.run_pure];congr 1;apply Array.ext';simp [qz]) (by simp [qz,S])
     refine ⟨r,k,G,?_,A,C⟩;simp only [execOp,H,resolve,invoke,builtin,Sem.run_bind,Sem.run_pure,Result.andThen_ok,J d β ρ g,D,B]
   ·exact hv.elim
  ·exact hv.elim
 ·rename_i p n c m t E I;have D:F= #[t,E]:=by apply Array.ext';simpa using I
  split at hv
  ·rename_i e Q v M;obtain ⟨y,u,j,i,b⟩:=wX v;split at hv
   ·rename_i hint;refine uL (f:=λ(l:Sl)=>.slice l.base l.len l.cap) hv λd β ρ w g a K z=> ?_;obtain ⟨X,q⟩:=z;obtain ⟨r,k,G,B,A,C⟩:=aan (P:=P) (rt:=o.type) (l:=⟨p,n,c⟩) ok j i b M hint a X q;refine ⟨r,k,G,?_,A,C⟩;simp only [execOp,H,resolve,invoke,builtin,Sem.run_bind,Sem.run_pure,Result.andThen_ok,J d β ρ g,D,B]
   ·exact hv.elim
  ·exact hv.elim
 ·exact hv.elim
theorem T2 (ok:tb.Ok P) {B:Array Operand} {A:Array TypeId} (r:o.op=.call {callee:=.builtin .copy,args:=B,argTypes:=A}) {p g:Option Addr} {n b c d:Nat} {t L:Nat}
  (W:eh s ch B.toList=some [.slice p n c,.slice g b d]) (a8:A.toList=[t,L]) {e:Ty} (N:gM tb t=some e)
  (hv:bX (dH s ch) (fW e.size ⟨p,n,c⟩ ⟨g,b,d⟩) (λk M=>K (.v (.int .i64 k)) M) h):gw P o ch s h K:=by
 have D:holds s ch->∀(β:Nat->Nat) (ρ:Operand->Value),(∀x∈o.op.operands,eZ β s ρ x)->B.map ρ= #[.slice p n c,.slice g b d]:=by intro i β ρ l;have:=Am (β:=β) (ρ:=ρ) i W λx X=>l x (by simp [r,Op.operands,Call.operands];simpa using X);apply Array.ext';simpa using this
 have J:A= #[t,L]:=by grind
 obtain ⟨y,u,Y,V,O⟩:=wX N;refine uL (f:=λ(k:Int)=>.int .i64 k) hv λi β ρ w l z K Q=> ?_;obtain ⟨new,H,R,T,F⟩:=Q;have q:=λw=>ay ok Y w;have C:=λw=>cw ok O w;rw [V] at q;have G:Nat.min b n=min b n:=rfl;have I:(Builtin.firstCells e.size (min b n) (.slice g b d)).run P w=.ok new.toArray w:=by have:=zc (P:=P) (m:=min b n) (c:=d) z H rfl;cases g<;>exact this
 cases hp:p with
 | none=>subst hp;refine ⟨_,_,w,?_,F,by simp only [gu];exact .refl z⟩;simp only [execOp,r,resolve,invoke,builtin,Sem.run_bind,Sem.run_pure,Result.andThen_ok,D i β ρ l,J];simp [Builtin.copy_,q,C,Builtin.lenOf,G,I,goInt]
 | some a=>
  subst hp;obtain ⟨Z,S,U⟩:=FB (P:=P) (a:=a) new 0 h w z R (λj E=>by
   have:=uE (T a rfl) j (by rw [H.1] at E;exact E);simpa using this)
  refine ⟨_,_,Z,?_,F,by simp only [gu,show a.add 0=a from by simp [Addr.add]];exact U⟩;simp only [execOp,r,resolve,invoke,builtin,Sem.run_bind,Sem.run_pure,Result.andThen_ok,D i β ρ l,J];simp [Builtin.copy_,q,C,Builtin.lenOf,G,I,goInt,S]
theorem T3 (ok:tb.Ok P) {t:Nat} {x y:Operand} (c:o.op=.makeSlice t x y) {m n:Int} {e:Ty} (E:ev s ch x=some (.v (.int .i64 m))) (F:ev s ch y=some (.v (.int .i64 n)))
  (D:gM tb t=some e) (hv:bX (dH s ch) (dL e.bytes (ba e.zero) m n) (λl r=>K (.v (.slice l.base l.len l.cap)) r) h):gw P o ch s h K:=by
 obtain ⟨y',u,Q,N,a⟩:=wX D;refine uL (f:=λ(l:Sl)=>.slice l.base l.len l.cap) hv λg β p w j L K H=> ?_;obtain ⟨⟨Z,b1,a8,a9⟩,I⟩:=H;have O:p x=_:=bJ (j x (by simp [c,Op.operands])) g E;have R:p y=_:=bJ (j y (by simp [c,Op.operands])) g F;have d:=ay ok Q w;rw [N] at d;have z:=λw=>cw ok a w;have B:=λw=>cU ok a w;obtain ⟨i,hi,_,G,_⟩:=ok.info u e a;have A:∀w,(typeInfo u).run P w=.ok i w:=λw=>by simp [typeInfo,hi]
 have T:=ok.zD u e a;have U:IntKind.i64.wrap m=m:=by simp [IntKind.wrap,IntKind.bits,IntKind.signed];omega
 have V:IntKind.i64.wrap n=n:=by simp [IntKind.wrap,IntKind.bits,IntKind.signed];omega
 have b0:¬((e.bytes:Int)*n>281474976710656):=by grind
 obtain ⟨J,M⟩:=Bd L (.cells (fm (ba e.zero) n.toNat).toArray u);refine ⟨_,_,_,?_,I _ u J,M⟩;have W:¬n<0:=by omega
 have X:¬m<0:=by omega
 have Y:¬m>n:=by omega
 have C:((n<0 || decide ((e.bytes:Int)*n>2^48)) || decide (m<0) || decide (m>n))=false:=by grind
 have b2:(if n.toNat*e.size=0 then (#[]:Array Value) else e.zero.cells)=e.zero.cells\/n.toNat*e.size=0:=by grind
 have k:(Array.range (n.toNat*e.size)).map (λi=>e.zero.cells[i%e.zero.cells.size]!)=(fm (ba e.zero) n.toNat).toArray:=by
  have:=Dy (ba e.zero) n.toNat e.size T;rw [Oj,<-this];have q:e.zero.cells=(ba e.zero).toArray:=by apply Array.ext';simp [oi]
  rw [q]
 simp only [execOp,c,O,R,LVal,Instr.makeSlice,Sem.run_bind,d,Result.andThen_ok,asInt,asIntOf,Sem.run_pure,A,U,V,G];have hb:((n<0 || decide ((e.bytes:Int)*n>2^48)) || decide (m<0) || decide (m>n))=false:=C;simp only [hb,Bool.false_eq_true,if_false,Sem.run_bind,run_askRoom,Result.andThen_ok,z];by_cases b:n.toNat*e.size=0
 ·have S:(fm (ba e.zero) n.toNat).toArray= #[]:=by rw [<-k,b];simp
  simp [b,S,tX];grind
 ·simp [b,B,tX,k]
end
section
variable {P:Program} {tb:Tb} {o:Oper} {ch:aY} {s:St} {h:Hp} {K:LV->Hp->Prop}
theorem aao {t:Nat} (d:o.op=.makeMap t none) (hv:bX (dH s ch) Be (λm a=>K (.v (.map m)) a) h):gw P o ch s h K:=by refine uL (f:=λm=>.map m) hv λi k l w j e K b=> ?_;obtain ⟨c,g⟩:=Bd e (.map #[] 0);refine ⟨_,_,_,?_,b _ c,g⟩;simp [execOp,d,Instr.makeMap]
theorem RD (ok:tb.Ok P) {p d:Nat} {x:Operand} (m:o.op=.convert p d x) {b:ByteArray} {e g:Ty} (C:ev s ch x=some (.v (.string b))) (O:tb.ty p=some e)
  (B:gM tb d=some g) (A:e.cm=.string) (F:g.cm=.int .u8)
  (hv:bX (dH s ch) (Kv b) (λl q=>K (.v (.slice l.base l.len l.cap)) q) h):gw P o ch s h K:=by
 obtain ⟨y,u,U,R,E⟩:=wX B;refine uL (f:=λ(l:Sl)=>.slice l.base l.len l.cap) hv λG X W w L M K H=> ?_;have T:W x=_:=bJ (L x (by simp [m,Op.operands])) G C;have i:=λw=>ay ok O w;have j:=λw=>ay ok U w;have k:=λw=>ay ok E w;rw [A] at i;rw [R] at j;rw [F] at k;let c:=(Question.appendCap b.size 0 u).cut (w.tape w.drawn (.appendCap b.size 0 u));have t:b.size<=c:=by simp only [c,Question.cut];omega
 have S:Sub h w.drew:=M;let a:=qz b++fm [.int .u8 0] (c-b.size);have z:a.length=c:=by
  have:(qz b).length=b.size:=by simp [qz]
  simp only [a,List.length_append,Oj,Pz,this];simp;omega
 obtain ⟨J,Q⟩:=Bd S (.cells a.toArray u (c,c+1));refine ⟨_,_,_,?_,H c _ u t J,Step.drew Q⟩;have r:(b.data.map λx=>(.int .u8 x.toNat:Value))++Array.replicate (c-b.size) (.int .u8 0)=a.toArray:=by
  apply Array.ext';simp only [a,qz,Oj];have:∀n,List.replicate n (.int .u8 0:Value)=kR [.int .u8 0] n:=by
   intro n;induction n with
   | zero=>rfl
   | succ n V=>simp only [List.replicate_succ,kR,V];rfl
  simp [this]
 simp only [execOp,m,T,LVal,convert,Sem.run_bind,i,j,k,Result.andThen_ok,Conv.stringToBytes,run_choose,Question.forced,Bool.false_eq_true,if_false,tX,Sem.run_pure];change _=Result.ok (Next.value (.slice (some ⟨w.heap.size,0,none⟩) b.size c)) _;rw [show ((Question.appendCap b.size 0 u).cut (w.tape w.drawn (.appendCap b.size 0 u)))=c from rfl,r];have N:({w.drew with heap:=w.heap.push (.cells a.toArray u)}:World).shape? w.heap.size=some (u,c):=by simp [World.shape?,z]
 have D:({w.drew with heap:=w.heap.push (.cells a.toArray u)}:World).freeze ⟨w.heap.size,c,none⟩ 1={w.drew with heap:=w.heap.push (.cells a.toArray u (c,c+1))}:=by simp only [World.freeze,Nat.one_ne_zero,if_false];congr 1;grind
 have I:(markStringish ⟨w.heap.size,0,none⟩).run P {w.drew with heap:=w.heap.push (.cells a.toArray u)}=.ok () {w.drew with heap:=w.heap.push (.cells a.toArray u (c,c+1))}:=by simp only [markStringish,Sem.run_bind,run_shape,Result.andThen_ok,N,run_freeze];rw [D]
 change (((markStringish ⟨w.heap.size,0,none⟩).run P {w.drew with heap:=w.heap.push (.cells a.toArray u)}).andThen _).andThen _=_;rw [I];rfl
theorem T4 (ok:tb.Ok P) {i d:Nat} {x:Operand} (q:o.op=.convert i d x) {p:Option Addr} {n c:Nat} {e g:Ty} {U:Nat} (E:ev s ch x=some (.v (.slice p n c))) (O:tb.ty i=some e)
  (D:gM tb d=some g) (C:e.cm=.slice U) (H:g.cm=.int .u8) (M:i=d)
  (hv:bX (dH s ch) (Az p) (λ_ z=>K (.v (.slice p n c)) z) h):gw P o ch s h K:=by
 obtain ⟨y,u,T,R,G⟩:=wX D;refine uL (f:=λ(_:Unit)=>.slice p n c) hv λI W V w L r K j=> ?_;have S:V x=_:=bJ (L x (by simp [q,Op.operands])) I E;have k:=λw=>ay ok O w;have l:=λw=>ay ok T w;have m:=λw=>ay ok G w;rw [C] at k;rw [R] at l;rw [H] at m;obtain ⟨b,off,a,t,rfl,hb,j⟩:=j;have Q:=uC r hb (o:=.cells a t (a.size,a.size+1));refine ⟨_,_,_,?_,j,Q⟩;have B:w.heap[b]? =some (.cells a t (0,0)):=r _ _ hb;have F:w.freeze ⟨b,a.size,none⟩ 1={w with heap:=w.heap.setIfInBounds b (.cells a t (a.size,a.size+1))}:=by simp only [World.freeze,Nat.one_ne_zero,if_false];congr 1;grind
 have J:(markStringish ⟨b,off,none⟩).run P w=.ok () {w with heap:=w.heap.setIfInBounds b (.cells a t (a.size,a.size+1))}:=by
  have N:w.shape? b=some (t,a.size):=by simp [World.shape?,B]
  simp only [markStringish,Sem.run_bind,run_shape,Result.andThen_ok,N,run_freeze];rw [F]
 have A:(i==d)=true:=by rw [M];simp
 simp only [execOp,q,S,LVal,convert,Sem.run_bind,k,l,m,Result.andThen_ok,A,J,Sem.run_pure]
end
section
variable {P:Program} {tb:Tb} {o:Oper} {ch:aY} {s:St} {h:Hp} {K:LV->Hp->Prop}
theorem Ed {g:Type} {A:(g->Hp->Prop)->Hp->Prop} (k:bX (dH s ch) A (λ_ b=>K (.v (.tuple #[])) b) h)
  (c:holds s ch->∀(e:Nat->Nat) (i:Operand->Value) (w:World),(∀x∈o.op.operands,eZ e s i x)->Sub h w->∀(K:g->Hp->Prop),A K h->
   ∃x b d,(execOp i o).run P w=.ok .skip d/\K x b/\Step h b w d):gw P o ch s h K:=by
 obtain ⟨j,n⟩:=Dx k;refine ⟨λhh e a w ho hs next Q f=> ?_,λf=> ?_⟩
 ·obtain ⟨x,b,d,c,l,m⟩:=c hh e a.eval w ho hs _ (j hh);unfold Oper.wp;rw [c,Oper.upon_skip];exact f _ _ _ l m
 grind
theorem Ak {sh:Shape} {c:Sem Value} (hv:Ot (dH s ch) P sh c K h)
  (q:holds s ch->∀(d:Nat->Nat) (b:Operand->Value),(∀x∈o.op.operands,eZ d s b x)->∀(w a:World) (v:Value),c.run P w=.ok v a->(execOp b o).run P w=.ok (.value v) a):
  gw P o ch s h K:=by
 refine uL (f:=sh.enc) hv λg d b w k m K i=> ?_;obtain ⟨v,a,e,l,⟨x,p,j⟩,n⟩:=MX c m i;subst p;exact ⟨x,e,a,q g d b k w a _ l,j,n⟩
theorem wZ {t:Nat} {a:Sem Value} (hv:sv (dH s ch) P tb t a K h)
  (d:holds s ch->∀(β:Nat->Nat) (c:Operand->Value),(∀x∈o.op.operands,eZ β s c x)->∀(w b:World) (v:Value),a.run P w=.ok v b->(execOp c o).run P w=.ok (.value v) b):
  gw P o ch s h K:=by
 unfold sv at hv;split at hv
 ·exact Ak hv d
 ·exact hv.elim
theorem RE {a b:ByteArray} (h:(a==b)=true):(b==a)=true:=by
 have:a=b:=by cases a;cases b;congr;exact eq_of_beq h
 grind
theorem RF {c:TypeDesc} {a b:Value} {n:Nat} (d:sb c=true) (h:Instr.sameNow c a b=some true):Instr.sameBits n b a=true:=by
 cases c with
 | bool=>
  cases a<;>cases b<;>simp only [Instr.sameNow] at h<;>try (cases h;done)
  injection h with h
  have:∀x y:Bool,(x==y)=true->(y==x)=true:=by decide
  cases n<;>exact this _ _ h
 | int k=>
  cases a<;>cases b<;>simp only [Instr.sameNow] at h<;>try (cases h;done)
  split at h
  ·injection h with h
   have e:=eq_of_beq h;subst e;rename_i f;cases n<;>simp_all [Instr.sameBits]
  ·cases h
 | string=>
  cases a<;>cases b<;>simp only [Instr.sameNow] at h<;>try (cases h;done)
  injection h with h
  cases n<;>exact RE h
 | _=>simp [sb] at d
theorem Ke {b:TypeDesc} {k:Value}:∀ {a:List MapEntry} {j i:Nat} {u:Value},Instr.findNow b k a j=some (some (i,u))->
  j<=i/\∃e,a[i-j]? =some e/\e.val=u/\Instr.sameNow b k e.key=some true
 | [],j,i,u,h=>by simp [Instr.findNow] at h
 | e::a,j,i,u,h=>by
  simp only [Instr.findNow] at h;split at h
  ·grind
  ·obtain ⟨f,c,d,l,g⟩:=Ke h;grind
  ·cases h
theorem yA {r:Nat} {o a:Obj} {w:World} (hb:w.heap[r]? =some a) (b:isCells a=false):(setObj r o).run P w=.ok () {w with heap:=w.heap.setIfInBounds r o}:=by simp only [setObj,Sem.run,hb];cases a<;>first | rfl | simp [isCells] at b
theorem abz (ok:tb.Ok P) {t k u:Nat} {e p:Ty} {m:Option Nat} {b v:Value} {w:World} {K:Hp->Prop} (B:tb.ty t=some e) (H:e.cm=.map k u)
  (c:tb.ty k=some p) (f:sb p.cm=true) (j:Sub h w) (E:tZ p.cm m b v K h):
  ∃q y,(Instr.mapUpdate t (.map m) b v).run P w=.ok () y/\K q/\Step h q w y:=by
 obtain ⟨r,A,ck,rfl,g,a⟩:=E;have l:=ay ok B w;rw [H] at l;have hb:=j r _ g;rcases a with ⟨a,d⟩ | ⟨i,x,a,d⟩
 ·refine ⟨_,_,?_,d,uC j g⟩;simp only [Instr.mapUpdate,Sem.run_bind,l,Result.andThen_ok,MZ hb,DP ok c f,A9 ok c a,yA hb rfl]
 ·refine ⟨_,_,?_,d,uC j g⟩;obtain ⟨_,z,C,_,G⟩:=Ke a;have D:A[i]? =some z:=by simpa using C
  have F:=RF (n:=10000) f G;simp only [Instr.mapUpdate,Sem.run_bind,l,Result.andThen_ok,MZ hb,DP ok c f,A9 ok c a,D,Option.map_some,Option.getD_some,Instr.keyThatStays,F,if_true,Sem.run_pure,
   yA hb rfl]
theorem abA (ok:tb.Ok P) {t k u rt:Nat} {t':TypeId} {e n:Ty} {m:Option Nat} {b:Value} {w:World} {K:Hp->Prop} (v:tb.ty t=some e) (z:e.cm=.map k u)
  (d:tb.ty k=some n) (j:sb n.cm=true) (f:Sub h w) (y:wY n.cm m b K h):
  ∃p q,(Builtin.delete_ #[t,t'] rt #[.map m,b]).run P w=.ok (.tuple #[]) q/\K p/\Step h p w q:=by
 have g:=ay ok v w;rw [z] at g;rcases y with ⟨rfl,a⟩ | ⟨r,A,ck,rfl,l,c⟩
 ·refine ⟨_,w,?_,a,.refl f⟩;simp [Builtin.delete_,g,DP ok d j]
 ·have hb:=f r _ l;rcases c with ⟨c,a⟩ | ⟨i,x,c,a⟩
  ·refine ⟨_,_,?_,a,uC f l⟩;simp [Builtin.delete_,g,MZ hb,DP ok d j,A9 ok d c,yA hb rfl]
  ·refine ⟨_,_,?_,a,uC f l⟩;simp [Builtin.delete_,g,MZ hb,DP ok d j,A9 ok d c,yA hb rfl]
theorem Ld (ok:tb.Ok P) {t:Nat} {x y z:Operand} (n:o.op=.mapUpdate t x y z\/o.op=.insert t x y z)
  (hv:ES P tb (dH s ch) t (ev s ch x) (ev s ch y) (ev s ch z) K h):gw P o ch s h K:=by
 obtain ⟨a,G,D⟩:=kj hv;obtain ⟨b,H,E⟩:=kj D;obtain ⟨v,I,c⟩:=kj E;clear hv D E;have run:holds s ch->∀(j:Nat->Nat) (d:Operand->Value),(∀x∈o.op.operands,eZ j s d x)->∀(w f:World),(Instr.mapUpdate t a b v).run P w=.ok () f->(execOp d o).run P w=.ok .skip f:=by intro g j d i w f l;have M:d x=_:=bJ (i x (by rcases n with h | h<;>simp [h,Op.operands])) g G;have N:d y=_:=bJ (i y (by rcases n with h | h<;>simp [h,Op.operands])) g H;have O:d z=_:=bJ (i z (by rcases n with h | h<;>simp [h,Op.operands])) g I;rcases n with h | h<;>simp only [execOp,h,M,N,O,LVal,Sem.run_bind,l,Result.andThen_ok,Sem.run_pure]
 split at c
 ·rename_i m e F;split at c
  ·rename_i k u L;split at c
   ·rename_i Q J;cases A:sb Q.cm with
    | true=>simp only [A,cond_true] at c;refine Ed c λg j d w i B K r=> ?_;obtain ⟨p,f,l,q,C⟩:=abz ok F L J A B r;exact ⟨(),p,f,run g j d i w f l,q,C⟩
    | false=>simp only [A,cond_false] at c;refine Ed c λg j d w i B K r=> ?_;obtain ⟨R,f,p,l,q,C⟩:=MX _ B r;exact ⟨(),p,f,run g j d i w f l,q,C⟩
   ·exact c.elim
  ·exact c.elim
 ·exact c.elim
theorem IP (ok:tb.Ok P) {f:Operand} {j:Array Operand} {k:Array TypeId} {g:FuncId} {first captured:Array Value} {b:List Value} {e:Ty} {a:Act} {w:World}
  (q:o.op=.call {callee:=.value f,args:=j,argTypes:=k}) (p:tb.call g=true) (n:a.eval f=.func (.func g) first captured) (u:j.map a.eval=b.toArray)
  {c:e.sh.T->Hp->Prop} (m:aa P g (first.toList++b++captured.toList) e.sh c h) (t:Sub h w) {next:Act->World->Prop} {Q:Exit->Act->World->Prop}
  (v:∀x d i,c x d->Step h d w i->next (a.put o.dst (e.sh.enc x)) i):o.wp P a w next Q:=by
 have r:(execOp a.eval o).run P w=.ok (.enter g (first.toList++b++captured.toList).toArray) w:=by
  have l:first++b.toArray++captured=(first.toList++b++captured.toList).toArray:=by apply Array.ext';simp
  simp only [execOp,q,resolve,Deferred.ofValue,n,u,Sem.run_bind,Sem.run_pure,Result.andThen_ok,invoke,l];exact ok.call g p _ w
 unfold Oper.wp;rw [r,Oper.upon_enter];refine (m w t).mono ?_;grind
theorem Dz {d:Type} {A:(d->Hp->Prop)->Hp->Prop} {f:d->Value} (j:bX (dH s ch) A (λx b=>K (.v (f x)) b) h)
  (l:holds s ch->∀(e:Nat->Nat) (a:Act) (w:World),(∀x∈o.op.operands,eZ e s a.eval x)->Sub h w->∀(K:d->Hp->Prop),A K h->∀(next:Act->World->Prop) (Q:Exit->Act->World->Prop),
   (∀x b c,K x b->Step h b w c->next (a.put o.dst (f x)) c)->o.wp P a w next Q):gw P o ch s h K:=by
 obtain ⟨i,n⟩:=Dx j;refine ⟨λhh e a w ho hs next Q g=> ?_,λg=> ?_⟩
 ·exact l hh e a w ho hs _ (i hh) next Q λx b c k m=>g _ _ _ k m
 grind
theorem abC (ok:tb.Ok P) (hv:yd P tb o ch s h K):gw P o ch s h K:=by
 obtain ⟨b0,op,ty,pos,after,guard⟩:=o;cases op with
 | store t x y=>exact RB ok rfl hv
 | alloc t=>exact RC ok rfl hv
 | box t x=>exact Wk rfl hv
 | buildSlice t n ps=>exact WA ok rfl hv
 | makeMap t r=>
  cases r with
  | none=>exact aao rfl hv
  | some x=>exact hv.elim
 | makeSlice t x y=>
  obtain ⟨a,B,q⟩:=kj hv;obtain ⟨b,I,E⟩:=kj q;clear hv q;split at E
  ·rename_i m n e J;exact T3 ok rfl B I J E
  ·exact E.elim
 | mapUpdate t x y z=>exact Ld ok (.inl rfl) hv
 | insert t x y z=>exact Ld ok (.inr rfl) hv
 | mapEntry t x y=>obtain ⟨a,B,q⟩:=kj hv;obtain ⟨b,I,E⟩:=kj q;refine wZ E λi β ρ j w C v l=> ?_;have A:ρ x=_:=bJ (j x (by simp [Op.operands])) i B;have O:ρ y=_:=bJ (j y (by simp [Op.operands])) i I;simp only [execOp,A,O,LVal,Sem.run_bind,l,Result.andThen_ok,Sem.run_pure]
 | binOp op t x y g=>obtain ⟨a,B,q⟩:=kj hv;obtain ⟨b,I,E⟩:=kj q;refine wZ E λi β ρ j w C v l=> ?_;have A:ρ x=_:=bJ (j x (by simp [Op.operands])) i B;have O:ρ y=_:=bJ (j y (by simp [Op.operands])) i I;have l:(do eqGuard op t x y a b;binOp op t a b:Sem Value).run P w=.ok v C:=l;simp only [execOp,A,O,LVal,Sem.run_bind] at l ⊢;rw [l];rfl
 | entryStore t x y z=>obtain ⟨a,B,q⟩:=kj hv;obtain ⟨b,I,E⟩:=kj q;obtain ⟨c,b2,b7⟩:=kj E;refine Ed b7 λi β ρ w j F K D=> ?_;have A:ρ x=_:=bJ (j x (by simp [Op.operands])) i B;have O:ρ y=_:=bJ (j y (by simp [Op.operands])) i I;have hz:ρ z=_:=bJ (j z (by simp [Op.operands])) i b2;obtain ⟨u',C,U,l,V,X⟩:=MX _ F D;refine ⟨(),U,C,?_,V,X⟩;simp only [execOp,A,O,hz,LVal,Sem.run_bind,l,Result.andThen_ok,Sem.run_pure]
 | range t x=>obtain ⟨a,B,q⟩:=kj hv;refine Ak q λi β ρ j w C v l=> ?_;have A:ρ x=_:=bJ (j x (by simp [Op.operands])) i B;simp only [execOp,A,LVal,Sem.run_bind,l,Result.andThen_ok,Sem.run_pure]
 | next x b=>obtain ⟨a,B,q⟩:=kj hv;refine Ak q λi β ρ j w C v l=> ?_;have A:ρ x=_:=bJ (j x (by simp [Op.operands])) i B;simp only [execOp,A,LVal,Sem.run_bind,l,Result.andThen_ok,Sem.run_pure]
 | convert b8 b1 x=>
  obtain ⟨a,B,q⟩:=kj hv;clear hv;split at q
  ·rename_i b e g H J;split at q
   ·rename_i Y Z;exact RD ok rfl B H J Y Z q
   ·exact q.elim
  ·rename_i p n c e g H J;split at q
   ·rename_i u0 Y Z;cases hb:Nat.beq b8 b1 with
    | false=>grind
    | true=>simp only [hb,cond_true] at q;exact T4 ok rfl B H J Y Z (Nat.eq_of_beq_eq_true hb) q
   ·exact q.elim
  ·exact q.elim
 | call c=>
  obtain ⟨callee,S,T⟩:=c;cases callee with
  | invoke r m=>exact hv.elim
  | builtin b=>
   obtain ⟨R,N,d⟩:=FL hv;clear hv;have G:holds s ch->∀(β:Nat->Nat) (ρ:Operand->Value),(∀x∈(Op.call {callee:=.builtin b,args:=S,argTypes:=T}).operands,eZ β s ρ x)->S.map ρ=R.toArray:=by intro i β ρ j;have:=Am (β:=β) (ρ:=ρ) i N λx A=>j x (by simp [Op.operands,Call.operands];simpa using A);grind
   cases b with
   | append=>exact aby ok rfl N d
   | copy=>
    replace d:vF _ _ _ _ _ _ _ _:=d;unfold vF at d;split at d
    ·rename_i p n c p' n' c' t t' a9;split at d
     ·rename_i e J;exact T2 ok rfl N a9 J d
     ·exact d.elim
    ·refine wZ d λi β ρ j w C v l=> ?_;simp only [execOp,resolve,invoke,builtin,Sem.run_bind,Sem.run_pure,Result.andThen_ok,G i β ρ j,l]
   | delete=>
    replace d:Bu _ _ _ _ _ _ _ _:=d;unfold Bu at d;split at d
    ·rename_i m k t t' a9;have b6:T= #[t,t']:=by grind
     split at d
     ·rename_i e H;split at d
      ·rename_i kt u hu;split at d
       ·rename_i ke D;cases a8:sb ke.cm with
        | true=>simp only [a8,cond_true] at d;refine uL (f:=λ_=>.tuple #[]) d λi β ρ w j F K b4=> ?_;obtain ⟨U,C,l,V,X⟩:=abA (rt:=ty) (t':=t') ok H hu D a8 F b4;refine ⟨(),U,C,?_,V,X⟩;have ha:=G i β ρ j;simp only [execOp,resolve,invoke,builtin,Sem.run_bind,Sem.run_pure,Result.andThen_ok,ha,b6,l]
        | false=>simp only [a8,cond_false] at d;refine wZ d λi β ρ j w C v l=> ?_;simp only [execOp,resolve,invoke,builtin,Sem.run_bind,Sem.run_pure,Result.andThen_ok,G i β ρ j,l]
       ·exact d.elim
      ·exact d.elim
     ·exact d.elim
    ·exact d.elim
   | clear=>refine wZ d λi β ρ j w C v l=> ?_;simp only [execOp,resolve,invoke,builtin,Sem.run_bind,Sem.run_pure,Result.andThen_ok,G i β ρ j,l]
   | _=>exact d.elim
  | value f=>
   obtain ⟨R,N,d⟩:=FL hv;clear hv;have G:holds s ch->∀(β:Nat->Nat) (ρ:Operand->Value),(∀x∈(Op.call {callee:=.value f,args:=S,argTypes:=T}).operands,eZ β s ρ x)->S.map ρ=R.toArray:=by intro i β ρ j;have:=Am (β:=β) (ρ:=ρ) i N λx A=>j x (by simp [Op.operands,Call.operands];right;simpa using A);grind
   cases f with
   | func g=>
    replace d:Ck _ _ _ _ _ _ _ _:=d;unfold Ck at d;split at d
    ·rename_i e H;cases M:tb.call g with
     | false=>
      simp only [M,cond_false] at d;split at d
      ·rename_i fx A;refine Dz (f:=e.sh.enc) d λi β a w j F K D next Q W=> ?_
       obtain ⟨u,C,U,l,⟨x,rfl,V⟩,X⟩:=MX _ F D;have L:a.eval (.func g)=.func (.func g) #[] #[]:=rfl;have b5:(execOp a.eval {dst:=b0,op:=.call {callee:=.value (.func g),args:=S,argTypes:=T},type:=ty,pos:=pos,after:=after,guard:=guard}).run P w=.ok (.value (e.sh.enc x)) C:=by
        simp only [execOp,resolve,Deferred.ofValue,L,G i β a.eval j,Sem.run_bind,Sem.run_pure,Result.andThen_ok,invoke];have e1: #[]++R.toArray++ #[]=R.toArray:=by simp
        rw [e1,ok.ext g fx A _ w,l];rfl
       unfold Oper.wp;rw [b5,Oper.upon_value];grind
      ·exact d.elim
     | true=>
      simp only [M,cond_true] at d;refine Dz (f:=e.sh.enc) d λi β a w j F K D next Q W=> ?_
      have L:a.eval (.func g)=.func (.func g) #[] #[]:=rfl;exact IP (first:= #[]) (captured:= #[]) ok rfl M L (G i β a.eval j) (by simpa using D) F W
    ·exact d.elim
   | tmp t=>
    replace d:Cl _ _ _ _ _ _ _ _:=d;unfold Cl at d;split at d
    ·rename_i e H;obtain ⟨fv,b3,E⟩:=kj d;refine Dz (f:=e.sh.enc) E λi β a w j F K D next Q W=> ?_
     obtain ⟨g,first,captured,rfl,M,D⟩:=D;have L:a.eval (.tmp t)=_:=bJ (j (.tmp t) (by simp [Op.operands,Call.operands])) i b3;exact IP ok rfl M L (G i β a.eval j) D F W
    ·exact d.elim
   | const v=>exact d.elim
   | global g=>exact d.elim
 | _=>exact hv.elim
theorem abD {C:Ctx} {k:List Oper} (hv:Bv C k o ch s h K):gw C.P o ch s h K:=by
 obtain ⟨m,op,ty,pos,after,guard⟩:=o;unfold Bv at hv;split at hv
 ·rename_i x d b n;subst b;obtain ⟨a,c,i⟩:=kj hv;refine Ak i λe q l f w p v g=> ?_;have j:l x=_:=bJ (f x (by simp [Op.operands])) e c;simp only [execOp,j,LVal,Sem.run_bind,g,Result.andThen_ok,Sem.run_pure]
 ·exact hv.elim
end
theorem Cq {s a:St} {c:aY} (b:∀p∈c,a.f p.1=s.f p.1):holds a c↔holds s c:=by
 have key:∀p∈c,hb a p.1=hb s p.1:=λp hp=>by unfold hb;rw [b p hp]
 exact ⟨λh p hp=>by rw [<-key p hp];exact h p hp,λh p hp=>by rw [key p hp];exact h p hp⟩
theorem Fj (s:St) (d:Nat) (l:LV) (ch:aY):(s.put (some d) l ch).f d=some (l,ch):=by simp [St.put]
theorem pv {i j:Nat} (h:i≠j):Nat.beq i j=false:=by
 cases e:Nat.beq i j with
 | false=>rfl
 | true=>exact absurd (Nat.eq_of_beq_eq_true e) h
theorem sX (s:St) {d t:Nat} (l:LV) (ch:aY) (h:t≠d):(s.put (some d) l ch).f t=s.f t:=by simp [St.put,pv h]
theorem yR (s:St) (k:Nat) (a:List Value):(s.gL k a).m k=some a:=by simp [St.gL]
theorem xv (s:St) {k j:Nat} (a:List Value) (h:j≠k):(s.gL k a).m j=s.m j:=by simp [St.gL,pv h]
theorem zxm {a:Act} {d:Nat} {v:Value} (h:d<a.tmps.size):(a.put (some d) v).eval (.tmp d)=v:=by simp [Act.put,Act.eval,h]
theorem FH {a:Act} {d t:Nat} {v:Value} (h:t≠d):(a.put (some d) v).eval (.tmp t)=a.eval (.tmp t):=by simp [Act.put,Act.eval,Array.getElem?_setIfInBounds_ne (Ne.symm h)]
structure RR (n:Nat) (Cur Liv D N:Nat->Prop) (β:Nat->Nat) (s:St) (a:Act) (h:Hp) (w:World):Prop where
 sz:a.tmps.size=n
 sub:Sub h w
 lt:∀t l c,s.f t=some (l,c)->t<n
 chain:∀t l c,s.f t=some (l,c)->∀p∈c,D p.1
 cur:∀t l c,s.f t=some (l,c)->Cur t->holds s c->a.eval (.tmp t)=LVal β l/\∀k o,(l=.box k o\/l=.dS k o)->Liv k
 cm:∀t l c,s.f t=some (l,c)->Cur t->¬holds s c->a.eval (.tmp t)=undef
 box:∀k cs,s.m k=some cs->Liv k->h (β k)=none/\∃ct,w.heap[β k]? =some (.cells cs.toArray ct (0,0))
 inj:∀k k',s.m k≠none->s.m k'≠none->Liv k->Liv k'->β k=β k'->k=k'
 kZ:∀k,N k->s.m k=none
 kh:∀k,N k->∀t l c,s.f t=some (l,c)->holds s c->∀o,l≠ .box k o/\l≠ .dS k o
def live (s:St) (a:Nat->Prop) (k:Nat):Prop:=s.m k≠none/\a k
structure gT (l mm:List Nat) (lv:Nat->Prop) (β:Nat->Nat) (a:Act) (h:Hp) (w:World) (lv':Nat->Prop) (β':Nat->Nat) (a':Act) (h':Hp) (w':World):Prop where
 tmp:∀i,i∉l->a'.eval (.tmp i)=a.eval (.tmp i)
 beta:∀k,(k∉l\/k∉mm)->β' k=β k
 size:w.heap.size<=w'.heap.size
 xF:∀b,b<w.heap.size->h b=none->(∀k∈mm,lv k->β k≠b)->h' b=none
 cT:∀b,b<w.heap.size->h b=none->(∀k∈mm,lv k->β k≠b)->w'.heap[b]? =w.heap[b]?
 fresh:∀k,lv' k->(lv k/\β' k=β k)\/w.heap.size<=β' k
 os:w'.os=w.os
 tape:w'.tape=w.tape
 output:w'.output=w.output
 defers:a'.defers=a.defers
section
variable {n:Nat} {q Liv D N:Nat->Prop} {β:Nat->Nat} {s:St} {a:Act} {h:Hp} {w:World}
theorem ic {w:World} {b:Nat} {o:Obj} (h:w.heap[b]? =some o):b<w.heap.size:=by grind
theorem T6 (c:Sub h w) {b:Nat} (hb:w.heap.size<=b):h b=none:=by
 cases e:h b with
 | none=>rfl
 | some x=>exact absurd (c.lt e) (Nat.not_lt.2 hb)
theorem gT.refl (l mm:List Nat):gT l mm (live s Liv) β a h w (live s Liv) β a h w:=
 ⟨λ_ _=>rfl,λ_ _=>rfl,Nat.le_refl _,λ_ _ e _=>e,λ_ _ _ _=>rfl,λ_ e=>.inl ⟨e,rfl⟩,rfl,rfl,rfl,rfl⟩
theorem gT.trans {l e:List Nat} {lv lv1 j:Nat->Prop} {β β1 o:Nat->Nat} {a a1 a2:Act} {h h1 d:Hp} {w w1 m:World}
  (x:gT l e lv β a h w lv1 β1 a1 h1 w1) (y:gT l e lv1 β1 a1 h1 w1 j o a2 d m):gT l e lv β a h w j o a2 d m:=by
 have g:∀b,b<w.heap.size->(∀k∈e,lv k->β k≠b)->∀k∈e,lv1 k->β1 k≠b:=λb hb c k r p=>by
  rcases x.fresh k p with ⟨h1,d⟩ | h1
  ·rw [d];exact c k r h1
  omega
 refine ⟨λi hi=>(y.tmp i hi).trans (x.tmp i hi),λk c=>(y.beta k c).trans (x.beta k c),Nat.le_trans x.size y.size,λb hb f c=> ?_,λb hb f c=> ?_,λk c=> ?_,
  y.os.trans x.os,y.tape.trans x.tape,y.output.trans x.output,y.defers.trans x.defers⟩
 ·exact y.xF b (Nat.lt_of_lt_of_le hb x.size) (x.xF b hb f c) (g b hb c)
 ·exact (y.cT b (Nat.lt_of_lt_of_le hb x.size) (x.xF b hb f c) (g b hb c)).trans (x.cT b hb f c)
 ·rcases y.fresh k c with ⟨h1,d⟩ | h1
  ·rw [d];exact x.fresh k h1
  ·exact .inr (Nat.le_trans x.size h1)
theorem gT.mono {l v l' mm':List Nat} {p t r u:Nat->Prop} {β z:Nat->Nat} {a a1:Act} {h d:Hp} {w y:World}
  (x:gT l v p β a h w t z a1 d y) (o:∀i∈l,i∈l') (j:∀i∈v,i∈mm') (hv:∀k,p k->r k) (A:∀k,u k->t k):gT l' mm' r β a h w u z a1 d y:=
 ⟨λi hi=>x.tmp i λe=>hi (o i e),λk c=>x.beta k (c.imp (λe f=>e (o k f)) (λe f=>e (j k f))),x.size,λb hb m c=>x.xF b hb m λk d g=>c k (j k d) (hv k g),λb hb m c=>x.cT b hb m λk d g=>c k (j k d) (hv k g),
  λk c=>(x.fresh k (A k c)).imp (λe=>⟨hv k e.1,e.2⟩) id,x.os,x.tape,x.output,x.defers⟩
theorem gT.step {l i:List Nat} {lv:Nat->Prop} {f:Hp} {g:World} (c:Step h f w g):gT l i lv β a h w lv β a f g:=
 ⟨λ_ _=>rfl,λ_ _=>rfl,c.size,λb hb d _=>(c.cT b hb d).2,λb hb d _=>(c.cT b hb d).1,λ_ e=>.inl ⟨e,rfl⟩,c.os,c.tape,c.output,rfl⟩
theorem gT.put {l mm:List Nat} {lv:Nat->Prop} {d:Option Nat} {v:Value} (b:∀i,d=some i->i∈l):gT l mm lv β a h w lv β (a.put d v) h w:=by
 refine ⟨λi hi=> ?_,λ_ _=>rfl,Nat.le_refl _,λ_ _ e _=>e,λ_ _ _ _=>rfl,λ_ e=>.inl ⟨e,rfl⟩,rfl,rfl,rfl,by cases d<;>rfl⟩;cases d with
 | none=>rfl
 | some d=>exact FH λe=>hi (e▸b d rfl)
theorem RR.step (b:RR n q Liv D N β s a h w) {c:Hp} {e:World} (d:Step h c w e):RR n q Liv D N β s a c e:=
 ⟨b.sz,d.sub,b.lt,b.chain,b.cur,b.cm,λk f l j=>by
  obtain ⟨g,m,i⟩:=b.box k f l j;obtain ⟨o,p⟩:=d.cT _ (ic i) g;grind,b.inj,b.kZ,b.kh⟩
theorem RR.congr (b:RR n q Liv D N β s a h w) {m u r v:Nat->Prop} (j:∀t,m t↔q t) (g:∀t,u t↔Liv t) (z:∀t,D t->r t) (x:∀t,v t->N t):
  RR n m u r v β s a h w:=
 ⟨b.sz,b.sub,b.lt,λt l c e p hp=>z _ (b.chain t l c e p hp),λt l c e d f=>⟨(b.cur t l c e ((j t).1 d) f).1,λk o i=>(g k).2 ((b.cur t l c e ((j t).1 d) f).2 k o i)⟩,
  λt l c e d f=>b.cm t l c e ((j t).1 d) f,λk cs e d=>b.box k cs e ((g k).1 d),λk y e i d f=>b.inj k y e i ((g k).1 d) ((g y).1 f),
  λk e=>b.kZ k (x k e),λk e=>b.kh k (x k e)⟩
theorem EN {d:Nat} {l:LV} {ch c:aY} (b:¬D d) (f:∀p∈c,D p.1):holds (s.put (some d) l ch) c↔holds s c:=
 Cq λp hp=>sX s l ch λe=>b (e▸f p hp)
theorem EW (d:RR n q Liv D N β s a h w) {x:Operand} (i:∀t,x=.tmp t->q t):eZ β s a.eval x:=by
 cases x with
 | tmp t=>exact λl c e b=>(d.cur t l c e (i t rfl) b).1
 | const v=>rfl
 | global g=>rfl
 | func f=>rfl
theorem IS (b:RR n q Liv D N β s a h w) {o:Oper} (i:∀t,Operand.tmp t∈o.op.operands->q t):qb β s o w:=by
 intro t g k off c hf e d f;rcases hf with hf | hf
 ·exact (b.box k d f ((b.cur t _ c hf (i t g) e).2 k off (.inl rfl))).2
 ·exact (b.box k d f ((b.cur t _ c hf (i t g) e).2 k off (.inr rfl))).2
theorem RR.lift (g:RR n q Liv D N β s a h w) {d:Nat} {l:LV} {ch:aY} (y:d<n) (r:¬D d) (u:∀p∈ch,D p.1) (A:holds s ch->∀k o,(l=.box k o\/l=.dS k o)->¬N k):
  RR n (λt=>t≠d/\q t) Liv D N β (s.put (some d) l ch) a h w:=by
 have key:∀t b c,(s.put (some d) l ch).f t=some (b,c)->t=d/\b=l/\c=ch\/t≠d/\s.f t=some (b,c):=λt b c e=>by
  by_cases v:t=d
  ·subst v;rw [Fj] at e;grind
  ·rw [sX _ _ _ v] at e;grind
 refine ⟨g.sz,g.sub,λt b c e=> ?_,λt b c e=> ?_,λt b c e m j=> ?_,λt b c e m j=> ?_,g.box,g.inj,g.kZ,λk z t b c e j o=> ?_⟩
 ·rcases key t b c e with ⟨rfl,_,_⟩ | ⟨_,i⟩
  ·exact y
  ·exact g.lt t b c i
 ·rcases key t b c e with ⟨_,_,rfl⟩ | ⟨_,i⟩
  ·exact u
  ·exact g.chain t b c i
 ·rcases key t b c e with ⟨rfl,_,_⟩ | ⟨_,i⟩
  ·exact absurd rfl m.1
  ·exact g.cur t b c i m.2 ((EN r (g.chain t b c i)).1 j)
 ·rcases key t b c e with ⟨rfl,_,_⟩ | ⟨_,i⟩
  ·exact absurd rfl m.1
  ·exact g.cm t b c i m.2 λx=>j ((EN r (g.chain t b c i)).2 x)
 ·rcases key t b c e with ⟨_,rfl,rfl⟩ | ⟨_,i⟩
  ·have B:=(EN r u).1 j;grind
  ·exact g.kh k z t b c i ((EN r (g.chain t b c i)).1 j) o
theorem RR.exec (b:RR n q Liv D N β s a h w) {d:Nat} {l:LV} {ch:aY} {v:Value} (m:s.f d=some (l,ch)) (y:¬q d)
  (u:holds s ch->v=LVal β l/\∀k o,(l=.box k o\/l=.dS k o)->Liv k) (x:¬holds s ch->v=undef):
  RR n (λt=>t=d\/q t) Liv D N β s (a.put (some d) v) h w:=by
 have r:=b.lt d l ch m;refine ⟨by simpa [Act.put] using b.sz,b.sub,b.lt,b.chain,λt p c e j i=> ?_,λt p c e j i=> ?_,b.box,b.inj,b.kZ,b.kh⟩
 ·by_cases g:t=d
  ·subst g;rw [m] at e;cases e;rw [zxm (by rw [b.sz];exact r)];exact u i
  ·rw [FH g];exact b.cur t p c e (j.resolve_left g) i
 ·by_cases g:t=d
  ·subst g;rw [m] at e;cases e;rw [zxm (by rw [b.sz];exact r)];exact x i
  ·rw [FH g];exact b.cm t p c e (j.resolve_left g) i
theorem RR.AP (b:RR n q Liv D N β s a h w) {d:Nat} (u:List Value) (I:d<n) (G:¬D d) (H:N d):
  RR n (λt=>t≠d/\q t) (λk=>k≠d/\Liv k) D (λk=>k≠d/\N k) β ((s.put (some d) (.box d 0) []).gL d u) a h w:=by
 have r:∀t,t≠d->((s.put (some d) (.box d 0) []).gL d u).f t=s.f t:=λt i=>sX s _ _ i;have J:((s.put (some d) (.box d 0) []).gL d u).f d=some (.box d 0,[]):=Fj s _ _ _;have z:∀k,k≠d->((s.put (some d) (.box d 0) []).gL d u).m k=s.m k:=λk g=>xv _ _ g;have A:∀c:aY,(∀p∈c,D p.1)->(holds ((s.put (some d) (.box d 0) []).gL d u) c↔holds s c):=λc j=>Cq λp hp=>r _ λe=>G (e▸j p hp);refine ⟨b.sz,b.sub,λt l c e=> ?_,λt l c e=> ?_,λt l c e j v=> ?_,λt l c e j v=> ?_,λk E e g=> ?_,λk C e x g B=> ?_,λk g=> ?_,λk g t l c e v o=> ?_⟩
 ·by_cases i:t=d
  ·exact i▸I
  ·exact b.lt t l c (by rwa [r t i] at e)
 ·by_cases i:t=d
  ·grind
  ·exact b.chain t l c (by rwa [r t i] at e)
 ·rw [r t j.1] at e;have y:=(A c (b.chain t l c e)).1 v;have:=b.cur t l c e j.2 y;refine ⟨this.1,λk o x=>⟨λF=> ?_,this.2 k o x⟩⟩;subst F;have:=b.kh k H t l c e y o;grind
 ·rw [r t j.1] at e;exact b.cm t l c e j.2 λy=>v ((A c (b.chain t l c e)).2 y)
 ·rw [z k g.1] at e;exact b.box k E e g.2
 ·rw [z k g.1] at e;rw [z C B.1] at x;exact b.inj k C e x g.2 B.2
 ·rw [z k g.1];exact b.kZ k g.2
 ·by_cases i:t=d
  ·grind
  ·rw [r t i] at e;exact b.kh k g.2 t l c e ((A c (b.chain t l c e)).1 v) o
theorem LY (c:Sub h w) (o:Obj):Step h h w {w with heap:=w.heap.push o}:=by
 refine ⟨λb x e=> ?_,by simp,λb hb f=>⟨?_,f⟩,rfl,rfl,rfl⟩
 ·have d:=c.lt e;simp only [Array.getElem?_push,if_neg (Nat.ne_of_lt d)];exact c b x e
 grind
def u7 (β:Nat->Nat) (d b:Nat):Nat->Nat:=λk=>if k=d then b else β k
theorem RR.AJ (b:RR n q Liv D N β s a h w) {d:Nat} {C:List Value} (t:Nat) (G:s.f d=some (.box d 0,[])) (O:s.m d=some C) (R:¬q d) (H:¬Liv d):
  RR n (λt=>t=d\/q t) (λk=>k=d\/Liv k) D N (u7 β d w.heap.size) s (a.put (some d) (.pointer (some ⟨w.heap.size,0,none⟩))) h {w with heap:=w.heap.push (.cells C.toArray t (0,0))}:=by
 have P:h w.heap.size=none:=T6 b.sub (Nat.le_refl _);have J:∀k,s.m k≠none->Liv k->β k<w.heap.size:=λk i M=>by obtain ⟨E,e⟩:=Option.ne_none_iff_exists'.1 i;obtain ⟨_,Q,K⟩:=b.box k E e M;exact ic K
 have b:=b.step (LY b.sub (.cells C.toArray t (0,0)));have L:=b.lt d _ _ G;have p:∀k,k≠d->u7 β d w.heap.size k=β k:=λk i=>by simp [u7,i]
 refine ⟨by simpa [Act.put] using b.sz,b.sub,b.lt,b.chain,λz B c e F A=> ?_,λz B c e F A=> ?_,λk E e i=> ?_,λk u e y i I r=> ?_,b.kZ,b.kh⟩
 ·by_cases l:z=d
  ·subst l;rw [G] at e;cases e;rw [zxm (by rw [b.sz];exact L)];refine ⟨by simp [LVal,u7],λk o y=>.inl ?_⟩;grind
  ·rw [FH l];have:=b.cur z B c e (F.resolve_left l) A;refine ⟨?_,λk o y=>.inr (this.2 k o y)⟩;rw [this.1];cases B with
   | v x=>rfl
   | box k o=>have i:k≠d:=λg=>H (g▸this.2 k o (.inl rfl));simp [LVal,p k i]
   | dS k o=>have i:k≠d:=λg=>H (g▸this.2 k o (.inr rfl));simp [LVal,p k i]
 ·by_cases l:z=d
  ·subst l;rw [G] at e;cases e;exact absurd (bL s) A
  ·rw [FH l];exact b.cm z B c e (F.resolve_left l) A
 ·by_cases g:k=d
  ·subst g;rw [O] at e;cases e;refine ⟨?_,t,?_⟩
   ·simpa [u7] using P
   ·simp [u7]
  ·rw [p k g];exact b.box k E e (i.resolve_left g)
 ·by_cases g:k=d
  ·by_cases j:u=d
   ·rw [g,j]
   ·rw [p u j,g] at r;have:=J u y (I.resolve_left j);simp only [u7,if_true] at r;omega
  ·by_cases j:u=d
   ·rw [p k g,j] at r;have:=J k e (i.resolve_left g);simp only [u7,if_true] at r;omega
   ·rw [p k g,p u j] at r;exact b.inj k u e y (i.resolve_left g) (I.resolve_left j) r
theorem GG {l mm:List Nat} {d:Nat} {g:List Value} (t:Nat) (p:Sub h w) (u:s.m d=some g) (r:¬Liv d) (j:d∈l) (v:d∈mm):
  gT l mm (live s Liv) β a h w (live s λk=>k=d\/Liv k) (u7 β d w.heap.size) (a.put (some d) (.pointer (some ⟨w.heap.size,0,none⟩))) h {w with heap:=w.heap.push (.cells g.toArray t (0,0))}:=by
 refine ⟨λi hi=>FH λe=>hi (e▸j),λk f=> ?_,by simp,λ_ _ e _=>e,λb hb o _=>((LY p _).cT b hb o).1,λk f=> ?_,rfl,rfl,rfl,rfl⟩
 ·have:k≠d:=λe=>by grind
  simp [u7,this]
 ·by_cases c:k=d
  ·subst c;exact .inr (by simp [u7])
  ·exact .inl ⟨⟨f.1,f.2.resolve_left c⟩,by simp [u7,c]⟩
theorem yS (b:Nat) (d:Nat):∀(new:List Value) (h:Hp) (i off:Nat) (c:List Value),off+i+new.length<=c.length->h b=some (.cells c.toArray d (0,0))->
  (ki h ⟨b,off,none⟩ new i) b=some (.cells (kP c (off+i) new).toArray d (0,0))/\∀f,f≠b->(ki h ⟨b,off,none⟩ new i) f=h f
 | [],h,i,off,c,g,e=>by refine ⟨?_,λ_ _=>rfl⟩;rw [An _ _ _ (by simpa using g)];simpa [ki] using e
 | v::new,h,i,off,c,g,e=>by
  simp at g;have l:(h.put ((⟨b,off,none⟩:Addr).add i) v)=h.set b (.cells (c.set (off+i) v).toArray d (0,0)):=by rw [km];unfold Hp.put;grind
  have m:(h.set b (.cells (c.set (off+i) v).toArray d (0,0))) b=some (.cells (c.set (off+i) v).toArray d (0,0)):=by simp [Hp.set]
  obtain ⟨o,p⟩:=yS b d new _ (i+1) off (c.set (off+i) v) (by simp;omega) m;simp only [ki,l];refine ⟨?_,λf k=> ?_⟩
  ·rw [o,An _ _ _ (by simp;omega),An _ _ _ (by simp;omega)];congr 3;apply List.ext_getElem?;intro j;simp only [List.getElem?_append,List.length_append,List.length_take,List.length_set,List.length_cons,List.getElem?_take,List.getElem?_drop,List.getElem?_set];grind
  ·rw [p f k];simp [Hp.set,k]
theorem ZG {P:Program} {b k off:Nat} {d new:List Value} (y:Sub h w) (hb:w.heap[b]? =some (.cells d.toArray k (0,0))) (E:h b=none) (v:iX new=true) (C:off+new.length<=d.length):
  ∃c,(storeCells ⟨b,off,none⟩ new 0).run P w=.ok () c/\c.heap[b]? =some (.cells (kP d off new).toArray k (0,0))/\(∀f,f<w.heap.size->f≠b->h f=none->c.heap[f]? =w.heap[f]?)/\
   Sub h c/\w.heap.size<=c.heap.size/\c.os=w.os/\c.tape=w.tape/\c.output=w.output:=by
 have z:Sub (h.set b (.cells d.toArray k (0,0))) w:=by
  intro i o e;unfold Hp.set at e;by_cases hi:i=b
  ·grind
  ·simp [hi] at e;exact y i o e
 have l:(h.set b (.cells d.toArray k (0,0))) b=some (.cells d.toArray k (0,0)):=by simp [Hp.set]
 obtain ⟨c,x,g⟩:=FB (P:=P) (a:=⟨b,off,none⟩) new 0 _ w z v (λj B=>by
  rw [km];refine ⟨⟨d[off+(0+j)]'(by omega),?_⟩,?_⟩
  ·simp only [dh,l];simp
  ·simp only [gN,l];simp)
 obtain ⟨m,p⟩:=yS b k new _ 0 off d (by omega) l;refine ⟨c,x,g.sub _ _ m,λf r u t=>(g.cT f r (by simp [Hp.set,u,t])).1,λi o e=>g.sub i o ?_,g.size,g.os,g.tape,g.output⟩;have hi:i≠b:=λA=>by grind
 rw [p i hi];simp [Hp.set,hi,e]
theorem RR.BU (b:RR n q Liv D N β s a h w) {k l:Nat} {i j:List Value} {g:World} (v:s.m k=some i) (r:Liv k)
  (hb:g.heap[β k]? =some (.cells j.toArray l (0,0))) (F:∀f,f<w.heap.size->f≠β k->h f=none->g.heap[f]? =w.heap[f]?) (G:Sub h g):
  RR n q Liv D N β (s.gL k j) a h g:=by
 refine ⟨b.sz,G,b.lt,b.chain,b.cur,b.cm,λd z e u=> ?_,λx y C E=>b.inj x y ?_ ?_,λd t=> ?_,b.kh⟩
 ·by_cases c:d=k
  ·subst c;rw [yR] at e;cases e;exact ⟨(b.box d i v r).1,l,hb⟩
  ·rw [xv _ _ c] at e;obtain ⟨o,A,p⟩:=b.box d z e u;refine ⟨o,A,?_⟩;rw [F _ (ic p) (λB=>c (b.inj d k (by simp [e]) (by simp [v]) u r B)) o];exact p
 ·intro e;by_cases c:x=k
  ·grind
  ·exact C (by rw [xv _ _ c];exact e)
 ·intro e;by_cases c:y=k
  ·grind
  ·exact E (by rw [xv _ _ c];exact e)
 ·by_cases c:d=k
  ·have:=b.kZ d t;grind
  ·rw [xv _ _ c];exact b.kZ d t
end
section
variable {n:Nat} {g Liv D N:Nat->Prop} {β:Nat->Nat} {s:St} {a:Act} {h:Hp} {w:World}
theorem RR.gu (j:RR n g Liv D N β s a h w) {dst:Option Nat} {l:LV} {ch:aY} {v:Value} (q:∀d,dst=some d->d<n/\¬D d) (f:∀p∈ch,D p.1)
  (i:holds s ch->v=LVal β l/\∀k o,(l=.box k o\/l=.dS k o)->Liv k/\¬N k) (m:¬holds s ch->v=undef):
  RR n (λt=>dst=some t\/g t) Liv D N β (s.put dst l ch) (a.put dst v) h w:=by
 cases dst with
 | none=>exact j.congr (λt=>by simp) (λ_=>.rfl) (λ_ e=>e) (λ_ e=>e)
 | some d=>
  obtain ⟨r,c⟩:=q d rfl;have u:=(j.lift r c f λb k o e=>(((i b).2 k o e).2)).exec (v:=v) (Fj s d l ch) (λe=>e.1 rfl)
   (λb=>⟨(i ((EN c f).1 b)).1,λk o e=>((i ((EN c f).1 b)).2 k o e).1⟩) (λb=>m λe=>b ((EN c f).2 e))
  grind
theorem IU (v:RR n g Liv D N β s a h w) {c:aY} {k:List Oper} {m:Nat} {o:Oper} (e:qa k m o=some c) (f:ua s c=true)
  (z:∀j b p d,o.guard=some (j,b)->nth k j=some p->p.dst=some d->D d):∀p∈c,D p.1:=by
 cases m with
 | zero=>simp [qa] at e
 | succ m=>
  simp only [qa] at e;split at e
  ·cases e;simp
  ·rename_i j b A;split at e
   ·rename_i p hp;split at e
    ·rename_i d l y x;cases e;simp only [ua] at f;split at f
     ·rename_i t r u;cases i:oV r l with
      | false=>simp [i] at f
      | true=>
       have:=zM i;subst this;intro q hq;rcases List.mem_cons.1 hq with rfl | hq
       ·grind
       ·exact v.chain d _ _ u q hq
     ·cases f
    ·cases e
   ·cases e
theorem Le (r:RR n g Liv D N β s a h w) {ch:aY} {ops:Array Oper} {m:Nat} {o:Oper} (c:qa ops.toList m o=some ch) (i:ua s ch=true)
  (B:∀j b p d,o.guard=some (j,b)->nth ops.toList j=some p->p.dst=some d->g d):Region.wanted o (yielded ops a.tmps)=true↔holds s ch:=by
 cases m with
 | zero=>simp [qa] at c
 | succ m=>
  simp only [qa] at c;split at c
  ·rename_i k;cases c;simp [Region.wanted,k,bL]
  ·rename_i j b k;split at c
   ·rename_i p hp;split at c
    ·rename_i d A y F;cases c;simp only [ua] at i;split at i
     ·rename_i t u f;cases v:oV u A with
      | false=>simp [v] at i
      | true=>
       have:=zM v;subst this;have x:=B j b p d k hp y;have z:d<a.tmps.size:=by rw [r.sz];exact r.lt d _ _ f
       have C:ops[j]? =some p:=by rw [nj] at hp;simpa using hp
       have E:yielded ops a.tmps j=match a.eval (.tmp d) with | .bool b=>some b | _=>none:=by unfold yielded;simp only [C,Option.bind_some,y,Act.eval];have:a.tmps[d]? =some (a.tmps[d]'z):=Array.getElem?_eq_getElem z;simp only [this,Array.getD_eq_getD_getElem?,Option.getD_some];grind
       simp only [Region.wanted,k,E];by_cases l:holds s u
       ·have:=(r.cur d _ _ f x l).1;rw [this];simp only [LVal];constructor
        ·intro e;have e:t=b:=by simpa using e
         subst e;intro q hq;rcases List.mem_cons.1 hq with rfl | hq
         ·simp [hb,f]
         ·exact l q hq
        ·intro e;have:=e (d,b) (List.mem_cons_self ..);simp only [hb,f] at this;simpa using this
       ·have:=r.cm d _ _ f x l;rw [this];simp only [undef];refine ⟨λe=>by simp at e,λe=>absurd (λq hq=>e q (List.mem_cons_of_mem _ hq)) l⟩
     ·cases i
    ·cases c
   ·cases c
def cZ (aQ:List Nat) (o:Oper) (k:Nat):Prop:=mH aQ o=true/\o.dst=some k
structure vu (C:Ctx) (l mok:List Nat) (n:Nat) (g Liv D N:Nat->Prop) (o:Oper) (β:Nat->Nat) (s:St) (a:Act) (h:Hp) (w:World) (β':Nat->Nat) (s':St) (a':Act) (h':Hp) (w':World):Prop where
 rr:RR n (λt=>o.dst=some t\/g t) (λk=>cZ C.aQ o k\/Liv k) D (λk=>¬cZ C.aQ o k/\N k) β' s' a' h' w'
 wx:gT l mok (live s Liv) β a h w (live s' λk=>cZ C.aQ o k\/Liv k) β' a' h' w'
 f:∀t,o.dst≠some t->s'.f t=s.f t
 m:∀k,s'.m k=s.m k\/cZ C.aQ o k\/(vE o s k=true/\isVal C.tb o=false/\s.m k≠none/\Liv k)
 hv:isVal C.tb o=true->h'=h
 hp:mH C.aQ o=true->h'=h
theorem Ee {C:Ctx} {o:Oper} (h:mH C.aQ o=false) (k:Nat):¬cZ C.aQ o k:=λe=>by have:=e.1;grind
theorem Nk {C:Ctx} {l p:List Nat} {o:Oper} {b:St} {d:Act} {c:Hp} {i:World} (hp:mH C.aQ o=false)
  (rr:RR n (λt=>o.dst=some t\/g t) Liv D N β b d c i) (wx:gT l p (live s Liv) β a h w (live b Liv) β d c i)
  (f:∀t,o.dst≠some t->b.f t=s.f t) (m:∀k,b.m k=s.m k\/(vE o s k=true/\isVal C.tb o=false/\s.m k≠none/\Liv k)) (hv:isVal C.tb o=true->c=h):
  vu C l p n g Liv D N o β s a h w β b d c i:=by
 have j:∀k,(cZ C.aQ o k\/Liv k)↔Liv k:=λk=>⟨λe=>e.resolve_left (Ee hp k),.inr⟩;refine ⟨rr.congr (λ_=>.rfl) j (λ_ e=>e) (λ_ e=>e.2),wx.mono (λ_ e=>e) (λ_ e=>e) (λ_ e=>e) (λk e=>⟨e.1,(j k).1 e.2⟩),f,λk=>(m k).imp id .inr,hv,λe=>by grind⟩
theorem wj (s:St) (d:Option Nat) (l:LV) (ch:aY) (t:Nat) (h:d≠some t):(s.put d l ch).f t=s.f t:=by
 cases d with
 | none=>rfl
 | some d=>exact sX s l ch λe=>h (by rw [e])
theorem mY (s:St) (d:Option Nat) (l:LV) (ch:aY):(s.put d l ch).m=s.m:=by cases d<;>rfl
theorem Pr {C:Ctx} {o:Oper} (h:isVal C.tb o=true):mH C.aQ o=false:=by obtain ⟨b,op,ty,pos,after,guard⟩:=o;cases op<;>first | rfl | (simp [isVal] at h;done) | (cases b<;>simp [isVal,mH] at h ⊢)
theorem IW (f:RR n g Liv D N β s a h w) {o:Oper} {ch:aY} {l:LV} (hp:mK o ch s l) (p:holds s ch) (m:∀t,Operand.tmp t∈o.op.operands->g t):
  ∀k off,(l=.box k off\/l=.dS k off)->Liv k/\¬N k:=by
 intro k off e;obtain ⟨x,q,i,hev⟩:=hp k off e;rcases hev with hev | hev
 ·obtain ⟨t,c,rfl,d,b⟩:=sW hev (by simp) p;exact ⟨(f.cur t _ c d (m t q) b).2 k i (.inl rfl),λj=>(f.kh k j t _ c d b i).1 rfl⟩
 ·obtain ⟨t,c,rfl,d,b⟩:=sW hev (by simp) p;exact ⟨(f.cur t _ c d (m t q) b).2 k i (.inr rfl),λj=>(f.kh k j t _ c d b i).2 rfl⟩
theorem IY {C:Ctx} (ok:C.tb.Ok C.P) {G:Array Oper} {l M:List Nat} {K:St->Hp->Prop} {i:Nat} {o:Oper} (hi:G[i]? =some o) (hv:BO C G.toList M o s h K)
  (q:RR n g Liv D N β s a h w) (a8:∀t,Operand.tmp t∈o.op.operands->g t)
  (b9:∀j b p d,o.guard=some (j,b)->nth G.toList j=some p->p.dst=some d->g d/\D d) (b0:∀d,o.dst=some d->d<n/\¬D d/\d∈l)
  (hN:∀d,cZ C.aQ o d->N d/\¬Liv d) (next:Act->World->Prop) (Q:Exit->Act->World->Prop)
  (T:∀s' z f9 a' u,K s' z->vu C l M n g Liv D N o β s a h w f9 s' a' z u->next a' u):wpOp C.P G Q i next a w:=by
 unfold BO at hv;split at hv
 ·exact hv.elim
 rename_i ch b6;cases hg:ua s ch with
 | false=>simp [hg] at hv
 | true=>
 simp only [hg,cond_true] at hv;have d8:∀j b p d,o.guard=some (j,b)->nth G.toList j=some p->p.dst=some d->g d:=λj b p d e1 e2 e3=>(b9 j b p d e1 e2 e3).1;have L:=Le q b6 hg d8;have hD:=IU q b6 hg λj b p d e1 e2 e3=>(b9 j b p d e1 e2 e3).2;have U:∀x∈o.op.operands,eZ β s a.eval x:=λx H=>EW q λt e=>a8 t (e▸H);have b7:∀d,o.dst=some d->d<n/\¬D d:=λd e=>⟨(b0 d e).1,(b0 d e).2.1⟩;have b8:∀d,o.dst=some d->d∈l:=λd e=>(b0 d e).2.2;unfold wpOp;simp only [hi];have f8:∀(l:LV) k,live (s.put o.dst l ch) Liv k↔live s Liv k:=λl k=>by unfold live;rw [mY]
 have Y:∀(lv:LV) (z:Hp) (v:Value) (u:World),K (s.put o.dst lv ch) z->mH C.aQ o=false->(isVal C.tb o=true->z=h)->Step h z w u->
   (holds s ch->v=LVal β lv/\∀k off,(lv=.box k off\/lv=.dS k off)->Liv k/\¬N k)->(¬holds s ch->v=undef)->next (a.put o.dst v) u:=by
  intro lv z v u B hp f7 J h1 F;refine T _ _ β _ _ B (Nk hp ((q.step J).gu b7 hD h1 F) ?_ (λt W=>wj s _ _ _ t W) (λk=>.inl (by rw [mY])) f7);refine ((gT.step J).trans (gT.put (lv:=live s Liv) b8)).mono (λ_ e=>e) (λ_ e=>e) (λ_ e=>e) (λk e=>(f8 lv k).1 e)
 cases X:isVal C.tb o with
 | true=>
  simp only [X,cond_true] at hv;obtain ⟨lv,B,V,e4⟩:=Lb ok hv;by_cases A:holds s ch
  ·rw [if_pos (L.2 A)];left;obtain ⟨u,e6,c4,J⟩:=V A β a.eval w U (λ_=>q.sub) (λ_=>IS q a8);unfold Oper.wp;rw [e6];have e9:Step h h w u:=by
    cases b2:cX C.tb o ch s with
    | mem=>exact J b2
    | pure=>rw [c4 (by rw [b2];simp)];exact .refl q.sub
    | box=>rw [c4 (by rw [b2];simp)];exact .refl q.sub
   exact Y lv h _ u B (Pr X) (λ_=>rfl) e9 (λ_=>⟨rfl,IW q e4 A a8⟩) (λe=>absurd A e)
  ·rw [if_neg (λe=>A (L.1 e))];exact Y lv h _ w B (Pr X) (λ_=>rfl) (.refl q.sub) (λe=>absurd e A) (λ_=>rfl)
 | false=>
  simp only [X,cond_false] at hv;have b4:mH C.aQ o=false->(gw C.P o ch s h λl z=>K (s.put o.dst l ch) z)->
    if Region.wanted o (yielded G a.tmps)=true then o.wp C.P a w next Q\/o.asks C.P a w/\LetsOut Q else next (a.put o.dst undef) w:=by
   intro hp hv;obtain ⟨h1,F⟩:=hv;by_cases A:holds s ch
   ·rw [if_pos (L.2 A)];left;refine h1 A β a w U q.sub next Q λx z u B J=> ?_
    exact Y (.v x) z x u B hp (λe=>by grind) J (λ_=>⟨rfl,λk off e=>by grind⟩) (λe=>absurd A e)
   ·rw [if_neg (λe=>A (L.1 e))];obtain ⟨x,B⟩:=F A;exact Y (.v x) h undef w B hp (λ_=>rfl) (.refl q.sub) (λe=>absurd e A) (λ_=>rfl)
  have c6:mH C.aQ o=false->(yd C.P C.tb o ch s h λl z=>K (s.put o.dst l ch) z)->
    if Region.wanted o (yielded G a.tmps)=true then o.wp C.P a w next Q\/o.asks C.P a w/\LetsOut Q else next (a.put o.dst undef) w:=λhp hv=>b4 hp (abC ok hv)
  have b5:∀(d:Nat) (r:List Value) (t:Nat),K ((s.put (some d) (.box d 0) []).gL d r) h->cZ C.aQ o d->ch=[]->has M d=true->
    (execOp a.eval o).run C.P w=.ok (.value (.pointer (some ⟨w.heap.size,0,none⟩))) {w with heap:=w.heap.push (.cells r.toArray t (0,0))}->
    if Region.wanted o (yielded G a.tmps)=true then o.wp C.P a w next Q\/o.asks C.P a w/\LetsOut Q else next (a.put o.dst undef) w:=by
   intro d r t B hp he I V;subst he;rw [if_pos (L.2 (bL s))];left;unfold Oper.wp;rw [V];show next (a.put o.dst _) _
   rw [hp.2];obtain ⟨d3,d1,d2⟩:=b0 d hp.2;obtain ⟨c7,g0⟩:=hN d hp;have hl:=q.AP r d3 d1 c7;have d7:((s.put (some d) (.box d 0) []).gL d r).f d=some (.box d 0,[]):=Fj s _ _ _;have c1:((s.put (some d) (.box d 0) []).gL d r).m d=some r:=yR _ _ _;have H:=hl.AJ t d7 c1 (λe=>e.1 rfl) (λe=>e.1 rfl);have d9:∀k,cZ C.aQ o k↔k=d:=λk=>⟨λe=>by have:=e.2;rw [hp.2] at this;cases this;rfl,λe=>e▸hp⟩;refine T _ _ _ _ _ B ⟨H.congr (λt=> ?_) (λk=> ?_) (λ_ e=>e) (λk e=> ?_),?_,λt W=> ?_,λk=> ?_,λ_=>rfl,λ_=>rfl⟩
   ·rw [hp.2];grind
   ·grind
   ·grind
   ·refine (GG (s:=(s.put (some d) (.box d 0) []).gL d r) (Liv:=λk=>k≠d/\Liv k) (β:=β) (a:=a) (l:=l) (mm:=M) t q.sub c1 (λe=>e.1 rfl) d2 ((rT _ _).1 I)).mono
     (λ_ e=>e) (λ_ e=>e) (λk e=>⟨λe'=>e.1 ?_,e.2.2⟩) (λk e=>⟨e.1,?_⟩)
    ·rw [xv _ _ e.2.1];exact e'
    ·rcases e.2 with e2 | e2
     ·exact .inl ((d9 k).1 e2)
     grind
   ·exact sX s _ _ λe=>W (by rw [hp.2,e])
   ·by_cases ek:k=d
    ·grind
    ·exact .inl (xv _ _ ek)
  split at hv
  ·rename_i d R;have a9:o.dst=some d/\has C.aQ d=true:=by unfold qU at R;grind
   cases I:has M d with
   | false=>simp [I] at hv
   | true=>
    simp only [I,cond_true] at hv;split at hv
    ·rename_i t E;split at hv
     ·rename_i e he;refine b5 d (ba e.zero) t hv ⟨by simp [mH,E,a9],a9.1⟩ rfl I ?_;have e2:(ba e.zero).toArray=e.zero.cells:=by apply Array.ext';simp [oi]
      rw [e2];simp [execOp,E,Instr.alloc,cU ok he,newVar,tX]
     ·exact hv.elim
    ·rename_i t x E;obtain ⟨v,d5,f6⟩:=kj hv;refine b5 d (ba v) t f6 ⟨by simp [mH,E,a9],a9.1⟩ rfl I ?_;have H:=bJ (U x (by simp [E,Op.operands])) (bL s) d5;have e2:(ba v).toArray=v.cells:=by apply Array.ext';simp [oi]
     rw [e2];simp [execOp,E,H,LVal,Instr.box,newVar,tX]
    ·exact hv.elim
  ·exact hv.elim
  ·rename_i R;have b3:mH C.aQ o=false:=by
    unfold qU at R;unfold mH;split at R
    ·rename_i d' e;cases h1:has C.aQ d' with
     | true=>simp [h1] at R
     | false=>rw [e];cases o.op<;>simp [h1]
    ·rename_i e;rw [e];cases o.op<;>simp
   split at hv
   ·rename_i t x y E;split at hv
    ·rename_i k off v b1 d6;split at hv
     ·rename_i r e S f5;cases h1:has M k with
      | false=>simp [h1] at hv
      | true=>
      cases F:Nat.beq (ba v).length e.size with
      | false=>simp [h1,F] at hv
      | true=>
      cases Z:Nat.ble (off+e.size) r.length with
      | false=>simp [h1,F,Z] at hv
      | true=>
      cases h4:iX (ba v) with
      | false=>simp [h1,F,Z,h4] at hv
      | true=>
      simp only [h1,F,Z,h4,cond_true] at hv;rw [if_pos (L.2 (bL s))];left;have c5:x∈o.op.operands:=by simp [E,Op.operands]
      have H:=bJ (U x c5) (bL s) b1;have hy:=bJ (U y (by simp [E,Op.operands])) (bL s) d6;obtain ⟨tt,c,rfl,hf,hc⟩:=sW b1 (by simp) (bL s);have hL:Liv k:=(q.cur tt _ c hf (a8 tt c5) hc).2 k off (.inl rfl);obtain ⟨c9,ct,d0⟩:=q.box k r S hL;have c0:(ba v).length=e.size:=Nat.eq_of_beq_eq_true F;obtain ⟨u,V,c8,c2,f0,e7,h5,h6,h7⟩:=ZG (P:=C.P) (off:=off) q.sub d0 c9 h4 (by rw [c0];exact Nat.le_of_ble_eq_true Z);have f4:=cw ok f5 w;have e0:v.cells.size=e.size:=by rw [<-Array.length_toList,oi];exact c0
      unfold Oper.wp;have e5:(execOp a.eval o).run C.P w=.ok .skip u:=by
       simp only [execOp,E,H,hy,LVal,Instr.storeAt,Instr.sureAddr,Sem.run_bind,Sem.run_pure,Result.andThen_ok,storeVar,f4,e0,ne_eq,not_true,if_false,oi];have:(if False then (stuck "storeVar: the value has not the size of the variable" :Sem Unit) else pure PUnit.unit).run C.P w=.ok () w:=rfl
       first | rw [this] | skip
       simp only [V,Result.andThen_ok]
      rw [e5,Oper.upon_skip];have c3:=(q.BU S hL c8 c2 f0).gu (dst:=o.dst) (l:=.v (.tuple #[])) (ch:=[]) (v:=undef) b7 (by simp) (λ_=>⟨rfl,λk off e=>by rcases e with e | e<;>cases e⟩) (λe=>absurd (bL _) e);have d4:((s.gL k (kP r off (ba v))).put o.dst (.v (.tuple #[])) [])=((s.put o.dst (.v (.tuple #[])) []).gL k (kP r off (ba v))):=by cases o.dst<;>rfl
      rw [d4] at c3;have e8:∀j,((s.put o.dst (.v (.tuple #[])) []).gL k (kP r off (ba v))).m j≠none->s.m j≠none:=λj hj=>by
       by_cases O:j=k
       ·rw [O,S];simp
       ·rw [xv _ _ O,mY] at hj;exact hj
      refine T _ _ _ _ _ hv (Nk b3 c3 ?_ (λt W=>wj s _ _ _ t W) (λj=> ?_) (λ_=>rfl))
      ·refine gT.trans (lv1:=live s Liv) (β1:=β) (a1:=a) (h1:=h) (w1:=u) ⟨λ_ _=>rfl,λ_ _=>rfl,e7,λ_ _ e _=>e,λb hb T B=> ?_,λ_ e=>.inl ⟨e,rfl⟩,h5,h6,h7,rfl⟩ ((gT.put (lv:=live s Liv) b8).mono (λ_ e=>e) (λ_ e=>e) (λ_ e=>e) (λj e=>⟨e8 j e.1,e.2⟩));exact c2 b hb (λe=>B k ((rT _ _).1 h1) ⟨by rw [S];simp,hL⟩ e.symm) T
      ·by_cases O:j=k
       ·subst O;exact .inr ⟨by simp [vE,E,b1],X,by rw [S];simp,hL⟩
       ·exact .inl (by rw [xv _ _ O,mY])
     ·exact hv.elim
    ·exact c6 b3 hv
   ·exact b4 b3 (abD hv)
   grind
end
abbrev Rel (n:Nat) (b:Nat->Nat) (s:St) (a:Act) (h:Hp) (w:World):Prop:=
 RR n (λ_=>True) (λ_=>True) (λ_=>False) (λ_=>False) b s a h w
abbrev cY (s:St):Nat->Prop:=live s λ_=>True
section
variable {n:Nat} {q Liv D N:Nat->Prop} {β:Nat->Nat} {s:St} {a:Act} {h:Hp} {w:World}
theorem zP {s:St} {t:Nat} {l:LV} {c:aY} (e:s.clean.f t=some (l,c)):s.f t=some (l,[])/\c=[]:=by simp only [St.clean] at e;grind
theorem RR.clean (b:RR n (λ_=>True) (λ_=>True) D N β s a h w):Rel n β s.clean a h w:=by
 refine ⟨b.sz,b.sub,λt l c e=>b.lt t l _ (zP e).1,λt l c e p hp=> ?_,λt l c e _ _=>b.cur t l _ (zP e).1 trivial (bL _),λt l c e _ d=> ?_,b.box,b.inj,λ_ e=>e.elim,λ_ e=>e.elim⟩
 ·rw [(zP e).2] at hp;cases hp
 ·rw [(zP e).2] at d;exact absurd (bL _) d
theorem mV {l:List Nat} {x:Option (LV×aY)} {v:LV} {c:aY} (e:qk l x=some (v,c)):x=some (v,c)/\∀k o,(v=.box k o\/v=.dS k o)->k∉l:=by
 unfold qk at e;split at e
 ·rename_i k o d;cases b:has l k with
  | true=>simp [b] at e
  | false=>
   simp only [b,cond_false] at e;cases e;refine ⟨rfl,λf g e'=> ?_⟩;rcases e' with e' | e'<;>cases e'
   exact zE b
 ·rename_i k o d;cases b:has l k with
  | true=>simp [b] at e
  | false=>
   simp only [b,cond_false] at e;cases e;refine ⟨rfl,λf g e'=> ?_⟩;rcases e' with e' | e'<;>cases e'
   exact zE b
 ·grind
 ·cases e
theorem rO {l:List Nat} {t:Nat} {v:LV} {c:aY} (e:(s.kX l).f t=some (v,c)):s.f t=some (v,c)/\∀k o,(v=.box k o\/v=.dS k o)->k∉l:=by
 cases l with
 | nil=>exact ⟨e,λ_ _ _ e=>by cases e⟩
 | cons x l=>exact mV e
theorem xm {l:List Nat} {k:Nat} {c:List Value} (e:(s.kX l).m k=some c):s.m k=some c/\k∉l:=by
 cases l with
 | nil=>exact ⟨e,λe=>by cases e⟩
 | cons x l=>
  simp only [St.kX] at e;cases b:has (x::l) k with
  | true=>simp [b] at e
  | false=>simp only [b,cond_false] at e;exact ⟨e,zE b⟩
theorem RR.start (b:Rel n β s a h w) (l:List Nat):RR n (λ_=>True) (λk=>k∉l) (λ_=>False) (λk=>k∈l) β (s.kX l) a h w:=by
 refine ⟨b.sz,b.sub,λt v c e=>b.lt t v c (rO e).1,λt v c e=>b.chain t v c (rO e).1,λt v c e _ j=> ?_,λt v c e _ j=> ?_,λk g e _=>b.box k g (xm e).1 trivial,λk y e d _ _ x=> ?_,λk f=> ?_,λk f t v c e _ o=> ?_⟩
 ·have i:c=[]:=by
   cases c with
   | nil=>rfl
   | cons p c=>exact (b.chain t v _ (rO e).1 p (List.mem_cons_self ..)).elim
  subst i;exact ⟨(b.cur t v [] (rO e).1 trivial (bL _)).1,(rO e).2⟩
 ·have i:c=[]:=by
   cases c with
   | nil=>rfl
   | cons p c=>exact (b.chain t v _ (rO e).1 p (List.mem_cons_self ..)).elim
  subst i;exact absurd (bL _) j
 ·obtain ⟨g,r⟩:=Option.ne_none_iff_exists'.1 e;obtain ⟨z,u⟩:=Option.ne_none_iff_exists'.1 d;exact b.inj k y (by simp [(xm r).1]) (by simp [(xm u).1]) trivial trivial x
 ·cases e:(s.kX l).m k with
  | none=>rfl
  | some g=>exact absurd f (xm e).2
 ·exact ⟨λd=>(rO e).2 k o (.inl d) f,λd=>(rO e).2 k o (.inr d) f⟩
theorem LZ {l:List Nat} {k:Nat} (e:live (s.kX l) (λk=>k∉l) k):cY s k:=by obtain ⟨c,b⟩:=Option.ne_none_iff_exists'.1 e.1;exact ⟨by simp [(xm b).1],trivial⟩
theorem zzt :∀(x y:List Oper),cv (x++y)=cv x++cv y
 | [],y=>rfl
 | o::x,y=>by simp only [List.cons_append,cv,zzt x y];cases o.dst<;>rfl
theorem xM {l:List Oper} {o:Oper} {d:Nat} (hm:o∈l) (b:o.dst=some d):d∈cv l:=by
 induction l with
 | nil=>cases hm
 | cons p l c=>
  rcases List.mem_cons.1 hm with rfl | hm
  ·simp [cv,b]
  ·have:=c hm;simp only [cv];grind
theorem nodup_iff :∀ {l:List Nat},nodup l=true->l.Nodup
 | [],_=>.nil
 | a::l,h=>by
  simp only [nodup] at h;cases b:has l a with
  | true=>simp [b] at h
  | false=>simp only [b,cond_false] at h;exact List.nodup_cons.2 ⟨zE b,nodup_iff h⟩
theorem aap {l:List Oper} {o:Oper} (h:sN l=true) (b:o∈l):o.guard=none:=by
 induction l with
 | nil=>cases b
 | cons p l c=>simp only [sN] at h;grind
theorem IJ :∀ {l:List Oper} {i j:Nat} {o:Oper} {g:Nat} {b:Bool},zA l i=true->l[j]? =some o->o.guard=some (g,b)->g<i+j
 | [],_,_,_,_,_,_,e,_=>by simp at e
 | p::l,i,0,o,g,b,h,e,c=>by
  simp at e;subst e;simp only [zA,c] at h;cases hb:Nat.blt g i with
  | true=>simp [Nat.blt] at hb;omega
  | false=>simp [hb] at h
 | p::l,i,j+1,o,g,b,h,e,c=>by
  simp at e;have d:zA l (i+1)=true:=by simp only [zA] at h;grind
  have:=IJ d e c;omega
theorem Pu {aQ:List Nat} {o:Oper} {d:Nat} {r:List Oper} (h:cZ aQ o d):kN aQ (o::r)=d::kN aQ r:=by simp [kN,h.1,h.2]
theorem Cr {aQ:List Nat} {o:Oper} {r:List Oper} (h:∀d,¬cZ aQ o d):kN aQ (o::r)=kN aQ r:=by
 cases hp:mH aQ o with
 | false=>simp [kN,hp]
 | true=>
  cases b:o.dst with
  | none=>simp [kN,hp,b]
  | some d=>exact absurd ⟨hp,b⟩ (h d)
theorem L3 {C:Ctx} (ok:C.tb.Ok C.P) {c:Array Oper} {mok:List Nat} {K:St->Hp->Prop} {Q:Exit->Act->World->Prop} (g:Bool)
  (O:∀d∈cv c.toList,d<n) (M:g=false->sN c.toList=true) (G:g=true->(cv c.toList).Nodup/\zA c.toList 0=true):
  ∀(r pre:List Oper) (β:Nat->Nat) (s:St) (a:Act) (h:Hp) (w:World),c.toList=pre++r->(kN C.aQ r).Nodup->BR C c.toList mok r s h K->
   RR n (λ_=>True) (λk=>k∉kN C.aQ r) (λt=>g=true/\t∈cv pre) (λk=>k∈kN C.aQ r) β s a h w->
   (∀v u A m x,K v u->RR n (λ_=>True) (λ_=>True) (λt=>g=true/\t∈cv c.toList) (λ_=>False) A v m u x->
    gT (cv c.toList) mok (live s λk=>k∉kN C.aQ r) β a h w (cY v) A m u x->Q .normal m x)->
   wpOps C.P c Q (List.range' pre.length r.length) a w
 | [],pre,β,s,a,h,w,f,_,hv,J,I=>by simp only [List.length_nil,List.range'_zero];rw [List.append_nil] at f;exact I s h β a w hv (J.congr (λ_=>.rfl) (λk=>by simp [kN]) (λt e=>by rw [f];exact e) (λk e=>e.elim)) ((gT.refl _ _).mono (λ_ e=>e) (λ_ e=>e) (λ_ e=>e) (λk e=>⟨e.1,by simp [kN]⟩))
 | o::r,pre,β,s,a,h,w,f,i,hv,J,I=>by
  simp only [List.length_cons,List.range'_succ,wpOps_cons];have hi:c[pre.length]? =some o:=by
   have:c.toList[pre.length]? =some o:=by rw [f];simp
   simpa using this
  have H:o∈c.toList:=by rw [f];simp
  have y:∀k,(cZ C.aQ o k\/k∉kN C.aQ (o::r))↔k∉kN C.aQ r:=by
   intro k;by_cases hp:∃d,cZ C.aQ o d
   ·obtain ⟨d,hp⟩:=hp;rw [Pu hp] at i ⊢;have i:=List.nodup_cons.1 i;constructor
    ·rintro (e | e)
     ·have:k=d:=by have F:=e.2;rw [hp.2] at F;cases F;rfl
      rw [this];exact i.1
     ·exact λB=>e (List.mem_cons_of_mem _ B)
    grind
   ·have Y:∀d,¬cZ C.aQ o d:=λd e=>hp ⟨d,e⟩;rw [Cr Y];grind
  have T:∀k,k∈kN C.aQ r->¬cZ C.aQ o k/\k∈kN C.aQ (o::r):=λk z=>
   ⟨λe=>(y k).1 (.inl e) z,Classical.byContradiction λe=>(y k).1 (.inr e) z⟩
  have W:(kN C.aQ r).Nodup:=by
   by_cases hp:∃d,cZ C.aQ o d
   ·obtain ⟨d,hp⟩:=hp;rw [Pu hp] at i;grind
   ·rwa [Cr λd e=>hp ⟨d,e⟩] at i
  refine IY (l:=cv c.toList) ok hi hv J (λ_ _=>trivial) (λj b p d E L R=>⟨trivial,?_⟩) (λd e=>⟨O d (xM H e),λB=> ?_,xM H e⟩) (λd hp=> ?_) _ Q λv u A m x z out=> ?_
  ·cases g with
   | false=>rw [aap (M rfl) H] at E;cases E
   | true=>refine ⟨rfl,?_⟩;have hj:=IJ (j:=pre.length) (G rfl).2 (by rw [f];simp) E;rw [nj,f,List.getElem?_append_left (by omega)] at L;exact xM (List.mem_of_getElem? L) R
  ·have U:=(G B.1).1;rw [f,zzt] at U;have F:d∈cv (o::r):=xM (List.mem_cons_self ..) e;grind
  ·have:d∈kN C.aQ (o::r):=by rw [Pu hp];simp
   grind
  ·have X:c.toList=(pre++ [o])++r:=by rw [f];simp
   have:=L3 ok g O M G r (pre++ [o]) A v m u x X W z
    (out.rr.congr (λt=>by simp) (λk=>(y k).symm) (λt e=>⟨e.1,by rw [zzt];grind⟩) T)
    (λs2 S a9 a2 w2 V Z a8=>I s2 S a9 a2 w2 V Z (out.wx.trans (a8.mono (λ_ e=>e) (λ_ e=>e) (λk e=>⟨e.1,(y k).2 e.2⟩) (λ_ e=>e))))
   simpa using this
end
theorem fu {b x:Bool} (h:cond b x false=true):b=true/\x=true:=by grind
theorem PA :∀(n:Nat) (l:List Nat),l.Nodup->(∀x∈l,x<n)->l.length<=n
 | 0,l,_,h=>by
  cases l with
  | nil=>simp
  | cons a l=>exact absurd (h a (List.mem_cons_self ..)) (Nat.not_lt_zero _)
 | n+1,l,b,h=>by
  by_cases f:n∈l
  ·have e:=PA n (l.erase n) (b.erase n) (λx d=>by
    have c:=(b.mem_erase_iff).1 d;have:=h x c.2;have:=c.1;omega)
   grind
  ·have:=PA n l b (λx d=>by
    grind)
   omega
theorem Al {n:Nat} {l:List Nat} (b:l.Nodup) (h:∀x∈l,x<n) (c:n<=l.length) {j:Nat} (a:j<n):j∈l:=by
 refine Classical.byContradiction λe=> ?_;have:=PA n (j::l) (List.nodup_cons.2 ⟨e,b⟩) (λx hx=>by
  rcases List.mem_cons.1 hx with rfl | hx
  ·exact a
  ·exact h x hx)
 grind
def vo (L:List Oper) (X:Nat->Prop):Prop:=∀i o,L[i]? =some o->X i->∀j∈waits o,X j
def lV (L:List Oper) (i j:Nat):Prop:=∀X:Nat->Prop,vo L X->(∀o,L[i]? =some o->∀k∈waits o,X k)->X j
theorem FM {l m:List Nat} (h:kB l m=true):∀x∈l,x∈m:=by
 induction l with
 | nil=>simp
 | cons a l c=>
  simp only [kB] at h;cases b:has m a with
  | false=>simp [b] at h
  | true=>
   simp only [b,cond_true] at h;intro x hx;rcases List.mem_cons.1 hx with rfl | hx
   ·exact (rT _ _).1 b
   ·exact c h x hx
theorem RL {o:Oper} {e:Edge} (a:e∈o.after) (hb:Region.binds .any e=true):e.on∈waits o:=by
 have key:∀l:List Edge,e∈l->e.on∈waits.go l:=by
  intro l
  induction l with
  | nil=>intro h;cases h
  | cons x l c=>
   intro h;simp only [waits.go];rcases List.mem_cons.1 h with rfl | h
   ·have:uD e=true:=by unfold Region.binds at hb;unfold uD;cases b:e.ground<;>simp [b] at hb ⊢
    simp [this]
   grind
 exact key _ (by simpa using a)
theorem Nl {k:Nat} {l:List Nat} {j:Nat} (h:j∈vA k l):j=k\/j∈l:=by unfold vA at h;grind
theorem Nn {j:Nat}:∀ {a b:List Nat},j∈BH a b->j∈a\/j∈b
 | [],_,h=>.inr h
 | k::r,b,h=>by
  rcases Nn (a:=r) (b:=vA k b) h with h | h
  ·grind
  ·rcases Nl h with rfl | h
   ·simp
   ·exact .inr h
theorem L4 {a:List (List Nat)}:∀ {l:List Nat} {j:Nat},j∈bF.union l a->j∈l\/∃k∈l,∃x,nth a k=some x/\j∈x
 | [],j,h=>by simp [bF.union] at h
 | k::l,j,h=>by
  simp only [bF.union] at h;rcases Nl h with rfl | h
  ·simp
  ·rcases Nn h with h | h
   ·grind
   ·rcases L4 h with h | ⟨d,b,c⟩
    ·exact .inl (List.mem_cons_of_mem _ h)
    grind
theorem L5 {L:List Oper}:∀(r pre:List Oper) (a:List (List Nat)),L=pre++r->a.length=pre.length->(∀i x,nth a i=some x->∀j∈x,lV L i j)->
  ∀i x,nth (bF r a) i=some x->∀j∈x,lV L i j
 | [],_,a,_,_,h=>h
 | o::r,pre,a,d,f,h=>by
  refine L5 r (pre++ [o]) _ (by simp [d]) (by simp [rN,f]) λi x b j c=> ?_;rw [nj,rN] at b;rcases Nat.lt_trichotomy i a.length with hi | hi | hi
  ·rw [List.getElem?_append_left hi,<-nj] at b;exact h i x b j c
  ·subst hi;simp at b;subst b;intro X e l;have g:L[a.length]? =some o:=by rw [d,f];simp
   rcases L4 c with c | ⟨k,n,y,s,m⟩
   ·exact l o g j c
   ·exact h k y s j m X e λu q t p=>e k u q (l o g k n) t p
  grind
theorem zC {L:List Oper} {i j:Nat} (h:j∈lU (bF L []) i):lV L i j:=by
 unfold lU at h;split at h
 ·rename_i x a;exact L5 L [] [] rfl rfl (λi x a=>by simp [nth] at a) i x a j h
 ·cases h
theorem EX :∀l:List (Nat×Operand),yl l=l.map (·.2)
 | []=>rfl
 | (_,x)::l=>by simp [yl,EX l]
theorem I1 :∀l:Option Operand,wa l=l.toArray.toList
 | none=>rfl
 | some x=>rfl
theorem Lg {op:Op} {l:List Operand} (h:Cn op=some l):∀x∈op.operands,x∈l:=by
 cases op with
 | call c=>
  obtain ⟨callee,args,g⟩:=c;cases callee with
  | value f=>cases h;intro x d;simpa [Op.operands,Call.operands] using d
  | builtin b=>cases h;intro x d;simpa [Op.operands,Call.operands] using d
  | invoke r m=>cases h
 | build t e=>cases h;intro x d;simpa [Op.operands,EX] using d
 | buildSlice t n e=>cases h;intro x d;simpa [Op.operands,EX] using d
 | makeFunc fn a b=>cases h;intro x d;simpa [Op.operands,rN] using d
 | makeMap t r=>cases h;intro x d;simpa [Op.operands,I1] using d
 | slice t x lo hi i=>cases h;intro x d;simpa [Op.operands,rN,I1,or_assoc] using d
 | alloc t=>cases h;intro x d;simp [Op.operands] at d
 | _=>first | (cases h;done) | (cases h;intro x d;simpa [Op.operands] using d)
theorem Lh {rows:List (List Nat)} {i t:Nat}:∀ {l:List Oper} {j0:Nat},uO rows i t l j0=true->∀j p,l[j]? =some p->p.dst=some t->
  j0+j∈lU rows i\/i=j0+j\/i∈lU rows (j0+j)
 | [],_,_,j,p,e,_=>by simp at e
 | q::l,j0,h,j,p,e,d=>by
  simp only [uO] at h;cases a:(cond (tw q t) (cond (has (lU rows i) j0) true (cond (Nat.beq i j0) true (has (lU rows j0) i))) true) with
  | false=>grind
  | true=>
   rw [a] at h;cases j with
   | zero=>
    simp at e;subst e;have:tw q t=true:=by simp [tw,d]
    rw [this] at a;simp only [cond_true] at a;cases b:has (lU rows i) j0 with
    | true=>exact .inl ((rT _ _).1 b)
    | false=>
     rw [b] at a;simp only [cond_false] at a;cases c:Nat.beq i j0 with
     | true=>exact .inr (.inl (Nat.eq_of_beq_eq_true c))
     | false=>rw [c] at a;exact .inr (.inr ((rT _ _).1 a))
   | succ j=>have:=Lh (l:=l) (j0:=j0+1) h j p (by simpa using e) d;grind
theorem Cs {L:List Oper} {rows:List (List Nat)} {i t:Nat}:∀ {l:List Operand},dy.go L rows i l=true->Operand.tmp t∈l->uO rows i t L 0=true
 | [],_,hm=>by cases hm
 | x::l,h,hm=>by
  cases x with
  | tmp u=>
   simp only [dy.go] at h;cases a:uO rows i u L 0 with
   | false=>simp [a] at h
   | true=>
    simp only [a,cond_true] at h;rcases List.mem_cons.1 hm with e | hm
    ·cases e;exact a
    ·exact Cs h hm
  | _=>
   simp only [dy.go] at h;rcases List.mem_cons.1 hm with e | hm
   ·cases e
   ·exact Cs h hm
theorem abE {L:List Oper} {rows:List (List Nat)} {i t:Nat} {o:Oper} (h:dy L rows i o=true) (e:Operand.tmp t∈o.op.operands) {j:Nat} {p:Oper} (c:L[j]? =some p) (b:p.dst=some t):
  j∈lU rows i\/i=j\/i∈lU rows j:=by
 unfold dy at h;split at h
 ·rename_i l d;cases a:dy.go L rows i l with
  | false=>simp [a] at h
  | true=>have:=Lh (Cs a (Lg d _ e)) j p c b;simpa using this
 ·cases h
theorem Ct {L:List Oper} {rows:List (List Nat)} {i j:Nat} {b:Bool} {o:Oper} (h:dy L rows i o=true) (c:o.guard=some (j,b)):j∈lU rows i:=by
 unfold dy at h;split at h
 ·rename_i l d;cases a:dy.go L rows i l with
  | false=>simp [a] at h
  | true=>simp only [a,cond_true,c] at h;exact (rT _ _).1 h
 ·cases h
theorem aaq {o:Oper} {t:Nat} (b:Operand.tmp t∈o.op.operands):looksAt o t=true:=by
 unfold looksAt;split
 ·rename_i l a;have hm':=Lg a _ b;clear a b
  induction l with
  | nil=>cases hm'
  | cons x l c=>
   rcases List.mem_cons.1 hm' with e | hm'
   ·subst e;simp [looksAt.go]
   ·have:=c hm';cases x<;>simp only [looksAt.go]
    ·rw [this];simp
    all_goals exact this
 ·rfl
theorem w8 {rows:List (List Nat)} {j d:Nat} {o:Oper} (b:o.dst=some d):∀ {l:List Oper} {i0:Nat},il rows j o l i0=false->∀i p,l[i]? =some p->Operand.tmp d∈p.op.operands->j∈lU rows (i0+i)
 | [],_,_,i,p,e,_=>by simp at e
 | q::l,i0,h,i,p,e,c=>by
  simp only [il,b] at h;cases a:(cond (looksAt q d) (cond (has (lU rows i0) j) false true) false) with
  | true=>grind
  | false=>
   rw [a] at h;cases i with
   | zero=>
    simp at e;subst e;rw [aaq c] at a;simp only [cond_true] at a;cases f:has (lU rows i0) j with
    | true=>exact (rT _ _).1 f
    | false=>grind
   | succ i=>have:=w8 b (l:=l) (i0:=i0+1) h i p (by simpa using e) c;grind
theorem MN {tb:Tb} {aQ:List Nat} {a:List Oper} {rows:List (List Nat)} {i:Nat} {d:List Nat} {r:List (Nat×List Nat)} {done:List Nat} {last:Option Nat}
  (h:eg tb aQ a rows ((i,d)::r) done last=true):∃o,a[i]? =some o/\(∀k∈waits o,k∈done)/\dy a rows i o=true/\i∉done/\(∀e,last=some e->e∈lU rows i)/\
   (((isVal tb o=true\/mH aQ o=true)/\il rows i o a 0=false/\eg tb aQ a rows r (i::done) last=true)\/
    ((isVal tb o=true\/mH aQ o=true)/\il rows i o a 0=true/\eg tb aQ a rows r (i::done) (some i)=true)\/
    (isVal tb o=false/\mH aQ o=false/\eg.watched tb a rows d i done=true/\eg tb aQ a rows r (i::done) (some i)=true)):=by
 simp only [eg] at h;split at h
 ·rename_i o c;rw [nj] at c;obtain ⟨g,h⟩:=fu h;obtain ⟨f,j⟩:=fu g;cases b:has done i with
  | true=>simp [b] at h
  | false=>
   simp only [b,cond_false] at h;obtain ⟨l,h⟩:=fu h;refine ⟨o,c,FM f,j,zE b,λe m=> ?_,?_⟩
   ·subst m;exact (rT _ _).1 l
   grind
 ·cases h
theorem Kf {tb:Tb} {g:List Oper} {rows:List (List Nat)} {b:List Nat} {e:Nat}:∀ {l:List Nat},eg.watched tb g rows b e l=true->∀i∈l,∀o,g[i]? =some o->isVal tb o=true->rM tb o=true->
  i∈b\/i∈lU rows e
 | [],_,i,hi,_,_,_,_=>by cases hi
 | r::l,h,i,hi,o,d,hv,f=>by
  simp only [eg.watched] at h;obtain ⟨a,h⟩:=fu h;rcases List.mem_cons.1 hi with rfl | hi
  ·rw [nj,d] at a;simp only [hv,f,cond_true] at a;cases c:has b i with
   | true=>exact .inl ((rT _ _).1 c)
   | false=>rw [c] at a;exact .inr ((rT _ _).1 a)
  ·exact Kf h i hi o d hv f
theorem Li {tb:Tb} {aQ:List Nat} {L:List Oper}:∀ {r:List (Nat×List Nat)} {done:List Nat} {e:Nat},eg tb aQ L (bF L []) r done (some e)=true->
  ∀j∈r.map (·.1),lV L j e
 | [],_,_,_,j,hj=>by cases hj
 | (i,ws)::r,done,e,h,j,hj=>by
  obtain ⟨o,u,_,_,_,n,t⟩:=MN h;have d:=zC (n e rfl);rcases List.mem_cons.1 hj with rfl | hj
  ·exact d
  ·have step:∀a,(a=e\/a=i)->eg tb aQ L (bF L []) r (i::done) (some a)=true->lV L j e:=by
    intro a l f;have c:=Li f j hj;rcases l with rfl | rfl
    ·exact c
    ·intro X b q;have g:X a:=c X b q;exact d X b λs p k m=>b a s p g k m
   grind
def xS (tb:Tb) (o:Oper) (ch:aY) (s:St) (l:LV):Prop:=
 cX tb o ch s=.mem->∀t x,o.op=.load t x->∃(e:Ty) (y:e.sh.T),tb.ty t=some e/\l=.v (e.sh.enc y)
theorem RN {P:Program} {tb:Tb} (ok:tb.Ok P) {o:Oper} {ch:aY} {s:St} {h:Hp} {K:LV->Prop} (hv:wG P tb o ch s h K):
  ∃l,K l/\(holds s ch->pN (cX tb o ch s) P o s h l)/\mK o ch s l/\xS tb o ch s l:=by
 by_cases k:∃t x a,o.op=.load t x/\ev s ch x=some (.v (.pointer (some a)))
 ·obtain ⟨t,x,a,b,g⟩:=k;unfold wG at hv;simp only [b,g] at hv;split at hv
  ·rename_i e r;obtain ⟨y,f,c⟩:=hv;refine ⟨.v (e.sh.enc y),c,λi=> ?_,xk _ _ _ _,λ_ A B z=> ?_⟩
   ·intro C D w p m hb;have d:cX tb o ch s=.mem:=by simp [cX,b,g]
    have u:=bJ (p x (by simp [b,Op.operands])) i g;have q:=Py ok r (λj v n=>vb (m d) (ov f i j v n));refine ⟨w,?_,λ_=>rfl,λe=>.refl (m e)⟩;simp only [execOp,b,u,LVal,Instr.loadAt,Instr.sureAddr,Sem.run_bind,Sem.run_pure,Result.andThen_ok,q]
   grind
  ·exact hv.elim
 ·obtain ⟨l,c,f,hp⟩:=Lb ok hv;refine ⟨l,c,f,hp,λd t x b=> ?_⟩;refine absurd ?_ k;unfold wG at hv;simp only [b] at hv;simp only [cX,b] at d;grind
def ny (C:Ctx) (L:List Oper) (o:Oper) (s:St) (h:Hp):Prop:=
 ∃ch,qa L L.length o=some ch/\ua s ch=true/\
  ((isVal C.tb o=true/\(rM C.tb o=true\/cX C.tb o ch s=.pure)/\∃l,(∀d,o.dst=some d->s.f d=some (l,ch))/\(holds s ch->pN (cX C.tb o ch s) C.P o s h l)/\mK o ch s l/\xS C.tb o ch s l)\/
   (ch=[]/\isVal C.tb o=false/\∃d a,cZ C.aQ o d/\s.f d=some (.box d 0,[])/\s.m d=some a/\
      ∀(c:Nat->Nat) (b:Operand->Value) (w:World),(∀x∈o.op.operands,eZ c s b x)->
       ∃t,(execOp b o).run C.P w=.ok (.value (.pointer (some ⟨w.heap.size,0,none⟩))) {w with heap:=w.heap.push (.cells a.toArray t (0,0))}))
section
variable {C:Ctx} {L:List Oper} {o:Oper} {s s':St} {h h':Hp} {D:Nat->Prop}
structure jJ (D:Nat->Prop) (o:Oper) (s s':St):Prop where
 dn:∀t,D t->s'.f t=s.f t
 op:∀t,Operand.tmp t∈o.op.operands->s'.f t=s.f t
 ch:∀t l c,s.f t=some (l,c)->∀p∈c,D p.1
theorem jJ.mM (k:jJ D o s s') {c:aY} (a:∀p∈c,D p.1):holds s' c↔holds s c:=Cq λp hp=>k.dn _ (a p hp)
theorem jJ.Gy (k:jJ D o s s') {b:Nat->Nat} {d:Operand->Value} {x:Operand} (j:x∈o.op.operands) (a:eZ b s' d x):eZ b s d x:=by
 cases x with
 | tmp t=>exact λl c e i=>a l c (by rw [k.op t j];exact e) ((k.mM (k.ch t l c e)).2 i)
 | const v=>exact a
 | global g=>exact a
 | func f=>exact a
theorem jJ.Fv (k:jJ D o s s') {ch:aY} {x:Operand} (a:x∈o.op.operands):ev s' ch x=ev s ch x:=by
 cases x with
 | tmp t=>simp only [ev,k.op t a]
 | const v=>rfl
 | global g=>rfl
 | func f=>rfl
theorem Lj {s s':St} {ch:aY}:∀ {l:List Operand},(∀x∈l,ev s' ch x=ev s ch x)->eh s' ch l=eh s ch l
 | [],_=>rfl
 | x::l,h=>by simp only [eh];rw [h x (List.mem_cons_self ..),Lj λy a=>h y (List.mem_cons_of_mem _ a)]
theorem jJ.kind (k:jJ D o s s') {tb:Tb} {ch:aY}:cX tb o ch s'=cX tb o ch s:=by
 unfold cX;cases d:o.op with
 | load t x=>simp only [k.Fv (ch:=ch) (x:=x) (by simp [d,Op.operands])]
 | binOp op t x y u=>simp only [k.Fv (ch:=ch) (x:=x) (by simp [d,Op.operands]),k.Fv (ch:=ch) (x:=y) (by simp [d,Op.operands])]
 | convert a b x=>simp only [k.Fv (ch:=ch) (x:=x) (by simp [d,Op.operands])]
 | call c=>
  obtain ⟨callee,e,g⟩:=c;cases callee with
  | builtin b=>
   cases b with
   | len=>have:eh s' ch e.toList=eh s ch e.toList:=Lj λx f=>k.Fv (by simp [d,Op.operands,Call.operands];simpa using f);simp only [this]
   | _=>rfl
  | _=>rfl
 | _=>rfl
theorem jJ.BP (k:jJ D o s s') {ch:aY} {l:LV} (hp:mK o ch s l):mK o ch s' l:=λb off e=>by obtain ⟨x,a,c,h⟩:=hp b off e;exact ⟨x,a,c,by rw [k.Fv a];exact h⟩
theorem Pv (k:jJ D o s s'):∀ {ch:aY},(∀p∈ch,D p.1)->ua s' ch=ua s ch
 | [],_=>rfl
 | (d,b)::c,a=>by simp only [ua,k.dn d (a (d,b) (List.mem_cons_self ..)),Pv k λp hp=>a p (List.mem_cons_of_mem _ hp)]
theorem RO (k:jJ D o s s') {e:Nat->Nat} {w:World} (j:∀t,Operand.tmp t∈o.op.operands->∀b off c,(s.f t=some (.box b off,c)\/s.f t=some (.dS b off,c))->holds s c->s'.m b=s.m b)
  (hb:qb e s' o w):qb e s o w:=by
 intro t d b off c hf a g i;refine hb t d b off c (by rw [k.op t d];exact hf) ?_ g (by grind);rcases hf with hf | hf
 ·exact (k.mM (k.ch t _ c hf)).2 a
 ·exact (k.mM (k.ch t _ c hf)).2 a
theorem M1 (k:jJ D o s s') {a:Kd} {P:Program} {l:LV} (i:a≠ .pure->∀t,Operand.tmp t∈o.op.operands->∀b off c,(s.f t=some (.box b off,c)\/s.f t=some (.dS b off,c))->holds s c->s'.m b=s.m b)
  (g:a=.mem->h'=h) (n:pN a P o s h l):pN a P o s' h' l:=by
 intro q r w j p hb;obtain ⟨z,u,v,y⟩:=n q r w (λx d=>k.Gy d (j x d)) (λe=>by rw [<-g e];exact p e) (λe=>RO k (i e) (hb e));grind
theorem CU (k:jJ D o s s') {P:Program} {c:List Value}
  (f : ∀ (b : Nat -> Nat) (a : Operand -> Value) (w : World), (∀ x ∈ o.op.operands, eZ b s a x) ->
        ∃t,(execOp a o).run P w=.ok (.value (.pointer (some ⟨w.heap.size,0,none⟩))) {w with heap:=w.heap.push (.cells c.toArray t (0,0))}):
  ∀ (b : Nat -> Nat) (a : Operand -> Value) (w : World), (∀ x ∈ o.op.operands, eZ b s' a x) ->
        ∃t,(execOp a o).run P w=.ok (.value (.pointer (some ⟨w.heap.size,0,none⟩))) {w with heap:=w.heap.push (.cells c.toArray t (0,0))}:=
 λb a w e=>f b a w λx d=>k.Gy d (e x d)
theorem zQ {s:St} {ch:aY} {t:Nat} {l a:LV} {c:aY} (h:ev s ch (.tmp t)=some l) (b:s.f t=some (a,c)):l=a:=by simp only [ev,b] at h;grind
theorem aar {tb:Tb} (Y:C.tb=tb) (ok:tb.Ok C.P) {J:Nat->Bool} {ch:aY} {l:LV} {d:Nat} (g:pF C J o ch s' h') (K:o.dst=some d) (F:∃c,s'.f d=some (l,c)) (A:holds s' ch)
  (z:xS tb o ch s' l):cX tb o ch s'=.pure\/(cX tb o ch s'=.box/\∀t b off c,Operand.tmp t∈o.op.operands->(s'.f t=some (.box b off,c)\/s'.f t=some (.dS b off,c))->J b=false)\/(cX tb o ch s'=.mem/\pN .mem C.P o s' h' l):=by
 subst Y;obtain ⟨c,F⟩:=F;unfold pF at g;split at g
 ·rename_i t x S p r;rw [K] at r;cases r;rw [F] at g;split at g
  ·rename_i v Q e;cases e;split at g
   ·rename_i a q;right;right;have hkd:cX C.tb o ch s'=.mem:=by simp [cX,p,q]
    obtain ⟨e,y,b2,n⟩:=z hkd t x p;cases n;refine ⟨hkd,λβ ρ w B z hb=> ?_⟩;have b4:=bJ (B x (by simp [p,Op.operands])) A q;have H:=Py ok b2 (λj v hj=>vb (z rfl) (ov g A j v hj));refine ⟨w,?_,λe=>absurd rfl e,λ_=>.refl (z rfl)⟩;simp only [execOp,p,b4,LVal,Instr.loadAt,Instr.sureAddr,Sem.run_bind,Sem.run_pure,Result.andThen_ok,H]
   ·rename_i k off q;cases G:J k with
    | true=>rw [G] at g;exact g.elim
    | false=>
     refine .inr (.inl ⟨by simp [cX,p,q],λt1 b b6 X N hf1=> ?_⟩);have O:x=.tmp t1:=by simpa [p,Op.operands,eq_comm] using N
     rw [O] at q;rcases hf1 with hf1 | hf1
     ·have:=zQ q hf1;cases this;exact G
     ·have:=zQ q hf1;cases this
   ·rename_i k off q;cases G:J k with
    | true=>rw [G] at g;exact g.elim
    | false=>
     refine .inr (.inl ⟨by simp [cX,p,q],λt1 b b6 X N hf1=> ?_⟩);have O:x=.tmp t1:=by simpa [p,Op.operands,eq_comm] using N
     rw [O] at q;rcases hf1 with hf1 | hf1
     ·have:=zQ q hf1;cases this
     ·have:=zQ q hf1;cases this;exact G
   ·exact g.elim
  ·exact g.elim
 ·rename_i t x i R S p r;rw [K] at r;cases r;rw [F] at g;split at g
  ·rename_i v Q e;cases e;obtain ⟨a,b0,Z⟩:=kj g;obtain ⟨b,b1,a8⟩:=kj Z;have n:=ov a8 A;right;right;have b5:∀w,Sub h' w->∃E,(Instr.lookup t a b R).run C.P w=.ok v E/\Step h' h' w E:=by
    intro w I;unfold LQ at n;split at n
    ·rename_i m e T;split at n
     ·rename_i k u V;split at n
      ·rename_i ke ue U W;cases hkd:sb ke.cm with
       | true=>
        simp only [hkd,cond_true] at n;cases R with
        | true=>
         simp only [cond_true] at n;split at n
         ·rename_i x1 y1;exact ⟨w,by rw [yz ok T V U W hkd I n];rfl,.refl I⟩
         ·exact n.elim
        | false=>simp only [cond_false] at n;obtain ⟨y1,n⟩:=n;exact ⟨w,by rw [yz ok T V U W hkd I n];rfl,.refl I⟩
       | false=>simp only [hkd,cond_false] at n;exact Dv n I
      ·exact n.elim
     ·exact n.elim
    ·exact n.elim
   refine ⟨by simp [cX,p],λβ ρ w B z hb=> ?_⟩;have q:=bJ (B x (by simp [p,Op.operands])) A b0;have hi:=bJ (B i (by simp [p,Op.operands])) A b1;obtain ⟨E,H,M⟩:=b5 w (z rfl);refine ⟨E,?_,λe=>absurd rfl e,λ_=>M⟩;simp only [execOp,p,q,hi,LVal,Sem.run_bind,H,Result.andThen_ok,Sem.run_pure]
  ·exact g.elim
 ·rename_i xs ts S p r;rw [K] at r;cases r;rw [F] at g;split at g
  ·rename_i v Q e;cases e;split at g
   ·rename_i x b3;have hkd:cX C.tb o ch s'=.pure\/cX C.tb o ch s'=.mem:=by unfold cX;grind
    rcases hkd with hkd | hkd
    ·exact .inl hkd
    right;right;refine ⟨hkd,λβ ρ w B z hb=> ?_⟩;have a9:xs.map ρ= #[x]:=by have:=Am (β:=β) (ρ:=ρ) A b3 λx q=>B x (by simp [p,Op.operands,Call.operands];simpa using q);grind
    obtain ⟨E,H,M⟩:=Dv (ov g A) (z rfl);refine ⟨E,?_,λe=>absurd rfl e,λ_=>M⟩;simp only [execOp,p,resolve,invoke,builtin,Sem.run_bind,Sem.run_pure,Result.andThen_ok,a9,H,LVal]
   ·exact g.elim
  ·exact g.elim
 ·exact g.elim
end
theorem RP (e:Edge):uD e=Region.binds .any e:=by unfold Region.binds uD;grind
theorem RQ {o:Oper} {k:Nat} (h:k∈waits o):∃e∈o.after,e.on=k/\Region.binds .any e=true:=by
 have key:∀l:List Edge,k∈waits.go l->∃e∈l,e.on=k/\Region.binds .any e=true:=by
  intro l
  induction l with
  | nil=>intro h;cases h
  | cons x l d=>
   intro h;simp only [waits.go] at h;cases c:uD x with
   | false=>simp only [c,cond_false] at h;obtain ⟨e,a,b⟩:=d h;exact ⟨e,List.mem_cons_of_mem _ a,b⟩
   | true=>
    simp only [c,cond_true] at h;rcases List.mem_cons.1 h with e | h
    ·exact ⟨x,List.mem_cons_self ..,e.symm,by rw [<-RP,c]⟩
    ·obtain ⟨e,a,b⟩:=d h;exact ⟨e,List.mem_cons_of_mem _ a,b⟩
 obtain ⟨e,a,b⟩:=key _ h;grind
theorem ub {t:Nat}:∀ {L:List Oper} {i j:Nat} {o p:Oper},(cv L).Nodup->L[i]? =some o->L[j]? =some p->o.dst=some t->p.dst=some t->i=j
 | [],_,_,_,_,_,e,_,_,_=>by simp at e
 | x::L,0,0,_,_,_,_,_,_,_=>rfl
 | x::L,0,j+1,o,p,b,e,a,h,c=>by simp at e a;subst e;simp only [cv,h] at b;exact absurd (xM (List.mem_of_getElem? a) c) (List.nodup_cons.1 b).1
 | x::L,i+1,0,o,p,b,e,a,h,c=>by simp at e a;subst a;simp only [cv,c] at b;exact absurd (xM (List.mem_of_getElem? e) h) (List.nodup_cons.1 b).1
 | x::L,i+1,j+1,o,p,b,e,a,h,c=>by
  have g:(cv L).Nodup:=by simp only [cv] at b;grind
  have d:L[i]? =some o:=by simpa using e
  have f:L[j]? =some p:=by simpa using a
  have:=ub g d f h c;omega
def vy (L:List Oper):List Nat->Prop
 | []=>True
 | i::d=>(∀o,L[i]? =some o->∀k∈waits o,k∈d)/\vy L d
theorem yB {L:List Oper} {a:List Nat}:∀ {d:List Nat},vy L d->(∃i∈d,i∉a)->∃i∈d,i∉a/\∀o,L[i]? =some o->∀k∈waits o,k∈a
 | [],_,⟨i,hi,_⟩=>by cases hi
 | i::d,c,m=>by
  by_cases b:∃j∈d,j∉a
  ·obtain ⟨j,n,p⟩:=yB c.2 b;grind
  ·have f:∀j∈d,j∈a:=λj hj=>Classical.byContradiction λe=>b ⟨j,hj,e⟩;obtain ⟨j,hj,h⟩:=m;rcases List.mem_cons.1 hj with rfl | hj
   ·exact ⟨j,List.mem_cons_self ..,h,λo l k g=>f k (c.1 o l k g)⟩
   grind
def lG (L:List Oper) (done ls:List Nat) (t:Nat):Prop:=∀i o,i∈done->i∉ls->L[i]? =some o->o.dst≠some t
def rV (L:List Oper) (done:List Nat) (t:Nat):Prop:=∃i o,i∈done/\L[i]? =some o/\o.dst=some t
def qD (C:Ctx) (L:List Oper) (done:List Nat) (k:Nat):Prop:=∃i o,i∉done/\L[i]? =some o/\cZ C.aQ o k
def iu (C:Ctx) (L:List Oper) (done ls:List Nat) (k:Nat):Prop:=(∀i o,i∈done->i∉ls->L[i]? =some o->¬cZ C.aQ o k)/\¬qD C L done k
structure nz (C:Ctx) (L:List Oper) (mok:List Nat) (n:Nat) (lv0:Nat->Prop) (β0:Nat->Nat) (a0:Act) (h0:Hp) (w0:World) (done ls:List Nat) (listed:Array Bool) (β:Nat->Nat) (s:St) (a:Act) (h:Hp) (w:World):Prop where
 AS:listed.size=L.length
 AR:∀i,listed.getD i false=true↔i∈ls
 BF:ls.Nodup
 jy:∀i∈ls,i∈done
 rX:∀i∈done,i<L.length
 qS:vo L (· ∈ls)
 kW:vo L (· ∈done)
 sL:vy L done
 rr:RR n (lG L done ls) (iu C L done ls) (rV L done) (qD C L done) β s a h w
 facts:∀i o,i∈done->i∉ls->L[i]? =some o->ny C L o s h/\dy L (bF L []) i o=true/\il (bF L []) i o L 0=false/\∀d,cZ C.aQ o d->d∈mok
 wx:gT (cv L) mok lv0 β0 a0 h0 w0 (live s (iu C L done ls)) β a h w
section
variable {C:Ctx} {L:List Oper} {mok:List Nat} {n:Nat} {lv0:Nat->Prop} {β0:Nat->Nat} {a0:Act} {h0:Hp} {w0:World} {done c:List Nat} {f:Array Bool} {β:Nat->Nat} {s:St} {a:Act} {h:Hp} {w:World}
theorem zd {i:Nat} {o p:Oper} (h:L[i]? =some o) (b:L[i]? =some p):p=o:=by grind
theorem DB (l:(cv L).Nodup) {i:Nat} {o:Oper} (hi:L[i]? =some o) (m:i∈done) (t:Nat):lG L done (i::c) t↔(o.dst=some t\/lG L done c t):=by
 constructor
 ·intro hc;by_cases k:o.dst=some t
  ·exact .inl k
  ·refine .inr λj p d g b=> ?_;by_cases q:j=i
   ·grind
   ·exact hc j p d (λe=>by grind) b
 ·rintro (k | hc) j p d g b
  ·intro e;exact g (by rw [ub l b hi e k];simp)
  ·exact hc j p d (λe=>g (List.mem_cons_of_mem _ e)) b
theorem DC (q:(cv L).Nodup) {i:Nat} {o:Oper} (hi:L[i]? =some o) (t:i∈done) (k:Nat):iu C L done (i::c) k↔(cZ C.aQ o k\/iu C L done c k):=by
 constructor
 ·rintro ⟨m,l⟩;by_cases hp:cZ C.aQ o k
  ·exact .inl hp
  ·refine .inr ⟨λj p g b d=> ?_,l⟩;grind
 ·rintro (hp | ⟨m,l⟩)
  ·refine ⟨λj p g b d r=>b (by rw [ub q d hi r.2 hp.2];simp),?_⟩;rintro ⟨j,p,g,b,d⟩;exact g (by rw [ub q b hi d.2 hp.2];exact t)
  ·exact ⟨λj p g b d=>m j p g (λe=>b (List.mem_cons_of_mem _ e)) d,l⟩
theorem Lk {i j:Nat} (e:f.size=L.length) (hi:i<L.length) (d:∀i,f.getD i false=true↔i∈c):(f.setIfInBounds i true).getD j false=true↔j∈i::c:=by
 by_cases b:j=i
 ·subst b;simp [e,hi]
 ·have:=d j;simp [Array.getElem?_setIfInBounds_ne (Ne.symm b),b] at this ⊢;exact this
theorem EY (e:nz C L mok n lv0 β0 a0 h0 w0 done c f β s a h w) {i:Nat} {o:Oper} (hi:L[i]? =some o) (v:∀k∈waits o,k∈done) (t:dy L (bF L []) i o=true) {ch:aY}
  (q:qa L L.length o=some ch) (r:ua s ch=true):∀p∈ch,rV L done p.1:=
 IU e.rr q r λj b p d g l m=>⟨j,p,zC (Ct t g) (· ∈done) e.kW (λx u=>by grind),by rw [<-nj];exact l,m⟩
theorem DD (ok:C.tb.Ok C.P) {ops:Array Oper} (b9:ops.toList=L) (z:(cv L).Nodup)
  (g:nz C L mok n lv0 β0 a0 h0 w0 done c f β s a h w) {i:Nat} {o:Oper} (hi:L[i]? =some o) (q:i∈done) (F:i∉c) (hw:∀k∈waits o,k∈c)
  (next:Act->World->Prop) (Q:Exit->Act->World->Prop)
  (hk:∀B r m,nz C L mok n lv0 β0 a0 h0 w0 done (i::c) (f.setIfInBounds i true) B s r h m->next r m):wpOp C.P ops Q i next a w:=by
 obtain ⟨⟨ch,b2,hg,c0⟩,b6,c7,b7⟩:=g.facts i o q F hi;have b1:∀j∈lU (bF L []) i,j∈c:=λj hj=>zC hj (· ∈c) g.qS (λo' c6=>by grind);have J:∀t,Operand.tmp t∈o.op.operands->lG L done c t:=λt ht j p A y D I=>by have:=w8 I (g.facts j p A y D).2.2.1 i o hi ht;grind
 have c4:∀j b p d,o.guard=some (j,b)->nth L j=some p->p.dst=some d->lG L done c d:=λj b p d e1 S e3 j' p' A y D I=>by rw [nj] at S;have:=ub z D S I e3;subst this;exact y (b1 _ (Ct b6 e1))
 have Z:∀x∈o.op.operands,eZ β s a.eval x:=λx hx=>EW g.rr λt e=>J t (e▸hx);have R:=Le (ops:=ops) g.rr (by rw [b9];exact b2) hg (by grind);have b8:ops[i]? =some o:=by grind
 have b4:i<L.length:=g.rX i q;have X:∀d,o.dst=some d->¬lG L done c d:=λd e hc=>hc i o q F hi e;have T:∀B r m,RR n (lG L done (i::c)) (iu C L done (i::c)) (rV L done) (qD C L done) B s r h m->gT (cv L) mok (live s (iu C L done c)) β a h w (live s (iu C L done (i::c))) B r h m->next r m:=by
  intro B r m G c2;refine hk B r m ⟨by simpa using g.AS,λj=>Lk g.AS b4 g.AR,List.nodup_cons.2 ⟨F,g.BF⟩,λj hj=> ?_,g.rX,?_,g.kW,g.sL,G,λj p A y D=>g.facts j p A (λe=>y (List.mem_cons_of_mem _ e)) D,g.wx.trans c2⟩
  ·rcases List.mem_cons.1 hj with rfl | hj
   ·exact q
   ·exact g.jy j hj
  ·intro j p hj hjm k b5;rcases List.mem_cons.1 hjm with rfl | hjm
   ·grind
   ·exact List.mem_cons_of_mem _ (g.qS j p hj hjm k b5)
 have U:∀d,o.dst=some d->d∈cv L:=λd e=>xM (List.mem_of_getElem? hi) e;unfold wpOp;simp only [b8];rcases c0 with ⟨a8,_,l,hl,N,c1,_⟩ | ⟨rfl,a8,d,cs,hp,b3,W,N⟩
 ·have c5:∀k,¬cZ C.aQ o k:=Ee (Pr a8);have M:∀k,iu C L done (i::c) k↔iu C L done c k:=λk=>by rw [DC z hi q k];grind
  have b0:∀(v:Value) (m:World),Step h h w m->(holds s ch->v=LVal β l)->(¬holds s ch->v=undef)->next (a.put o.dst v) m:=by
   intro v m H A y;refine T β _ m ?_ (((gT.step H).trans (gT.put (lv:=live s (iu C L done c)) U)).mono (λ_ e=>e) (λ_ e=>e) (λ_ e=>e) (λk e=>⟨e.1,(M k).1 e.2⟩));have G:=g.rr.step H;cases E:o.dst with
   | none=>exact G.congr (λt=>by rw [DB z hi q t];simp [E]) M (λ_ e=>e) (λ_ e=>e)
   | some d=>have:=G.exec (v:=v) (hl d E) (X d E) (λu=>⟨A u,λk off e=>(IW g.rr c1 u J k off e).1⟩) y;refine this.congr (λt=> ?_) M (λ_ e=>e) (λ_ e=>e);rw [DB z hi q t,E];grind
  by_cases u:holds s ch
  ·rw [if_pos (R.2 u)];left;obtain ⟨m,O,a9,H⟩:=N u β a.eval w Z (λ_=>g.rr.sub) (λ_=>IS g.rr J);unfold Oper.wp;rw [O];have c3:Step h h w m:=by
    cases K:cX C.tb o ch s with
    | mem=>exact H K
    | pure=>rw [a9 (by rw [K];simp)];exact .refl g.rr.sub
    | box=>rw [a9 (by rw [K];simp)];exact .refl g.rr.sub
   exact b0 _ m c3 (λ_=>rfl) (λe=>absurd u e)
  ·rw [if_neg (λe=>u (R.1 e))];exact b0 _ w (.refl g.rr.sub) (λe=>absurd e u) (λ_=>rfl)
 ·rw [if_pos (R.2 (bL s))];left;obtain ⟨t,O⟩:=N β a.eval w Z;unfold Oper.wp;rw [O];show next (a.put o.dst _) _
  have Y:¬iu C L done c d:=λe=>e.1 i o q F hi hp;rw [hp.2];have V:∀k,cZ C.aQ o k↔k=d:=λk=>⟨λe=>by have:=e.2;rw [hp.2] at this;cases this;rfl,λe=>e▸hp⟩;refine T _ _ _ ((g.rr.AJ t b3 W (X d hp.2) Y).congr (λt=> ?_) (λk=> ?_) (λ_ e=>e) (λ_ e=>e)) ((GG (a:=a) (β:=β) t g.rr.sub W Y (U d hp.2) (b7 d hp)).mono (λ_ e=>e) (λ_ e=>e) (λ_ e=>e) (λk e=>⟨e.1,?_⟩))
  ·rw [DB z hi q t,hp.2];grind
  ·rw [DC z hi q k,V]
  ·have:=e.2;rw [DC z hi q k,V] at this;exact this
end
section
variable {C:Ctx} {L:List Oper} {mok:List Nat} {n:Nat} {lv0:Nat->Prop} {β0:Nat->Nat} {a0:Act} {h0:Hp} {w0:World} {done g:List Nat} {r:Array Bool} {β:Nat->Nat} {s:St} {a:Act} {h:Hp} {w:World}
theorem abF {D:Nat->Prop} {o:Oper} {s':St} (k:jJ D o s s') (i:∀ch,qa L L.length o=some ch->ua s ch=true->∀p∈ch,D p.1) (v:∀d,o.dst=some d->D d)
  (G:∀t,Operand.tmp t∈o.op.operands->∀b off c,(s.f t=some (.box b off,c)\/s.f t=some (.dS b off,c))->holds s c->s'.m b=s.m b) (M:∀d,cZ C.aQ o d->s'.m d=s.m d)
  (hp:ny C L o s h):ny C L o s' h:=by
 obtain ⟨ch,u,x,H⟩:=hp;have i:=i ch u x;refine ⟨ch,u,by rw [Pv k i];exact x,?_⟩;rcases H with ⟨q,J,l,F,j,I,K⟩ | ⟨rfl,q,d,z,y,A,N,j⟩
 ·refine .inl ⟨q,by rw [k.kind];exact J,l,λd e=>by rw [k.dn d (v d e)];exact F d e,λB=> ?_,k.BP I,λE=>K (by rw [<-k.kind (s':=s')];exact E)⟩;rw [k.kind];exact M1 k (λ_=>G) (λ_=>rfl) (j ((k.mM i).1 B))
 ·exact .inr ⟨rfl,q,d,z,y,by rw [k.dn d (v d y.2)];exact A,by grind,CU k j⟩
theorem Np (v:(cv L).Nodup) (z:nz C L mok n lv0 β0 a0 h0 w0 done g r β s a h w) {i:Nat} {o:Oper} (hi:L[i]? =some o) (E:i∉done) {k:St} (d:∀t,o.dst≠some t->k.f t=s.f t)
  {j:Nat} {p:Oper} (B:L[j]? =some p) (D:j∈done) (x:∀t,Operand.tmp t∈p.op.operands->o.dst=some t->False):jJ (rV L done) p s k:=by
 refine ⟨λt b=>d t λe=> ?_,λt b=>d t λe=>x t b e,λt l c e q y=>z.rr.chain t l c e q y⟩;obtain ⟨F,G,A,m,u⟩:=b;have:=ub v m hi u e;grind
theorem AI (b:nz C L mok n lv0 β0 a0 h0 w0 done g r β s a h w) {j:Nat} {p:Oper} (f:L[j]? =some p) (c:j∈done) {i:Nat} (h:i∈lU (bF L []) j):i∈done:=
 zC h (· ∈done) b.kW λe d=>b.kW j e d c
theorem Ll (B:(cv L).Nodup) (q:nz C L mok n lv0 β0 a0 h0 w0 done g r β s a h w) {i:Nat} {o:Oper} (hi:L[i]? =some o) (hid:i∉done) (M:il (bF L []) i o L 0=false)
  {v:St} (H:∀t,o.dst≠some t->v.f t=s.f t) (A:∀k,v.m k=s.m k\/cZ C.aQ o k) {j:Nat} {p:Oper} (u:j∈done) (J:j∉g) (l:L[j]? =some p):
  ny C L p v h/\dy L (bF L []) j p=true/\il (bF L []) j p L 0=false/\∀d,cZ C.aQ p d->d∈mok:=by
 obtain ⟨E,x,F⟩:=q.facts j p u J l;refine ⟨?_,x,F⟩;have k:jJ (rV L done) p s v:=Np B q hi hid H l u λt D e=>by have:=w8 e M j p l D;rw [Nat.zero_add] at this;exact hid (AI q l u this)
 refine abF k (λch G I=>EY q l (q.kW j p l u) x G I) (λd e=>⟨j,p,u,l,e⟩) (λt D b off c hfb z=> ?_) (λd hp=> ?_) E
 ·refine (A b).resolve_right λhp=> ?_;have y:qD C L done b:=⟨i,o,hid,hi,hp⟩;rcases hfb with hfb | hfb
  ·exact (q.rr.kh b y t _ c hfb z off).1 rfl
  ·exact (q.rr.kh b y t _ c hfb z off).2 rfl
 ·refine (A d).resolve_right λK=> ?_;have:=ub B hi l K.2 hp.2;grind
theorem L6 (b:nz C L mok n lv0 β0 a0 h0 w0 done g r β s a h w) {i:Nat} {o:Oper} (hi:L[i]? =some o) (hid:i∉done) (t:∀k∈waits o,k∈done) {c:St}
  (l:RR n (lG L (i::done) g) (iu C L (i::done) g) (rV L (i::done)) (qD C L (i::done)) β c a h w)
  (e:∀j p,j∈i::done->j∉g->L[j]? =some p->ny C L p c h/\dy L (bF L []) j p=true/\il (bF L []) j p L 0=false/\∀d,cZ C.aQ p d->d∈mok)
  (m:gT (cv L) mok lv0 β0 a0 h0 w0 (live c (iu C L (i::done) g)) β a h w):nz C L mok n lv0 β0 a0 h0 w0 (i::done) g r β c a h w:=by
 refine ⟨b.AS,b.AR,b.BF,λj hj=>List.mem_cons_of_mem _ (b.jy j hj),λj hj=> ?_,b.qS,?_,⟨λu q=>by grind,b.sL⟩,l,e,m⟩
 ·rcases List.mem_cons.1 hj with rfl | hj
  ·grind
  ·exact b.rX j hj
 ·intro j p hj hjm k f;rcases List.mem_cons.1 hjm with rfl | hjm
  ·grind
  ·exact List.mem_cons_of_mem _ (b.kW j p hj hjm k f)
theorem DE (m:nz C L mok n lv0 β0 a0 h0 w0 done g r β s a h w) {i:Nat} {o:Oper} (hi:L[i]? =some o) (hid:i∉done) (t:Nat):lG L (i::done) g t↔(o.dst≠some t/\lG L done g t):=by
 constructor
 ·exact λd=>⟨d i o (List.mem_cons_self ..) (λe=>hid (m.jy i e)) hi,λj p c b l=>d j p (List.mem_cons_of_mem _ c) b l⟩
 ·rintro ⟨c,b⟩ j p e1 f k;rcases List.mem_cons.1 e1 with rfl | e1
  ·grind
  ·exact b j p e1 f k
theorem Bf (f:(cv L).Nodup) {i:Nat} {o:Oper} (hi:L[i]? =some o) (hid:i∉done) (k:Nat):qD C L (i::done) k↔(¬cZ C.aQ o k/\qD C L done k):=by
 constructor
 ·rintro ⟨j,p,d,b,c⟩;refine ⟨λe=> ?_,j,p,λe=>d (List.mem_cons_of_mem _ e),b,c⟩;exact d (by rw [ub f b hi c.2 e.2];simp)
 ·rintro ⟨h0,j,p,d,b,c⟩;refine ⟨j,p,λe=> ?_,b,c⟩;grind
theorem yT (m:(cv L).Nodup) (q:nz C L mok n lv0 β0 a0 h0 w0 done g r β s a h w) {i:Nat} {o:Oper} (hi:L[i]? =some o) (hid:i∉done) (k:Nat):
  iu C L (i::done) g k↔(¬cZ C.aQ o k/\iu C L done g k):=by
 constructor
 ·rintro ⟨b,c⟩;have hp:¬cZ C.aQ o k:=b i o (List.mem_cons_self ..) (λe=>hid (q.jy i e)) hi;exact ⟨hp,λj p d f l=>b j p (List.mem_cons_of_mem _ d) f l,λe=>c ((Bf m hi hid k).2 ⟨hp,e⟩)⟩
 ·rintro ⟨hp,b,c⟩;refine ⟨λj p d f l=> ?_,λe=>c ((Bf m hi hid k).1 e).2⟩;grind
theorem ze {i:Nat} (t:Nat) (h:rV L done t):rV L (i::done) t:=by obtain ⟨j,p,b,c,d⟩:=h;exact ⟨j,p,List.mem_cons_of_mem _ b,c,d⟩
theorem T8 (ok:C.tb.Ok C.P) (y:(cv L).Nodup) (c0:∀d∈cv L,d<n) (u:nz C L mok n lv0 β0 a0 h0 w0 done g r β s a h w) {i:Nat} {o:Oper} (hi:L[i]? =some o) (hid:i∉done)
  (hw:∀k∈waits o,k∈done) (a8:dy L (bF L []) i o=true) (J:il (bF L []) i o L 0=false) (c6:isVal C.tb o=true\/mH C.aQ o=true) {K:St->Hp->Prop}
  (Z:Cm C L o s=true) (hv:BO C L mok o s h K):∃s',K s' h/\nz C L mok n lv0 β0 a0 h0 w0 (i::done) g r β s' a h w:=by
 unfold BO at hv;split at hv
 ·exact hv.elim
 rename_i ch V;cases N:ua s ch with
 | false=>simp [N] at hv
 | true=>
 simp only [N,cond_true] at hv;have T:∀p∈ch,rV L done p.1:=EY u hi hw a8 V N;have b3:∀d,o.dst=some d->¬rV L done d:=λd e ⟨j,p,h1,E,z⟩=>hid (by rw [<-ub y E hi z e];exact h1);have b4:∀d,o.dst=some d->d<n:=λd e=>c0 d (xM (List.mem_of_getElem? hi) e);have b8:∀ {s':St},(∀t,o.dst≠some t->s'.f t=s.f t)->jJ (rV L done) o s s':=λB=>by refine ⟨λt ⟨j,p,h1,E,z⟩=>B t λe=>hid (by grind),λt I=>B t λe=> ?_,λt l c e q hq=>u.rr.chain t l c e q hq⟩;have:=w8 e J i o hi I;rw [Nat.zero_add] at this;exact hid (zC this (· ∈done) u.kW λo' c7=>by grind)
 cases G:isVal C.tb o with
 | true=>
  simp only [G,cond_true] at hv;obtain ⟨l,H,b0,b7,c4⟩:=RN ok hv;have c1:∀k,¬cZ C.aQ o k:=Ee (Pr G);have c3:rM C.tb o=true\/cX C.tb o ch s=.pure:=by unfold Cm at Z;grind
  have B:∀t,o.dst≠some t->(s.put o.dst l ch).f t=s.f t:=λt I=>wj s _ _ _ t I;have k:=b8 B;refine ⟨_,H,L6 u hi hid hw ?_ (λj p h1 E z=> ?_) ?_⟩
  ·have hb:holds s ch->∀k o',(l=.box k o'\/l=.dS k o')->¬qD C L done k:=λO b off e M=>by
    obtain ⟨x,hx,b9,hev⟩:=b7 b off e;rcases hev with hev | hev
    ·obtain ⟨t,c,rfl,X,U⟩:=sW hev (by simp) O;exact (u.rr.kh b M t _ c X U b9).1 rfl
    ·obtain ⟨t,c,rfl,X,U⟩:=sW hev (by simp) O;exact (u.rr.kh b M t _ c X U b9).2 rfl
   have b5:∀k,iu C L (i::done) g k↔iu C L done g k:=λk=>by rw [yT y u hi hid k];grind
   have b6:∀k,qD C L (i::done) k->qD C L done k:=λk e=>((Bf y hi hid k).1 e).2;cases A:o.dst with
   | none=>exact u.rr.congr (λt=>by rw [DE u hi hid t,A];simp) b5 ze b6
   | some d=>refine (u.rr.lift (l:=l) (ch:=ch) (b4 d A) (b3 d A) T hb).congr (λt=> ?_) b5 ze b6;rw [DE u hi hid t,A];grind
  ·rcases List.mem_cons.1 h1 with rfl | h1
   ·rw [zd hi z];refine ⟨⟨ch,V,by rw [Pv k T];exact N,.inl ⟨G,by rw [k.kind];exact c3,l,λd e=>by rw [e];exact Fj _ _ _ _,λO=> ?_,k.BP b7,λZ=>c4 (by rw [<-k.kind (s':=s.put o.dst l ch)];exact Z)⟩⟩,a8,J,λd hp=>absurd hp (c1 d)⟩;rw [k.kind];exact M1 k (λ_ t _ b off c _ _=>by rw [mY]) (λ_=>rfl) (b0 ((k.mM T).1 O))
   ·exact Ll y u hi hid J B (λk=>.inl (by rw [mY])) h1 E z
  ·refine u.wx.mono (λ_ e=>e) (λ_ e=>e) (λ_ e=>e) (λk e=>⟨?_,((yT y u hi hid k).1 e.2).2⟩);have:=e.1
   rwa [mY] at this
 | false=>
  simp only [G,cond_false] at hv;have a9:mH C.aQ o=true:=c6.resolve_left (by rw [G];simp);have b1:∀(d:Nat) (D:List Value),K ((s.put (some d) (.box d 0) []).gL d D) h->cZ C.aQ o d->ch=[]->has mok d=true->
    (∀(β:Nat->Nat) (R:Operand->Value) (w:World),(∀x∈o.op.operands,eZ β s R x)->
     ∃t,(execOp R o).run C.P w=.ok (.value (.pointer (some ⟨w.heap.size,0,none⟩))) {w with heap:=w.heap.push (.cells D.toArray t (0,0))})->
    ∃s',K s' h/\nz C L mok n lv0 β0 a0 h0 w0 (i::done) g r β s' a h w:=by
   intro d D H hp W F b0;subst W;have Y:∀k,cZ C.aQ o k↔k=d:=λk=>⟨λe=>by have:=e.2;rw [hp.2] at this;cases this;rfl,λe=>e▸hp⟩;have B:∀t,o.dst≠some t->((s.put (some d) (.box d 0) []).gL d D).f t=s.f t:=λt I=>sX s _ _ λe=>I (by rw [hp.2,e]);have hm:∀k,k≠d->((s.put (some d) (.box d 0) []).gL d D).m k=s.m k:=λk H=>xv _ _ H;have k:=b8 B;have M:qD C L done d:=⟨i,o,hid,hi,hp⟩;refine ⟨_,H,L6 u hi hid hw ?_ (λj p h1 E z=> ?_) ?_⟩
   ·refine (u.rr.AP D (b4 d hp.2) (b3 d hp.2) M).congr (λt=> ?_) (λk=> ?_) ze (λk e=> ?_)
    ·rw [DE u hi hid t,hp.2];grind
    ·rw [yT y u hi hid k,Y]
    ·have:=(Bf y hi hid k).1 e;grind
   ·rcases List.mem_cons.1 h1 with rfl | h1
    ·rw [zd hi z];refine ⟨⟨[],V,rfl,.inr ⟨rfl,G,d,D,hp,Fj _ _ _ _,yR _ _ _,CU k b0⟩⟩,a8,J,λd' c2=> ?_⟩;rw [(Y d').1 c2];exact (rT _ _).1 F
    ·exact Ll y u hi hid J B (λk=>by
      grind) h1 E z
   ·refine u.wx.mono (λ_ e=>e) (λ_ e=>e) (λ_ e=>e) (λk e=> ?_);have hl:=(yT y u hi hid k).1 e.2;rw [Y] at hl;refine ⟨?_,hl.2⟩;have:=e.1;grind
  split at hv
  ·rename_i d A;have b2:o.dst=some d/\has C.aQ d=true:=by unfold qU at A;grind
   cases F:has mok d with
   | false=>simp [F] at hv
   | true=>
    simp only [F,cond_true] at hv;split at hv
    ·rename_i t Q;split at hv
     ·rename_i e W;refine b1 d (ba e.zero) hv ⟨a9,b2.1⟩ rfl F λβ R w _=>⟨t,?_⟩;have S:(ba e.zero).toArray=e.zero.cells:=by apply Array.ext';simp [oi]
      rw [S];simp [execOp,Q,Instr.alloc,cU ok W,newVar,tX]
     ·exact hv.elim
    ·rename_i t x Q;obtain ⟨v,hev,c5⟩:=kj hv;refine b1 d (ba v) c5 ⟨a9,b2.1⟩ rfl F λβ R w ho=>⟨t,?_⟩;have hx:=bJ (ho x (by simp [Q,Op.operands])) (bL s) hev;have S:(ba v).toArray=v.cells:=by apply Array.ext';simp [oi]
     rw [S];simp [execOp,Q,hx,LVal,Instr.box,newVar,tX]
    ·exact hv.elim
  ·exact hv.elim
  ·rename_i A;exfalso;unfold qU at A;unfold mH at a9;grind
end
end Lf
