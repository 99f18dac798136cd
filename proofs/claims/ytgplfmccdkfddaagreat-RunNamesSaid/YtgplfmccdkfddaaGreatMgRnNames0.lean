/-
  Part 1 of the texts that the claim leans on.
-/
import Derived.Calls
import Derived.Orders
import Derived.Scope
import Derived.ScopeJumps
import Derived.KernelRfl
import Derived.Laws.Sem
set_option maxRecDepth 100000
namespace Lf
open Go
def Hp :Type:=Nat->Option Obj
def Hp.set (h:Hp) (b:Nat) (o:Obj):Hp:=fun i=>if i=b then some o else h i
instance:LE Hp:=⟨fun h h'=>∀b o,h b=some o->h' b=some o⟩
theorem Hp.le_refl (h:Hp):h<=h:=fun _ _ e=>e
theorem Hp.le_trans {a b c:Hp} (h:a<=b) (k:b<=c):a<=c:=fun i o e=>k i o (h i o e)
def hcell (h:Hp) (a:Addr):Option Value:=
  match h a.block with
  | some (.cells c _ _)=>if a.spot.isSome then none else c[a.off]?
  | _=>none
def hfroz (h:Hp) (a:Addr):Bool:=
  match h a.block with
  | some (.cells _ _ (lo,hi))=>lo<=a.off&&a.off<hi
  | _=>false
def Hp.put (h:Hp) (a:Addr) (v:Value):Hp:=
  match h a.block with
  | some (.cells c e fr)=>h.set a.block (.cells (if a.spot.isSome then c else c.setIfInBounds a.off v) e fr)
  | _=>h
def zyk1 :Obj->Option (TypeId×Nat)
  | .cells c e _=>some (e,c.size)
  | _=>none
def isCells :Obj->Bool
  | .cells .. =>true
  | _=>false
def semW {α:Type} (P:Program):Sem α->(α->Hp->Prop)->Hp->Prop
  | .pure a,K,h=>K a h
  | .load _ a k,K,h=>∃v,hcell h a=some v/\semW P (k v) K h
  | .store _ _ (.agg _) _,_,_ | .store _ _ (.tuple _) _,_,_=>False
  | .store _ a v k,K,h=>(∃v0,hcell h a=some v0)/\hfroz h a=false/\semW P k K (h.put a v)
  | .new o k,K,h=>∀b,h b=none->semW P (k b) K (h.set b o)
  | .shape r k,K,h=>∃o,h r=some o/\semW P (k (zyk1 o)) K h
  | .freeze _ _ _,_,_=>False
  | .frozen a k,K,h=>(∃o,h a.block=some o)/\semW P (k (hfroz h a)) K h
  | .getObj r k,K,h=>∃o,h r=some o/\isCells o=false/\semW P (k o) K h
  | .setObj r o k,K,h=>(∃o0,h r=some o0/\isCells o0=false)/\semW P k K (h.set r o)
  | .choose q k,K,h=>if q.forced then semW P (k 0) K h else ∀t,semW P (k (q.cut t)) K h
  | .sys _ _,_,_=>False
  | .program k,K,h=>semW P (k P) K h
  | .mark _ k,K,h=>semW P k K h
  | .halt _,_,_=>False
def Sub (h:Hp) (w:World):Prop:=∀b o,h b=some o->w.heap[b]? =some o
structure Step (h h':Hp) (w w':World):Prop where
  sub:Sub h' w'
  size:w.heap.size<=w'.heap.size
  keep:∀b,b<w.heap.size->h b=none->w'.heap[b]? =w.heap[b]?/\h' b=none
  os:w'.os=w.os
  tape:w'.tape=w.tape
  output:w'.output=w.output
theorem Sub.lt {h:Hp} {w:World} (hs:Sub h w) {b:Nat} {o:Obj} (e:h b=some o):b<w.heap.size:=by
  have:=hs b o e
  grind
theorem Sub.mono {h h':Hp} {w:World} (hs:Sub h' w) (hl:h<=h'):Sub h w:=fun b o e=>hs b o (hl b o e)
theorem Step.refl {h:Hp} {w:World} (hs:Sub h w):Step h h w w:=
  ⟨hs,Nat.le_refl _,fun _ _ h=>⟨rfl,h⟩,rfl,rfl,rfl⟩
theorem Step.trans {h₁ h₂ h₃:Hp} {w₁ w₂ w₃:World} (a:Step h₁ h₂ w₁ w₂) (b:Step h₂ h₃ w₂ w₃):Step h₁ h₃ w₁ w₃:=by
  refine ⟨b.sub,Nat.le_trans a.size b.size,fun i hi hn=> ?_,b.os.trans a.os,b.tape.trans a.tape,b.output.trans a.output⟩
  have h1:=a.keep i hi hn
  have h2:=b.keep i (Nat.lt_of_lt_of_le hi a.size) h1.2
  grind
theorem Step.drew {h h':Hp} {w w':World} {n:Nat} (a:Step h h' {w with drawn:=n} w'):Step h h' w w':=
  ⟨a.sub,a.size,a.keep,a.os,a.tape,a.output⟩
theorem zhv {h:Hp} {w:World} (hs:Sub h w) {a:Addr} {v:Value} (e:hcell h a=some v):w.cell? a=some v:=by
  unfold hcell at e
  cases hb:h a.block with
  | none=>simp [hb] at e
  | some o=>
    have:=hs _ _ hb
    unfold World.cell?
    grind
theorem zln1 {h:Hp} {w:World} (hs:Sub h w) {a:Addr} {o:Obj} (e:h a.block=some o):w.frozen? a=hfroz h a:=by
  have:=hs _ _ e
  unfold World.frozen? hfroz
  grind
theorem zmq {h:Hp} {a:Addr} {v:Value} (e:hcell h a=some v):
    ∃c t fr,h a.block=some (.cells c t fr)/\a.spot=none/\c[a.off]? =some v:=by
  unfold hcell at e
  split at e
  · rename_i c t fr hb
    refine ⟨c,t,fr,hb,?_⟩
    cases hsp:a.spot with
    | none=>simp [hsp] at e;exact ⟨rfl,e⟩
    | some s=>simp [hsp] at e
  grind
theorem zry2 {h:Hp} {a:Addr} {v v0:Value} (e:hcell h a=some v0):
    ∃c t fr,h a.block=some (.cells c t fr)/\h.put a v=h.set a.block (.cells (c.setIfInBounds a.off v) t fr):=by
  obtain ⟨c,t,fr,hb,hsp,_⟩:=zmq e
  refine ⟨c,t,fr,hb,?_⟩
  unfold Hp.put
  grind
theorem zgx2 {h:Hp} {w:World} (hs:Sub h w) {b:Nat} {o:Obj} (hb:b<w.heap.size):
    Sub (h.set b o) {w with heap:=w.heap.setIfInBounds b o}:=by
  intro i x e
  unfold Hp.set at e
  by_cases hi:i=b
  · grind
  · simp [hi] at e
    have:=hs _ _ e
    grind
theorem zbj2 {h:Hp} {w:World} (hs:Sub h w) {a:Addr} {v v0:Value} (e:hcell h a=some v0):
    Step h (h.put a v) w (w.setCell a v):=by
  obtain ⟨c,t,fr,hb,hput⟩:=zry2 (v:=v) e
  obtain ⟨_,_,_,hb',hsp,_⟩:=zmq e
  have hlt:=hs.lt hb
  have hw:w.setCell a v={w with heap:=w.heap.setIfInBounds a.block (.cells (c.setIfInBounds a.off v) t fr)}:=by
    unfold World.setCell
    congr 1
    apply Array.ext_getElem?
    intro i
    by_cases hi:i=a.block
    · subst hi
      rw [Array.getElem?_setIfInBounds_self_of_lt hlt,Array.getElem?_modify,if_pos rfl,hs _ _ hb]
      simp [hsp]
    · rw [Array.getElem?_setIfInBounds_ne (Ne.symm hi),Array.getElem?_modify,if_neg (Ne.symm hi)]
  rw [hput,hw]
  refine ⟨zgx2 hs hlt,by simp,fun b hbl hn=> ?_,rfl,rfl,rfl⟩
  have hne:b≠a.block:=fun hh=>by rw [hh,hb] at hn;cases hn
  refine ⟨by simp [Array.getElem?_setIfInBounds_ne (Ne.symm hne)],?_⟩
  unfold Hp.set;rw [if_neg hne];exact hn
theorem zae1 {h:Hp} {w:World} (hs:Sub h w) {r:Nat} {o o0:Obj} (e:h r=some o0):
    Step h (h.set r o) w {w with heap:=w.heap.setIfInBounds r o}:=by
  have hlt:=hs.lt e
  refine ⟨zgx2 hs hlt,by simp,fun b hbl hn=> ?_,rfl,rfl,rfl⟩
  have hne:b≠r:=fun hh=>by rw [hh,e] at hn;cases hn
  refine ⟨by simp [Array.getElem?_setIfInBounds_ne (Ne.symm hne)],?_⟩
  unfold Hp.set;rw [if_neg hne];exact hn
theorem zre {h:Hp} {w:World} (hs:Sub h w) (o:Obj):
    h w.heap.size=none/\Step h (h.set w.heap.size o) w {w with heap:=w.heap.push o}:=by
  have hnone:h w.heap.size=none:=by
    cases e:h w.heap.size with
    | none=>rfl
    | some x=>exact absurd (hs.lt e) (Nat.lt_irrefl _)
  refine ⟨hnone,?_,by simp,fun b hb hn=> ?_,rfl,rfl,rfl⟩
  · intro i x e
    unfold Hp.set at e
    by_cases hi:i=w.heap.size
    · grind
    · simp [hi] at e
      have hl:=hs.lt e
      have:=hs _ _ e
      grind
  · refine ⟨by simp [Array.getElem?_push,Nat.ne_of_lt hb],?_⟩
    unfold Hp.set;grind
theorem zsv {α:Type} {P:Program} (s:Sem α):∀ {K:α->Hp->Prop} {h:Hp} {w:World},Sub h w->semW P s K h->
    ∃a w' h',s.run P w=.ok a w'/\K a h'/\Step h h' w w':=by
  induction s with
  | pure a=>intro K h w hs hk;exact ⟨a,w,h,rfl,hk,.refl hs⟩
  | load m a k ih=>
    intro K h w hs hk
    obtain ⟨v,hv,hk⟩:=hk
    obtain ⟨x,w',h',hr,hK,hst⟩:=ih v hs hk
    exact ⟨x,w',h',by simp only [Sem.run,zhv hs hv,hr],hK,hst⟩
  | store m a v k ih=>
    intro K h w hs hk
    have main:((∃v0,hcell h a=some v0)/\hfroz h a=false/\semW P k K (h.put a v))->(∀p,v≠ .agg p)->(∀p,v≠ .tuple p)->
        ∃x w' h',(Sem.store m a v k).run P w=.ok x w'/\K x h'/\Step h h' w w':=by
      rintro ⟨⟨v0,h0⟩,hf,hk⟩ hna hnt
      have hst:=zbj2 (v:=v) hs h0
      obtain ⟨x,w',h',hr,hK,hst'⟩:=ih hst.sub hk
      refine ⟨x,w',h',?_,hK,hst.trans hst'⟩
      have hfr:w.frozen? a=false:=by
        obtain ⟨c,t,fr,hb,_,_⟩:=zmq h0
        rw [zln1 hs hb];exact hf
      cases v<;>first | exact absurd rfl (hna _) | exact absurd rfl (hnt _) | simp only [Sem.run,zhv hs h0,hfr,hr,Bool.false_eq_true,if_false]
    cases v<;>first | exact hk.elim | exact main hk (by intros;simp) (by intros;simp)
  | new o k ih=>
    intro K h w hs hk
    obtain ⟨hn,hst⟩:=zre hs o
    obtain ⟨x,w',h',hr,hK,hst'⟩:=ih _ hst.sub (hk _ hn)
    exact ⟨x,w',h',by simp only [Sem.run,hr],hK,hst.trans hst'⟩
  | shape r k ih=>
    intro K h w hs hk
    obtain ⟨o,ho,hk⟩:=hk
    obtain ⟨x,w',h',hr,hK,hst⟩:=ih _ hs hk
    refine ⟨x,w',h',?_,hK,hst⟩
    simp only [Sem.run]
    have:w.shape? r=zyk1 o:=by
      unfold World.shape?
      rw [hs _ _ ho]
      cases o<;>rfl
    grind
  | freeze a n k ih=>intro K h w hs hk;exact hk.elim
  | frozen a k ih=>
    intro K h w hs hk
    obtain ⟨⟨o,ho⟩,hk⟩:=hk
    obtain ⟨x,w',h',hr,hK,hst⟩:=ih _ hs hk
    refine ⟨x,w',h',?_,hK,hst⟩
    simp only [Sem.run,zln1 hs ho];exact hr
  | getObj r k ih=>
    intro K h w hs hk
    obtain ⟨o,ho,hc,hk⟩:=hk
    obtain ⟨x,w',h',hr,hK,hst⟩:=ih _ hs hk
    refine ⟨x,w',h',?_,hK,hst⟩
    simp only [Sem.run,hs _ _ ho]
    cases o<;>first | exact hr | simp [isCells] at hc
  | setObj r o k ih=>
    intro K h w hs hk
    obtain ⟨⟨o0,ho,hc⟩,hk⟩:=hk
    have hst:=zae1 (o:=o) hs ho
    obtain ⟨x,w',h',hr,hK,hst'⟩:=ih hst.sub hk
    refine ⟨x,w',h',?_,hK,hst.trans hst'⟩
    simp only [Sem.run,hs _ _ ho]
    cases o0<;>first | exact hr | simp [isCells] at hc
  | choose q k ih=>
    intro K h w hs hk
    simp only [semW] at hk
    by_cases hq:q.forced=true
    · simp only [hq,if_true] at hk
      obtain ⟨x,w',h',hr,hK,hst⟩:=ih _ hs hk
      exact ⟨x,w',h',by simp only [Sem.run,hq,if_true,hr],hK,hst⟩
    · simp only [hq,if_false,Bool.false_eq_true] at hk
      have hs':Sub h {w with drawn:=w.drawn+1}:=hs
      obtain ⟨x,w',h',hr,hK,hst⟩:=ih _ hs' (hk (w.tape w.drawn q))
      exact ⟨x,w',h',by simp only [Sem.run,hq,if_false,Bool.false_eq_true,hr],hK,hst.drew⟩
  | sys c k ih=>intro K h w hs hk;exact hk.elim
  | program k ih=>
    intro K h w hs hk
    obtain ⟨x,w',h',hr,hK,hst⟩:=ih _ hs hk
    exact ⟨x,w',h',by simp only [Sem.run,hr],hK,hst⟩
  | mark m k ih=>
    intro K h w hs hk
    obtain ⟨x,w',h',hr,hK,hst⟩:=ih hs hk
    exact ⟨x,w',h',by simp only [Sem.run,hr],hK,hst⟩
  | halt x=>intro K h w hs hk;exact hk.elim
theorem zgy2 {α:Type} {P:Program} (s:Sem α):∀ {K K':α->Hp->Prop} {h:Hp},(∀a h,K a h->K' a h)->semW P s K h->semW P s K' h:=by
  induction s with
  | pure a=>intro K K' h hk hh;exact hk _ _ hh
  | load m a k ih=>rintro K K' h hk ⟨v,hv,hh⟩;exact ⟨v,hv,ih _ hk hh⟩
  | store m a v k ih=>
    intro K K' h hk hh
    cases v<;>first | exact hh.elim | exact ⟨hh.1,hh.2.1,ih hk hh.2.2⟩
  | new o k ih=>intro K K' h hk hh b hb;exact ih _ hk (hh b hb)
  | shape r k ih=>rintro K K' h hk ⟨o,ho,hh⟩;exact ⟨o,ho,ih _ hk hh⟩
  | freeze a n k ih=>intro K K' h hk hh;exact hh.elim
  | frozen a k ih=>rintro K K' h hk ⟨ho,hh⟩;exact ⟨ho,ih _ hk hh⟩
  | getObj r k ih=>rintro K K' h hk ⟨o,ho,hc,hh⟩;exact ⟨o,ho,hc,ih _ hk hh⟩
  | setObj r o k ih=>rintro K K' h hk ⟨ho,hh⟩;exact ⟨ho,ih hk hh⟩
  | choose q k ih=>
    intro K K' h hk hh
    simp only [semW] at hh ⊢
    grind
  | sys c k ih=>intro K K' h hk hh;exact hh.elim
  | program k ih=>intro K K' h hk hh;exact ih _ hk hh
  | mark m k ih=>intro K K' h hk hh;exact ih hk hh
  | halt x=>intro K K' h hk hh;exact hh.elim
theorem zlo1 {α β:Type} {P:Program} (s:Sem α) (f:α->Sem β):∀ {K:β->Hp->Prop} {h:Hp},
    semW P (s.bind f) K h↔semW P s (fun a h=>semW P (f a) K h) h:=by
  induction s with
  | pure a=>intro K h;exact Iff.rfl
  | load m a k ih=>
    intro K h
    simp only [Sem.bind,semW]
    grind
  | store m a v k ih=>
    intro K h
    cases v<;>simp only [Sem.bind,semW]<;>first | exact Iff.rfl | grind
  | new o k ih=>intro K h;simp only [Sem.bind,semW];grind
  | shape r k ih=>
    intro K h
    simp only [Sem.bind,semW]
    grind
  | freeze a n k ih=>intro K h;exact Iff.rfl
  | frozen a k ih=>intro K h;simp only [Sem.bind,semW];grind
  | getObj r k ih=>
    intro K h
    simp only [Sem.bind,semW]
    grind
  | setObj r o k ih=>intro K h;simp only [Sem.bind,semW];grind
  | choose q k ih=>
    intro K h
    simp only [Sem.bind,semW]
    grind
  | sys c k ih=>intro K h;exact Iff.rfl
  | program k ih=>intro K h;simp only [Sem.bind,semW];exact ih _
  | mark m k ih=>intro K h;simp only [Sem.bind,semW];exact ih
  | halt x=>intro K h;exact Iff.rfl
structure Shape where
  T:Type
  enc:T->Value
  dec:Value->Option T
  ok:∀v x,dec v=some x->enc x=v
structure Sl where
  base:Option Addr
  len:Nat
  cap:Nat
def Sl.v (s:Sl):Value:=.slice s.base s.len s.cap
def kEq :IntKind->IntKind->Bool
  | .i8,.i8 | .i16,.i16 | .i32,.i32 | .i64,.i64 | .u8,.u8 | .u16,.u16 | .u32,.u32 | .u64,.u64=>true
  | _,_=>false
theorem zpa2 {a b:IntKind} (h:kEq a b=true):a=b:=by cases a<;>cases b<;>first | rfl | cases h
def fEq :FloatKind->FloatKind->Bool
  | .f32,.f32 | .f64,.f64=>true
  | _,_=>false
theorem zrz2 {a b:FloatKind} (h:fEq a b=true):a=b:=by cases a<;>cases b<;>first | rfl | cases h
@[reducible] def shInt (k : IntKind) : Shape where
  T:=Int
  enc:=fun n=>.int k n
  dec:=fun v=>match v with
    | .int k' n=>cond (kEq k' k) (some n) none
    | _=>none
  ok:=by
    intro v x h
    split at h
    · rename_i k' n
      cases hk:kEq k' k
      · simp [hk] at h
      · simp [hk] at h;rw [zpa2 hk,h]
    · cases h
@[reducible] def zae : Shape where
  T:=Bool
  enc:=fun n=>.bool n
  dec:=fun v=>match v with
    | .bool n=>some n
    | _=>none
  ok:=by intro v x h;split at h<;>cases h;rfl
@[reducible] def shStr : Shape where
  T:=ByteArray
  enc:=fun n=>.string n
  dec:=fun v=>match v with
    | .string n=>some n
    | _=>none
  ok:=by intro v x h;split at h<;>cases h;rfl
@[reducible] def shPtr : Shape where
  T:=Option Addr
  enc:=fun n=>.pointer n
  dec:=fun v=>match v with
    | .pointer n=>some n
    | _=>none
  ok:=by intro v x h;split at h<;>cases h;rfl
@[reducible] def shSl : Shape where
  T:=Sl
  enc:=fun n=>.slice n.base n.len n.cap
  dec:=fun v=>match v with
    | .slice a l c=>some ⟨a,l,c⟩
    | _=>none
  ok:=by grind
@[reducible] def shMap : Shape where
  T:=Option Nat
  enc:=fun n=>.map n
  dec:=fun v=>match v with
    | .map n=>some n
    | _=>none
  ok:=by intro v x h;split at h<;>cases h;rfl
@[reducible] def shFlt (k : FloatKind) : Shape where
  T:=Nat
  enc:=fun n=>.float k n
  dec:=fun v=>match v with
    | .float k' n=>cond (fEq k' k) (some n) none
    | _=>none
  ok:=by
    intro v x h
    split at h
    · rename_i k' n
      cases hk:fEq k' k
      · simp [hk] at h
      · simp [hk] at h;rw [zrz2 hk,h]
    · cases h
@[reducible] def shVal : Shape where
  T:=Value
  enc:=fun v=>v
  dec:=fun v=>some v
  ok:=by simp
def zgz2 :Value->Bool
  | .agg _=>false
  | _=>true
structure Leaf where
  v:Value
  ok:zgz2 v=true
@[reducible] def shLeaf : Shape where
  T:=Leaf
  enc:=fun x=>x.v
  dec:=fun v=>match h:zgz2 v with
    | true=>some ⟨v,h⟩
    | false=>none
  ok:=by grind
structure FnV where
  g:Nat
  first:Array Value
  captured:Array Value
@[reducible] def shFn : Shape where
  T:=FnV
  enc:=fun x=>.func (.func x.g) x.first x.captured
  dec:=fun v=>match v with
    | .func (.func g) a b=>some ⟨g,a,b⟩
    | _=>none
  ok:=by grind
structure CellsN (n:Nat) where
  l:List Value
  ok:Nat.beq l.length n=true
theorem CellsN.size {n:Nat} (x:CellsN n):(Array.mk x.l).size=n:=Nat.eq_of_beq_eq_true x.ok
@[reducible] def zpp2 (n : Nat) : Shape where
  T:=CellsN n
  enc:=fun x=>.agg ⟨x.l⟩
  dec:=fun v=>match v with
    | .agg ⟨l⟩=>match h:Nat.beq l.length n with
      | true=>some ⟨l,h⟩
      | false=>none
    | _=>none
  ok:=by
    grind
@[reducible] def zrf : Shape where
  T:=Unit
  enc:=fun _=>.tuple #[]
  dec:=fun v=>match v with
    | .tuple ⟨[]⟩=>some ()
    | _=>none
  ok:=by grind
structure NextR where
  more:Bool
  rest:List Value
@[reducible] def zsa2 : Shape where
  T:=NextR
  enc:=fun x=>.tuple ⟨.bool x.more::x.rest⟩
  dec:=fun v=>match v with
    | .tuple ⟨.bool b::r⟩=>some ⟨b,r⟩
    | _=>none
  ok:=by grind
@[reducible] def zgl (a b : Shape) : Shape where
  T:=a.T×b.T
  enc:=fun p=>.tuple #[a.enc p.1,b.enc p.2]
  dec:=fun v=>match v with
    | .tuple ⟨[x,y]⟩=>match a.dec x,b.dec y with
      | some x,some y=>some (x,y)
      | _,_=>none
    | _=>none
  ok:=by
    intro v x h
    split at h
    · split at h
      · rename_i h1 h2;cases h;rw [a.ok _ _ h1,b.ok _ _ h2]
      · cases h
    · cases h
@[reducible] def zlp1 (a b c : Shape) : Shape where
  T:=a.T×b.T×c.T
  enc:=fun p=>.tuple #[a.enc p.1,b.enc p.2.1,c.enc p.2.2]
  dec:=fun v=>match v with
    | .tuple ⟨[x,y,z]⟩=>match a.dec x,b.dec y,c.dec z with
      | some x,some y,some z=>some (x,y,z)
      | _,_,_=>none
    | _=>none
  ok:=by
    intro v x h
    split at h
    · split at h
      · rename_i h1 h2 h3;cases h;rw [a.ok _ _ h1,b.ok _ _ h2,c.ok _ _ h3]
      · cases h
    · cases h
@[reducible] def zbk2 (a b c d : Shape) : Shape where
  T:=a.T×b.T×c.T×d.T
  enc:=fun p=>.tuple #[a.enc p.1,b.enc p.2.1,c.enc p.2.2.1,d.enc p.2.2.2]
  dec:=fun v=>match v with
    | .tuple ⟨[x,y,z,u]⟩=>match a.dec x,b.dec y,c.dec z,d.dec u with
      | some x,some y,some z,some u=>some (x,y,z,u)
      | _,_,_,_=>none
    | _=>none
  ok:=by
    intro v x h
    split at h
    · split at h
      · rename_i h1 h2 h3 h4;cases h;rw [a.ok _ _ h1,b.ok _ _ h2,c.ok _ _ h3,d.ok _ _ h4]
      · cases h
    · cases h
@[reducible] def zbl2 (a b c d e : Shape) : Shape where
  T:=a.T×b.T×c.T×d.T×e.T
  enc:=fun p=>.tuple #[a.enc p.1,b.enc p.2.1,c.enc p.2.2.1,d.enc p.2.2.2.1,e.enc p.2.2.2.2]
  dec:=fun v=>match v with
    | .tuple ⟨[x,y,z,u,w]⟩=>match a.dec x,b.dec y,c.dec z,d.dec u,e.dec w with
      | some x,some y,some z,some u,some w=>some (x,y,z,u,w)
      | _,_,_,_,_=>none
    | _=>none
  ok:=by
    intro v x h
    split at h
    · split at h
      · rename_i h1 h2 h3 h4 h5;cases h;rw [a.ok _ _ h1,b.ok _ _ h2,c.ok _ _ h3,d.ok _ _ h4,e.ok _ _ h5]
      · cases h
    · cases h
@[reducible] def zsb2 (a b c d e f g : Shape) : Shape where
  T:=a.T×b.T×c.T×d.T×e.T×f.T×g.T
  enc:=fun p=>.tuple #[a.enc p.1,b.enc p.2.1,c.enc p.2.2.1,d.enc p.2.2.2.1,e.enc p.2.2.2.2.1,f.enc p.2.2.2.2.2.1,g.enc p.2.2.2.2.2.2]
  dec:=fun v=>match v with
    | .tuple ⟨[x,y,z,u,w,o,q]⟩=>match a.dec x,b.dec y,c.dec z,d.dec u,e.dec w,f.dec o,g.dec q with
      | some x,some y,some z,some u,some w,some o,some q=>some (x,y,z,u,w,o,q)
      | _,_,_,_,_,_,_=>none
    | _=>none
  ok:=by
    intro v x h
    split at h
    · split at h
      · rename_i h1 h2 h3 h4 h5 h6 h7;cases h;rw [a.ok _ _ h1,b.ok _ _ h2,c.ok _ _ h3,d.ok _ _ h4,e.ok _ _ h5,f.ok _ _ h6,g.ok _ _ h7]
      · cases h
    · cases h
structure Ty where
  und:TypeDesc
  size:Nat
  bytes:Nat
  zero:Value
  sh:Shape
structure Tb where
  ty:Nat->Option Ty
  call:Nat->Bool
  ext:Nat->Option (Array Value->Sem Value)
def ziw :TypeDesc->Bool
  | .struct _ | .array _ _=>true
  | _=>false
def shOf (tb:Tb) (t:Nat):Shape:=match tb.ty t with
  | some e=>e.sh
  | none=>zrf
def nth {α:Type _}:List α->Nat->Option α
  | [],_=>none
  | a::_,0=>some a
  | _::l,n+1=>nth l n
def dropL {α:Type _}:List α->Nat->List α
  | l,0=>l
  | [],_+1=> []
  | _::l,n+1=>dropL l n
def takeL {α:Type _}:List α->Nat->List α
  | _,0=> []
  | [],_+1=> []
  | a::l,n+1=>a::takeL l n
def layL {α:Type _}:List α->Nat->List α->List α
  | l,0,[]=>l
  | [],0,_::_=> []
  | _::l,0,b::new=>b::layL l 0 new
  | [],_+1,_=> []
  | a::l,n+1,new=>a::layL l n new
inductive LV where
  | v (x:Value)
  | box (k off:Nat)
  | boxd (k off:Nat)
abbrev Chain :=List (Nat×Bool)
structure St where
  f:Nat->Option (LV×Chain)
  m:Nat->Option (List Value)
def St.put (s:St) (d:Option Nat) (l:LV) (ch:Chain):St:=
  match d with
  | none=>s
  | some d=>{f:=fun i=>cond (Nat.beq i d) (some (l,ch)) (s.f i),m:=s.m}
def St.putM (s:St) (k:Nat) (cs:List Value):St:=
  {f:=s.f,m:=fun i=>cond (Nat.beq i k) (some cs) (s.m i)}
def zpb2 :Bool->Bool->Bool
  | true,b=>b
  | false,true=>false
  | false,false=>true
def chEq :Chain->Chain->Bool
  | [],[]=>true
  | (t,w)::c,(u,x)::d=>cond (Nat.beq t u) (cond (zpb2 w x) (chEq c d) false) false
  | _,_=>false
def sufx (c:Chain):Chain->Bool
  | []=>match c with
    | []=>true
    | _=>false
  | p::d=>match c with
    | []=>true
    | _=>cond (chEq c (p::d)) true (sufx c d)
def ev (s:St) (ch:Chain):Operand->Option LV
  | .tmp t=>match s.f t with
    | some (l,c)=>cond (sufx c ch) (some l) none
    | none=>none
  | .const v=>some (.v v)
  | .global g=>some (.v (.pointer (some ⟨g,0,none⟩)))
  | .func f=>some (.v (.func (.func f) #[] #[]))
def cnd (s:St):Chain->Option Bool
  | []=>none
  | [(t,w)]=>match s.f t with
    | some (.v (.bool b),_)=>some (cond w b (!b))
    | _=>some false
  | (t,w)::p::r=>match s.f t with
    | some (.v (.bool b),_)=>match cnd s (p::r) with
      | some x=>some (cond w (x&&b) (x&& !b))
      | none=>some (cond w b (!b))
    | _=>some false
def Req (c:Option Bool) (p:Prop):Prop:=
  match c with
  | none=>p
  | some b=>b=true->p
def zax :List Value->Bool
  | []=>true
  | .agg _::_=>false
  | .tuple _::_=>false
  | _::r=>zax r
def LdIs (h:Hp) (a:Addr) (cs:List Value):Prop:=∀i v,cs[i]? =some v->hcell h (a.add i)=some v
def zac (v:Value):List Value:=match v with
  | .agg cs=>cs.toList
  | v=> [v]
def LdW (c:Option Bool) (sh:Shape) (h:Hp) (a:Addr) (K:sh.T->Prop):Prop:=
  ∃x,Req c (LdIs h a (zac (sh.enc x)))/\K x
def NilW (c:Option Bool) (p:Option Addr) (K:Addr->Prop):Prop:=∃a,Req c (p=some a)/\K a
def SemIs (P:Program) (s:Sem Value) (h:Hp) (v:Value):Prop:=∀w,Sub h w->∃w',s.run P w=.ok v w'/\Step h h w w'
def SemV (c:Option Bool) (P:Program) (s:Sem Value) (sh:Shape) (h:Hp) (K:sh.T->Prop):Prop:=
  ∃x,Req c (SemIs P s h (sh.enc x))/\K x
def SemE (P:Program) (s:Sem Value) (sh:Shape) (K:sh.T->Hp->Prop) (h:Hp):Prop:=
  semW P s (fun v h'=>∃x,v=sh.enc x/\K x h') h
def SemU (P:Program) (s:Sem Unit) (K:Hp->Prop) (h:Hp):Prop:=semW P s (fun _ h'=>K h') h
def EffC {α:Type} (c:Option Bool) (A:(α->Hp->Prop)->Hp->Prop) (K:α->Hp->Prop) (h:Hp):Prop:=
  match c with
  | none=>A K h
  | some b=>(b=true->A K h)/\(b=false->∃x,K x h)
def NewW (cs:List Value) (K:Addr->Hp->Prop) (h:Hp):Prop:=
  ∀b t,h b=none->K ⟨b,0,none⟩ (h.set b (.cells cs.toArray t (0,0)))
def NewTW (t:Nat) (cs:List Value) (K:Addr->Hp->Prop) (h:Hp):Prop:=
  ∀b,h b=none->K ⟨b,0,none⟩ (h.set b (.cells cs.toArray t (0,0)))
def zbm2 (t:Nat) (cs:List Value) (K:Addr->Hp->Prop) (h:Hp):Prop:=
  match cs with
  | [.pointer none,.slice none 0 0]=>NewTW t cs K h
  | _=>NewW cs K h
def putL (h:Hp) (a:Addr):List Value->Nat->Hp
  | [],_=>h
  | v::l,i=>putL (h.put (a.add i) v) a l (i+1)
def StOk (h:Hp) (a:Addr):Nat->Prop
  | 0=>True
  | n+1=>StOk h a n/\(∃v,hcell h (a.add n)=some v)/\hfroz h (a.add n)=false
def StW (h:Hp) (a:Addr) (cs:List Value) (K:Hp->Prop):Prop:=StOk h a cs.length/\K (putL h a cs 0)
def CallE (P:Program) (g:FuncId) (args:List Value) (K:Value->Hp->Prop) (h:Hp):Prop:=
  ∀w,Sub h w->Calls P g args.toArray w (fun e w'=>∃v h',e=.returned v/\K v h'/\Step h h' w w')
def CallT (P:Program) (g:FuncId) (args:List Value) (sh:Shape) (K:sh.T->Hp->Prop) (h:Hp):Prop:=
  CallE P g args (fun v h'=>∃x,v=sh.enc x/\K x h') h
def CallV (P:Program) (tb:Tb) (f:Value) (args:List Value) (sh:Shape) (K:sh.T->Hp->Prop) (h:Hp):Prop:=
  ∃g first captured,f=.func (.func g) first captured/\tb.call g=true/\CallT P g (first.toList++args++captured.toList) sh K h
def JoinT {σ:Type} (A:(σ->Hp->Prop)->Prop) (B:σ->Hp->Prop):Prop:=∃R:σ->Hp->Prop,A R/\∀x h,R x h->B x h
def LoopT {σ:Type} (body:(σ->Hp->Prop)->σ->Hp->Prop) (x:σ) (h:Hp):Prop:=
  ∃(I:σ->Hp->Prop) (μ:σ->Hp->Nat),I x h/\∀x h,I x h->body (fun x' h'=>I x' h'/\μ x' h'<μ x h) x h
def LetW {α:Type} (x:α) (K:α->Prop):Prop:=∀y,y=x->K y
def zei (h:Hp) (base:Option Addr) (n:Nat) (cs:List Value):Prop:=
  cs.length=n/\(n=0\/∃a,base=some a/\LdIs h a cs)
def zap (zero:List Value) (n:Nat):List Value:=(List.replicate n zero).flatten
def putO (h:Hp) (base:Option Addr) (off:Nat) (cs:List Value):Hp:=match base with
  | some a=>putL h (a.add off) cs 0
  | none=>h
def AppCells (size bytes:Nat) (zero:List Value) (l:Sl) (n:Nat) (new:List Value) (K:Sl->Hp->Prop) (h:Hp):Prop:=
  ∃old,zei h l.base (l.len*size) old/\(l.len+n<=140737488355328/\(l.len+n)*bytes<=140737488355328)/\
    zax new=true/\(l.len+n<=l.cap->(∀a,l.base=some a->StOk h (a.add (l.len*size)) (n*size))/\K ⟨l.base,l.len+n,l.cap⟩ (putO h l.base (l.len*size) new))/\
    (l.cap<l.len+n->∀c b t,l.len+n<=c->h b=none->
      K ⟨some ⟨b,0,none⟩,l.len+n,c⟩ (h.set b (.cells (old++new++zap zero (c-(l.len+n))).toArray t (0,0))))
def zai (size bytes:Nat) (zero:List Value) (l x:Sl) (K:Sl->Hp->Prop) (h:Hp):Prop:=
  ∃new,zei h x.base (x.len*size) new/\AppCells size bytes zero l x.len new K h
def zlb1 (size bytes:Nat) (zero:List Value) (l:Sl) (m:Int) (K:Sl->Hp->Prop) (h:Hp):Prop:=
  0<=m/\AppCells size bytes zero l m.toNat (zap zero m.toNat) K h
def zer1 (s:ByteArray):List Value:=s.data.toList.map fun b=>.int .u8 b.toNat
def zes1 (u:Nat) (size bytes:Nat) (zero:List Value) (l:Sl) (n:Nat) (new:List Value) (K:Sl->Hp->Prop) (h:Hp):Prop:=
  ∃old,zei h l.base (l.len*size) old/\(l.len+n<=140737488355328/\(l.len+n)*bytes<=140737488355328)/\
    zax new=true/\(l.len+n<=l.cap->(∀a,l.base=some a->StOk h (a.add (l.len*size)) (n*size))/\K ⟨l.base,l.len+n,l.cap⟩ (putO h l.base (l.len*size) new))/\
    (l.cap<l.len+n->∀c b,l.len+n<=c->h b=none->
      K ⟨some ⟨b,0,none⟩,l.len+n,c⟩ (h.set b (.cells (old++new++zap zero (c-(l.len+n))).toArray u (0,0))))
theorem AppCells.u {size bytes:Nat} {zero:List Value} {l:Sl} {n:Nat} {new:List Value} {K:Sl->Hp->Prop} {h:Hp} (u:Nat) (a:AppCells size bytes zero l n new K h):zes1 u size bytes zero l n new K h:=by
  obtain ⟨old,a1,a2,a3,a4,a5⟩:=a
  exact ⟨old,a1,a2,a3,a4,fun h1 c b h2 h3=>a5 h1 c b u h2 h3⟩
def zec2 (u:Nat) (l:Sl) (s:ByteArray) (K:Sl->Hp->Prop) (h:Hp):Prop:=
  zes1 u 1 1 [.int .u8 0] l s.size (zer1 s) K h
def CopyW (size:Nat) (d x:Sl) (K:Int->Hp->Prop) (h:Hp):Prop:=
  ∃new,zei h x.base (min x.len d.len*size) new/\zax new=true/\(∀a,d.base=some a->StOk h a (min x.len d.len*size))/\K (min x.len d.len:Nat) (putO h d.base 0 new)
def MakeW (bytes:Nat) (zero:List Value) (len cap:Int) (K:Sl->Hp->Prop) (h:Hp):Prop:=
  (0<=len/\len<=cap/\cap<=281474976710656/\cap.toNat*bytes<=281474976710656)/\
    ∀b t,h b=none->K ⟨some ⟨b,0,none⟩,len.toNat,cap.toNat⟩ (h.set b (.cells (zap zero cap.toNat).toArray t (0,0)))
def zpc2 (s:ByteArray) (K:Sl->Hp->Prop) (h:Hp):Prop:=
  ∀c b t,s.size<=c->h b=none->
    K ⟨some ⟨b,0,none⟩,s.size,c⟩ (h.set b (.cells (zer1 s++zap [.int .u8 0] (c-s.size)).toArray t (c,c+1)))
def MarkW (a:Option Addr) (K:Unit->Hp->Prop) (h:Hp):Prop:=
  ∃b off cs t,a=some ⟨b,off,none⟩/\h b=some (.cells cs t (0,0))/\K () (h.set b (.cells cs t (cs.size,cs.size+1)))
def zaf1 (K:Option Nat->Hp->Prop) (h:Hp):Prop:=∀b,h b=none->K (some b) (h.set b (.map #[] 0))
def MapAt (h:Hp) (m:Option Nat) (es:List MapEntry):Prop:=
  (m=none/\es=[])\/∃r ck,m=some r/\h r=some (.map es.toArray ck)
def zbn2 (kd:TypeDesc) (zero:Value) (m:Option Nat) (k:Value) (h:Hp) (v:Value) (ok:Bool):Prop:=
  ∃es,MapAt h m es/\((Instr.findNow kd k es 0=some none/\v=zero/\ok=false)\/∃i,Instr.findNow kd k es 0=some (some (i,v))/\ok=true)
def LookW (c:Option Bool) (kd:TypeDesc) (sh:Shape) (zero:Value) (m:Option Nat) (k:Value) (h:Hp) (K:sh.T->Bool->Prop):Prop:=
  ∃x ok,Req c (zbn2 kd zero m k h (sh.enc x) ok)/\K x ok
def zrq (kd:TypeDesc) (m:Option Nat) (k v:Value) (K:Hp->Prop) (h:Hp):Prop:=
  ∃r es ck,m=some r/\h r=some (.map es ck)/\
    ((Instr.findNow kd k es.toList 0=some none/\K (h.set r (.map (es.push {key:=k,val:=v,born:=ck}) (ck+1))))\/
     ∃i u,Instr.findNow kd k es.toList 0=some (some (i,u))/\K (h.set r (.map (es.modify i fun e=>{e with key:=k,val:=v}) ck)))
def zlq1 (kd:TypeDesc) (m:Option Nat) (k:Value) (K:Hp->Prop) (h:Hp):Prop:=
  (m=none/\K h)\/∃r es ck,m=some r/\h r=some (.map es ck)/\
    ((Instr.findNow kd k es.toList 0=some none/\K (h.set r (.map es ck)))\/
     ∃i u,Instr.findNow kd k es.toList 0=some (some (i,u))/\K (h.set r (.map (es.eraseIdxIfInBounds i) ck)))
def zop :TypeDesc->Bool
  | .int _ | .string | .bool=>true
  | _=>false
def bitsI (op:BinOp) (k:IntKind) (x y:Int):Int:=
  match op with
  | .and=>k.wrap ((BitVec.ofInt k.bits x&&&BitVec.ofInt k.bits y).toNat)
  | .or=>k.wrap ((BitVec.ofInt k.bits x ||| BitVec.ofInt k.bits y).toNat)
  | .xor=>k.wrap ((BitVec.ofInt k.bits x^^^BitVec.ofInt k.bits y).toNat)
  | _=>k.wrap ((BitVec.ofInt k.bits x&&& ~~~ BitVec.ofInt k.bits y).toNat)
def shlI (k:IntKind) (x y:Int):Int:=k.wrap (x*2^(min y.toNat k.bits))
def shrI (k:IntKind) (x y:Int):Int:=x.fdiv (2^(min y.toNat k.bits))
def sat (base:Option Addr) (size:Nat) (i:Int):Addr:=(base.getD ⟨0,0,none⟩).add (i.toNat*size)
def InB (base:Option Addr) (len:Nat) (i:Int):Prop:=base≠none/\0<=i/\i<(len:Int)
def sbase (base:Option Addr) (size l m:Nat):Option Addr:=if m=l then base else base.map (·.add (l*size))
def intW (c:Option Bool) (op:BinOp) (k:IntKind) (x y:Int) (K:LV->Prop):Prop:=
  match op with
  | .add=>K (.v (.int k (k.wrap (x+y))))
  | .sub=>K (.v (.int k (k.wrap (x-y))))
  | .mul=>K (.v (.int k (k.wrap (x*y))))
  | .quo=>Req c (y≠0)/\K (.v (.int k (k.wrap (x.tdiv y))))
  | .rem=>Req c (y≠0)/\K (.v (.int k (x.tmod y)))
  | .and=>K (.v (.int k (bitsI .and k x y)))
  | .or=>K (.v (.int k (bitsI .or k x y)))
  | .xor=>K (.v (.int k (bitsI .xor k x y)))
  | .andNot=>K (.v (.int k (bitsI .andNot k x y)))
  | .eql=>K (.v (.bool (x==y)))
  | .neq=>K (.v (.bool (x !=y)))
  | .lss=>K (.v (.bool (decide (x<y))))
  | .leq=>K (.v (.bool (decide (x<=y))))
  | .gtr=>K (.v (.bool (decide (x>y))))
  | .geq=>K (.v (.bool (decide (x>=y))))
  | _=>False
def genV (c:Option Bool) (P:Program) (tb:Tb) (t:Nat) (s:Sem Value) (h:Hp) (K:LV->Prop):Prop:=
  match tb.ty t with
  | some e=>SemV c P s e.sh h (fun x=>K (.v (e.sh.enc x)))
  | none=>False
def binS (op:BinOp) (t:Nat) (x y:Operand) (a b:Value):Sem Value:=do eqGuard op t x y a b;binOp op t a b
def zcp1 :Operand->Bool
  | .const (.pointer none) | .const (.slice none _ _) | .const (.map none) | .const .nilFunc | .const .nilIface=>true
  | _=>false
def nilW (op:BinOp) (b:Bool) (K:LV->Prop):Prop:=
  match op with
  | .eql=>K (.v (.bool b))
  | .neq=>K (.v (.bool (!b)))
  | _=>False
def zsw :Value->Bool
  | .nilIface=>true
  | _=>false
def zyl1 :Operand->Bool
  | .const .nilIface=>true
  | _=>false
def isIfD (tb:Tb) (t:Nat):Bool:=match tb.ty t with
  | some e=>match e.und with
    | .interface _=>true
    | _=>false
  | none=>false
def isIfV :Value->Bool
  | .nilIface=>true
  | .iface _ _=>true
  | _=>false
def binW0 (c:Option Bool) (P:Program) (tb:Tb) (op:BinOp) (t:Nat) (x y:Operand) (rt:Nat) (a b:Value) (h:Hp) (K:LV->Prop):Prop:=
  match a,b with
  | .int k m,.int k' n=>
    match op with
    | .shl=>Req c (0<=n)/\K (.v (.int k (shlI k m n)))
    | .shr=>Req c (0<=n)/\K (.v (.int k (shrI k m n)))
    | op=>cond (kEq k k') (intW c op k m n K) False
  | .bool m,.bool n=>match tb.ty t with
    | some e=>match e.und,op with
      | .bool,.eql=>K (.v (.bool (m==n)))
      | .bool,.neq=>K (.v (.bool (!(m==n))))
      | _,_=>False
    | none=>False
  | .string m,.string n=>match op with
    | .eql=>K (.v (.bool (m.toList==n.toList)))
    | .neq=>K (.v (.bool (!(m.toList==n.toList))))
    | .add=>Req c (m.size+n.size<=9223372036854775807)/\K (.v (.string (m++n)))
    | _=>genV c P tb rt (binS op t x y (.string m) (.string n)) h K
  | .pointer p,.pointer q=>cond (zcp1 y) (match tb.ty t with
    | some e=>match e.und with
      | .pointer _=>nilW op p.isNone K
      | _=>False
    | none=>False) (genV c P tb rt (binS op t x y (.pointer p) (.pointer q)) h K)
  | a,b=>genV c P tb rt (binS op t x y a b) h K
def binW (c:Option Bool) (P:Program) (tb:Tb) (op:BinOp) (t:Nat) (x y:Operand) (rt:Nat) (a b:Value) (h:Hp) (K:LV->Prop):Prop:=
  cond (zyl1 y) (cond (isIfD tb t) (Req c (isIfV a=true)/\nilW op (zsw a) K) (binW0 c P tb op t x y rt a b h K)) (binW0 c P tb op t x y rt a b h K)
def onL (l:Option LV) (K:LV->Prop):Prop:=match l with
  | some l=>K l
  | none=>False
def onV (l:Option LV) (K:Value->Prop):Prop:=match l with
  | some (.v x)=>K x
  | _=>False
def vals (s:St) (ch:Chain):List Operand->Option (List Value)
  | []=>some []
  | x::l=>match ev s ch x,vals s ch l with
    | some (.v v),some r=>some (v::r)
    | _,_=>none
def onVs (l:Option (List Value)) (K:List Value->Prop):Prop:=match l with
  | some l=>K l
  | none=>False
def zry1 (tb:Tb) (t i:Nat) (K:Nat->Nat->Prop):Prop:=
  match tb.ty t with
  | some e=>match e.und with
    | .struct fs=>match nth fs.toList i with
      | some f=>match tb.ty f.type with
        | some g=>match g.size with
          | 0=>False
          | n+1=>K f.offset (n+1)
        | none=>False
      | none=>False
    | _=>False
  | none=>False
def elemS (tb:Tb) (t:Nat):Option Ty:=
  match tb.ty t with
  | some e=>match e.und with
    | .slice u=>tb.ty u
    | _=>none
  | none=>none
def zha2 (tb:Tb) (t:Nat):Nat:=
  match tb.ty t with
  | some e=>match e.und with
    | .slice u=>u
    | _=>0
  | none=>0
def elemA (tb:Tb) (t:Nat):Option (Nat×Ty):=
  match tb.ty t with
  | some e=>match e.und with
    | .array n u=>match tb.ty u with
      | some g=>some (n,g)
      | none=>none
    | _=>none
  | none=>none
def partW (tb:Tb) (t:Nat) (cs:List Value) (off:Nat) (K:LV->Prop):Prop:=
  match tb.ty t with
  | some e=>cond (ziw e.und) (cond (Nat.ble (off+e.size) cs.length) (K (.v (.agg (takeL (dropL cs off) e.size).toArray))) False)
    (match nth cs off with
      | some v=>K (.v v)
      | none=>False)
  | none=>False
def zlr1 :Operand->Bool
  | .const _=>true
  | _=>false
def tysIn (tb:Tb):List Field->Bool
  | []=>true
  | f::r=>match tb.ty f.type with
    | some _=>tysIn tb r
    | none=>false
def fillW (tb:Tb) (fs:List Field) (cs:List Value):List (Nat×Value)->Option (List Value)
  | []=>some cs
  | (i,v)::r=>match nth fs i with
    | some f=>match tb.ty f.type with
      | some e=>cond (Nat.beq (zac v).length e.size) (cond (Nat.ble (f.offset+e.size) cs.length) (fillW tb fs (layL cs f.offset (zac v)) r) none) none
      | none=>none
    | none=>none
def fillA (size:Nat) (cs:List Value):List (Nat×Value)->Option (List Value)
  | []=>some cs
  | (i,v)::r=>cond (Nat.beq (zac v).length size) (cond (Nat.ble (i*size+size) cs.length) (fillA size (layL cs (i*size) (zac v)) r) none) none
def pairs (s:St) (ch:Chain):List (Nat×Operand)->Option (List (Nat×Value))
  | []=>some []
  | (i,x)::l=>match ev s ch x,pairs s ch l with
    | some (.v v),some r=>some ((i,v)::r)
    | _,_=>none
def repL {α:Type _} (l:List α):Nat->List α
  | 0=> []
  | n+1=>l++repL l n
def slB (c:Option Bool) (isSlice:Bool) (len cap:Nat) (lo hi mx:Option Int) (K:Nat->Nat->Nat->Prop):Prop:=
  match lo,hi,mx with
  | none,none,none=>K 0 len cap
  | some l,none,none=>Req c (0<=l/\l<=(len:Int))/\K l.toNat len cap
  | none,some x,none=>Req c (0<=x/\x<=(cap:Int))/\K 0 x.toNat cap
  | some l,some x,none=>Req c (0<=l/\l<=x/\x<=(cap:Int))/\K l.toNat x.toNat cap
  | none,some x,some m=>Req c (0<=x/\x<=m/\m<=(cap:Int))/\K 0 x.toNat m.toNat
  | some l,some x,some m=>Req c (0<=l/\l<=x/\x<=m/\m<=(cap:Int))/\K l.toNat x.toNat m.toNat
  | _,none,some _=>isSlice= !isSlice
def optI (s:St) (ch:Chain):Option Operand->Option (Option Int)
  | none=>some none
  | some x=>match ev s ch x with
    | some (.v (.int _ n))=>some (some n)
    | _=>none
def zhb2 (c:Option Bool) (tb:Tb) (t:Nat) (x:Value) (lo hi mx:Option Int) (K:LV->Prop):Prop:=
  match x with
  | .slice base len cap=>match elemS tb t with
    | some e=>slB c true len cap lo hi mx fun l n m=>LetW (⟨sbase base e.size l m,n-l,m-l⟩:Sl) fun y=>K (.v (.slice y.base y.len y.cap))
    | none=>False
  | .pointer (some a)=>match elemA tb t with
    | some (n,e)=>slB c false n n lo hi mx fun l x m=>LetW (⟨sbase (some a) e.size l m,x-l,m-l⟩:Sl) fun y=>K (.v (.slice y.base y.len y.cap))
    | none=>False
  | .string b=>match tb.ty t,mx with
    | some e,none=>match e.und with
      | .string=>slB c false b.size b.size lo hi none fun l n _=>K (.v (.string (b.extract l n)))
      | _=>False
    | _,_=>False
  | _=>False
def lenW (c:Option Bool) (P:Program) (tb:Tb) (ty rt:Nat) (x:Value) (h:Hp) (K:LV->Prop):Prop:=
  match tb.ty ty with
  | some e=>match e.und,x with
    | .string,.string b=>K (.v (.int .i64 (b.size:Int)))
    | .slice _,.slice _ n _=>K (.v (.int .i64 (n:Int)))
    | .array n _,_=>K (.v (.int .i64 (n:Int)))
    | _,_=>genV c P tb rt (Builtin.len_ #[ty] rt #[x]) h K
  | none=>False
def minI (lt:Int->Int->Int) (k:IntKind) (x:Int):List Value->Option Value
  | []=>some (.int k x)
  | .int _ y::r=>minI lt k (lt x y) r
  | _=>none
def min2I (x y:Int):Int:=if y<x then y else x
def max2I (x y:Int):Int:=if y>x then y else x
def unW (op:UnOp) (x:Value) (K:LV->Prop):Prop:=
  match op,x with
  | .not,.bool b=>K (.v (.bool !b))
  | .neg,.int k n=>K (.v (.int k (k.wrap (0-n))))
  | .neg,.float k b=>K (.v (.float k (Op.negFloat k b)))
  | .xor,.int k n=>K (.v (.int k (bitsI .xor k (if k.signed then -1 else k.max) n)))
  | _,_=>False
def zbo2 (s:St) (ch:Chain) (t:Nat) (w:Bool) (x:Operand):Option LV:=
  match x with
  | .tmp u=>match s.f u with
    | some (l,c)=>cond (sufx c ((t,w)::ch)) (some l) none
    | none=>none
  | .const v=>some (.v v)
  | _=>none
def pickW (s:St) (ch:Chain) (x a b:Operand) (K:LV->Prop):Prop:=
  match x with
  | .tmp t=>match s.f t with
    | some (.v (.bool p),c0)=>cond (sufx c0 ch)
      (match a,b with
        | .tmp _,.const (.bool false)=>onV (zbo2 s ch t true a) fun v=>match v with
          | .bool q=>LetW (p&&q) fun y=>K (.v (.bool y))
          | _=>False
        | .const (.bool true),.tmp _=>onV (zbo2 s ch t false b) fun v=>match v with
          | .bool q=>LetW (p || q) fun y=>K (.v (.bool y))
          | _=>False
        | .const (.bool true),.const (.bool false)=>K (.v (.bool p))
        | .const (.bool x),.const (.bool y)=>K (.v (.bool (cond p x y)))
        | _,_=>False) False
    | _=>False
  | _=>False
def biV (c:Option Bool) (P:Program) (tb:Tb) (b:Builtin) (vs:List Value) (ts:List TypeId) (rt:Nat) (h:Hp) (K:LV->Prop):Prop:=
  match b,vs,ts with
  | .len,[x],[ty]=>lenW c P tb ty rt x h K
  | .cap,[.slice _ _ c],[ty]=>match tb.ty ty with
    | some e=>match e.und with
      | .slice _=>K (.v (.int .i64 (c:Int)))
      | _=>False
    | none=>False
  | .min,.int k x::r,_=>match minI min2I k x r with
    | some v=>K (.v v)
    | none=>False
  | .max,.int k x::r,_=>match minI max2I k x r with
    | some v=>K (.v v)
    | none=>False
  | _,_,_=>False
def natOf (n:Int):Nat:=match n with
  | .ofNat m=>m
  | .negSucc _=>0
def idxW (c:Option Bool) (tb:Tb) (t:Nat) (cs:List Value) (n:Int) (K:LV->Prop):Prop:=
  match elemA tb t with
  | some (len,e)=>cond (ziw e.und) False (Req c (0<=n/\n<(len:Int))/\∃x,Req c (cs[n.toNat*e.size]? =some (e.sh.enc x))/\K (.v (e.sh.enc x)))
  | none=>False
def valW (P:Program) (tb:Tb) (o:Oper) (ch:Chain) (s:St) (h:Hp) (K:LV->Prop):Prop:=
  match o.op with
  | .move x=>onL (ev s ch x) K
  | .assign x=>onL (ev s ch x) K
  | .pick x a b=>pickW s ch x a b K
  | .extract x i=>onV (ev s ch x) fun v=>match v with
    | .tuple vs=>match nth vs.toList i with
      | some y=>K (.v y)
      | none=>False
    | _=>False
  | .binOp op t x y _=>onV (ev s ch x) fun a=>onV (ev s ch y) fun b=>binW (cnd s ch) P tb op t x y o.type a b h K
  | .unOp op _ x=>onV (ev s ch x) fun a=>unW op a K
  | .nilCheck x=>match ev s ch x with
    | some (.v (.pointer p))=>NilW (cnd s ch) p fun a=>K (.v (.pointer (some a)))
    | some (.box k off)=>K (.box k off)
    | some (.boxd k off)=>K (.boxd k off)
    | _=>False
  | .load t x=>match ev s ch x with
    | some (.v (.pointer (some a)))=>match tb.ty t with
      | some e=>LdW (cnd s ch) e.sh h a fun x=>K (.v (e.sh.enc x))
      | none=>False
    | some (.box k off)=>match s.m k with
      | some cs=>partW tb t cs off K
      | none=>False
    | some (.boxd k off)=>match s.m k,tb.ty t with
      | some cs,some e=>cond (ziw e.und) False (∃x,Req (cnd s ch) (cs[off]? =some (e.sh.enc x))/\K (.v (e.sh.enc x)))
      | _,_=>False
    | _=>False
  | .fieldAddr t x i=>zry1 tb t i fun off _=>match ev s ch x with
    | some (.v (.pointer (some a)))=>K (.v (.pointer (some (a.add off))))
    | some (.box k o)=>K (.box k (o+off))
    | some (.boxd k o)=>K (.boxd k (o+off))
    | _=>False
  | .field t x i=>match tb.ty t with
    | some e=>match e.und with
      | .struct fs=>match nth fs.toList i with
        | some f=>onV (ev s ch x) fun v=>match v with
          | .agg cs=>partW tb f.type cs.toList f.offset K
          | _=>False
        | none=>False
      | _=>False
    | none=>False
  | .indexAddr t x i=>match ev s ch x,ev s ch i with
    | some (.v (.slice base len _)),some (.v (.int _ n))=>match elemS tb t with
      | some e=>Req (cnd s ch) (InB base len n)/\K (.v (.pointer (some (sat base e.size n))))
      | none=>False
    | some (.v (.pointer (some a))),some (.v (.int _ n))=>match elemA tb t with
      | some (len,e)=>Req (cnd s ch) (0<=n/\n<(len:Int))/\K (.v (.pointer (some (a.add (n.toNat*e.size)))))
      | none=>False
    | some (.box k off),some (.v (.int _ n))=>match elemA tb t with
      | some (len,e)=>Req (cnd s ch) (0<=n/\n<(len:Int))/\cond (zlr1 i) (K (.box k (off+natOf n*e.size))) (K (.boxd k (off+n.toNat*e.size)))
      | none=>False
    | _,_=>False
  | .index t x i=>match ev s ch x,ev s ch i with
    | some (.v (.string b)),some (.v (.int _ n))=>match tb.ty t with
      | some y=>match y.und with
        | .string=>Req (cnd s ch) (0<=n/\n<(b.size:Int))/\K (.v (.int .u8 ((b.data.toList.getD n.toNat 0).toNat:Int)))
        | _=>False
      | none=>False
    | some (.v (.agg cs)),some (.v (.int _ n))=>idxW (cnd s ch) tb t cs.toList n K
    | _,_=>False
  | .slice t x lo hi mx=>onV (ev s ch x) fun v=>match optI s ch lo,optI s ch hi,optI s ch mx with
    | some lo,some hi,some mx=>zhb2 (cnd s ch) tb t v lo hi mx K
    | _,_,_=>False
  | .makeInterface t x=>onV (ev s ch x) fun v=>match tb.ty t with
    | some e=>match e.und with
      | .interface _=>False
      | _=>K (.v (.iface t v))
    | none=>False
  | .makeFunc fn first captured=>onVs (vals s ch first.toList) fun a=>onVs (vals s ch captured.toList) fun b=>K (.v (.func fn a.toArray b.toArray))
  | .convert src dst x=>onV (ev s ch x) fun v=>match tb.ty src,tb.ty dst,v with
    | some _,some e,.int _ n=>match e.und with
      | .int k=>K (.v (.int k (k.wrap n)))
      | _=>genV (cnd s ch) P tb dst (convert src dst v) h K
    | some _,some _,v=>genV (cnd s ch) P tb dst (convert src dst v) h K
    | _,_,_=>False
  | .build t parts=>onVs ((pairs s ch parts.toList).map fun _=> []) fun _=>match pairs s ch parts.toList,tb.ty t with
    | some ps,some e=>match e.und with
      | .struct fs=>cond (tysIn tb fs.toList) (match fillW tb fs.toList (zac e.zero) ps with
        | some cs=>K (.v (.agg cs.toArray))
        | none=>False) False
      | .array _ u=>match tb.ty u with
        | some g=>match fillA g.size (zac e.zero) ps with
          | some cs=>K (.v (.agg cs.toArray))
          | none=>False
        | none=>False
      | _=>False
    | _,_=>False
  | .lookup t x i ok=>onV (ev s ch x) fun a=>onV (ev s ch i) fun b=>match a,tb.ty t with
    | .map m,some e=>match e.und with
      | .map k u=>match tb.ty k,tb.ty u with
        | some ke,some ue=>cond (zop ke.und) (LookW (cnd s ch) ke.und ue.sh ue.zero m b h fun x y=>cond ok (K (.v (.tuple #[ue.sh.enc x,.bool y]))) (K (.v (ue.sh.enc x))))
            (genV (cnd s ch) P tb o.type (Instr.lookup t a b ok) h K)
        | _,_=>False
      | _=>False
    | _,_=>False
  | .call {callee:=.builtin b,args:=xs,argTypes:=ts}=>onVs (vals s ch xs.toList) fun vs=>biV (cnd s ch) P tb b vs ts.toList o.type h K
  | _=>False
inductive Kd where
  | pure
  | box
  | mem
def kindD (tb:Tb) (o:Oper) (ch:Chain) (s:St):Kd:=
  match o.op with
  | .load _ x=>match ev s ch x with
    | some (.box _ _)=>.box
    | some (.boxd _ _)=>.box
    | _=>.mem
  | .lookup .. =>.mem
  | .binOp op _ x y _=>match ev s ch x,ev s ch y with
    | some (.v (.int _ _)),some (.v (.int _ _))=>.pure
    | some (.v (.bool _)),some (.v (.bool _))=>.pure
    | some (.v (.string _)),some (.v (.string _))=>match op with
      | .eql=>.pure
      | .neq=>.pure
      | .add=>.pure
      | _=>.mem
    | some (.v (.pointer _)),some (.v (.pointer _))=>cond (zcp1 y) .pure .mem
    | _,_=>.mem
  | .convert _ d x=>match ev s ch x,tb.ty d with
    | some (.v (.int _ _)),some e=>match e.und with
      | .int _=>.pure
      | _=>.mem
    | _,_=>.mem
  | .call {callee:=.builtin .len,args:=xs,argTypes:=ts}=>match vals s ch xs.toList,ts.toList with
    | some [x],[t]=>match tb.ty t with
      | some e=>match e.und,x with
        | .string,.string _=>.pure
        | .slice _,.slice _ _ _=>.pure
        | .array _ _,_=>.pure
        | _,_=>.mem
      | none=>.mem
    | _,_=>.mem
  | _=>.pure
def genE (c:Option Bool) (P:Program) (tb:Tb) (t:Nat) (s:Sem Value) (K:LV->Hp->Prop) (h:Hp):Prop:=
  match tb.ty t with
  | some e=>EffC c (fun (K:e.sh.T->Hp->Prop) h=>SemE P s e.sh K h) (fun x h'=>K (.v (e.sh.enc x)) h') h
  | none=>False
def shE (c:Option Bool) (P:Program) (sh:Shape) (s:Sem Value) (K:LV->Hp->Prop) (h:Hp):Prop:=
  EffC c (fun (K:sh.T->Hp->Prop) h=>SemE P s sh K h) (fun x h'=>K (.v (sh.enc x)) h') h
def zym1 (P:Program) (tb:Tb) (c:Option Bool) (t:Nat) (x y z:Option LV) (K:LV->Hp->Prop) (h:Hp):Prop:=
  onV x fun a=>onV y fun b=>onV z fun v=>match a,tb.ty t with
    | .map m,some e=>match e.und with
      | .map k _=>match tb.ty k with
        | some ke=>EffC c (fun (K:Unit->Hp->Prop) h=>cond (zop ke.und) (zrq ke.und m b v (K ()) h) (SemU P (Instr.mapUpdate t a b v) (K ()) h)) (fun _ h'=>K (.v (.tuple #[])) h') h
        | none=>False
      | _=>False
    | _,_=>False
def appW (tb:Tb) (c:Option Bool) (ts:List TypeId) (vs:List Value) (h:Hp) (K:LV->Hp->Prop):Prop:=
  match vs,ts with
  | [.slice p n c1,.slice p' n' c'],[t,t']=>match elemS tb t,elemS tb t' with
    | some e,some _=>EffC c (zai e.size e.bytes (zac e.zero) ⟨p,n,c1⟩ ⟨p',n',c'⟩) (fun l h'=>K (.v (.slice l.base l.len l.cap)) h') h
    | _,_=>False
  | [.slice p n c1,.string x],[t,t']=>match elemS tb t,tb.ty t' with
    | some e,some e'=>match e.und,e'.und with
      | .int .u8,.string=>cond (Nat.beq e.bytes 1) (EffC c (zec2 (zha2 tb t) ⟨p,n,c1⟩ x) (fun l h'=>K (.v (.slice l.base l.len l.cap)) h') h) False
      | _,_=>False
    | _,_=>False
  | [.slice p n c1,.int .i64 m],[t,t']=>match elemS tb t,tb.ty t' with
    | some e,some e'=>match e'.und with
      | .int .i64=>EffC c (zlb1 e.size e.bytes (zac e.zero) ⟨p,n,c1⟩ m) (fun l h'=>K (.v (.slice l.base l.len l.cap)) h') h
      | _=>False
    | _,_=>False
  | _,_=>False
def copyW (P:Program) (tb:Tb) (ty:Nat) (c:Option Bool) (ts:Array TypeId) (vs:List Value) (h:Hp) (K:LV->Hp->Prop):Prop:=
  match vs,ts.toList with
  | [.slice p n c1,.slice p' n' c'],[t,_]=>match elemS tb t with
    | some e=>EffC c (CopyW e.size ⟨p,n,c1⟩ ⟨p',n',c'⟩) (fun k h'=>K (.v (.int .i64 k)) h') h
    | none=>False
  | _,_=>genE c P tb ty (Builtin.copy_ ts ty vs.toArray) K h
def delW (P:Program) (tb:Tb) (ty:Nat) (c:Option Bool) (ts:Array TypeId) (vs:List Value) (h:Hp) (K:LV->Hp->Prop):Prop:=
  match vs,ts.toList with
  | [.map m,k],[t,_]=>match tb.ty t with
    | some e=>match e.und with
      | .map kt _=>match tb.ty kt with
        | some ke=>cond (zop ke.und) (EffC c (fun (K:Unit->Hp->Prop) h=>zlq1 ke.und m k (K ()) h) (fun _ h'=>K (.v (.tuple #[])) h') h)
            (genE c P tb ty (Builtin.delete_ ts ty vs.toArray) K h)
        | none=>False
      | _=>False
    | none=>False
  | _,_=>False
def zhc2 (P:Program) (tb:Tb) (ty:Nat) (c:Option Bool) (g:FuncId) (vs:List Value) (h:Hp) (K:LV->Hp->Prop):Prop:=
  match tb.ty ty with
  | some e=>cond (tb.call g) (EffC c (CallT P g vs e.sh) (fun x h'=>K (.v (e.sh.enc x)) h') h) (match tb.ext g with
    | some f=>EffC c (fun (K:e.sh.T->Hp->Prop) h=>SemE P (f vs.toArray) e.sh K h) (fun x h'=>K (.v (e.sh.enc x)) h') h
    | none=>False)
  | none=>False
def zhd2 (P:Program) (tb:Tb) (ty:Nat) (c:Option Bool) (fv:Option LV) (vs:List Value) (h:Hp) (K:LV->Hp->Prop):Prop:=
  match tb.ty ty with
  | some e=>onV fv fun fv=>EffC c (CallV P tb fv vs e.sh) (fun x h'=>K (.v (e.sh.enc x)) h') h
  | none=>False
def effW (P:Program) (tb:Tb) (o:Oper) (ch:Chain) (s:St) (h:Hp) (K:LV->Hp->Prop):Prop:=
  match o.op with
  | .store t x y=>match ev s ch x,ev s ch y with
    | some (.v (.pointer (some a))),some (.v v)=>match ch,tb.ty t with
      | [],some e=>cond (Nat.beq (zac v).length e.size) (cond (zax (zac v)) (StW h a (zac v) fun h'=>K (.v (.tuple #[])) h') False) False
      | _,_=>False
    | _,_=>False
  | .alloc t=>match tb.ty t with
    | some e=>EffC (cnd s ch) (zbm2 t (zac e.zero)) (fun a h'=>K (.v (.pointer (some a))) h') h
    | none=>False
  | .box _ x=>onV (ev s ch x) fun v=>EffC (cnd s ch) (NewW (zac v)) (fun a h'=>K (.v (.pointer (some a))) h') h
  | .buildSlice t len parts=>match pairs s ch parts.toList,elemS tb t with
    | some ps,some e=>cond (Nat.ble (len*e.size) 16777216) (match fillA e.size (repL (zac e.zero) len) ps with
      | some cs=>EffC (cnd s ch) (NewW cs) (fun a h'=>K (.v (.slice (some a) len len)) h') h
      | none=>False) False
    | _,_=>False
  | .makeMap _ none=>EffC (cnd s ch) zaf1 (fun m h'=>K (.v (.map m)) h') h
  | .makeSlice t x y=>onV (ev s ch x) fun a=>onV (ev s ch y) fun b=>match a,b,elemS tb t with
    | .int .i64 m,.int .i64 n,some e=>EffC (cnd s ch) (MakeW e.bytes (zac e.zero) m n) (fun l h'=>K (.v (.slice l.base l.len l.cap)) h') h
    | _,_,_=>False
  | .mapUpdate t x y z=>zym1 P tb (cnd s ch) t (ev s ch x) (ev s ch y) (ev s ch z) K h
  | .insert t x y z=>zym1 P tb (cnd s ch) t (ev s ch x) (ev s ch y) (ev s ch z) K h
  | .mapEntry t x y=>onV (ev s ch x) fun a=>onV (ev s ch y) fun b=>genE (cnd s ch) P tb o.type (Instr.mapEntry t a b) K h
  | .binOp op t x y _=>onV (ev s ch x) fun a=>onV (ev s ch y) fun b=>genE (cnd s ch) P tb o.type (binS op t x y a b) K h
  | .entryStore t x y z=>onV (ev s ch x) fun a=>onV (ev s ch y) fun b=>onV (ev s ch z) fun c=>
    EffC (cnd s ch) (fun (K:Unit->Hp->Prop) h=>SemU P (Instr.entryStore t a b c) (K ()) h) (fun _ h'=>K (.v (.tuple #[])) h') h
  | .range t x=>onV (ev s ch x) fun a=>shE (cnd s ch) P shPtr (Instr.range t a) K h
  | .next x b=>onV (ev s ch x) fun a=>shE (cnd s ch) P zsa2 (Instr.next a b o.type) K h
  | .convert src dst x=>onV (ev s ch x) fun v=>match v,tb.ty src,elemS tb dst with
    | .string b,some e,some g=>match e.und,g.und with
      | .string,.int .u8=>EffC (cnd s ch) (zpc2 b) (fun l h'=>K (.v (.slice l.base l.len l.cap)) h') h
      | _,_=>False
    | .slice p n c,some e,some g=>match e.und,g.und with
      | .slice _,.int .u8=>cond (Nat.beq src dst) (EffC (cnd s ch) (MarkW p) (fun _ h'=>K (.v (.slice p n c)) h') h) False
      | _,_=>False
    | _,_,_=>False
  | .call {callee:=.builtin b,args:=xs,argTypes:=ts}=>onVs (vals s ch xs.toList) fun vs=>match b with
    | .append=>appW tb (cnd s ch) ts.toList vs h K
    | .copy=>copyW P tb o.type (cnd s ch) ts vs h K
    | .delete=>delW P tb o.type (cnd s ch) ts vs h K
    | .clear=>genE (cnd s ch) P tb o.type (Builtin.clear_ ts o.type vs.toArray) K h
    | _=>False
  | .call {callee:=.value f,args:=xs,argTypes:=_}=>onVs (vals s ch xs.toList) fun vs=>match f with
    | .func g=>zhc2 P tb o.type (cnd s ch) g vs h K
    | .tmp t=>zhd2 P tb o.type (cnd s ch) (ev s ch (.tmp t)) vs h K
    | _=>False
  | _=>False
def zpq2 (tb:Tb) (o:Oper):Bool:=
  match o.op with
  | .convert s d _=>match tb.ty s,tb.ty d with
    | some a,some b=>match a.und,b.und with
      | .int _,.int _ | .int _,.float _ | .float _,.int _ | .float _,.float _ | .int _,.string | .slice _,.string | .string,.string=>true
      | _,_=>false
    | _,_=>false
  | _=>false
def isFA (tb:Tb) (op:BinOp) (t:Nat):Bool:=
  match op with
  | .add | .sub | .mul | .quo=>match tb.ty t with
    | some e=>match e.und with
      | .float _=>true
      | _=>false
    | none=>false
  | _=>false
def isVal (tb:Tb) (o:Oper):Bool:=
  match o.op with
  | .binOp op t _ _ _=>cond (isFA tb op t) false true
  | .move _ | .assign _ | .pick .. | .extract .. | .unOp .. | .nilCheck _ | .load .. | .fieldAddr .. | .field .. | .indexAddr .. | .index ..
  | .slice .. | .makeInterface .. | .makeFunc .. | .build .. | .lookup .. =>true
  | .convert .. =>zpq2 tb o
  | .call {callee:=.builtin b,..}=>match b with
    | .len | .cap | .min | .max=>true
    | _=>false
  | _=>false
def has (l:List Nat) (i:Nat):Bool:=
  match l with
  | []=>false
  | a::r=>cond (Nat.beq i a) true (has r i)
def modsO :List Oper->List Nat
  | []=> []
  | o::r=>match o.dst with
    | some d=>d::modsO r
    | none=>modsO r
def app {α:Type _}:List α->List α->List α
  | [],l=>l
  | a::r,l=>a::app r l
def allIn :List Nat->List Nat->Bool
  | [],_=>true
  | a::r,l=>cond (has l a) (allIn r l) false
structure Ctx where
  P:Program
  tb:Tb
  priv:List Nat
def dstIn (l:List Nat) (o:Oper):Option Nat:=
  match o.dst with
  | some d=>cond (has l d) (some d) none
  | none=>none
def zev (ops:List Oper):Nat->Oper->Option Chain
  | 0,_=>none
  | n+1,o=>match o.guard with
    | none=>some []
    | some (j,w)=>match nth ops j with
      | some p=>match p.dst,zev ops n p with
        | some d,some c=>some ((d,w)::c)
        | _,_=>none
      | none=>none
def zvg1 (C:Ctx) (t:Nat) (a b:Value) (ok:Bool) (h:Hp) (v:Value):Prop:=
  match a,C.tb.ty t with
  | .map m,some e=>match e.und with
    | .map k u=>match C.tb.ty k,C.tb.ty u with
      | some ke,some ue=>cond (zop ke.und) (cond ok (match v with
          | .tuple ⟨[x,.bool y]⟩=>zbn2 ke.und ue.zero m b h x y
          | _=>False) (∃y,zbn2 ke.und ue.zero m b h v y)) (SemIs C.P (Instr.lookup t a b ok) h v)
      | _,_=>False
    | _=>False
  | _,_=>False
def Again (C:Ctx) (mch:Nat->Bool) (o:Oper) (ch:Chain) (s:St) (h:Hp):Prop:=
  match o.op,o.dst with
  | .load _ x,some d=>match s.f d with
    | some (.v v,_)=>match ev s ch x with
      | some (.v (.pointer (some a)))=>Req (cnd s ch) (LdIs h a (zac v))
      | some (.box b _)=>cond (mch b) False True
      | some (.boxd b _)=>cond (mch b) False True
      | _=>False
    | _=>False
  | .lookup t x i ok,some d=>match s.f d with
    | some (.v v,_)=>onV (ev s ch x) fun a=>onV (ev s ch i) fun b=>Req (cnd s ch) (zvg1 C t a b ok h v)
    | _=>False
  | .call {callee:=.builtin .len,args:=xs,argTypes:=ts},some d=>match s.f d with
    | some (.v v,_)=>match vals s ch xs.toList with
      | some [x]=>Req (cnd s ch) (SemIs C.P (Builtin.len_ ts o.type #[x]) h v)
      | _=>False
    | _=>False
  | _,_=>False
def zub (C:Ctx) (mch:Nat->Bool) (ops:List Oper) (s:St) (h:Hp):List Nat->Prop
  | []=>True
  | r::l=>(match nth ops r with
      | some o=>match zev ops ops.length o with
        | some ch=>Again C mch o ch s h
        | none=>False
      | none=>False)/\zub C mch ops s h l
def zla (s:St):Chain->Bool
  | []=>true
  | (d,_)::c=>match s.f d with
    | some (.v (.bool _),c')=>cond (chEq c' c) (zla s c) false
    | _=>false
def nodup :List Nat->Bool
  | []=>true
  | a::r=>cond (has r a) false (nodup r)
def zcq1 :List Oper->Bool
  | []=>true
  | o::r=>match o.guard with
    | none=>zcq1 r
    | some _=>false
def zbp2 (d i:Nat):List Oper->Option Nat
  | []=>none
  | o::r=>match o.op with
    | .extract (.tmp t) j=>cond (Nat.beq t d) (cond (Nat.beq j i) (some o.type) (zbp2 d i r)) (zbp2 d i r)
    | _=>zbp2 d i r
def zpd2 (tb:Tb) (d i:Nat) (ops:List Oper):Shape:=match zbp2 d i ops with
  | some t=>match tb.ty t with
    | some e=>e.sh
    | none=>shVal
  | none=>shVal
def entW (C:Ctx) (ops:List Oper) (o:Oper) (ch:Chain) (s:St) (h:Hp) (K:LV->Hp->Prop):Prop:=
  match o.op,o.dst with
  | .entry x,some d=>onV (ev s ch x) fun a=>shE (cnd s ch) C.P (zgl (zpd2 C.tb d 0 ops) (zpd2 C.tb d 1 ops)) (Instr.entry a) K h
  | _,_=>False
def opW (C:Ctx) (ops:List Oper) (mok:List Nat) (o:Oper) (s:St) (h:Hp) (K:St->Hp->Prop):Prop:=
  match zev ops ops.length o with
  | none=>False
  | some ch=>cond (zla s ch)
    (cond (isVal C.tb o) (valW C.P C.tb o ch s h fun l=>K (s.put o.dst l ch) h)
    (match dstIn C.priv o,ch with
      | some d,[]=>cond (has mok d) (match o.op with
        | .alloc t=>match C.tb.ty t with
          | some e=>K ((s.put (some d) (.box d 0) []).putM d (zac e.zero)) h
          | none=>False
        | .box _ x=>onV (ev s ch x) fun v=>K ((s.put (some d) (.box d 0) []).putM d (zac v)) h
        | _=>False) False
      | some _,_=>False
      | none,_=>match o.op with
        | .store t x y=>match ev s ch x,ev s ch y with
          | some (.box k off),some (.v v)=>match s.m k,C.tb.ty t,ch with
            | some cs,some e,[]=>cond (has mok k) (cond (Nat.beq (zac v).length e.size) (cond (Nat.ble (off+e.size) cs.length) (cond (zax (zac v))
                (K ((s.put o.dst (.v (.tuple #[])) ch).putM k (layL cs off (zac v))) h) False) False) False) False
            | _,_,_=>False
          | _,_=>effW C.P C.tb o ch s h fun l h'=>K (s.put o.dst l ch) h'
        | .entry _=>entW C ops o ch s h fun l h'=>K (s.put o.dst l ch) h'
        | _=>effW C.P C.tb o ch s h fun l h'=>K (s.put o.dst l ch) h')) False
def chg (o:Oper) (s:St) (k:Nat):Bool:=match o.op with
  | .store _ x _=>(match ev s [] x with
    | some (.box b _)=>Nat.beq k b
    | some (.v _)=>false
    | _=>true)
  | _=>false
def zjn1 (tb:Tb) (o:Oper):Bool:=match o.op with
  | .move _ | .assign _ | .pick .. | .extract .. | .unOp .. | .nilCheck _ | .fieldAddr .. | .field .. | .indexAddr .. | .index .. | .slice .. | .makeInterface .. | .makeFunc .. | .build .. =>false
  | .binOp _ t _ _ _=>match tb.ty t with
    | some e=>match e.und with
      | .int _ | .bool | .string | .float _=>false
      | _=>true
    | none=>true
  | .call {callee:=.builtin b,argTypes:=ts,..}=>match b with
    | .cap | .min | .max=>false
    | .len=>match ts.toList with
      | [t]=>match tb.ty t with
        | some e=>match e.und with
          | .slice _ | .string | .array _ _=>false
          | _=>true
        | none=>true
      | _=>true
    | _=>true
  | .convert s _ _=>match tb.ty s with
    | some e=>match e.und with
      | .int _ | .float _ | .string=>false
      | _=>true
    | none=>true
  | _=>true
def zhe2 (C:Ctx) (ops:List Oper) (o:Oper) (s:St):Bool:=
  cond (isVal C.tb o) (cond (zjn1 C.tb o) true (match zev ops ops.length o with
    | some ch=>match kindD C.tb o ch s with
      | .pure=>true
      | _=>false
    | none=>false)) true
def ordW (C:Ctx) (ops:List Oper) (mok:List Nat):List (Nat×List Nat)->St->Hp->(St->Hp->Prop)->Prop
  | [],s,h,K=>K s h
  | (i,ws)::r,s,h,K=>match nth ops i with
    | some o=>cond (zhe2 C ops o s) (opW C ops mok o s h fun s' h'=>match ws with
      | []=>ordW C ops mok r s' h' K
      | ws=>zub C (chg o s) ops s' h' ws/\ordW C ops mok r s' h' K) False
    | none=>False
def seqW (C:Ctx) (ops:List Oper) (mok:List Nat):List Oper->St->Hp->(St->Hp->Prop)->Prop
  | [],s,h,K=>K s h
  | o::r,s,h,K=>opW C ops mok o s h fun s' h'=>seqW C ops mok r s' h' K
def zag1 (e:Edge):Bool:=match e.ground with
  | .textOnly _=>false
  | .gcOnly _=>false
  | _=>true
def waits (o:Oper):List Nat:=go o.after.toList
  where
  go:List Edge->List Nat
    | []=> []
    | e::r=>cond (zag1 e) (e.on::go r) (go r)
def addN (j:Nat) (l:List Nat):List Nat:=cond (has l j) l (j::l)
def mrgN :List Nat->List Nat->List Nat
  | [],b=>b
  | a::r,b=>mrgN r (addN a b)
def aheads :List Oper->List (List Nat)->List (List Nat)
  | [],acc=>acc
  | o::r,acc=>aheads r (app acc [union (waits o) acc])
  where
  union:List Nat->List (List Nat)->List Nat
    | [],_=> []
    | j::l,acc=>addN j (mrgN (match nth acc j with
      | some x=>x
      | none=> []) (union l acc))
def zce (rows:List (List Nat)) (i:Nat):List Nat:=match nth rows i with
  | some l=>l
  | none=> []
def zam (priv:List Nat) (o:Oper):Bool:=match o.op,o.dst with
  | .alloc _,some d=>has priv d
  | .box _ _,some d=>has priv d
  | _,_=>false
def sndL :List (Nat×Operand)->List Operand
  | []=> []
  | (_,x)::r=>x::sndL r
def optL :Option Operand->List Operand
  | none=> []
  | some x=> [x]
def zhf2 :Op->Option (List Operand)
  | .alloc _=>some []
  | .move x | .assign x | .box _ x | .load _ x | .nilCheck x | .unOp _ _ x | .convert _ _ x | .fieldAddr _ x _ | .field _ x _ | .range _ x | .next x _ | .entry x | .extract x _ | .makeInterface _ x=>some [x]
  | .pick c a b=>some [c,a,b]
  | .build _ ps | .buildSlice _ _ ps=>some (sndL ps.toList)
  | .store _ a v | .binOp _ _ a v _ | .makeSlice _ a v | .indexAddr _ a v | .index _ a v | .lookup _ a v _ | .mapEntry _ a v=>some [a,v]
  | .makeFunc _ first captured=>some (app first.toList captured.toList)
  | .makeMap _ r=>some (optL r)
  | .slice _ x l h m=>some (x::app (optL l) (app (optL h) (optL m)))
  | .mapUpdate _ m k v | .entryStore _ m k v | .insert _ m k v=>some [m,k,v]
  | .call {callee:=.value f,args:=xs,..}=>some (f::xs.toList)
  | .call {callee:=.builtin _,args:=xs,..}=>some xs.toList
  | _=>none
def dstIs (o:Oper) (t:Nat):Bool:=match o.dst with
  | some d=>Nat.beq d t
  | none=>false
def looksAt (o:Oper) (t:Nat):Bool:=match zhf2 o.op with
  | some l=>go l
  | none=>true
  where
  go:List Operand->Bool
    | []=>false
    | .tmp u::r=>cond (Nat.beq u t) true (go r)
    | _::r=>go r
def zqf1 (rows:List (List Nat)) (i t:Nat):List Oper->Nat->Bool
  | [],_=>true
  | p::r,j=>cond (cond (dstIs p t) (cond (has (zce rows i) j) true (cond (Nat.beq i j) true (has (zce rows j) i))) true) (zqf1 rows i t r (j+1)) false
def looksOk (ops:List Oper) (rows:List (List Nat)) (i:Nat) (o:Oper):Bool:=
  match zhf2 o.op with
  | some l=>cond (go l) (match o.guard with
    | none=>true
    | some (j,_)=>has (zce rows i) j) false
  | none=>false
  where
  go:List Operand->Bool
    | []=>true
    | .tmp t::r=>cond (zqf1 rows i t ops 0) (go r) false
    | _::r=>go r
def isWar (rows:List (List Nat)) (j:Nat) (o:Oper):List Oper->Nat->Bool
  | [],_=>false
  | p::r,i=>match o.dst with
    | none=>false
    | some d=>cond (cond (looksAt p d) (cond (has (zce rows i) j) false true) false) true (isWar rows j o r (i+1))
def planGo (tb:Tb) (priv:List Nat) (ops:List Oper) (rows:List (List Nat)):List (Nat×List Nat)->List Nat->Option Nat->Bool
  | [],_,_=>true
  | (i,ws)::r,done,last=>match nth ops i with
    | some o=>cond (cond (allIn (waits o) done) (looksOk ops rows i o) false)
      (cond (has done i) false (cond (match last with
          | none=>true
          | some e=>has (zce rows i) e)
        (match cond (isVal tb o) true (zam priv o),isWar rows i o ops 0 with
          | true,false=>planGo tb priv ops rows r (i::done) last
          | true,true=>planGo tb priv ops rows r (i::done) (some i)
          | false,_=>cond (watched tb ops rows ws i done) (planGo tb priv ops rows r (i::done) (some i)) false) false)) false
    | none=>false
  where
  watched (tb:Tb) (ops:List Oper) (rows:List (List Nat)) (ws:List Nat) (e:Nat):List Nat->Bool
    | []=>true
    | r::l=>cond (match nth ops r with
        | some o=>cond (cond (zjn1 tb o) (isVal tb o) false) (cond (has ws r) true (has (zce rows e) r)) true
        | none=>false) (watched tb ops rows ws e l) false
def St.clean (s:St):St:={f:=fun i=>match s.f i with | some (l,[])=>some (l,[]) | _=>none,m:=s.m}
def zba (priv:List Nat):List Oper->List Nat
  | []=> []
  | o::r=>cond (zam priv o) (match o.dst with
    | some d=>d::zba priv r
    | none=>zba priv r) (zba priv r)
def dropL' (l:List Nat) (x:Option (LV×Chain)):Option (LV×Chain):=match x with
  | some (.box k o,c)=>cond (has l k) none (some (.box k o,c))
  | some (.boxd k o,c)=>cond (has l k) none (some (.boxd k o,c))
  | some (.v v,c)=>some (.v v,c)
  | none=>none
def St.dropB (s:St) (l:List Nat):St:=match l with
  | []=>s
  | l=>{f:=fun i=>dropL' l (s.f i),m:=fun k=>cond (has l k) none (s.m k)}
def zij :List Oper->Nat->Bool
  | [],_=>true
  | o::r,i=>match o.guard with
    | none=>zij r (i+1)
    | some (j,_)=>cond (Nat.blt j i) (zij r (i+1)) false
def seqOk (priv:List Nat) (ops:List Oper):Bool:=
  cond (nodup (zba priv ops)) (cond (zcq1 ops) true (cond (nodup (modsO ops)) (zij ops 0) false)) false
structure J where
  isM:Bool
  i:Nat
  t:Nat
inductive Ann where
  | tt
  | sq (x y:Ann)
  | jn (js:List J) (mm:List Nat) (x y:Ann)
  | lp (js:List J) (mm:List Nat) (x:Ann)
  | bk (x:Ann)
  | bj (js:List J) (mm:List Nat) (x:Ann)
  | sp (k:Nat) (x y:Ann)
  | gs (l:Nat) (x:Ann)
  | gj (l:Nat) (js:List J) (mm:List Nat) (x y:Ann)
  | rg (ord:List (Nat×List Nat))
  | r2 (pre:List (Nat×List Nat)) (i j:Nat) (x y:Ann)
  | gd (l:Nat) (a x:Ann)
def Ann.fst :Ann->Ann
  | .sq x _ | .jn _ _ x _ | .gj _ _ _ x _ | .sp _ x _ | .lp _ _ x | .bk x | .bj _ _ x=>x
  | _=>.tt
def Ann.snd :Ann->Ann
  | .sq _ y | .jn _ _ _ y | .gj _ _ _ _ y | .sp _ _ y=>y
  | _=>.tt
inductive Ex where
  | nrm
  | ret
  | ext (i:Nat)
  | gto (i:Nat)
abbrev Env :=Ex->St->Hp->Prop
def Env.nrm (E:Env) (K:St->Hp->Prop):Env
  | .nrm=>K
  | .ret=>E .ret
  | .ext i=>E (.ext i)
  | .gto i=>E (.gto i)
def Env.blk (E:Env) (id:Nat) (K:St->Hp->Prop):Env
  | .nrm=>K
  | .ret=>E .ret
  | .ext i=>cond (Nat.beq i id) K (E (.ext i))
  | .gto i=>E (.gto i)
def Env.noGto (E:Env):Env
  | .nrm=>E .nrm
  | .ret=>E .ret
  | .ext i=>E (.ext i)
  | .gto _=>fun _ _=>False
def JTup (tb:Tb):List J->Type
  | []=>Unit
  | [j]=>(shOf tb j.t).T
  | j::j2::js=>(shOf tb j.t).T×JTup tb (j2::js)
def zbq2 (tb:Tb) (t:Nat):Bool:=match tb.ty t with
  | some e=>ziw e.und
  | none=>false
def zrz1 (tb:Tb) (t:Nat) (cs:List Value):Option Value:=
  cond (zbq2 tb t) (some (.agg cs.toArray)) (match cs with
    | [v]=>some v
    | _=>none)
def EncW (sh:Shape) (v:Value) (K:sh.T->Prop):Prop:=∃x,sh.enc x=v/\K x
def isIfT (tb:Tb) (t:Nat):Bool:=match tb.ty t with
  | some e=>match e.und with
    | .interface _=>true
    | _=>false
  | none=>false
def decK (tb:Tb) (t:Nat) (v:Value) (K:(shOf tb t).T->Prop):Prop:=
  cond (isIfT tb t) (EncW (shOf tb t) v K) (match (shOf tb t).dec v with
    | some x=>K x
    | none=>False)
def zbr2 (tb:Tb) (s:St) (j:J) (K:(shOf tb j.t).T->Prop):Prop:=
  cond j.isM
    (match s.m j.i with
      | some cs=>match zrz1 tb j.t cs with
        | some v=>decK tb j.t v K
        | none=>False
      | none=>False)
    (match s.f j.i with
      | some (.v v,[])=>decK tb j.t v K
      | _=>False)
def getJ (tb:Tb):(js:List J)->St->(JTup tb js->Prop)->Prop
  | [],_,K=>K ()
  | [j],s,K=>zbr2 tb s j K
  | j::j2::js,s,K=>zbr2 tb s j fun x=>getJ tb (j2::js) s fun y=>K (x,y)
def zvh1 (tb:Tb) (j:J) (x:(shOf tb j.t).T) (s:St):St:=
  cond j.isM (s.putM j.i (zac ((shOf tb j.t).enc x))) (s.put (some j.i) (.v ((shOf tb j.t).enc x)) [])
def setJ (tb:Tb):(js:List J)->JTup tb js->St->St
  | [],_,s=>s
  | [j],x,s=>zvh1 tb j x s
  | j::j2::js,p,s=>setJ tb (j2::js) p.2 (zvh1 tb j p.1 s)
def mods :Code->List Nat
  | .region _ ops _=>modsO ops.toList
  | .seq a b=>app (mods a) (mods b)
  | .cond _ a b=>app (mods a) (mods b)
  | .block _ a=>mods a
  | .loop a=>mods a
  | .scope a=>mods a
  | _=> []
def St.forget (s:St) (l mm:List Nat):St:=
  {f:=fun i=>cond (has l i) none (dropL' l (s.f i)),m:=fun i=>cond (has mm i) none (s.m i)}
inductive Md where
  | full
  | fr (l:Nat)
  | pr (l:Nat)
  | rs (l:Nat)
  | rz (l:Nat)
def noLab :Code->Nat->Bool
  | .seq a b,l=>cond (noLab a l) (noLab b l) false
  | .label l',l=>cond (Nat.beq l' l) false true
  | _,_=>true
def zmh :Code->Nat->Option Code
  | .seq a b,l=>match a with
    | .label l'=>cond (Nat.beq l' l) (some b) none
    | _=>cond (noLab a l) (zmh b l) none
  | _,_=>none
def zdl :Code->Nat->Option Code
  | .seq a b,l=>match a with
    | .label l'=>cond (Nat.beq l' l) (some b) (zdl b l)
    | _=>cond (noLab a l) (zdl b l) none
  | _,_=>none
def Env.put (E:Env) (l:Nat) (K:St->Hp->Prop):Env
  | .nrm=>E .nrm
  | .ret=>E .ret
  | .ext i=>E (.ext i)
  | .gto i=>cond (Nat.beq i l) K (E (.gto i))
def gotoE (R:Nat->Ann->Env->St->Hp->Prop):Ann->Env->Env
  | .gd l a x,E=>gotoE R x (E.put l (R l a E))
  | _,E=>E
def gotoX :Ann->Ann
  | .gd _ _ x=>gotoX x
  | a=>a
def Env.lab (E:Env) (l:Nat) (K:St->Hp->Prop):Env
  | .nrm=>K
  | .ret=>E .ret
  | .ext i=>E (.ext i)
  | .gto i=>cond (Nat.beq i l) K fun _ _=>False
def pubW (k:Nat) (s:St) (h:Hp) (K:St->Hp->Prop):Prop:=
  match s.f k,s.m k with
  | some (.box k' off,[]),some cs=>cond (Nat.beq k k') (cond (Nat.beq off 0) (NewW cs (fun a h'=>
      K {f:=fun i=>cond (Nat.beq i k) (some (.v (.pointer (some a)),[])) (s.f i),m:=fun i=>cond (Nat.beq i k) none (s.m i)} h') h) False) False
  | _,_=>False
def addE :List Oper->Nat->Nat->List Oper
  | [],_,_=> []
  | o::r,0,i=>{o with after:=⟨app o.after.toList [⟨i,.data⟩]⟩}::r
  | o::r,j+1,i=>o::addE r j i
def znz (tb:Tb) (priv:List Nat) (ops:List Oper) (rows:List (List Nat)):List (Nat×List Nat)->List Nat->Option Nat->List Nat×Option Nat
  | [],done,last=>(done,last)
  | (i,_)::r,done,last=>match nth ops i with
    | some o=>match cond (isVal tb o) true (zam priv o),isWar rows i o ops 0 with
      | true,false=>znz tb priv ops rows r (i::done) last
      | _,_=>znz tb priv ops rows r (i::done) (some i)
    | none=>(done,last)
def zqg1 (rows:List (List Nat)) (i:Nat) (done:List Nat):Nat->Bool
  | 0=>true
  | k+1=>cond (cond (has done k) true (cond (Nat.beq k i) true (has (zce rows k) i))) (zqg1 rows i done k) false
def zqh1 (ops0:List Oper) (rows0:List (List Nat)) (ops:List Oper) (rows:List (List Nat)):List Nat->Bool
  | []=>true
  | k::r=>cond (match nth ops k with
    | some o=>cond (isWar rows0 k o ops0 0) true (cond (looksOk ops rows k o) (cond (isWar rows k o ops 0) false true) false)
    | none=>false) (zqh1 ops0 rows0 ops rows r) false
def zpe2 (ops:List Oper) (i j:Nat) (done:List Nat) (last:Option Nat):Bool:=
  cond (Nat.beq i j) false (match nth ops i,nth ops j with
    | some o,some p=>cond (has done i) false (cond (has done j) false (cond (allIn (waits o) done) (cond (allIn (waits p) done) (cond (match last with
        | none=>true
        | some e=>cond (has done e) (zqg1 (aheads ops []) e done ops.length) false)
      (cond (zqg1 (aheads (addE ops j i) []) i done ops.length) (cond (zqg1 (aheads (addE ops i j) []) j done ops.length)
        (cond (zqh1 ops (aheads ops []) (addE ops j i) (aheads (addE ops j i) []) done) (zqh1 ops (aheads ops []) (addE ops i j) (aheads (addE ops i j) []) done) false) false) false) false) false) false))
    | _,_=>false)
def planT (tb:Tb) (priv:List Nat):Ann->List Oper->List Nat->Option Nat->Bool
  | .rg ord,ops,done,last=>cond (Nat.beq (done.length+ord.length) ops.length) (planGo tb priv ops (aheads ops []) ord done last) false
  | .r2 pre i j x y,ops,done,last=>cond (planGo tb priv ops (aheads ops []) pre done last) (match znz tb priv ops (aheads ops []) pre done last with
      | (d,l)=>cond (zpe2 ops i j d l) (cond (planT tb priv x (addE ops j i) d l) (planT tb priv y (addE ops i j) d l) false) false) false
  | _,_,_,_=>false
def regW (C:Ctx) (mok:List Nat) (K:St->Hp->Prop):Ann->List Oper->St->Hp->Prop
  | .rg ord,ops,s,h=>ordW C ops mok ord s h K
  | .r2 pre i j x y,ops,s,h=>ordW C ops mok pre s h fun s' h'=>regW C mok K x (addE ops j i) s' h'/\regW C mok K y (addE ops i j) s' h'
  | _,_,_,_=>False
def liftM (C:Ctx):Code->Md->Ann->List Nat->St->Env->Hp->Prop
  | .skip,.full,_,_,s,E,h=>E .nrm s h
  | .ret,.full,_,_,s,E,h=>E .ret s h
  | .exit id,.full,_,_,s,E,h=>E (.ext id) s h
  | .goto l,.full,_,_,s,E,h=>E (.gto l) s h
  | .label _,.full,_,_,s,E,h=>E .nrm s h
  | .region _ ops draw,.full,A,mok,s,E,h=>
    match draw with
    | false=>cond (seqOk C.priv ops.toList) (seqW C ops.toList mok ops.toList (s.dropB (zba C.priv ops.toList)) h fun s' h'=>E .nrm s'.clean h') False
    | true=>cond (cond (nodup (modsO ops.toList)) (planT C.tb C.priv A ops.toList [] none) false) (regW C mok (fun s' h'=>E .nrm s'.clean h') A ops.toList (s.dropB (zba C.priv ops.toList)) h) False
  | .seq a b,.full,A,mok,s,E,h=>
    match A with
    | .jn js mm _ _=>cond (allIn mm mok) (JoinT (fun (R:JTup C.tb js->Hp->Prop)=>liftM C a .full A.fst mm s (E.nrm fun s' h'=>getJ C.tb js s' fun x=>R x h') h)
        (fun x h'=>liftM C b .full A.snd mok (setJ C.tb js x (s.forget (mods a) mm)) E h')) False
    | .sp k _ _=>cond (has mok k) (liftM C a .full A.fst mok s (E.nrm fun s' h'=>pubW k s' h' fun s2 h2=>liftM C b .full A.snd mok s2 E h2) h) False
    | _=>liftM C a .full A.fst mok s (E.nrm fun s' h'=>liftM C b .full A.snd mok s' E h') h
  | .seq a b,.fr l,A,mok,s,E,h=>
    match a with
    | .label _=>E .nrm s h
    | _=>liftM C a .full A.fst mok s (E.nrm fun s' h'=>liftM C b (.fr l) A.snd mok s' E h') h
  | .seq a b,.pr l,A,mok,s,E,h=>
    match a with
    | .label _=>False
    | _=>match A with
      | .gj _ js mm x _=>cond (allIn mm mok) (liftM C a .full .tt mok s (E.noGto.nrm fun s' h'=>
          JoinT (fun (R:JTup C.tb js->Hp->Prop)=>liftM C b (.fr l) x mm s' (E.lab l fun s' h'=>getJ C.tb js s' fun x=>R x h') h')
            (fun x h'=>liftM C b (.rs l) A.snd mok (setJ C.tb js x (s'.forget (mods b) mm)) E.noGto h')) h) False
      | _=>liftM C a .full A.fst mok s (E.noGto.nrm fun s' h'=>liftM C b (.pr l) A.snd mok s' E h') h
  | .seq a b,.rs l,A,mok,s,E,h=>
    match a with
    | .label _=>liftM C b .full A mok s E h
    | _=>liftM C b (.rs l) A mok s E h
  | .seq a b,.rz l,A,mok,s,E,h=>
    match a with
    | .label l'=>cond (Nat.beq l' l) (liftM C b .full A mok s E h) (liftM C b (.rz l) A mok s E h)
    | _=>liftM C b (.rz l) A mok s E h
  | .cond c a b,.full,A,mok,s,E,h=>onV (ev s [] c) fun v=>match v with
    | .bool t=>if t=true then liftM C a .full A.fst mok s E h else liftM C b .full A.snd mok s E h
    | _=>False
  | .scope a,.full,A,mok,s,E,h=>
    match A with
    | .gs l x=>match zmh a l with
      | some _=>liftM C a (.pr l) x mok s E h
      | none=>False
    | .gd l0 a0 x0=>liftM C a .full (gotoX (.gd l0 a0 x0)) mok s (gotoE (fun l a' E s h=>match zdl a l with
      | some _=>liftM C a (.rz l) a' mok s E h
      | none=>False) (.gd l0 a0 x0) E.noGto) h
    | _=>liftM C a .full A mok s E.noGto h
  | .block id a,.full,A,mok,s,E,h=>
    match A with
    | .bj js mm _=>cond (allIn mm mok) (JoinT (fun (R:JTup C.tb js->Hp->Prop)=>liftM C a .full A.fst mm s (E.blk id fun s' h'=>getJ C.tb js s' fun x=>R x h') h)
        (fun x h'=>E .nrm (setJ C.tb js x (s.forget (mods a) mm)) h')) False
    | _=>liftM C a .full A.fst mok s (E.blk id (E .nrm)) h
  | .loop a,.full,A,mok,s,E,h=>
    match A with
    | .lp js mm _=>cond (allIn mm mok) (getJ C.tb js s fun x0=>LoopT (fun (R:JTup C.tb js->Hp->Prop) x h=>liftM C a .full A.fst mm (setJ C.tb js x (s.forget (mods a) mm))
        (E.nrm fun s' h'=>getJ C.tb js s' fun x=>R x h') h) x0 h) False
    | _=>False
  | _,_,_,_,_,_,_=>False
def zgm (C:Ctx) (s:St) (r:ResultVar) (t:Nat) (K:(shOf C.tb t).T->Prop):Prop:=
  match r with
  | .tmp i=>match s.f i with
    | some (.v v,[])=>decK C.tb t v K
    | _=>False
  | .cell i ct=>cond (Nat.beq ct t) (match s.f i,C.tb.ty t with
    | some (.box k 0,[]),some _=>match s.m k with
      | some cs=>match zrz1 C.tb t cs with
        | some v=>decK C.tb t v K
        | none=>False
      | none=>False
    | _,_=>False) False
def shRes (tb:Tb):List Nat->Shape
  | []=>zrf
  | [a]=>shOf tb a
  | [a,b]=>zgl (shOf tb a) (shOf tb b)
  | [a,b,c]=>zlp1 (shOf tb a) (shOf tb b) (shOf tb c)
  | [a,b,c,d]=>zbk2 (shOf tb a) (shOf tb b) (shOf tb c) (shOf tb d)
  | [a,b,c,d,e]=>zbl2 (shOf tb a) (shOf tb b) (shOf tb c) (shOf tb d) (shOf tb e)
  | [a,b,c,d,e,f,g]=>zsb2 (shOf tb a) (shOf tb b) (shOf tb c) (shOf tb d) (shOf tb e) (shOf tb f) (shOf tb g)
  | _=>zrf
def retW (C:Ctx) (s:St) (h:Hp):(rs:List ResultVar)->(ts:List Nat)->((shRes C.tb ts).T->Hp->Prop)->Prop
  | [],[],K=>K () h
  | [r],[t],K=>zgm C s r t fun x=>K x h
  | [r1,r2],[t1,t2],K=>zgm C s r1 t1 fun x1=>zgm C s r2 t2 fun x2=>K (x1,x2) h
  | [r1,r2,r3],[t1,t2,t3],K=>zgm C s r1 t1 fun x1=>zgm C s r2 t2 fun x2=>zgm C s r3 t3 fun x3=>K (x1,x2,x3) h
  | [r1,r2,r3,r4],[t1,t2,t3,t4],K=>zgm C s r1 t1 fun x1=>zgm C s r2 t2 fun x2=>zgm C s r3 t3 fun x3=>zgm C s r4 t4 fun x4=>K (x1,x2,x3,x4) h
  | [r1,r2,r3,r4,r5],[t1,t2,t3,t4,t5],K=>zgm C s r1 t1 fun x1=>zgm C s r2 t2 fun x2=>zgm C s r3 t3 fun x3=>zgm C s r4 t4 fun x4=>
      zgm C s r5 t5 fun x5=>K (x1,x2,x3,x4,x5) h
  | [r1,r2,r3,r4,r5,r6,r7],[t1,t2,t3,t4,t5,t6,t7],K=>zgm C s r1 t1 fun x1=>zgm C s r2 t2 fun x2=>zgm C s r3 t3 fun x3=>zgm C s r4 t4 fun x4=>
      zgm C s r5 t5 fun x5=>zgm C s r6 t6 fun x6=>zgm C s r7 t7 fun x7=>K (x1,x2,x3,x4,x5,x6,x7) h
  | _,_,_=>False
def argsF (args:List Value) (i:Nat):Option (LV×Chain):=match nth args i with
  | some v=>some (.v v,[])
  | none=>none
def zvi1 (f:Func):Code:=match f.body with
  | some c=>c
  | none=>.refuse ""
def allLt (n:Nat):List Nat->Bool
  | []=>true
  | i::r=>cond (Nat.blt i n) (allLt n r) false
def funW (C:Ctx) (f:Func) (A:Ann) (args:List Value) (K:(shRes C.tb f.resultTypes.toList).T->Hp->Prop) (h:Hp):Prop:=
  cond (cond (Nat.ble args.length f.ntmps) (allLt f.ntmps (mods (zvi1 f))) false)
    (liftM C (zvi1 f) .full A C.priv {f:=argsF args,m:=fun _=>none} (fun e s h=>match e with
      | .nrm | .ret=>retW C s h f.results.toList f.resultTypes.toList K
      | _=>False) h) False
structure Tb.Ok (P:Program) (tb:Tb):Prop where
  und:∀t e,tb.ty t=some e->P.underlying t=some e.und
  info:∀t e,tb.ty t=some e->∃i,P.info? t=some i/\i.size=e.size/\i.bytes=e.bytes/\i.zero=some e.zero
  agg:∀t e,tb.ty t=some e->ziw e.und=true->∀x,∃cs,e.sh.enc x=.agg cs/\cs.size=e.size
  leaf:∀t e,tb.ty t=some e->ziw e.und=false->e.size=1/\∀x,(zac (e.sh.enc x)).length=1/\∀cs,e.sh.enc x≠ .agg cs
  zlen:∀t e,tb.ty t=some e->(zac e.zero).length=e.size
  zero8:∀t e,tb.ty t=some e->e.und=.int .u8->zac e.zero=[.int .u8 0]
  zagg:∀t e,tb.ty t=some e->ziw e.und=true->∃cs,e.zero=.agg cs
  call:∀g,tb.call g=true->∀args w,(callFunc g args).run P w=.ok (.enter g args) w
  ext:∀g f,tb.ext g=some f->∀args w,(callFunc g args).run P w=((f args).run P w).andThen fun v w'=>.ok (.value v) w'
  mixed:P.follows .mixedOrders=true
theorem zsa1 :∀ {c d:Chain},chEq c d=true->c=d
  | [],[],_=>rfl
  | [],_::_,h=>by simp [chEq] at h
  | (t,w)::c,[],h=>by simp [chEq] at h
  | (t,w)::c,(u,x)::d,h=>by
    simp only [chEq] at h
    cases h1:Nat.beq t u with
    | false=>simp [h1] at h
    | true=>
      cases h2:zpb2 w x with
      | false=>simp [h1,h2] at h
      | true=>
        simp only [h1,h2,cond_true] at h
        have e1:t=u:=Nat.eq_of_beq_eq_true h1
        have e2:w=x:=by cases w<;>cases x<;>first | rfl | cases h2
        rw [e1,e2,zsa1 h]
theorem zbs2 :∀ {c ch:Chain},sufx c ch=true->∀p∈c,p∈ch
  | c,[],h=>by
    cases c with
    | nil=>intro p hp;cases hp
    | cons a r=>simp [sufx] at h
  | c,q::d,h=>by
    cases c with
    | nil=>intro p hp;cases hp
    | cons a r=>
      simp only [sufx] at h
      cases h1:chEq (a::r) (q::d) with
      | true=>intro p hp;rw [<-zsa1 h1];exact hp
      | false=>
        simp only [h1,cond_false] at h
        intro p hp
        exact List.mem_cons_of_mem _ (zbs2 h p hp)
def hb (s:St) (t:Nat):Option Bool:=match s.f t with
  | some (.v (.bool b),_)=>some b
  | _=>none
def holds (s:St) (ch:Chain):Prop:=∀p∈ch,hb s p.1=some p.2
theorem holds_nil (s:St):holds s []:=fun _ h=>by cases h
theorem zah1 {s:St} {c ch:Chain} (hs:sufx c ch=true) (h:holds s ch):holds s c:=fun p hp=>h p (zbs2 hs p hp)
theorem zbt2 {s:St} (t:Nat) (w:Bool) (r:Chain):∃b,cnd s ((t,w)::r)=some b/\(holds s ((t,w)::r)->b=true):=by
  induction r generalizing t w with
  | nil=>
    simp only [cnd]
    split
    · rename_i b c hf
      refine ⟨_,rfl,fun h=> ?_⟩
      have:=h (t,w) (List.mem_cons_self ..)
      simp only [hb,hf] at this
      grind
    · refine ⟨false,rfl,fun h=> ?_⟩
      have:=h (t,w) (List.mem_cons_self ..)
      unfold hb at this
      split at this
      · rename_i hn _ b c hf;exact absurd hf (hn b c)
      · cases this
  | cons p r ih=>
    obtain ⟨t',w'⟩:=p
    obtain ⟨b',hb',hh'⟩:=ih t' w'
    simp only [cnd]
    split
    · rename_i b c hf
      rw [hb']
      refine ⟨_,rfl,fun h=> ?_⟩
      have h1:=h (t,w) (List.mem_cons_self ..)
      simp only [hb,hf] at h1
      injection h1 with h1
      have h2:b'=true:=hh' fun q hq=>h q (List.mem_cons_of_mem _ hq)
      grind
    · refine ⟨false,rfl,fun h=> ?_⟩
      have:=h (t,w) (List.mem_cons_self ..)
      unfold hb at this
      split at this
      · rename_i hn _ b c hf;exact absurd hf (hn b c)
      · cases this
theorem zdx {s:St} {ch:Chain} {p:Prop} (h:Req (cnd s ch) p) (hh:holds s ch):p:=by
  cases ch with
  | nil=>exact h
  | cons q r=>
    obtain ⟨t,w⟩:=q
    obtain ⟨b,hb,hi⟩:=zbt2 (s:=s) t w r
    rw [hb] at h
    exact h (hi hh)
def LVal (β:Nat->Nat):LV->Value
  | .v x=>x
  | .box k o=>.pointer (some ⟨β k,o,none⟩)
  | .boxd k o=>.pointer (some ⟨β k,o,none⟩)
def Opnd (β:Nat->Nat) (s:St) (ρ:Operand->Value):Operand->Prop
  | .tmp t=>∀l c,s.f t=some (l,c)->holds s c->ρ (.tmp t)=LVal β l
  | .const v=>ρ (.const v)=v
  | .global g=>ρ (.global g)=.pointer (some ⟨g,0,none⟩)
  | .func f=>ρ (.func f)=.func (.func f) #[] #[]
theorem ev_ok {β:Nat->Nat} {s:St} {ρ:Operand->Value} {x:Operand} {ch:Chain} {l:LV} (ho:Opnd β s ρ x) (hh:holds s ch) (he:ev s ch x=some l):ρ x=LVal β l:=by
  cases x with
  | tmp t=>
    simp only [ev] at he
    split at he
    · rename_i l' c hf
      cases hs:sufx c ch with
      | false=>simp [hs] at he
      | true=>
        simp only [hs,cond_true] at he
        cases he
        exact ho l c hf (zah1 hs hh)
    · cases he
  | const v=>cases he;exact ho
  | global g=>cases he;exact ho
  | func f=>cases he;exact ho
theorem zls2 {l:Option LV} {K:LV->Prop} (h:onL l K):∃x,l=some x/\K x:=by
  cases l with
  | none=>exact h.elim
  | some x=>exact ⟨x,rfl,h⟩
theorem zas {l:Option LV} {K:Value->Prop} (h:onV l K):∃x,l=some (.v x)/\K x:=by
  cases l with
  | none=>exact h.elim
  | some x=>cases x<;>first | exact ⟨_,rfl,h⟩ | exact h.elim
theorem zsx {l:Option (List Value)} {K:List Value->Prop} (h:onVs l K):∃x,l=some x/\K x:=by
  cases l with
  | none=>exact h.elim
  | some x=>exact ⟨x,rfl,h⟩
def BoxU (β:Nat->Nat) (s:St) (o:Oper) (w:World):Prop:=
  ∀t,Operand.tmp t∈o.op.operands->∀k off c,(s.f t=some (.box k off,c)\/s.f t=some (.boxd k off,c))->holds s c->∀cs,s.m k=some cs->∃ct,w.heap[β k]? =some (.cells cs.toArray ct (0,0))
theorem zls1 {s:St} {ch:Chain} {x:Operand} {l:LV} (he:ev s ch x=some l) (hl:∀v,l≠ .v v) (hh:holds s ch):∃t c,x=.tmp t/\s.f t=some (l,c)/\holds s c:=by
  cases x with
  | tmp t=>
    simp only [ev] at he
    split at he
    · rename_i l' c hf
      cases hs:sufx c ch with
      | false=>simp [hs] at he
      | true=>
        simp only [hs,cond_true] at he
        cases he
        exact ⟨t,c,rfl,hf,zah1 hs hh⟩
    · cases he
  | const v=>cases he;grind
  | global g=>cases he;grind
  | func f=>cases he;grind
theorem BoxU.box {β:Nat->Nat} {s:St} {o:Oper} {w:World} (hb:BoxU β s o w) {ch:Chain} {x:Operand} {k off:Nat} (hx:x∈o.op.operands) (he:ev s ch x=some (.box k off)) (hh:holds s ch)
    {cs:List Value} (hm:s.m k=some cs):∃ct,w.heap[β k]? =some (.cells cs.toArray ct (0,0)):=by
  obtain ⟨t,c,rfl,hf,hc⟩:=zls1 he (by simp) hh
  exact hb t hx k off c (.inl hf) hc cs hm
theorem BoxU.boxd {β:Nat->Nat} {s:St} {o:Oper} {w:World} (hb:BoxU β s o w) {ch:Chain} {x:Operand} {k off:Nat} (hx:x∈o.op.operands) (he:ev s ch x=some (.boxd k off)) (hh:holds s ch)
    {cs:List Value} (hm:s.m k=some cs):∃ct,w.heap[β k]? =some (.cells cs.toArray ct (0,0)):=by
  obtain ⟨t,c,rfl,hf,hc⟩:=zls1 he (by simp) hh
  exact hb t hx k off c (.inr hf) hc cs hm
def RunsK (kd:Kd) (P:Program) (o:Oper) (s:St) (h:Hp) (l:LV):Prop:=
  ∀(β:Nat->Nat) (ρ:Operand->Value) (w:World),(∀x∈o.op.operands,Opnd β s ρ x)->(kd=.mem->Sub h w)->(kd≠ .pure->BoxU β s o w)->
    ∃w',(execOp ρ o).run P w=.ok (.value (LVal β l)) w'/\(kd≠ .mem->w'=w)/\(kd=.mem->Step h h w w')
theorem zda {α:Type _}:∀(l:List α) (i:Nat),nth l i=l[i]?
  | [],_=>by simp [nth]
  | a::l,0=>by simp [nth]
  | a::l,n+1=>by simp [nth,zda l n]
theorem zbu2 {α:Type _}:∀(l:List α) (i:Nat),dropL l i=l.drop i
  | l,0=>by simp [dropL]
  | [],n+1=>by simp [dropL]
  | a::l,n+1=>by simp [dropL,zbu2 l n]
theorem zbv2 {α:Type _}:∀(l:List α) (i:Nat),takeL l i=l.take i
  | l,0=>by simp [takeL]
  | [],n+1=>by simp [takeL]
  | a::l,n+1=>by simp [takeL,zbv2 l n]
theorem zjo1 {α:Type _}:∀(l r:List α),app l r=l++r
  | [],r=>rfl
  | a::l,r=>by simp [app,zjo1 l r]
theorem zhw :∀(l:List Nat) (i:Nat),has l i=true↔i∈l
  | [],i=>by simp [has]
  | a::l,i=>by
    simp only [has]
    cases h:Nat.beq i a with
    | true=>simp [Nat.eq_of_beq_eq_true h]
    | false=>
      have:i≠a:=fun e=>by rw [e] at h;simp at h
      simp [zhw l i,this]
theorem zlb {l:List Nat} {i:Nat} (h:has l i=false):i∉l:=fun hm=>by rw [(zhw l i).2 hm] at h;cases h
section
variable {P:Program} {tb:Tb}
theorem run_underlying' (ok:tb.Ok P) {t:Nat} {e:Ty} (h:tb.ty t=some e) (w:World):(underlying t).run P w=.ok e.und w:=by
  simp [underlying,ok.und t e h]
theorem run_typeInfo' (ok:tb.Ok P) {t:Nat} {e:Ty} (h:tb.ty t=some e) (w:World):
    ∃i,(typeInfo t).run P w=.ok i w/\i.size=e.size/\i.bytes=e.bytes/\i.zero=some e.zero:=by
  obtain ⟨i,hi,h1,h2,h3⟩:=ok.info t e h
  exact ⟨i,by simp [typeInfo,hi],h1,h2,h3⟩
theorem run_sizeOf' (ok:tb.Ok P) {t:Nat} {e:Ty} (h:tb.ty t=some e) (w:World):(Go.sizeOf t).run P w=.ok e.size w:=by
  obtain ⟨i,hi,h1,h2,h3⟩:=run_typeInfo' ok h w
  simp only [Go.sizeOf,Sem.run_bind,hi,Result.andThen_ok,Sem.run_pure,h1]
theorem run_zeroValue' (ok:tb.Ok P) {t:Nat} {e:Ty} (h:tb.ty t=some e) (w:World):(zeroValue t).run P w=.ok e.zero w:=by
  obtain ⟨i,hi,h1,h2,h3⟩:=run_typeInfo' ok h w
  simp only [zeroValue,Sem.run_bind,hi,Result.andThen_ok,h3,Sem.run_pure]
theorem run_isAgg' (ok:tb.Ok P) {t:Nat} {e:Ty} (h:tb.ty t=some e) (w:World):(isAgg t).run P w=.ok (ziw e.und) w:=by
  simp only [isAgg,Sem.run_bind,run_underlying' ok h,Result.andThen_ok]
  cases e.und<;>rfl
theorem zbb (v:Value):v.cells.toList=zac v:=by cases v<;>rfl
theorem zsy {w:World} {a:Addr}:∀(n i:Nat) (acc:Array Value) (cs:List Value),cs.length=n->
    (∀j v,cs[j]? =some v->w.cell? (a.add (i+j))=some v)->(loadCellsFrom a i n acc).run P w=.ok (acc++cs.toArray) w
  | 0,i,acc,cs,hl,_=>by
    have:cs=[]:=List.length_eq_zero_iff.1 hl
    subst this;simp [loadCellsFrom]
  | n+1,i,acc,[],hl,_=>by simp at hl
  | n+1,i,acc,c::cs,hl,hc=>by
    have h0:w.cell? (a.add i)=some c:=by simpa using hc 0 c (by simp)
    have ih:=zsy n (i+1) (acc.push c) cs (by simpa using hl) (fun j v hj=>by
      have:=hc (j+1) v (by simpa using hj)
      rwa [show i+1+j=i+(j+1) from by omega])
    simp only [loadCellsFrom,Sem.run_bind,run_load,h0,Result.andThen_ok,ih]
    congr 1
    simp
theorem zuc {w:World} {a:Addr} {cs:List Value} (hc:∀j v,cs[j]? =some v->w.cell? (a.add j)=some v):(loadCells a cs.length).run P w=.ok cs.toArray w:=by
  unfold loadCells
  rw [zsy cs.length 0 #[] cs rfl (by simpa using hc)]
  simp
theorem zud (ok:tb.Ok P) {t:Nat} {e:Ty} (h:tb.ty t=some e) {w:World} {a:Addr} {x:e.sh.T}
    (hc:∀j v,(zac (e.sh.enc x))[j]? =some v->w.cell? (a.add j)=some v):(loadVar t a).run P w=.ok (e.sh.enc x) w:=by
  simp only [loadVar,Sem.run_bind,run_isAgg' ok h,Result.andThen_ok]
  cases ha:ziw e.und with
  | true=>
    obtain ⟨cs,he,hs⟩:=ok.agg t e h ha x
    simp only [if_true,Sem.run_bind,run_sizeOf' ok h,Result.andThen_ok]
    have hl:cs.toList.length=e.size:=by simpa using hs
    have hc':∀j v,cs.toList[j]? =some v->w.cell? (a.add j)=some v:=by simpa [he,zac] using hc
    rw [<-hl,zuc hc']
    simp [he]
  | false=>
    obtain ⟨h1,h2⟩:=ok.leaf t e h ha
    have hne:=(h2 x).2
    have hcl:zac (e.sh.enc x)=[e.sh.enc x]:=by
      generalize e.sh.enc x=v at hne
      cases v<;>first | rfl | grind
    have:=hc 0 (e.sh.enc x) (by simp [hcl])
    have h0:a.add 0=a:=by simp [Addr.add]
    rw [h0] at this
    simp [this]
theorem zmr (a:Addr) (i j:Nat):(a.add i).add j=a.add (i+j):=by
  unfold Addr.add
  grind
theorem zbh (b o i:Nat):(⟨b,o,none⟩:Addr).add i=⟨b,o+i,none⟩:=by
  unfold Addr.add
  simp
theorem zsb1 {w:World} {b t:Nat} {cs:List Value} (hb:w.heap[b]? =some (.cells cs.toArray t (0,0))) (i:Nat):w.cell? ⟨b,i,none⟩=cs[i]?:=by
  unfold World.cell?
  simp [hb]
end
section
variable {P:Program} {tb:Tb}
def Prov (o:Oper) (ch:Chain) (s:St) (l:LV):Prop:=
  ∀k off,(l=.box k off\/l=.boxd k off)->∃x∈o.op.operands,∃off',ev s ch x=some (.box k off')\/ev s ch x=some (.boxd k off')
theorem zvj1 (o:Oper) (ch:Chain) (s:St) (v:Value):Prov o ch s (.v v):=fun _ _ e=>by grind
theorem zyn1 {o:Oper} {ch:Chain} {s:St} {l:LV} {x:Operand} (hx:x∈o.op.operands) (he:ev s ch x=some l):Prov o ch s l:=fun k off e=>
  ⟨x,hx,off,by grind⟩
theorem zbw2 {o:Oper} {ch:Chain} {s:St} {l:LV} {x:Operand} {k off:Nat} (hx:x∈o.op.operands) (he:ev s ch x=some (.box k off))
    (hl:∀k' off',(l=.box k' off'\/l=.boxd k' off')->k'=k):Prov o ch s l:=fun k' off' e=>⟨x,hx,off,.inl (by grind)⟩
theorem zhg2 {o:Oper} {ch:Chain} {s:St} {l:LV} {x:Operand} {k off:Nat} (hx:x∈o.op.operands) (he:ev s ch x=some (.boxd k off))
    (hl:∀k' off',(l=.box k' off'\/l=.boxd k' off')->k'=k):Prov o ch s l:=fun k' off' e=>⟨x,hx,off,.inr (by grind)⟩
def ValOk (P:Program) (tb:Tb) (o:Oper) (ch:Chain) (s:St) (h:Hp) (K:LV->Prop):Prop:=
  ∃l,K l/\(holds s ch->RunsK (kindD tb o ch s) P o s h l)/\Prov o ch s l
theorem zak {o:Oper} {ch:Chain} {s:St} {h:Hp} {K:LV->Prop} (l:LV) (hk:K l)
    (hr:holds s ch->∀(β:Nat->Nat) (ρ:Operand->Value) (w:World),(∀x∈o.op.operands,Opnd β s ρ x)->
      (execOp ρ o).run P w=.ok (.value (LVal β l)) w)
    (hp:Prov o ch s l:=by exact zvj1 _ _ _ _):ValOk P tb o ch s h K:=
  ⟨l,hk,fun hh β ρ w ho hs hb=>⟨w,hr hh β ρ w ho,fun _=>rfl,fun e=>.refl (hs e)⟩,hp⟩
theorem zvk1 {o:Oper} {ch:Chain} {s:St} {h:Hp} {K:LV->Prop} (hkd:kindD tb o ch s=.box) (l:LV) (hk:K l)
    (hr:holds s ch->∀(β:Nat->Nat) (ρ:Operand->Value) (w:World),(∀x∈o.op.operands,Opnd β s ρ x)->BoxU β s o w->
      (execOp ρ o).run P w=.ok (.value (LVal β l)) w)
    (hp:Prov o ch s l:=by exact zvj1 _ _ _ _):ValOk P tb o ch s h K:=
  ⟨l,hk,fun hh β ρ w ho hs hb=>⟨w,hr hh β ρ w ho (hb (by rw [hkd];simp)),fun _=>rfl,fun e=>.refl (hs e)⟩,hp⟩
theorem zlt1 {o:Oper} {ch:Chain} {s:St} {h:Hp} {K:LV->Prop} (hkd:kindD tb o ch s=.mem) (l:LV) (hk:K l)
    (hr:holds s ch->∀(β:Nat->Nat) (ρ:Operand->Value) (w:World),(∀x∈o.op.operands,Opnd β s ρ x)->Sub h w->
      (execOp ρ o).run P w=.ok (.value (LVal β l)) w)
    (hp:Prov o ch s l:=by exact zvj1 _ _ _ _):ValOk P tb o ch s h K:=
  ⟨l,hk,fun hh β ρ w ho hs hb=>⟨w,hr hh β ρ w ho (hs hkd),fun _=>rfl,fun e=>.refl (hs e)⟩,hp⟩
theorem zlu1 {s:Sem Value} {h:Hp} {v:Value} (hi:SemIs P s h v) {w:World} (hs:Sub h w):∃w',s.run P w=.ok v w'/\Step h h w w':=hi w hs
theorem zcr1 {o:Oper} {ch:Chain} {s:St} {h:Hp} {K:LV->Prop} {t:Nat} {sem:Sem Value} (hkd:kindD tb o ch s=.mem) (hg:genV (cnd s ch) P tb t sem h K)
    (hx:holds s ch->∀(β:Nat->Nat) (ρ:Operand->Value),(∀x∈o.op.operands,Opnd β s ρ x)->∀(w w':World) (v:Value),sem.run P w=.ok v w'->(execOp ρ o).run P w=.ok (.value v) w'):
    ValOk P tb o ch s h K:=by
  unfold genV at hg
  split at hg
  · rename_i e he
    obtain ⟨x,hx1,hk⟩:=hg
    refine ⟨_,hk,fun hh β ρ w ho hs hb=> ?_,zvj1 _ _ _ _⟩
    obtain ⟨w',hr,hst⟩:=zlu1 (zdx hx1 hh) (hs hkd)
    exact ⟨w',hx hh β ρ ho w w' _ hr,fun e=>absurd hkd e,fun _=>hst⟩
  · exact hg.elim
theorem zbx2 {o:Oper} {ch:Chain} {s:St} {h:Hp} {K:LV->Prop} {x:Operand} (hop:o.op=.move x\/o.op=.assign x) (hv:onL (ev s ch x) K):ValOk P tb o ch s h K:=by
  obtain ⟨l,he,hk⟩:=zls2 hv
  refine zak l hk (fun hh β ρ w ho=> ?_) (zyn1 (by rcases hop with h | h<;>simp [h,Op.operands]) he)
  have hx:ρ x=LVal β l:=ev_ok (ho x (by rcases hop with h | h<;>simp [h,Op.operands])) hh he
  rcases hop with h | h<;>simp [execOp,h,hx]
theorem zca1 {t:Nat} {w:World} {a b:Bool} (hu:(underlying t).run P w=.ok .bool w):(Op.equal t (.bool a) (.bool b)).run P w=.ok (a==b) w:=by
  have key:∀d,(Op.equalIn (d+1) t (.bool a) (.bool b)).run P w=.ok (a==b) w:=by
    intro d
    unfold Op.equalIn
    simp only [Sem.run_bind,hu,Result.andThen_ok,Sem.run_pure]
  exact key 9999
theorem zet1 {t elem:Nat} {w:World} {p:Option Addr} (hu:(underlying t).run P w=.ok (.pointer elem) w):(Op.equal t (.pointer p) (.pointer none)).run P w=.ok p.isNone w:=by
  have key:∀d,(Op.equalIn (d+1) t (.pointer p) (.pointer none)).run P w=.ok p.isNone w:=by
    intro d
    unfold Op.equalIn
    simp only [Sem.run_bind,hu,Result.andThen_ok]
    cases p<;>simp only [Sem.run_pure]<;>rfl
  exact key 9999
set_option maxHeartbeats 800000 in
theorem zby2 (ok:tb.Ok P) {o:Oper} {ch:Chain} {s:St} {h:Hp} {K:LV->Prop} {op:BinOp} {t yt:Nat} {x y:Operand} (hop:o.op=.binOp op t x y yt)
    (hv:onV (ev s ch x) fun a=>onV (ev s ch y) fun b=>binW0 (cnd s ch) P tb op t x y o.type a b h K):ValOk P tb o ch s h K:=by
  obtain ⟨a,hea,hv'⟩:=zas hv
  clear hv
  obtain ⟨b,heb,hv⟩:=zas hv'
  clear hv'
  have hρ:holds s ch->∀(β:Nat->Nat) (ρ:Operand->Value),(∀x∈o.op.operands,Opnd β s ρ x)->ρ x=a/\ρ y=b:=fun hh β ρ ho=>
    ⟨ev_ok (ho x (by simp [hop,Op.operands])) hh hea,ev_ok (ho y (by simp [hop,Op.operands])) hh heb⟩
  have hex:holds s ch->∀(β:Nat->Nat) (ρ:Operand->Value),(∀x∈o.op.operands,Opnd β s ρ x)->∀(w w':World) (v:Value),(binS op t x y a b).run P w=.ok v w'->
      (execOp ρ o).run P w=.ok (.value v) w':=by
    intro hh β ρ ho w w' v hr
    obtain ⟨ha,hb⟩:=hρ hh β ρ ho
    simp only [execOp,hop,ha,hb]
    change (binS op t x y a b>>=fun x=>pure (Next.value x)).run P w=_
    rw [Sem.run_bind,hr]
    rfl
  have gen:∀v:Value,K (.v v)->(holds s ch->∀w,(binS op t x y a b).run P w=.ok v w)->ValOk P tb o ch s h K:=fun v hk hr=>
    zak (.v v) hk fun hh β ρ w ho=>hex hh β ρ ho w w v (hr hh w)
  unfold binW0 at hv
  split at hv
  · -- numbers
    rename_i k m k' n
    have hgd:∀w:World,(eqGuard op t x y (.int k m) (.int k' n)).run P w=.ok () w:=fun w=>by unfold eqGuard;split<;>rfl
    split at hv
    · refine gen _ hv.2 fun hh w=> ?_
      have h0:=zdx hv.1 hh
      simp only [binS,Sem.run_bind,hgd,Result.andThen_ok]
      simp [binOp,Op.shift,shlI,Int.not_lt.2 h0]
    · refine gen _ hv.2 fun hh w=> ?_
      have h0:=zdx hv.1 hh
      simp only [binS,Sem.run_bind,hgd,Result.andThen_ok]
      simp [binOp,Op.shift,shrI,Int.not_lt.2 h0]
    · cases hk:kEq k k' with
      | false=>simp [hk] at hv
      | true=>
        have hkk:=zpa2 hk
        subst hkk
        simp only [hk,cond_true] at hv
        cases op<;>simp only [intW] at hv<;>
          first
          | exact hv.elim
          | exact gen _ hv fun _ w=>by simp only [binS,Sem.run_bind,hgd,Result.andThen_ok];simp [binOp,Op.intArith,Op.intCmp,Op.intBits,bitsI]
          | exact gen _ hv.2 fun hh w=>by
              have h0:=zdx hv.1 hh
              simp only [binS,Sem.run_bind,hgd,Result.andThen_ok]
              simp [binOp,Op.intDiv,h0]
  · -- truths
    rename_i m n
    split at hv
    · rename_i e he
      have hgd:∀w:World,(eqGuard op t x y (.bool m) (.bool n)).run P w=.ok () w:=fun w=>by unfold eqGuard;split<;>rfl
      have hu:=fun w=>run_underlying' ok he w
      split at hv
      · rename_i heu
        refine gen _ hv fun _ w=> ?_
        simp only [binS,Sem.run_bind,hgd,Result.andThen_ok,binOp,zca1 (heu▸hu w),Sem.run_pure]
      · rename_i heu
        refine gen _ hv fun _ w=> ?_
        simp only [binS,Sem.run_bind,hgd,Result.andThen_ok,binOp,zca1 (heu▸hu w),Sem.run_pure]
      · exact hv.elim
    · exact hv.elim
  · -- texts
    rename_i m n
    have hgd:∀w:World,(eqGuard op t x y (.string m) (.string n)).run P w=.ok () w:=fun w=>by unfold eqGuard;split<;>rfl
    split at hv
    · exact gen _ hv fun _ w=>by simp only [binS,Sem.run_bind,hgd,Result.andThen_ok];simp [binOp,Op.stringOp]
    · exact gen _ hv fun _ w=>by simp only [binS,Sem.run_bind,hgd,Result.andThen_ok];simp [binOp,Op.stringOp]
    · refine gen _ hv.2 fun hh w=> ?_
      have h0:=zdx hv.1 hh
      simp only [binS,Sem.run_bind,hgd,Result.andThen_ok]
      have h1:¬(((m.size+n.size:Nat):Int)>IntKind.i64.max):=by
        have:IntKind.i64.max=9223372036854775807:=by decide
        rw [this];omega
      simp only [binOp,Op.stringOp,if_neg h1,Sem.run_pure]
    · exact zcr1 (by simp_all [kindD]) hv fun hh β ρ ho w w' v hr=>hex hh β ρ ho w w' v hr
  · -- pointers
    rename_i p q
    cases hn:zcp1 y with
    | false=>
      simp only [hn,cond_false] at hv
      exact zcr1 (by simp_all [kindD]) hv fun hh β ρ ho w w' v hr=>hex hh β ρ ho w w' v hr
    | true=>
      simp only [hn,cond_true] at hv
      split at hv
      · rename_i e he
        split at hv
        · rename_i elem heu
          have hq:q=none:=by
            cases y with
            | const v=>
              simp only [ev] at heb
              cases heb
              cases q with
              | none=>rfl
              | some _=>simp [zcp1] at hn
            | tmp _=>simp [zcp1] at hn
            | global _=>simp [zcp1] at hn
            | func _=>simp [zcp1] at hn
          subst hq
          have hgd:∀w:World,(eqGuard op t x y (.pointer p) (.pointer none)).run P w=.ok () w:=fun w=>by unfold eqGuard;split<;>rfl
          have hu:=fun w=>run_underlying' ok he w
          unfold nilW at hv
          split at hv
          · refine gen _ hv fun _ w=> ?_
            simp only [binS,Sem.run_bind,hgd,Result.andThen_ok,binOp,zet1 (heu▸hu w),Sem.run_pure]
          · refine gen _ hv fun _ w=> ?_
            simp only [binS,Sem.run_bind,hgd,Result.andThen_ok,binOp,zet1 (heu▸hu w),Sem.run_pure]
          · exact hv.elim
        · exact hv.elim
      · exact hv.elim
  · rename_i n1 n2 n3 n4
    have hkd:kindD tb o ch s=.mem:=by
      unfold kindD
      grind
    exact zcr1 hkd hv fun hh β ρ ho w w' v hr=>hex hh β ρ ho w w' v hr
theorem zjp1 {t:Nat} {w:World} {ms} {a:Value} (ha:isIfV a=true) (hu:(underlying t).run P w=.ok (.interface ms) w):(Op.equal t a .nilIface).run P w=.ok (zsw a) w:=by
  have key:∀d,(Op.equalIn (d+1) t a .nilIface).run P w=.ok (zsw a) w:=by
    intro d
    unfold Op.equalIn
    simp only [Sem.run_bind,hu,Result.andThen_ok]
    cases a<;>first | rfl | cases ha
  exact key 9999
theorem zyo1 {a:Value} (ha:isIfV a=true):a=.nilIface\/∃t v,a=.iface t v:=by
  cases a<;>first | exact .inl rfl | exact .inr ⟨_,_,rfl⟩ | cases ha
theorem zpr2 (ok:tb.Ok P) {o:Oper} {ch:Chain} {s:St} {h:Hp} {K:LV->Prop} {op:BinOp} {t yt:Nat} {x y:Operand} (hop:o.op=.binOp op t x y yt)
    (hv:onV (ev s ch x) fun a=>onV (ev s ch y) fun b=>binW (cnd s ch) P tb op t x y o.type a b h K):ValOk P tb o ch s h K:=by
  cases hn:zyl1 y with
  | false=>
    refine zby2 ok hop ?_
    simpa only [binW,hn,cond_false] using hv
  | true=>
    cases hi:isIfD tb t with
    | false=>
      refine zby2 ok hop ?_
      simpa only [binW,hn,hi,cond_false,cond_true] using hv
    | true=>
      obtain ⟨a,hea,hv'⟩:=zas hv
      clear hv
      obtain ⟨b,heb,hv⟩:=zas hv'
      clear hv'
      simp only [binW,hn,hi,cond_true] at hv
      obtain ⟨hif,hv⟩:=hv
      have hy:y=.const .nilIface:=by
        unfold zyl1 at hn
        grind
      subst hy
      have hb:b=.nilIface:=by
        simp only [ev] at heb
        grind
      subst hb
      have hex:holds s ch->∀(β:Nat->Nat) (ρ:Operand->Value),(∀x∈o.op.operands,Opnd β s ρ x)->∀(w w':World) (v:Value),(binS op t x (.const .nilIface) a .nilIface).run P w=.ok v w'->
          (execOp ρ o).run P w=.ok (.value v) w':=by
        intro hh β ρ ho w w' v hr
        have ha:ρ x=a:=ev_ok (ho x (by simp [hop,Op.operands])) hh hea
        have hb:ρ (.const .nilIface)=.nilIface:=ev_ok (ho (.const .nilIface) (by simp [hop,Op.operands])) hh heb
        simp only [execOp,hop,ha,hb]
        change (binS op t x (.const .nilIface) a .nilIface>>=fun x=>pure (Next.value x)).run P w=_
        rw [Sem.run_bind,hr]
        rfl
      have gen:∀v:Value,K (.v v)->(holds s ch->∀w,(binS op t x (.const .nilIface) a .nilIface).run P w=.ok v w)->ValOk P tb o ch s h K:=fun v hk hr=>
        zak (.v v) hk fun hh β ρ w ho=>hex hh β ρ ho w w v (hr hh w)
      unfold isIfD at hi
      split at hi
      · rename_i e he
        split at hi
        · rename_i ms heu
          have hu:=fun w=>run_underlying' ok he w
          have hgd:isIfV a=true->∀w:World,(eqGuard op t x (.const .nilIface) a .nilIface).run P w=.ok () w:=fun ha w=>by
            unfold eqGuard
            rcases zyo1 ha with rfl | ⟨_,_,rfl⟩<;>cases op<;>first | rfl | (cases x<;>rfl)
          have hbo:isIfV a=true->op=.eql->∀w:World,(binOp op t a .nilIface).run P w=.ok (.bool (zsw a)) w:=fun ha ho w=>by
            subst ho
            rcases zyo1 ha with rfl | ⟨_,_,rfl⟩<;>simp only [binOp,Sem.run_bind,zjp1 (P:=P) ha (heu▸hu w),Result.andThen_ok,Sem.run_pure]
          have hbn:isIfV a=true->op=.neq->∀w:World,(binOp op t a .nilIface).run P w=.ok (.bool (!zsw a)) w:=fun ha ho w=>by
            subst ho
            rcases zyo1 ha with rfl | ⟨_,_,rfl⟩<;>simp only [binOp,Sem.run_bind,zjp1 (P:=P) ha (heu▸hu w),Result.andThen_ok,Sem.run_pure]
          unfold nilW at hv
          split at hv
          · refine gen _ hv fun hh w=> ?_
            have ha:=zdx hif hh
            simp only [binS,Sem.run_bind,hgd ha,Result.andThen_ok,hbo ha rfl]
          · refine gen _ hv fun hh w=> ?_
            have ha:=zdx hif hh
            simp only [binS,Sem.run_bind,hgd ha,Result.andThen_ok,hbn ha rfl]
          · exact hv.elim
        · cases hi
      · cases hi
end
section
variable {P:Program} {tb:Tb} {o:Oper} {ch:Chain} {s:St} {h:Hp} {K:LV->Prop}
theorem zue {β:Nat->Nat} {ρ:Operand->Value} (hh:holds s ch):∀ {l:List Operand} {vs:List Value},vals s ch l=some vs->(∀x∈l,Opnd β s ρ x)->l.map ρ=vs
  | [],vs,h,_=>by cases h;rfl
  | x::l,vs,h,ho=>by
    simp only [vals] at h
    split at h
    · rename_i v r hv hr
      cases h
      simp only [List.map_cons]
      rw [ev_ok (ho x (List.mem_cons_self ..)) hh hv,zue hh hr fun y hy=>ho y (List.mem_cons_of_mem _ hy)]
      rfl
    · cases h
theorem zsc1 {β:Nat->Nat} {ρ:Operand->Value} (hh:holds s ch):∀ {l:List (Nat×Operand)} {vs:List (Nat×Value)},pairs s ch l=some vs->(∀x∈l.map (·.2),Opnd β s ρ x)->
    l.map (fun p=>(p.1,ρ p.2))=vs
  | [],vs,h,_=>by cases h;rfl
  | (i,x)::l,vs,h,ho=>by
    simp only [pairs] at h
    split at h
    · rename_i v r hv hr
      cases h
      simp only [List.map_cons]
      rw [ev_ok (ho x (by simp)) hh hv,zsc1 hh hr fun y hy=>ho y (by grind)]
      rfl
    · cases h
theorem zvl1 {β:Nat->Nat} {ρ:Operand->Value} {x:Operand} {t:Nat} {w:Bool} {l:LV} (ho:Opnd β s ρ x) (hh:holds s ch) (hb':hb s t=some w)
    (he:zbo2 s ch t w x=some l):ρ x=LVal β l:=by
  cases x with
  | tmp u=>
    simp only [zbo2] at he
    split at he
    · rename_i l' c hf
      cases hs:sufx c ((t,w)::ch) with
      | false=>simp [hs] at he
      | true=>
        simp only [hs,cond_true] at he
        cases he
        refine ho l c hf (zah1 hs fun p hp=> ?_)
        rcases List.mem_cons.1 hp with rfl | hp
        · exact hb'
        · exact hh p hp
    · cases he
  | const v=>cases he;exact ho
  | global g=>cases he
  | func f=>cases he
theorem zlt2 {x a b:Operand} (hop:o.op=.pick x a b) (hv:pickW s ch x a b K):ValOk P tb o ch s h K:=by
  unfold pickW at hv
  split at hv
  · rename_i t
    split at hv
    · rename_i p c0 hf
      cases hs:sufx c0 ch with
      | false=>simp [hs] at hv
      | true=>
        simp only [hs,cond_true] at hv
        have hbp:hb s t=some p:=by simp [hb,hf]
        have hx:holds s ch->∀(β:Nat->Nat) (ρ:Operand->Value),(∀x∈o.op.operands,Opnd β s ρ x)->ρ (.tmp t)=.bool p:=fun hh β ρ ho=>
          ho (.tmp t) (by simp [hop,Op.operands]) _ _ hf (zah1 hs hh)
        have run:∀(ρ:Operand->Value) (w:World),ρ (.tmp t)=.bool p->(execOp ρ o).run P w=.ok (.value (if p=true then ρ a else ρ b)) w:=by
          intro ρ w hp
          simp only [execOp,hop,hp,asBool,Sem.run_bind,Sem.run_pure,Result.andThen_ok]
        split at hv
        · rename_i u
          obtain ⟨v,hev,hv⟩:=zas hv
          split at hv
          · rename_i q
            refine zak (.v (.bool (p&&q))) (hv _ rfl) fun hh β ρ w ho=> ?_
            rw [run ρ w (hx hh β ρ ho)]
            cases hp:p with
            | true=>
              have:=zvl1 (ho (.tmp u) (by simp [hop,Op.operands])) hh (hp▸hbp) hev
              simp [this,LVal]
            | false=>
              have:ρ (.const (.bool false))=.bool false:=ho (.const (.bool false)) (by simp [hop,Op.operands])
              simp [this,LVal]
          · exact hv.elim
        · rename_i u
          obtain ⟨v,hev,hv⟩:=zas hv
          split at hv
          · rename_i q
            refine zak (.v (.bool (p || q))) (hv _ rfl) fun hh β ρ w ho=> ?_
            rw [run ρ w (hx hh β ρ ho)]
            cases hp:p with
            | false=>
              have:=zvl1 (ho (.tmp u) (by simp [hop,Op.operands])) hh (hp▸hbp) hev
              simp [this,LVal]
            | true=>
              have:ρ (.const (.bool true))=.bool true:=ho (.const (.bool true)) (by simp [hop,Op.operands])
              simp [this,LVal]
          · exact hv.elim
        · refine zak _ hv fun hh β ρ w ho=> ?_
          rw [run ρ w (hx hh β ρ ho)]
          have h1:ρ (.const (.bool true))=.bool true:=ho (.const (.bool true)) (by simp [hop,Op.operands])
          have h2:ρ (.const (.bool false))=.bool false:=ho (.const (.bool false)) (by simp [hop,Op.operands])
          cases p<;>simp [h1,h2,LVal]
        · rename_i u v _
          refine zak _ hv fun hh β ρ w ho=> ?_
          rw [run ρ w (hx hh β ρ ho)]
          have h1:ρ (.const (.bool u))=.bool u:=ho (.const (.bool u)) (by simp [hop,Op.operands])
          have h2:ρ (.const (.bool v))=.bool v:=ho (.const (.bool v)) (by simp [hop,Op.operands])
          cases p<;>simp [h1,h2,LVal]
        · exact hv.elim
    · exact hv.elim
  · exact hv.elim
theorem zyp1 {x:Operand} {i:Nat} (hop:o.op=.extract x i) (hv:onV (ev s ch x) fun v=>match v with
    | .tuple vs=>match nth vs.toList i with
      | some y=>K (.v y)
      | none=>False
    | _=>False):ValOk P tb o ch s h K:=by
  obtain ⟨v,he,hv'⟩:=zas hv
  clear hv
  split at hv'
  · rename_i vs
    split at hv'
    · rename_i y hy
      refine zak (.v y) hv' fun hh β ρ w ho=> ?_
      have hx:=ev_ok (ho x (by simp [hop,Op.operands])) hh he
      have:vs[i]? =some y:=by rw [zda] at hy;simpa using hy
      simp only [execOp,hop,hx,LVal,Instr.extract,this,Sem.run_bind,Sem.run_pure,Result.andThen_ok]
    · exact hv'.elim
  · exact hv'.elim
theorem zsc2 {op:UnOp} {t:Nat} {x:Operand} (hop:o.op=.unOp op t x) (hv:onV (ev s ch x) fun a=>unW op a K):ValOk P tb o ch s h K:=by
  obtain ⟨v,he,hv'⟩:=zas hv
  clear hv
  unfold unW at hv'
  split at hv'<;>
    first
    | exact hv'.elim
    | refine zak _ hv' fun hh β ρ w ho=> ?_
      have hx:=ev_ok (ho x (by simp [hop,Op.operands])) hh he
      simp [execOp,hop,hx,LVal,Op.unary,Op.intArith,Op.intBits,bitsI]
theorem zps2 {x:Operand} (hop:o.op=.nilCheck x) (hv:match ev s ch x with
    | some (.v (.pointer p))=>NilW (cnd s ch) p fun a=>K (.v (.pointer (some a)))
    | some (.box k off)=>K (.box k off)
    | some (.boxd k off)=>K (.boxd k off)
    | _=>False):ValOk P tb o ch s h K:=by
  split at hv
  · rename_i p he
    obtain ⟨a,hr,hk⟩:=hv
    refine zak _ hk fun hh β ρ w ho=> ?_
    have hx:=ev_ok (ho x (by simp [hop,Op.operands])) hh he
    have hp:=zdx hr hh
    subst hp
    simp [execOp,hop,hx,LVal]
  · rename_i k off he
    refine zak _ hv (fun hh β ρ w ho=> ?_) (zyn1 (by simp [hop,Op.operands]) he)
    have hx:=ev_ok (ho x (by simp [hop,Op.operands])) hh he
    simp [execOp,hop,hx,LVal]
  · rename_i k off he
    refine zak _ hv (fun hh β ρ w ho=> ?_) (zyn1 (by simp [hop,Op.operands]) he)
    have hx:=ev_ok (ho x (by simp [hop,Op.operands])) hh he
    simp [execOp,hop,hx,LVal]
  · exact hv.elim
theorem zqi1 {t:Nat} {cs:List Value} {off:Nat} (hv:partW tb t cs off K):
    ∃e v,tb.ty t=some e/\K (.v v)/\((ziw e.und=true/\v=.agg ((cs.drop off).take e.size).toArray/\off+e.size<=cs.length)\/(ziw e.und=false/\cs[off]? =some v)):=by
  unfold partW at hv
  split at hv
  · rename_i e he
    cases ha:ziw e.und with
    | true=>
      simp only [ha,cond_true,zbu2,zbv2] at hv
      cases hl:Nat.ble (off+e.size) cs.length with
      | false=>simp [hl] at hv
      | true=>
        simp only [hl,cond_true] at hv
        exact ⟨e,_,he,hv,.inl ⟨ha,rfl,Nat.le_of_ble_eq_true hl⟩⟩
    | false=>
      simp only [ha,cond_false,zda] at hv
      grind
  · exact hv.elim
theorem zlv1 (ok:tb.Ok P) {t:Nat} {cs:List Value} {off b ct:Nat} {e:Ty} {v:Value} {w:World} (he:tb.ty t=some e)
    (hv:(ziw e.und=true/\v=.agg ((cs.drop off).take e.size).toArray/\off+e.size<=cs.length)\/(ziw e.und=false/\cs[off]? =some v))
    (hb:w.heap[b]? =some (.cells cs.toArray ct (0,0))):(loadVar t ⟨b,off,none⟩).run P w=.ok v w:=by
  simp only [loadVar,Sem.run_bind,run_isAgg' ok he,Result.andThen_ok]
  rcases hv with ⟨ha,hv,hl⟩ | ⟨ha,hv⟩
  · have hlen:((cs.drop off).take e.size).length=e.size:=by simp;omega
    have hc:∀j v,((cs.drop off).take e.size)[j]? =some v->w.cell? ((⟨b,off,none⟩:Addr).add j)=some v:=by
      intro j v hj
      rw [zbh,zsb1 hb]
      grind
    rw [ha]
    simp only [if_true,Sem.run_bind,run_sizeOf' ok he,Result.andThen_ok]
    conv=>lhs;rw [<-hlen]
    rw [zuc hc]
    simp [hv]
  · have:=zsb1 hb off
    rw [hv] at this
    simp [ha,this]
theorem zlu2 (ok:tb.Ok P) {t:Nat} {x:Operand} (hop:o.op=.load t x) (hv:match ev s ch x with
    | some (.v (.pointer (some a)))=>match tb.ty t with
      | some e=>LdW (cnd s ch) e.sh h a fun x=>K (.v (e.sh.enc x))
      | none=>False
    | some (.box k off)=>match s.m k with
      | some cs=>partW tb t cs off K
      | none=>False
    | some (.boxd k off)=>match s.m k,tb.ty t with
      | some cs,some e=>cond (ziw e.und) False (∃x,Req (cnd s ch) (cs[off]? =some (e.sh.enc x))/\K (.v (e.sh.enc x)))
      | _,_=>False
    | _=>False):ValOk P tb o ch s h K:=by
  have run:∀(ρ:Operand->Value) (w:World) (a:Addr) (v:Value),ρ x=.pointer (some a)->(loadVar t a).run P w=.ok v w->(execOp ρ o).run P w=.ok (.value v) w:=by
    intro ρ w a v hx hr
    simp only [execOp,hop,hx,Instr.loadAt,Instr.sureAddr,Sem.run_bind,Sem.run_pure,Result.andThen_ok,hr]
  split at hv
  · rename_i a he
    split at hv
    · rename_i e hte
      obtain ⟨y,hr,hk⟩:=hv
      refine zlt1 (by simp [kindD,hop,he]) _ hk fun hh β ρ w ho hs=> ?_
      have hx:=ev_ok (ho x (by simp [hop,Op.operands])) hh he
      exact run ρ w a _ hx (zud ok hte fun j v hj=>zhv hs (zdx hr hh j v hj))
    · exact hv.elim
  · rename_i k off he
    split at hv
    · rename_i cs hm
      obtain ⟨e,v,hte,hk,hc⟩:=zqi1 hv
      refine zvk1 (by simp [kindD,hop,he]) _ hk fun hh β ρ w ho hb=> ?_
      have hx:=ev_ok (ho x (by simp [hop,Op.operands])) hh he
      obtain ⟨ct,hbk⟩:=hb.box (by simp [hop,Op.operands]) he hh hm
      exact run ρ w _ _ hx (zlv1 ok hte hc hbk)
    · exact hv.elim
  · rename_i k off he
    split at hv
    · rename_i cs e hm hte
      cases ha:ziw e.und with
      | true=>simp [ha] at hv
      | false=>
        simp only [ha,cond_false] at hv
        obtain ⟨y,hr,hk⟩:=hv
        refine zvk1 (by simp [kindD,hop,he]) _ hk fun hh β ρ w ho hb=> ?_
        have hx:=ev_ok (ho x (by simp [hop,Op.operands])) hh he
        obtain ⟨ct,hbk⟩:=hb.boxd (by simp [hop,Op.operands]) he hh hm
        exact run ρ w _ _ hx (zlv1 ok hte (.inr ⟨ha,zdx hr hh⟩) hbk)
    · exact hv.elim
  · exact hv.elim
theorem zvm1 {t i:Nat} {Q:Nat->Nat->Prop} (hv:zry1 tb t i Q):
    ∃e fs f g,tb.ty t=some e/\e.und=.struct fs/\fs[i]? =some f/\tb.ty f.type=some g/\g.size≠0/\Q f.offset g.size:=by
  unfold zry1 at hv
  split at hv
  · rename_i e he
    split at hv
    · rename_i fs hfs
      split at hv
      · rename_i f hf
        split at hv
        · rename_i g hg
          split at hv
          · exact hv.elim
          · rename_i n hn
            refine ⟨e,fs,f,g,he,hfs,by rw [zda] at hf;simpa using hf,hg,by omega,hn▸hv⟩
        · exact hv.elim
      · exact hv.elim
    · exact hv.elim
  · exact hv.elim
theorem zsd1 (ok:tb.Ok P) {t i:Nat} {x:Operand} (hop:o.op=.fieldAddr t x i) (hv:zry1 tb t i fun off _=>match ev s ch x with
    | some (.v (.pointer (some a)))=>K (.v (.pointer (some (a.add off))))
    | some (.box k o)=>K (.box k (o+off))
    | some (.boxd k o)=>K (.boxd k (o+off))
    | _=>False):ValOk P tb o ch s h K:=by
  obtain ⟨e,fs,f,g,he,hfs,hf,hg,hz,hq⟩:=zvm1 hv
  have run:∀(ρ:Operand->Value) (w:World) (a:Addr),ρ x=.pointer (some a)->(execOp ρ o).run P w=.ok (.value (.pointer (some (a.add f.offset)))) w:=by
    intro ρ w a hx
    have hu:=run_underlying' ok he w
    rw [hfs] at hu
    have hsz:=run_sizeOf' ok hg w
    simp only [execOp,hop,hx,Instr.fieldAt,Instr.sureAddr,Sem.run_bind,hu,Result.andThen_ok,hf,Sem.run_pure,fieldPlace,hsz,if_neg hz]
  split at hq
  · rename_i a hea
    refine zak _ hq fun hh β ρ w ho=> ?_
    exact run ρ w a (ev_ok (ho x (by simp [hop,Op.operands])) hh hea)
  · rename_i k o' hea
    refine zak _ hq (fun hh β ρ w ho=> ?_) (zbw2 (by simp [hop,Op.operands]) hea (by simp))
    rw [run ρ w _ (ev_ok (ho x (by simp [hop,Op.operands])) hh hea),zbh]
    rfl
  · rename_i k o' hea
    refine zak _ hq (fun hh β ρ w ho=> ?_) (zhg2 (by simp [hop,Op.operands]) hea (by simp))
    rw [run ρ w _ (ev_ok (ho x (by simp [hop,Op.operands])) hh hea),zbh]
    rfl
  · exact hq.elim
theorem zbz2 (ok:tb.Ok P) {t:Nat} {cs:List Value} {off:Nat} {e:Ty} {v:Value} {w:World} (he:tb.ty t=some e)
    (hv:(ziw e.und=true/\v=.agg ((cs.drop off).take e.size).toArray/\off+e.size<=cs.length)\/(ziw e.und=false/\cs[off]? =some v)):
    (part t cs.toArray off).run P w=.ok v w:=by
  simp only [part,Sem.run_bind,run_isAgg' ok he,Result.andThen_ok]
  rcases hv with ⟨ha,hv,_⟩ | ⟨ha,hv⟩
  · simp only [ha,if_true,Sem.run_bind,run_sizeOf' ok he,Result.andThen_ok,Sem.run_pure,hv]
    simp
  · simp [ha,hv]
theorem zhh2 (ok:tb.Ok P) {t i:Nat} {x:Operand} (hop:o.op=.field t x i) (hv:match tb.ty t with
    | some e=>match e.und with
      | .struct fs=>match nth fs.toList i with
        | some f=>onV (ev s ch x) fun v=>match v with
          | .agg cs=>partW tb f.type cs.toList f.offset K
          | _=>False
        | none=>False
      | _=>False
    | none=>False):ValOk P tb o ch s h K:=by
  split at hv
  · rename_i e he
    split at hv
    · rename_i fs hfs
      split at hv
      · rename_i f hf
        obtain ⟨v,hev,hv'⟩:=zas hv
        clear hv
        split at hv'
        · rename_i cs
          obtain ⟨g,y,hg,hk,hc⟩:=zqi1 hv'
          refine zak _ hk fun hh β ρ w ho=> ?_
          have hx:=ev_ok (ho x (by simp [hop,Op.operands])) hh hev
          have hu:=run_underlying' ok he w
          rw [hfs] at hu
          have hf':fs[i]? =some f:=by rw [zda] at hf;simpa using hf
          have hp:=zbz2 (w:=w) ok hg hc
          simp only [Array.toArray_toList] at hp
          simp only [execOp,hop,hx,LVal,Instr.field,Sem.run_bind,hu,Result.andThen_ok,hf',asAgg,Sem.run_pure,hp]
        · exact hv'.elim
      · exact hv.elim
    · exact hv.elim
  · exact hv.elim
end
section
variable {P:Program} {tb:Tb} {o:Oper} {ch:Chain} {s:St} {h:Hp} {K:LV->Prop}
theorem zew {t:Nat} {g:Ty} (h:elemS tb t=some g):∃e u,tb.ty t=some e/\e.und=.slice u/\tb.ty u=some g:=by
  unfold elemS at h
  grind
theorem zgw1 {t n:Nat} {g:Ty} (h:elemA tb t=some (n,g)):∃e u,tb.ty t=some e/\e.und=.array n u/\tb.ty u=some g:=by
  unfold elemA at h
  grind
theorem zse1 (ok:tb.Ok P) {t:Nat} {x i:Operand} (hop:o.op=.indexAddr t x i) (hv:match ev s ch x,ev s ch i with
    | some (.v (.slice base len _)),some (.v (.int _ n))=>match elemS tb t with
      | some e=>Req (cnd s ch) (InB base len n)/\K (.v (.pointer (some (sat base e.size n))))
      | none=>False
    | some (.v (.pointer (some a))),some (.v (.int _ n))=>match elemA tb t with
      | some (len,e)=>Req (cnd s ch) (0<=n/\n<(len:Int))/\K (.v (.pointer (some (a.add (n.toNat*e.size)))))
      | none=>False
    | some (.box k off),some (.v (.int _ n))=>match elemA tb t with
      | some (len,e)=>Req (cnd s ch) (0<=n/\n<(len:Int))/\cond (zlr1 i) (K (.box k (off+n.toNat*e.size))) (K (.boxd k (off+n.toNat*e.size)))
      | none=>False
    | _,_=>False):ValOk P tb o ch s h K:=by
  have runA:∀(ρ:Operand->Value) (w:World) (a:Addr) (k:IntKind) (n:Int) (len:Nat) (e:Ty),elemA tb t=some (len,e)->ρ x=.pointer (some a)->ρ i=.int k n->0<=n/\n<(len:Int)->
      (execOp ρ o).run P w=.ok (.value (.pointer (some (a.add (n.toNat*e.size))))) w:=by
    intro ρ w a k n len e hel hx hi hb
    obtain ⟨y,u,hy,hu,hg⟩:=zgw1 hel
    have hun:=run_underlying' ok hy w
    have hsz:=run_sizeOf' ok hg w
    rw [hu] at hun
    simp only [execOp,hop,hx,hi,Instr.indexAt,asIntOf,Instr.sureAddr,Sem.run_bind,Sem.run_pure,Result.andThen_ok,hun,if_pos hb,hsz]
  split at hv
  · rename_i base len c k n hex hei
    split at hv
    · rename_i e hel
      obtain ⟨y,u,hy,hu,hg⟩:=zew hel
      refine zak _ hv.2 fun hh β ρ w ho=> ?_
      have hx:=ev_ok (ho x (by simp [hop,Op.operands])) hh hex
      have hi:=ev_ok (ho i (by simp [hop,Op.operands])) hh hei
      obtain ⟨hbase,h0,h1⟩:=zdx hv.1 hh
      obtain ⟨a,rfl⟩:∃a,base=some a:=Option.ne_none_iff_exists'.1 hbase
      have hun:=run_underlying' ok hy w
      have hsz:=run_sizeOf' ok hg w
      rw [hu] at hun
      simp only [execOp,hop,hx,hi,LVal,Instr.indexAt,asIntOf,Sem.run_bind,Sem.run_pure,Result.andThen_ok,hun,if_pos (And.intro h0 h1),hsz,sat,Option.getD_some]
    · exact hv.elim
  · rename_i a k n hex hei
    split at hv
    · rename_i len e hel
      refine zak _ hv.2 fun hh β ρ w ho=> ?_
      exact runA ρ w a k n len e hel (ev_ok (ho x (by simp [hop,Op.operands])) hh hex) (ev_ok (ho i (by simp [hop,Op.operands])) hh hei) (zdx hv.1 hh)
    · exact hv.elim
  · rename_i k' off k n hex hei
    split at hv
    · rename_i len e hel
      have main:∀l:LV,(∀β,LVal β l=.pointer (some ⟨β k',off+n.toNat*e.size,none⟩))->(∀k1 off',(l=.box k1 off'\/l=.boxd k1 off')->k1=k')->K l->ValOk P tb o ch s h K:=fun l hl hb hk=>
        zak l hk (fun hh β ρ w ho=>by
          rw [runA ρ w _ k n len e hel (ev_ok (ho x (by simp [hop,Op.operands])) hh hex) (ev_ok (ho i (by simp [hop,Op.operands])) hh hei) (zdx hv.1 hh),zbh,hl]) (zbw2 (by simp [hop,Op.operands]) hex hb)
      cases hc:zlr1 i with
      | true=>exact main (.box k' (off+n.toNat*e.size)) (fun _=>rfl) (by intro k' off' e;rcases e with e | e<;>cases e<;>rfl) (by simpa [hc] using hv.2)
      | false=>exact main (.boxd k' (off+n.toNat*e.size)) (fun _=>rfl) (by intro k' off' e;rcases e with e | e<;>cases e<;>rfl) (by simpa [hc] using hv.2)
    · exact hv.elim
  · exact hv.elim
theorem zhi2 (ok:tb.Ok P) {t:Nat} {x i:Operand} (hop:o.op=.index t x i) (hv:match ev s ch x,ev s ch i with
    | some (.v (.string b)),some (.v (.int _ n))=>match tb.ty t with
      | some y=>match y.und with
        | .string=>Req (cnd s ch) (0<=n/\n<(b.size:Int))/\K (.v (.int .u8 ((b.data.toList.getD n.toNat 0).toNat:Int)))
        | _=>False
      | none=>False
    | some (.v (.agg cs)),some (.v (.int _ n))=>idxW (cnd s ch) tb t cs.toList n K
    | _,_=>False):ValOk P tb o ch s h K:=by
  split at hv
  · rename_i b k n hex hei
    split at hv
    · rename_i y hy
      split at hv
      · rename_i hu
        refine zak _ hv.2 fun hh β ρ w ho=> ?_
        have hx:=ev_ok (ho x (by simp [hop,Op.operands])) hh hex
        have hi:=ev_ok (ho i (by simp [hop,Op.operands])) hh hei
        obtain ⟨h0,h1⟩:=zdx hv.1 hh
        have hun:=run_underlying' ok hy w
        rw [hu] at hun
        have hlt:n.toNat<b.size:=by omega
        have hget:b[n.toNat]? =some (b.data.toList.getD n.toNat 0):=by
          rw [getElem?_pos b n.toNat hlt]
          congr 1
          have:n.toNat<b.data.toList.length:=by simpa using hlt
          rw [List.getD_eq_getElem?_getD,List.getElem?_eq_getElem this]
          rfl
        simp only [execOp,hop,hx,hi,LVal,Instr.index,asIntOf,Sem.run_bind,Sem.run_pure,Result.andThen_ok,hun,if_pos h0,hget]
      · exact hv.elim
    · exact hv.elim
  · rename_i cs k n hex hei
    unfold idxW at hv
    split at hv
    · rename_i len e hel
      obtain ⟨y,u,hy,hu,hg⟩:=zgw1 hel
      cases ha:ziw e.und with
      | true=>grind
      | false=>
        simp only [ha,cond_false] at hv
        obtain ⟨hb,z,hz,hk⟩:=hv
        refine zak _ hk fun hh β ρ w ho=> ?_
        have hx:=ev_ok (ho x (by simp [hop,Op.operands])) hh hex
        have hi:=ev_ok (ho i (by simp [hop,Op.operands])) hh hei
        have hun:=run_underlying' ok hy w
        have hsz:=run_sizeOf' ok hg w
        have hp:=zbz2 ok (w:=w) (cs:=cs.toList) hg (.inr ⟨ha,zdx hz hh⟩)
        rw [hu] at hun
        simp only [Array.toArray_toList] at hp
        simp only [execOp,hop,hx,hi,LVal,Instr.index,asIntOf,Sem.run_bind,Sem.run_pure,Result.andThen_ok,hun,if_pos (zdx hb hh),hsz,hp]
    · exact hv.elim
  · exact hv.elim
theorem zlv2 {β:Nat->Nat} {ρ:Operand->Value} (hh:holds s ch) {x:Option Operand} {r:Option Int} (he:optI s ch x=some r) (ho:∀y,x=some y->Opnd β s ρ y):
    (x=none/\r=none)\/∃y k n,x=some y/\ρ y=.int k n/\r=some n:=by
  cases x with
  | none=>cases he;simp
  | some y=>
    simp only [optI] at he
    split at he
    · rename_i k n hy
      cases he
      exact .inr ⟨y,k,n,rfl,ev_ok (ho y rfl) hh hy,rfl⟩
    · cases he
theorem zlc {k:IntKind} {n:Int} {m:Nat} {c:BoundsCode} {w:World} (h0:0<=n) (h1:n<=(m:Int)):(Instr.sliceBound (.int k n) m c).run P w=.ok n.toNat w:=by
  simp only [Instr.sliceBound,asIntOf,Sem.run_bind,Sem.run_pure,Result.andThen_ok,if_pos (And.intro h0 h1)]
theorem zyq1 {c:Option Bool} {isS:Bool} {len cap:Nat} {lo hi mx:Option Int} {Q:Nat->Nat->Nat->Prop} (hv:slB c isS len cap lo hi mx Q):
    ∃l x m,Q l x m/\((c=none\/(c=some true))->∀(vl vh vm:Option Value),(lo=none/\vl=none\/∃k n,lo=some n/\vl=some (.int k n))->
      (hi=none/\vh=none\/∃k n,hi=some n/\vh=some (.int k n))->(mx=none/\vm=none\/∃k n,mx=some n/\vm=some (.int k n))->
      ∀w:World,(Instr.sliceBounds isS len cap vl vh vm).run P w=.ok (l,x,m) w):=by
  have rq:∀ {p:Prop},Req c p->(c=none\/c=some true)->p:=by
    intro p hr hc
    rcases hc with hc | hc<;>subst hc
    · exact hr
    · exact hr rfl
  unfold slB at hv
  split at hv
  · refine ⟨_,_,_,hv,fun hc vl vh vm h1 h2 h3 w=> ?_⟩
    simp at h1 h2 h3;subst h1;subst h2;subst h3
    simp [Instr.sliceBounds]
  · rename_i l
    refine ⟨_,_,_,hv.2,fun hc vl vh vm h1 h2 h3 w=> ?_⟩
    obtain ⟨a0,a1⟩:=rq hv.1 hc
    simp at h1 h2 h3;subst h2;subst h3;obtain ⟨k,rfl⟩:=h1
    simp [Instr.sliceBounds,zlc a0 a1]
  · rename_i x
    refine ⟨_,_,_,hv.2,fun hc vl vh vm h1 h2 h3 w=> ?_⟩
    obtain ⟨a0,a1⟩:=rq hv.1 hc
    simp at h1 h2 h3;subst h1;subst h3;obtain ⟨k,rfl⟩:=h2
    simp [Instr.sliceBounds,zlc a0 a1]
  · rename_i l x
    refine ⟨_,_,_,hv.2,fun hc vl vh vm h1 h2 h3 w=> ?_⟩
    obtain ⟨a0,a1,a2⟩:=rq hv.1 hc
    simp at h1 h2 h3;subst h3;obtain ⟨k,rfl⟩:=h1;obtain ⟨k',rfl⟩:=h2
    have e:(x.toNat:Int)=x:=Int.toNat_of_nonneg (by omega)
    simp [Instr.sliceBounds,zlc (Int.le_trans a0 a1) a2,zlc (n:=l) (m:=x.toNat) a0 (by omega)]
  · rename_i x m
    refine ⟨_,_,_,hv.2,fun hc vl vh vm h1 h2 h3 w=> ?_⟩
    obtain ⟨a0,a1,a2⟩:=rq hv.1 hc
    simp at h1 h2 h3;subst h1;obtain ⟨k,rfl⟩:=h2;obtain ⟨k',rfl⟩:=h3
    simp [Instr.sliceBounds,zlc (n:=m) (Int.le_trans a0 a1) a2,zlc (n:=x) (m:=m.toNat) a0 (by omega)]
  · rename_i l x m
    refine ⟨_,_,_,hv.2,fun hc vl vh vm h1 h2 h3 w=> ?_⟩
    obtain ⟨a0,a1,a2,a3⟩:=rq hv.1 hc
    simp at h1 h2 h3;obtain ⟨k,rfl⟩:=h1;obtain ⟨k',rfl⟩:=h2;obtain ⟨k'',rfl⟩:=h3
    simp [Instr.sliceBounds,zlc (n:=m) (by omega) a3,zlc (n:=x) (m:=m.toNat) (by omega) (by omega),zlc (n:=l) (m:=x.toNat) a0 (by omega)]
  · simp at hv
end
section
variable {P:Program} {tb:Tb} {o:Oper} {ch:Chain} {s:St} {h:Hp} {K:LV->Prop}
theorem zlw1 (hh:holds s ch):cnd s ch=none\/cnd s ch=some true:=by
  cases ch with
  | nil=>exact .inl rfl
  | cons q r=>
    obtain ⟨t,w⟩:=q
    obtain ⟨b,hb,hi⟩:=zbt2 (s:=s) t w r
    grind
theorem zhj2 (ok:tb.Ok P) {t:Nat} {x:Operand} {lo hi mx:Option Operand} (hop:o.op=.slice t x lo hi mx) (hv:onV (ev s ch x) fun v=>match optI s ch lo,optI s ch hi,optI s ch mx with
    | some lo,some hi,some mx=>zhb2 (cnd s ch) tb t v lo hi mx K
    | _,_,_=>False):ValOk P tb o ch s h K:=by
  obtain ⟨v,hev,hv'⟩:=zas hv
  clear hv
  split at hv'
  · rename_i l n m hl hn hm
    have opt:holds s ch->∀(β:Nat->Nat) (ρ:Operand->Value),(∀x∈o.op.operands,Opnd β s ρ x)->∀ {y:Option Operand} {r:Option Int},optI s ch y=some r->(∀z,y=some z->z∈o.op.operands)->
        (r=none/\y.map ρ=none\/∃k n,r=some n/\y.map ρ=some (.int k n)):=by
      intro hh β ρ ho y r he hm
      rcases zlv2 hh he (fun z hz=>ho z (hm z hz)) with ⟨h1,h2⟩ | ⟨z,k,n,h1,h2,h3⟩
      · exact .inl ⟨h2,by rw [h1];rfl⟩
      grind
    unfold zhb2 at hv'
    split at hv'
    · rename_i base len cap
      split at hv'
      · rename_i e hel
        obtain ⟨y,u,hy,hu,hg⟩:=zew hel
        obtain ⟨l',x',m',hq,hrun⟩:=zyq1 (P:=P) hv'
        refine zak _ (hq _ rfl) fun hh β ρ w ho=> ?_
        have hx:=ev_ok (ho x (by simp [hop,Op.operands])) hh hev
        have hun:=run_underlying' ok hy w
        have hsz:=run_sizeOf' ok hg w
        rw [hu] at hun
        have hr:=hrun (zlw1 hh) _ _ _ (opt hh β ρ ho hl (by intro z hz;simp [hop,Op.operands,hz])) (opt hh β ρ ho hn (by intro z hz;simp [hop,Op.operands,hz]))
          (opt hh β ρ ho hm (by intro z hz;simp [hop,Op.operands,hz])) w
        simp only [execOp,hop,hx,LVal,Instr.sliceAt,Instr.slice,Sem.run_bind,hun,Result.andThen_ok,hr,hsz,Sem.run_pure,sbase]
      · exact hv'.elim
    · rename_i a
      split at hv'
      · rename_i n' e hel
        obtain ⟨y',u,hy',hu',hg⟩:=zgw1 hel
        obtain ⟨l',x',m',hq,hrun⟩:=zyq1 (P:=P) hv'
        refine zak _ (hq _ rfl) fun hh β ρ w ho=> ?_
        have hx:=ev_ok (ho x (by simp [hop,Op.operands])) hh hev
        have hun':=run_underlying' ok hy' w
        have hsz:=run_sizeOf' ok hg w
        rw [hu'] at hun'
        have hr:=hrun (zlw1 hh) _ _ _ (opt hh β ρ ho hl (by intro z hz;simp [hop,Op.operands,hz])) (opt hh β ρ ho hn (by intro z hz;simp [hop,Op.operands,hz]))
          (opt hh β ρ ho hm (by intro z hz;simp [hop,Op.operands,hz])) w
        simp only [execOp,hop,hx,LVal,Instr.sliceAt,Instr.slice,Instr.sureAddr,Sem.run_bind,Result.andThen_ok,hun',hr,hsz,Sem.run_pure,sbase]
        split<;>simp_all
      · exact hv'.elim
    · rename_i b
      split at hv'
      · rename_i e hy
        split at hv'
        · rename_i hu
          obtain ⟨l',x',m',hq,hrun⟩:=zyq1 (P:=P) hv'
          refine zak _ hq fun hh β ρ w ho=> ?_
          have hx:=ev_ok (ho x (by simp [hop,Op.operands])) hh hev
          have hun:=run_underlying' ok hy w
          rw [hu] at hun
          have hmx:mx=none:=by
            cases mx with
            | none=>rfl
            | some z=>simp only [optI] at hm;grind
          have hr:=hrun (zlw1 hh) _ _ none (opt hh β ρ ho hl (by intro z hz;simp [hop,Op.operands,hz])) (opt hh β ρ ho hn (by intro z hz;simp [hop,Op.operands,hz])) (.inl ⟨rfl,rfl⟩) w
          subst hmx
          simp [execOp,hop,hx,LVal,Instr.sliceAt,Instr.slice,hun,hr]
        · exact hv'.elim
      · exact hv'.elim
    · exact hv'.elim
  · exact hv'.elim
theorem zhk2 (ok:tb.Ok P) {t:Nat} {x:Operand} (hop:o.op=.makeInterface t x) (hv:onV (ev s ch x) fun v=>match tb.ty t with
    | some e=>match e.und with
      | .interface _=>False
      | _=>K (.v (.iface t v))
    | none=>False):ValOk P tb o ch s h K:=by
  obtain ⟨v,hev,hv'⟩:=zas hv
  clear hv
  split at hv'
  · rename_i e he
    have run:(∀ms,e.und≠ .interface ms)->K (.v (.iface t v))->ValOk P tb o ch s h K:=fun hne hk=>
      zak _ hk fun hh β ρ w ho=>by
        have hx:=ev_ok (ho x (by simp [hop,Op.operands])) hh hev
        have hun:=run_underlying' ok he w
        simp only [execOp,hop,hx,LVal,Instr.makeInterface,Sem.run_bind,hun,Result.andThen_ok]
        cases hu:e.und<;>first | exact absurd hu (hne _) | rfl
    grind
  · exact hv'.elim
theorem zlw2 {fn:Fn} {first captured:Array Operand} (hop:o.op=.makeFunc fn first captured)
    (hv:onVs (vals s ch first.toList) fun a=>onVs (vals s ch captured.toList) fun b=>K (.v (.func fn a.toArray b.toArray))):ValOk P tb o ch s h K:=by
  obtain ⟨a,ha,hv1⟩:=zsx hv
  obtain ⟨b,hb,hk⟩:=zsx hv1
  refine zak _ hk fun hh β ρ w ho=> ?_
  have h1:=zue (β:=β) (ρ:=ρ) hh ha fun x hx=>ho x (by simp [hop,Op.operands];grind)
  have h2:=zue (β:=β) (ρ:=ρ) hh hb fun x hx=>ho x (by simp [hop,Op.operands];grind)
  have e1:first.map ρ=a.toArray:=by grind
  have e2:captured.map ρ=b.toArray:=by grind
  simp only [execOp,hop,Instr.makeFunc,Sem.run_bind,Sem.run_pure,Result.andThen_ok,e1,e2,LVal]
theorem zyr1 (ok:tb.Ok P) {src dst:Nat} {x:Operand} (hop:o.op=.convert src dst x) (hv:onV (ev s ch x) fun v=>match tb.ty src,tb.ty dst,v with
    | some _,some e,.int _ n=>match e.und with
      | .int k=>K (.v (.int k (k.wrap n)))
      | _=>genV (cnd s ch) P tb dst (convert src dst v) h K
    | some _,some _,v=>genV (cnd s ch) P tb dst (convert src dst v) h K
    | _,_,_=>False):ValOk P tb o ch s h K:=by
  obtain ⟨v,hev,hv'⟩:=zas hv
  clear hv
  have hex:holds s ch->∀(β:Nat->Nat) (ρ:Operand->Value),(∀x∈o.op.operands,Opnd β s ρ x)->∀(w w':World) (u:Value),(convert src dst v).run P w=.ok u w'->(execOp ρ o).run P w=.ok (.value u) w':=by
    intro hh β ρ ho w w' u hr
    have hx:=ev_ok (ho x (by simp [hop,Op.operands])) hh hev
    simp only [execOp,hop,hx,LVal,Sem.run_bind,hr,Result.andThen_ok,Sem.run_pure]
  split at hv'
  · rename_i e0 e k n hs hd
    split at hv'
    · rename_i k' hu
      refine zak _ hv' fun hh β ρ w ho=>hex hh β ρ ho w w _ ?_
      have h1:=run_underlying' ok hs w
      have h2:=run_underlying' ok hd w
      rw [hu] at h2
      generalize e0.und=u0 at h1
      simp only [convert,Sem.run_bind,h1,h2,Result.andThen_ok]
      cases u0<;>rfl
    · exact zcr1 (by simp_all [kindD]) hv' fun hh β ρ ho w w' u hr=>hex hh β ρ ho w w' u hr
  · exact zcr1 (by simp_all [kindD]) hv' fun hh β ρ ho w w' u hr=>hex hh β ρ ho w w' u hr
  · exact hv'.elim
theorem zuf :∀(l:List Value) (i:Nat) (new:List Value),i+new.length<=l.length->layL l i new=l.take i++new++l.drop (i+new.length)
  | l,0,[],_=>by cases l<;>simp [layL]
  | [],0,b::new,h=>by simp at h
  | a::l,0,b::new,h=>by
    have:=zuf l 0 new (by grind)
    simp only [layL,this]
    simp
  | [],n+1,new,h=>by simp at h
  | a::l,n+1,new,h=>by
    have:=zuf l n new (by simp at h ⊢;omega)
    simp only [layL,this]
    grind
theorem zys1 (l:List Value) (i:Nat) (new:List Value) (h:i+new.length<=l.length):(layL l i new).length=l.length:=by
  rw [zuf l i new h];simp;omega
theorem zca2 :∀(new:List Value) (k:Nat) (l:List Value) (off:Nat),off+k+new.length<=l.length->
    ((new.zipIdx k).foldl (fun (cs:Array Value) (p:Value×Nat)=>cs.setIfInBounds (off+p.2) p.1) l.toArray).toList=l.take (off+k)++new++l.drop (off+k+new.length)
  | [],k,l,off,_=>by simp
  | v::new,k,l,off,h=>by
    simp only [List.zipIdx_cons,List.foldl_cons]
    have h':off+(k+1)+new.length<=(l.set (off+k) v).length:=by simp at h ⊢;omega
    have:=zca2 new (k+1) (l.set (off+k) v) off h'
    rw [show (l.toArray.setIfInBounds (off+k) v)=(l.set (off+k) v).toArray by simp]
    rw [this]
    simp at h
    apply List.ext_getElem?
    intro j
    simp only [List.getElem?_append,List.length_append,List.length_take,List.length_set,List.length_cons,List.getElem?_take,List.getElem?_drop,List.getElem?_set]
    grind
theorem zcb2 (v:Value) (l:List Value) (off:Nat) (h:off+(zac v).length<=l.length):
    (v.cells.zipIdx.foldl (fun (cs:Array Value) (p:Value×Nat)=>cs.setIfInBounds (off+p.2) p.1) l.toArray)=(layL l off (zac v)).toArray:=by
  apply Array.ext'
  rw [<-Array.foldl_toList]
  have:v.cells.zipIdx.toList=(zac v).zipIdx:=by
    rw [Array.toList_zipIdx,zbb]
  rw [this,zca2 (zac v) 0 l off (by omega),zuf l off _ h]
  simp
theorem zsf1 {size:Nat}:∀ {ps:List (Nat×Value)} {cs cs':List Value},fillA size cs ps=some cs'->
    Instr.fill (fun i=>some (i*size,size)) cs.toArray ps=some cs'.toArray
  | [],cs,cs',h=>by cases h;rfl
  | (i,v)::r,cs,cs',h=>by
    simp only [fillA] at h
    cases h1:Nat.beq (zac v).length size with
    | false=>simp [h1] at h
    | true=>
      cases h2:Nat.ble (i*size+size) cs.length with
      | false=>simp [h1,h2] at h
      | true=>
        simp only [h1,h2,cond_true] at h
        have e1:=Nat.eq_of_beq_eq_true h1
        have e2:=Nat.le_of_ble_eq_true h2
        have hc:v.cells.size=size:=by rw [<-Array.length_toList,zbb,e1]
        have:=zsf1 h
        simp only [Instr.fill,hc,ne_eq,not_true,decide_false,Bool.false_or,decide_eq_true_eq]
        rw [if_neg (by simp;omega)]
        have hst:=zcb2 v cs (i*size) (by omega)
        grind
theorem zcc2 {fs:List Field} {pl:Nat->Option (Nat×Nat)} (hpl:∀i f e,fs[i]? =some f->tb.ty f.type=some e->pl i=some (f.offset,e.size)):
    ∀ {ps:List (Nat×Value)} {cs cs':List Value},fillW tb fs cs ps=some cs'->Instr.fill pl cs.toArray ps=some cs'.toArray
  | [],cs,cs',h=>by cases h;rfl
  | (i,v)::r,cs,cs',h=>by
    simp only [fillW] at h
    split at h
    · rename_i f hf
      split at h
      · rename_i e he
        cases h1:Nat.beq (zac v).length e.size with
        | false=>simp [h1] at h
        | true=>
          cases h2:Nat.ble (f.offset+e.size) cs.length with
          | false=>simp [h1,h2] at h
          | true=>
            simp only [h1,h2,cond_true] at h
            have e1:=Nat.eq_of_beq_eq_true h1
            have e2:=Nat.le_of_ble_eq_true h2
            have hc:v.cells.size=e.size:=by rw [<-Array.length_toList,zbb,e1]
            have:=zcc2 hpl h
            rw [zda] at hf
            simp only [Instr.fill,hpl i f e hf he,hc]
            rw [if_neg (by simp;omega)]
            rw [zcb2 v cs f.offset (by omega)]
            exact this
      · cases h
    · cases h
theorem zqj1 (ok:tb.Ok P) {w:World}:∀(fs:List Field),(∀f∈fs,∃e,tb.ty f.type=some e)->
    ∃ps:List (Nat×Nat),(fs.mapM fun f=>(do pure (f.offset,<-Go.sizeOf f.type):Sem (Nat×Nat))).run P w=.ok ps w/\ps.length=fs.length/\
      ∀(i:Nat) f e,fs[i]? =some f->tb.ty f.type=some e->ps[i]? =some (f.offset,e.size)
  | [],_=>⟨[],by simp,rfl,by simp⟩
  | f::fs,hf=>by
    obtain ⟨e,he⟩:=hf f (List.mem_cons_self ..)
    obtain ⟨ps,hr,hl,hp⟩:=zqj1 ok (w:=w) fs fun g hg=>hf g (List.mem_cons_of_mem _ hg)
    refine ⟨(f.offset,e.size)::ps,?_,by simp [hl],?_⟩
    · simp only [List.mapM_cons,Sem.run_bind,run_sizeOf' ok he,Result.andThen_ok,Sem.run_pure,hr]
    grind
theorem zvn1 :∀ {fs:List Field},tysIn tb fs=true->∀f∈fs,∃e,tb.ty f.type=some e
  | [],_,f,hf=>by cases hf
  | g::fs,h,f,hf=>by
    simp only [tysIn] at h
    split at h
    · rename_i e he
      rcases List.mem_cons.1 hf with rfl | hf
      · exact ⟨e,he⟩
      · exact zvn1 h f hf
    · cases h
theorem zhl2 (ok:tb.Ok P) {t:Nat} {parts:Array (Nat×Operand)} (hop:o.op=.build t parts)
    (hv:onVs ((pairs s ch parts.toList).map fun _=> []) fun _=>match pairs s ch parts.toList,tb.ty t with
    | some ps,some e=>match e.und with
      | .struct fs=>cond (tysIn tb fs.toList) (match fillW tb fs.toList (zac e.zero) ps with
        | some cs=>K (.v (.agg cs.toArray))
        | none=>False) False
      | .array _ u=>match tb.ty u with
        | some g=>match fillA g.size (zac e.zero) ps with
          | some cs=>K (.v (.agg cs.toArray))
          | none=>False
        | none=>False
      | _=>False
    | _,_=>False):ValOk P tb o ch s h K:=by
  obtain ⟨_,_,hv'⟩:=zsx hv
  clear hv
  split at hv'
  · rename_i ps e hps he
    have hparts:holds s ch->∀(β:Nat->Nat) (ρ:Operand->Value),(∀x∈o.op.operands,Opnd β s ρ x)->(parts.map fun (i,x)=>(i,ρ x)).toList=ps:=by
      intro hh β ρ ho
      have:=zsc1 (β:=β) (ρ:=ρ) hh hps fun x hx=>ho x (by simp [hop,Op.operands];simpa using hx)
      simpa using this
    split at hv'
    · rename_i fs hu
      cases hty:tysIn tb fs.toList with
      | false=>simp [hty] at hv'
      | true=>
        simp only [hty,cond_true] at hv'
        split at hv'
        · rename_i cs hcs
          refine zak _ hv' fun hh β ρ w ho=> ?_
          have hun:=run_underlying' ok he w
          rw [hu] at hun
          have hz:=run_zeroValue' ok he w
          obtain ⟨pl,hr,hl,hp⟩:=zqj1 ok (w:=w) fs.toList (zvn1 hty)
          have hm:(fs.mapM fun f=>(do pure (f.offset,<-Go.sizeOf f.type):Sem (Nat×Nat))).run P w=.ok pl.toArray w:=by
            rw [Array.mapM_eq_mapM_toList]
            simp only [Sem.run_map,hr,Result.andThen_ok]
          have hfill:=zcc2 (tb:=tb) (fs:=fs.toList) (pl:=fun (i:Nat)=>pl[i]?) hp hcs
          have e1:(parts.map fun (i,x)=>(i,ρ x)).toList=ps:=hparts hh β ρ ho
          have e2:(zac e.zero).toArray=e.zero.cells:=by apply Array.ext';simp [zbb]
          rw [e2] at hfill
          simp only [execOp,hop,Instr.build,Sem.run_bind,hz,Result.andThen_ok,hun,hm,e1]
          have e3:(fun (i:Nat)=>pl.toArray[i]?)=fun (i:Nat)=>pl[i]?:=by funext i;simp
          rw [e3,hfill]
          simp [LVal]
        · exact hv'.elim
    · rename_i n u hu
      split at hv'
      · rename_i g hg
        split at hv'
        · rename_i cs hcs
          refine zak _ hv' fun hh β ρ w ho=> ?_
          have hun:=run_underlying' ok he w
          rw [hu] at hun
          have hz:=run_zeroValue' ok he w
          have hsz:=run_sizeOf' ok hg w
          have hfill:=zsf1 hcs
          have e1:(parts.map fun (i,x)=>(i,ρ x)).toList=ps:=hparts hh β ρ ho
          have e2:(zac e.zero).toArray=e.zero.cells:=by apply Array.ext';simp [zbb]
          rw [e2] at hfill
          simp only [execOp,hop,Instr.build,Sem.run_bind,hz,Result.andThen_ok,hun,hsz,e1,hfill]
          simp [LVal]
        · exact hv'.elim
      · exact hv'.elim
    · exact hv'.elim
  · exact hv'.elim
end
section
variable {P:Program} {tb:Tb} {o:Oper} {ch:Chain} {s:St} {h:Hp} {K:LV->Prop}
theorem zhx (ok:tb.Ok P) {k:Nat} {e:Ty} {b:Bool} {v:Value} {w:World} (he:tb.ty k=some e) (hk:zop e.und=true):
    (Instr.checkKey b 10000 k v).run P w=.ok () w:=by
  have hu:=run_underlying' ok he w
  have key:∀n,(Instr.checkKey b (n+1) k v).run P w=.ok () w:=by
    intro n
    unfold Instr.checkKey
    simp only [Sem.run_bind,hu,Result.andThen_ok]
    generalize e.und=d at hk
    cases d<;>first | rfl | (simp [zop] at hk)
  exact key 9999
theorem zhy (ok:tb.Ok P) {k:Nat} {e:Ty} {v:Value} {es:List MapEntry} {r:Option (Nat×Value)} {w:World} (he:tb.ty k=some e)
    (hf:Instr.findNow e.und v es 0=some r):(Instr.findKey k v es).run P w=.ok r w:=by
  simp only [Instr.findKey,Sem.run_bind,run_underlying' ok he,Result.andThen_ok,hf,Sem.run_pure]
theorem zsz {r:Nat} {es:Array MapEntry} {ck:Nat} {w:World} (hb:w.heap[r]? =some (.map es ck)):(getObj r).run P w=.ok (.map es ck) w:=by
  simp [getObj,Sem.run,hb]
theorem zai1 (ok:tb.Ok P) {t k u:Nat} {e ke ue:Ty} {m:Option Nat} {b v:Value} {y cok:Bool} {w:World} (he:tb.ty t=some e) (hu:e.und=.map k u)
    (hk:tb.ty k=some ke) (hue:tb.ty u=some ue) (hkd:zop ke.und=true) (hs:Sub h w) (hl:zbn2 ke.und ue.zero m b h v y):
    (Instr.lookup t (.map m) b cok).run P w=.ok (if cok then .tuple #[v,.bool y] else v) w:=by
  have hun:=run_underlying' ok he w
  rw [hu] at hun
  obtain ⟨es,hm,hl⟩:=hl
  rcases hm with ⟨rfl,rfl⟩ | ⟨r,ck,rfl,hr⟩
  · simp only [Instr.lookup,Sem.run_bind,hun,Result.andThen_ok,Sem.run_pure,zhx ok hk hkd]
    rcases hl with ⟨hf,hv,hy⟩ | ⟨i,hf,hy⟩
    · simp only [zhy ok hk hf,Result.andThen_ok,Sem.run_bind,run_zeroValue' ok hue,Sem.run_pure,hv,hy]
    · simp only [zhy ok hk hf,Result.andThen_ok,Sem.run_bind,Sem.run_pure,hy]
  · simp only [Instr.lookup,Sem.run_bind,hun,Result.andThen_ok,zsz (hs r _ hr),Sem.run_pure,zhx ok hk hkd]
    rcases hl with ⟨hf,hv,hy⟩ | ⟨i,hf,hy⟩
    · simp only [zhy ok hk hf,Result.andThen_ok,Sem.run_bind,run_zeroValue' ok hue,Sem.run_pure,hv,hy]
    · simp only [zhy ok hk hf,Result.andThen_ok,Sem.run_bind,Sem.run_pure,hy]
theorem zed2 (ok:tb.Ok P) {t:Nat} {x i:Operand} {cok:Bool} (hop:o.op=.lookup t x i cok) (hv:onV (ev s ch x) fun a=>onV (ev s ch i) fun b=>match a,tb.ty t with
    | .map m,some e=>match e.und with
      | .map k u=>match tb.ty k,tb.ty u with
        | some ke,some ue=>cond (zop ke.und) (LookW (cnd s ch) ke.und ue.sh ue.zero m b h fun x y=>cond cok (K (.v (.tuple #[ue.sh.enc x,.bool y]))) (K (.v (ue.sh.enc x))))
            (genV (cnd s ch) P tb o.type (Instr.lookup t a b cok) h K)
        | _,_=>False
      | _=>False
    | _,_=>False):ValOk P tb o ch s h K:=by
  obtain ⟨a,hea,hv1⟩:=zas hv
  clear hv
  obtain ⟨b,heb,hv⟩:=zas hv1
  clear hv1
  have hex:holds s ch->∀(β:Nat->Nat) (ρ:Operand->Value),(∀x∈o.op.operands,Opnd β s ρ x)->∀(w w':World) (u:Value),(Instr.lookup t a b cok).run P w=.ok u w'->(execOp ρ o).run P w=.ok (.value u) w':=by
    intro hh β ρ ho w w' u hr
    have hx:=ev_ok (ho x (by simp [hop,Op.operands])) hh hea
    have hi:=ev_ok (ho i (by simp [hop,Op.operands])) hh heb
    simp only [execOp,hop,hx,hi,LVal,Sem.run_bind,hr,Result.andThen_ok,Sem.run_pure]
  split at hv
  · rename_i m e he
    split at hv
    · rename_i k u hu
      split at hv
      · rename_i ke ue hk hue
        cases hkd:zop ke.und with
        | false=>
          simp only [hkd,cond_false] at hv
          exact zcr1 (by simp_all [kindD]) hv fun hh β ρ ho w w' u hr=>hex hh β ρ ho w w' u hr
        | true=>
          simp only [hkd,cond_true] at hv
          obtain ⟨y,z,hr,hq⟩:=hv
          cases cok with
          | true=>
            refine zlt1 (by simp [kindD,hop]) _ hq fun hh β ρ w ho hs=>hex hh β ρ ho w w _ ?_
            rw [zai1 ok he hu hk hue hkd hs (zdx hr hh)]
            rfl
          | false=>
            refine zlt1 (by simp [kindD,hop]) _ hq fun hh β ρ w ho hs=>hex hh β ρ ho w w _ ?_
            rw [zai1 ok he hu hk hue hkd hs (zdx hr hh)]
            rfl
      · exact hv.elim
    · exact hv.elim
  · exact hv.elim
theorem zhm2 {k:IntKind} {w:World}:∀ {r:List Value} {x:Int} {v:Value},minI min2I k x r=some v->(r.foldlM Builtin.min2 (.int k x)).run P w=.ok v w
  | [],x,v,h=>by cases h;rfl
  | a::r,x,v,h=>by
    cases a<;>simp only [minI] at h<;>first
      | cases h
      | (simp only [List.foldlM_cons,Sem.run_bind,Builtin.min2,Sem.run_pure,Result.andThen_ok]
         exact zhm2 h)
theorem zhn2 {k:IntKind} {w:World}:∀ {r:List Value} {x:Int} {v:Value},minI max2I k x r=some v->(r.foldlM Builtin.max2 (.int k x)).run P w=.ok v w
  | [],x,v,h=>by cases h;rfl
  | a::r,x,v,h=>by
    cases a<;>simp only [minI] at h<;>first
      | cases h
      | (simp only [List.foldlM_cons,Sem.run_bind,Builtin.max2,Sem.run_pure,Result.andThen_ok]
         exact zhn2 h)
theorem zyt1 (ok:tb.Ok P) {b:Builtin} {xs:Array Operand} {ts:Array TypeId} (hop:o.op=.call {callee:=.builtin b,args:=xs,argTypes:=ts})
    (hv:onVs (vals s ch xs.toList) fun vs=>biV (cnd s ch) P tb b vs ts.toList o.type h K):ValOk P tb o ch s h K:=by
  obtain ⟨vs,hvs,hv'⟩:=zsx hv
  clear hv
  have hargs:holds s ch->∀(β:Nat->Nat) (ρ:Operand->Value),(∀x∈o.op.operands,Opnd β s ρ x)->xs.map ρ=vs.toArray:=by
    intro hh β ρ ho
    have:=zue (β:=β) (ρ:=ρ) hh hvs fun x hx=>ho x (by simp [hop,Op.operands,Call.operands];simpa using hx)
    grind
  unfold biV at hv'
  split at hv'
  · rename_i x ty hts
    have hts':ts= #[ty]:=by apply Array.ext';simpa using hts
    have hex:holds s ch->∀(β:Nat->Nat) (ρ:Operand->Value),(∀x∈o.op.operands,Opnd β s ρ x)->∀(w w':World) (u:Value),(Builtin.len_ #[ty] o.type #[x]).run P w=.ok u w'->(execOp ρ o).run P w=.ok (.value u) w':=by
      intro hh β ρ ho w w' u hr
      have ha:=hargs hh β ρ ho
      simp only [execOp,hop,resolve,invoke,builtin,Sem.run_bind,Sem.run_pure,Result.andThen_ok,ha,hts',hr]
    unfold lenW at hv'
    split at hv'
    · rename_i e he
      have hu:=fun w=>run_underlying' ok he w
      split at hv'
      · rename_i bs heu
        refine zak _ hv' fun hh β ρ w ho=>hex hh β ρ ho w w _ ?_
        simp [Builtin.len_,hu,heu,goInt,LVal]
      · rename_i el p n c heu
        refine zak _ hv' fun hh β ρ w ho=>hex hh β ρ ho w w _ ?_
        simp [Builtin.len_,hu,heu,goInt,LVal]
      · rename_i y n el heu
        refine zak _ hv' fun hh β ρ w ho=>hex hh β ρ ho w w _ ?_
        cases y<;>simp [Builtin.len_,hu,heu,goInt,LVal]
      · exact zcr1 (by simp_all [kindD]) hv' fun hh β ρ ho w w' u hr=>hex hh β ρ ho w w' u hr
    · exact hv'.elim
  · rename_i p n c ty hts
    have hts':ts= #[ty]:=by apply Array.ext';simpa using hts
    split at hv'
    · rename_i e he
      split at hv'
      · rename_i u hu
        refine zak _ hv' fun hh β ρ w ho=> ?_
        have ha:=hargs hh β ρ ho
        have hun:=run_underlying' ok he w
        rw [hu] at hun
        simp [execOp,hop,resolve,invoke,builtin,ha,hts',Builtin.cap_,hun,goInt,LVal]
      · exact hv'.elim
    · exact hv'.elim
  · rename_i k x r
    split at hv'
    · rename_i v hm
      refine zak _ hv' fun hh β ρ w ho=> ?_
      have ha:=hargs hh β ρ ho
      simp [execOp,hop,resolve,invoke,builtin,ha,Builtin.min_,zhm2 hm,LVal]
    · exact hv'.elim
  · rename_i k x r
    split at hv'
    · rename_i v hm
      refine zak _ hv' fun hh β ρ w ho=> ?_
      have ha:=hargs hh β ρ ho
      simp [execOp,hop,resolve,invoke,builtin,ha,Builtin.max_,zhn2 hm,LVal]
    · exact hv'.elim
  · exact hv'.elim
theorem zqk1 (ok:tb.Ok P) (hv:valW P tb o ch s h K):ValOk P tb o ch s h K:=by
  obtain ⟨dst,op,ty,pos,after,guard⟩:=o
  cases op with
  | move x=>exact zbx2 (.inl rfl) hv
  | assign x=>exact zbx2 (.inr rfl) hv
  | pick x a b=>exact zlt2 rfl hv
  | extract x i=>exact zyp1 rfl hv
  | binOp op t x y yt=>exact zpr2 ok rfl hv
  | unOp op t x=>exact zsc2 rfl hv
  | nilCheck x=>exact zps2 rfl hv
  | load t x=>exact zlu2 ok rfl hv
  | fieldAddr t x i=>exact zsd1 ok rfl hv
  | field t x i=>exact zhh2 ok rfl hv
  | indexAddr t x i=>exact zse1 ok rfl hv
  | index t x i=>exact zhi2 ok rfl hv
  | slice t x lo hi mx=>exact zhj2 ok rfl hv
  | makeInterface t x=>exact zhk2 ok rfl hv
  | makeFunc fn a b=>exact zlw2 rfl hv
  | convert a b x=>exact zyr1 ok rfl hv
  | build t ps=>exact zhl2 ok rfl hv
  | lookup t x i k=>exact zed2 ok rfl hv
  | call c=>
    obtain ⟨callee,args,ats⟩:=c
    cases callee with
    | builtin b=>exact zyt1 ok rfl hv
    | value f=>exact hv.elim
    | invoke r m=>exact hv.elim
  | _=>exact hv.elim
end
section
variable {P:Program} {tb:Tb} {o:Oper} {ch:Chain} {s:St} {h:Hp} {K:LV->Hp->Prop}
theorem zpt2 (s:St) (t:Nat) (w:Bool) (r:Chain):∃b,cnd s ((t,w)::r)=some b/\(b=true↔holds s ((t,w)::r)):=by
  induction r generalizing t w with
  | nil=>
    simp only [cnd]
    split
    · rename_i b c hf
      refine ⟨_,rfl,fun h=> ?_,fun h=> ?_⟩
      · intro p hp
        simp at hp
        subst hp
        simp only [hb,hf]
        grind
      · have:=h (t,w) (List.mem_cons_self ..)
        simp only [hb,hf] at this
        grind
    · refine ⟨false,rfl,fun h=>(by cases h),fun h=> ?_⟩
      have:=h (t,w) (List.mem_cons_self ..)
      unfold hb at this
      split at this
      · rename_i hn _ b c hf;exact absurd hf (hn b c)
      · cases this
  | cons p r ih=>
    obtain ⟨t',w'⟩:=p
    obtain ⟨b',hb',hh'⟩:=ih t' w'
    simp only [cnd]
    split
    · rename_i b c hf
      rw [hb']
      refine ⟨_,rfl,fun h=> ?_,fun h=> ?_⟩
      · have h2:b'=true/\b=w:=by grind
        intro q hq
        rcases List.mem_cons.1 hq with rfl | hq
        · simp only [hb,hf,h2.2]
        · exact hh'.1 h2.1 q hq
      · have h1:=h (t,w) (List.mem_cons_self ..)
        simp only [hb,hf] at h1
        injection h1 with h1
        have h2:b'=true:=hh'.2 fun q hq=>h q (List.mem_cons_of_mem _ hq)
        grind
    · refine ⟨false,rfl,fun h=>(by cases h),fun h=> ?_⟩
      have:=h (t,w) (List.mem_cons_self ..)
      unfold hb at this
      split at this
      · rename_i hn _ b c hf;exact absurd hf (hn b c)
      · cases this
def EffOk (P:Program) (o:Oper) (ch:Chain) (s:St) (h:Hp) (K:LV->Hp->Prop):Prop:=
  (holds s ch->∀(β:Nat->Nat) (a:Act) (w:World),(∀x∈o.op.operands,Opnd β s a.eval x)->Sub h w->∀(next:Act->World->Prop) (Q:Exit->Act->World->Prop),
    (∀x h' w',K (.v x) h'->Step h h' w w'->next (a.put o.dst x) w')->o.wp P a w next Q)/\
  (¬holds s ch->∃x,K (.v x) h)
theorem zlx1 {α:Type} {A:(α->Hp->Prop)->Hp->Prop} {K:α->Hp->Prop} (he:EffC (cnd s ch) A K h):(holds s ch->A K h)/\(¬holds s ch->∃x,K x h):=by
  cases ch with
  | nil=>exact ⟨fun _=>he,fun hn=>absurd (holds_nil s) hn⟩
  | cons p r=>
    obtain ⟨t,w⟩:=p
    obtain ⟨b,hb,hi⟩:=zpt2 s t w r
    rw [hb] at he
    exact ⟨fun hh=>he.1 (hi.2 hh),fun hn=>he.2 (by grind)⟩
theorem zex {α:Type} {A:(α->Hp->Prop)->Hp->Prop} {f:α->Value} (he:EffC (cnd s ch) A (fun x h'=>K (.v (f x)) h') h)
    (hr:holds s ch->∀(β:Nat->Nat) (ρ:Operand->Value) (w:World),(∀x∈o.op.operands,Opnd β s ρ x)->Sub h w->∀(K:α->Hp->Prop),A K h->
      ∃x h' w',(execOp ρ o).run P w=.ok (.value (f x)) w'/\K x h'/\Step h h' w w'):EffOk P o ch s h K:=by
  obtain ⟨h1,h2⟩:=zlx1 he
  refine ⟨fun hh β a w ho hs next Q hn=> ?_,fun hn=> ?_⟩
  · obtain ⟨x,h',w',hr,hk,hst⟩:=hr hh β a.eval w ho hs _ (h1 hh)
    unfold Oper.wp
    rw [hr,Oper.upon_value]
    exact hn _ _ _ hk hst
  grind
theorem zvo1 {h:Hp} {a a':Addr} {v:Value} (he:∃u,hcell h a'=some u):∃u,hcell (h.put a v) a'=some u:=by
  obtain ⟨u,hu⟩:=he
  obtain ⟨c,t,fr,hb,hsp,hc⟩:=zmq hu
  unfold Hp.put
  split
  · rename_i c' e' fr' hb'
    unfold hcell Hp.set
    by_cases hbl:a'.block=a.block
    · rw [hbl] at hb
      rw [hb] at hb'
      cases hb'
      simp only [hbl,if_true,hsp,Option.isSome_none,Bool.false_eq_true,if_false]
      split
      · exact ⟨u,hc⟩
      · rw [Array.getElem?_setIfInBounds]
        split
        · rename_i hoff
          have:a'.off<c.size:=by
            rcases Nat.lt_or_ge a'.off c.size with h | h
            · exact h
            · rw [Array.getElem?_eq_none h] at hc;cases hc
          rw [if_pos (by omega)]
          exact ⟨v,rfl⟩
        · exact ⟨u,hc⟩
    · simp only [if_neg hbl,hb,hsp]
      exact ⟨u,by simpa using hc⟩
  grind
theorem zvp1 (h:Hp) (a a':Addr) (v:Value):hfroz (h.put a v) a'=hfroz h a':=by
  unfold Hp.put
  split
  · rename_i c e fr hb
    unfold hfroz Hp.set
    grind
  · rfl
theorem zaj1 {h:Hp} {a:Addr}:∀ {n:Nat},StOk h a n->∀i,i<n->(∃v,hcell h (a.add i)=some v)/\hfroz h (a.add i)=false
  | 0,_,i,hi=>by omega
  | n+1,hs,i,hi=>by
    rcases Nat.lt_or_ge i n with h | h
    · exact zaj1 hs.1 i h
    · have:i=n:=by omega
      subst this
      exact hs.2
theorem zgt {a:Addr}:∀(cs:List Value) (i:Nat) (h:Hp) (w:World),Sub h w->zax cs=true->
    (∀j,j<cs.length->(∃v,hcell h (a.add (i+j))=some v)/\hfroz h (a.add (i+j))=false)->
    ∃w',(storeCells a cs i).run P w=.ok () w'/\Step h (putL h a cs i) w w'
  | [],i,h,w,hs,_,_=>⟨w,rfl,.refl hs⟩
  | v::cs,i,h,w,hs,hok,hc=>by
    obtain ⟨⟨v0,h0⟩,hf⟩:=hc 0 (by simp)
    rw [Nat.add_zero] at h0 hf
    have hst:=zbj2 (v:=v) hs h0
    have hok':zax cs=true/\v.oneCell'=true:=by
      cases v<;>simp only [zax] at hok<;>first | exact ⟨hok,rfl⟩ | cases hok
    obtain ⟨w',hr,hst'⟩:=zgt cs (i+1) (h.put (a.add i) v) (w.setCell (a.add i) v) hst.sub hok'.1 (fun j hj=>by
      have:=hc (j+1) (by simp;omega)
      rw [show i+1+j=i+(j+1) from by omega]
      exact ⟨zvo1 this.1,by rw [zvp1];exact this.2⟩)
    refine ⟨w',?_,hst.trans hst'⟩
    simp only [storeCells,Sem.run_bind]
    have hst1:(store (a.add i) v).run P w=.ok () (w.setCell (a.add i) v):=by
      have hcl:=zhv hs h0
      obtain ⟨c,t,fr,hb,_,_⟩:=zmq h0
      have hfr:w.frozen? (a.add i)=false:=by rw [zln1 hs hb];exact hf
      have hv:=hok'.2
      cases v<;>first
        | (simp [Value.oneCell'] at hv;done)
        | simp only [store,Sem.run,hcl,hfr,Bool.false_eq_true,if_false]
    rw [hst1]
    simp only [Result.andThen_ok]
    exact hr
theorem zho2 (ok:tb.Ok P) {t:Nat} {x y:Operand} (hop:o.op=.store t x y) (hv:match ev s ch x,ev s ch y with
    | some (.v (.pointer (some a))),some (.v v)=>match ch,tb.ty t with
      | [],some e=>cond (Nat.beq (zac v).length e.size) (cond (zax (zac v)) (StW h a (zac v) fun h'=>K (.v (.tuple #[])) h') False) False
      | _,_=>False
    | _,_=>False):EffOk P o ch s h K:=by
  split at hv
  · rename_i a v hea hev
    split at hv
    · rename_i e he
      cases h1:Nat.beq (zac v).length e.size with
      | false=>simp [h1] at hv
      | true=>
        cases h2:zax (zac v) with
        | false=>grind
        | true=>
          simp only [h1,h2,cond_true] at hv
          refine ⟨fun hh β act w ho hs next Q hn=> ?_,fun hn=>absurd (holds_nil s) hn⟩
          have hx:act.eval x=_:=ev_ok (ho x (by simp [hop,Op.operands])) hh hea
          have hy:act.eval y=_:=ev_ok (ho y (by simp [hop,Op.operands])) hh hev
          obtain ⟨w',hr,hst⟩:=zgt (P:=P) (zac v) 0 h w hs h2 (fun j hj=>by simpa using zaj1 hv.1 j hj)
          have hsz:=run_sizeOf' ok he w
          have hlen:v.cells.size=e.size:=by rw [<-Array.length_toList,zbb];exact Nat.eq_of_beq_eq_true h1
          unfold Oper.wp
          have hrun:(execOp act.eval o).run P w=.ok .skip w':=by
            simp only [execOp,hop,hx,hy,LVal,Instr.storeAt,Instr.sureAddr,Sem.run_bind,Sem.run_pure,Result.andThen_ok,storeVar,hsz,hlen,ne_eq,not_true,if_false,zbb]
            have:(if False then (stuck "storeVar: the value has not the size of the variable" :Sem Unit) else pure PUnit.unit).run P w=.ok () w:=rfl
            first | rw [this] | skip
            simp only [hr,Result.andThen_ok]
          rw [hrun,Oper.upon_skip]
          exact hn _ _ _ hv.2 hst
    · exact hv.elim
  · exact hv.elim
theorem zdg {e:TypeId} {cs:Array Value} {w:World}:(newRow e cs).run P w=.ok ⟨w.heap.size,0,none⟩ {w with heap:=w.heap.push (.cells cs e)}:=by
  simp [newRow]
theorem zsg1 {cs:List Value} {K:Addr->Hp->Prop} {t:Nat} {w:World} (hs:Sub h w) (hk:NewW cs K h):
    ∃h',K ⟨w.heap.size,0,none⟩ h'/\Step h h' w {w with heap:=w.heap.push (.cells cs.toArray t)}:=by
  obtain ⟨hn,hst⟩:=zre hs (.cells cs.toArray t)
  exact ⟨_,hk _ t hn,hst⟩
theorem zee2 {cs:List Value} {K:Addr->Hp->Prop} {t:Nat} {w:World} (hs:Sub h w) (hk:zbm2 t cs K h):
    ∃h',K ⟨w.heap.size,0,none⟩ h'/\Step h h' w {w with heap:=w.heap.push (.cells cs.toArray t)}:=by
  unfold zbm2 at hk
  split at hk
  · obtain ⟨hn,hst⟩:=zre hs (.cells (List.toArray [.pointer none,.slice none 0 0]) t)
    exact ⟨_,hk _ hn,hst⟩
  · exact zsg1 hs hk
theorem zhp2 (ok:tb.Ok P) {t:Nat} (hop:o.op=.alloc t) (hv:match tb.ty t with
    | some e=>EffC (cnd s ch) (zbm2 t (zac e.zero)) (fun a h'=>K (.v (.pointer (some a))) h') h
    | none=>False):EffOk P o ch s h K:=by
  split at hv
  · rename_i e he
    refine zex (f:=fun a=>.pointer (some a)) hv fun hh β ρ w ho hs K hk=> ?_
    obtain ⟨h',hk',hst⟩:=zee2 (t:=t) hs hk
    refine ⟨_,h',_,?_,hk',hst⟩
    have e2:(zac e.zero).toArray=e.zero.cells:=by apply Array.ext';simp [zbb]
    rw [e2]
    simp [execOp,hop,Instr.alloc,run_zeroValue' ok he,newVar,zdg]
  · exact hv.elim
theorem zpu2 {t:Nat} {x:Operand} (hop:o.op=.box t x) (hv:onV (ev s ch x) fun v=>EffC (cnd s ch) (NewW (zac v)) (fun a h'=>K (.v (.pointer (some a))) h') h):
    EffOk P o ch s h K:=by
  obtain ⟨v,hev,hv'⟩:=zas hv
  refine zex (f:=fun a=>.pointer (some a)) hv' fun hh β ρ w ho hs K hk=> ?_
  obtain ⟨h',hk',hst⟩:=zsg1 (t:=t) hs hk
  refine ⟨_,h',_,?_,hk',hst⟩
  have hx:=ev_ok (ho x (by simp [hop,Op.operands])) hh hev
  have e2:(zac v).toArray=v.cells:=by apply Array.ext';simp [zbb]
  rw [e2]
  simp [execOp,hop,hx,LVal,Instr.box,newVar,zdg]
theorem zug {α:Type} (l:List α):∀n,(repL l n).length=n*l.length
  | 0=>by simp [repL]
  | n+1=>by simp [repL,zug l n,Nat.add_mul,Nat.add_comm]
theorem zcd2 (l:List Value):∀n i,i<n*l.length->(repL l n)[i]? =l[i%l.length]?
  | 0,i,h=>by simp at h
  | n+1,i,h=>by
    simp only [repL]
    rcases Nat.lt_or_ge i l.length with hi | hi
    · rw [List.getElem?_append_left hi,Nat.mod_eq_of_lt hi]
    · rw [List.getElem?_append_right hi,zcd2 l n (i-l.length) (by grind)]
      congr 1
      rw [<-Nat.mod_eq_sub_mod hi]
theorem zly1 (z:List Value) (n size:Nat) (hz:z.length=size):((Array.range (n*size)).map (fun i=>z.toArray[i%z.toArray.size]!))=(repL z n).toArray:=by
  apply Array.ext'
  apply List.ext_getElem?
  intro i
  rcases Nat.lt_or_ge i (n*size) with hi | hi
  · have h1:(repL z n)[i]? =z[i%z.length]?:=zcd2 z n i (by rw [hz];exact hi)
    have hpos:0<size:=by
      rcases Nat.eq_zero_or_pos size with h | h
      · subst h;simp at hi
      · exact h
    have hlt:i%z.length<z.length:=Nat.mod_lt _ (by omega)
    grind
  · have h1:(repL z n).length<=i:=by rw [zug,hz];exact hi
    grind
theorem zpf1 (ok:tb.Ok P) {t len:Nat} {parts:Array (Nat×Operand)} (hop:o.op=.buildSlice t len parts) (hv:match pairs s ch parts.toList,elemS tb t with
    | some ps,some e=>cond (Nat.ble (len*e.size) 16777216) (match fillA e.size (repL (zac e.zero) len) ps with
      | some cs=>EffC (cnd s ch) (NewW cs) (fun a h'=>K (.v (.slice (some a) len len)) h') h
      | none=>False) False
    | _,_=>False):EffOk P o ch s h K:=by
  split at hv
  · rename_i ps e hps hel
    obtain ⟨y,u,hy,hu,hg⟩:=zew hel
    cases h1:Nat.ble (len*e.size) 16777216 with
    | false=>simp [h1] at hv
    | true=>
      simp only [h1,cond_true] at hv
      have hle:=Nat.le_of_ble_eq_true h1
      split at hv
      · rename_i cs hcs
        refine zex (f:=fun a=>.slice (some a) len len) hv fun hh β ρ w ho hs K hk=> ?_
        obtain ⟨h',hk',hst⟩:=zsg1 (t:=u) hs hk
        refine ⟨_,h',_,?_,hk',hst⟩
        have hparts:(parts.map fun (i,x)=>(i,ρ x)).toList=ps:=by
          have:=zsc1 (β:=β) (ρ:=ρ) hh hps fun x hx=>ho x (by simp [hop,Op.operands];simpa using hx)
          simpa using this
        have hun:=run_underlying' ok hy w
        rw [hu] at hun
        have hsz:=run_sizeOf' ok hg w
        have hz:=run_zeroValue' ok hg w
        have hzl:=ok.zlen u e hg
        have hfill:=zsf1 hcs
        have e2:e.zero.cells=(zac e.zero).toArray:=by apply Array.ext';simp [zbb]
        simp only [execOp,hop,Instr.buildSlice,Sem.run_bind,hun,Result.andThen_ok,hsz,hparts]
        rw [if_neg (by omega)]
        by_cases h0:len*e.size=0
        · have hr0:repL (zac e.zero) len=[]:=by
            apply List.length_eq_zero_iff.1
            rw [zug,hzl];exact h0
          rw [hr0] at hfill
          have e3:(Array.map (fun x=>(#[]:Array Value)[x%(#[]:Array Value).size]!) (Array.range (len*e.size)))=([]:List Value).toArray:=by rw [h0];simp
          simp only [h0,if_true,Sem.run_pure,Result.andThen_ok,Sem.run_bind]
          rw [h0] at e3
          simp only [e3,hfill,Sem.run_bind,zdg,Result.andThen_ok,Sem.run_pure]
        · have e3:=zly1 (zac e.zero) len e.size hzl
          simp only [h0,if_false,Sem.run_bind,hz,Result.andThen_ok,Sem.run_pure,e2]
          simp only [e3,hfill,Sem.run_bind,zdg,Result.andThen_ok,Sem.run_pure]
      · exact hv.elim
  · exact hv.elim
end
section
variable {P:Program} {tb:Tb} {o:Oper} {ch:Chain} {s:St} {h:Hp} {K:LV->Hp->Prop}
theorem zlc1 {base:Option Addr} {n:Nat} {cs:List Value} {w:World} (hs:Sub h w) (hr:zei h base n cs) {m c:Nat} {size:Nat} (hn:n=m*size):
    (Builtin.firstCells size m (.slice base m c)).run P w=.ok cs.toArray w:=by
  obtain ⟨hl,hc⟩:=hr
  subst hn
  cases base with
  | none=>
    rcases hc with h0 | ⟨a,ha,_⟩
    · have:cs=[]:=List.length_eq_zero_iff.1 (by omega)
      subst this
      rfl
    · cases ha
  | some a=>
    have hld:∀j v,cs[j]? =some v->w.cell? (a.add j)=some v:=by
      intro j v hj
      rcases hc with h0 | ⟨a',ha,hld⟩
      · grind
      · cases ha;exact zhv hs (hld j v hj)
    simp only [Builtin.firstCells]
    rw [<-hl]
    exact zuc hld
theorem zlz1 {need cap:Nat} (h:cap<need):Builtin.nextslicecap need cap<=2*need:=by
  unfold Builtin.nextslicecap
  split
  · omega
  · split
    · omega
    · have key:∀r c,c<2*need->(c<need->256<=c)->Builtin.growBy need r c<=2*need:=by
        intro r
        induction r with
        | zero=>intro c hc _;simp only [Builtin.growBy];omega
        | succ r ih=>
          intro c hc h256
          simp only [Builtin.growBy]
          split
          · omega
          · rename_i hlt
            have:=h256 (by omega)
            exact ih _ (by omega) (by omega)
      grind
theorem zyq (z:List Value):∀n,zap z n=repL z n
  | 0=>rfl
  | n+1=>by simp only [zap,List.replicate_succ,List.flatten_cons,repL];rw [<-zyq z n,zap]
theorem zkt (z:Array Value) (n:Nat):Builtin.zeroCells z n=(zap z.toList n).toArray:=by
  rw [zyq]
  have:=zly1 z.toList n z.size (by simp)
  unfold Builtin.zeroCells
  rw [<-this]
theorem zhq2 :IntKind.i64.max=9223372036854775807:=by decide
theorem zql1 (ok:tb.Ok P) {t t' u rt n:Nat} {y e e':Ty} {l:Sl} {x:Value} {new:List Value} {K:Sl->Hp->Prop} {w:World}
    (hy:tb.ty t=some y) (hu:y.und=.slice u) (hg:tb.ty u=some e) (hy':tb.ty t'=some e') (hnint:∀k,e'.und≠ .int k)
    (hs:Sub h w) (ha:zes1 u e.size e.bytes (zac e.zero) l n new K h) (hlen:∀w:World,(Builtin.lenOf x).run P w=.ok n w)
    (hnew:∀w:World,Sub h w->(Builtin.firstCells e.size n x).run P w=.ok new.toArray w) (hnl:new.length=n*e.size):
    ∃r h' w',(Builtin.append_ #[t,t'] rt #[.slice l.base l.len l.cap,x]).run P w=.ok (.slice r.base r.len r.cap) w'/\K r h'/\Step h h' w w':=by
  obtain ⟨old,hold,⟨hbn,hbd⟩,hokc,hin,hgrow⟩:=ha
  have h1:=fun w=>run_underlying' ok hy w
  have h2:=fun w=>run_underlying' ok hy' w
  have h3:=fun w=>run_sizeOf' ok hg w
  have h5:=fun w=>run_zeroValue' ok hg w
  obtain ⟨i,hi,_,hib,_⟩:=ok.info u e hg
  have h4:∀w,(typeInfo u).run P w=.ok i w:=fun w=>by simp [typeInfo,hi]
  have hz:(match e'.und with | .int _=>true | _=>false)=false:=by
    simp
  simp only [hu] at h1
  by_cases hle:l.len+n<=l.cap
  · obtain ⟨hst,hk⟩:=hin hle
    cases hb:l.base with
    | none=>
      refine ⟨_,_,w,?_,hk,?_⟩
      · simp [Builtin.append_,h1,h2,h3,hz,hlen,hle,hnew w hs,hb]
      · simp only [putO,hb];exact .refl hs
    | some a=>
      obtain ⟨w',hr,hstep⟩:=zgt (P:=P) new 0 h w hs hokc (a:=a.add (l.len*e.size)) (fun j hj=>by
        have:=zaj1 (hst a hb) j (by omega)
        simpa using this)
      refine ⟨_,_,w',?_,hk,?_⟩
      · simp [Builtin.append_,h1,h2,h3,hz,hlen,hle,hnew w hs,hb,hr]
      · simp only [putO,hb];exact hstep
  · have hlt:l.cap<l.len+n:=by omega
    have hcap:=zlz1 hlt
    have hby:¬(Builtin.nextslicecap (l.len+n) l.cap*e.bytes>281474976710656):=by
      have:Builtin.nextslicecap (l.len+n) l.cap*e.bytes<=2*(l.len+n)*e.bytes:=Nat.mul_le_mul_right _ hcap
      have h':2*(l.len+n)*e.bytes=2*((l.len+n)*e.bytes):=by rw [Nat.mul_assoc]
      omega
    have hmax:¬(((l.len+n:Nat):Int)>IntKind.i64.max):=by rw [zhq2];omega
    have hw1:Sub h {w with drawn:=w.drawn+1}:=hs
    have hold':∀w:World,Sub h w->(Builtin.firstCells e.size l.len (.slice l.base l.len l.cap)).run P w=.ok old.toArray w:=fun w hs=>zlc1 hs hold rfl
    let c:=(Question.appendCap (l.len+n) l.cap u).cut (w.tape w.drawn (.appendCap (l.len+n) l.cap u))
    have hc:l.len+n<=c:=by simp only [c,Question.cut];omega
    have hrow:(old.toArray++new.toArray++Builtin.zeroCells e.zero.cells (c-(l.len+n)))=(old++new++zap (zac e.zero) (c-(l.len+n))).toArray:=by
      rw [zkt,zbb];simp
    obtain ⟨hn,hst⟩:=zre hw1 (.cells (old++new++zap (zac e.zero) (c-(l.len+n))).toArray u)
    refine ⟨_,_,_,?_,hgrow hlt c _ hc hn,hst.drew⟩
    have hmax':¬(9223372036854775807<(l.len:Int)+(n:Int)):=by omega
    have hw2:Sub h w.drew:=hs
    have hby':¬(281474976710656<Builtin.nextslicecap (l.len+n) l.cap*i.bytes):=by rw [hib];omega
    have hrow':old.toArray++(new.toArray++Builtin.zeroCells e.zero.cells (c-(l.len+n)))=(old++(new++zap (zac e.zero) (c-(l.len+n)))).toArray:=by
      rw [<-Array.append_assoc,hrow,List.append_assoc]
    simp [Builtin.append_,h1,h2,h3,h4,h5,hz,hlen,Nat.not_le.2 hlt,hmax',hby',Question.forced,hold' _ hw2,hnew _ hw2,zdg]
    refine ⟨rfl,?_⟩
    rw [<-hrow']
    rfl
theorem zik (z:List Value) (n:Nat):(zap z n).length=n*z.length:=by simp [zap]
theorem zyu1 (ok:tb.Ok P) {t t' u rt:Nat} {m:Int} {y e e':Ty} {l:Sl} {K:Sl->Hp->Prop} {w:World}
    (hy:tb.ty t=some y) (hu:y.und=.slice u) (hg:tb.ty u=some e) (hy':tb.ty t'=some e') (hint:e'.und=.int .i64)
    (hs:Sub h w) (hm:0<=m) (ha:AppCells e.size e.bytes (zac e.zero) l m.toNat (zap (zac e.zero) m.toNat) K h):
    ∃r h' w',(Builtin.append_ #[t,t'] rt #[.slice l.base l.len l.cap,.int .i64 m]).run P w=.ok (.slice r.base r.len r.cap) w'/\K r h'/\Step h h' w w':=by
  obtain ⟨old,hold,⟨hbn,hbd⟩,hokc,hin,hgrow⟩:=ha
  have h1:=fun w=>run_underlying' ok hy w
  have h2:=fun w=>run_underlying' ok hy' w
  have h3:=fun w=>run_sizeOf' ok hg w
  have h5:=fun w=>run_zeroValue' ok hg w
  obtain ⟨i,hi,_,hib,_⟩:=ok.info u e hg
  have h4:∀w,(typeInfo u).run P w=.ok i w:=fun w=>by simp [typeInfo,hi]
  simp only [hu] at h1
  simp only [hint] at h2
  have hzl:=ok.zlen u e hg
  have hwm:IntKind.i64.wrap m=m:=by
    unfold IntKind.wrap
    simp only [IntKind.signed,IntKind.bits]
    grind
  have hneg:¬m<0:=by omega
  obtain ⟨n,rfl⟩:=Int.eq_ofNat_of_zero_le hm
  have hmn:((n:Int)).toNat=n:=by omega
  rw [hmn] at hbn hbd hokc hin hgrow
  have hbig:¬((n:Int)*(i.bytes:Int)>281474976710656):=by
    grind
  have hbig':¬(281474976710656<(n:Int)*(i.bytes:Int)):=by omega
  have happ:∀w:World,(if n*e.size=0 then (pure #[]:Sem (Array Value)) else do pure (Builtin.zeroCells (<-zeroValue u).cells n)).run P w=.ok (zap (zac e.zero) n).toArray w:=by
    intro w
    by_cases h0:n*e.size=0
    · have:zap (zac e.zero) n=[]:=List.length_eq_zero_iff.1 (by rw [zik,hzl];exact h0)
      rw [if_pos h0,this]
      rfl
    · rw [if_neg h0]
      simp only [Sem.run_bind,h5,Result.andThen_ok,Sem.run_pure]
      congr 1
      rw [zkt,zbb]
  have hasI:∀w:World,(asInt (.int .i64 (n:Int))).run P w=.ok (n:Int) w:=fun w=>rfl
  have hnn:¬(n:Int)<0:=by omega
  have hzc:Builtin.zeroCells e.zero.cells n=(zap (zac e.zero) n).toArray:=by rw [zkt,zbb]
  have hz0:n*e.size=0->zap (zac e.zero) n=[]:=fun h0=>List.length_eq_zero_iff.1 (by rw [zik,hzl];exact h0)
  by_cases hle:l.len+n<=l.cap
  · obtain ⟨hst,hk⟩:=hin hle
    cases hb:l.base with
    | none=>
      refine ⟨_,_,w,?_,hk,?_⟩
      · by_cases h0:n*e.size=0
        · simp [Builtin.append_,h1,h2,h3,h4,hasI,hwm,hnn,hbig',hle,h0,hb]
        · simp [Builtin.append_,h1,h2,h3,h4,h5,hasI,hwm,hnn,hbig',hle,h0,hb]
      · simp only [putO,hb];exact .refl hs
    | some a=>
      obtain ⟨w',hr,hstep⟩:=zgt (P:=P) (zap (zac e.zero) n) 0 h w hs hokc (a:=a.add (l.len*e.size)) (fun j hj=>by
        have:=zaj1 (hst a hb) j (by rw [zik,hzl] at hj;exact hj)
        simpa using this)
      refine ⟨_,_,w',?_,hk,?_⟩
      · by_cases h0:n*e.size=0
        · rw [hz0 h0] at hr
          simp [Builtin.append_,h1,h2,h3,h4,hasI,hwm,hnn,hbig',hle,h0,hb,hr]
        · simp [Builtin.append_,h1,h2,h3,h4,h5,hasI,hwm,hnn,hbig',hle,h0,hzc,hb,hr]
      · simp only [putO,hb];exact hstep
  · have hlt:l.cap<l.len+n:=by omega
    have hcap:=zlz1 hlt
    have hby:¬(Builtin.nextslicecap (l.len+n) l.cap*e.bytes>281474976710656):=by
      have:Builtin.nextslicecap (l.len+n) l.cap*e.bytes<=2*(l.len+n)*e.bytes:=Nat.mul_le_mul_right _ hcap
      have h':2*(l.len+n)*e.bytes=2*((l.len+n)*e.bytes):=by rw [Nat.mul_assoc]
      omega
    have hw1:Sub h {w with drawn:=w.drawn+1}:=hs
    have hold':∀w:World,Sub h w->(Builtin.firstCells e.size l.len (.slice l.base l.len l.cap)).run P w=.ok old.toArray w:=fun w hs=>zlc1 hs hold rfl
    let c:=(Question.appendCap (l.len+n) l.cap u).cut (w.tape w.drawn (.appendCap (l.len+n) l.cap u))
    have hc:l.len+n<=c:=by simp only [c,Question.cut];omega
    have hrow:(old.toArray++(zap (zac e.zero) n).toArray++Builtin.zeroCells e.zero.cells (c-(l.len+n)))=(old++zap (zac e.zero) n++zap (zac e.zero) (c-(l.len+n))).toArray:=by
      rw [zkt,zbb];simp
    obtain ⟨hn,hst⟩:=zre hw1 (.cells (old++zap (zac e.zero) n++zap (zac e.zero) (c-(l.len+n))).toArray u)
    refine ⟨_,_,_,?_,hgrow hlt c _ u hc hn,hst.drew⟩
    have hmax':¬(9223372036854775807<(l.len:Int)+(n:Int)):=by omega
    have hw2:Sub h w.drew:=hs
    have hby':¬(281474976710656<Builtin.nextslicecap (l.len+n) l.cap*i.bytes):=by rw [hib];omega
    have hrow':old.toArray++((zap (zac e.zero) n).toArray++Builtin.zeroCells e.zero.cells (c-(l.len+n)))=(old++(zap (zac e.zero) n++zap (zac e.zero) (c-(l.len+n)))).toArray:=by
      rw [<-Array.append_assoc,hrow,List.append_assoc]
    have hzc':∀k,Builtin.zeroCells e.zero.cells k=(zap (zac e.zero) k).toArray:=fun k=>by rw [zkt,zbb]
    by_cases h0:n*e.size=0
    · simp only [hz0 h0] at hrow' ⊢
      simp [Builtin.append_,h1,h2,h3,h4,h5,hasI,hwm,hnn,hbig',Nat.not_le.2 hlt,zhq2,hmax',hby',Question.forced,hold' _ hw2,h0,zdg,hzc']
      exact ⟨rfl,rfl⟩
    · simp [Builtin.append_,h1,h2,h3,h4,h5,hasI,hwm,hnn,hbig',Nat.not_le.2 hlt,zhq2,hmax',hby',Question.forced,hold' _ hw2,h0,zdg,hzc']
      exact ⟨rfl,rfl⟩
theorem zef2 (ok:tb.Ok P) {xs:Array Operand} {ts:Array TypeId} (hop:o.op=.call {callee:=.builtin .append,args:=xs,argTypes:=ts}) {vs:List Value} (hvs:vals s ch xs.toList=some vs)
    (hv:appW tb (cnd s ch) ts.toList vs h K):EffOk P o ch s h K:=by
  have hargs:holds s ch->∀(β:Nat->Nat) (ρ:Operand->Value),(∀x∈o.op.operands,Opnd β s ρ x)->xs.map ρ=vs.toArray:=by
    intro hh β ρ ho
    have:=zue (β:=β) (ρ:=ρ) hh hvs fun x hx=>ho x (by simp [hop,Op.operands,Call.operands];simpa using hx)
    apply Array.ext';simpa using this
  unfold appW at hv
  split at hv
  · rename_i p n c p' n' c' t t' hts
    have hts':ts= #[t,t']:=by grind
    split at hv
    · rename_i e e' hel hel'
      obtain ⟨y,u,hy,hu,hg⟩:=zew hel
      obtain ⟨y',u',hy',hu',hg'⟩:=zew hel'
      refine zex (f:=fun (l:Sl)=>.slice l.base l.len l.cap) hv fun hh β ρ w ho hs K hk=> ?_
      obtain ⟨new,hnew,happ⟩:=hk
      obtain ⟨r,h',w',hr,hk',hst⟩:=zql1 (P:=P) (rt:=o.type) (x:=.slice p' n' c') (l:=⟨p,n,c⟩) ok hy hu hg hy' (by grind) hs (happ.u u) (fun w=>rfl)
        (fun w hs=>zlc1 hs hnew rfl) hnew.1
      refine ⟨r,h',w',?_,hk',hst⟩
      simp only [execOp,hop,resolve,invoke,builtin,Sem.run_bind,Sem.run_pure,Result.andThen_ok,hargs hh β ρ ho,hts',hr]
    · exact hv.elim
  · rename_i p n c x t t' hts
    have hts':ts= #[t,t']:=by apply Array.ext';simpa using hts
    split at hv
    · rename_i e e' hel he'
      obtain ⟨y,u,hy,hu,hg⟩:=zew hel
      split at hv
      · rename_i hu8 hstr
        cases hb1:Nat.beq e.bytes 1 with
        | false=>simp [hb1] at hv
        | true=>
          simp only [hb1,cond_true] at hv
          have hb1':=Nat.eq_of_beq_eq_true hb1
          have hsz:e.size=1:=(ok.leaf u e hg (by rw [hu8];rfl)).1
          refine zex (f:=fun (l:Sl)=>.slice l.base l.len l.cap) hv fun hh β ρ w ho hs K hk=> ?_
          have hz:zac e.zero=[.int .u8 0]:=ok.zero8 u e hg hu8
          have hid:zha2 tb t=u:=by unfold zha2;rw [hy];simp only [hu]
          have happ:zes1 u e.size e.bytes (zac e.zero) ⟨p,n,c⟩ x.size (zer1 x) K h:=by rw [hsz,hb1',hz,<-hid];exact hk
          obtain ⟨r,h',w',hr,hk',hst⟩:=zql1 (P:=P) (rt:=o.type) (x:=.string x) (l:=⟨p,n,c⟩) ok hy hu hg he' (by grind) hs happ (fun w=>rfl)
            (fun w hs=>by
              have:(x.extract 0 x.size)=x:=by simp
              simp only [Builtin.firstCells,this,Sem.run_pure]
              congr 1
              apply Array.ext'
              simp [zer1]) (by simp [zer1,hsz])
          refine ⟨r,h',w',?_,hk',hst⟩
          simp only [execOp,hop,resolve,invoke,builtin,Sem.run_bind,Sem.run_pure,Result.andThen_ok,hargs hh β ρ ho,hts',hr]
      · exact hv.elim
    · exact hv.elim
  · rename_i p n c m t t' hts
    have hts':ts= #[t,t']:=by apply Array.ext';simpa using hts
    split at hv
    · rename_i e e' hel he'
      obtain ⟨y,u,hy,hu,hg⟩:=zew hel
      split at hv
      · rename_i hint
        refine zex (f:=fun (l:Sl)=>.slice l.base l.len l.cap) hv fun hh β ρ w ho hs K hk=> ?_
        obtain ⟨hm,happ⟩:=hk
        obtain ⟨r,h',w',hr,hk',hst⟩:=zyu1 (P:=P) (rt:=o.type) (l:=⟨p,n,c⟩) ok hy hu hg he' hint hs hm happ
        refine ⟨r,h',w',?_,hk',hst⟩
        simp only [execOp,hop,resolve,invoke,builtin,Sem.run_bind,Sem.run_pure,Result.andThen_ok,hargs hh β ρ ho,hts',hr]
      · exact hv.elim
    · exact hv.elim
  · exact hv.elim
theorem zlx2 (ok:tb.Ok P) {xs:Array Operand} {ts:Array TypeId} (hop:o.op=.call {callee:=.builtin .copy,args:=xs,argTypes:=ts}) {p p':Option Addr} {n n' c c':Nat} {t t':Nat}
    (hvs:vals s ch xs.toList=some [.slice p n c,.slice p' n' c']) (hts:ts.toList=[t,t']) {e:Ty} (hel:elemS tb t=some e)
    (hv:EffC (cnd s ch) (CopyW e.size ⟨p,n,c⟩ ⟨p',n',c'⟩) (fun k h'=>K (.v (.int .i64 k)) h') h):EffOk P o ch s h K:=by
  have hargs:holds s ch->∀(β:Nat->Nat) (ρ:Operand->Value),(∀x∈o.op.operands,Opnd β s ρ x)->xs.map ρ= #[.slice p n c,.slice p' n' c']:=by
    intro hh β ρ ho
    have:=zue (β:=β) (ρ:=ρ) hh hvs fun x hx=>ho x (by simp [hop,Op.operands,Call.operands];simpa using hx)
    apply Array.ext';simpa using this
  have hts':ts= #[t,t']:=by grind
  obtain ⟨y,u,hy,hu,hg⟩:=zew hel
  refine zex (f:=fun (k:Int)=>.int .i64 k) hv fun hh β ρ w ho hs K hk=> ?_
  obtain ⟨new,hnew,hokc,hst,hk'⟩:=hk
  have h1:=fun w=>run_underlying' ok hy w
  have h3:=fun w=>run_sizeOf' ok hg w
  rw [hu] at h1
  have hmin:Nat.min n' n=min n' n:=rfl
  have hrd:(Builtin.firstCells e.size (min n' n) (.slice p' n' c')).run P w=.ok new.toArray w:=by
    have:=zlc1 (P:=P) (m:=min n' n) (c:=c') hs hnew rfl
    cases p'<;>exact this
  cases hp:p with
  | none=>
    subst hp
    refine ⟨_,_,w,?_,hk',by simp only [putO];exact .refl hs⟩
    simp only [execOp,hop,resolve,invoke,builtin,Sem.run_bind,Sem.run_pure,Result.andThen_ok,hargs hh β ρ ho,hts']
    simp [Builtin.copy_,h1,h3,Builtin.lenOf,hmin,hrd,goInt]
  | some a=>
    subst hp
    obtain ⟨w',hr,hstep⟩:=zgt (P:=P) (a:=a) new 0 h w hs hokc (fun j hj=>by
      have:=zaj1 (hst a rfl) j (by rw [hnew.1] at hj;exact hj)
      simpa using this)
    refine ⟨_,_,w',?_,hk',by simp only [putO,show a.add 0=a from by simp [Addr.add]];exact hstep⟩
    simp only [execOp,hop,resolve,invoke,builtin,Sem.run_bind,Sem.run_pure,Result.andThen_ok,hargs hh β ρ ho,hts']
    simp [Builtin.copy_,h1,h3,Builtin.lenOf,hmin,hrd,goInt,hr]
theorem zly2 (ok:tb.Ok P) {t:Nat} {x y:Operand} (hop:o.op=.makeSlice t x y) {m n:Int} {e:Ty} (hex:ev s ch x=some (.v (.int .i64 m))) (hey:ev s ch y=some (.v (.int .i64 n)))
    (hel:elemS tb t=some e) (hv:EffC (cnd s ch) (MakeW e.bytes (zac e.zero) m n) (fun l h'=>K (.v (.slice l.base l.len l.cap)) h') h):EffOk P o ch s h K:=by
  obtain ⟨y',u,hy,hu,hg⟩:=zew hel
  refine zex (f:=fun (l:Sl)=>.slice l.base l.len l.cap) hv fun hh β ρ w ho hs K hk=> ?_
  obtain ⟨⟨h0,hle,hc1,hc2⟩,hk'⟩:=hk
  have hx:ρ x=_:=ev_ok (ho x (by simp [hop,Op.operands])) hh hex
  have hy2:ρ y=_:=ev_ok (ho y (by simp [hop,Op.operands])) hh hey
  have h1:=run_underlying' ok hy w
  rw [hu] at h1
  have h3:=fun w=>run_sizeOf' ok hg w
  have h5:=fun w=>run_zeroValue' ok hg w
  obtain ⟨i,hi,_,hib,_⟩:=ok.info u e hg
  have h4:∀w,(typeInfo u).run P w=.ok i w:=fun w=>by simp [typeInfo,hi]
  have hzl:=ok.zlen u e hg
  have wm:IntKind.i64.wrap m=m:=by simp [IntKind.wrap,IntKind.bits,IntKind.signed];omega
  have wn:IntKind.i64.wrap n=n:=by simp [IntKind.wrap,IntKind.bits,IntKind.signed];omega
  have hc2':¬((e.bytes:Int)*n>281474976710656):=by
    grind
  obtain ⟨hn,hst⟩:=zre hs (.cells (zap (zac e.zero) n.toNat).toArray u)
  refine ⟨_,_,_,?_,hk' _ u hn,hst⟩
  have g1:¬n<0:=by omega
  have g2:¬m<0:=by omega
  have g3:¬m>n:=by omega
  have hcond:((n<0 || decide ((e.bytes:Int)*n>2^48)) || decide (m<0) || decide (m>n))=false:=by
    grind
  have hrow:(if n.toNat*e.size=0 then (#[]:Array Value) else e.zero.cells)=e.zero.cells\/n.toNat*e.size=0:=by
    grind
  have hz:(Array.range (n.toNat*e.size)).map (fun i=>e.zero.cells[i%e.zero.cells.size]!)=(zap (zac e.zero) n.toNat).toArray:=by
    have:=zly1 (zac e.zero) n.toNat e.size hzl
    rw [zyq,<-this]
    have e2:e.zero.cells=(zac e.zero).toArray:=by apply Array.ext';simp [zbb]
    rw [e2]
  simp only [execOp,hop,hx,hy2,LVal,Instr.makeSlice,Sem.run_bind,h1,Result.andThen_ok,asInt,asIntOf,Sem.run_pure,h4,wm,wn,hib]
  have hb:((n<0 || decide ((e.bytes:Int)*n>2^48)) || decide (m<0) || decide (m>n))=false:=hcond
  simp only [hb,Bool.false_eq_true,if_false,Sem.run_bind,run_askRoom,Result.andThen_ok,h3]
  by_cases h00:n.toNat*e.size=0
  · have hz0:(zap (zac e.zero) n.toNat).toArray= #[]:=by rw [<-hz,h00];simp
    simp [h00,hz0,zdg]
    grind
  · simp [h00,h5,zdg,hz]
end
section
variable {P:Program} {tb:Tb} {o:Oper} {ch:Chain} {s:St} {h:Hp} {K:LV->Hp->Prop}
theorem zyv1 {t:Nat} (hop:o.op=.makeMap t none) (hv:EffC (cnd s ch) zaf1 (fun m h'=>K (.v (.map m)) h') h):EffOk P o ch s h K:=by
  refine zex (f:=fun m=>.map m) hv fun hh β ρ w ho hs K hk=> ?_
  obtain ⟨hn,hst⟩:=zre hs (.map #[] 0)
  refine ⟨_,_,_,?_,hk _ hn,hst⟩
  simp [execOp,hop,Instr.makeMap]
theorem zhr2 (ok:tb.Ok P) {src dst:Nat} {x:Operand} (hop:o.op=.convert src dst x) {b:ByteArray} {e g:Ty} (hex:ev s ch x=some (.v (.string b))) (hsrc:tb.ty src=some e)
    (hel:elemS tb dst=some g) (he:e.und=.string) (hg8:g.und=.int .u8)
    (hv:EffC (cnd s ch) (zpc2 b) (fun l h'=>K (.v (.slice l.base l.len l.cap)) h') h):EffOk P o ch s h K:=by
  obtain ⟨y,u,hy,hu,hg⟩:=zew hel
  refine zex (f:=fun (l:Sl)=>.slice l.base l.len l.cap) hv fun hh β ρ w ho hs K hk=> ?_
  have hx:ρ x=_:=ev_ok (ho x (by simp [hop,Op.operands])) hh hex
  have h1:=fun w=>run_underlying' ok hsrc w
  have h2:=fun w=>run_underlying' ok hy w
  have h3:=fun w=>run_underlying' ok hg w
  rw [he] at h1;rw [hu] at h2;rw [hg8] at h3
  let c:=(Question.appendCap b.size 0 u).cut (w.tape w.drawn (.appendCap b.size 0 u))
  have hc:b.size<=c:=by simp only [c,Question.cut];omega
  have hw1:Sub h w.drew:=hs
  let cs:=zer1 b++zap [.int .u8 0] (c-b.size)
  have hcl:cs.length=c:=by
    have:(zer1 b).length=b.size:=by simp [zer1]
    simp only [cs,List.length_append,zyq,zug,this];simp;omega
  obtain ⟨hn,hst⟩:=zre hw1 (.cells cs.toArray u (c,c+1))
  refine ⟨_,_,_,?_,hk c _ u hc hn,Step.drew hst⟩
  have harr:(b.data.map fun x=>(.int .u8 x.toNat:Value))++Array.replicate (c-b.size) (.int .u8 0)=cs.toArray:=by
    apply Array.ext'
    simp only [cs,zer1,zyq]
    have:∀n,List.replicate n (.int .u8 0:Value)=repL [.int .u8 0] n:=by
      intro n;induction n with
      | zero=>rfl
      | succ n ih=>simp only [List.replicate_succ,repL,ih];rfl
    simp [this]
  simp only [execOp,hop,hx,LVal,convert,Sem.run_bind,h1,h2,h3,Result.andThen_ok,Conv.stringToBytes,run_choose,Question.forced,Bool.false_eq_true,if_false,zdg,Sem.run_pure]
  change _=Result.ok (Next.value (.slice (some ⟨w.heap.size,0,none⟩) b.size c)) _
  rw [show ((Question.appendCap b.size 0 u).cut (w.tape w.drawn (.appendCap b.size 0 u)))=c from rfl,harr]
  have hsh:({w.drew with heap:=w.heap.push (.cells cs.toArray u)}:World).shape? w.heap.size=some (u,c):=by
    simp [World.shape?,hcl]
  have hfz:({w.drew with heap:=w.heap.push (.cells cs.toArray u)}:World).freeze ⟨w.heap.size,c,none⟩ 1={w.drew with heap:=w.heap.push (.cells cs.toArray u (c,c+1))}:=by
    simp only [World.freeze,Nat.one_ne_zero,if_false]
    congr 1
    grind
  have hms:(markStringish ⟨w.heap.size,0,none⟩).run P {w.drew with heap:=w.heap.push (.cells cs.toArray u)}=.ok () {w.drew with heap:=w.heap.push (.cells cs.toArray u (c,c+1))}:=by
    simp only [markStringish,Sem.run_bind,run_shape,Result.andThen_ok,hsh,run_freeze]
    rw [hfz]
  change (((markStringish ⟨w.heap.size,0,none⟩).run P {w.drew with heap:=w.heap.push (.cells cs.toArray u)}).andThen _).andThen _=_
  rw [hms]
  rfl
theorem zlz2 (ok:tb.Ok P) {src dst:Nat} {x:Operand} (hop:o.op=.convert src dst x) {p:Option Addr} {n c:Nat} {e g:Ty} {u0:Nat} (hex:ev s ch x=some (.v (.slice p n c))) (hsrc:tb.ty src=some e)
    (hel:elemS tb dst=some g) (he:e.und=.slice u0) (hg8:g.und=.int .u8) (hsd:src=dst)
    (hv:EffC (cnd s ch) (MarkW p) (fun _ h'=>K (.v (.slice p n c)) h') h):EffOk P o ch s h K:=by
  obtain ⟨y,u,hy,hu,hg⟩:=zew hel
  refine zex (f:=fun (_:Unit)=>.slice p n c) hv fun hh β ρ w ho hs K hk=> ?_
  have hx:ρ x=_:=ev_ok (ho x (by simp [hop,Op.operands])) hh hex
  have h1:=fun w=>run_underlying' ok hsrc w
  have h2:=fun w=>run_underlying' ok hy w
  have h3:=fun w=>run_underlying' ok hg w
  rw [he] at h1;rw [hu] at h2;rw [hg8] at h3
  obtain ⟨b,off,cs,t,rfl,hb,hk⟩:=hk
  have hst:=zae1 hs hb (o:=.cells cs t (cs.size,cs.size+1))
  refine ⟨_,_,_,?_,hk,hst⟩
  have hbw:w.heap[b]? =some (.cells cs t (0,0)):=hs _ _ hb
  have hfz:w.freeze ⟨b,cs.size,none⟩ 1={w with heap:=w.heap.setIfInBounds b (.cells cs t (cs.size,cs.size+1))}:=by
    simp only [World.freeze,Nat.one_ne_zero,if_false]
    congr 1
    grind
  have hms:(markStringish ⟨b,off,none⟩).run P w=.ok () {w with heap:=w.heap.setIfInBounds b (.cells cs t (cs.size,cs.size+1))}:=by
    have hsh:w.shape? b=some (t,cs.size):=by simp [World.shape?,hbw]
    simp only [markStringish,Sem.run_bind,run_shape,Result.andThen_ok,hsh,run_freeze]
    rw [hfz]
  have hbe:(src==dst)=true:=by rw [hsd];simp
  simp only [execOp,hop,hx,LVal,convert,Sem.run_bind,h1,h2,h3,Result.andThen_ok,hbe,hms,Sem.run_pure]
end
section
variable {P:Program} {tb:Tb} {o:Oper} {ch:Chain} {s:St} {h:Hp} {K:LV->Hp->Prop}
theorem zsh1 {α:Type} {A:(α->Hp->Prop)->Hp->Prop} (he:EffC (cnd s ch) A (fun _ h'=>K (.v (.tuple #[])) h') h)
    (hr:holds s ch->∀(β:Nat->Nat) (ρ:Operand->Value) (w:World),(∀x∈o.op.operands,Opnd β s ρ x)->Sub h w->∀(K:α->Hp->Prop),A K h->
      ∃x h' w',(execOp ρ o).run P w=.ok .skip w'/\K x h'/\Step h h' w w'):EffOk P o ch s h K:=by
  obtain ⟨h1,h2⟩:=zlx1 he
  refine ⟨fun hh β a w ho hs next Q hn=> ?_,fun hn=> ?_⟩
  · obtain ⟨x,h',w',hr,hk,hst⟩:=hr hh β a.eval w ho hs _ (h1 hh)
    unfold Oper.wp
    rw [hr,Oper.upon_skip]
    exact hn _ _ _ hk hst
  grind
theorem zce2 {sh:Shape} {sem:Sem Value} (hv:shE (cnd s ch) P sh sem K h)
    (hx:holds s ch->∀(β:Nat->Nat) (ρ:Operand->Value),(∀x∈o.op.operands,Opnd β s ρ x)->∀(w w':World) (v:Value),sem.run P w=.ok v w'->(execOp ρ o).run P w=.ok (.value v) w'):
    EffOk P o ch s h K:=by
  refine zex (f:=sh.enc) hv fun hh β ρ w ho hs K hk=> ?_
  obtain ⟨v,w',h',hr,⟨x,hvx,hkx⟩,hst⟩:=zsv sem hs hk
  subst hvx
  exact ⟨x,h',w',hx hh β ρ ho w w' _ hr,hkx,hst⟩
theorem zma1 {t:Nat} {sem:Sem Value} (hv:genE (cnd s ch) P tb t sem K h)
    (hx:holds s ch->∀(β:Nat->Nat) (ρ:Operand->Value),(∀x∈o.op.operands,Opnd β s ρ x)->∀(w w':World) (v:Value),sem.run P w=.ok v w'->(execOp ρ o).run P w=.ok (.value v) w'):
    EffOk P o ch s h K:=by
  unfold genE at hv
  split at hv
  · exact zce2 hv hx
  · exact hv.elim
theorem zhs2 {a b:ByteArray} (h:(a==b)=true):(b==a)=true:=by
  have:a=b:=by
    cases a;cases b
    congr
    exact eq_of_beq h
  grind
theorem zht2 {kd:TypeDesc} {a b:Value} {n:Nat} (hk:zop kd=true) (h:Instr.sameNow kd a b=some true):Instr.sameBits n b a=true:=by
  cases kd with
  | bool=>
    cases a<;>cases b<;>simp only [Instr.sameNow] at h<;>try (cases h;done)
    injection h with h
    have:∀x y:Bool,(x==y)=true->(y==x)=true:=by decide
    cases n<;>exact this _ _ h
  | int k=>
    cases a<;>cases b<;>simp only [Instr.sameNow] at h<;>try (cases h;done)
    split at h
    · injection h with h
      have hxy:=eq_of_beq h
      subst hxy
      rename_i hkk
      cases n<;>simp_all [Instr.sameBits]
    · cases h
  | string=>
    cases a<;>cases b<;>simp only [Instr.sameNow] at h<;>try (cases h;done)
    injection h with h
    cases n<;>exact zhs2 h
  | _=>simp [zop] at hk
theorem zmb1 {kd:TypeDesc} {k:Value}:∀ {es:List MapEntry} {j i:Nat} {u:Value},Instr.findNow kd k es j=some (some (i,u))->
    j<=i/\∃e,es[i-j]? =some e/\e.val=u/\Instr.sameNow kd k e.key=some true
  | [],j,i,u,h=>by simp [Instr.findNow] at h
  | e::es,j,i,u,h=>by
    simp only [Instr.findNow] at h
    split at h
    · grind
    · obtain ⟨hle,e',he,hu,hs⟩:=zmb1 h
      grind
    · cases h
theorem zak1 {r:Nat} {o o':Obj} {w:World} (hb:w.heap[r]? =some o') (hc:isCells o'=false):(setObj r o).run P w=.ok () {w with heap:=w.heap.setIfInBounds r o}:=by
  simp only [setObj,Sem.run,hb]
  cases o'<;>first | rfl | simp [isCells] at hc
theorem zeg2 (ok:tb.Ok P) {t k u:Nat} {e ke:Ty} {m:Option Nat} {b v:Value} {w:World} {K:Hp->Prop} (he:tb.ty t=some e) (hu:e.und=.map k u)
    (hk:tb.ty k=some ke) (hkd:zop ke.und=true) (hs:Sub h w) (hm:zrq ke.und m b v K h):
    ∃h' w',(Instr.mapUpdate t (.map m) b v).run P w=.ok () w'/\K h'/\Step h h' w w':=by
  obtain ⟨r,es,ck,rfl,hr,hf⟩:=hm
  have hun:=run_underlying' ok he w
  rw [hu] at hun
  have hb:=hs r _ hr
  rcases hf with ⟨hf,hK⟩ | ⟨i,x,hf,hK⟩
  · refine ⟨_,_,?_,hK,zae1 hs hr⟩
    simp only [Instr.mapUpdate,Sem.run_bind,hun,Result.andThen_ok,zsz hb,zhx ok hk hkd,zhy ok hk hf,zak1 hb rfl]
  · refine ⟨_,_,?_,hK,zae1 hs hr⟩
    obtain ⟨_,en,hen,_,hsn⟩:=zmb1 hf
    have hen':es[i]? =some en:=by simpa using hen
    have hsb:=zht2 (n:=10000) hkd hsn
    simp only [Instr.mapUpdate,Sem.run_bind,hun,Result.andThen_ok,zsz hb,zhx ok hk hkd,zhy ok hk hf,hen',Option.map_some,Option.getD_some,Instr.keyThatStays,hsb,if_true,Sem.run_pure,
      zak1 hb rfl]
theorem zeh2 (ok:tb.Ok P) {t k u rt:Nat} {t':TypeId} {e ke:Ty} {m:Option Nat} {b:Value} {w:World} {K:Hp->Prop} (he:tb.ty t=some e) (hu:e.und=.map k u)
    (hk:tb.ty k=some ke) (hkd:zop ke.und=true) (hs:Sub h w) (hm:zlq1 ke.und m b K h):
    ∃h' w',(Builtin.delete_ #[t,t'] rt #[.map m,b]).run P w=.ok (.tuple #[]) w'/\K h'/\Step h h' w w':=by
  have hun:=run_underlying' ok he w
  rw [hu] at hun
  rcases hm with ⟨rfl,hK⟩ | ⟨r,es,ck,rfl,hr,hf⟩
  · refine ⟨_,w,?_,hK,.refl hs⟩
    simp [Builtin.delete_,hun,zhx ok hk hkd]
  · have hb:=hs r _ hr
    rcases hf with ⟨hf,hK⟩ | ⟨i,x,hf,hK⟩
    · refine ⟨_,_,?_,hK,zae1 hs hr⟩
      simp [Builtin.delete_,hun,zsz hb,zhx ok hk hkd,zhy ok hk hf,zak1 hb rfl]
    · refine ⟨_,_,?_,hK,zae1 hs hr⟩
      simp [Builtin.delete_,hun,zsz hb,zhx ok hk hkd,zhy ok hk hf,zak1 hb rfl]
theorem zqm1 (ok:tb.Ok P) {t:Nat} {x y z:Operand} (hop:o.op=.mapUpdate t x y z\/o.op=.insert t x y z)
    (hv:zym1 P tb (cnd s ch) t (ev s ch x) (ev s ch y) (ev s ch z) K h):EffOk P o ch s h K:=by
  obtain ⟨a,hea,hv1⟩:=zas hv
  obtain ⟨b,heb,hv2⟩:=zas hv1
  obtain ⟨v,hev,hv3⟩:=zas hv2
  clear hv hv1 hv2
  have run:holds s ch->∀(β:Nat->Nat) (ρ:Operand->Value),(∀x∈o.op.operands,Opnd β s ρ x)->∀(w w':World),(Instr.mapUpdate t a b v).run P w=.ok () w'->(execOp ρ o).run P w=.ok .skip w':=by
    intro hh β ρ ho w w' hr
    have hx:ρ x=_:=ev_ok (ho x (by rcases hop with h | h<;>simp [h,Op.operands])) hh hea
    have hy:ρ y=_:=ev_ok (ho y (by rcases hop with h | h<;>simp [h,Op.operands])) hh heb
    have hz:ρ z=_:=ev_ok (ho z (by rcases hop with h | h<;>simp [h,Op.operands])) hh hev
    rcases hop with h | h<;>simp only [execOp,h,hx,hy,hz,LVal,Sem.run_bind,hr,Result.andThen_ok,Sem.run_pure]
  split at hv3
  · rename_i m e he
    split at hv3
    · rename_i k u hu
      split at hv3
      · rename_i ke hk
        cases hkd:zop ke.und with
        | true=>
          simp only [hkd,cond_true] at hv3
          refine zsh1 hv3 fun hh β ρ w ho hs K hk'=> ?_
          obtain ⟨h',w',hr,hK,hst⟩:=zeg2 ok he hu hk hkd hs hk'
          exact ⟨(),h',w',run hh β ρ ho w w' hr,hK,hst⟩
        | false=>
          simp only [hkd,cond_false] at hv3
          refine zsh1 hv3 fun hh β ρ w ho hs K hk'=> ?_
          obtain ⟨u',w',h',hr,hK,hst⟩:=zsv _ hs hk'
          exact ⟨(),h',w',run hh β ρ ho w w' hr,hK,hst⟩
      · exact hv3.elim
    · exact hv3.elim
  · exact hv3.elim
theorem zhu2 (ok:tb.Ok P) {f:Operand} {xs:Array Operand} {ats:Array TypeId} {g:FuncId} {first captured:Array Value} {vs:List Value} {e:Ty} {a:Act} {w:World}
    (hop:o.op=.call {callee:=.value f,args:=xs,argTypes:=ats}) (hg:tb.call g=true) (hf:a.eval f=.func (.func g) first captured) (hxs:xs.map a.eval=vs.toArray)
    {K':e.sh.T->Hp->Prop} (hc:CallT P g (first.toList++vs++captured.toList) e.sh K' h) (hs:Sub h w) {next:Act->World->Prop} {Q:Exit->Act->World->Prop}
    (hn:∀x h' w',K' x h'->Step h h' w w'->next (a.put o.dst (e.sh.enc x)) w'):o.wp P a w next Q:=by
  have hrun:(execOp a.eval o).run P w=.ok (.enter g (first.toList++vs++captured.toList).toArray) w:=by
    have hargs:first++vs.toArray++captured=(first.toList++vs++captured.toList).toArray:=by apply Array.ext';simp
    simp only [execOp,hop,resolve,Deferred.ofValue,hf,hxs,Sem.run_bind,Sem.run_pure,Result.andThen_ok,invoke,hargs]
    exact ok.call g hg _ w
  unfold Oper.wp
  rw [hrun,Oper.upon_enter]
  refine (hc w hs).mono ?_
  grind
theorem zmc1 {α:Type} {A:(α->Hp->Prop)->Hp->Prop} {f:α->Value} (he:EffC (cnd s ch) A (fun x h'=>K (.v (f x)) h') h)
    (hr:holds s ch->∀(β:Nat->Nat) (a:Act) (w:World),(∀x∈o.op.operands,Opnd β s a.eval x)->Sub h w->∀(K:α->Hp->Prop),A K h->∀(next:Act->World->Prop) (Q:Exit->Act->World->Prop),
      (∀x h' w',K x h'->Step h h' w w'->next (a.put o.dst (f x)) w')->o.wp P a w next Q):EffOk P o ch s h K:=by
  obtain ⟨h1,h2⟩:=zlx1 he
  refine ⟨fun hh β a w ho hs next Q hn=> ?_,fun hn=> ?_⟩
  · exact hr hh β a w ho hs _ (h1 hh) next Q fun x h' w' hk hst=>hn _ _ _ hk hst
  grind
theorem zei2 (ok:tb.Ok P) (hv:effW P tb o ch s h K):EffOk P o ch s h K:=by
  obtain ⟨dst,op,ty,pos,after,guard⟩:=o
  cases op with
  | store t x y=>exact zho2 ok rfl hv
  | alloc t=>exact zhp2 ok rfl hv
  | box t x=>exact zpu2 rfl hv
  | buildSlice t n ps=>exact zpf1 ok rfl hv
  | makeMap t r=>
    cases r with
    | none=>exact zyv1 rfl hv
    | some x=>exact hv.elim
  | makeSlice t x y=>
    obtain ⟨a,hea,hv1⟩:=zas hv
    obtain ⟨b,heb,hv2⟩:=zas hv1
    clear hv hv1
    split at hv2
    · rename_i m n e hel
      exact zly2 ok rfl hea heb hel hv2
    · exact hv2.elim
  | mapUpdate t x y z=>exact zqm1 ok (.inl rfl) hv
  | insert t x y z=>exact zqm1 ok (.inr rfl) hv
  | mapEntry t x y=>
    obtain ⟨a,hea,hv1⟩:=zas hv
    obtain ⟨b,heb,hv2⟩:=zas hv1
    refine zma1 hv2 fun hh β ρ ho w w' v hr=> ?_
    have hx:ρ x=_:=ev_ok (ho x (by simp [Op.operands])) hh hea
    have hy:ρ y=_:=ev_ok (ho y (by simp [Op.operands])) hh heb
    simp only [execOp,hx,hy,LVal,Sem.run_bind,hr,Result.andThen_ok,Sem.run_pure]
  | binOp op t x y g=>
    obtain ⟨a,hea,hv1⟩:=zas hv
    obtain ⟨b,heb,hv2⟩:=zas hv1
    refine zma1 hv2 fun hh β ρ ho w w' v hr=> ?_
    have hx:ρ x=_:=ev_ok (ho x (by simp [Op.operands])) hh hea
    have hy:ρ y=_:=ev_ok (ho y (by simp [Op.operands])) hh heb
    have hr:(do eqGuard op t x y a b;binOp op t a b:Sem Value).run P w=.ok v w':=hr
    simp only [execOp,hx,hy,LVal,Sem.run_bind] at hr ⊢
    rw [hr]
    rfl
  | entryStore t x y z=>
    obtain ⟨a,hea,hv1⟩:=zas hv
    obtain ⟨b,heb,hv2⟩:=zas hv1
    obtain ⟨c,hec,hv3⟩:=zas hv2
    refine zsh1 hv3 fun hh β ρ w ho hs K hk=> ?_
    have hx:ρ x=_:=ev_ok (ho x (by simp [Op.operands])) hh hea
    have hy:ρ y=_:=ev_ok (ho y (by simp [Op.operands])) hh heb
    have hz:ρ z=_:=ev_ok (ho z (by simp [Op.operands])) hh hec
    obtain ⟨u',w',h',hr,hK,hst⟩:=zsv _ hs hk
    refine ⟨(),h',w',?_,hK,hst⟩
    simp only [execOp,hx,hy,hz,LVal,Sem.run_bind,hr,Result.andThen_ok,Sem.run_pure]
  | range t x=>
    obtain ⟨a,hea,hv1⟩:=zas hv
    refine zce2 hv1 fun hh β ρ ho w w' v hr=> ?_
    have hx:ρ x=_:=ev_ok (ho x (by simp [Op.operands])) hh hea
    simp only [execOp,hx,LVal,Sem.run_bind,hr,Result.andThen_ok,Sem.run_pure]
  | next x b=>
    obtain ⟨a,hea,hv1⟩:=zas hv
    refine zce2 hv1 fun hh β ρ ho w w' v hr=> ?_
    have hx:ρ x=_:=ev_ok (ho x (by simp [Op.operands])) hh hea
    simp only [execOp,hx,LVal,Sem.run_bind,hr,Result.andThen_ok,Sem.run_pure]
  | convert src dst' x=>
    obtain ⟨a,hea,hv1⟩:=zas hv
    clear hv
    split at hv1
    · rename_i b e g he hel
      split at hv1
      · rename_i h1 h2
        exact zhr2 ok rfl hea he hel h1 h2 hv1
      · exact hv1.elim
    · rename_i p n c e g he hel
      split at hv1
      · rename_i u0 h1 h2
        cases hb:Nat.beq src dst' with
        | false=>grind
        | true=>
          simp only [hb,cond_true] at hv1
          exact zlz2 ok rfl hea he hel h1 h2 (Nat.eq_of_beq_eq_true hb) hv1
      · exact hv1.elim
    · exact hv1.elim
  | call c=>
    obtain ⟨callee,xs,ats⟩:=c
    cases callee with
    | invoke r m=>exact hv.elim
    | builtin b=>
      obtain ⟨vs,hvs,hv'⟩:=zsx hv
      clear hv
      have hargs:holds s ch->∀(β:Nat->Nat) (ρ:Operand->Value),(∀x∈(Op.call {callee:=.builtin b,args:=xs,argTypes:=ats}).operands,Opnd β s ρ x)->xs.map ρ=vs.toArray:=by
        intro hh β ρ ho
        have:=zue (β:=β) (ρ:=ρ) hh hvs fun x hx=>ho x (by simp [Op.operands,Call.operands];simpa using hx)
        grind
      cases b with
      | append=>exact zef2 ok rfl hvs hv'
      | copy=>
        replace hv':copyW _ _ _ _ _ _ _ _:=hv'
        unfold copyW at hv'
        split at hv'
        · rename_i p n c p' n' c' t t' hts
          split at hv'
          · rename_i e hel
            exact zlx2 ok rfl hvs hts hel hv'
          · exact hv'.elim
        · refine zma1 hv' fun hh β ρ ho w w' v hr=> ?_
          simp only [execOp,resolve,invoke,builtin,Sem.run_bind,Sem.run_pure,Result.andThen_ok,hargs hh β ρ ho,hr]
      | delete=>
        replace hv':delW _ _ _ _ _ _ _ _:=hv'
        unfold delW at hv'
        split at hv'
        · rename_i m k t t' hts
          have hts':ats= #[t,t']:=by grind
          split at hv'
          · rename_i e he
            split at hv'
            · rename_i kt u hu
              split at hv'
              · rename_i ke hk
                cases hkd:zop ke.und with
                | true=>
                  simp only [hkd,cond_true] at hv'
                  refine zex (f:=fun _=>.tuple #[]) hv' fun hh β ρ w ho hs K hk'=> ?_
                  obtain ⟨h',w',hr,hK,hst⟩:=zeh2 (rt:=ty) (t':=t') ok he hu hk hkd hs hk'
                  refine ⟨(),h',w',?_,hK,hst⟩
                  have ha:=hargs hh β ρ ho
                  simp only [execOp,resolve,invoke,builtin,Sem.run_bind,Sem.run_pure,Result.andThen_ok,ha,hts',hr]
                | false=>
                  simp only [hkd,cond_false] at hv'
                  refine zma1 hv' fun hh β ρ ho w w' v hr=> ?_
                  simp only [execOp,resolve,invoke,builtin,Sem.run_bind,Sem.run_pure,Result.andThen_ok,hargs hh β ρ ho,hr]
              · exact hv'.elim
            · exact hv'.elim
          · exact hv'.elim
        · exact hv'.elim
      | clear=>
        refine zma1 hv' fun hh β ρ ho w w' v hr=> ?_
        simp only [execOp,resolve,invoke,builtin,Sem.run_bind,Sem.run_pure,Result.andThen_ok,hargs hh β ρ ho,hr]
      | _=>exact hv'.elim
    | value f=>
      obtain ⟨vs,hvs,hv'⟩:=zsx hv
      clear hv
      have hargs:holds s ch->∀(β:Nat->Nat) (ρ:Operand->Value),(∀x∈(Op.call {callee:=.value f,args:=xs,argTypes:=ats}).operands,Opnd β s ρ x)->xs.map ρ=vs.toArray:=by
        intro hh β ρ ho
        have:=zue (β:=β) (ρ:=ρ) hh hvs fun x hx=>ho x (by simp [Op.operands,Call.operands];right;simpa using hx)
        grind
      cases f with
      | func g=>
        replace hv':zhc2 _ _ _ _ _ _ _ _:=hv'
        unfold zhc2 at hv'
        split at hv'
        · rename_i e he
          cases hg:tb.call g with
          | false=>
            simp only [hg,cond_false] at hv'
            split at hv'
            · rename_i fx hx
              refine zmc1 (f:=e.sh.enc) hv' fun hh β a w ho hs K hk next Q hn=> ?_
              obtain ⟨u,w',h',hr,⟨x,rfl,hK⟩,hst⟩:=zsv _ hs hk
              have hf:a.eval (.func g)=.func (.func g) #[] #[]:=rfl
              have hrun:(execOp a.eval {dst:=dst,op:=.call {callee:=.value (.func g),args:=xs,argTypes:=ats},type:=ty,pos:=pos,after:=after,guard:=guard}).run P w=.ok (.value (e.sh.enc x)) w':=by
                simp only [execOp,resolve,Deferred.ofValue,hf,hargs hh β a.eval ho,Sem.run_bind,Sem.run_pure,Result.andThen_ok,invoke]
                have e1: #[]++vs.toArray++ #[]=vs.toArray:=by simp
                rw [e1,ok.ext g fx hx _ w,hr]
                rfl
              unfold Oper.wp
              rw [hrun,Oper.upon_value]
              grind
            · exact hv'.elim
          | true=>
            simp only [hg,cond_true] at hv'
            refine zmc1 (f:=e.sh.enc) hv' fun hh β a w ho hs K hk next Q hn=> ?_
            have hf:a.eval (.func g)=.func (.func g) #[] #[]:=rfl
            exact zhu2 (first:= #[]) (captured:= #[]) ok rfl hg hf (hargs hh β a.eval ho) (by simpa using hk) hs hn
        · exact hv'.elim
      | tmp t=>
        replace hv':zhd2 _ _ _ _ _ _ _ _:=hv'
        unfold zhd2 at hv'
        split at hv'
        · rename_i e he
          obtain ⟨fv,hfv,hv2⟩:=zas hv'
          refine zmc1 (f:=e.sh.enc) hv2 fun hh β a w ho hs K hk next Q hn=> ?_
          obtain ⟨g,first,captured,rfl,hg,hk⟩:=hk
          have hf:a.eval (.tmp t)=_:=ev_ok (ho (.tmp t) (by simp [Op.operands,Call.operands])) hh hfv
          exact zhu2 ok rfl hg hf (hargs hh β a.eval ho) hk hs hn
        · exact hv'.elim
      | const v=>exact hv'.elim
      | global g=>exact hv'.elim
  | _=>exact hv.elim
theorem zej2 {C:Ctx} {ops:List Oper} (hv:entW C ops o ch s h K):EffOk C.P o ch s h K:=by
  obtain ⟨dst,op,ty,pos,after,guard⟩:=o
  unfold entW at hv
  split at hv
  · rename_i x d he hd
    subst he
    obtain ⟨a,hea,hv1⟩:=zas hv
    refine zce2 hv1 fun hh β ρ ho w w' v hr=> ?_
    have hx:ρ x=_:=ev_ok (ho x (by simp [Op.operands])) hh hea
    simp only [execOp,hx,LVal,Sem.run_bind,hr,Result.andThen_ok,Sem.run_pure]
  · exact hv.elim
end
theorem zcs1 {s s':St} {c:Chain} (hf:∀p∈c,s'.f p.1=s.f p.1):holds s' c↔holds s c:=by
  have key:∀p∈c,hb s' p.1=hb s p.1:=fun p hp=>by unfold hb;rw [hf p hp]
  exact ⟨fun h p hp=>by rw [<-key p hp];exact h p hp,fun h p hp=>by rw [key p hp];exact h p hp⟩
theorem zuh (s:St) (d:Nat) (l:LV) (ch:Chain):(s.put (some d) l ch).f d=some (l,ch):=by simp [St.put]
theorem zcb1 {i j:Nat} (h:i≠j):Nat.beq i j=false:=by
  cases e:Nat.beq i j with
  | false=>rfl
  | true=>exact absurd (Nat.eq_of_beq_eq_true e) h
theorem zmd1 (s:St) {d t:Nat} (l:LV) (ch:Chain) (h:t≠d):(s.put (some d) l ch).f t=s.f t:=by
  simp [St.put,zcb1 h]
theorem zeu1 (s:St) (k:Nat) (cs:List Value):(s.putM k cs).m k=some cs:=by simp [St.putM]
theorem zpj (s:St) {k j:Nat} (cs:List Value) (h:j≠k):(s.putM k cs).m j=s.m j:=by
  simp [St.putM,zcb1 h]
theorem zui {a:Act} {d:Nat} {v:Value} (h:d<a.tmps.size):(a.put (some d) v).eval (.tmp d)=v:=by simp [Act.put,Act.eval,h]
theorem zms {a:Act} {d t:Nat} {v:Value} (h:t≠d):(a.put (some d) v).eval (.tmp t)=a.eval (.tmp t):=by
  simp [Act.put,Act.eval,Array.getElem?_setIfInBounds_ne (Ne.symm h)]
structure RR (n:Nat) (Cur Liv D N:Nat->Prop) (β:Nat->Nat) (s:St) (a:Act) (h:Hp) (w:World):Prop where
  sz:a.tmps.size=n
  sub:Sub h w
  lt:∀t l c,s.f t=some (l,c)->t<n
  chain:∀t l c,s.f t=some (l,c)->∀p∈c,D p.1
  cur:∀t l c,s.f t=some (l,c)->Cur t->holds s c->a.eval (.tmp t)=LVal β l/\∀k o,(l=.box k o\/l=.boxd k o)->Liv k
  und:∀t l c,s.f t=some (l,c)->Cur t->¬holds s c->a.eval (.tmp t)=undef
  box:∀k cs,s.m k=some cs->Liv k->h (β k)=none/\∃ct,w.heap[β k]? =some (.cells cs.toArray ct (0,0))
  inj:∀k k',s.m k≠none->s.m k'≠none->Liv k->Liv k'->β k=β k'->k=k'
  nrefm:∀k,N k->s.m k=none
  nref:∀k,N k->∀t l c,s.f t=some (l,c)->holds s c->∀o,l≠ .box k o/\l≠ .boxd k o
def live (s:St) (Liv:Nat->Prop) (k:Nat):Prop:=s.m k≠none/\Liv k
structure Seg (l mm:List Nat) (lv:Nat->Prop) (β:Nat->Nat) (a:Act) (h:Hp) (w:World) (lv':Nat->Prop) (β':Nat->Nat) (a':Act) (h':Hp) (w':World):Prop where
  tmp:∀i,i∉l->a'.eval (.tmp i)=a.eval (.tmp i)
  beta:∀k,(k∉l\/k∉mm)->β' k=β k
  size:w.heap.size<=w'.heap.size
  unk:∀b,b<w.heap.size->h b=none->(∀k∈mm,lv k->β k≠b)->h' b=none
  keep:∀b,b<w.heap.size->h b=none->(∀k∈mm,lv k->β k≠b)->w'.heap[b]? =w.heap[b]?
  fresh:∀k,lv' k->(lv k/\β' k=β k)\/w.heap.size<=β' k
  os:w'.os=w.os
  tape:w'.tape=w.tape
  output:w'.output=w.output
  defers:a'.defers=a.defers
section
variable {n:Nat} {Cur Liv D N:Nat->Prop} {β:Nat->Nat} {s:St} {a:Act} {h:Hp} {w:World}
theorem heap_lt {w:World} {b:Nat} {o:Obj} (h:w.heap[b]? =some o):b<w.heap.size:=by
  grind
theorem zma2 (hs:Sub h w) {b:Nat} (hb:w.heap.size<=b):h b=none:=by
  cases e:h b with
  | none=>rfl
  | some x=>exact absurd (hs.lt e) (Nat.not_lt.2 hb)
theorem Seg.refl (l mm:List Nat):Seg l mm (live s Liv) β a h w (live s Liv) β a h w:=
  ⟨fun _ _=>rfl,fun _ _=>rfl,Nat.le_refl _,fun _ _ e _=>e,fun _ _ _ _=>rfl,fun _ e=>.inl ⟨e,rfl⟩,rfl,rfl,rfl,rfl⟩
theorem Seg.trans {l mm:List Nat} {lv lv1 lv2:Nat->Prop} {β β1 β2:Nat->Nat} {a a1 a2:Act} {h h1 h2:Hp} {w w1 w2:World}
    (x:Seg l mm lv β a h w lv1 β1 a1 h1 w1) (y:Seg l mm lv1 β1 a1 h1 w1 lv2 β2 a2 h2 w2):Seg l mm lv β a h w lv2 β2 a2 h2 w2:=by
  have hk1:∀b,b<w.heap.size->(∀k∈mm,lv k->β k≠b)->∀k∈mm,lv1 k->β1 k≠b:=fun b hb hk k hm hl=>by
    rcases x.fresh k hl with ⟨h1,h2⟩ | h1
    · rw [h2];exact hk k hm h1
    omega
  refine ⟨fun i hi=>(y.tmp i hi).trans (x.tmp i hi),fun k hk=>(y.beta k hk).trans (x.beta k hk),Nat.le_trans x.size y.size,fun b hb hn hk=> ?_,fun b hb hn hk=> ?_,fun k hk=> ?_,
    y.os.trans x.os,y.tape.trans x.tape,y.output.trans x.output,y.defers.trans x.defers⟩
  · exact y.unk b (Nat.lt_of_lt_of_le hb x.size) (x.unk b hb hn hk) (hk1 b hb hk)
  · exact (y.keep b (Nat.lt_of_lt_of_le hb x.size) (x.unk b hb hn hk) (hk1 b hb hk)).trans (x.keep b hb hn hk)
  · rcases y.fresh k hk with ⟨h1,h2⟩ | h1
    · rw [h2];exact x.fresh k h1
    · exact .inr (Nat.le_trans x.size h1)
theorem Seg.mono {l mm l' mm':List Nat} {lv lv1 lv' lv1':Nat->Prop} {β β1:Nat->Nat} {a a1:Act} {h h1:Hp} {w w1:World}
    (x:Seg l mm lv β a h w lv1 β1 a1 h1 w1) (hl:∀i∈l,i∈l') (hm:∀i∈mm,i∈mm') (hv:∀k,lv k->lv' k) (hv1:∀k,lv1' k->lv1 k):Seg l' mm' lv' β a h w lv1' β1 a1 h1 w1:=
  ⟨fun i hi=>x.tmp i fun e=>hi (hl i e),fun k hk=>x.beta k (hk.imp (fun e e'=>e (hl k e')) (fun e e'=>e (hm k e'))),x.size,fun b hb hn hk=>x.unk b hb hn fun k h1 h2=>hk k (hm k h1) (hv k h2),fun b hb hn hk=>x.keep b hb hn fun k h1 h2=>hk k (hm k h1) (hv k h2),
    fun k hk=>(x.fresh k (hv1 k hk)).imp (fun e=>⟨hv k e.1,e.2⟩) id,x.os,x.tape,x.output,x.defers⟩
theorem Seg.step {l mm:List Nat} {lv:Nat->Prop} {h':Hp} {w':World} (hst:Step h h' w w'):Seg l mm lv β a h w lv β a h' w':=
  ⟨fun _ _=>rfl,fun _ _=>rfl,hst.size,fun b hb hn _=>(hst.keep b hb hn).2,fun b hb hn _=>(hst.keep b hb hn).1,fun _ e=>.inl ⟨e,rfl⟩,hst.os,hst.tape,hst.output,rfl⟩
theorem Seg.put {l mm:List Nat} {lv:Nat->Prop} {d:Option Nat} {v:Value} (hd:∀i,d=some i->i∈l):Seg l mm lv β a h w lv β (a.put d v) h w:=by
  refine ⟨fun i hi=> ?_,fun _ _=>rfl,Nat.le_refl _,fun _ _ e _=>e,fun _ _ _ _=>rfl,fun _ e=>.inl ⟨e,rfl⟩,rfl,rfl,rfl,by cases d<;>rfl⟩
  cases d with
  | none=>rfl
  | some d=>exact zms fun e=>hi (e▸hd d rfl)
theorem RR.step (hr:RR n Cur Liv D N β s a h w) {h':Hp} {w':World} (hst:Step h h' w w'):RR n Cur Liv D N β s a h' w':=
  ⟨hr.sz,hst.sub,hr.lt,hr.chain,hr.cur,hr.und,fun k cs hm hl=>by
    obtain ⟨h1,ct,h2⟩:=hr.box k cs hm hl
    obtain ⟨h3,h4⟩:=hst.keep _ (heap_lt h2) h1
    grind,hr.inj,hr.nrefm,hr.nref⟩
theorem RR.congr (hr:RR n Cur Liv D N β s a h w) {Cur' Liv' D' N':Nat->Prop} (hc:∀t,Cur' t↔Cur t) (hl:∀t,Liv' t↔Liv t) (hd:∀t,D t->D' t) (hn:∀t,N' t->N t):
    RR n Cur' Liv' D' N' β s a h w:=
  ⟨hr.sz,hr.sub,hr.lt,fun t l c e p hp=>hd _ (hr.chain t l c e p hp),fun t l c e h1 h2=>⟨(hr.cur t l c e ((hc t).1 h1) h2).1,fun k o e'=>(hl k).2 ((hr.cur t l c e ((hc t).1 h1) h2).2 k o e')⟩,
    fun t l c e h1 h2=>hr.und t l c e ((hc t).1 h1) h2,fun k cs e h1=>hr.box k cs e ((hl k).1 h1),fun k k' e e' h1 h2=>hr.inj k k' e e' ((hl k).1 h1) ((hl k').1 h2),
    fun k e=>hr.nrefm k (hn k e),fun k e=>hr.nref k (hn k e)⟩
theorem zpk {d:Nat} {l:LV} {ch c:Chain} (hD:¬D d) (hc:∀p∈c,D p.1):holds (s.put (some d) l ch) c↔holds s c:=
  zcs1 fun p hp=>zmd1 s l ch fun e=>hD (e▸hc p hp)
theorem zyw1 (hr:RR n Cur Liv D N β s a h w) {x:Operand} (hx:∀t,x=.tmp t->Cur t):Opnd β s a.eval x:=by
  cases x with
  | tmp t=>exact fun l c e hc=>(hr.cur t l c e (hx t rfl) hc).1
  | const v=>rfl
  | global g=>rfl
  | func f=>rfl
theorem zhv2 (hr:RR n Cur Liv D N β s a h w) {o:Oper} (hx:∀t,Operand.tmp t∈o.op.operands->Cur t):BoxU β s o w:=by
  intro t ht k off c hf hc cs hm
  rcases hf with hf | hf
  · exact (hr.box k cs hm ((hr.cur t _ c hf (hx t ht) hc).2 k off (.inl rfl))).2
  · exact (hr.box k cs hm ((hr.cur t _ c hf (hx t ht) hc).2 k off (.inr rfl))).2
theorem RR.lift (hr:RR n Cur Liv D N β s a h w) {d:Nat} {l:LV} {ch:Chain} (hd:d<n) (hD:¬D d) (hch:∀p∈ch,D p.1) (h1:holds s ch->∀k o,(l=.box k o\/l=.boxd k o)->¬N k):
    RR n (fun t=>t≠d/\Cur t) Liv D N β (s.put (some d) l ch) a h w:=by
  have key:∀t l' c,(s.put (some d) l ch).f t=some (l',c)->t=d/\l'=l/\c=ch\/t≠d/\s.f t=some (l',c):=fun t l' c e=>by
    by_cases ht:t=d
    · subst ht;rw [zuh] at e;grind
    · rw [zmd1 _ _ _ ht] at e;grind
  refine ⟨hr.sz,hr.sub,fun t l' c e=> ?_,fun t l' c e=> ?_,fun t l' c e hc hh=> ?_,fun t l' c e hc hh=> ?_,hr.box,hr.inj,hr.nrefm,fun k hk t l' c e hh o=> ?_⟩
  · rcases key t l' c e with ⟨rfl,_,_⟩ | ⟨_,e'⟩
    · exact hd
    · exact hr.lt t l' c e'
  · rcases key t l' c e with ⟨_,_,rfl⟩ | ⟨_,e'⟩
    · exact hch
    · exact hr.chain t l' c e'
  · rcases key t l' c e with ⟨rfl,_,_⟩ | ⟨_,e'⟩
    · exact absurd rfl hc.1
    · exact hr.cur t l' c e' hc.2 ((zpk hD (hr.chain t l' c e')).1 hh)
  · rcases key t l' c e with ⟨rfl,_,_⟩ | ⟨_,e'⟩
    · exact absurd rfl hc.1
    · exact hr.und t l' c e' hc.2 fun hc'=>hh ((zpk hD (hr.chain t l' c e')).2 hc')
  · rcases key t l' c e with ⟨_,rfl,rfl⟩ | ⟨_,e'⟩
    · have hh':=(zpk hD hch).1 hh
      grind
    · exact hr.nref k hk t l' c e' ((zpk hD (hr.chain t l' c e')).1 hh) o
theorem RR.exec (hr:RR n Cur Liv D N β s a h w) {d:Nat} {l:LV} {ch:Chain} {v:Value} (hf:s.f d=some (l,ch)) (hc:¬Cur d)
    (h1:holds s ch->v=LVal β l/\∀k o,(l=.box k o\/l=.boxd k o)->Liv k) (h2:¬holds s ch->v=undef):
    RR n (fun t=>t=d\/Cur t) Liv D N β s (a.put (some d) v) h w:=by
  have hd:=hr.lt d l ch hf
  refine ⟨by simpa [Act.put] using hr.sz,hr.sub,hr.lt,hr.chain,fun t l' c e hc' hh=> ?_,fun t l' c e hc' hh=> ?_,hr.box,hr.inj,hr.nrefm,hr.nref⟩
  · by_cases ht:t=d
    · subst ht
      rw [hf] at e;cases e
      rw [zui (by rw [hr.sz];exact hd)]
      exact h1 hh
    · rw [zms ht]
      exact hr.cur t l' c e (hc'.resolve_left ht) hh
  · by_cases ht:t=d
    · subst ht
      rw [hf] at e;cases e
      rw [zui (by rw [hr.sz];exact hd)]
      exact h2 hh
    · rw [zms ht]
      exact hr.und t l' c e (hc'.resolve_left ht) hh
theorem RR.liftA (hr:RR n Cur Liv D N β s a h w) {d:Nat} (cs:List Value) (hd:d<n) (hD:¬D d) (hN:N d):
    RR n (fun t=>t≠d/\Cur t) (fun k=>k≠d/\Liv k) D (fun k=>k≠d/\N k) β ((s.put (some d) (.box d 0) []).putM d cs) a h w:=by
  have hf:∀t,t≠d->((s.put (some d) (.box d 0) []).putM d cs).f t=s.f t:=fun t ht=>zmd1 s _ _ ht
  have hfd:((s.put (some d) (.box d 0) []).putM d cs).f d=some (.box d 0,[]):=zuh s _ _ _
  have hm:∀k,k≠d->((s.put (some d) (.box d 0) []).putM d cs).m k=s.m k:=fun k hk=>zpj _ _ hk
  have hh:∀c:Chain,(∀p∈c,D p.1)->(holds ((s.put (some d) (.box d 0) []).putM d cs) c↔holds s c):=fun c hc=>zcs1 fun p hp=>hf _ fun e=>hD (e▸hc p hp)
  refine ⟨hr.sz,hr.sub,fun t l c e=> ?_,fun t l c e=> ?_,fun t l c e hc hl=> ?_,fun t l c e hc hl=> ?_,fun k cs' e hk=> ?_,fun k k' e e' hk hk'=> ?_,fun k hk=> ?_,fun k hk t l c e hl o=> ?_⟩
  · by_cases ht:t=d
    · exact ht▸hd
    · exact hr.lt t l c (by rwa [hf t ht] at e)
  · by_cases ht:t=d
    · grind
    · exact hr.chain t l c (by rwa [hf t ht] at e)
  · rw [hf t hc.1] at e
    have hl':=(hh c (hr.chain t l c e)).1 hl
    have:=hr.cur t l c e hc.2 hl'
    refine ⟨this.1,fun k o e'=>⟨fun ek=> ?_,this.2 k o e'⟩⟩
    subst ek
    have:=hr.nref k hN t l c e hl' o
    grind
  · rw [hf t hc.1] at e
    exact hr.und t l c e hc.2 fun hl'=>hl ((hh c (hr.chain t l c e)).2 hl')
  · rw [hm k hk.1] at e
    exact hr.box k cs' e hk.2
  · rw [hm k hk.1] at e
    rw [hm k' hk'.1] at e'
    exact hr.inj k k' e e' hk.2 hk'.2
  · rw [hm k hk.1]
    exact hr.nrefm k hk.2
  · by_cases ht:t=d
    · grind
    · rw [hf t ht] at e
      exact hr.nref k hk.2 t l c e ((hh c (hr.chain t l c e)).1 hl) o
theorem zvq1 (hs:Sub h w) (o:Obj):Step h h w {w with heap:=w.heap.push o}:=by
  refine ⟨fun b x e=> ?_,by simp,fun b hb hn=>⟨?_,hn⟩,rfl,rfl,rfl⟩
  · have hl:=hs.lt e
    simp only [Array.getElem?_push,if_neg (Nat.ne_of_lt hl)]
    exact hs b x e
  grind
def upd (β:Nat->Nat) (d b:Nat):Nat->Nat:=fun k=>if k=d then b else β k
theorem RR.execA (hr:RR n Cur Liv D N β s a h w) {d:Nat} {cs:List Value} (t:Nat) (hf:s.f d=some (.box d 0,[])) (hm:s.m d=some cs) (hc:¬Cur d) (hL:¬Liv d):
    RR n (fun t=>t=d\/Cur t) (fun k=>k=d\/Liv k) D N (upd β d w.heap.size) s (a.put (some d) (.pointer (some ⟨w.heap.size,0,none⟩))) h {w with heap:=w.heap.push (.cells cs.toArray t (0,0))}:=by
  have hn0:h w.heap.size=none:=zma2 hr.sub (Nat.le_refl _)
  have hlt:∀k,s.m k≠none->Liv k->β k<w.heap.size:=fun k hk hl=>by
    obtain ⟨cs',e⟩:=Option.ne_none_iff_exists'.1 hk
    obtain ⟨_,ct,e2⟩:=hr.box k cs' e hl
    exact heap_lt e2
  have hr:=hr.step (zvq1 hr.sub (.cells cs.toArray t (0,0)))
  have hd:=hr.lt d _ _ hf
  have hup:∀k,k≠d->upd β d w.heap.size k=β k:=fun k hk=>by simp [upd,hk]
  refine ⟨by simpa [Act.put] using hr.sz,hr.sub,hr.lt,hr.chain,fun t' l' c e hc' hh=> ?_,fun t' l' c e hc' hh=> ?_,fun k cs' e hk=> ?_,fun k k' e e' hk hk' he=> ?_,hr.nrefm,hr.nref⟩
  · by_cases ht:t'=d
    · subst ht
      rw [hf] at e;cases e
      rw [zui (by rw [hr.sz];exact hd)]
      refine ⟨by simp [LVal,upd],fun k o e'=>.inl ?_⟩
      grind
    · rw [zms ht]
      have:=hr.cur t' l' c e (hc'.resolve_left ht) hh
      refine ⟨?_,fun k o e'=>.inr (this.2 k o e')⟩
      rw [this.1]
      cases l' with
      | v x=>rfl
      | box k o=>
        have hk:k≠d:=fun ek=>hL (ek▸this.2 k o (.inl rfl))
        simp [LVal,hup k hk]
      | boxd k o=>
        have hk:k≠d:=fun ek=>hL (ek▸this.2 k o (.inr rfl))
        simp [LVal,hup k hk]
  · by_cases ht:t'=d
    · subst ht
      rw [hf] at e;cases e
      exact absurd (holds_nil s) hh
    · rw [zms ht]
      exact hr.und t' l' c e (hc'.resolve_left ht) hh
  · by_cases ek:k=d
    · subst ek
      rw [hm] at e;cases e
      refine ⟨?_,t,?_⟩
      · simpa [upd] using hn0
      · simp [upd]
    · rw [hup k ek]
      exact hr.box k cs' e (hk.resolve_left ek)
  · by_cases ek:k=d
    · by_cases ek':k'=d
      · rw [ek,ek']
      · rw [hup k' ek',ek] at he
        have:=hlt k' e' (hk'.resolve_left ek')
        simp only [upd,if_true] at he
        omega
    · by_cases ek':k'=d
      · rw [hup k ek,ek'] at he
        have:=hlt k e (hk.resolve_left ek)
        simp only [upd,if_true] at he
        omega
      · rw [hup k ek,hup k' ek'] at he
        exact hr.inj k k' e e' (hk.resolve_left ek) (hk'.resolve_left ek') he
theorem segA {l mm:List Nat} {d:Nat} {cs:List Value} (t:Nat) (hs:Sub h w) (hm:s.m d=some cs) (hL:¬Liv d) (hl:d∈l) (hmm:d∈mm):
    Seg l mm (live s Liv) β a h w (live s fun k=>k=d\/Liv k) (upd β d w.heap.size) (a.put (some d) (.pointer (some ⟨w.heap.size,0,none⟩))) h {w with heap:=w.heap.push (.cells cs.toArray t (0,0))}:=by
  refine ⟨fun i hi=>zms fun e=>hi (e▸hl),fun k hk=> ?_,by simp,fun _ _ e _=>e,fun b hb hn _=>((zvq1 hs _).keep b hb hn).1,fun k hk=> ?_,rfl,rfl,rfl,rfl⟩
  · have:k≠d:=fun e=>by grind
    simp [upd,this]
  · by_cases ek:k=d
    · subst ek
      exact .inr (by simp [upd])
    · exact .inl ⟨⟨hk.1,hk.2.resolve_left ek⟩,by simp [upd,ek]⟩
theorem zev1 (b:Nat) (ct:Nat):∀(new:List Value) (h:Hp) (i off:Nat) (cs:List Value),off+i+new.length<=cs.length->h b=some (.cells cs.toArray ct (0,0))->
    (putL h ⟨b,off,none⟩ new i) b=some (.cells (layL cs (off+i) new).toArray ct (0,0))/\∀b',b'≠b->(putL h ⟨b,off,none⟩ new i) b'=h b'
  | [],h,i,off,cs,hl,e=>by
    refine ⟨?_,fun _ _=>rfl⟩
    rw [zuf _ _ _ (by simpa using hl)]
    simpa [putL] using e
  | v::new,h,i,off,cs,hl,e=>by
    simp at hl
    have e1:(h.put ((⟨b,off,none⟩:Addr).add i) v)=h.set b (.cells (cs.set (off+i) v).toArray ct (0,0)):=by
      rw [zbh]
      unfold Hp.put
      grind
    have e2:(h.set b (.cells (cs.set (off+i) v).toArray ct (0,0))) b=some (.cells (cs.set (off+i) v).toArray ct (0,0)):=by simp [Hp.set]
    obtain ⟨h1,h2⟩:=zev1 b ct new _ (i+1) off (cs.set (off+i) v) (by simp;omega) e2
    simp only [putL,e1]
    refine ⟨?_,fun b' hb'=> ?_⟩
    · rw [h1,zuf _ _ _ (by simp;omega),zuf _ _ _ (by simp;omega)]
      congr 3
      apply List.ext_getElem?
      intro j
      simp only [List.getElem?_append,List.length_append,List.length_take,List.length_set,List.length_cons,List.getElem?_take,List.getElem?_drop,List.getElem?_set]
      grind
    · rw [h2 b' hb']
      simp [Hp.set,hb']
theorem zvr1 {P:Program} {b ct off:Nat} {cs new:List Value} (hs:Sub h w) (hb:w.heap[b]? =some (.cells cs.toArray ct (0,0))) (hn:h b=none) (hok:zax new=true) (hl:off+new.length<=cs.length):
    ∃w',(storeCells ⟨b,off,none⟩ new 0).run P w=.ok () w'/\w'.heap[b]? =some (.cells (layL cs off new).toArray ct (0,0))/\(∀b',b'<w.heap.size->b'≠b->h b'=none->w'.heap[b']? =w.heap[b']?)/\
      Sub h w'/\w.heap.size<=w'.heap.size/\w'.os=w.os/\w'.tape=w.tape/\w'.output=w.output:=by
  have hs':Sub (h.set b (.cells cs.toArray ct (0,0))) w:=by
    intro i o e
    unfold Hp.set at e
    by_cases hi:i=b
    · grind
    · simp [hi] at e;exact hs i o e
  have e0:(h.set b (.cells cs.toArray ct (0,0))) b=some (.cells cs.toArray ct (0,0)):=by simp [Hp.set]
  obtain ⟨w',hr,hst⟩:=zgt (P:=P) (a:=⟨b,off,none⟩) new 0 _ w hs' hok (fun j hj=>by
    rw [zbh]
    refine ⟨⟨cs[off+(0+j)]'(by omega),?_⟩,?_⟩
    · simp only [hcell,e0]
      simp
    · simp only [hfroz,e0]
      simp)
  obtain ⟨h1,h2⟩:=zev1 b ct new _ 0 off cs (by omega) e0
  refine ⟨w',hr,hst.sub _ _ h1,fun b' hb' hne hn'=>(hst.keep b' hb' (by simp [Hp.set,hne,hn'])).1,fun i o e=>hst.sub i o ?_,hst.size,hst.os,hst.tape,hst.output⟩
  have hi:i≠b:=fun e'=>by grind
  rw [h2 i hi]
  simp [Hp.set,hi,e]
theorem RR.storeM (hr:RR n Cur Liv D N β s a h w) {k ct:Nat} {cs cs':List Value} {w':World} (hm:s.m k=some cs) (hL:Liv k)
    (hb:w'.heap[β k]? =some (.cells cs'.toArray ct (0,0))) (ho:∀b',b'<w.heap.size->b'≠β k->h b'=none->w'.heap[b']? =w.heap[b']?) (hs:Sub h w'):
    RR n Cur Liv D N β (s.putM k cs') a h w':=by
  refine ⟨hr.sz,hs,hr.lt,hr.chain,hr.cur,hr.und,fun k' cs2 e hl=> ?_,fun k1 k2 e1 e2=>hr.inj k1 k2 ?_ ?_,fun k' hk'=> ?_,hr.nref⟩
  · by_cases ek:k'=k
    · subst ek
      rw [zeu1] at e;cases e
      exact ⟨(hr.box k' cs hm hL).1,ct,hb⟩
    · rw [zpj _ _ ek] at e
      obtain ⟨h1,ct',h2⟩:=hr.box k' cs2 e hl
      refine ⟨h1,ct',?_⟩
      rw [ho _ (heap_lt h2) (fun e'=>ek (hr.inj k' k (by simp [e]) (by simp [hm]) hl hL e')) h1]
      exact h2
  · intro e
    by_cases ek:k1=k
    · grind
    · exact e1 (by rw [zpj _ _ ek];exact e)
  · intro e
    by_cases ek:k2=k
    · grind
    · exact e2 (by rw [zpj _ _ ek];exact e)
  · by_cases ek:k'=k
    · have:=hr.nrefm k' hk'
      grind
    · rw [zpj _ _ ek]
      exact hr.nrefm k' hk'
end
section
variable {n:Nat} {Cur Liv D N:Nat->Prop} {β:Nat->Nat} {s:St} {a:Act} {h:Hp} {w:World}
theorem RR.putO (hr:RR n Cur Liv D N β s a h w) {dst:Option Nat} {l:LV} {ch:Chain} {v:Value} (hd:∀d,dst=some d->d<n/\¬D d) (hch:∀p∈ch,D p.1)
    (h1:holds s ch->v=LVal β l/\∀k o,(l=.box k o\/l=.boxd k o)->Liv k/\¬N k) (h2:¬holds s ch->v=undef):
    RR n (fun t=>dst=some t\/Cur t) Liv D N β (s.put dst l ch) (a.put dst v) h w:=by
  cases dst with
  | none=>exact hr.congr (fun t=>by simp) (fun _=>.rfl) (fun _ e=>e) (fun _ e=>e)
  | some d=>
    obtain ⟨hdn,hD⟩:=hd d rfl
    have h3:=(hr.lift hdn hD hch fun hh k o e=>(((h1 hh).2 k o e).2)).exec (v:=v) (zuh s d l ch) (fun e=>e.1 rfl)
      (fun hh=>⟨(h1 ((zpk hD hch).1 hh)).1,fun k o e=>((h1 ((zpk hD hch).1 hh)).2 k o e).1⟩) (fun hh=>h2 fun e=>hh ((zpk hD hch).2 e))
    grind
theorem zhw2 (hr:RR n Cur Liv D N β s a h w) {c:Chain} {ops:List Oper} {m:Nat} {o:Oper} (hch:zev ops m o=some c) (hg:zla s c=true)
    (hgd:∀j b p d,o.guard=some (j,b)->nth ops j=some p->p.dst=some d->D d):∀p∈c,D p.1:=by
  cases m with
  | zero=>simp [zev] at hch
  | succ m=>
    simp only [zev] at hch
    split at hch
    · cases hch;simp
    · rename_i j b hgu
      split at hch
      · rename_i p hp
        split at hch
        · rename_i d c' hd hc'
          cases hch
          simp only [zla] at hg
          split at hg
          · rename_i t c2 hf
            cases h1:chEq c2 c' with
            | false=>simp [h1] at hg
            | true=>
              have:=zsa1 h1
              subst this
              intro q hq
              rcases List.mem_cons.1 hq with rfl | hq
              · grind
              · exact hr.chain d _ _ hf q hq
          · cases hg
        · cases hch
      · cases hch
theorem zqn1 (hr:RR n Cur Liv D N β s a h w) {ch:Chain} {ops:Array Oper} {m:Nat} {o:Oper} (hch:zev ops.toList m o=some ch) (hg:zla s ch=true)
    (hgc:∀j b p d,o.guard=some (j,b)->nth ops.toList j=some p->p.dst=some d->Cur d):Region.wanted o (yielded ops a.tmps)=true↔holds s ch:=by
  cases m with
  | zero=>simp [zev] at hch
  | succ m=>
    simp only [zev] at hch
    split at hch
    · rename_i hgu
      cases hch
      simp [Region.wanted,hgu,holds_nil]
    · rename_i j b hgu
      split at hch
      · rename_i p hp
        split at hch
        · rename_i d c' hd hc'
          cases hch
          simp only [zla] at hg
          split at hg
          · rename_i t c2 hf
            cases h1:chEq c2 c' with
            | false=>simp [h1] at hg
            | true=>
              have:=zsa1 h1
              subst this
              have hC:=hgc j b p d hgu hp hd
              have hlt:d<a.tmps.size:=by rw [hr.sz];exact hr.lt d _ _ hf
              have hpj:ops[j]? =some p:=by rw [zda] at hp;simpa using hp
              have hy:yielded ops a.tmps j=match a.eval (.tmp d) with | .bool b=>some b | _=>none:=by
                unfold yielded
                simp only [hpj,Option.bind_some,hd,Act.eval]
                have:a.tmps[d]? =some (a.tmps[d]'hlt):=Array.getElem?_eq_getElem hlt
                simp only [this,Array.getD_eq_getD_getElem?,Option.getD_some]
                grind
              simp only [Region.wanted,hgu,hy]
              by_cases hh:holds s c2
              · have:=(hr.cur d _ _ hf hC hh).1
                rw [this]
                simp only [LVal]
                constructor
                · intro e
                  have e:t=b:=by simpa using e
                  subst e
                  intro q hq
                  rcases List.mem_cons.1 hq with rfl | hq
                  · simp [hb,hf]
                  · exact hh q hq
                · intro e
                  have:=e (d,b) (List.mem_cons_self ..)
                  simp only [hb,hf] at this
                  simpa using this
              · have:=hr.und d _ _ hf hC hh
                rw [this]
                simp only [undef]
                refine ⟨fun e=>by simp at e,fun e=>absurd (fun q hq=>e q (List.mem_cons_of_mem _ hq)) hh⟩
          · cases hg
        · cases hch
      · cases hch
def privA (priv:List Nat) (o:Oper) (k:Nat):Prop:=zam priv o=true/\o.dst=some k
structure OpOut (C:Ctx) (l mok:List Nat) (n:Nat) (Cur Liv D N:Nat->Prop) (o:Oper) (β:Nat->Nat) (s:St) (a:Act) (h:Hp) (w:World) (β':Nat->Nat) (s':St) (a':Act) (h':Hp) (w':World):Prop where
  rr:RR n (fun t=>o.dst=some t\/Cur t) (fun k=>privA C.priv o k\/Liv k) D (fun k=>¬privA C.priv o k/\N k) β' s' a' h' w'
  seg:Seg l mok (live s Liv) β a h w (live s' fun k=>privA C.priv o k\/Liv k) β' a' h' w'
  f:∀t,o.dst≠some t->s'.f t=s.f t
  m:∀k,s'.m k=s.m k\/privA C.priv o k\/(chg o s k=true/\isVal C.tb o=false/\s.m k≠none/\Liv k)
  hv:isVal C.tb o=true->h'=h
  hp:zam C.priv o=true->h'=h
theorem zsi1 {C:Ctx} {o:Oper} (h:zam C.priv o=false) (k:Nat):¬privA C.priv o k:=fun e=>by have:=e.1;grind
theorem zcf2 {C:Ctx} {l mok:List Nat} {o:Oper} {s':St} {a':Act} {h':Hp} {w':World} (hp:zam C.priv o=false)
    (rr:RR n (fun t=>o.dst=some t\/Cur t) Liv D N β s' a' h' w') (seg:Seg l mok (live s Liv) β a h w (live s' Liv) β a' h' w')
    (f:∀t,o.dst≠some t->s'.f t=s.f t) (m:∀k,s'.m k=s.m k\/(chg o s k=true/\isVal C.tb o=false/\s.m k≠none/\Liv k)) (hv:isVal C.tb o=true->h'=h):
    OpOut C l mok n Cur Liv D N o β s a h w β s' a' h' w':=by
  have e1:∀k,(privA C.priv o k\/Liv k)↔Liv k:=fun k=>⟨fun e=>e.resolve_left (zsi1 hp k),.inr⟩
  refine ⟨rr.congr (fun _=>.rfl) e1 (fun _ e=>e) (fun _ e=>e.2),seg.mono (fun _ e=>e) (fun _ e=>e) (fun _ e=>e) (fun k e=>⟨e.1,(e1 k).1 e.2⟩),f,fun k=>(m k).imp id .inr,hv,fun e=>by grind⟩
theorem put_f (s:St) (d:Option Nat) (l:LV) (ch:Chain) (t:Nat) (h:d≠some t):(s.put d l ch).f t=s.f t:=by
  cases d with
  | none=>rfl
  | some d=>exact zmd1 s l ch fun e=>h (by rw [e])
theorem put_m (s:St) (d:Option Nat) (l:LV) (ch:Chain):(s.put d l ch).m=s.m:=by cases d<;>rfl
theorem zrg {C:Ctx} {o:Oper} (h:isVal C.tb o=true):zam C.priv o=false:=by
  obtain ⟨dst,op,ty,pos,after,guard⟩:=o
  cases op<;>first | rfl | (simp [isVal] at h;done) | (cases dst<;>simp [isVal,zam] at h ⊢)
theorem zhx2 (hr:RR n Cur Liv D N β s a h w) {o:Oper} {ch:Chain} {l:LV} (hp:Prov o ch s l) (hh:holds s ch) (hcur:∀t,Operand.tmp t∈o.op.operands->Cur t):
    ∀k off,(l=.box k off\/l=.boxd k off)->Liv k/\¬N k:=by
  intro k off e
  obtain ⟨x,hx,off',hev⟩:=hp k off e
  rcases hev with hev | hev
  · obtain ⟨t,c,rfl,hf,hc⟩:=zls1 hev (by simp) hh
    exact ⟨(hr.cur t _ c hf (hcur t hx) hc).2 k off' (.inl rfl),fun hN=>(hr.nref k hN t _ c hf hc off').1 rfl⟩
  · obtain ⟨t,c,rfl,hf,hc⟩:=zls1 hev (by simp) hh
    exact ⟨(hr.cur t _ c hf (hcur t hx) hc).2 k off' (.inr rfl),fun hN=>(hr.nref k hN t _ c hf hc off').2 rfl⟩
theorem zhy2 {C:Ctx} (ok:C.tb.Ok C.P) {ops:Array Oper} {l mok:List Nat} {K:St->Hp->Prop} {i:Nat} {o:Oper} (hi:ops[i]? =some o) (hv:opW C ops.toList mok o s h K)
    (hr:RR n Cur Liv D N β s a h w) (hcur:∀t,Operand.tmp t∈o.op.operands->Cur t)
    (hgc:∀j b p d,o.guard=some (j,b)->nth ops.toList j=some p->p.dst=some d->Cur d/\D d) (hdn:∀d,o.dst=some d->d<n/\¬D d/\d∈l)
    (hN:∀d,privA C.priv o d->N d/\¬Liv d) (next:Act->World->Prop) (Q:Exit->Act->World->Prop)
    (hn:∀s' h' β' a' w',K s' h'->OpOut C l mok n Cur Liv D N o β s a h w β' s' a' h' w'->next a' w'):wpOp C.P ops Q i next a w:=by
  unfold opW at hv
  split at hv
  · exact hv.elim
  rename_i ch hch
  cases hg:zla s ch with
  | false=>simp [hg] at hv
  | true=>
  simp only [hg,cond_true] at hv
  have hgc':∀j b p d,o.guard=some (j,b)->nth ops.toList j=some p->p.dst=some d->Cur d:=fun j b p d e1 e2 e3=>(hgc j b p d e1 e2 e3).1
  have hw:=zqn1 hr hch hg hgc'
  have hD:=zhw2 hr hch hg fun j b p d e1 e2 e3=>(hgc j b p d e1 e2 e3).2
  have hopnd:∀x∈o.op.operands,Opnd β s a.eval x:=fun x hx=>zyw1 hr fun t e=>hcur t (e▸hx)
  have hd1:∀d,o.dst=some d->d<n/\¬D d:=fun d e=>⟨(hdn d e).1,(hdn d e).2.1⟩
  have hdl:∀d,o.dst=some d->d∈l:=fun d e=>(hdn d e).2.2
  unfold wpOp
  simp only [hi]
  have live_put:∀(l:LV) k,live (s.put o.dst l ch) Liv k↔live s Liv k:=fun l k=>by unfold live;rw [put_m]
  have doVal:∀(lv:LV) (h':Hp) (v:Value) (w':World),K (s.put o.dst lv ch) h'->zam C.priv o=false->(isVal C.tb o=true->h'=h)->Step h h' w w'->
      (holds s ch->v=LVal β lv/\∀k off,(lv=.box k off\/lv=.boxd k off)->Liv k/\¬N k)->(¬holds s ch->v=undef)->next (a.put o.dst v) w':=by
    intro lv h' v w' hk hp hvv hst h1 h2
    refine hn _ _ β _ _ hk (zcf2 hp ((hr.step hst).putO hd1 hD h1 h2) ?_ (fun t ht=>put_f s _ _ _ t ht) (fun k=>.inl (by rw [put_m])) hvv)
    refine ((Seg.step hst).trans (Seg.put (lv:=live s Liv) hdl)).mono (fun _ e=>e) (fun _ e=>e) (fun _ e=>e) (fun k e=>(live_put lv k).1 e)
  cases hval:isVal C.tb o with
  | true=>
    simp only [hval,cond_true] at hv
    obtain ⟨lv,hk,hrun,hprov⟩:=zqk1 ok hv
    by_cases hh:holds s ch
    · rw [if_pos (hw.2 hh)]
      left
      obtain ⟨w',hrw,hw1,hst⟩:=hrun hh β a.eval w hopnd (fun _=>hr.sub) (fun _=>zhv2 hr hcur)
      unfold Oper.wp
      rw [hrw]
      have hst':Step h h w w':=by
        cases hkd:kindD C.tb o ch s with
        | mem=>exact hst hkd
        | pure=>rw [hw1 (by rw [hkd];simp)];exact .refl hr.sub
        | box=>rw [hw1 (by rw [hkd];simp)];exact .refl hr.sub
      exact doVal lv h _ w' hk (zrg hval) (fun _=>rfl) hst' (fun _=>⟨rfl,zhx2 hr hprov hh hcur⟩) (fun e=>absurd hh e)
    · rw [if_neg (fun e=>hh (hw.1 e))]
      exact doVal lv h _ w hk (zrg hval) (fun _=>rfl) (.refl hr.sub) (fun e=>absurd e hh) (fun _=>rfl)
  | false=>
    simp only [hval,cond_false] at hv
    have doEff0:zam C.priv o=false->(EffOk C.P o ch s h fun l h'=>K (s.put o.dst l ch) h')->
        if Region.wanted o (yielded ops a.tmps)=true then o.wp C.P a w next Q\/o.asks C.P a w/\LetsOut Q else next (a.put o.dst undef) w:=by
      intro hp hv
      obtain ⟨h1,h2⟩:=hv
      by_cases hh:holds s ch
      · rw [if_pos (hw.2 hh)]
        left
        refine h1 hh β a w hopnd hr.sub next Q fun x h' w' hk hst=> ?_
        exact doVal (.v x) h' x w' hk hp (fun e=>by grind) hst (fun _=>⟨rfl,fun k off e=>by grind⟩) (fun e=>absurd hh e)
      · rw [if_neg (fun e=>hh (hw.1 e))]
        obtain ⟨x,hk⟩:=h2 hh
        exact doVal (.v x) h undef w hk hp (fun _=>rfl) (.refl hr.sub) (fun e=>absurd e hh) (fun _=>rfl)
    have doEff:zam C.priv o=false->(effW C.P C.tb o ch s h fun l h'=>K (s.put o.dst l ch) h')->
        if Region.wanted o (yielded ops a.tmps)=true then o.wp C.P a w next Q\/o.asks C.P a w/\LetsOut Q else next (a.put o.dst undef) w:=fun hp hv=>doEff0 hp (zei2 ok hv)
    have doNew:∀(d:Nat) (cs:List Value) (t:Nat),K ((s.put (some d) (.box d 0) []).putM d cs) h->privA C.priv o d->ch=[]->has mok d=true->
        (execOp a.eval o).run C.P w=.ok (.value (.pointer (some ⟨w.heap.size,0,none⟩))) {w with heap:=w.heap.push (.cells cs.toArray t (0,0))}->
        if Region.wanted o (yielded ops a.tmps)=true then o.wp C.P a w next Q\/o.asks C.P a w/\LetsOut Q else next (a.put o.dst undef) w:=by
      intro d cs t hk hp he hmd hrun
      subst he
      rw [if_pos (hw.2 (holds_nil s))]
      left
      unfold Oper.wp
      rw [hrun]
      show next (a.put o.dst _) _
      rw [hp.2]
      obtain ⟨hdn1,hdD,hdl1⟩:=hdn d hp.2
      obtain ⟨hNd,hLd⟩:=hN d hp
      have hl:=hr.liftA cs hdn1 hdD hNd
      have hfd:((s.put (some d) (.box d 0) []).putM d cs).f d=some (.box d 0,[]):=zuh s _ _ _
      have hmd':((s.put (some d) (.box d 0) []).putM d cs).m d=some cs:=zeu1 _ _ _
      have hx:=hl.execA t hfd hmd' (fun e=>e.1 rfl) (fun e=>e.1 rfl)
      have hiff:∀k,privA C.priv o k↔k=d:=fun k=>⟨fun e=>by have:=e.2;rw [hp.2] at this;cases this;rfl,fun e=>e▸hp⟩
      refine hn _ _ _ _ _ hk ⟨hx.congr (fun t=> ?_) (fun k=> ?_) (fun _ e=>e) (fun k e=> ?_),?_,fun t ht=> ?_,fun k=> ?_,fun _=>rfl,fun _=>rfl⟩
      · rw [hp.2]
        grind
      · grind
      · grind
      · refine (segA (s:=(s.put (some d) (.box d 0) []).putM d cs) (Liv:=fun k=>k≠d/\Liv k) (β:=β) (a:=a) (l:=l) (mm:=mok) t hr.sub hmd' (fun e=>e.1 rfl) hdl1 ((zhw _ _).1 hmd)).mono
          (fun _ e=>e) (fun _ e=>e) (fun k e=>⟨fun e'=>e.1 ?_,e.2.2⟩) (fun k e=>⟨e.1,?_⟩)
        · rw [zpj _ _ e.2.1];exact e'
        · rcases e.2 with e2 | e2
          · exact .inl ((hiff k).1 e2)
          grind
      · exact zmd1 s _ _ fun e=>ht (by rw [hp.2,e])
      · by_cases ek:k=d
        · grind
        · exact .inl (zpj _ _ ek)
    split at hv
    · rename_i d hdst
      have hd0:o.dst=some d/\has C.priv d=true:=by
        unfold dstIn at hdst
        grind
      cases hmd:has mok d with
      | false=>simp [hmd] at hv
      | true=>
        simp only [hmd,cond_true] at hv
        split at hv
        · rename_i t hop
          split at hv
          · rename_i e he
            refine doNew d (zac e.zero) t hv ⟨by simp [zam,hop,hd0],hd0.1⟩ rfl hmd ?_
            have e2:(zac e.zero).toArray=e.zero.cells:=by apply Array.ext';simp [zbb]
            rw [e2]
            simp [execOp,hop,Instr.alloc,run_zeroValue' ok he,newVar,zdg]
          · exact hv.elim
        · rename_i t x hop
          obtain ⟨v,hev,hv'⟩:=zas hv
          refine doNew d (zac v) t hv' ⟨by simp [zam,hop,hd0],hd0.1⟩ rfl hmd ?_
          have hx:=ev_ok (hopnd x (by simp [hop,Op.operands])) (holds_nil s) hev
          have e2:(zac v).toArray=v.cells:=by apply Array.ext';simp [zbb]
          rw [e2]
          simp [execOp,hop,hx,LVal,Instr.box,newVar,zdg]
        · exact hv.elim
    · exact hv.elim
    · rename_i hdst
      have hpa:zam C.priv o=false:=by
        unfold dstIn at hdst
        unfold zam
        split at hdst
        · rename_i d' e
          cases h1:has C.priv d' with
          | true=>simp [h1] at hdst
          | false=>rw [e];cases o.op<;>simp [h1]
        · rename_i e
          rw [e];cases o.op<;>simp
      split at hv
      · rename_i t x y hop
        split at hv
        · rename_i k off v hex hey
          split at hv
          · rename_i cs e hmk hte
            cases h1:has mok k with
            | false=>simp [h1] at hv
            | true=>
            cases h2:Nat.beq (zac v).length e.size with
            | false=>simp [h1,h2] at hv
            | true=>
            cases h3:Nat.ble (off+e.size) cs.length with
            | false=>simp [h1,h2,h3] at hv
            | true=>
            cases h4:zax (zac v) with
            | false=>simp [h1,h2,h3,h4] at hv
            | true=>
            simp only [h1,h2,h3,h4,cond_true] at hv
            rw [if_pos (hw.2 (holds_nil s))]
            left
            have hxm:x∈o.op.operands:=by simp [hop,Op.operands]
            have hx:=ev_ok (hopnd x hxm) (holds_nil s) hex
            have hy:=ev_ok (hopnd y (by simp [hop,Op.operands])) (holds_nil s) hey
            obtain ⟨tt,c,rfl,hf,hc⟩:=zls1 hex (by simp) (holds_nil s)
            have hL:Liv k:=(hr.cur tt _ c hf (hcur tt hxm) hc).2 k off (.inl rfl)
            obtain ⟨hb0,ct,hb1⟩:=hr.box k cs hmk hL
            have hlen0:(zac v).length=e.size:=Nat.eq_of_beq_eq_true h2
            obtain ⟨w',hrun,hb',hoth,hsub,hsize,h5,h6,h7⟩:=zvr1 (P:=C.P) (off:=off) hr.sub hb1 hb0 h4 (by rw [hlen0];exact Nat.le_of_ble_eq_true h3)
            have hsz:=run_sizeOf' ok hte w
            have hlen:v.cells.size=e.size:=by rw [<-Array.length_toList,zbb];exact hlen0
            unfold Oper.wp
            have hrun2:(execOp a.eval o).run C.P w=.ok .skip w':=by
              simp only [execOp,hop,hx,hy,LVal,Instr.storeAt,Instr.sureAddr,Sem.run_bind,Sem.run_pure,Result.andThen_ok,storeVar,hsz,hlen,ne_eq,not_true,if_false,zbb]
              have:(if False then (stuck "storeVar: the value has not the size of the variable" :Sem Unit) else pure PUnit.unit).run C.P w=.ok () w:=rfl
              first | rw [this] | skip
              simp only [hrun,Result.andThen_ok]
            rw [hrun2,Oper.upon_skip]
            have hr2:=(hr.storeM hmk hL hb' hoth hsub).putO (dst:=o.dst) (l:=.v (.tuple #[])) (ch:=[]) (v:=undef) hd1 (by simp) (fun _=>⟨rfl,fun k off e=>by rcases e with e | e<;>cases e⟩) (fun e=>absurd (holds_nil _) e)
            have hes:((s.putM k (layL cs off (zac v))).put o.dst (.v (.tuple #[])) [])=((s.put o.dst (.v (.tuple #[])) []).putM k (layL cs off (zac v))):=by cases o.dst<;>rfl
            rw [hes] at hr2
            have hsm:∀j,((s.put o.dst (.v (.tuple #[])) []).putM k (layL cs off (zac v))).m j≠none->s.m j≠none:=fun j hj=>by
              by_cases ej:j=k
              · rw [ej,hmk];simp
              · rw [zpj _ _ ej,put_m] at hj;exact hj
            refine hn _ _ _ _ _ hv (zcf2 hpa hr2 ?_ (fun t ht=>put_f s _ _ _ t ht) (fun j=> ?_) (fun _=>rfl))
            · refine Seg.trans (lv1:=live s Liv) (β1:=β) (a1:=a) (h1:=h) (w1:=w') ⟨fun _ _=>rfl,fun _ _=>rfl,hsize,fun _ _ e _=>e,fun b hb hn hk=> ?_,fun _ e=>.inl ⟨e,rfl⟩,h5,h6,h7,rfl⟩ ((Seg.put (lv:=live s Liv) hdl).mono (fun _ e=>e) (fun _ e=>e) (fun _ e=>e) (fun j e=>⟨hsm j e.1,e.2⟩))
              exact hoth b hb (fun e=>hk k ((zhw _ _).1 h1) ⟨by rw [hmk];simp,hL⟩ e.symm) hn
            · by_cases ej:j=k
              · subst ej
                exact .inr ⟨by simp [chg,hop,hex],hval,by rw [hmk];simp,hL⟩
              · exact .inl (by rw [zpj _ _ ej,put_m])
          · exact hv.elim
        · exact doEff hpa hv
      · exact doEff0 hpa (zej2 hv)
      grind
end
abbrev Rel (n:Nat) (β:Nat->Nat) (s:St) (a:Act) (h:Hp) (w:World):Prop:=
  RR n (fun _=>True) (fun _=>True) (fun _=>False) (fun _=>False) β s a h w
abbrev lives (s:St):Nat->Prop:=live s fun _=>True
section
variable {n:Nat} {Cur Liv D N:Nat->Prop} {β:Nat->Nat} {s:St} {a:Act} {h:Hp} {w:World}
theorem zsj1 {s:St} {t:Nat} {l:LV} {c:Chain} (e:s.clean.f t=some (l,c)):s.f t=some (l,[])/\c=[]:=by
  simp only [St.clean] at e
  grind
theorem RR.clean (hr:RR n (fun _=>True) (fun _=>True) D N β s a h w):Rel n β s.clean a h w:=by
  refine ⟨hr.sz,hr.sub,fun t l c e=>hr.lt t l _ (zsj1 e).1,fun t l c e p hp=> ?_,fun t l c e _ _=>hr.cur t l _ (zsj1 e).1 trivial (holds_nil _),fun t l c e _ hh=> ?_,hr.box,hr.inj,fun _ e=>e.elim,fun _ e=>e.elim⟩
  · rw [(zsj1 e).2] at hp;cases hp
  · rw [(zsj1 e).2] at hh;exact absurd (holds_nil _) hh
theorem dropL'_some {l:List Nat} {x:Option (LV×Chain)} {v:LV} {c:Chain} (e:dropL' l x=some (v,c)):x=some (v,c)/\∀k o,(v=.box k o\/v=.boxd k o)->k∉l:=by
  unfold dropL' at e
  split at e
  · rename_i k o c'
    cases hk:has l k with
    | true=>simp [hk] at e
    | false=>
      simp only [hk,cond_false] at e
      cases e
      refine ⟨rfl,fun k' o' e'=> ?_⟩
      rcases e' with e' | e'<;>cases e'
      exact zlb hk
  · rename_i k o c'
    cases hk:has l k with
    | true=>simp [hk] at e
    | false=>
      simp only [hk,cond_false] at e
      cases e
      refine ⟨rfl,fun k' o' e'=> ?_⟩
      rcases e' with e' | e'<;>cases e'
      exact zlb hk
  · grind
  · cases e
theorem zjq1 {l:List Nat} {t:Nat} {v:LV} {c:Chain} (e:(s.dropB l).f t=some (v,c)):s.f t=some (v,c)/\∀k o,(v=.box k o\/v=.boxd k o)->k∉l:=by
  cases l with
  | nil=>exact ⟨e,fun _ _ _ e=>by cases e⟩
  | cons x l=>exact dropL'_some e
theorem zvs1 {l:List Nat} {k:Nat} {cs:List Value} (e:(s.dropB l).m k=some cs):s.m k=some cs/\k∉l:=by
  cases l with
  | nil=>exact ⟨e,fun e=>by cases e⟩
  | cons x l=>
    simp only [St.dropB] at e
    cases hk:has (x::l) k with
    | true=>simp [hk] at e
    | false=>
      simp only [hk,cond_false] at e
      exact ⟨e,zlb hk⟩
theorem RR.start (hr:Rel n β s a h w) (l:List Nat):RR n (fun _=>True) (fun k=>k∉l) (fun _=>False) (fun k=>k∈l) β (s.dropB l) a h w:=by
  refine ⟨hr.sz,hr.sub,fun t v c e=>hr.lt t v c (zjq1 e).1,fun t v c e=>hr.chain t v c (zjq1 e).1,fun t v c e _ hh=> ?_,fun t v c e _ hh=> ?_,fun k cs e _=>hr.box k cs (zvs1 e).1 trivial,fun k k' e e' _ _ he=> ?_,fun k hk=> ?_,fun k hk t v c e _ o=> ?_⟩
  · have hc:c=[]:=by
      cases c with
      | nil=>rfl
      | cons p c=>exact (hr.chain t v _ (zjq1 e).1 p (List.mem_cons_self ..)).elim
    subst hc
    exact ⟨(hr.cur t v [] (zjq1 e).1 trivial (holds_nil _)).1,(zjq1 e).2⟩
  · have hc:c=[]:=by
      cases c with
      | nil=>rfl
      | cons p c=>exact (hr.chain t v _ (zjq1 e).1 p (List.mem_cons_self ..)).elim
    subst hc
    exact absurd (holds_nil _) hh
  · obtain ⟨cs,e1⟩:=Option.ne_none_iff_exists'.1 e
    obtain ⟨cs',e1'⟩:=Option.ne_none_iff_exists'.1 e'
    exact hr.inj k k' (by simp [(zvs1 e1).1]) (by simp [(zvs1 e1').1]) trivial trivial he
  · cases e:(s.dropB l).m k with
    | none=>rfl
    | some cs=>exact absurd hk (zvs1 e).2
  · exact ⟨fun e'=>(zjq1 e).2 k o (.inl e') hk,fun e'=>(zjq1 e).2 k o (.inr e') hk⟩
theorem zvt1 {l:List Nat} {k:Nat} (e:live (s.dropB l) (fun k=>k∉l) k):lives s k:=by
  obtain ⟨cs,e1⟩:=Option.ne_none_iff_exists'.1 e.1
  exact ⟨by simp [(zvs1 e1).1],trivial⟩
theorem zyr :∀(x y:List Oper),modsO (x++y)=modsO x++modsO y
  | [],y=>rfl
  | o::x,y=>by
    simp only [List.cons_append,modsO,zyr x y]
    cases o.dst<;>rfl
theorem zju {l:List Oper} {o:Oper} {d:Nat} (hm:o∈l) (hd:o.dst=some d):d∈modsO l:=by
  induction l with
  | nil=>cases hm
  | cons p l ih=>
    rcases List.mem_cons.1 hm with rfl | hm
    · simp [modsO,hd]
    · have:=ih hm
      simp only [modsO]
      grind
theorem zew1 :∀ {l:List Nat},nodup l=true->l.Nodup
  | [],_=>.nil
  | a::l,h=>by
    simp only [nodup] at h
    cases ha:has l a with
    | true=>simp [ha] at h
    | false=>
      simp only [ha,cond_false] at h
      exact List.nodup_cons.2 ⟨zlb ha,zew1 h⟩
theorem zyx1 {l:List Oper} {o:Oper} (h:zcq1 l=true) (hm:o∈l):o.guard=none:=by
  induction l with
  | nil=>cases hm
  | cons p l ih=>
    simp only [zcq1] at h
    grind
theorem zcc1 :∀ {l:List Oper} {i j:Nat} {o:Oper} {g:Nat} {b:Bool},zij l i=true->l[j]? =some o->o.guard=some (g,b)->g<i+j
  | [],_,_,_,_,_,_,e,_=>by simp at e
  | p::l,i,0,o,g,b,h,e,hg=>by
    simp at e
    subst e
    simp only [zij,hg] at h
    cases hb:Nat.blt g i with
    | true=>simp [Nat.blt] at hb;omega
    | false=>simp [hb] at h
  | p::l,i,j+1,o,g,b,h,e,hg=>by
    simp at e
    have h':zij l (i+1)=true:=by
      simp only [zij] at h
      grind
    have:=zcc1 h' e hg
    omega
theorem zrh {priv:List Nat} {o:Oper} {d:Nat} {r:List Oper} (h:privA priv o d):zba priv (o::r)=d::zba priv r:=by
  simp [zba,h.1,h.2]
theorem zct1 {priv:List Nat} {o:Oper} {r:List Oper} (h:∀d,¬privA priv o d):zba priv (o::r)=zba priv r:=by
  cases hp:zam priv o with
  | false=>simp [zba,hp]
  | true=>
    cases hd:o.dst with
    | none=>simp [zba,hp,hd]
    | some d=>exact absurd ⟨hp,hd⟩ (h d)
theorem zvu1 {C:Ctx} (ok:C.tb.Ok C.P) {ops:Array Oper} {mok:List Nat} {K:St->Hp->Prop} {Q:Exit->Act->World->Prop} (g:Bool)
    (hlt:∀d∈modsO ops.toList,d<n) (hg:g=false->zcq1 ops.toList=true) (hg':g=true->(modsO ops.toList).Nodup/\zij ops.toList 0=true):
    ∀(r pre:List Oper) (β:Nat->Nat) (s:St) (a:Act) (h:Hp) (w:World),ops.toList=pre++r->(zba C.priv r).Nodup->seqW C ops.toList mok r s h K->
      RR n (fun _=>True) (fun k=>k∉zba C.priv r) (fun t=>g=true/\t∈modsO pre) (fun k=>k∈zba C.priv r) β s a h w->
      (∀s' h' β' a' w',K s' h'->RR n (fun _=>True) (fun _=>True) (fun t=>g=true/\t∈modsO ops.toList) (fun _=>False) β' s' a' h' w'->
        Seg (modsO ops.toList) mok (live s fun k=>k∉zba C.priv r) β a h w (lives s') β' a' h' w'->Q .normal a' w')->
      wpOps C.P ops Q (List.range' pre.length r.length) a w
  | [],pre,β,s,a,h,w,hops,_,hv,hr,hn=>by
    simp only [List.length_nil,List.range'_zero]
    rw [List.append_nil] at hops
    exact hn s h β a w hv (hr.congr (fun _=>.rfl) (fun k=>by simp [zba]) (fun t e=>by rw [hops];exact e) (fun k e=>e.elim)) ((Seg.refl _ _).mono (fun _ e=>e) (fun _ e=>e) (fun _ e=>e) (fun k e=>⟨e.1,by simp [zba]⟩))
  | o::r,pre,β,s,a,h,w,hops,hnd,hv,hr,hn=>by
    simp only [List.length_cons,List.range'_succ,wpOps_cons]
    have hi:ops[pre.length]? =some o:=by
      have:ops.toList[pre.length]? =some o:=by rw [hops];simp
      simpa using this
    have hmem:o∈ops.toList:=by rw [hops];simp
    have hA:∀k,(privA C.priv o k\/k∉zba C.priv (o::r))↔k∉zba C.priv r:=by
      intro k
      by_cases hp:∃d,privA C.priv o d
      · obtain ⟨d,hp⟩:=hp
        rw [zrh hp] at hnd ⊢
        have hnd:=List.nodup_cons.1 hnd
        constructor
        · rintro (e | e)
          · have:k=d:=by have h1:=e.2;rw [hp.2] at h1;cases h1;rfl
            rw [this];exact hnd.1
          · exact fun e'=>e (List.mem_cons_of_mem _ e')
        grind
      · have hp':∀d,¬privA C.priv o d:=fun d e=>hp ⟨d,e⟩
        rw [zct1 hp']
        grind
    have hA':∀k,k∈zba C.priv r->¬privA C.priv o k/\k∈zba C.priv (o::r):=fun k hk=>
      ⟨fun e=>(hA k).1 (.inl e) hk,Classical.byContradiction fun e=>(hA k).1 (.inr e) hk⟩
    have hnd':(zba C.priv r).Nodup:=by
      by_cases hp:∃d,privA C.priv o d
      · obtain ⟨d,hp⟩:=hp
        rw [zrh hp] at hnd
        grind
      · rwa [zct1 fun d e=>hp ⟨d,e⟩] at hnd
    refine zhy2 (l:=modsO ops.toList) ok hi hv hr (fun _ _=>trivial) (fun j b p d e1 e2 e3=>⟨trivial,?_⟩) (fun d e=>⟨hlt d (zju hmem e),fun e'=> ?_,zju hmem e⟩) (fun d hp=> ?_) _ Q fun s' h' β' a' w' hk out=> ?_
    · cases g with
      | false=>rw [zyx1 (hg rfl) hmem] at e1;cases e1
      | true=>
        refine ⟨rfl,?_⟩
        have hj:=zcc1 (j:=pre.length) (hg' rfl).2 (by rw [hops];simp) e1
        rw [zda,hops,List.getElem?_append_left (by omega)] at e2
        exact zju (List.mem_of_getElem? e2) e3
    · have hN:=(hg' e'.1).1
      rw [hops,zyr] at hN
      have h1:d∈modsO (o::r):=zju (List.mem_cons_self ..) e
      grind
    · have:d∈zba C.priv (o::r):=by rw [zrh hp];simp
      grind
    · have hops':ops.toList=(pre++ [o])++r:=by rw [hops];simp
      have:=zvu1 ok g hlt hg hg' r (pre++ [o]) β' s' a' h' w' hops' hnd' hk
        (out.rr.congr (fun t=>by simp) (fun k=>(hA k).symm) (fun t e=>⟨e.1,by rw [zyr];grind⟩) hA')
        (fun s2 h2 β2 a2 w2 hk2 hr2 hs2=>hn s2 h2 β2 a2 w2 hk2 hr2 (out.seg.trans (hs2.mono (fun _ e=>e) (fun _ e=>e) (fun k e=>⟨e.1,(hA k).2 e.2⟩) (fun _ e=>e))))
      simpa using this
end
theorem condT {b x:Bool} (h:cond b x false=true):b=true/\x=true:=by
  grind
theorem zuj :∀(n:Nat) (l:List Nat),l.Nodup->(∀x∈l,x<n)->l.length<=n
  | 0,l,_,h=>by
    cases l with
    | nil=>simp
    | cons a l=>exact absurd (h a (List.mem_cons_self ..)) (Nat.not_lt_zero _)
  | n+1,l,hn,h=>by
    by_cases hm:n∈l
    · have h1:=zuj n (l.erase n) (hn.erase n) (fun x hx=>by
        have h2:=(hn.mem_erase_iff).1 hx
        have:=h x h2.2
        have:=h2.1
        omega)
      grind
    · have:=zuj n l hn (fun x hx=>by
        grind)
      omega
theorem zcg2 {n:Nat} {l:List Nat} (hn:l.Nodup) (h:∀x∈l,x<n) (hl:n<=l.length) {j:Nat} (hj:j<n):j∈l:=by
  refine Classical.byContradiction fun e=> ?_
  have:=zuj n (j::l) (List.nodup_cons.2 ⟨e,hn⟩) (fun x hx=>by
    rcases List.mem_cons.1 hx with rfl | hx
    · exact hj
    · exact h x hx)
  grind
def Clos (L:List Oper) (X:Nat->Prop):Prop:=∀i o,L[i]? =some o->X i->∀j∈waits o,X j
def Ahead (L:List Oper) (i j:Nat):Prop:=∀X:Nat->Prop,Clos L X->(∀o,L[i]? =some o->∀k∈waits o,X k)->X j
theorem zta {l m:List Nat} (h:allIn l m=true):∀x∈l,x∈m:=by
  induction l with
  | nil=>simp
  | cons a l ih=>
    simp only [allIn] at h
    cases ha:has m a with
    | false=>simp [ha] at h
    | true=>
      simp only [ha,cond_true] at h
      intro x hx
      rcases List.mem_cons.1 hx with rfl | hx
      · exact (zhw _ _).1 ha
      · exact ih h x hx
theorem zhz2 {o:Oper} {e:Edge} (he:e∈o.after) (hb:Region.binds .any e=true):e.on∈waits o:=by
  have key:∀l:List Edge,e∈l->e.on∈waits.go l:=by
    intro l
    induction l with
    | nil=>intro h;cases h
    | cons x l ih=>
      intro h
      simp only [waits.go]
      rcases List.mem_cons.1 h with rfl | h
      · have:zag1 e=true:=by
          unfold Region.binds at hb
          unfold zag1
          cases hg:e.ground<;>simp [hg] at hb ⊢
        simp [this]
      grind
  exact key _ (by simpa using he)
theorem zch2 {k:Nat} {l:List Nat} {j:Nat} (h:j∈addN k l):j=k\/j∈l:=by
  unfold addN at h
  grind
theorem zci2 {j:Nat}:∀ {a b:List Nat},j∈mrgN a b->j∈a\/j∈b
  | [],_,h=>.inr h
  | k::r,b,h=>by
    rcases zci2 (a:=r) (b:=addN k b) h with h | h
    · grind
    · rcases zch2 h with rfl | h
      · simp
      · exact .inr h
theorem zvv1 {acc:List (List Nat)}:∀ {l:List Nat} {j:Nat},j∈aheads.union l acc->j∈l\/∃k∈l,∃x,nth acc k=some x/\j∈x
  | [],j,h=>by simp [aheads.union] at h
  | k::l,j,h=>by
    simp only [aheads.union] at h
    rcases zch2 h with rfl | h
    · simp
    · rcases zci2 h with h | h
      · grind
      · rcases zvv1 h with h | ⟨k',h1,h2⟩
        · exact .inl (List.mem_cons_of_mem _ h)
        grind
theorem zvw1 {L:List Oper}:∀(r pre:List Oper) (acc:List (List Nat)),L=pre++r->acc.length=pre.length->(∀i x,nth acc i=some x->∀j∈x,Ahead L i j)->
    ∀i x,nth (aheads r acc) i=some x->∀j∈x,Ahead L i j
  | [],_,acc,_,_,h=>h
  | o::r,pre,acc,hL,hl,h=>by
    refine zvw1 r (pre++ [o]) _ (by simp [hL]) (by simp [zjo1,hl]) fun i x hx j hj=> ?_
    rw [zda,zjo1] at hx
    rcases Nat.lt_trichotomy i acc.length with hi | hi | hi
    · rw [List.getElem?_append_left hi,<-zda] at hx
      exact h i x hx j hj
    · subst hi
      simp at hx
      subst hx
      intro X hX hw
      have ho:L[acc.length]? =some o:=by rw [hL,hl];simp
      rcases zvv1 hj with hj | ⟨k,hk,y,hy,hjy⟩
      · exact hw o ho j hj
      · exact h k y hy j hjy X hX fun o' ho' k' hk'=>hX k o' ho' (hw o ho k hk) k' hk'
    grind
theorem zil {L:List Oper} {i j:Nat} (h:j∈zce (aheads L []) i):Ahead L i j:=by
  unfold zce at h
  split at h
  · rename_i x hx
    exact zvw1 L [] [] rfl rfl (fun i x hx=>by simp [nth] at hx) i x hx j h
  · cases h
theorem zyy1 :∀l:List (Nat×Operand),sndL l=l.map (·.2)
  | []=>rfl
  | (_,x)::l=>by simp [sndL,zyy1 l]
theorem zia2 :∀l:Option Operand,optL l=l.toArray.toList
  | none=>rfl
  | some x=>rfl
theorem zqo1 {op:Op} {l:List Operand} (h:zhf2 op=some l):∀x∈op.operands,x∈l:=by
  cases op with
  | call c=>
    obtain ⟨callee,args,ats⟩:=c
    cases callee with
    | value f=>cases h;intro x hx;simpa [Op.operands,Call.operands] using hx
    | builtin b=>cases h;intro x hx;simpa [Op.operands,Call.operands] using hx
    | invoke r m=>cases h
  | build t ps=>cases h;intro x hx;simpa [Op.operands,zyy1] using hx
  | buildSlice t n ps=>cases h;intro x hx;simpa [Op.operands,zyy1] using hx
  | makeFunc fn a b=>cases h;intro x hx;simpa [Op.operands,zjo1] using hx
  | makeMap t r=>cases h;intro x hx;simpa [Op.operands,zia2] using hx
  | slice t x lo hi mx=>cases h;intro x hx;simpa [Op.operands,zjo1,zia2,or_assoc] using hx
  | alloc t=>cases h;intro x hx;simp [Op.operands] at hx
  | _=>first | (cases h;done) | (cases h;intro x hx;simpa [Op.operands] using hx)
theorem zqp1 {rows:List (List Nat)} {i t:Nat}:∀ {l:List Oper} {j0:Nat},zqf1 rows i t l j0=true->∀j p,l[j]? =some p->p.dst=some t->
    j0+j∈zce rows i\/i=j0+j\/i∈zce rows (j0+j)
  | [],_,_,j,p,e,_=>by simp at e
  | q::l,j0,h,j,p,e,hd=>by
    simp only [zqf1] at h
    cases h1:(cond (dstIs q t) (cond (has (zce rows i) j0) true (cond (Nat.beq i j0) true (has (zce rows j0) i))) true) with
    | false=>grind
    | true=>
      rw [h1] at h
      cases j with
      | zero=>
        simp at e
        subst e
        have:dstIs q t=true:=by simp [dstIs,hd]
        rw [this] at h1
        simp only [cond_true] at h1
        cases h2:has (zce rows i) j0 with
        | true=>exact .inl ((zhw _ _).1 h2)
        | false=>
          rw [h2] at h1
          simp only [cond_false] at h1
          cases h3:Nat.beq i j0 with
          | true=>exact .inr (.inl (Nat.eq_of_beq_eq_true h3))
          | false=>
            rw [h3] at h1
            exact .inr (.inr ((zhw _ _).1 h1))
      | succ j=>
        have:=zqp1 (l:=l) (j0:=j0+1) h j p (by simpa using e) hd
        grind
theorem zcu1 {L:List Oper} {rows:List (List Nat)} {i t:Nat}:∀ {l:List Operand},looksOk.go L rows i l=true->Operand.tmp t∈l->zqf1 rows i t L 0=true
  | [],_,hm=>by cases hm
  | x::l,h,hm=>by
    cases x with
    | tmp u=>
      simp only [looksOk.go] at h
      cases h1:zqf1 rows i u L 0 with
      | false=>simp [h1] at h
      | true=>
        simp only [h1,cond_true] at h
        rcases List.mem_cons.1 hm with e | hm
        · cases e;exact h1
        · exact zcu1 h hm
    | _=>
      simp only [looksOk.go] at h
      rcases List.mem_cons.1 hm with e | hm
      · cases e
      · exact zcu1 h hm
theorem zek2 {L:List Oper} {rows:List (List Nat)} {i t:Nat} {o:Oper} (h:looksOk L rows i o=true) (hm:Operand.tmp t∈o.op.operands) {j:Nat} {p:Oper} (hj:L[j]? =some p) (hd:p.dst=some t):
    j∈zce rows i\/i=j\/i∈zce rows j:=by
  unfold looksOk at h
  split at h
  · rename_i l hl
    cases h1:looksOk.go L rows i l with
    | false=>simp [h1] at h
    | true=>
      have:=zqp1 (zcu1 h1 (zqo1 hl _ hm)) j p hj hd
      simpa using this
  · cases h
theorem zcv1 {L:List Oper} {rows:List (List Nat)} {i j:Nat} {b:Bool} {o:Oper} (h:looksOk L rows i o=true) (hg:o.guard=some (j,b)):j∈zce rows i:=by
  unfold looksOk at h
  split at h
  · rename_i l hl
    cases h1:looksOk.go L rows i l with
    | false=>simp [h1] at h
    | true=>
      simp only [h1,cond_true,hg] at h
      exact (zhw _ _).1 h
  · cases h
theorem zyz1 {o:Oper} {t:Nat} (hm:Operand.tmp t∈o.op.operands):looksAt o t=true:=by
  unfold looksAt
  split
  · rename_i l hl
    have hm':=zqo1 hl _ hm
    clear hl hm
    induction l with
    | nil=>cases hm'
    | cons x l ih=>
      rcases List.mem_cons.1 hm' with e | hm'
      · subst e;simp [looksAt.go]
      · have:=ih hm'
        cases x<;>simp only [looksAt.go]
        · rw [this];simp
        all_goals exact this
  · rfl
theorem zme1 {rows:List (List Nat)} {j d:Nat} {o:Oper} (hd:o.dst=some d):∀ {l:List Oper} {i0:Nat},isWar rows j o l i0=false->∀i p,l[i]? =some p->Operand.tmp d∈p.op.operands->j∈zce rows (i0+i)
  | [],_,_,i,p,e,_=>by simp at e
  | q::l,i0,h,i,p,e,hm=>by
    simp only [isWar,hd] at h
    cases h1:(cond (looksAt q d) (cond (has (zce rows i0) j) false true) false) with
    | true=>grind
    | false=>
      rw [h1] at h
      cases i with
      | zero=>
        simp at e
        subst e
        rw [zyz1 hm] at h1
        simp only [cond_true] at h1
        cases h2:has (zce rows i0) j with
        | true=>exact (zhw _ _).1 h2
        | false=>grind
      | succ i=>
        have:=zme1 hd (l:=l) (i0:=i0+1) h i p (by simpa using e) hm
        grind
theorem zpl {tb:Tb} {priv:List Nat} {ops:List Oper} {rows:List (List Nat)} {i:Nat} {ws:List Nat} {r:List (Nat×List Nat)} {done:List Nat} {last:Option Nat}
    (h:planGo tb priv ops rows ((i,ws)::r) done last=true):∃o,ops[i]? =some o/\(∀k∈waits o,k∈done)/\looksOk ops rows i o=true/\i∉done/\(∀e,last=some e->e∈zce rows i)/\
      (((isVal tb o=true\/zam priv o=true)/\isWar rows i o ops 0=false/\planGo tb priv ops rows r (i::done) last=true)\/
       ((isVal tb o=true\/zam priv o=true)/\isWar rows i o ops 0=true/\planGo tb priv ops rows r (i::done) (some i)=true)\/
       (isVal tb o=false/\zam priv o=false/\planGo.watched tb ops rows ws i done=true/\planGo tb priv ops rows r (i::done) (some i)=true)):=by
  simp only [planGo] at h
  split at h
  · rename_i o ho
    rw [zda] at ho
    obtain ⟨h12,h⟩:=condT h
    obtain ⟨h1,h2⟩:=condT h12
    cases h3:has done i with
    | true=>simp [h3] at h
    | false=>
      simp only [h3,cond_false] at h
      obtain ⟨h4,h⟩:=condT h
      refine ⟨o,ho,zta h1,h2,zlb h3,fun e he=> ?_,?_⟩
      · subst he
        exact (zhw _ _).1 h4
      grind
  · cases h
theorem zmf1 {tb:Tb} {ops:List Oper} {rows:List (List Nat)} {ws:List Nat} {e:Nat}:∀ {l:List Nat},planGo.watched tb ops rows ws e l=true->∀i∈l,∀o,ops[i]? =some o->isVal tb o=true->zjn1 tb o=true->
    i∈ws\/i∈zce rows e
  | [],_,i,hi,_,_,_,_=>by cases hi
  | r::l,h,i,hi,o,ho,hv,hrd=>by
    simp only [planGo.watched] at h
    obtain ⟨h2,h⟩:=condT h
    rcases List.mem_cons.1 hi with rfl | hi
    · rw [zda,ho] at h2
      simp only [hv,hrd,cond_true] at h2
      cases h3:has ws i with
      | true=>exact .inl ((zhw _ _).1 h3)
      | false=>
        rw [h3] at h2
        exact .inr ((zhw _ _).1 h2)
    · exact zmf1 h i hi o ho hv hrd
theorem zqq1 {tb:Tb} {priv:List Nat} {L:List Oper}:∀ {r:List (Nat×List Nat)} {done:List Nat} {e:Nat},planGo tb priv L (aheads L []) r done (some e)=true->
    ∀j∈r.map (·.1),Ahead L j e
  | [],_,_,_,j,hj=>by cases hj
  | (i,ws)::r,done,e,h,j,hj=>by
    obtain ⟨o,ho,_,_,_,hlast,hc⟩:=zpl h
    have hie:=zil (hlast e rfl)
    rcases List.mem_cons.1 hj with rfl | hj
    · exact hie
    · have step:∀e',(e'=e\/e'=i)->planGo tb priv L (aheads L []) r (i::done) (some e')=true->Ahead L j e:=by
        intro e' he' h'
        have h1:=zqq1 h' j hj
        rcases he' with rfl | rfl
        · exact h1
        · intro X hX hw
          have hXi:X e':=h1 X hX hw
          exact hie X hX fun o' ho' k hk=>hX e' o' ho' hXi k hk
      grind
def LdSh (tb:Tb) (o:Oper) (ch:Chain) (s:St) (l:LV):Prop:=
  kindD tb o ch s=.mem->∀t x,o.op=.load t x->∃(e:Ty) (y:e.sh.T),tb.ty t=some e/\l=.v (e.sh.enc y)
theorem zib2 {P:Program} {tb:Tb} (ok:tb.Ok P) {o:Oper} {ch:Chain} {s:St} {h:Hp} {K:LV->Prop} (hv:valW P tb o ch s h K):
    ∃l,K l/\(holds s ch->RunsK (kindD tb o ch s) P o s h l)/\Prov o ch s l/\LdSh tb o ch s l:=by
  by_cases hl:∃t x a,o.op=.load t x/\ev s ch x=some (.v (.pointer (some a)))
  · obtain ⟨t,x,a,hop,hx⟩:=hl
    unfold valW at hv
    simp only [hop,hx] at hv
    split at hv
    · rename_i e hte
      obtain ⟨y,hr,hk⟩:=hv
      refine ⟨.v (e.sh.enc y),hk,fun hh=> ?_,zvj1 _ _ _ _,fun _ t' x' e'=> ?_⟩
      · intro β ρ w ho hs hb
        have hkd:kindD tb o ch s=.mem:=by simp [kindD,hop,hx]
        have hx':=ev_ok (ho x (by simp [hop,Op.operands])) hh hx
        have hr':=zud ok hte (fun j v hj=>zhv (hs hkd) (zdx hr hh j v hj))
        refine ⟨w,?_,fun _=>rfl,fun e=>.refl (hs e)⟩
        simp only [execOp,hop,hx',LVal,Instr.loadAt,Instr.sureAddr,Sem.run_bind,Sem.run_pure,Result.andThen_ok,hr']
      grind
    · exact hv.elim
  · obtain ⟨l,hk,hr,hp⟩:=zqk1 ok hv
    refine ⟨l,hk,hr,hp,fun hkd t x hop=> ?_⟩
    refine absurd ?_ hl
    unfold valW at hv
    simp only [hop] at hv
    simp only [kindD,hop] at hkd
    grind
def PFact (C:Ctx) (L:List Oper) (o:Oper) (s:St) (h:Hp):Prop:=
  ∃ch,zev L L.length o=some ch/\zla s ch=true/\
    ((isVal C.tb o=true/\(zjn1 C.tb o=true\/kindD C.tb o ch s=.pure)/\∃l,(∀d,o.dst=some d->s.f d=some (l,ch))/\(holds s ch->RunsK (kindD C.tb o ch s) C.P o s h l)/\Prov o ch s l/\LdSh C.tb o ch s l)\/
     (ch=[]/\isVal C.tb o=false/\∃d cs,privA C.priv o d/\s.f d=some (.box d 0,[])/\s.m d=some cs/\
        ∀(β:Nat->Nat) (ρ:Operand->Value) (w:World),(∀x∈o.op.operands,Opnd β s ρ x)->
          ∃t,(execOp ρ o).run C.P w=.ok (.value (.pointer (some ⟨w.heap.size,0,none⟩))) {w with heap:=w.heap.push (.cells cs.toArray t (0,0))}))
section
variable {C:Ctx} {L:List Oper} {o:Oper} {s s':St} {h h':Hp} {D:Nat->Prop}
structure Like (D:Nat->Prop) (o:Oper) (s s':St):Prop where
  dn:∀t,D t->s'.f t=s.f t
  op:∀t,Operand.tmp t∈o.op.operands->s'.f t=s.f t
  ch:∀t l c,s.f t=some (l,c)->∀p∈c,D p.1
theorem Like.holds' (k:Like D o s s') {c:Chain} (hc:∀p∈c,D p.1):holds s' c↔holds s c:=zcs1 fun p hp=>k.dn _ (hc p hp)
theorem Like.opnd (k:Like D o s s') {β:Nat->Nat} {ρ:Operand->Value} {x:Operand} (hx:x∈o.op.operands) (ho:Opnd β s' ρ x):Opnd β s ρ x:=by
  cases x with
  | tmp t=>exact fun l c e hc=>ho l c (by rw [k.op t hx];exact e) ((k.holds' (k.ch t l c e)).2 hc)
  | const v=>exact ho
  | global g=>exact ho
  | func f=>exact ho
theorem Like.ev' (k:Like D o s s') {ch:Chain} {x:Operand} (hx:x∈o.op.operands):ev s' ch x=ev s ch x:=by
  cases x with
  | tmp t=>simp only [ev,k.op t hx]
  | const v=>rfl
  | global g=>rfl
  | func f=>rfl
theorem zqr1 {s s':St} {ch:Chain}:∀ {l:List Operand},(∀x∈l,ev s' ch x=ev s ch x)->vals s' ch l=vals s ch l
  | [],_=>rfl
  | x::l,h=>by
    simp only [vals]
    rw [h x (List.mem_cons_self ..),zqr1 fun y hy=>h y (List.mem_cons_of_mem _ hy)]
theorem Like.kind (k:Like D o s s') {tb:Tb} {ch:Chain}:kindD tb o ch s'=kindD tb o ch s:=by
  unfold kindD
  cases hop:o.op with
  | load t x=>simp only [k.ev' (ch:=ch) (x:=x) (by simp [hop,Op.operands])]
  | binOp op t x y u=>simp only [k.ev' (ch:=ch) (x:=x) (by simp [hop,Op.operands]),k.ev' (ch:=ch) (x:=y) (by simp [hop,Op.operands])]
  | convert a b x=>simp only [k.ev' (ch:=ch) (x:=x) (by simp [hop,Op.operands])]
  | call c=>
    obtain ⟨callee,xs,ts⟩:=c
    cases callee with
    | builtin b=>
      cases b with
      | len=>
        have:vals s' ch xs.toList=vals s ch xs.toList:=zqr1 fun x hx=>k.ev' (by simp [hop,Op.operands,Call.operands];simpa using hx)
        simp only [this]
      | _=>rfl
    | _=>rfl
  | _=>rfl
theorem Like.prov (k:Like D o s s') {ch:Chain} {l:LV} (hp:Prov o ch s l):Prov o ch s' l:=fun b off e=>by
  obtain ⟨x,hx,off',h⟩:=hp b off e
  exact ⟨x,hx,off',by rw [k.ev' hx];exact h⟩
theorem zri (k:Like D o s s'):∀ {ch:Chain},(∀p∈ch,D p.1)->zla s' ch=zla s ch
  | [],_=>rfl
  | (d,b)::c,hc=>by
    simp only [zla,k.dn d (hc (d,b) (List.mem_cons_self ..)),zri k fun p hp=>hc p (List.mem_cons_of_mem _ hp)]
theorem zic2 (k:Like D o s s') {β:Nat->Nat} {w:World} (hm:∀t,Operand.tmp t∈o.op.operands->∀b off c,(s.f t=some (.box b off,c)\/s.f t=some (.boxd b off,c))->holds s c->s'.m b=s.m b)
    (hb:BoxU β s' o w):BoxU β s o w:=by
  intro t ht b off c hf hc cs hcs
  refine hb t ht b off c (by rw [k.op t ht];exact hf) ?_ cs (by grind)
  rcases hf with hf | hf
  · exact (k.holds' (k.ch t _ c hf)).2 hc
  · exact (k.holds' (k.ch t _ c hf)).2 hc
theorem ztb (k:Like D o s s') {kd:Kd} {P:Program} {l:LV} (hm:kd≠ .pure->∀t,Operand.tmp t∈o.op.operands->∀b off c,(s.f t=some (.box b off,c)\/s.f t=some (.boxd b off,c))->holds s c->s'.m b=s.m b)
    (hh:kd=.mem->h'=h) (hr:RunsK kd P o s h l):RunsK kd P o s' h' l:=by
  intro β ρ w ho hs hb
  obtain ⟨w',h1,h2,h3⟩:=hr β ρ w (fun x hx=>k.opnd hx (ho x hx)) (fun e=>by rw [<-hh e];exact hs e) (fun e=>zic2 k (hm e) (hb e))
  grind
theorem zgx1 (k:Like D o s s') {P:Program} {cs:List Value}
    (hr : ∀ (β : Nat -> Nat) (ρ : Operand -> Value) (w : World), (∀ x ∈ o.op.operands, Opnd β s ρ x) ->
          ∃t,(execOp ρ o).run P w=.ok (.value (.pointer (some ⟨w.heap.size,0,none⟩))) {w with heap:=w.heap.push (.cells cs.toArray t (0,0))}):
    ∀ (β : Nat -> Nat) (ρ : Operand -> Value) (w : World), (∀ x ∈ o.op.operands, Opnd β s' ρ x) ->
          ∃t,(execOp ρ o).run P w=.ok (.value (.pointer (some ⟨w.heap.size,0,none⟩))) {w with heap:=w.heap.push (.cells cs.toArray t (0,0))}:=
  fun β ρ w ho=>hr β ρ w fun x hx=>k.opnd hx (ho x hx)
theorem zsk1 {s:St} {ch:Chain} {t:Nat} {l l':LV} {c:Chain} (h:ev s ch (.tmp t)=some l) (hf:s.f t=some (l',c)):l=l':=by
  simp only [ev,hf] at h
  grind
theorem zza1 {tb:Tb} (hC:C.tb=tb) (ok:tb.Ok C.P) {mch:Nat->Bool} {ch:Chain} {l:LV} {d:Nat} (ha:Again C mch o ch s' h') (hd:o.dst=some d) (hf:∃c,s'.f d=some (l,c)) (hh:holds s' ch)
    (hs:LdSh tb o ch s' l):kindD tb o ch s'=.pure\/(kindD tb o ch s'=.box/\∀t b off c,Operand.tmp t∈o.op.operands->(s'.f t=some (.box b off,c)\/s'.f t=some (.boxd b off,c))->mch b=false)\/(kindD tb o ch s'=.mem/\RunsK .mem C.P o s' h' l):=by
  subst hC
  obtain ⟨c,hf⟩:=hf
  unfold Again at ha
  split at ha
  · rename_i t x d' hop hd'
    rw [hd] at hd';cases hd'
    rw [hf] at ha
    split at ha
    · rename_i v c' e
      cases e
      split at ha
      · rename_i a hx
        right;right
        have hkd:kindD C.tb o ch s'=.mem:=by simp [kindD,hop,hx]
        obtain ⟨e,y,hte,hl⟩:=hs hkd t x hop
        cases hl
        refine ⟨hkd,fun β ρ w ho hs hb=> ?_⟩
        have hx':=ev_ok (ho x (by simp [hop,Op.operands])) hh hx
        have hr:=zud ok hte (fun j v hj=>zhv (hs rfl) (zdx ha hh j v hj))
        refine ⟨w,?_,fun e=>absurd rfl e,fun _=>.refl (hs rfl)⟩
        simp only [execOp,hop,hx',LVal,Instr.loadAt,Instr.sureAddr,Sem.run_bind,Sem.run_pure,Result.andThen_ok,hr]
      · rename_i k off hx
        cases hm:mch k with
        | true=>rw [hm] at ha;exact ha.elim
        | false=>
          refine .inr (.inl ⟨by simp [kindD,hop,hx],fun t1 b off1 c1 ht hf1=> ?_⟩)
          have hx1:x=.tmp t1:=by simpa [hop,Op.operands,eq_comm] using ht
          rw [hx1] at hx
          rcases hf1 with hf1 | hf1
          · have:=zsk1 hx hf1
            cases this
            exact hm
          · have:=zsk1 hx hf1
            cases this
      · rename_i k off hx
        cases hm:mch k with
        | true=>rw [hm] at ha;exact ha.elim
        | false=>
          refine .inr (.inl ⟨by simp [kindD,hop,hx],fun t1 b off1 c1 ht hf1=> ?_⟩)
          have hx1:x=.tmp t1:=by simpa [hop,Op.operands,eq_comm] using ht
          rw [hx1] at hx
          rcases hf1 with hf1 | hf1
          · have:=zsk1 hx hf1
            cases this
          · have:=zsk1 hx hf1
            cases this
            exact hm
      · exact ha.elim
    · exact ha.elim
  · rename_i t x i cok d' hop hd'
    rw [hd] at hd';cases hd'
    rw [hf] at ha
    split at ha
    · rename_i v c' e
      cases e
      obtain ⟨a,hea,ha1⟩:=zas ha
      obtain ⟨b,heb,ha2⟩:=zas ha1
      have hl:=zdx ha2 hh
      right;right
      have main:∀w,Sub h' w->∃w',(Instr.lookup t a b cok).run C.P w=.ok v w'/\Step h' h' w w':=by
        intro w hsub
        unfold zvg1 at hl
        split at hl
        · rename_i m e he
          split at hl
          · rename_i k u hu
            split at hl
            · rename_i ke ue hk hue
              cases hkd:zop ke.und with
              | true=>
                simp only [hkd,cond_true] at hl
                cases cok with
                | true=>
                  simp only [cond_true] at hl
                  split at hl
                  · rename_i x1 y1
                    exact ⟨w,by rw [zai1 ok he hu hk hue hkd hsub hl];rfl,.refl hsub⟩
                  · exact hl.elim
                | false=>
                  simp only [cond_false] at hl
                  obtain ⟨y1,hl⟩:=hl
                  exact ⟨w,by rw [zai1 ok he hu hk hue hkd hsub hl];rfl,.refl hsub⟩
              | false=>
                simp only [hkd,cond_false] at hl
                exact zlu1 hl hsub
            · exact hl.elim
          · exact hl.elim
        · exact hl.elim
      refine ⟨by simp [kindD,hop],fun β ρ w ho hs hb=> ?_⟩
      have hx:=ev_ok (ho x (by simp [hop,Op.operands])) hh hea
      have hi:=ev_ok (ho i (by simp [hop,Op.operands])) hh heb
      obtain ⟨w',hr,hst⟩:=main w (hs rfl)
      refine ⟨w',?_,fun e=>absurd rfl e,fun _=>hst⟩
      simp only [execOp,hop,hx,hi,LVal,Sem.run_bind,hr,Result.andThen_ok,Sem.run_pure]
    · exact ha.elim
  · rename_i xs ts d' hop hd'
    rw [hd] at hd';cases hd'
    rw [hf] at ha
    split at ha
    · rename_i v c' e
      cases e
      split at ha
      · rename_i x hvs
        have hkd:kindD C.tb o ch s'=.pure\/kindD C.tb o ch s'=.mem:=by
          unfold kindD
          grind
        rcases hkd with hkd | hkd
        · exact .inl hkd
        right;right
        refine ⟨hkd,fun β ρ w ho hs hb=> ?_⟩
        have hargs:xs.map ρ= #[x]:=by
          have:=zue (β:=β) (ρ:=ρ) hh hvs fun x hx=>ho x (by simp [hop,Op.operands,Call.operands];simpa using hx)
          grind
        obtain ⟨w',hr,hst⟩:=zlu1 (zdx ha hh) (hs rfl)
        refine ⟨w',?_,fun e=>absurd rfl e,fun _=>hst⟩
        simp only [execOp,hop,resolve,invoke,builtin,Sem.run_bind,Sem.run_pure,Result.andThen_ok,hargs,hr,LVal]
      · exact ha.elim
    · exact ha.elim
  · exact ha.elim
end
theorem zid2 (e:Edge):zag1 e=Region.binds .any e:=by
  unfold Region.binds zag1
  grind
theorem zie2 {o:Oper} {k:Nat} (h:k∈waits o):∃e∈o.after,e.on=k/\Region.binds .any e=true:=by
  have key:∀l:List Edge,k∈waits.go l->∃e∈l,e.on=k/\Region.binds .any e=true:=by
    intro l
    induction l with
    | nil=>intro h;cases h
    | cons x l ih=>
      intro h
      simp only [waits.go] at h
      cases hx:zag1 x with
      | false=>
        simp only [hx,cond_false] at h
        obtain ⟨e,h1,h2⟩:=ih h
        exact ⟨e,List.mem_cons_of_mem _ h1,h2⟩
      | true=>
        simp only [hx,cond_true] at h
        rcases List.mem_cons.1 h with e | h
        · exact ⟨x,List.mem_cons_self ..,e.symm,by rw [<-zid2,hx]⟩
        · obtain ⟨e,h1,h2⟩:=ih h
          exact ⟨e,List.mem_cons_of_mem _ h1,h2⟩
  obtain ⟨e,h1,h2⟩:=key _ h
  grind
theorem zld {t:Nat}:∀ {L:List Oper} {i j:Nat} {o p:Oper},(modsO L).Nodup->L[i]? =some o->L[j]? =some p->o.dst=some t->p.dst=some t->i=j
  | [],_,_,_,_,_,e,_,_,_=>by simp at e
  | x::L,0,0,_,_,_,_,_,_,_=>rfl
  | x::L,0,j+1,o,p,hn,e,e',h,h'=>by
    simp at e e'
    subst e
    simp only [modsO,h] at hn
    exact absurd (zju (List.mem_of_getElem? e') h') (List.nodup_cons.1 hn).1
  | x::L,i+1,0,o,p,hn,e,e',h,h'=>by
    simp at e e'
    subst e'
    simp only [modsO,h'] at hn
    exact absurd (zju (List.mem_of_getElem? e) h) (List.nodup_cons.1 hn).1
  | x::L,i+1,j+1,o,p,hn,e,e',h,h'=>by
    have hn':(modsO L).Nodup:=by
      simp only [modsO] at hn
      grind
    have e1:L[i]? =some o:=by simpa using e
    have e2:L[j]? =some p:=by simpa using e'
    have:=zld hn' e1 e2 h h'
    omega
def Topo (L:List Oper):List Nat->Prop
  | []=>True
  | i::d=>(∀o,L[i]? =some o->∀k∈waits o,k∈d)/\Topo L d
theorem zal1 {L:List Oper} {ls:List Nat}:∀ {d:List Nat},Topo L d->(∃i∈d,i∉ls)->∃i∈d,i∉ls/\∀o,L[i]? =some o->∀k∈waits o,k∈ls
  | [],_,⟨i,hi,_⟩=>by cases hi
  | i::d,ht,hx=>by
    by_cases hd:∃j∈d,j∉ls
    · obtain ⟨j,h1,h2⟩:=zal1 ht.2 hd
      grind
    · have hall:∀j∈d,j∈ls:=fun j hj=>Classical.byContradiction fun e=>hd ⟨j,hj,e⟩
      obtain ⟨j,hj,hn⟩:=hx
      rcases List.mem_cons.1 hj with rfl | hj
      · exact ⟨j,List.mem_cons_self ..,hn,fun o ho k hk=>hall k (ht.1 o ho k hk)⟩
      grind
def CurP (L:List Oper) (done ls:List Nat) (t:Nat):Prop:=∀i o,i∈done->i∉ls->L[i]? =some o->o.dst≠some t
def DnP (L:List Oper) (done:List Nat) (t:Nat):Prop:=∃i o,i∈done/\L[i]? =some o/\o.dst=some t
def NnP (C:Ctx) (L:List Oper) (done:List Nat) (k:Nat):Prop:=∃i o,i∉done/\L[i]? =some o/\privA C.priv o k
def LivP (C:Ctx) (L:List Oper) (done ls:List Nat) (k:Nat):Prop:=(∀i o,i∈done->i∉ls->L[i]? =some o->¬privA C.priv o k)/\¬NnP C L done k
structure Sim (C:Ctx) (L:List Oper) (mok:List Nat) (n:Nat) (lv0:Nat->Prop) (β0:Nat->Nat) (a0:Act) (h0:Hp) (w0:World) (done ls:List Nat) (listed:Array Bool) (β:Nat->Nat) (s:St) (a:Act) (h:Hp) (w:World):Prop where
  lsz:listed.size=L.length
  lst:∀i,listed.getD i false=true↔i∈ls
  lnd:ls.Nodup
  lsub:∀i∈ls,i∈done
  dlt:∀i∈done,i<L.length
  clos:Clos L (· ∈ls)
  dclos:Clos L (· ∈done)
  topo:Topo L done
  rr:RR n (CurP L done ls) (LivP C L done ls) (DnP L done) (NnP C L done) β s a h w
  facts:∀i o,i∈done->i∉ls->L[i]? =some o->PFact C L o s h/\looksOk L (aheads L []) i o=true/\isWar (aheads L []) i o L 0=false/\∀d,privA C.priv o d->d∈mok
  seg:Seg (modsO L) mok lv0 β0 a0 h0 w0 (live s (LivP C L done ls)) β a h w
section
variable {C:Ctx} {L:List Oper} {mok:List Nat} {n:Nat} {lv0:Nat->Prop} {β0:Nat->Nat} {a0:Act} {h0:Hp} {w0:World} {done ls:List Nat} {listed:Array Bool} {β:Nat->Nat} {s:St} {a:Act} {h:Hp} {w:World}
theorem zld1 {i:Nat} {o p:Oper} (h:L[i]? =some o) (h':L[i]? =some p):p=o:=by grind
theorem zmg1 (hnd:(modsO L).Nodup) {i:Nat} {o:Oper} (hi:L[i]? =some o) (hd:i∈done) (t:Nat):CurP L done (i::ls) t↔(o.dst=some t\/CurP L done ls t):=by
  constructor
  · intro hc
    by_cases ht:o.dst=some t
    · exact .inl ht
    · refine .inr fun j p h1 h2 h3=> ?_
      by_cases hj:j=i
      · grind
      · exact hc j p h1 (fun e=>by grind) h3
  · rintro (ht | hc) j p h1 h2 h3
    · intro e
      exact h2 (by rw [zld hnd h3 hi e ht];simp)
    · exact hc j p h1 (fun e=>h2 (List.mem_cons_of_mem _ e)) h3
theorem zmh1 (hnd:(modsO L).Nodup) {i:Nat} {o:Oper} (hi:L[i]? =some o) (hd:i∈done) (k:Nat):LivP C L done (i::ls) k↔(privA C.priv o k\/LivP C L done ls k):=by
  constructor
  · rintro ⟨h1,h2⟩
    by_cases hp:privA C.priv o k
    · exact .inl hp
    · refine .inr ⟨fun j p e1 e2 e3=> ?_,h2⟩
      grind
  · rintro (hp | ⟨h1,h2⟩)
    · refine ⟨fun j p e1 e2 e3 e4=>e2 (by rw [zld hnd e3 hi e4.2 hp.2];simp),?_⟩
      rintro ⟨j,p,e1,e2,e3⟩
      exact e1 (by rw [zld hnd e2 hi e3.2 hp.2];exact hd)
    · exact ⟨fun j p e1 e2 e3=>h1 j p e1 (fun e=>e2 (List.mem_cons_of_mem _ e)) e3,h2⟩
theorem zqs1 {i j:Nat} (hsz:listed.size=L.length) (hi:i<L.length) (hl:∀i,listed.getD i false=true↔i∈ls):(listed.setIfInBounds i true).getD j false=true↔j∈i::ls:=by
  by_cases hj:j=i
  · subst hj
    simp [hsz,hi]
  · have:=hl j
    simp [Array.getElem?_setIfInBounds_ne (Ne.symm hj),hj] at this ⊢
    exact this
theorem zzb1 (hs:Sim C L mok n lv0 β0 a0 h0 w0 done ls listed β s a h w) {i:Nat} {o:Oper} (hi:L[i]? =some o) (hw:∀k∈waits o,k∈done) (hlk:looksOk L (aheads L []) i o=true) {ch:Chain}
    (hch:zev L L.length o=some ch) (hg:zla s ch=true):∀p∈ch,DnP L done p.1:=
  zhw2 hs.rr hch hg fun j b p d e1 e2 e3=>⟨j,p,zil (zcv1 hlk e1) (· ∈done) hs.dclos (fun o' ho'=>by grind),by rw [<-zda];exact e2,e3⟩
theorem zmi1 (ok:C.tb.Ok C.P) {ops:Array Oper} (hops:ops.toList=L) (hnd:(modsO L).Nodup)
    (hs:Sim C L mok n lv0 β0 a0 h0 w0 done ls listed β s a h w) {i:Nat} {o:Oper} (hi:L[i]? =some o) (hd:i∈done) (hn:i∉ls) (hw:∀k∈waits o,k∈ls)
    (next:Act->World->Prop) (Q:Exit->Act->World->Prop)
    (hk:∀β' a' w',Sim C L mok n lv0 β0 a0 h0 w0 done (i::ls) (listed.setIfInBounds i true) β' s a' h w'->next a' w'):wpOp C.P ops Q i next a w:=by
  obtain ⟨⟨ch,hch,hg,hpf⟩,hlk,hwar,hmm⟩:=hs.facts i o hd hn hi
  have hah:∀j∈zce (aheads L []) i,j∈ls:=fun j hj=>zil hj (· ∈ls) hs.clos (fun o' ho'=>by grind)
  have hcur:∀t,Operand.tmp t∈o.op.operands->CurP L done ls t:=fun t ht j p h1 h2 h3 h4=>by
    have:=zme1 h4 (hs.facts j p h1 h2 h3).2.2.1 i o hi ht
    grind
  have hgc:∀j b p d,o.guard=some (j,b)->nth L j=some p->p.dst=some d->CurP L done ls d:=fun j b p d e1 e2 e3 j' p' h1 h2 h3 h4=>by
    rw [zda] at e2
    have:=zld hnd h3 e2 h4 e3
    subst this
    exact h2 (hah _ (zcv1 hlk e1))
  have hopnd:∀x∈o.op.operands,Opnd β s a.eval x:=fun x hx=>zyw1 hs.rr fun t e=>hcur t (e▸hx)
  have hw':=zqn1 (ops:=ops) hs.rr (by rw [hops];exact hch) hg (by grind)
  have hoi:ops[i]? =some o:=by grind
  have hilt:i<L.length:=hs.dlt i hd
  have hncur:∀d,o.dst=some d->¬CurP L done ls d:=fun d e hc=>hc i o hd hn hi e
  have fin:∀β' a' w',RR n (CurP L done (i::ls)) (LivP C L done (i::ls)) (DnP L done) (NnP C L done) β' s a' h w'->Seg (modsO L) mok (live s (LivP C L done ls)) β a h w (live s (LivP C L done (i::ls))) β' a' h w'->next a' w':=by
    intro β' a' w' hr hsg
    refine hk β' a' w' ⟨by simpa using hs.lsz,fun j=>zqs1 hs.lsz hilt hs.lst,List.nodup_cons.2 ⟨hn,hs.lnd⟩,fun j hj=> ?_,hs.dlt,?_,hs.dclos,hs.topo,hr,fun j p h1 h2 h3=>hs.facts j p h1 (fun e=>h2 (List.mem_cons_of_mem _ e)) h3,hs.seg.trans hsg⟩
    · rcases List.mem_cons.1 hj with rfl | hj
      · exact hd
      · exact hs.lsub j hj
    · intro j p hj hjm k hk'
      rcases List.mem_cons.1 hjm with rfl | hjm
      · grind
      · exact List.mem_cons_of_mem _ (hs.clos j p hj hjm k hk')
  have hdl:∀d,o.dst=some d->d∈modsO L:=fun d e=>zju (List.mem_of_getElem? hi) e
  unfold wpOp
  simp only [hoi]
  rcases hpf with ⟨hval,_,l,hl,hrun,hprov,_⟩ | ⟨rfl,hval,d,cs,hp,hfd,hmd,hrun⟩
  · have hnp:∀k,¬privA C.priv o k:=zsi1 (zrg hval)
    have hliv:∀k,LivP C L done (i::ls) k↔LivP C L done ls k:=fun k=>by
      rw [zmh1 hnd hi hd k]
      grind
    have main:∀(v:Value) (w':World),Step h h w w'->(holds s ch->v=LVal β l)->(¬holds s ch->v=undef)->next (a.put o.dst v) w':=by
      intro v w' hst h1 h2
      refine fin β _ w' ?_ (((Seg.step hst).trans (Seg.put (lv:=live s (LivP C L done ls)) hdl)).mono (fun _ e=>e) (fun _ e=>e) (fun _ e=>e) (fun k e=>⟨e.1,(hliv k).1 e.2⟩))
      have hr:=hs.rr.step hst
      cases hdst:o.dst with
      | none=>exact hr.congr (fun t=>by rw [zmg1 hnd hi hd t];simp [hdst]) hliv (fun _ e=>e) (fun _ e=>e)
      | some d=>
        have:=hr.exec (v:=v) (hl d hdst) (hncur d hdst) (fun hh=>⟨h1 hh,fun k off e=>(zhx2 hs.rr hprov hh hcur k off e).1⟩) h2
        refine this.congr (fun t=> ?_) hliv (fun _ e=>e) (fun _ e=>e)
        rw [zmg1 hnd hi hd t,hdst]
        grind
    by_cases hh:holds s ch
    · rw [if_pos (hw'.2 hh)]
      left
      obtain ⟨w',hrw,hw1,hst⟩:=hrun hh β a.eval w hopnd (fun _=>hs.rr.sub) (fun _=>zhv2 hs.rr hcur)
      unfold Oper.wp
      rw [hrw]
      have hst':Step h h w w':=by
        cases hkd:kindD C.tb o ch s with
        | mem=>exact hst hkd
        | pure=>rw [hw1 (by rw [hkd];simp)];exact .refl hs.rr.sub
        | box=>rw [hw1 (by rw [hkd];simp)];exact .refl hs.rr.sub
      exact main _ w' hst' (fun _=>rfl) (fun e=>absurd hh e)
    · rw [if_neg (fun e=>hh (hw'.1 e))]
      exact main _ w (.refl hs.rr.sub) (fun e=>absurd e hh) (fun _=>rfl)
  · rw [if_pos (hw'.2 (holds_nil s))]
    left
    obtain ⟨t,hrw⟩:=hrun β a.eval w hopnd
    unfold Oper.wp
    rw [hrw]
    show next (a.put o.dst _) _
    have hnl:¬LivP C L done ls d:=fun e=>e.1 i o hd hn hi hp
    rw [hp.2]
    have hiff:∀k,privA C.priv o k↔k=d:=fun k=>⟨fun e=>by have:=e.2;rw [hp.2] at this;cases this;rfl,fun e=>e▸hp⟩
    refine fin _ _ _ ((hs.rr.execA t hfd hmd (hncur d hp.2) hnl).congr (fun t=> ?_) (fun k=> ?_) (fun _ e=>e) (fun _ e=>e)) ((segA (a:=a) (β:=β) t hs.rr.sub hmd hnl (hdl d hp.2) (hmm d hp)).mono (fun _ e=>e) (fun _ e=>e) (fun _ e=>e) (fun k e=>⟨e.1,?_⟩))
    · rw [zmg1 hnd hi hd t,hp.2]
      grind
    · rw [zmh1 hnd hi hd k,hiff]
    · have:=e.2
      rw [zmh1 hnd hi hd k,hiff] at this
      exact this
end
section
variable {C:Ctx} {L:List Oper} {mok:List Nat} {n:Nat} {lv0:Nat->Prop} {β0:Nat->Nat} {a0:Act} {h0:Hp} {w0:World} {done ls:List Nat} {listed:Array Bool} {β:Nat->Nat} {s:St} {a:Act} {h:Hp} {w:World}
theorem zel2 {D:Nat->Prop} {o:Oper} {s':St} (k:Like D o s s') (hD:∀ch,zev L L.length o=some ch->zla s ch=true->∀p∈ch,D p.1) (hdD:∀d,o.dst=some d->D d)
    (hm:∀t,Operand.tmp t∈o.op.operands->∀b off c,(s.f t=some (.box b off,c)\/s.f t=some (.boxd b off,c))->holds s c->s'.m b=s.m b) (hmd:∀d,privA C.priv o d->s'.m d=s.m d)
    (hp:PFact C L o s h):PFact C L o s' h:=by
  obtain ⟨ch,hch,hg,hpf⟩:=hp
  have hD:=hD ch hch hg
  refine ⟨ch,hch,by rw [zri k hD];exact hg,?_⟩
  rcases hpf with ⟨hval,hrd,l,hl,hrun,hprov,hsh⟩ | ⟨rfl,hval,d,cs,hpa,hfd,hmd',hrun⟩
  · refine .inl ⟨hval,by rw [k.kind];exact hrd,l,fun d e=>by rw [k.dn d (hdD d e)];exact hl d e,fun hh=> ?_,k.prov hprov,fun hkd=>hsh (by rw [<-k.kind (s':=s')];exact hkd)⟩
    rw [k.kind]
    exact ztb k (fun _=>hm) (fun _=>rfl) (hrun ((k.holds' hD).1 hh))
  · exact .inr ⟨rfl,hval,d,cs,hpa,by rw [k.dn d (hdD d hpa.2)];exact hfd,by grind,zgx1 k hrun⟩
theorem zcj2 (hnd:(modsO L).Nodup) (hs:Sim C L mok n lv0 β0 a0 h0 w0 done ls listed β s a h w) {i:Nat} {o:Oper} (hi:L[i]? =some o) (hnd':i∉done) {s':St} (hf:∀t,o.dst≠some t->s'.f t=s.f t)
    {j:Nat} {p:Oper} (hj:L[j]? =some p) (hjd:j∈done) (hno:∀t,Operand.tmp t∈p.op.operands->o.dst=some t->False):Like (DnP L done) p s s':=by
  refine ⟨fun t ht=>hf t fun e=> ?_,fun t ht=>hf t fun e=>hno t ht e,fun t l c e q hq=>hs.rr.chain t l c e q hq⟩
  obtain ⟨j',p',h1,h2,h3⟩:=ht
  have:=zld hnd h2 hi h3 e
  grind
theorem closD (hs:Sim C L mok n lv0 β0 a0 h0 w0 done ls listed β s a h w) {j:Nat} {p:Oper} (hj:L[j]? =some p) (hjd:j∈done) {i:Nat} (h:i∈zce (aheads L []) j):i∈done:=
  zil h (· ∈done) hs.dclos fun o' ho'=>hs.dclos j o' ho' hjd
theorem zqt1 (hnd:(modsO L).Nodup) (hs:Sim C L mok n lv0 β0 a0 h0 w0 done ls listed β s a h w) {i:Nat} {o:Oper} (hi:L[i]? =some o) (hid:i∉done) (hwar:isWar (aheads L []) i o L 0=false)
    {s':St} (hf:∀t,o.dst≠some t->s'.f t=s.f t) (hm:∀k,s'.m k=s.m k\/privA C.priv o k) {j:Nat} {p:Oper} (hjd:j∈done) (hjl:j∉ls) (hj:L[j]? =some p):
    PFact C L p s' h/\looksOk L (aheads L []) j p=true/\isWar (aheads L []) j p L 0=false/\∀d,privA C.priv p d->d∈mok:=by
  obtain ⟨h1,h2,h3⟩:=hs.facts j p hjd hjl hj
  refine ⟨?_,h2,h3⟩
  have k:Like (DnP L done) p s s':=zcj2 hnd hs hi hid hf hj hjd fun t ht e=>by
    have:=zme1 e hwar j p hj ht
    rw [Nat.zero_add] at this
    exact hid (closD hs hj hjd this)
  refine zel2 k (fun ch hch hg=>zzb1 hs hj (hs.dclos j p hj hjd) h2 hch hg) (fun d e=>⟨j,p,hjd,hj,e⟩) (fun t ht b off c hfb hh=> ?_) (fun d hp=> ?_) h1
  · refine (hm b).resolve_right fun hp=> ?_
    have hN:NnP C L done b:=⟨i,o,hid,hi,hp⟩
    rcases hfb with hfb | hfb
    · exact (hs.rr.nref b hN t _ c hfb hh off).1 rfl
    · exact (hs.rr.nref b hN t _ c hfb hh off).2 rfl
  · refine (hm d).resolve_right fun hp'=> ?_
    have:=zld hnd hi hj hp'.2 hp.2
    grind
theorem zvx1 (hs:Sim C L mok n lv0 β0 a0 h0 w0 done ls listed β s a h w) {i:Nat} {o:Oper} (hi:L[i]? =some o) (hid:i∉done) (hw:∀k∈waits o,k∈done) {s':St}
    (hr:RR n (CurP L (i::done) ls) (LivP C L (i::done) ls) (DnP L (i::done)) (NnP C L (i::done)) β s' a h w)
    (hfacts:∀j p,j∈i::done->j∉ls->L[j]? =some p->PFact C L p s' h/\looksOk L (aheads L []) j p=true/\isWar (aheads L []) j p L 0=false/\∀d,privA C.priv p d->d∈mok)
    (hseg:Seg (modsO L) mok lv0 β0 a0 h0 w0 (live s' (LivP C L (i::done) ls)) β a h w):Sim C L mok n lv0 β0 a0 h0 w0 (i::done) ls listed β s' a h w:=by
  refine ⟨hs.lsz,hs.lst,hs.lnd,fun j hj=>List.mem_cons_of_mem _ (hs.lsub j hj),fun j hj=> ?_,hs.clos,?_,⟨fun o' ho'=>by grind,hs.topo⟩,hr,hfacts,hseg⟩
  · rcases List.mem_cons.1 hj with rfl | hj
    · grind
    · exact hs.dlt j hj
  · intro j p hj hjm k hk
    rcases List.mem_cons.1 hjm with rfl | hjm
    · grind
    · exact List.mem_cons_of_mem _ (hs.dclos j p hj hjm k hk)
theorem zmj1 (hs:Sim C L mok n lv0 β0 a0 h0 w0 done ls listed β s a h w) {i:Nat} {o:Oper} (hi:L[i]? =some o) (hid:i∉done) (t:Nat):CurP L (i::done) ls t↔(o.dst≠some t/\CurP L done ls t):=by
  constructor
  · exact fun hc=>⟨hc i o (List.mem_cons_self ..) (fun e=>hid (hs.lsub i e)) hi,fun j p h1 h2 h3=>hc j p (List.mem_cons_of_mem _ h1) h2 h3⟩
  · rintro ⟨h1,h2⟩ j p e1 e2 e3
    rcases List.mem_cons.1 e1 with rfl | e1
    · grind
    · exact h2 j p e1 e2 e3
theorem zrj (hnd:(modsO L).Nodup) {i:Nat} {o:Oper} (hi:L[i]? =some o) (hid:i∉done) (k:Nat):NnP C L (i::done) k↔(¬privA C.priv o k/\NnP C L done k):=by
  constructor
  · rintro ⟨j,p,h1,h2,h3⟩
    refine ⟨fun e=> ?_,j,p,fun e=>h1 (List.mem_cons_of_mem _ e),h2,h3⟩
    exact h1 (by rw [zld hnd h2 hi h3.2 e.2];simp)
  · rintro ⟨h0,j,p,h1,h2,h3⟩
    refine ⟨j,p,fun e=> ?_,h2,h3⟩
    grind
theorem zex1 (hnd:(modsO L).Nodup) (hs:Sim C L mok n lv0 β0 a0 h0 w0 done ls listed β s a h w) {i:Nat} {o:Oper} (hi:L[i]? =some o) (hid:i∉done) (k:Nat):
    LivP C L (i::done) ls k↔(¬privA C.priv o k/\LivP C L done ls k):=by
  constructor
  · rintro ⟨h1,h2⟩
    have hp:¬privA C.priv o k:=h1 i o (List.mem_cons_self ..) (fun e=>hid (hs.lsub i e)) hi
    exact ⟨hp,fun j p e1 e2 e3=>h1 j p (List.mem_cons_of_mem _ e1) e2 e3,fun e=>h2 ((zrj hnd hi hid k).2 ⟨hp,e⟩)⟩
  · rintro ⟨hp,h1,h2⟩
    refine ⟨fun j p e1 e2 e3=> ?_,fun e=>h2 ((zrj hnd hi hid k).1 e).2⟩
    grind
theorem zle1 {i:Nat} (t:Nat) (h:DnP L done t):DnP L (i::done) t:=by
  obtain ⟨j,p,h1,h2,h3⟩:=h
  exact ⟨j,p,List.mem_cons_of_mem _ h1,h2,h3⟩
theorem zmb2 (ok:C.tb.Ok C.P) (hnd:(modsO L).Nodup) (hlt:∀d∈modsO L,d<n) (hs:Sim C L mok n lv0 β0 a0 h0 w0 done ls listed β s a h w) {i:Nat} {o:Oper} (hi:L[i]? =some o) (hid:i∉done)
    (hw:∀k∈waits o,k∈done) (hlk:looksOk L (aheads L []) i o=true) (hwar:isWar (aheads L []) i o L 0=false) (hvp:isVal C.tb o=true\/zam C.priv o=true) {K:St->Hp->Prop}
    (hkd:zhe2 C L o s=true) (hv:opW C L mok o s h K):∃s',K s' h/\Sim C L mok n lv0 β0 a0 h0 w0 (i::done) ls listed β s' a h w:=by
  unfold opW at hv
  split at hv
  · exact hv.elim
  rename_i ch hch
  cases hg:zla s ch with
  | false=>simp [hg] at hv
  | true=>
  simp only [hg,cond_true] at hv
  have hD:∀p∈ch,DnP L done p.1:=zzb1 hs hi hw hlk hch hg
  have hdD:∀d,o.dst=some d->¬DnP L done d:=fun d e ⟨j,p,h1,h2,h3⟩=>hid (by rw [<-zld hnd h2 hi h3 e];exact h1)
  have hdn:∀d,o.dst=some d->d<n:=fun d e=>hlt d (zju (List.mem_of_getElem? hi) e)
  have hself:∀ {s':St},(∀t,o.dst≠some t->s'.f t=s.f t)->Like (DnP L done) o s s':=fun hf=>by
    refine ⟨fun t ⟨j,p,h1,h2,h3⟩=>hf t fun e=>hid (by grind),fun t ht=>hf t fun e=> ?_,fun t l c e q hq=>hs.rr.chain t l c e q hq⟩
    have:=zme1 e hwar i o hi ht
    rw [Nat.zero_add] at this
    exact hid (zil this (· ∈done) hs.dclos fun o' ho'=>by grind)
  cases hval:isVal C.tb o with
  | true=>
    simp only [hval,cond_true] at hv
    obtain ⟨l,hk,hrun,hprov,hsh⟩:=zib2 ok hv
    have hnp:∀k,¬privA C.priv o k:=zsi1 (zrg hval)
    have hrd:zjn1 C.tb o=true\/kindD C.tb o ch s=.pure:=by
      unfold zhe2 at hkd
      grind
    have hf:∀t,o.dst≠some t->(s.put o.dst l ch).f t=s.f t:=fun t ht=>put_f s _ _ _ t ht
    have k:=hself hf
    refine ⟨_,hk,zvx1 hs hi hid hw ?_ (fun j p h1 h2 h3=> ?_) ?_⟩
    · have hb:holds s ch->∀k o',(l=.box k o'\/l=.boxd k o')->¬NnP C L done k:=fun hh b off e hN=>by
        obtain ⟨x,hx,off',hev⟩:=hprov b off e
        rcases hev with hev | hev
        · obtain ⟨t,c,rfl,hfb,hc⟩:=zls1 hev (by simp) hh
          exact (hs.rr.nref b hN t _ c hfb hc off').1 rfl
        · obtain ⟨t,c,rfl,hfb,hc⟩:=zls1 hev (by simp) hh
          exact (hs.rr.nref b hN t _ c hfb hc off').2 rfl
      have hliv:∀k,LivP C L (i::done) ls k↔LivP C L done ls k:=fun k=>by rw [zex1 hnd hs hi hid k];grind
      have hnn:∀k,NnP C L (i::done) k->NnP C L done k:=fun k e=>((zrj hnd hi hid k).1 e).2
      cases hdst:o.dst with
      | none=>exact hs.rr.congr (fun t=>by rw [zmj1 hs hi hid t,hdst];simp) hliv zle1 hnn
      | some d=>
        refine (hs.rr.lift (l:=l) (ch:=ch) (hdn d hdst) (hdD d hdst) hD hb).congr (fun t=> ?_) hliv zle1 hnn
        rw [zmj1 hs hi hid t,hdst]
        grind
    · rcases List.mem_cons.1 h1 with rfl | h1
      · rw [zld1 hi h3]
        refine ⟨⟨ch,hch,by rw [zri k hD];exact hg,.inl ⟨hval,by rw [k.kind];exact hrd,l,fun d e=>by rw [e];exact zuh _ _ _ _,fun hh=> ?_,k.prov hprov,fun hkd=>hsh (by rw [<-k.kind (s':=s.put o.dst l ch)];exact hkd)⟩⟩,hlk,hwar,fun d hp=>absurd hp (hnp d)⟩
        rw [k.kind]
        exact ztb k (fun _ t _ b off c _ _=>by rw [put_m]) (fun _=>rfl) (hrun ((k.holds' hD).1 hh))
      · exact zqt1 hnd hs hi hid hwar hf (fun k=>.inl (by rw [put_m])) h1 h2 h3
    · refine hs.seg.mono (fun _ e=>e) (fun _ e=>e) (fun _ e=>e) (fun k e=>⟨?_,((zex1 hnd hs hi hid k).1 e.2).2⟩)
      have:=e.1
      rwa [put_m] at this
  | false=>
    simp only [hval,cond_false] at hv
    have hpa:zam C.priv o=true:=hvp.resolve_left (by rw [hval];simp)
    have doNew:∀(d:Nat) (cs:List Value),K ((s.put (some d) (.box d 0) []).putM d cs) h->privA C.priv o d->ch=[]->has mok d=true->
        (∀(β:Nat->Nat) (ρ:Operand->Value) (w:World),(∀x∈o.op.operands,Opnd β s ρ x)->
          ∃t,(execOp ρ o).run C.P w=.ok (.value (.pointer (some ⟨w.heap.size,0,none⟩))) {w with heap:=w.heap.push (.cells cs.toArray t (0,0))})->
        ∃s',K s' h/\Sim C L mok n lv0 β0 a0 h0 w0 (i::done) ls listed β s' a h w:=by
      intro d cs hk hp he hmd hrun
      subst he
      have hiff:∀k,privA C.priv o k↔k=d:=fun k=>⟨fun e=>by have:=e.2;rw [hp.2] at this;cases this;rfl,fun e=>e▸hp⟩
      have hf:∀t,o.dst≠some t->((s.put (some d) (.box d 0) []).putM d cs).f t=s.f t:=fun t ht=>zmd1 s _ _ fun e=>ht (by rw [hp.2,e])
      have hm:∀k,k≠d->((s.put (some d) (.box d 0) []).putM d cs).m k=s.m k:=fun k hk=>zpj _ _ hk
      have k:=hself hf
      have hN:NnP C L done d:=⟨i,o,hid,hi,hp⟩
      refine ⟨_,hk,zvx1 hs hi hid hw ?_ (fun j p h1 h2 h3=> ?_) ?_⟩
      · refine (hs.rr.liftA cs (hdn d hp.2) (hdD d hp.2) hN).congr (fun t=> ?_) (fun k=> ?_) zle1 (fun k e=> ?_)
        · rw [zmj1 hs hi hid t,hp.2]
          grind
        · rw [zex1 hnd hs hi hid k,hiff]
        · have:=(zrj hnd hi hid k).1 e
          grind
      · rcases List.mem_cons.1 h1 with rfl | h1
        · rw [zld1 hi h3]
          refine ⟨⟨[],hch,rfl,.inr ⟨rfl,hval,d,cs,hp,zuh _ _ _ _,zeu1 _ _ _,zgx1 k hrun⟩⟩,hlk,hwar,fun d' hp'=> ?_⟩
          rw [(hiff d').1 hp']
          exact (zhw _ _).1 hmd
        · exact zqt1 hnd hs hi hid hwar hf (fun k=>by
            grind) h1 h2 h3
      · refine hs.seg.mono (fun _ e=>e) (fun _ e=>e) (fun _ e=>e) (fun k e=> ?_)
        have hl:=(zex1 hnd hs hi hid k).1 e.2
        rw [hiff] at hl
        refine ⟨?_,hl.2⟩
        have:=e.1
        grind
    split at hv
    · rename_i d hdst
      have hd0:o.dst=some d/\has C.priv d=true:=by
        unfold dstIn at hdst
        grind
      cases hmd:has mok d with
      | false=>simp [hmd] at hv
      | true=>
        simp only [hmd,cond_true] at hv
        split at hv
        · rename_i t hop
          split at hv
          · rename_i e he
            refine doNew d (zac e.zero) hv ⟨hpa,hd0.1⟩ rfl hmd fun β ρ w _=>⟨t,?_⟩
            have e2:(zac e.zero).toArray=e.zero.cells:=by apply Array.ext';simp [zbb]
            rw [e2]
            simp [execOp,hop,Instr.alloc,run_zeroValue' ok he,newVar,zdg]
          · exact hv.elim
        · rename_i t x hop
          obtain ⟨v,hev,hv'⟩:=zas hv
          refine doNew d (zac v) hv' ⟨hpa,hd0.1⟩ rfl hmd fun β ρ w ho=>⟨t,?_⟩
          have hx:=ev_ok (ho x (by simp [hop,Op.operands])) (holds_nil s) hev
          have e2:(zac v).toArray=v.cells:=by apply Array.ext';simp [zbb]
          rw [e2]
          simp [execOp,hop,hx,LVal,Instr.box,newVar,zdg]
        · exact hv.elim
    · exact hv.elim
    · rename_i hdst
      exfalso
      unfold dstIn at hdst
      unfold zam at hpa
      grind
end
end Lf
