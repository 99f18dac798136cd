/-
  The lifting layer, part 1: partial heaps, shapes, and what a semantic term does to a partial heap.
-/
import Derived.Calls
import Derived.Orders
import Derived.Scope
import Derived.ScopeJumps
import Derived.KernelRfl
namespace Lf
open Go

/-- What is known of memory: some blocks, by number. -/
def Hp : Type := Nat → Option Obj

def Hp.set (h : Hp) (b : Nat) (o : Obj) : Hp := fun i => if i = b then some o else h i

/-- All that the first one knows, the second one knows. -/
instance : LE Hp := ⟨fun h h' => ∀ b o, h b = some o → h' b = some o⟩

theorem Hp.le_refl (h : Hp) : h ≤ h := fun _ _ e => e
theorem Hp.le_trans {a b c : Hp} (h : a ≤ b) (k : b ≤ c) : a ≤ c := fun i o e => k i o (h i o e)

def hcell (h : Hp) (a : Addr) : Option Value :=
  match h a.block with
  | some (.cells c _ _) => if a.spot.isSome then none else c[a.off]?
  | _ => none

def hfroz (h : Hp) (a : Addr) : Bool :=
  match h a.block with
  | some (.cells _ _ (lo, hi)) => lo ≤ a.off && a.off < hi
  | _ => false

def Hp.put (h : Hp) (a : Addr) (v : Value) : Hp :=
  match h a.block with
  | some (.cells c e fr) => h.set a.block (.cells (if a.spot.isSome then c else c.setIfInBounds a.off v) e fr)
  | _ => h

def shapeOf : Obj → Option (TypeId × Nat)
  | .cells c e _ => some (e, c.size)
  | _ => none

def isCells : Obj → Bool
  | .cells .. => true
  | _ => false

/-- What a semantic term does, as far as the known blocks tell. -/
def semW {α : Type} (P : Program) : Sem α → (α → Hp → Prop) → Hp → Prop
  | .pure a, K, h => K a h
  | .load _ a k, K, h => ∃ v, hcell h a = some v ∧ semW P (k v) K h
  | .store _ _ (.agg _) _, _, _ | .store _ _ (.tuple _) _, _, _ => False
  | .store _ a v k, K, h => (∃ v0, hcell h a = some v0) ∧ hfroz h a = false ∧ semW P k K (h.put a v)
  | .new o k, K, h => ∀ b, h b = none → semW P (k b) K (h.set b o)
  | .shape r k, K, h => ∃ o, h r = some o ∧ semW P (k (shapeOf o)) K h
  | .freeze _ _ _, _, _ => False
  | .frozen a k, K, h => (∃ o, h a.block = some o) ∧ semW P (k (hfroz h a)) K h
  | .getObj r k, K, h => ∃ o, h r = some o ∧ isCells o = false ∧ semW P (k o) K h
  | .setObj r o k, K, h => (∃ o0, h r = some o0 ∧ isCells o0 = false) ∧ semW P k K (h.set r o)
  | .choose q k, K, h => if q.forced then semW P (k 0) K h else ∀ t, semW P (k (q.cut t)) K h
  | .sys _ _, _, _ => False
  | .program k, K, h => semW P (k P) K h
  | .mark _ k, K, h => semW P k K h
  | .halt _, _, _ => False

/-- The known blocks lie in memory. -/
def Sub (h : Hp) (w : World) : Prop := ∀ b o, h b = some o → w.heap[b]? = some o

/-- From one world to the next: what was not known has not changed, and is not known. -/
structure Step (h h' : Hp) (w w' : World) : Prop where
  sub : Sub h' w'
  size : w.heap.size ≤ w'.heap.size
  keep : ∀ b, b < w.heap.size → h b = none → w'.heap[b]? = w.heap[b]? ∧ h' b = none
  os : w'.os = w.os
  tape : w'.tape = w.tape
  output : w'.output = w.output

theorem Sub.lt {h : Hp} {w : World} (hs : Sub h w) {b : Nat} {o : Obj} (e : h b = some o) : b < w.heap.size := by
  have := hs b o e
  rcases Nat.lt_or_ge b w.heap.size with h | h
  · exact h
  · simp [Array.getElem?_eq_none h] at this

theorem Sub.mono {h h' : Hp} {w : World} (hs : Sub h' w) (hl : h ≤ h') : Sub h w := fun b o e => hs b o (hl b o e)

theorem Step.refl {h : Hp} {w : World} (hs : Sub h w) : Step h h w w :=
  ⟨hs, Nat.le_refl _, fun _ _ h => ⟨rfl, h⟩, rfl, rfl, rfl⟩

theorem Step.trans {h₁ h₂ h₃ : Hp} {w₁ w₂ w₃ : World} (a : Step h₁ h₂ w₁ w₂) (b : Step h₂ h₃ w₂ w₃) : Step h₁ h₃ w₁ w₃ := by
  refine ⟨b.sub, Nat.le_trans a.size b.size, fun i hi hn => ?_, b.os.trans a.os, b.tape.trans a.tape, b.output.trans a.output⟩
  have h1 := a.keep i hi hn
  have h2 := b.keep i (Nat.lt_of_lt_of_le hi a.size) h1.2
  exact ⟨h2.1.trans h1.1, h2.2⟩

theorem Step.drew {h h' : Hp} {w w' : World} {n : Nat} (a : Step h h' { w with drawn := n } w') : Step h h' w w' :=
  ⟨a.sub, a.size, a.keep, a.os, a.tape, a.output⟩

theorem hcell_sub {h : Hp} {w : World} (hs : Sub h w) {a : Addr} {v : Value} (e : hcell h a = some v) : w.cell? a = some v := by
  unfold hcell at e
  cases hb : h a.block with
  | none => simp [hb] at e
  | some o =>
    have := hs _ _ hb
    unfold World.cell?
    rw [this]
    rw [hb] at e
    exact e

theorem hfroz_sub {h : Hp} {w : World} (hs : Sub h w) {a : Addr} {o : Obj} (e : h a.block = some o) : w.frozen? a = hfroz h a := by
  have := hs _ _ e
  unfold World.frozen? hfroz
  rw [this, e]
  cases o <;> rfl

theorem hcell_block {h : Hp} {a : Addr} {v : Value} (e : hcell h a = some v) :
    ∃ c t fr, h a.block = some (.cells c t fr) ∧ a.spot = none ∧ c[a.off]? = some v := by
  unfold hcell at e
  split at e
  · rename_i c t fr hb
    refine ⟨c, t, fr, hb, ?_⟩
    cases hsp : a.spot with
    | none => simp [hsp] at e; exact ⟨rfl, e⟩
    | some s => simp [hsp] at e
  · exact absurd e (by simp)

theorem put_eq {h : Hp} {a : Addr} {v v0 : Value} (e : hcell h a = some v0) :
    ∃ c t fr, h a.block = some (.cells c t fr) ∧ h.put a v = h.set a.block (.cells (c.setIfInBounds a.off v) t fr) := by
  obtain ⟨c, t, fr, hb, hsp, _⟩ := hcell_block e
  refine ⟨c, t, fr, hb, ?_⟩
  unfold Hp.put
  rw [hb]
  simp [hsp]

theorem sub_set {h : Hp} {w : World} (hs : Sub h w) {b : Nat} {o : Obj} (hb : b < w.heap.size) :
    Sub (h.set b o) { w with heap := w.heap.setIfInBounds b o } := by
  intro i x e
  unfold Hp.set at e
  by_cases hi : i = b
  · subst hi
    simp at e
    subst e
    simp [Array.getElem?_setIfInBounds_self_of_lt hb]
  · simp [hi] at e
    have := hs _ _ e
    simpa [Array.getElem?_setIfInBounds_ne (Ne.symm hi)] using this

theorem step_put {h : Hp} {w : World} (hs : Sub h w) {a : Addr} {v v0 : Value} (e : hcell h a = some v0) :
    Step h (h.put a v) w (w.setCell a v) := by
  obtain ⟨c, t, fr, hb, hput⟩ := put_eq (v := v) e
  obtain ⟨_, _, _, hb', hsp, _⟩ := hcell_block e
  have hlt := hs.lt hb
  have hw : w.setCell a v = { w with heap := w.heap.setIfInBounds a.block (.cells (c.setIfInBounds a.off v) t fr) } := by
    unfold World.setCell
    congr 1
    apply Array.ext_getElem?
    intro i
    by_cases hi : i = a.block
    · subst hi
      rw [Array.getElem?_setIfInBounds_self_of_lt hlt, Array.getElem?_modify, if_pos rfl, hs _ _ hb]
      simp [hsp]
    · rw [Array.getElem?_setIfInBounds_ne (Ne.symm hi), Array.getElem?_modify, if_neg (Ne.symm hi)]
  rw [hput, hw]
  refine ⟨sub_set hs hlt, by simp, fun b hbl hn => ?_, rfl, rfl, rfl⟩
  have hne : b ≠ a.block := fun hh => by rw [hh, hb] at hn; cases hn
  refine ⟨by simp [Array.getElem?_setIfInBounds_ne (Ne.symm hne)], ?_⟩
  unfold Hp.set; rw [if_neg hne]; exact hn

theorem step_set {h : Hp} {w : World} (hs : Sub h w) {r : Nat} {o o0 : Obj} (e : h r = some o0) :
    Step h (h.set r o) w { w with heap := w.heap.setIfInBounds r o } := by
  have hlt := hs.lt e
  refine ⟨sub_set hs hlt, by simp, fun b hbl hn => ?_, rfl, rfl, rfl⟩
  have hne : b ≠ r := fun hh => by rw [hh, e] at hn; cases hn
  refine ⟨by simp [Array.getElem?_setIfInBounds_ne (Ne.symm hne)], ?_⟩
  unfold Hp.set; rw [if_neg hne]; exact hn

theorem step_new {h : Hp} {w : World} (hs : Sub h w) (o : Obj) :
    h w.heap.size = none ∧ Step h (h.set w.heap.size o) w { w with heap := w.heap.push o } := by
  have hnone : h w.heap.size = none := by
    cases e : h w.heap.size with
    | none => rfl
    | some x => exact absurd (hs.lt e) (Nat.lt_irrefl _)
  refine ⟨hnone, ?_, by simp, fun b hb hn => ?_, rfl, rfl, rfl⟩
  · intro i x e
    unfold Hp.set at e
    by_cases hi : i = w.heap.size
    · subst hi; simp at e; subst e; simp
    · simp [hi] at e
      have hl := hs.lt e
      have := hs _ _ e
      simp only [Array.getElem?_push, if_neg hi]
      exact this
  · refine ⟨by simp [Array.getElem?_push, Nat.ne_of_lt hb], ?_⟩
    unfold Hp.set; rw [if_neg (Nat.ne_of_lt hb)]; exact hn

theorem semW_sound {α : Type} {P : Program} (s : Sem α) : ∀ {K : α → Hp → Prop} {h : Hp} {w : World}, Sub h w → semW P s K h →
    ∃ a w' h', s.run P w = .ok a w' ∧ K a h' ∧ Step h h' w w' := by
  induction s with
  | pure a => intro K h w hs hk; exact ⟨a, w, h, rfl, hk, .refl hs⟩
  | load m a k ih =>
    intro K h w hs hk
    obtain ⟨v, hv, hk⟩ := hk
    obtain ⟨x, w', h', hr, hK, hst⟩ := ih v hs hk
    exact ⟨x, w', h', by simp only [Sem.run, hcell_sub hs hv, hr], hK, hst⟩
  | store m a v k ih =>
    intro K h w hs hk
    have main : ((∃ v0, hcell h a = some v0) ∧ hfroz h a = false ∧ semW P k K (h.put a v)) → (∀ p, v ≠ .agg p) → (∀ p, v ≠ .tuple p) →
        ∃ x w' h', (Sem.store m a v k).run P w = .ok x w' ∧ K x h' ∧ Step h h' w w' := by
      rintro ⟨⟨v0, h0⟩, hf, hk⟩ hna hnt
      have hst := step_put (v := v) hs h0
      obtain ⟨x, w', h', hr, hK, hst'⟩ := ih hst.sub hk
      refine ⟨x, w', h', ?_, hK, hst.trans hst'⟩
      have hfr : w.frozen? a = false := by
        obtain ⟨c, t, fr, hb, _, _⟩ := hcell_block h0
        rw [hfroz_sub hs hb]; exact hf
      cases v <;> first | exact absurd rfl (hna _) | exact absurd rfl (hnt _) | simp only [Sem.run, hcell_sub hs h0, hfr, hr, Bool.false_eq_true, if_false]
    cases v <;> first | exact hk.elim | exact main hk (by intros; simp) (by intros; simp)
  | new o k ih =>
    intro K h w hs hk
    obtain ⟨hn, hst⟩ := step_new hs o
    obtain ⟨x, w', h', hr, hK, hst'⟩ := ih _ hst.sub (hk _ hn)
    exact ⟨x, w', h', by simp only [Sem.run, hr], hK, hst.trans hst'⟩
  | shape r k ih =>
    intro K h w hs hk
    obtain ⟨o, ho, hk⟩ := hk
    obtain ⟨x, w', h', hr, hK, hst⟩ := ih _ hs hk
    refine ⟨x, w', h', ?_, hK, hst⟩
    simp only [Sem.run]
    have : w.shape? r = shapeOf o := by
      unfold World.shape?
      rw [hs _ _ ho]
      cases o <;> rfl
    rw [this]; exact hr
  | freeze a n k ih => intro K h w hs hk; exact hk.elim
  | frozen a k ih =>
    intro K h w hs hk
    obtain ⟨⟨o, ho⟩, hk⟩ := hk
    obtain ⟨x, w', h', hr, hK, hst⟩ := ih _ hs hk
    refine ⟨x, w', h', ?_, hK, hst⟩
    simp only [Sem.run, hfroz_sub hs ho]; exact hr
  | getObj r k ih =>
    intro K h w hs hk
    obtain ⟨o, ho, hc, hk⟩ := hk
    obtain ⟨x, w', h', hr, hK, hst⟩ := ih _ hs hk
    refine ⟨x, w', h', ?_, hK, hst⟩
    simp only [Sem.run, hs _ _ ho]
    cases o <;> first | exact hr | simp [isCells] at hc
  | setObj r o k ih =>
    intro K h w hs hk
    obtain ⟨⟨o0, ho, hc⟩, hk⟩ := hk
    have hst := step_set (o := o) hs ho
    obtain ⟨x, w', h', hr, hK, hst'⟩ := ih hst.sub hk
    refine ⟨x, w', h', ?_, hK, hst.trans hst'⟩
    simp only [Sem.run, hs _ _ ho]
    cases o0 <;> first | exact hr | simp [isCells] at hc
  | choose q k ih =>
    intro K h w hs hk
    simp only [semW] at hk
    by_cases hq : q.forced = true
    · simp only [hq, if_true] at hk
      obtain ⟨x, w', h', hr, hK, hst⟩ := ih _ hs hk
      exact ⟨x, w', h', by simp only [Sem.run, hq, if_true, hr], hK, hst⟩
    · simp only [hq, if_false, Bool.false_eq_true] at hk
      have hs' : Sub h { w with drawn := w.drawn + 1 } := hs
      obtain ⟨x, w', h', hr, hK, hst⟩ := ih _ hs' (hk (w.tape w.drawn q))
      exact ⟨x, w', h', by simp only [Sem.run, hq, if_false, Bool.false_eq_true, hr], hK, hst.drew⟩
  | sys c k ih => intro K h w hs hk; exact hk.elim
  | program k ih =>
    intro K h w hs hk
    obtain ⟨x, w', h', hr, hK, hst⟩ := ih _ hs hk
    exact ⟨x, w', h', by simp only [Sem.run, hr], hK, hst⟩
  | mark m k ih =>
    intro K h w hs hk
    obtain ⟨x, w', h', hr, hK, hst⟩ := ih hs hk
    exact ⟨x, w', h', by simp only [Sem.run, hr], hK, hst⟩
  | halt x => intro K h w hs hk; exact hk.elim

theorem semW_mono {α : Type} {P : Program} (s : Sem α) : ∀ {K K' : α → Hp → Prop} {h : Hp}, (∀ a h, K a h → K' a h) → semW P s K h → semW P s K' h := by
  induction s with
  | pure a => intro K K' h hk hh; exact hk _ _ hh
  | load m a k ih => rintro K K' h hk ⟨v, hv, hh⟩; exact ⟨v, hv, ih _ hk hh⟩
  | store m a v k ih =>
    intro K K' h hk hh
    cases v <;> first | exact hh.elim | exact ⟨hh.1, hh.2.1, ih hk hh.2.2⟩
  | new o k ih => intro K K' h hk hh b hb; exact ih _ hk (hh b hb)
  | shape r k ih => rintro K K' h hk ⟨o, ho, hh⟩; exact ⟨o, ho, ih _ hk hh⟩
  | freeze a n k ih => intro K K' h hk hh; exact hh.elim
  | frozen a k ih => rintro K K' h hk ⟨ho, hh⟩; exact ⟨ho, ih _ hk hh⟩
  | getObj r k ih => rintro K K' h hk ⟨o, ho, hc, hh⟩; exact ⟨o, ho, hc, ih _ hk hh⟩
  | setObj r o k ih => rintro K K' h hk ⟨ho, hh⟩; exact ⟨ho, ih hk hh⟩
  | choose q k ih =>
    intro K K' h hk hh
    simp only [semW] at hh ⊢
    split
    · rename_i hq; simp only [hq, if_true] at hh; exact ih _ hk hh
    · rename_i hq; simp only [hq] at hh; intro t; exact ih _ hk (hh t)
  | sys c k ih => intro K K' h hk hh; exact hh.elim
  | program k ih => intro K K' h hk hh; exact ih _ hk hh
  | mark m k ih => intro K K' h hk hh; exact ih hk hh
  | halt x => intro K K' h hk hh; exact hh.elim

theorem semW_bind {α β : Type} {P : Program} (s : Sem α) (f : α → Sem β) : ∀ {K : β → Hp → Prop} {h : Hp},
    semW P (s.bind f) K h ↔ semW P s (fun a h => semW P (f a) K h) h := by
  induction s with
  | pure a => intro K h; exact Iff.rfl
  | load m a k ih =>
    intro K h
    simp only [Sem.bind, semW]
    exact ⟨fun ⟨v, hv, hh⟩ => ⟨v, hv, (ih v).1 hh⟩, fun ⟨v, hv, hh⟩ => ⟨v, hv, (ih v).2 hh⟩⟩
  | store m a v k ih =>
    intro K h
    cases v <;> simp only [Sem.bind, semW] <;> first | exact Iff.rfl | exact and_congr Iff.rfl (and_congr Iff.rfl ih)
  | new o k ih => intro K h; simp only [Sem.bind, semW]; exact ⟨fun hh b hb => (ih b).1 (hh b hb), fun hh b hb => (ih b).2 (hh b hb)⟩
  | shape r k ih =>
    intro K h
    simp only [Sem.bind, semW]
    exact ⟨fun ⟨v, hv, hh⟩ => ⟨v, hv, (ih _).1 hh⟩, fun ⟨v, hv, hh⟩ => ⟨v, hv, (ih _).2 hh⟩⟩
  | freeze a n k ih => intro K h; exact Iff.rfl
  | frozen a k ih => intro K h; simp only [Sem.bind, semW]; exact and_congr Iff.rfl (ih _)
  | getObj r k ih =>
    intro K h
    simp only [Sem.bind, semW]
    exact ⟨fun ⟨v, hv, hc, hh⟩ => ⟨v, hv, hc, (ih _).1 hh⟩, fun ⟨v, hv, hc, hh⟩ => ⟨v, hv, hc, (ih _).2 hh⟩⟩
  | setObj r o k ih => intro K h; simp only [Sem.bind, semW]; exact and_congr Iff.rfl ih
  | choose q k ih =>
    intro K h
    simp only [Sem.bind, semW]
    split
    · exact ih _
    · exact ⟨fun hh t => (ih _).1 (hh t), fun hh t => (ih _).2 (hh t)⟩
  | sys c k ih => intro K h; exact Iff.rfl
  | program k ih => intro K h; simp only [Sem.bind, semW]; exact ih _
  | mark m k ih => intro K h; simp only [Sem.bind, semW]; exact ih
  | halt x => intro K h; exact Iff.rfl

end Lf
