/-
  Part 1 of the texts that the claim leans on.
-/
import Derived.Shelf.Strings.Search1
import Derived.Shelf.Strings.Search2
import Derived.Shelf.Strings.Search3
import Derived.Shelf.LaysM
import Derived.Test.YtloapcmhhcbonaaProg
import Derived.Calls
import Derived.Orders
import Derived.Scope
import Derived.ScopeJumps
import Derived.KernelRfl
/-
  The contract of strings.Contains at one byte, as the kit's lay-shelf.mjs and lay-plain.mjs print it.
-/
namespace Go.Proofs
open Go.Shelf
def Try.lays144_ren : Go.Shelf.Ren := ⟨fun | 144 => 92 | 143 => 93 | 219 => 94 | 217 => 95 | 225 => 96 | 224 => 97 | 267 => 98 | 266 => 99 | 314 => 100 | n => n, fun | 9 => 9 | 4 => 4 | 3 => 3 | 5 => 5 | 46 => 156 | 146 => 158 | 51 => 157 | n => n, fun | 1 => 0 | n => n⟩
theorem Try.lays144 : Go.Proofs.Lays.n144 Try.prog Try.lays144_ren := {
  mixed := by kernel_rfl
  f143 := Try.func93.trans (congrArg some (by kernel_rfl))
  f144 := Try.func92.trans (congrArg some (by kernel_rfl))
  f217 := Try.func95.trans (congrArg some (by kernel_rfl))
  f219 := Try.func94.trans (congrArg some (by kernel_rfl))
  f224 := Try.func97.trans (congrArg some (by kernel_rfl))
  f225 := Try.func96.trans (congrArg some (by kernel_rfl))
  f266 := Try.func99.trans (congrArg some (by kernel_rfl))
  f267 := Try.func98.trans (congrArg some (by kernel_rfl))
  f314 := Try.func100.trans (congrArg some (by kernel_rfl))
  t3 := Try.underlying3
  a3 := Try.isAgg3
  z3 := Try.sizeOf3
  v3 := Try.zeroValue3
  t4 := Try.underlying4
  a4 := Try.isAgg4
  z4 := Try.sizeOf4
  v4 := Try.zeroValue4
  t5 := Try.underlying5
  a5 := Try.isAgg5
  z5 := Try.sizeOf5
  v5 := Try.zeroValue5
  t9 := Try.underlying9
  a9 := Try.isAgg9
  z9 := Try.sizeOf9
  v9 := Try.zeroValue9
  t46 := Try.underlying156
  a46 := Try.isAgg156
  z46 := Try.sizeOf156
  v46 := Try.zeroValue156
  t51 := Try.underlying157
  a51 := Try.isAgg157
  z51 := Try.sizeOf157
  v51 := Try.zeroValue157
  t146 := Try.underlying158
  a146 := Try.isAgg158
  z146 := Try.sizeOf158
  v146 := Try.zeroValue158
  g1 := by kernel_rfl }
open Go.RowKit Go.Lib in
theorem Try.strings_Contains_one (s : ByteArray) (c : UInt8) (w : World) :
    Calls Try.prog 92 #[.string s, .string ⟨#[c]⟩] w fun e w' => e = .returned (.bool (decide (0 ≤ Lib.indexByte s.data.toList c))) ∧ w' = w := Any.strings_Contains_one Try.lays144 s c w
end Go.Proofs

/-
  The lifting layer, part 1: partial heaps, shapes, and what a semantic term does to a partial heap.
-/
namespace Lf
open Go

/-- What is known of memory: some blocks, by number. -/
def Hp : Type := Nat → Option Obj

def Hp.set (h : Hp) (b : Nat) (o : Obj) : Hp := fun i => if i = b then some o else h i

/-- All that the first one knows, the second one knows. -/
instance : LE Hp := ⟨fun h h' => ∀ b o, h b = some o → h' b = some o⟩

theorem Hp.le_refl (h : Hp) : h ≤ h := fun _ _ e => e
theorem Hp.le_trans {a b c : Hp} (h : a ≤ b) (k : b ≤ c) : a ≤ c := fun i o e => k i o (h i o e)

def hcell (h : Hp) (a : Addr) : Option Value :=
  match h a.block with
  | some (.cells c _ _) => if a.spot.isSome then none else c[a.off]?
  | _ => none

def hfroz (h : Hp) (a : Addr) : Bool :=
  match h a.block with
  | some (.cells _ _ (lo, hi)) => lo ≤ a.off && a.off < hi
  | _ => false

def Hp.put (h : Hp) (a : Addr) (v : Value) : Hp :=
  match h a.block with
  | some (.cells c e fr) => h.set a.block (.cells (if a.spot.isSome then c else c.setIfInBounds a.off v) e fr)
  | _ => h

def shapeOf : Obj → Option (TypeId × Nat)
  | .cells c e _ => some (e, c.size)
  | _ => none

def isCells : Obj → Bool
  | .cells .. => true
  | _ => false

/-- What a semantic term does, as far as the known blocks tell. -/
def semW {α : Type} (P : Program) : Sem α → (α → Hp → Prop) → Hp → Prop
  | .pure a, K, h => K a h
  | .load _ a k, K, h => ∃ v, hcell h a = some v ∧ semW P (k v) K h
  | .store _ _ (.agg _) _, _, _ | .store _ _ (.tuple _) _, _, _ => False
  | .store _ a v k, K, h => (∃ v0, hcell h a = some v0) ∧ hfroz h a = false ∧ semW P k K (h.put a v)
  | .new o k, K, h => ∀ b, h b = none → semW P (k b) K (h.set b o)
  | .shape r k, K, h => ∃ o, h r = some o ∧ semW P (k (shapeOf o)) K h
  | .freeze _ _ _, _, _ => False
  | .frozen a k, K, h => (∃ o, h a.block = some o) ∧ semW P (k (hfroz h a)) K h
  | .getObj r k, K, h => ∃ o, h r = some o ∧ isCells o = false ∧ semW P (k o) K h
  | .setObj r o k, K, h => (∃ o0, h r = some o0 ∧ isCells o0 = false) ∧ semW P k K (h.set r o)
  | .choose q k, K, h => if q.forced then semW P (k 0) K h else ∀ t, semW P (k (q.cut t)) K h
  | .sys _ _, _, _ => False
  | .program k, K, h => semW P (k P) K h
  | .mark _ k, K, h => semW P k K h
  | .halt _, _, _ => False

/-- The known blocks lie in memory. -/
def Sub (h : Hp) (w : World) : Prop := ∀ b o, h b = some o → w.heap[b]? = some o

/-- From one world to the next: what was not known has not changed, and is not known. -/
structure Step (h h' : Hp) (w w' : World) : Prop where
  sub : Sub h' w'
  size : w.heap.size ≤ w'.heap.size
  keep : ∀ b, b < w.heap.size → h b = none → w'.heap[b]? = w.heap[b]? ∧ h' b = none
  os : w'.os = w.os
  tape : w'.tape = w.tape
  output : w'.output = w.output

theorem Sub.lt {h : Hp} {w : World} (hs : Sub h w) {b : Nat} {o : Obj} (e : h b = some o) : b < w.heap.size := by
  have := hs b o e
  rcases Nat.lt_or_ge b w.heap.size with h | h
  · exact h
  · simp [Array.getElem?_eq_none h] at this

theorem Sub.mono {h h' : Hp} {w : World} (hs : Sub h' w) (hl : h ≤ h') : Sub h w := fun b o e => hs b o (hl b o e)

theorem Step.refl {h : Hp} {w : World} (hs : Sub h w) : Step h h w w :=
  ⟨hs, Nat.le_refl _, fun _ _ h => ⟨rfl, h⟩, rfl, rfl, rfl⟩

theorem Step.trans {h₁ h₂ h₃ : Hp} {w₁ w₂ w₃ : World} (a : Step h₁ h₂ w₁ w₂) (b : Step h₂ h₃ w₂ w₃) : Step h₁ h₃ w₁ w₃ := by
  refine ⟨b.sub, Nat.le_trans a.size b.size, fun i hi hn => ?_, b.os.trans a.os, b.tape.trans a.tape, b.output.trans a.output⟩
  have h1 := a.keep i hi hn
  have h2 := b.keep i (Nat.lt_of_lt_of_le hi a.size) h1.2
  exact ⟨h2.1.trans h1.1, h2.2⟩

theorem Step.drew {h h' : Hp} {w w' : World} {n : Nat} (a : Step h h' { w with drawn := n } w') : Step h h' w w' :=
  ⟨a.sub, a.size, a.keep, a.os, a.tape, a.output⟩

theorem hcell_sub {h : Hp} {w : World} (hs : Sub h w) {a : Addr} {v : Value} (e : hcell h a = some v) : w.cell? a = some v := by
  unfold hcell at e
  cases hb : h a.block with
  | none => simp [hb] at e
  | some o =>
    have := hs _ _ hb
    unfold World.cell?
    rw [this]
    rw [hb] at e
    exact e

theorem hfroz_sub {h : Hp} {w : World} (hs : Sub h w) {a : Addr} {o : Obj} (e : h a.block = some o) : w.frozen? a = hfroz h a := by
  have := hs _ _ e
  unfold World.frozen? hfroz
  rw [this, e]
  cases o <;> rfl

theorem hcell_block {h : Hp} {a : Addr} {v : Value} (e : hcell h a = some v) :
    ∃ c t fr, h a.block = some (.cells c t fr) ∧ a.spot = none ∧ c[a.off]? = some v := by
  unfold hcell at e
  split at e
  · rename_i c t fr hb
    refine ⟨c, t, fr, hb, ?_⟩
    cases hsp : a.spot with
    | none => simp [hsp] at e; exact ⟨rfl, e⟩
    | some s => simp [hsp] at e
  · exact absurd e (by simp)

theorem put_eq {h : Hp} {a : Addr} {v v0 : Value} (e : hcell h a = some v0) :
    ∃ c t fr, h a.block = some (.cells c t fr) ∧ h.put a v = h.set a.block (.cells (c.setIfInBounds a.off v) t fr) := by
  obtain ⟨c, t, fr, hb, hsp, _⟩ := hcell_block e
  refine ⟨c, t, fr, hb, ?_⟩
  unfold Hp.put
  rw [hb]
  simp [hsp]

theorem sub_set {h : Hp} {w : World} (hs : Sub h w) {b : Nat} {o : Obj} (hb : b < w.heap.size) :
    Sub (h.set b o) { w with heap := w.heap.setIfInBounds b o } := by
  intro i x e
  unfold Hp.set at e
  by_cases hi : i = b
  · subst hi
    simp at e
    subst e
    simp [Array.getElem?_setIfInBounds_self_of_lt hb]
  · simp [hi] at e
    have := hs _ _ e
    simpa [Array.getElem?_setIfInBounds_ne (Ne.symm hi)] using this

theorem step_put {h : Hp} {w : World} (hs : Sub h w) {a : Addr} {v v0 : Value} (e : hcell h a = some v0) :
    Step h (h.put a v) w (w.setCell a v) := by
  obtain ⟨c, t, fr, hb, hput⟩ := put_eq (v := v) e
  obtain ⟨_, _, _, hb', hsp, _⟩ := hcell_block e
  have hlt := hs.lt hb
  have hw : w.setCell a v = { w with heap := w.heap.setIfInBounds a.block (.cells (c.setIfInBounds a.off v) t fr) } := by
    unfold World.setCell
    congr 1
    apply Array.ext_getElem?
    intro i
    by_cases hi : i = a.block
    · subst hi
      rw [Array.getElem?_setIfInBounds_self_of_lt hlt, Array.getElem?_modify, if_pos rfl, hs _ _ hb]
      simp [hsp]
    · rw [Array.getElem?_setIfInBounds_ne (Ne.symm hi), Array.getElem?_modify, if_neg (Ne.symm hi)]
  rw [hput, hw]
  refine ⟨sub_set hs hlt, by simp, fun b hbl hn => ?_, rfl, rfl, rfl⟩
  have hne : b ≠ a.block := fun hh => by rw [hh, hb] at hn; cases hn
  refine ⟨by simp [Array.getElem?_setIfInBounds_ne (Ne.symm hne)], ?_⟩
  unfold Hp.set; rw [if_neg hne]; exact hn

theorem step_set {h : Hp} {w : World} (hs : Sub h w) {r : Nat} {o o0 : Obj} (e : h r = some o0) :
    Step h (h.set r o) w { w with heap := w.heap.setIfInBounds r o } := by
  have hlt := hs.lt e
  refine ⟨sub_set hs hlt, by simp, fun b hbl hn => ?_, rfl, rfl, rfl⟩
  have hne : b ≠ r := fun hh => by rw [hh, e] at hn; cases hn
  refine ⟨by simp [Array.getElem?_setIfInBounds_ne (Ne.symm hne)], ?_⟩
  unfold Hp.set; rw [if_neg hne]; exact hn

theorem step_new {h : Hp} {w : World} (hs : Sub h w) (o : Obj) :
    h w.heap.size = none ∧ Step h (h.set w.heap.size o) w { w with heap := w.heap.push o } := by
  have hnone : h w.heap.size = none := by
    cases e : h w.heap.size with
    | none => rfl
    | some x => exact absurd (hs.lt e) (Nat.lt_irrefl _)
  refine ⟨hnone, ?_, by simp, fun b hb hn => ?_, rfl, rfl, rfl⟩
  · intro i x e
    unfold Hp.set at e
    by_cases hi : i = w.heap.size
    · subst hi; simp at e; subst e; simp
    · simp [hi] at e
      have hl := hs.lt e
      have := hs _ _ e
      simp only [Array.getElem?_push, if_neg hi]
      exact this
  · refine ⟨by simp [Array.getElem?_push, Nat.ne_of_lt hb], ?_⟩
    unfold Hp.set; rw [if_neg (Nat.ne_of_lt hb)]; exact hn

theorem semW_sound {α : Type} {P : Program} (s : Sem α) : ∀ {K : α → Hp → Prop} {h : Hp} {w : World}, Sub h w → semW P s K h →
    ∃ a w' h', s.run P w = .ok a w' ∧ K a h' ∧ Step h h' w w' := by
  induction s with
  | pure a => intro K h w hs hk; exact ⟨a, w, h, rfl, hk, .refl hs⟩
  | load m a k ih =>
    intro K h w hs hk
    obtain ⟨v, hv, hk⟩ := hk
    obtain ⟨x, w', h', hr, hK, hst⟩ := ih v hs hk
    exact ⟨x, w', h', by simp only [Sem.run, hcell_sub hs hv, hr], hK, hst⟩
  | store m a v k ih =>
    intro K h w hs hk
    have main : ((∃ v0, hcell h a = some v0) ∧ hfroz h a = false ∧ semW P k K (h.put a v)) → (∀ p, v ≠ .agg p) → (∀ p, v ≠ .tuple p) →
        ∃ x w' h', (Sem.store m a v k).run P w = .ok x w' ∧ K x h' ∧ Step h h' w w' := by
      rintro ⟨⟨v0, h0⟩, hf, hk⟩ hna hnt
      have hst := step_put (v := v) hs h0
      obtain ⟨x, w', h', hr, hK, hst'⟩ := ih hst.sub hk
      refine ⟨x, w', h', ?_, hK, hst.trans hst'⟩
      have hfr : w.frozen? a = false := by
        obtain ⟨c, t, fr, hb, _, _⟩ := hcell_block h0
        rw [hfroz_sub hs hb]; exact hf
      cases v <;> first | exact absurd rfl (hna _) | exact absurd rfl (hnt _) | simp only [Sem.run, hcell_sub hs h0, hfr, hr, Bool.false_eq_true, if_false]
    cases v <;> first | exact hk.elim | exact main hk (by intros; simp) (by intros; simp)
  | new o k ih =>
    intro K h w hs hk
    obtain ⟨hn, hst⟩ := step_new hs o
    obtain ⟨x, w', h', hr, hK, hst'⟩ := ih _ hst.sub (hk _ hn)
    exact ⟨x, w', h', by simp only [Sem.run, hr], hK, hst.trans hst'⟩
  | shape r k ih =>
    intro K h w hs hk
    obtain ⟨o, ho, hk⟩ := hk
    obtain ⟨x, w', h', hr, hK, hst⟩ := ih _ hs hk
    refine ⟨x, w', h', ?_, hK, hst⟩
    simp only [Sem.run]
    have : w.shape? r = shapeOf o := by
      unfold World.shape?
      rw [hs _ _ ho]
      cases o <;> rfl
    rw [this]; exact hr
  | freeze a n k ih => intro K h w hs hk; exact hk.elim
  | frozen a k ih =>
    intro K h w hs hk
    obtain ⟨⟨o, ho⟩, hk⟩ := hk
    obtain ⟨x, w', h', hr, hK, hst⟩ := ih _ hs hk
    refine ⟨x, w', h', ?_, hK, hst⟩
    simp only [Sem.run, hfroz_sub hs ho]; exact hr
  | getObj r k ih =>
    intro K h w hs hk
    obtain ⟨o, ho, hc, hk⟩ := hk
    obtain ⟨x, w', h', hr, hK, hst⟩ := ih _ hs hk
    refine ⟨x, w', h', ?_, hK, hst⟩
    simp only [Sem.run, hs _ _ ho]
    cases o <;> first | exact hr | simp [isCells] at hc
  | setObj r o k ih =>
    intro K h w hs hk
    obtain ⟨⟨o0, ho, hc⟩, hk⟩ := hk
    have hst := step_set (o := o) hs ho
    obtain ⟨x, w', h', hr, hK, hst'⟩ := ih hst.sub hk
    refine ⟨x, w', h', ?_, hK, hst.trans hst'⟩
    simp only [Sem.run, hs _ _ ho]
    cases o0 <;> first | exact hr | simp [isCells] at hc
  | choose q k ih =>
    intro K h w hs hk
    simp only [semW] at hk
    by_cases hq : q.forced = true
    · simp only [hq, if_true] at hk
      obtain ⟨x, w', h', hr, hK, hst⟩ := ih _ hs hk
      exact ⟨x, w', h', by simp only [Sem.run, hq, if_true, hr], hK, hst⟩
    · simp only [hq, if_false, Bool.false_eq_true] at hk
      have hs' : Sub h { w with drawn := w.drawn + 1 } := hs
      obtain ⟨x, w', h', hr, hK, hst⟩ := ih _ hs' (hk (w.tape w.drawn q))
      exact ⟨x, w', h', by simp only [Sem.run, hq, if_false, Bool.false_eq_true, hr], hK, hst.drew⟩
  | sys c k ih => intro K h w hs hk; exact hk.elim
  | program k ih =>
    intro K h w hs hk
    obtain ⟨x, w', h', hr, hK, hst⟩ := ih _ hs hk
    exact ⟨x, w', h', by simp only [Sem.run, hr], hK, hst⟩
  | mark m k ih =>
    intro K h w hs hk
    obtain ⟨x, w', h', hr, hK, hst⟩ := ih hs hk
    exact ⟨x, w', h', by simp only [Sem.run, hr], hK, hst⟩
  | halt x => intro K h w hs hk; exact hk.elim

theorem semW_mono {α : Type} {P : Program} (s : Sem α) : ∀ {K K' : α → Hp → Prop} {h : Hp}, (∀ a h, K a h → K' a h) → semW P s K h → semW P s K' h := by
  induction s with
  | pure a => intro K K' h hk hh; exact hk _ _ hh
  | load m a k ih => rintro K K' h hk ⟨v, hv, hh⟩; exact ⟨v, hv, ih _ hk hh⟩
  | store m a v k ih =>
    intro K K' h hk hh
    cases v <;> first | exact hh.elim | exact ⟨hh.1, hh.2.1, ih hk hh.2.2⟩
  | new o k ih => intro K K' h hk hh b hb; exact ih _ hk (hh b hb)
  | shape r k ih => rintro K K' h hk ⟨o, ho, hh⟩; exact ⟨o, ho, ih _ hk hh⟩
  | freeze a n k ih => intro K K' h hk hh; exact hh.elim
  | frozen a k ih => rintro K K' h hk ⟨ho, hh⟩; exact ⟨ho, ih _ hk hh⟩
  | getObj r k ih => rintro K K' h hk ⟨o, ho, hc, hh⟩; exact ⟨o, ho, hc, ih _ hk hh⟩
  | setObj r o k ih => rintro K K' h hk ⟨ho, hh⟩; exact ⟨ho, ih hk hh⟩
  | choose q k ih =>
    intro K K' h hk hh
    simp only [semW] at hh ⊢
    split
    · rename_i hq; simp only [hq, if_true] at hh; exact ih _ hk hh
    · rename_i hq; simp only [hq] at hh; intro t; exact ih _ hk (hh t)
  | sys c k ih => intro K K' h hk hh; exact hh.elim
  | program k ih => intro K K' h hk hh; exact ih _ hk hh
  | mark m k ih => intro K K' h hk hh; exact ih hk hh
  | halt x => intro K K' h hk hh; exact hh.elim

theorem semW_bind {α β : Type} {P : Program} (s : Sem α) (f : α → Sem β) : ∀ {K : β → Hp → Prop} {h : Hp},
    semW P (s.bind f) K h ↔ semW P s (fun a h => semW P (f a) K h) h := by
  induction s with
  | pure a => intro K h; exact Iff.rfl
  | load m a k ih =>
    intro K h
    simp only [Sem.bind, semW]
    exact ⟨fun ⟨v, hv, hh⟩ => ⟨v, hv, (ih v).1 hh⟩, fun ⟨v, hv, hh⟩ => ⟨v, hv, (ih v).2 hh⟩⟩
  | store m a v k ih =>
    intro K h
    cases v <;> simp only [Sem.bind, semW] <;> first | exact Iff.rfl | exact and_congr Iff.rfl (and_congr Iff.rfl ih)
  | new o k ih => intro K h; simp only [Sem.bind, semW]; exact ⟨fun hh b hb => (ih b).1 (hh b hb), fun hh b hb => (ih b).2 (hh b hb)⟩
  | shape r k ih =>
    intro K h
    simp only [Sem.bind, semW]
    exact ⟨fun ⟨v, hv, hh⟩ => ⟨v, hv, (ih _).1 hh⟩, fun ⟨v, hv, hh⟩ => ⟨v, hv, (ih _).2 hh⟩⟩
  | freeze a n k ih => intro K h; exact Iff.rfl
  | frozen a k ih => intro K h; simp only [Sem.bind, semW]; exact and_congr Iff.rfl (ih _)
  | getObj r k ih =>
    intro K h
    simp only [Sem.bind, semW]
    exact ⟨fun ⟨v, hv, hc, hh⟩ => ⟨v, hv, hc, (ih _).1 hh⟩, fun ⟨v, hv, hc, hh⟩ => ⟨v, hv, hc, (ih _).2 hh⟩⟩
  | setObj r o k ih => intro K h; simp only [Sem.bind, semW]; exact and_congr Iff.rfl ih
  | choose q k ih =>
    intro K h
    simp only [Sem.bind, semW]
    split
    · exact ih _
    · exact ⟨fun hh t => (ih _).1 (hh t), fun hh t => (ih _).2 (hh t)⟩
  | sys c k ih => intro K h; exact Iff.rfl
  | program k ih => intro K h; simp only [Sem.bind, semW]; exact ih _
  | mark m k ih => intro K h; simp only [Sem.bind, semW]; exact ih
  | halt x => intro K h; exact Iff.rfl

end Lf

/-
  The lifting layer, part 2: what a function's code does, told as a proposition over typed variables and a partial heap.
-/
namespace Lf
open Go

/-- A type of plain values, and how they lie in a slot. -/
structure Shape where
  T : Type
  enc : T → Value
  dec : Value → Option T
  ok : ∀ v x, dec v = some x → enc x = v

structure Sl where
  base : Option Addr
  len : Nat
  cap : Nat

def Sl.v (s : Sl) : Value := .slice s.base s.len s.cap

def kEq : IntKind → IntKind → Bool
  | .i8, .i8 | .i16, .i16 | .i32, .i32 | .i64, .i64 | .u8, .u8 | .u16, .u16 | .u32, .u32 | .u64, .u64 => true
  | _, _ => false

theorem kEq_eq {a b : IntKind} (h : kEq a b = true) : a = b := by cases a <;> cases b <;> first | rfl | cases h

def fEq : FloatKind → FloatKind → Bool
  | .f32, .f32 | .f64, .f64 => true
  | _, _ => false

theorem fEq_eq {a b : FloatKind} (h : fEq a b = true) : a = b := by cases a <;> cases b <;> first | rfl | cases h

@[reducible] def shInt (k : IntKind) : Shape where
  T := Int
  enc := fun n => .int k n
  dec := fun v => match v with
    | .int k' n => cond (kEq k' k) (some n) none
    | _ => none
  ok := by
    intro v x h
    split at h
    · rename_i k' n
      cases hk : kEq k' k
      · simp [hk] at h
      · simp [hk] at h; rw [kEq_eq hk, h]
    · cases h

@[reducible] def shBool : Shape where
  T := Bool
  enc := fun n => .bool n
  dec := fun v => match v with
    | .bool n => some n
    | _ => none
  ok := by intro v x h; split at h <;> cases h; rfl

@[reducible] def shStr : Shape where
  T := ByteArray
  enc := fun n => .string n
  dec := fun v => match v with
    | .string n => some n
    | _ => none
  ok := by intro v x h; split at h <;> cases h; rfl

@[reducible] def shPtr : Shape where
  T := Option Addr
  enc := fun n => .pointer n
  dec := fun v => match v with
    | .pointer n => some n
    | _ => none
  ok := by intro v x h; split at h <;> cases h; rfl

@[reducible] def shSl : Shape where
  T := Sl
  enc := fun n => .slice n.base n.len n.cap
  dec := fun v => match v with
    | .slice a l c => some ⟨a, l, c⟩
    | _ => none
  ok := by intro v x h; split at h <;> cases h; rfl

@[reducible] def shMap : Shape where
  T := Option Nat
  enc := fun n => .map n
  dec := fun v => match v with
    | .map n => some n
    | _ => none
  ok := by intro v x h; split at h <;> cases h; rfl

@[reducible] def shFlt (k : FloatKind) : Shape where
  T := Nat
  enc := fun n => .float k n
  dec := fun v => match v with
    | .float k' n => cond (fEq k' k) (some n) none
    | _ => none
  ok := by
    intro v x h
    split at h
    · rename_i k' n
      cases hk : fEq k' k
      · simp [hk] at h
      · simp [hk] at h; rw [fEq_eq hk, h]
    · cases h

/-- Whatever value (functions, interface values). -/
@[reducible] def shVal : Shape where
  T := Value
  enc := fun v => v
  dec := fun v => some v
  ok := by intro v x h; cases h; rfl

def isLeafV : Value → Bool
  | .agg _ => false
  | _ => true

/-- A value of one cell. -/
structure Leaf where
  v : Value
  ok : isLeafV v = true

@[reducible] def shLeaf : Shape where
  T := Leaf
  enc := fun x => x.v
  dec := fun v => match h : isLeafV v with
    | true => some ⟨v, h⟩
    | false => none
  ok := by intro v x h; split at h <;> cases h; rfl

/-- A function value that is not nil. -/
structure FnV where
  g : Nat
  first : Array Value
  captured : Array Value

@[reducible] def shFn : Shape where
  T := FnV
  enc := fun x => .func (.func x.g) x.first x.captured
  dec := fun v => match v with
    | .func (.func g) a b => some ⟨g, a, b⟩
    | _ => none
  ok := by intro v x h; split at h <;> cases h; rfl

/-- So many cells in a row: a great array. -/
structure CellsN (n : Nat) where
  l : List Value
  ok : Nat.beq l.length n = true

theorem CellsN.size {n : Nat} (x : CellsN n) : (Array.mk x.l).size = n := Nat.eq_of_beq_eq_true x.ok

@[reducible] def shCells (n : Nat) : Shape where
  T := CellsN n
  enc := fun x => .agg ⟨x.l⟩
  dec := fun v => match v with
    | .agg ⟨l⟩ => match h : Nat.beq l.length n with
      | true => some ⟨l, h⟩
      | false => none
    | _ => none
  ok := by
    intro v x h
    split at h
    · split at h <;> cases h
      rfl
    · cases h

@[reducible] def shUnit : Shape where
  T := Unit
  enc := fun _ => .tuple #[]
  dec := fun v => match v with
    | .tuple ⟨[]⟩ => some ()
    | _ => none
  ok := by intro v x h; split at h <;> cases h; rfl

/-- What a step over a map gives: is there one more; what else it hands back. -/
structure NextR where
  more : Bool
  rest : List Value

@[reducible] def shNext : Shape where
  T := NextR
  enc := fun x => .tuple ⟨.bool x.more :: x.rest⟩
  dec := fun v => match v with
    | .tuple ⟨.bool b :: r⟩ => some ⟨b, r⟩
    | _ => none
  ok := by intro v x h; split at h <;> cases h; rfl

@[reducible] def shTup2 (a b : Shape) : Shape where
  T := a.T × b.T
  enc := fun p => .tuple #[a.enc p.1, b.enc p.2]
  dec := fun v => match v with
    | .tuple ⟨[x, y]⟩ => match a.dec x, b.dec y with
      | some x, some y => some (x, y)
      | _, _ => none
    | _ => none
  ok := by
    intro v x h
    split at h
    · split at h
      · rename_i h1 h2; cases h; rw [a.ok _ _ h1, b.ok _ _ h2]
      · cases h
    · cases h

@[reducible] def shTup3 (a b c : Shape) : Shape where
  T := a.T × b.T × c.T
  enc := fun p => .tuple #[a.enc p.1, b.enc p.2.1, c.enc p.2.2]
  dec := fun v => match v with
    | .tuple ⟨[x, y, z]⟩ => match a.dec x, b.dec y, c.dec z with
      | some x, some y, some z => some (x, y, z)
      | _, _, _ => none
    | _ => none
  ok := by
    intro v x h
    split at h
    · split at h
      · rename_i h1 h2 h3; cases h; rw [a.ok _ _ h1, b.ok _ _ h2, c.ok _ _ h3]
      · cases h
    · cases h

@[reducible] def shTup4 (a b c d : Shape) : Shape where
  T := a.T × b.T × c.T × d.T
  enc := fun p => .tuple #[a.enc p.1, b.enc p.2.1, c.enc p.2.2.1, d.enc p.2.2.2]
  dec := fun v => match v with
    | .tuple ⟨[x, y, z, u]⟩ => match a.dec x, b.dec y, c.dec z, d.dec u with
      | some x, some y, some z, some u => some (x, y, z, u)
      | _, _, _, _ => none
    | _ => none
  ok := by
    intro v x h
    split at h
    · split at h
      · rename_i h1 h2 h3 h4; cases h; rw [a.ok _ _ h1, b.ok _ _ h2, c.ok _ _ h3, d.ok _ _ h4]
      · cases h
    · cases h

@[reducible] def shTup5 (a b c d e : Shape) : Shape where
  T := a.T × b.T × c.T × d.T × e.T
  enc := fun p => .tuple #[a.enc p.1, b.enc p.2.1, c.enc p.2.2.1, d.enc p.2.2.2.1, e.enc p.2.2.2.2]
  dec := fun v => match v with
    | .tuple ⟨[x, y, z, u, w]⟩ => match a.dec x, b.dec y, c.dec z, d.dec u, e.dec w with
      | some x, some y, some z, some u, some w => some (x, y, z, u, w)
      | _, _, _, _, _ => none
    | _ => none
  ok := by
    intro v x h
    split at h
    · split at h
      · rename_i h1 h2 h3 h4 h5; cases h; rw [a.ok _ _ h1, b.ok _ _ h2, c.ok _ _ h3, d.ok _ _ h4, e.ok _ _ h5]
      · cases h
    · cases h

/-- What is told of a type. -/
structure Ty where
  und : TypeDesc
  size : Nat
  bytes : Nat
  zero : Value
  sh : Shape

structure Tb where
  ty : Nat → Option Ty
  call : Nat → Bool
  ext : Nat → Option (Array Value → Sem Value)

def isAggD : TypeDesc → Bool
  | .struct _ | .array _ _ => true
  | _ => false

def shOf (tb : Tb) (t : Nat) : Shape := match tb.ty t with
  | some e => e.sh
  | none => shUnit

/-! Lists -/
def nth {α : Type _} : List α → Nat → Option α
  | [], _ => none
  | a :: _, 0 => some a
  | _ :: l, n + 1 => nth l n

def dropL {α : Type _} : List α → Nat → List α
  | l, 0 => l
  | [], _ + 1 => []
  | _ :: l, n + 1 => dropL l n

def takeL {α : Type _} : List α → Nat → List α
  | _, 0 => []
  | [], _ + 1 => []
  | a :: l, n + 1 => a :: takeL l n

/-- 'l' with the list 'new' laid over it from place 'i' on. -/
def layL {α : Type _} : List α → Nat → List α → List α
  | l, 0, [] => l
  | [], 0, _ :: _ => []
  | _ :: l, 0, b :: new => b :: layL l 0 new
  | [], _ + 1, _ => []
  | a :: l, n + 1, new => a :: layL l n new

/-! Slots -/
inductive LV where
  | v (x : Value)
  | box (k off : Nat)
  | boxd (k off : Nat)

abbrev Chain := List (Nat × Bool)

structure St where
  f : Nat → Option (LV × Chain)
  m : Nat → Option (List Value)

def St.put (s : St) (d : Option Nat) (l : LV) (ch : Chain) : St :=
  match d with
  | none => s
  | some d => { f := fun i => cond (Nat.beq i d) (some (l, ch)) (s.f i), m := s.m }

def St.putM (s : St) (k : Nat) (cs : List Value) : St :=
  { f := s.f, m := fun i => cond (Nat.beq i k) (some cs) (s.m i) }

def boolEq : Bool → Bool → Bool
  | true, b => b
  | false, true => false
  | false, false => true

def chEq : Chain → Chain → Bool
  | [], [] => true
  | (t, w) :: c, (u, x) :: d => cond (Nat.beq t u) (cond (boolEq w x) (chEq c d) false) false
  | _, _ => false

/-- The first chain is an end of the second one. -/
def sufx (c : Chain) : Chain → Bool
  | [] => match c with
    | [] => true
    | _ => false
  | p :: d => match c with
    | [] => true
    | _ => cond (chEq c (p :: d)) true (sufx c d)

def ev (s : St) (ch : Chain) : Operand → Option LV
  | .tmp t => match s.f t with
    | some (l, c) => cond (sufx c ch) (some l) none
    | none => none
  | .const v => some (.v v)
  | .global g => some (.v (.pointer (some ⟨g, 0, none⟩)))
  | .func f => some (.v (.func (.func f) #[] #[]))

/-- The test under which a guarded operation is carried out. -/
def cnd (s : St) : Chain → Option Bool
  | [] => none
  | [(t, w)] => match s.f t with
    | some (.v (.bool b), _) => some (cond w b (!b))
    | _ => some false
  | (t, w) :: p :: r => match s.f t with
    | some (.v (.bool b), _) => match cnd s (p :: r) with
      | some x => some (cond w (x && b) (x && !b))
      | none => some (cond w b (!b))
    | _ => some false

def Req (c : Option Bool) (p : Prop) : Prop :=
  match c with
  | none => p
  | some b => b = true → p

/-! What is asked, and what becomes -/

def okCells : List Value → Bool
  | [] => true
  | .agg _ :: _ => false
  | .tuple _ :: _ => false
  | _ :: r => okCells r


def LdIs (h : Hp) (a : Addr) (cs : List Value) : Prop := ∀ i v, cs[i]? = some v → hcell h (a.add i) = some v

def cellsL (v : Value) : List Value := match v with
  | .agg cs => cs.toList
  | v => [v]

def LdW (c : Option Bool) (sh : Shape) (h : Hp) (a : Addr) (K : sh.T → Prop) : Prop :=
  ∃ x, Req c (LdIs h a (cellsL (sh.enc x))) ∧ K x

def NilW (c : Option Bool) (p : Option Addr) (K : Addr → Prop) : Prop := ∃ a, Req c (p = some a) ∧ K a

/-- A semantic term that only reads, and comes to 'v'. -/
def SemIs (P : Program) (s : Sem Value) (h : Hp) (v : Value) : Prop := ∀ w, Sub h w → ∃ w', s.run P w = .ok v w' ∧ Step h h w w'

def SemV (c : Option Bool) (P : Program) (s : Sem Value) (sh : Shape) (h : Hp) (K : sh.T → Prop) : Prop :=
  ∃ x, Req c (SemIs P s h (sh.enc x)) ∧ K x

/-- A semantic term that may change memory. -/
def SemE (P : Program) (s : Sem Value) (sh : Shape) (K : sh.T → Hp → Prop) (h : Hp) : Prop :=
  semW P s (fun v h' => ∃ x, v = sh.enc x ∧ K x h') h

/-- The like of one that has no result. -/
def SemU (P : Program) (s : Sem Unit) (K : Hp → Prop) (h : Hp) : Prop := semW P s (fun _ h' => K h') h

def EffC {α : Type} (c : Option Bool) (A : (α → Hp → Prop) → Hp → Prop) (K : α → Hp → Prop) (h : Hp) : Prop :=
  match c with
  | none => A K h
  | some b => (b = true → A K h) ∧ (b = false → ∃ x, K x h)

def NewW (cs : List Value) (K : Addr → Hp → Prop) (h : Hp) : Prop :=
  ∀ b t, h b = none → K ⟨b, 0, none⟩ (h.set b (.cells cs.toArray t (0, 0)))

def putL (h : Hp) (a : Addr) : List Value → Nat → Hp
  | [], _ => h
  | v :: l, i => putL (h.put (a.add i) v) a l (i + 1)

def StOk (h : Hp) (a : Addr) : Nat → Prop
  | 0 => True
  | n + 1 => StOk h a n ∧ (∃ v, hcell h (a.add n) = some v) ∧ hfroz h (a.add n) = false

def StW (h : Hp) (a : Addr) (cs : List Value) (K : Hp → Prop) : Prop := StOk h a cs.length ∧ K (putL h a cs 0)

def CallE (P : Program) (g : FuncId) (args : List Value) (K : Value → Hp → Prop) (h : Hp) : Prop :=
  ∀ w, Sub h w → Calls P g args.toArray w (fun e w' => ∃ v h', e = .returned v ∧ K v h' ∧ Step h h' w w')

def CallT (P : Program) (g : FuncId) (args : List Value) (sh : Shape) (K : sh.T → Hp → Prop) (h : Hp) : Prop :=
  CallE P g args (fun v h' => ∃ x, v = sh.enc x ∧ K x h') h

/-- A call of a function value. -/
def CallV (P : Program) (tb : Tb) (f : Value) (args : List Value) (sh : Shape) (K : sh.T → Hp → Prop) (h : Hp) : Prop :=
  ∃ g first captured, f = .func (.func g) first captured ∧ tb.call g = true ∧ CallT P g (first.toList ++ args ++ captured.toList) sh K h

def JoinT {σ : Type} (A : (σ → Hp → Prop) → Prop) (B : σ → Hp → Prop) : Prop := ∃ R : σ → Hp → Prop, A R ∧ ∀ x h, R x h → B x h

def LoopT {σ : Type} (body : (σ → Hp → Prop) → σ → Hp → Prop) (x : σ) (h : Hp) : Prop :=
  ∃ (I : σ → Hp → Prop) (μ : σ → Hp → Nat), I x h ∧ ∀ x h, I x h → body (fun x' h' => I x' h' ∧ μ x' h' < μ x h) x h

def LetW {α : Type} (x : α) (K : α → Prop) : Prop := ∀ y, y = x → K y

/-- The cells from an address on. -/
def RdCells (h : Hp) (base : Option Addr) (n : Nat) (cs : List Value) : Prop :=
  cs.length = n ∧ (n = 0 ∨ ∃ a, base = some a ∧ LdIs h a cs)

def zerosL (zero : List Value) (n : Nat) : List Value := (List.replicate n zero).flatten

def putO (h : Hp) (base : Option Addr) (off : Nat) (cs : List Value) : Hp := match base with
  | some a => putL h (a.add off) cs 0
  | none => h

/-- The built-in append of cells. -/
def AppCells (size bytes : Nat) (zero : List Value) (l : Sl) (n : Nat) (new : List Value) (K : Sl → Hp → Prop) (h : Hp) : Prop :=
  ∃ old, RdCells h l.base (l.len * size) old ∧ (l.len + n ≤ 140737488355328 ∧ (l.len + n) * bytes ≤ 140737488355328) ∧
    okCells new = true ∧ (l.len + n ≤ l.cap → (∀ a, l.base = some a → StOk h (a.add (l.len * size)) (n * size)) ∧ K ⟨l.base, l.len + n, l.cap⟩ (putO h l.base (l.len * size) new)) ∧
    (l.cap < l.len + n → ∀ c b t, l.len + n ≤ c → h b = none →
      K ⟨some ⟨b, 0, none⟩, l.len + n, c⟩ (h.set b (.cells (old ++ new ++ zerosL zero (c - (l.len + n))).toArray t (0, 0))))

def AppendW (size bytes : Nat) (zero : List Value) (l x : Sl) (K : Sl → Hp → Prop) (h : Hp) : Prop :=
  ∃ new, RdCells h x.base (x.len * size) new ∧ AppCells size bytes zero l x.len new K h

/-- The built-in append of a number of zero values. -/
def AppendZW (size bytes : Nat) (zero : List Value) (l : Sl) (m : Int) (K : Sl → Hp → Prop) (h : Hp) : Prop :=
  0 ≤ m ∧ AppCells size bytes zero l m.toNat (zerosL zero m.toNat) K h

def bytesL (s : ByteArray) : List Value := s.data.toList.map fun b => .int .u8 b.toNat

def AppendStrW (l : Sl) (s : ByteArray) (K : Sl → Hp → Prop) (h : Hp) : Prop :=
  AppCells 1 1 [.int .u8 0] l s.size (bytesL s) K h

def CopyW (size : Nat) (d x : Sl) (K : Int → Hp → Prop) (h : Hp) : Prop :=
  ∃ new, RdCells h x.base (min x.len d.len * size) new ∧ okCells new = true ∧ (∀ a, d.base = some a → StOk h a (min x.len d.len * size)) ∧ K (min x.len d.len : Nat) (putO h d.base 0 new)

def MakeW (bytes : Nat) (zero : List Value) (len cap : Int) (K : Sl → Hp → Prop) (h : Hp) : Prop :=
  (0 ≤ len ∧ len ≤ cap ∧ cap ≤ 281474976710656 ∧ cap.toNat * bytes ≤ 281474976710656) ∧
    ∀ b t, h b = none → K ⟨some ⟨b, 0, none⟩, len.toNat, cap.toNat⟩ (h.set b (.cells (zerosL zero cap.toNat).toArray t (0, 0)))

/-- The bytes of a text, in new memory. -/
def BytesW (s : ByteArray) (K : Sl → Hp → Prop) (h : Hp) : Prop :=
  ∀ c b t, s.size ≤ c → h b = none →
    K ⟨some ⟨b, 0, none⟩, s.size, c⟩ (h.set b (.cells (bytesL s ++ zerosL [.int .u8 0] (c - s.size)).toArray t (c, c + 1)))

/-- The bytes of a text that was written out: their block is marked. -/
def MarkW (a : Option Addr) (K : Unit → Hp → Prop) (h : Hp) : Prop :=
  ∃ b off cs t, a = some ⟨b, off, none⟩ ∧ h b = some (.cells cs t (0, 0)) ∧ K () (h.set b (.cells cs t (cs.size, cs.size + 1)))

def MakeMapW (K : Option Nat → Hp → Prop) (h : Hp) : Prop := ∀ b, h b = none → K (some b) (h.set b (.map #[] 0))

/-- The entries of a map. -/
def MapAt (h : Hp) (m : Option Nat) (es : List MapEntry) : Prop :=
  (m = none ∧ es = []) ∨ ∃ r ck, m = some r ∧ h r = some (.map es.toArray ck)

def LookIs (kd : TypeDesc) (zero : Value) (m : Option Nat) (k : Value) (h : Hp) (v : Value) (ok : Bool) : Prop :=
  ∃ es, MapAt h m es ∧ ((Instr.findNow kd k es 0 = some none ∧ v = zero ∧ ok = false) ∨ ∃ i, Instr.findNow kd k es 0 = some (some (i, v)) ∧ ok = true)

/-- A look into a map whose keys are numbers, texts or truths. -/
def LookW (c : Option Bool) (kd : TypeDesc) (sh : Shape) (zero : Value) (m : Option Nat) (k : Value) (h : Hp) (K : sh.T → Bool → Prop) : Prop :=
  ∃ x ok, Req c (LookIs kd zero m k h (sh.enc x) ok) ∧ K x ok

def MapSetW (kd : TypeDesc) (m : Option Nat) (k v : Value) (K : Hp → Prop) (h : Hp) : Prop :=
  ∃ r es ck, m = some r ∧ h r = some (.map es ck) ∧
    ((Instr.findNow kd k es.toList 0 = some none ∧ K (h.set r (.map (es.push { key := k, val := v, born := ck }) (ck + 1)))) ∨
     ∃ i u, Instr.findNow kd k es.toList 0 = some (some (i, u)) ∧ K (h.set r (.map (es.modify i fun e => { e with key := k, val := v }) ck)))

def MapDelW (kd : TypeDesc) (m : Option Nat) (k : Value) (K : Hp → Prop) (h : Hp) : Prop :=
  (m = none ∧ K h) ∨ ∃ r es ck, m = some r ∧ h r = some (.map es ck) ∧
    ((Instr.findNow kd k es.toList 0 = some none ∧ K (h.set r (.map es ck))) ∨
     ∃ i u, Instr.findNow kd k es.toList 0 = some (some (i, u)) ∧ K (h.set r (.map (es.eraseIdxIfInBounds i) ck)))

def isKeyD : TypeDesc → Bool
  | .int _ | .string | .bool => true
  | _ => false

/-! Numbers -/
def bitsI (op : BinOp) (k : IntKind) (x y : Int) : Int :=
  match op with
  | .and => k.wrap ((BitVec.ofInt k.bits x &&& BitVec.ofInt k.bits y).toNat)
  | .or => k.wrap ((BitVec.ofInt k.bits x ||| BitVec.ofInt k.bits y).toNat)
  | .xor => k.wrap ((BitVec.ofInt k.bits x ^^^ BitVec.ofInt k.bits y).toNat)
  | _ => k.wrap ((BitVec.ofInt k.bits x &&& ~~~ BitVec.ofInt k.bits y).toNat)

def shlI (k : IntKind) (x y : Int) : Int := k.wrap (x * 2 ^ (min y.toNat k.bits))
def shrI (k : IntKind) (x y : Int) : Int := x.fdiv (2 ^ (min y.toNat k.bits))

def sat (base : Option Addr) (size : Nat) (i : Int) : Addr := (base.getD ⟨0, 0, none⟩).add (i.toNat * size)

def InB (base : Option Addr) (len : Nat) (i : Int) : Prop := base ≠ none ∧ 0 ≤ i ∧ i < (len : Int)

def sbase (base : Option Addr) (size l m : Nat) : Option Addr := if m = l then base else base.map (·.add (l * size))

/-- Two numbers of one kind. -/
def intW (c : Option Bool) (op : BinOp) (k : IntKind) (x y : Int) (K : LV → Prop) : Prop :=
  match op with
  | .add => K (.v (.int k (k.wrap (x + y))))
  | .sub => K (.v (.int k (k.wrap (x - y))))
  | .mul => K (.v (.int k (k.wrap (x * y))))
  | .quo => Req c (y ≠ 0) ∧ K (.v (.int k (k.wrap (x.tdiv y))))
  | .rem => Req c (y ≠ 0) ∧ K (.v (.int k (x.tmod y)))
  | .and => K (.v (.int k (bitsI .and k x y)))
  | .or => K (.v (.int k (bitsI .or k x y)))
  | .xor => K (.v (.int k (bitsI .xor k x y)))
  | .andNot => K (.v (.int k (bitsI .andNot k x y)))
  | .eql => K (.v (.bool (x == y)))
  | .neq => K (.v (.bool (x != y)))
  | .lss => K (.v (.bool (decide (x < y))))
  | .leq => K (.v (.bool (decide (x ≤ y))))
  | .gtr => K (.v (.bool (decide (x > y))))
  | .geq => K (.v (.bool (decide (x ≥ y))))
  | _ => False

/-- A semantic term that only reads: its result by the operation's type. -/
def genV (c : Option Bool) (P : Program) (tb : Tb) (t : Nat) (s : Sem Value) (h : Hp) (K : LV → Prop) : Prop :=
  match tb.ty t with
  | some e => SemV c P s e.sh h (fun x => K (.v (e.sh.enc x)))
  | none => False

def binS (op : BinOp) (t : Nat) (x y : Operand) (a b : Value) : Sem Value := do eqGuard op t x y a b; binOp op t a b

def isNilOp : Operand → Bool
  | .const (.pointer none) | .const (.slice none _ _) | .const (.map none) | .const .nilFunc | .const .nilIface => true
  | _ => false

/-- Is it nil? -/
def nilW (op : BinOp) (b : Bool) (K : LV → Prop) : Prop :=
  match op with
  | .eql => K (.v (.bool b))
  | .neq => K (.v (.bool (!b)))
  | _ => False

def isNilIface : Value → Bool
  | .nilIface => true
  | _ => false

def isNilIf : Operand → Bool
  | .const .nilIface => true
  | _ => false

def isIfD (tb : Tb) (t : Nat) : Bool := match tb.ty t with
  | some e => match e.und with
    | .interface _ => true
    | _ => false
  | none => false

def isIfV : Value → Bool
  | .nilIface => true
  | .iface _ _ => true
  | _ => false

def binW0 (c : Option Bool) (P : Program) (tb : Tb) (op : BinOp) (t : Nat) (x y : Operand) (rt : Nat) (a b : Value) (h : Hp) (K : LV → Prop) : Prop :=
  match a, b with
  | .int k m, .int k' n =>
    match op with
    | .shl => Req c (0 ≤ n) ∧ K (.v (.int k (shlI k m n)))
    | .shr => Req c (0 ≤ n) ∧ K (.v (.int k (shrI k m n)))
    | op => cond (kEq k k') (intW c op k m n K) False
  | .bool m, .bool n => match tb.ty t with
    | some e => match e.und, op with
      | .bool, .eql => K (.v (.bool (m == n)))
      | .bool, .neq => K (.v (.bool (!(m == n))))
      | _, _ => False
    | none => False
  | .string m, .string n => match op with
    | .eql => K (.v (.bool (m.toList == n.toList)))
    | .neq => K (.v (.bool (!(m.toList == n.toList))))
    | .add => Req c (m.size + n.size ≤ 9223372036854775807) ∧ K (.v (.string (m ++ n)))
    | _ => genV c P tb rt (binS op t x y (.string m) (.string n)) h K
  | .pointer p, .pointer q => cond (isNilOp y) (match tb.ty t with
    | some e => match e.und with
      | .pointer _ => nilW op p.isNone K
      | _ => False
    | none => False) (genV c P tb rt (binS op t x y (.pointer p) (.pointer q)) h K)
  | a, b => genV c P tb rt (binS op t x y a b) h K

/-- An interface's value is held against nil by its form; all else as above. -/
def binW (c : Option Bool) (P : Program) (tb : Tb) (op : BinOp) (t : Nat) (x y : Operand) (rt : Nat) (a b : Value) (h : Hp) (K : LV → Prop) : Prop :=
  cond (isNilIf y) (cond (isIfD tb t) (Req c (isIfV a = true) ∧ nilW op (isNilIface a) K) (binW0 c P tb op t x y rt a b h K)) (binW0 c P tb op t x y rt a b h K)

def onL (l : Option LV) (K : LV → Prop) : Prop := match l with
  | some l => K l
  | none => False

def onV (l : Option LV) (K : Value → Prop) : Prop := match l with
  | some (.v x) => K x
  | _ => False

def vals (s : St) (ch : Chain) : List Operand → Option (List Value)
  | [] => some []
  | x :: l => match ev s ch x, vals s ch l with
    | some (.v v), some r => some (v :: r)
    | _, _ => none

def onVs (l : Option (List Value)) (K : List Value → Prop) : Prop := match l with
  | some l => K l
  | none => False

def fieldOf (tb : Tb) (t i : Nat) (K : Nat → Nat → Prop) : Prop :=
  match tb.ty t with
  | some e => match e.und with
    | .struct fs => match nth fs.toList i with
      | some f => match tb.ty f.type with
        | some g => match g.size with
          | 0 => False
          | n + 1 => K f.offset (n + 1)
        | none => False
      | none => False
    | _ => False
  | none => False

/-- The elements of a slice's type. -/
def elemS (tb : Tb) (t : Nat) : Option Ty :=
  match tb.ty t with
  | some e => match e.und with
    | .slice u => tb.ty u
    | _ => none
  | none => none

/-- An array's type: how many, of which type. -/
def elemA (tb : Tb) (t : Nat) : Option (Nat × Ty) :=
  match tb.ty t with
  | some e => match e.und with
    | .array n u => match tb.ty u with
      | some g => some (n, g)
      | none => none
    | _ => none
  | none => none

/-- A part of a row of cells, of some type. -/
def partW (tb : Tb) (t : Nat) (cs : List Value) (off : Nat) (K : LV → Prop) : Prop :=
  match tb.ty t with
  | some e => cond (isAggD e.und) (cond (Nat.ble (off + e.size) cs.length) (K (.v (.agg (takeL (dropL cs off) e.size).toArray))) False)
    (match nth cs off with
      | some v => K (.v v)
      | none => False)
  | none => False

def isConstOp : Operand → Bool
  | .const _ => true
  | _ => false

def tysIn (tb : Tb) : List Field → Bool
  | [] => true
  | f :: r => match tb.ty f.type with
    | some _ => tysIn tb r
    | none => false

/-- The parts of a struct, laid over its zero value. -/
def fillW (tb : Tb) (fs : List Field) (cs : List Value) : List (Nat × Value) → Option (List Value)
  | [] => some cs
  | (i, v) :: r => match nth fs i with
    | some f => match tb.ty f.type with
      | some e => cond (Nat.beq (cellsL v).length e.size) (cond (Nat.ble (f.offset + e.size) cs.length) (fillW tb fs (layL cs f.offset (cellsL v)) r) none) none
      | none => none
    | none => none

def fillA (size : Nat) (cs : List Value) : List (Nat × Value) → Option (List Value)
  | [] => some cs
  | (i, v) :: r => cond (Nat.beq (cellsL v).length size) (cond (Nat.ble (i * size + size) cs.length) (fillA size (layL cs (i * size) (cellsL v)) r) none) none

def pairs (s : St) (ch : Chain) : List (Nat × Operand) → Option (List (Nat × Value))
  | [] => some []
  | (i, x) :: l => match ev s ch x, pairs s ch l with
    | some (.v v), some r => some ((i, v) :: r)
    | _, _ => none

def repL {α : Type _} (l : List α) : Nat → List α
  | 0 => []
  | n + 1 => l ++ repL l n

/-- Bounds of a slice expression. -/
def slB (c : Option Bool) (isSlice : Bool) (len cap : Nat) (lo hi mx : Option Int) (K : Nat → Nat → Nat → Prop) : Prop :=
  match lo, hi, mx with
  | none, none, none => K 0 len cap
  | some l, none, none => Req c (0 ≤ l ∧ l ≤ (len : Int)) ∧ K l.toNat len cap
  | none, some x, none => Req c (0 ≤ x ∧ x ≤ (cap : Int)) ∧ K 0 x.toNat cap
  | some l, some x, none => Req c (0 ≤ l ∧ l ≤ x ∧ x ≤ (cap : Int)) ∧ K l.toNat x.toNat cap
  | none, some x, some m => Req c (0 ≤ x ∧ x ≤ m ∧ m ≤ (cap : Int)) ∧ K 0 x.toNat m.toNat
  | some l, some x, some m => Req c (0 ≤ l ∧ l ≤ x ∧ x ≤ m ∧ m ≤ (cap : Int)) ∧ K l.toNat x.toNat m.toNat
  | _, none, some _ => isSlice = !isSlice

def optI (s : St) (ch : Chain) : Option Operand → Option (Option Int)
  | none => some none
  | some x => match ev s ch x with
    | some (.v (.int _ n)) => some (some n)
    | _ => none

def sliceW (c : Option Bool) (tb : Tb) (t : Nat) (x : Value) (lo hi mx : Option Int) (K : LV → Prop) : Prop :=
  match x with
  | .slice base len cap => match elemS tb t with
    | some e => slB c true len cap lo hi mx fun l n m => LetW (⟨sbase base e.size l m, n - l, m - l⟩ : Sl) fun y => K (.v (.slice y.base y.len y.cap))
    | none => False
  | .string b => match tb.ty t, mx with
    | some e, none => match e.und with
      | .string => slB c false b.size b.size lo hi none fun l n _ => K (.v (.string (b.extract l n)))
      | _ => False
    | _, _ => False
  | _ => False

def lenW (c : Option Bool) (P : Program) (tb : Tb) (ty rt : Nat) (x : Value) (h : Hp) (K : LV → Prop) : Prop :=
  match tb.ty ty with
  | some e => match e.und, x with
    | .string, .string b => K (.v (.int .i64 (b.size : Int)))
    | .slice _, .slice _ n _ => K (.v (.int .i64 (n : Int)))
    | .array n _, _ => K (.v (.int .i64 (n : Int)))
    | _, _ => genV c P tb rt (Builtin.len_ #[ty] rt #[x]) h K
  | none => False

def minI (lt : Int → Int → Int) (k : IntKind) (x : Int) : List Value → Option Value
  | [] => some (.int k x)
  | .int _ y :: r => minI lt k (lt x y) r
  | _ => none

def min2I (x y : Int) : Int := if y < x then y else x
def max2I (x y : Int) : Int := if y > x then y else x

def unW (op : UnOp) (x : Value) (K : LV → Prop) : Prop :=
  match op, x with
  | .not, .bool b => K (.v (.bool !b))
  | .neg, .int k n => K (.v (.int k (k.wrap (0 - n))))
  | .xor, .int k n => K (.v (.int k (bitsI .xor k (if k.signed then -1 else k.max) n)))
  | _, _ => False

/-- The operand of a pick, under the test. -/
def evPick (s : St) (ch : Chain) (t : Nat) (w : Bool) (x : Operand) : Option LV :=
  match x with
  | .tmp u => match s.f u with
    | some (l, c) => cond (sufx c ((t, w) :: ch)) (some l) none
    | none => none
  | .const v => some (.v v)
  | _ => none

def pickW (s : St) (ch : Chain) (x a b : Operand) (K : LV → Prop) : Prop :=
  match x with
  | .tmp t => match s.f t with
    | some (.v (.bool p), c0) => cond (sufx c0 ch)
      (match a, b with
        | .tmp _, .const (.bool false) => onV (evPick s ch t true a) fun v => match v with
          | .bool q => LetW (p && q) fun y => K (.v (.bool y))
          | _ => False
        | .const (.bool true), .tmp _ => onV (evPick s ch t false b) fun v => match v with
          | .bool q => LetW (p || q) fun y => K (.v (.bool y))
          | _ => False
        | .const (.bool true), .const (.bool false) => K (.v (.bool p))
        | .const (.bool x), .const (.bool y) => K (.v (.bool (cond p x y)))
        | _, _ => False) False
    | _ => False
  | _ => False

def biV (c : Option Bool) (P : Program) (tb : Tb) (b : Builtin) (vs : List Value) (ts : List TypeId) (rt : Nat) (h : Hp) (K : LV → Prop) : Prop :=
  match b, vs, ts with
  | .len, [x], [ty] => lenW c P tb ty rt x h K
  | .cap, [.slice _ _ c], [ty] => match tb.ty ty with
    | some e => match e.und with
      | .slice _ => K (.v (.int .i64 (c : Int)))
      | _ => False
    | none => False
  | .min, .int k x :: r, _ => match minI min2I k x r with
    | some v => K (.v v)
    | none => False
  | .max, .int k x :: r, _ => match minI max2I k x r with
    | some v => K (.v v)
    | none => False
  | _, _, _ => False

/-- The like of 'Int.toNat', which is reckoned out where a number stands. -/
def natOf (n : Int) : Nat := match n with
  | .ofNat m => m
  | .negSucc _ => 0

theorem natOf_eq (n : Int) : natOf n = n.toNat := by cases n <;> rfl

/-- An element of an array that is a value. -/
def idxW (c : Option Bool) (tb : Tb) (t : Nat) (cs : List Value) (n : Int) (K : LV → Prop) : Prop :=
  match elemA tb t with
  | some (len, e) => cond (isAggD e.und) False (Req c (0 ≤ n ∧ n < (len : Int)) ∧ ∃ x, Req c (cs[n.toNat * e.size]? = some (e.sh.enc x)) ∧ K (.v (e.sh.enc x)))
  | none => False

/-- Operations that change nothing. -/
def valW (P : Program) (tb : Tb) (o : Oper) (ch : Chain) (s : St) (h : Hp) (K : LV → Prop) : Prop :=
  match o.op with
  | .move x => onL (ev s ch x) K
  | .assign x => onL (ev s ch x) K
  | .pick x a b => pickW s ch x a b K
  | .extract x i => onV (ev s ch x) fun v => match v with
    | .tuple vs => match nth vs.toList i with
      | some y => K (.v y)
      | none => False
    | _ => False
  | .binOp op t x y _ => onV (ev s ch x) fun a => onV (ev s ch y) fun b => binW (cnd s ch) P tb op t x y o.type a b h K
  | .unOp op _ x => onV (ev s ch x) fun a => unW op a K
  | .nilCheck x => match ev s ch x with
    | some (.v (.pointer p)) => NilW (cnd s ch) p fun a => K (.v (.pointer (some a)))
    | some (.box k off) => K (.box k off)
    | some (.boxd k off) => K (.boxd k off)
    | _ => False
  | .load t x => match ev s ch x with
    | some (.v (.pointer (some a))) => match tb.ty t with
      | some e => LdW (cnd s ch) e.sh h a fun x => K (.v (e.sh.enc x))
      | none => False
    | some (.box k off) => match s.m k with
      | some cs => partW tb t cs off K
      | none => False
    | some (.boxd k off) => match s.m k, tb.ty t with
      | some cs, some e => cond (isAggD e.und) False (∃ x, Req (cnd s ch) (cs[off]? = some (e.sh.enc x)) ∧ K (.v (e.sh.enc x)))
      | _, _ => False
    | _ => False
  | .fieldAddr t x i => fieldOf tb t i fun off _ => match ev s ch x with
    | some (.v (.pointer (some a))) => K (.v (.pointer (some (a.add off))))
    | some (.box k o) => K (.box k (o + off))
    | some (.boxd k o) => K (.boxd k (o + off))
    | _ => False
  | .field t x i => match tb.ty t with
    | some e => match e.und with
      | .struct fs => match nth fs.toList i with
        | some f => onV (ev s ch x) fun v => match v with
          | .agg cs => partW tb f.type cs.toList f.offset K
          | _ => False
        | none => False
      | _ => False
    | none => False
  | .indexAddr t x i => match ev s ch x, ev s ch i with
    | some (.v (.slice base len _)), some (.v (.int _ n)) => match elemS tb t with
      | some e => Req (cnd s ch) (InB base len n) ∧ K (.v (.pointer (some (sat base e.size n))))
      | none => False
    | some (.v (.pointer (some a))), some (.v (.int _ n)) => match elemA tb t with
      | some (len, e) => Req (cnd s ch) (0 ≤ n ∧ n < (len : Int)) ∧ K (.v (.pointer (some (a.add (n.toNat * e.size)))))
      | none => False
    | some (.box k off), some (.v (.int _ n)) => match elemA tb t with
      | some (len, e) => Req (cnd s ch) (0 ≤ n ∧ n < (len : Int)) ∧ cond (isConstOp i) (K (.box k (off + natOf n * e.size))) (K (.boxd k (off + n.toNat * e.size)))
      | none => False
    | _, _ => False
  | .index t x i => match ev s ch x, ev s ch i with
    | some (.v (.string b)), some (.v (.int _ n)) => match tb.ty t with
      | some y => match y.und with
        | .string => Req (cnd s ch) (0 ≤ n ∧ n < (b.size : Int)) ∧ K (.v (.int .u8 ((b.data.toList.getD n.toNat 0).toNat : Int)))
        | _ => False
      | none => False
    | some (.v (.agg cs)), some (.v (.int _ n)) => idxW (cnd s ch) tb t cs.toList n K
    | _, _ => False
  | .slice t x lo hi mx => onV (ev s ch x) fun v => match optI s ch lo, optI s ch hi, optI s ch mx with
    | some lo, some hi, some mx => sliceW (cnd s ch) tb t v lo hi mx K
    | _, _, _ => False
  | .makeInterface t x => onV (ev s ch x) fun v => match tb.ty t with
    | some e => match e.und with
      | .interface _ => False
      | _ => K (.v (.iface t v))
    | none => False
  | .makeFunc fn first captured => onVs (vals s ch first.toList) fun a => onVs (vals s ch captured.toList) fun b => K (.v (.func fn a.toArray b.toArray))
  | .convert src dst x => onV (ev s ch x) fun v => match tb.ty src, tb.ty dst, v with
    | some _, some e, .int _ n => match e.und with
      | .int k => K (.v (.int k (k.wrap n)))
      | _ => genV (cnd s ch) P tb dst (convert src dst v) h K
    | some _, some _, v => genV (cnd s ch) P tb dst (convert src dst v) h K
    | _, _, _ => False
  | .build t parts => onVs ((pairs s ch parts.toList).map fun _ => []) fun _ => match pairs s ch parts.toList, tb.ty t with
    | some ps, some e => match e.und with
      | .struct fs => cond (tysIn tb fs.toList) (match fillW tb fs.toList (cellsL e.zero) ps with
        | some cs => K (.v (.agg cs.toArray))
        | none => False) False
      | .array _ u => match tb.ty u with
        | some g => match fillA g.size (cellsL e.zero) ps with
          | some cs => K (.v (.agg cs.toArray))
          | none => False
        | none => False
      | _ => False
    | _, _ => False
  | .lookup t x i ok => onV (ev s ch x) fun a => onV (ev s ch i) fun b => match a, tb.ty t with
    | .map m, some e => match e.und with
      | .map k u => match tb.ty k, tb.ty u with
        | some ke, some ue => cond (isKeyD ke.und) (LookW (cnd s ch) ke.und ue.sh ue.zero m b h fun x y => cond ok (K (.v (.tuple #[ue.sh.enc x, .bool y]))) (K (.v (ue.sh.enc x))))
            (genV (cnd s ch) P tb o.type (Instr.lookup t a b ok) h K)
        | _, _ => False
      | _ => False
    | _, _ => False
  | .call { callee := .builtin b, args := xs, argTypes := ts } => onVs (vals s ch xs.toList) fun vs => biV (cnd s ch) P tb b vs ts.toList o.type h K
  | _ => False

/-- What an operation that changes nothing looks at: nothing, the private variables, all memory. -/
inductive Kd where
  | pure
  | box
  | mem

def kindD (tb : Tb) (o : Oper) (ch : Chain) (s : St) : Kd :=
  match o.op with
  | .load _ x => match ev s ch x with
    | some (.box _ _) => .box
    | some (.boxd _ _) => .box
    | _ => .mem
  | .lookup .. => .mem
  | .binOp op _ x y _ => match ev s ch x, ev s ch y with
    | some (.v (.int _ _)), some (.v (.int _ _)) => .pure
    | some (.v (.bool _)), some (.v (.bool _)) => .pure
    | some (.v (.string _)), some (.v (.string _)) => match op with
      | .eql => .pure
      | .neq => .pure
      | .add => .pure
      | _ => .mem
    | some (.v (.pointer _)), some (.v (.pointer _)) => cond (isNilOp y) .pure .mem
    | _, _ => .mem
  | .convert _ d x => match ev s ch x, tb.ty d with
    | some (.v (.int _ _)), some e => match e.und with
      | .int _ => .pure
      | _ => .mem
    | _, _ => .mem
  | .call { callee := .builtin .len, args := xs, argTypes := ts } => match vals s ch xs.toList, ts.toList with
    | some [x], [t] => match tb.ty t with
      | some e => match e.und, x with
        | .string, .string _ => .pure
        | .slice _, .slice _ _ _ => .pure
        | .array _ _, _ => .pure
        | _, _ => .mem
      | none => .mem
    | _, _ => .mem
  | _ => .pure

/-- A semantic term that may change memory: its result by the operation's type. -/
def genE (c : Option Bool) (P : Program) (tb : Tb) (t : Nat) (s : Sem Value) (K : LV → Hp → Prop) (h : Hp) : Prop :=
  match tb.ty t with
  | some e => EffC c (fun (K : e.sh.T → Hp → Prop) h => SemE P s e.sh K h) (fun x h' => K (.v (e.sh.enc x)) h') h
  | none => False

/-- The like, its result by a shape. -/
def shE (c : Option Bool) (P : Program) (sh : Shape) (s : Sem Value) (K : LV → Hp → Prop) (h : Hp) : Prop :=
  EffC c (fun (K : sh.T → Hp → Prop) h => SemE P s sh K h) (fun x h' => K (.v (sh.enc x)) h') h

def mapSetW (P : Program) (tb : Tb) (c : Option Bool) (t : Nat) (x y z : Option LV) (K : LV → Hp → Prop) (h : Hp) : Prop :=
  onV x fun a => onV y fun b => onV z fun v => match a, tb.ty t with
    | .map m, some e => match e.und with
      | .map k _ => match tb.ty k with
        | some ke => EffC c (fun (K : Unit → Hp → Prop) h => cond (isKeyD ke.und) (MapSetW ke.und m b v (K ()) h) (SemU P (Instr.mapUpdate t a b v) (K ()) h)) (fun _ h' => K (.v (.tuple #[])) h') h
        | none => False
      | _ => False
    | _, _ => False

/-- Operations that may change memory, other than a store into a variable that nobody else knows. -/
def appW (tb : Tb) (c : Option Bool) (ts : List TypeId) (vs : List Value) (h : Hp) (K : LV → Hp → Prop) : Prop :=
  match vs, ts with
  | [.slice p n c1, .slice p' n' c'], [t, t'] => match elemS tb t, elemS tb t' with
    | some e, some _ => EffC c (AppendW e.size e.bytes (cellsL e.zero) ⟨p, n, c1⟩ ⟨p', n', c'⟩) (fun l h' => K (.v (.slice l.base l.len l.cap)) h') h
    | _, _ => False
  | [.slice p n c1, .string x], [t, t'] => match elemS tb t, tb.ty t' with
    | some e, some e' => match e.und, e'.und with
      | .int .u8, .string => cond (Nat.beq e.bytes 1) (EffC c (AppendStrW ⟨p, n, c1⟩ x) (fun l h' => K (.v (.slice l.base l.len l.cap)) h') h) False
      | _, _ => False
    | _, _ => False
  | [.slice p n c1, .int .i64 m], [t, t'] => match elemS tb t, tb.ty t' with
    | some e, some e' => match e'.und with
      | .int .i64 => EffC c (AppendZW e.size e.bytes (cellsL e.zero) ⟨p, n, c1⟩ m) (fun l h' => K (.v (.slice l.base l.len l.cap)) h') h
      | _ => False
    | _, _ => False
  | _, _ => False

def copyW (P : Program) (tb : Tb) (ty : Nat) (c : Option Bool) (ts : Array TypeId) (vs : List Value) (h : Hp) (K : LV → Hp → Prop) : Prop :=
  match vs, ts.toList with
  | [.slice p n c1, .slice p' n' c'], [t, _] => match elemS tb t with
    | some e => EffC c (CopyW e.size ⟨p, n, c1⟩ ⟨p', n', c'⟩) (fun k h' => K (.v (.int .i64 k)) h') h
    | none => False
  | _, _ => genE c P tb ty (Builtin.copy_ ts ty vs.toArray) K h

def delW (P : Program) (tb : Tb) (ty : Nat) (c : Option Bool) (ts : Array TypeId) (vs : List Value) (h : Hp) (K : LV → Hp → Prop) : Prop :=
  match vs, ts.toList with
  | [.map m, k], [t, _] => match tb.ty t with
    | some e => match e.und with
      | .map kt _ => match tb.ty kt with
        | some ke => cond (isKeyD ke.und) (EffC c (fun (K : Unit → Hp → Prop) h => MapDelW ke.und m k (K ()) h) (fun _ h' => K (.v (.tuple #[])) h') h)
            (genE c P tb ty (Builtin.delete_ ts ty vs.toArray) K h)
        | none => False
      | _ => False
    | none => False
  | _, _ => False

def callFW (P : Program) (tb : Tb) (ty : Nat) (c : Option Bool) (g : FuncId) (vs : List Value) (h : Hp) (K : LV → Hp → Prop) : Prop :=
  match tb.ty ty with
  | some e => cond (tb.call g) (EffC c (CallT P g vs e.sh) (fun x h' => K (.v (e.sh.enc x)) h') h) (match tb.ext g with
    | some f => EffC c (fun (K : e.sh.T → Hp → Prop) h => SemE P (f vs.toArray) e.sh K h) (fun x h' => K (.v (e.sh.enc x)) h') h
    | none => False)
  | none => False

def callTW (P : Program) (tb : Tb) (ty : Nat) (c : Option Bool) (fv : Option LV) (vs : List Value) (h : Hp) (K : LV → Hp → Prop) : Prop :=
  match tb.ty ty with
  | some e => onV fv fun fv => EffC c (CallV P tb fv vs e.sh) (fun x h' => K (.v (e.sh.enc x)) h') h
  | none => False

def effW (P : Program) (tb : Tb) (o : Oper) (ch : Chain) (s : St) (h : Hp) (K : LV → Hp → Prop) : Prop :=
  match o.op with
  | .store t x y => match ev s ch x, ev s ch y with
    | some (.v (.pointer (some a))), some (.v v) => match ch, tb.ty t with
      | [], some e => cond (Nat.beq (cellsL v).length e.size) (cond (okCells (cellsL v)) (StW h a (cellsL v) fun h' => K (.v (.tuple #[])) h') False) False
      | _, _ => False
    | _, _ => False
  | .alloc t => match tb.ty t with
    | some e => EffC (cnd s ch) (NewW (cellsL e.zero)) (fun a h' => K (.v (.pointer (some a))) h') h
    | none => False
  | .box _ x => onV (ev s ch x) fun v => EffC (cnd s ch) (NewW (cellsL v)) (fun a h' => K (.v (.pointer (some a))) h') h
  | .buildSlice t len parts => match pairs s ch parts.toList, elemS tb t with
    | some ps, some e => cond (Nat.ble (len * e.size) 16777216) (match fillA e.size (repL (cellsL e.zero) len) ps with
      | some cs => EffC (cnd s ch) (NewW cs) (fun a h' => K (.v (.slice (some a) len len)) h') h
      | none => False) False
    | _, _ => False
  | .makeMap _ none => EffC (cnd s ch) MakeMapW (fun m h' => K (.v (.map m)) h') h
  | .makeSlice t x y => onV (ev s ch x) fun a => onV (ev s ch y) fun b => match a, b, elemS tb t with
    | .int .i64 m, .int .i64 n, some e => EffC (cnd s ch) (MakeW e.bytes (cellsL e.zero) m n) (fun l h' => K (.v (.slice l.base l.len l.cap)) h') h
    | _, _, _ => False
  | .mapUpdate t x y z => mapSetW P tb (cnd s ch) t (ev s ch x) (ev s ch y) (ev s ch z) K h
  | .insert t x y z => mapSetW P tb (cnd s ch) t (ev s ch x) (ev s ch y) (ev s ch z) K h
  | .mapEntry t x y => onV (ev s ch x) fun a => onV (ev s ch y) fun b => genE (cnd s ch) P tb o.type (Instr.mapEntry t a b) K h
  | .entryStore t x y z => onV (ev s ch x) fun a => onV (ev s ch y) fun b => onV (ev s ch z) fun c =>
    EffC (cnd s ch) (fun (K : Unit → Hp → Prop) h => SemU P (Instr.entryStore t a b c) (K ()) h) (fun _ h' => K (.v (.tuple #[])) h') h
  | .range t x => onV (ev s ch x) fun a => shE (cnd s ch) P shPtr (Instr.range t a) K h
  | .next x b => onV (ev s ch x) fun a => shE (cnd s ch) P shNext (Instr.next a b o.type) K h
  | .convert src dst x => onV (ev s ch x) fun v => match v, tb.ty src, elemS tb dst with
    | .string b, some e, some g => match e.und, g.und with
      | .string, .int .u8 => EffC (cnd s ch) (BytesW b) (fun l h' => K (.v (.slice l.base l.len l.cap)) h') h
      | _, _ => False
    | .slice p n c, some e, some g => match e.und, g.und with
      | .slice _, .int .u8 => cond (Nat.beq src dst) (EffC (cnd s ch) (MarkW p) (fun _ h' => K (.v (.slice p n c)) h') h) False
      | _, _ => False
    | _, _, _ => False
  | .call { callee := .builtin b, args := xs, argTypes := ts } => onVs (vals s ch xs.toList) fun vs => match b with
    | .append => appW tb (cnd s ch) ts.toList vs h K
    | .copy => copyW P tb o.type (cnd s ch) ts vs h K
    | .delete => delW P tb o.type (cnd s ch) ts vs h K
    | .clear => genE (cnd s ch) P tb o.type (Builtin.clear_ ts o.type vs.toArray) K h
    | _ => False
  | .call { callee := .value f, args := xs, argTypes := _ } => onVs (vals s ch xs.toList) fun vs => match f with
    | .func g => callFW P tb o.type (cnd s ch) g vs h K
    | .tmp t => callTW P tb o.type (cnd s ch) (ev s ch (.tmp t)) vs h K
    | _ => False
  | _ => False

end Lf

/-
  The lifting layer, part 3: regions and code.
-/
namespace Lf
open Go

/-- A conversion that makes no memory. -/
def numConv (tb : Tb) (o : Oper) : Bool :=
  match o.op with
  | .convert s d _ => match tb.ty s, tb.ty d with
    | some a, some b => match a.und, b.und with
      | .int _, .int _ | .int _, .float _ | .float _, .int _ | .float _, .float _ | .int _, .string | .slice _, .string | .string, .string => true
      | _, _ => false
    | _, _ => false
  | _ => false

/-- Does an operation leave memory alone? (Else it may change it.) -/
def isVal (tb : Tb) (o : Oper) : Bool :=
  match o.op with
  | .move _ | .assign _ | .pick .. | .extract .. | .binOp .. | .unOp .. | .nilCheck _ | .load .. | .fieldAddr .. | .field .. | .indexAddr .. | .index ..
  | .slice .. | .makeInterface .. | .makeFunc .. | .build .. | .lookup .. => true
  | .convert .. => numConv tb o
  | .call { callee := .builtin b, .. } => match b with
    | .len | .cap | .min | .max => true
    | _ => false
  | _ => false

def has (l : List Nat) (i : Nat) : Bool :=
  match l with
  | [] => false
  | a :: r => cond (Nat.beq i a) true (has r i)

/-- The slots that operations may write. -/
def modsO : List Oper → List Nat
  | [] => []
  | o :: r => match o.dst with
    | some d => d :: modsO r
    | none => modsO r

def app {α : Type _} : List α → List α → List α
  | [], l => l
  | a :: r, l => a :: app r l

def allIn : List Nat → List Nat → Bool
  | [], _ => true
  | a :: r, l => cond (has l a) (allIn r l) false

/-- What is told of a function's own variables: which slots hold the address of one that nobody else knows, which of those may change now. -/
structure Ctx where
  P : Program
  tb : Tb
  priv : List Nat

def dstIn (l : List Nat) (o : Oper) : Option Nat :=
  match o.dst with
  | some d => cond (has l d) (some d) none
  | none => none

/-- The chain of tests under which an operation is carried out. -/
def chainOf (ops : List Oper) : Nat → Oper → Option Chain
  | 0, _ => none
  | n + 1, o => match o.guard with
    | none => some []
    | some (j, w) => match nth ops j with
      | some p => match p.dst, chainOf ops n p with
        | some d, some c => some ((d, w) :: c)
        | _, _ => none
      | none => none

def AgainLook (C : Ctx) (t : Nat) (a b : Value) (ok : Bool) (h : Hp) (v : Value) : Prop :=
  match a, C.tb.ty t with
  | .map m, some e => match e.und with
    | .map k u => match C.tb.ty k, C.tb.ty u with
      | some ke, some ue => cond (isKeyD ke.und) (cond ok (match v with
          | .tuple ⟨[x, .bool y]⟩ => LookIs ke.und ue.zero m b h x y
          | _ => False) (∃ y, LookIs ke.und ue.zero m b h v y)) (SemIs C.P (Instr.lookup t a b ok) h v)
      | _, _ => False
    | _ => False
  | _, _ => False

/-- The operation reads the same again. -/
def Again (C : Ctx) (mch : Nat → Bool) (o : Oper) (ch : Chain) (s : St) (h : Hp) : Prop :=
  match o.op, o.dst with
  | .load _ x, some d => match s.f d with
    | some (.v v, _) => match ev s ch x with
      | some (.v (.pointer (some a))) => Req (cnd s ch) (LdIs h a (cellsL v))
      | some (.box b _) => cond (mch b) False True
      | some (.boxd b _) => cond (mch b) False True
      | _ => False
    | _ => False
  | .lookup t x i ok, some d => match s.f d with
    | some (.v v, _) => onV (ev s ch x) fun a => onV (ev s ch i) fun b => Req (cnd s ch) (AgainLook C t a b ok h v)
    | _ => False
  | .call { callee := .builtin .len, args := xs, argTypes := ts }, some d => match s.f d with
    | some (.v v, _) => match vals s ch xs.toList with
      | some [x] => Req (cnd s ch) (SemIs C.P (Builtin.len_ ts o.type #[x]) h v)
      | _ => False
    | _ => False
  | _, _ => False

def AgainAll (C : Ctx) (mch : Nat → Bool) (ops : List Oper) (s : St) (h : Hp) : List Nat → Prop
  | [] => True
  | r :: l => (match nth ops r with
      | some o => match chainOf ops ops.length o with
        | some ch => Again C mch o ch s h
        | none => False
      | none => False) ∧ AgainAll C mch ops s h l

/-- The slots of a chain hold tests, each under its own chain. -/
def guardOk (s : St) : Chain → Bool
  | [] => true
  | (d, _) :: c => match s.f d with
    | some (.v (.bool _), c') => cond (chEq c' c) (guardOk s c) false
    | _ => false

def notIn (l : List Nat) : List Nat → Bool
  | [] => true
  | a :: r => cond (has l a) false (notIn l r)

def nodup : List Nat → Bool
  | [] => true
  | a :: r => cond (has r a) false (nodup r)

def noGuard : List Oper → Bool
  | [] => true
  | o :: r => match o.guard with
    | none => noGuard r
    | some _ => false

/-- The type under which a part of a tuple is taken out of a slot. -/
def partTy (d i : Nat) : List Oper → Option Nat
  | [] => none
  | o :: r => match o.op with
    | .extract (.tmp t) j => cond (Nat.beq t d) (cond (Nat.beq j i) (some o.type) (partTy d i r)) (partTy d i r)
    | _ => partTy d i r

def shPart (tb : Tb) (d i : Nat) (ops : List Oper) : Shape := match partTy d i ops with
  | some t => match tb.ty t with
    | some e => e.sh
    | none => shVal
  | none => shVal

/-- The entry that a step over a map has come to. -/
def entW (C : Ctx) (ops : List Oper) (o : Oper) (ch : Chain) (s : St) (h : Hp) (K : LV → Hp → Prop) : Prop :=
  match o.op, o.dst with
  | .entry x, some d => onV (ev s ch x) fun a => shE (cnd s ch) C.P (shTup2 (shPart C.tb d 0 ops) (shPart C.tb d 1 ops)) (Instr.entry a) K h
  | _, _ => False

/-- One operation. 'mok': the private variables that may be written here. -/
def opW (C : Ctx) (ops : List Oper) (mok : List Nat) (o : Oper) (s : St) (h : Hp) (K : St → Hp → Prop) : Prop :=
  match chainOf ops ops.length o with
  | none => False
  | some ch => cond (guardOk s ch)
    (cond (isVal C.tb o) (valW C.P C.tb o ch s h fun l => K (s.put o.dst l ch) h)
    (match dstIn C.priv o, ch with
      | some d, [] => cond (has mok d) (match o.op with
        | .alloc t => match C.tb.ty t with
          | some e => K ((s.put (some d) (.box d 0) []).putM d (cellsL e.zero)) h
          | none => False
        | .box _ x => onV (ev s ch x) fun v => K ((s.put (some d) (.box d 0) []).putM d (cellsL v)) h
        | _ => False) False
      | some _, _ => False
      | none, _ => match o.op with
        | .store t x y => match ev s ch x, ev s ch y with
          | some (.box k off), some (.v v) => match s.m k, C.tb.ty t, ch with
            | some cs, some e, [] => cond (has mok k) (cond (Nat.beq (cellsL v).length e.size) (cond (Nat.ble (off + e.size) cs.length) (cond (okCells (cellsL v))
                (K ((s.put o.dst (.v (.tuple #[])) ch).putM k (layL cs off (cellsL v))) h) False) False) False) False
            | _, _, _ => False
          | _, _ => effW C.P C.tb o ch s h fun l h' => K (s.put o.dst l ch) h'
        | .entry _ => entW C ops o ch s h fun l h' => K (s.put o.dst l ch) h'
        | _ => effW C.P C.tb o ch s h fun l h' => K (s.put o.dst l ch) h')) False

def isStore (o : Oper) : Bool := match o.op with
  | .store .. => true
  | _ => false

/-- Which private variable a store may change. -/
def chg (o : Oper) (s : St) (k : Nat) : Bool := match o.op with
  | .store _ x _ => (match ev s [] x with
    | some (.box b _) => Nat.beq k b
    | _ => true)
  | _ => false

def isRead (tb : Tb) (o : Oper) : Bool := match o.op with
  | .move _ | .assign _ | .pick .. | .extract .. | .unOp .. | .nilCheck _ | .fieldAddr .. | .field .. | .indexAddr .. | .index .. | .slice .. | .makeInterface .. | .makeFunc .. | .build .. => false
  | .binOp _ t _ _ _ => match tb.ty t with
    | some e => match e.und with
      | .int _ | .bool | .string | .float _ => false
      | _ => true
    | none => true
  | .call { callee := .builtin b, argTypes := ts, .. } => match b with
    | .cap | .min | .max => false
    | .len => match ts.toList with
      | [t] => match tb.ty t with
        | some e => match e.und with
          | .slice _ | .string | .array _ _ => false
          | _ => true
        | none => true
      | _ => true
    | _ => true
  | .convert s _ _ => match tb.ty s with
    | some e => match e.und with
      | .int _ | .float _ | .string => false
      | _ => true
    | none => true
  | _ => true

def kindOk (C : Ctx) (ops : List Oper) (o : Oper) (s : St) : Bool :=
  cond (isVal C.tb o) (cond (isRead C.tb o) true (match chainOf ops ops.length o with
    | some ch => match kindD C.tb o ch s with
      | .pure => true
      | _ => false
    | none => false)) true

/-- A region's operations in some order; behind each what must still read the same. -/
def ordW (C : Ctx) (ops : List Oper) (mok : List Nat) : List (Nat × List Nat) → St → Hp → (St → Hp → Prop) → Prop
  | [], s, h, K => K s h
  | (i, ws) :: r, s, h, K => match nth ops i with
    | some o => cond (kindOk C ops o s) (opW C ops mok o s h fun s' h' => match ws with
      | [] => ordW C ops mok r s' h' K
      | ws => AgainAll C (chg o s) ops s' h' ws ∧ ordW C ops mok r s' h' K) False
    | none => False

/-- A region's operations as they stand. -/
def seqW (C : Ctx) (ops : List Oper) (mok : List Nat) : List Oper → St → Hp → (St → Hp → Prop) → Prop
  | [], s, h, K => K s h
  | o :: r, s, h, K => opW C ops mok o s h fun s' h' => seqW C ops mok r s' h' K

/-! The plan of a region that draws its order -/
def bindsAny (e : Edge) : Bool := match e.ground with
  | .textOnly _ => false
  | .gcOnly _ => false
  | _ => true

/-- The operations that an operation waits for. -/
def waits (o : Oper) : List Nat := go o.after.toList
  where
  go : List Edge → List Nat
    | [] => []
    | e :: r => cond (bindsAny e) (e.on :: go r) (go r)

/-- All that is ahead of each operation, by rows: 'acc' has those of the first ones. -/
def aheads : List Oper → List (List Nat) → List (List Nat)
  | [], acc => acc
  | o :: r, acc => aheads r (app acc [union (waits o) acc])
  where
  union : List Nat → List (List Nat) → List Nat
    | [], _ => []
    | j :: l, acc => j :: app (match nth acc j with
      | some x => x
      | none => []) (union l acc)

def aheadOf (rows : List (List Nat)) (i : Nat) : List Nat := match nth rows i with
  | some l => l
  | none => []

def isPrivAlloc (priv : List Nat) (o : Oper) : Bool := match o.op, o.dst with
  | .alloc _, some d => has priv d
  | .box _ _, some d => has priv d
  | _, _ => false

def sndL : List (Nat × Operand) → List Operand
  | [] => []
  | (_, x) :: r => x :: sndL r

def optL : Option Operand → List Operand
  | none => []
  | some x => [x]

/-- The operands of an operation that is read here. -/
def opndsL : Op → Option (List Operand)
  | .alloc _ => some []
  | .move x | .assign x | .box _ x | .load _ x | .nilCheck x | .unOp _ _ x | .convert _ _ x | .fieldAddr _ x _ | .field _ x _ | .range _ x | .next x _ | .entry x | .extract x _ | .makeInterface _ x => some [x]
  | .pick c a b => some [c, a, b]
  | .build _ ps | .buildSlice _ _ ps => some (sndL ps.toList)
  | .store _ a v | .binOp _ _ a v _ | .makeSlice _ a v | .indexAddr _ a v | .index _ a v | .lookup _ a v _ | .mapEntry _ a v => some [a, v]
  | .makeFunc _ first captured => some (app first.toList captured.toList)
  | .makeMap _ r => some (optL r)
  | .slice _ x l h m => some (x :: app (optL l) (app (optL h) (optL m)))
  | .mapUpdate _ m k v | .entryStore _ m k v | .insert _ m k v => some [m, k, v]
  | .call { callee := .value f, args := xs, .. } => some (f :: xs.toList)
  | .call { callee := .builtin _, args := xs, .. } => some xs.toList
  | _ => none

def dstIs (o : Oper) (t : Nat) : Bool := match o.dst with
  | some d => Nat.beq d t
  | none => false

def looksAt (o : Oper) (t : Nat) : Bool := match opndsL o.op with
  | some l => go l
  | none => true
  where
  go : List Operand → Bool
    | [] => false
    | .tmp u :: r => cond (Nat.beq u t) true (go r)
    | _ :: r => go r

/-- Is it written in the region, by an operation that the first one does not wait for? Then that one waits for the first one. -/
def slotOk (rows : List (List Nat)) (i t : Nat) : List Oper → Nat → Bool
  | [], _ => true
  | p :: r, j => cond (cond (dstIs p t) (cond (has (aheadOf rows i) j) true (cond (Nat.beq i j) true (has (aheadOf rows j) i))) true) (slotOk rows i t r (j + 1)) false

/-- What an operation looks at. -/
def looksOk (ops : List Oper) (rows : List (List Nat)) (i : Nat) (o : Oper) : Bool :=
  match opndsL o.op with
  | some l => cond (go l) (match o.guard with
    | none => true
    | some (j, _) => has (aheadOf rows i) j) false
  | none => false
  where
  go : List Operand → Bool
    | [] => true
    | .tmp t :: r => cond (slotOk rows i t ops 0) (go r) false
    | _ :: r => go r

/-- Does one that does not wait for it read what it overwrites? -/
def isWar (rows : List (List Nat)) (j : Nat) (o : Oper) : List Oper → Nat → Bool
  | [], _ => false
  | p :: r, i => match o.dst with
    | none => false
    | some d => cond (cond (looksAt p d) (cond (has (aheadOf rows i) j) false true) false) true (isWar rows j o r (i + 1))

/-- 'ord' lists the operations in an order that they may have; 'done': those ahead; 'last': the changes of memory so far, the last one first. -/
def planGo (tb : Tb) (priv : List Nat) (ops : List Oper) (rows : List (List Nat)) : List (Nat × List Nat) → List Nat → Option Nat → Bool
  | [], _, _ => true
  | (i, ws) :: r, done, last => match nth ops i with
    | some o => cond (cond (allIn (waits o) done) (looksOk ops rows i o) false)
      (cond (has done i) false (cond (match last with
          | none => true
          | some e => has (aheadOf rows i) e)
        (match cond (isVal tb o) true (isPrivAlloc priv o), isWar rows i o ops 0 with
          | true, false => planGo tb priv ops rows r (i :: done) last
          | true, true => planGo tb priv ops rows r (i :: done) (some i)
          | false, _ => cond (watched tb ops rows ws i done) (planGo tb priv ops rows r (i :: done) (some i)) false) false)) false
    | none => false
  where
  watched (tb : Tb) (ops : List Oper) (rows : List (List Nat)) (ws : List Nat) (e : Nat) : List Nat → Bool
    | [] => true
    | r :: l => cond (match nth ops r with
        | some o => cond (cond (isRead tb o) (isVal tb o) false) (cond (has ws r) true (has (aheadOf rows e) r)) true
        | none => false) (watched tb ops rows ws e l) false

def planOk (tb : Tb) (priv : List Nat) (ops : List Oper) (ord : List (Nat × List Nat)) : Bool :=
  cond (nodup (modsO ops)) (cond (Nat.beq ord.length ops.length) (planGo tb priv ops (aheads ops []) ord [] none) false) false

/-- What was written under a test is forgotten. -/
def St.clean (s : St) : St := { f := fun i => match s.f i with | some (l, []) => some (l, []) | _ => none, m := s.m }

/-- The private variables that a region makes. -/
def allocsOf (priv : List Nat) : List Oper → List Nat
  | [] => []
  | o :: r => cond (isPrivAlloc priv o) (match o.dst with
    | some d => d :: allocsOf priv r
    | none => allocsOf priv r) (allocsOf priv r)

def dropL' (l : List Nat) (x : Option (LV × Chain)) : Option (LV × Chain) := match x with
  | some (.box k o, c) => cond (has l k) none (some (.box k o, c))
  | some (.boxd k o, c) => cond (has l k) none (some (.boxd k o, c))
  | some (.v v, c) => some (.v v, c)
  | none => none

/-- What leads to variables that are made anew is forgotten. -/
def St.dropB (s : St) (l : List Nat) : St := match l with
  | [] => s
  | l => { f := fun i => dropL' l (s.f i), m := fun k => cond (has l k) none (s.m k) }

/-- Each test stands ahead of what it guards. -/
def guardsBack : List Oper → Nat → Bool
  | [], _ => true
  | o :: r, i => match o.guard with
    | none => guardsBack r (i + 1)
    | some (j, _) => cond (Nat.blt j i) (guardsBack r (i + 1)) false

def seqOk (priv : List Nat) (ops : List Oper) : Bool :=
  cond (nodup (allocsOf priv ops)) (cond (noGuard ops) true (cond (nodup (modsO ops)) (guardsBack ops 0) false)) false

structure J where
  isM : Bool
  i : Nat
  t : Nat

inductive Ann where
  | tt
  | sq (x y : Ann)
  | jn (js : List J) (mm : List Nat) (x y : Ann)
  | lp (js : List J) (mm : List Nat) (x : Ann)
  | bk (x : Ann)
  | bj (js : List J) (mm : List Nat) (x : Ann)
  | sp (k : Nat) (x y : Ann)
  | gs (l : Nat) (x : Ann)
  | gj (l : Nat) (js : List J) (mm : List Nat) (x y : Ann)
  | rg (ord : List (Nat × List Nat))

def Ann.fst : Ann → Ann
  | .sq x _ | .jn _ _ x _ | .gj _ _ _ x _ | .sp _ x _ | .lp _ _ x | .bk x | .bj _ _ x => x
  | _ => .tt

def Ann.snd : Ann → Ann
  | .sq _ y | .jn _ _ _ y | .gj _ _ _ _ y | .sp _ _ y => y
  | _ => .tt

inductive Ex where
  | nrm
  | ret
  | ext (i : Nat)
  | gto (i : Nat)

abbrev Env := Ex → St → Hp → Prop

def Env.nrm (E : Env) (K : St → Hp → Prop) : Env
  | .nrm => K
  | .ret => E .ret
  | .ext i => E (.ext i)
  | .gto i => E (.gto i)

def Env.blk (E : Env) (id : Nat) (K : St → Hp → Prop) : Env
  | .nrm => K
  | .ret => E .ret
  | .ext i => cond (Nat.beq i id) K (E (.ext i))
  | .gto i => E (.gto i)

/-- Within a scope nobody jumps. -/
def Env.noGto (E : Env) : Env
  | .nrm => E .nrm
  | .ret => E .ret
  | .ext i => E (.ext i)
  | .gto _ => fun _ _ => False

def JTup (tb : Tb) : List J → Type
  | [] => Unit
  | [j] => (shOf tb j.t).T
  | j :: j2 :: js => (shOf tb j.t).T × JTup tb (j2 :: js)

def isAggT (tb : Tb) (t : Nat) : Bool := match tb.ty t with
  | some e => isAggD e.und
  | none => false

def ofCells (tb : Tb) (t : Nat) (cs : List Value) : Option Value :=
  cond (isAggT tb t) (some (.agg cs.toArray)) (match cs with
    | [v] => some v
    | _ => none)

def getOne (tb : Tb) (s : St) (j : J) (K : (shOf tb j.t).T → Prop) : Prop :=
  cond j.isM
    (match s.m j.i with
      | some cs => match ofCells tb j.t cs with
        | some v => match (shOf tb j.t).dec v with
          | some x => K x
          | none => False
        | none => False
      | none => False)
    (match s.f j.i with
      | some (.v v, []) => match (shOf tb j.t).dec v with
        | some x => K x
        | none => False
      | _ => False)

def getJ (tb : Tb) : (js : List J) → St → (JTup tb js → Prop) → Prop
  | [], _, K => K ()
  | [j], s, K => getOne tb s j K
  | j :: j2 :: js, s, K => getOne tb s j fun x => getJ tb (j2 :: js) s fun y => K (x, y)

def setOne (tb : Tb) (j : J) (x : (shOf tb j.t).T) (s : St) : St :=
  cond j.isM (s.putM j.i (cellsL ((shOf tb j.t).enc x))) (s.put (some j.i) (.v ((shOf tb j.t).enc x)) [])

def setJ (tb : Tb) : (js : List J) → JTup tb js → St → St
  | [], _, s => s
  | [j], x, s => setOne tb j x s
  | j :: j2 :: js, p, s => setJ tb (j2 :: js) p.2 (setOne tb j p.1 s)



def mods : Code → List Nat
  | .region _ ops _ => modsO ops.toList
  | .seq a b => app (mods a) (mods b)
  | .cond _ a b => app (mods a) (mods b)
  | .block _ a => mods a
  | .loop a => mods a
  | .scope a => mods a
  | _ => []

def St.forget (s : St) (l mm : List Nat) : St :=
  { f := fun i => cond (has l i) none (dropL' l (s.f i)), m := fun i => cond (has mm i) none (s.m i) }


/-- How a code is read: whole; up to a label; from it. -/
inductive Md where
  | full
  | fr (l : Nat)
  | pr (l : Nat)
  | rs (l : Nat)

/-- Has a code no such label on its spine? -/
def noLab : Code → Nat → Bool
  | .seq a b, l => cond (noLab a l) (noLab b l) false
  | .label l', l => cond (Nat.beq l' l) false true
  | _, _ => true

/-- What stands behind a label. -/
def restOf : Code → Nat → Option Code
  | .seq a b, l => match a with
    | .label l' => cond (Nat.beq l' l) (some b) none
    | _ => cond (noLab a l) (restOf b l) none
  | _, _ => none

/-- Who jumps to the label comes there. -/
def Env.lab (E : Env) (l : Nat) (K : St → Hp → Prop) : Env
  | .nrm => K
  | .ret => E .ret
  | .ext i => E (.ext i)
  | .gto i => cond (Nat.beq i l) K fun _ _ => False

/-- A private variable is told to all. -/
def pubW (k : Nat) (s : St) (h : Hp) (K : St → Hp → Prop) : Prop :=
  match s.f k, s.m k with
  | some (.box k' off, []), some cs => cond (Nat.beq k k') (cond (Nat.beq off 0) (NewW cs (fun a h' =>
      K { f := fun i => cond (Nat.beq i k) (some (.v (.pointer (some a)), [])) (s.f i), m := fun i => cond (Nat.beq i k) none (s.m i) } h') h) False) False
  | _, _ => False

def liftM (C : Ctx) : Code → Md → Ann → List Nat → St → Env → Hp → Prop
  | .skip, .full, _, _, s, E, h => E .nrm s h
  | .ret, .full, _, _, s, E, h => E .ret s h
  | .exit id, .full, _, _, s, E, h => E (.ext id) s h
  | .goto l, .full, _, _, s, E, h => E (.gto l) s h
  | .label _, .full, _, _, s, E, h => E .nrm s h
  | .region _ ops draw, .full, A, mok, s, E, h =>
    match draw with
    | false => cond (seqOk C.priv ops.toList) (seqW C ops.toList mok ops.toList (s.dropB (allocsOf C.priv ops.toList)) h fun s' h' => E .nrm s'.clean h') False
    | true => match A with
      | .rg ord => cond (planOk C.tb C.priv ops.toList ord) (ordW C ops.toList mok ord (s.dropB (allocsOf C.priv ops.toList)) h fun s' h' => E .nrm s'.clean h') False
      | _ => False
  | .seq a b, .full, A, mok, s, E, h =>
    match A with
    | .jn js mm _ _ => cond (allIn mm mok) (JoinT (fun (R : JTup C.tb js → Hp → Prop) => liftM C a .full A.fst mm s (E.nrm fun s' h' => getJ C.tb js s' fun x => R x h') h)
        (fun x h' => liftM C b .full A.snd mok (setJ C.tb js x (s.forget (mods a) mm)) E h')) False
    | .sp k _ _ => cond (has mok k) (liftM C a .full A.fst mok s (E.nrm fun s' h' => pubW k s' h' fun s2 h2 => liftM C b .full A.snd mok s2 E h2) h) False
    | _ => liftM C a .full A.fst mok s (E.nrm fun s' h' => liftM C b .full A.snd mok s' E h') h
  | .seq a b, .fr l, A, mok, s, E, h =>
    match a with
    | .label _ => E .nrm s h
    | _ => liftM C a .full A.fst mok s (E.nrm fun s' h' => liftM C b (.fr l) A.snd mok s' E h') h
  | .seq a b, .pr l, A, mok, s, E, h =>
    match a with
    | .label _ => False
    | _ => match A with
      | .gj _ js mm x _ => cond (allIn mm mok) (liftM C a .full .tt mok s (E.noGto.nrm fun s' h' =>
          JoinT (fun (R : JTup C.tb js → Hp → Prop) => liftM C b (.fr l) x mm s' (E.lab l fun s' h' => getJ C.tb js s' fun x => R x h') h')
            (fun x h' => liftM C b (.rs l) A.snd mok (setJ C.tb js x (s'.forget (mods b) mm)) E.noGto h')) h) False
      | _ => liftM C a .full A.fst mok s (E.noGto.nrm fun s' h' => liftM C b (.pr l) A.snd mok s' E h') h
  | .seq a b, .rs l, A, mok, s, E, h =>
    match a with
    | .label _ => liftM C b .full A mok s E h
    | _ => liftM C b (.rs l) A mok s E h
  | .cond c a b, .full, A, mok, s, E, h => onV (ev s [] c) fun v => match v with
    | .bool t => if t = true then liftM C a .full A.fst mok s E h else liftM C b .full A.snd mok s E h
    | _ => False
  | .scope a, .full, A, mok, s, E, h =>
    match A with
    | .gs l x => match restOf a l with
      | some _ => liftM C a (.pr l) x mok s E h
      | none => False
    | _ => liftM C a .full A mok s E.noGto h
  | .block id a, .full, A, mok, s, E, h =>
    match A with
    | .bj js mm _ => cond (allIn mm mok) (JoinT (fun (R : JTup C.tb js → Hp → Prop) => liftM C a .full A.fst mm s (E.blk id fun s' h' => getJ C.tb js s' fun x => R x h') h)
        (fun x h' => E .nrm (setJ C.tb js x (s.forget (mods a) mm)) h')) False
    | _ => liftM C a .full A.fst mok s (E.blk id (E .nrm)) h
  | .loop a, .full, A, mok, s, E, h =>
    match A with
    | .lp js mm _ => cond (allIn mm mok) (getJ C.tb js s fun x0 => LoopT (fun (R : JTup C.tb js → Hp → Prop) x h => liftM C a .full A.fst mm (setJ C.tb js x (s.forget (mods a) mm))
        (E.nrm fun s' h' => getJ C.tb js s' fun x => R x h') h) x0 h) False
    | _ => False
  | _, _, _, _, _, _, _ => False

/-- What a function hands back. -/
def retOne (C : Ctx) (s : St) (r : ResultVar) (t : Nat) (K : (shOf C.tb t).T → Prop) : Prop :=
  match r with
  | .tmp i => match s.f i with
    | some (.v v, []) => match (shOf C.tb t).dec v with
      | some x => K x
      | none => False
    | _ => False
  | .cell i ct => cond (Nat.beq ct t) (match s.f i, C.tb.ty t with
    | some (.box k 0, []), some _ => match s.m k with
      | some cs => match ofCells C.tb t cs with
        | some v => match (shOf C.tb t).dec v with
          | some x => K x
          | none => False
        | none => False
      | none => False
    | _, _ => False) False

def shRes (tb : Tb) : List Nat → Shape
  | [] => shUnit
  | [a] => shOf tb a
  | [a, b] => shTup2 (shOf tb a) (shOf tb b)
  | [a, b, c] => shTup3 (shOf tb a) (shOf tb b) (shOf tb c)
  | [a, b, c, d] => shTup4 (shOf tb a) (shOf tb b) (shOf tb c) (shOf tb d)
  | [a, b, c, d, e] => shTup5 (shOf tb a) (shOf tb b) (shOf tb c) (shOf tb d) (shOf tb e)
  | _ => shUnit

def retW (C : Ctx) (s : St) (h : Hp) : (rs : List ResultVar) → (ts : List Nat) → ((shRes C.tb ts).T → Hp → Prop) → Prop
  | [], [], K => K () h
  | [r], [t], K => retOne C s r t fun x => K x h
  | [r1, r2], [t1, t2], K => retOne C s r1 t1 fun x1 => retOne C s r2 t2 fun x2 => K (x1, x2) h
  | [r1, r2, r3], [t1, t2, t3], K => retOne C s r1 t1 fun x1 => retOne C s r2 t2 fun x2 => retOne C s r3 t3 fun x3 => K (x1, x2, x3) h
  | [r1, r2, r3, r4], [t1, t2, t3, t4], K => retOne C s r1 t1 fun x1 => retOne C s r2 t2 fun x2 => retOne C s r3 t3 fun x3 => retOne C s r4 t4 fun x4 => K (x1, x2, x3, x4) h
  | [r1, r2, r3, r4, r5], [t1, t2, t3, t4, t5], K => retOne C s r1 t1 fun x1 => retOne C s r2 t2 fun x2 => retOne C s r3 t3 fun x3 => retOne C s r4 t4 fun x4 =>
      retOne C s r5 t5 fun x5 => K (x1, x2, x3, x4, x5) h
  | _, _, _ => False

def argsF (args : List Value) (i : Nat) : Option (LV × Chain) := match nth args i with
  | some v => some (.v v, [])
  | none => none

def bodyOf (f : Func) : Code := match f.body with
  | some c => c
  | none => .refuse ""

def allLt (n : Nat) : List Nat → Bool
  | [] => true
  | i :: r => cond (Nat.blt i n) (allLt n r) false

/-- The whole function. -/
def funW (C : Ctx) (f : Func) (A : Ann) (args : List Value) (K : (shRes C.tb f.resultTypes.toList).T → Hp → Prop) (h : Hp) : Prop :=
  cond (cond (Nat.ble args.length f.ntmps) (allLt f.ntmps (mods (bodyOf f))) false)
    (liftM C (bodyOf f) .full A C.priv { f := argsF args, m := fun _ => none } (fun e s h => match e with
      | .nrm | .ret => retW C s h f.results.toList f.resultTypes.toList K
      | _ => False) h) False

end Lf

/-
  By program: the structures of the module, as rows of cells.
-/
set_option maxRecDepth 100000
namespace Lf
open Go

def toLeaf (v : Value) : Option Leaf := match h : isLeafV v with
  | true => some ⟨v, h⟩
  | false => none
theorem toLeaf_v {v : Value} {l : Leaf} (h : toLeaf v = some l) : l.v = v := by
  unfold toLeaf at h
  split at h <;> cases h
  rfl

structure S_api_Config where
  Labels : Sl
  Table : Sl
  Fuel : Int
  Lane : Int
  Locks : Int
  Log : Int
  Procs : Sl
def S_api_Config.v (x : S_api_Config) : Value := .agg #[.slice x.Labels.base x.Labels.len x.Labels.cap, .slice x.Table.base x.Table.len x.Table.cap, .int .i64 x.Fuel, .int .i64 x.Lane, .int .i64 x.Locks, .int .i64 x.Log, .slice x.Procs.base x.Procs.len x.Procs.cap]
@[reducible] def sh_api_Config : Shape where
  T := S_api_Config
  enc := fun x => .agg #[.slice x.Labels.base x.Labels.len x.Labels.cap, .slice x.Table.base x.Table.len x.Table.cap, .int .i64 x.Fuel, .int .i64 x.Lane, .int .i64 x.Locks, .int .i64 x.Log, .slice x.Procs.base x.Procs.len x.Procs.cap]
  dec := fun v => match v with
    | .agg ⟨[.slice a0 b0 c0, .slice a1 b1 c1, .int .i64 a2, .int .i64 a3, .int .i64 a4, .int .i64 a5, .slice a6 b6 c6]⟩ => some ⟨⟨a0, b0, c0⟩, ⟨a1, b1, c1⟩, a2, a3, a4, a5, ⟨a6, b6, c6⟩⟩
    | _ => none
  ok := by intro v x h; split at h <;> cases h; rfl

structure S_api_State where
  Tick : Int
  Parts : Sl
  Procs : Sl
def S_api_State.v (x : S_api_State) : Value := .agg #[.int .i64 x.Tick, .slice x.Parts.base x.Parts.len x.Parts.cap, .slice x.Procs.base x.Procs.len x.Procs.cap]
@[reducible] def sh_api_State : Shape where
  T := S_api_State
  enc := fun x => .agg #[.int .i64 x.Tick, .slice x.Parts.base x.Parts.len x.Parts.cap, .slice x.Procs.base x.Procs.len x.Procs.cap]
  dec := fun v => match v with
    | .agg ⟨[.int .i64 a0, .slice a1 b1 c1, .slice a2 b2 c2]⟩ => some ⟨a0, ⟨a1, b1, c1⟩, ⟨a2, b2, c2⟩⟩
    | _ => none
  ok := by intro v x h; split at h <;> cases h; rfl

structure S_api_Proc where
  Part : Int
  Code : Sl
def S_api_Proc.v (x : S_api_Proc) : Value := .agg #[.int .i64 x.Part, .slice x.Code.base x.Code.len x.Code.cap]
@[reducible] def sh_api_Proc : Shape where
  T := S_api_Proc
  enc := fun x => .agg #[.int .i64 x.Part, .slice x.Code.base x.Code.len x.Code.cap]
  dec := fun v => match v with
    | .agg ⟨[.int .i64 a0, .slice a1 b1 c1]⟩ => some ⟨a0, ⟨a1, b1, c1⟩⟩
    | _ => none
  ok := by intro v x h; split at h <;> cases h; rfl

structure S_api_Part where
  Cursor : Int
  Log : Sl
  Lost : Int
  Forbidden : Int
  Owners : Sl
  Queues : Sl
def S_api_Part.v (x : S_api_Part) : Value := .agg #[.int .i64 x.Cursor, .slice x.Log.base x.Log.len x.Log.cap, .int .i64 x.Lost, .int .i64 x.Forbidden, .slice x.Owners.base x.Owners.len x.Owners.cap, .slice x.Queues.base x.Queues.len x.Queues.cap]
@[reducible] def sh_api_Part : Shape where
  T := S_api_Part
  enc := fun x => .agg #[.int .i64 x.Cursor, .slice x.Log.base x.Log.len x.Log.cap, .int .i64 x.Lost, .int .i64 x.Forbidden, .slice x.Owners.base x.Owners.len x.Owners.cap, .slice x.Queues.base x.Queues.len x.Queues.cap]
  dec := fun v => match v with
    | .agg ⟨[.int .i64 a0, .slice a1 b1 c1, .int .i64 a2, .int .i64 a3, .slice a4 b4 c4, .slice a5 b5 c5]⟩ => some ⟨a0, ⟨a1, b1, c1⟩, a2, a3, ⟨a4, b4, c4⟩, ⟨a5, b5, c5⟩⟩
    | _ => none
  ok := by intro v x h; split at h <;> cases h; rfl

structure S_api_Lane where
  Values : Sl
  Waiters : Sl
  Taken : Int
  Dropped : Int
def S_api_Lane.v (x : S_api_Lane) : Value := .agg #[.slice x.Values.base x.Values.len x.Values.cap, .slice x.Waiters.base x.Waiters.len x.Waiters.cap, .int .i64 x.Taken, .int .i64 x.Dropped]
@[reducible] def sh_api_Lane : Shape where
  T := S_api_Lane
  enc := fun x => .agg #[.slice x.Values.base x.Values.len x.Values.cap, .slice x.Waiters.base x.Waiters.len x.Waiters.cap, .int .i64 x.Taken, .int .i64 x.Dropped]
  dec := fun v => match v with
    | .agg ⟨[.slice a0 b0 c0, .slice a1 b1 c1, .int .i64 a2, .int .i64 a3]⟩ => some ⟨⟨a0, b0, c0⟩, ⟨a1, b1, c1⟩, a2, a3⟩
    | _ => none
  ok := by intro v x h; split at h <;> cases h; rfl

structure S_n8_int64 where
  a0 : Int
  a1 : Int
  a2 : Int
  a3 : Int
  a4 : Int
  a5 : Int
  a6 : Int
  a7 : Int
def S_n8_int64.v (x : S_n8_int64) : Value := .agg #[.int .i64 x.a0, .int .i64 x.a1, .int .i64 x.a2, .int .i64 x.a3, .int .i64 x.a4, .int .i64 x.a5, .int .i64 x.a6, .int .i64 x.a7]
@[reducible] def sh_n8_int64 : Shape where
  T := S_n8_int64
  enc := fun x => .agg #[.int .i64 x.a0, .int .i64 x.a1, .int .i64 x.a2, .int .i64 x.a3, .int .i64 x.a4, .int .i64 x.a5, .int .i64 x.a6, .int .i64 x.a7]
  dec := fun v => match v with
    | .agg ⟨[.int .i64 a0, .int .i64 a1, .int .i64 a2, .int .i64 a3, .int .i64 a4, .int .i64 a5, .int .i64 a6, .int .i64 a7]⟩ => some ⟨a0, a1, a2, a3, a4, a5, a6, a7⟩
    | _ => none
  ok := by intro v x h; split at h <;> cases h; rfl

structure S_api_Process where
  State : Int
  PC : Int
  Regs_0 : Int
  Regs_1 : Int
  Regs_2 : Int
  Regs_3 : Int
  Regs_4 : Int
  Regs_5 : Int
  Regs_6 : Int
  Regs_7 : Int
  Cursor : Int
  Timer : Int
  Fired : Bool
  Wake : Int
  Lanes : Sl
def S_api_Process.v (x : S_api_Process) : Value := .agg #[.int .i64 x.State, .int .i64 x.PC, .int .i64 x.Regs_0, .int .i64 x.Regs_1, .int .i64 x.Regs_2, .int .i64 x.Regs_3, .int .i64 x.Regs_4, .int .i64 x.Regs_5, .int .i64 x.Regs_6, .int .i64 x.Regs_7, .int .i64 x.Cursor, .int .i64 x.Timer, .bool x.Fired, .int .i64 x.Wake, .slice x.Lanes.base x.Lanes.len x.Lanes.cap]
@[reducible] def sh_api_Process : Shape where
  T := S_api_Process
  enc := fun x => .agg #[.int .i64 x.State, .int .i64 x.PC, .int .i64 x.Regs_0, .int .i64 x.Regs_1, .int .i64 x.Regs_2, .int .i64 x.Regs_3, .int .i64 x.Regs_4, .int .i64 x.Regs_5, .int .i64 x.Regs_6, .int .i64 x.Regs_7, .int .i64 x.Cursor, .int .i64 x.Timer, .bool x.Fired, .int .i64 x.Wake, .slice x.Lanes.base x.Lanes.len x.Lanes.cap]
  dec := fun v => match v with
    | .agg ⟨[.int .i64 a0, .int .i64 a1, .int .i64 a2, .int .i64 a3, .int .i64 a4, .int .i64 a5, .int .i64 a6, .int .i64 a7, .int .i64 a8, .int .i64 a9, .int .i64 a10, .int .i64 a11, .bool a12, .int .i64 a13, .slice a14 b14 c14]⟩ => some ⟨a0, a1, a2, a3, a4, a5, a6, a7, a8, a9, a10, a11, a12, a13, ⟨a14, b14, c14⟩⟩
    | _ => none
  ok := by intro v x h; split at h <;> cases h; rfl

structure S_snap_numbers where
  b : Sl
def S_snap_numbers.v (x : S_snap_numbers) : Value := .agg #[.slice x.b.base x.b.len x.b.cap]
@[reducible] def sh_snap_numbers : Shape where
  T := S_snap_numbers
  enc := fun x => .agg #[.slice x.b.base x.b.len x.b.cap]
  dec := fun v => match v with
    | .agg ⟨[.slice a0 b0 c0]⟩ => some ⟨⟨a0, b0, c0⟩⟩
    | _ => none
  ok := by intro v x h; split at h <;> cases h; rfl

structure S_snap_writer where
  numbers_b : Sl
def S_snap_writer.v (x : S_snap_writer) : Value := .agg #[.slice x.numbers_b.base x.numbers_b.len x.numbers_b.cap]
@[reducible] def sh_snap_writer : Shape where
  T := S_snap_writer
  enc := fun x => .agg #[.slice x.numbers_b.base x.numbers_b.len x.numbers_b.cap]
  dec := fun v => match v with
    | .agg ⟨[.slice a0 b0 c0]⟩ => some ⟨⟨a0, b0, c0⟩⟩
    | _ => none
  ok := by intro v x h; split at h <;> cases h; rfl

structure S_snap_source where
  b : Sl
  at_ : Int
  e : Int
  place : Int
def S_snap_source.v (x : S_snap_source) : Value := .agg #[.slice x.b.base x.b.len x.b.cap, .int .i64 x.at_, .int .i64 x.e, .int .i64 x.place]
@[reducible] def sh_snap_source : Shape where
  T := S_snap_source
  enc := fun x => .agg #[.slice x.b.base x.b.len x.b.cap, .int .i64 x.at_, .int .i64 x.e, .int .i64 x.place]
  dec := fun v => match v with
    | .agg ⟨[.slice a0 b0 c0, .int .i64 a1, .int .i64 a2, .int .i64 a3]⟩ => some ⟨⟨a0, b0, c0⟩, a1, a2, a3⟩
    | _ => none
  ok := by intro v x h; split at h <;> cases h; rfl

structure S_snap_reader where
  source_b : Sl
  source_at : Int
  source_e : Int
  source_place : Int
  c_Labels : Sl
  c_Table : Sl
  c_Fuel : Int
  c_Lane : Int
  c_Locks : Int
  c_Log : Int
  c_Procs : Sl
def S_snap_reader.v (x : S_snap_reader) : Value := .agg #[.slice x.source_b.base x.source_b.len x.source_b.cap, .int .i64 x.source_at, .int .i64 x.source_e, .int .i64 x.source_place, .slice x.c_Labels.base x.c_Labels.len x.c_Labels.cap, .slice x.c_Table.base x.c_Table.len x.c_Table.cap, .int .i64 x.c_Fuel, .int .i64 x.c_Lane, .int .i64 x.c_Locks, .int .i64 x.c_Log, .slice x.c_Procs.base x.c_Procs.len x.c_Procs.cap]
@[reducible] def sh_snap_reader : Shape where
  T := S_snap_reader
  enc := fun x => .agg #[.slice x.source_b.base x.source_b.len x.source_b.cap, .int .i64 x.source_at, .int .i64 x.source_e, .int .i64 x.source_place, .slice x.c_Labels.base x.c_Labels.len x.c_Labels.cap, .slice x.c_Table.base x.c_Table.len x.c_Table.cap, .int .i64 x.c_Fuel, .int .i64 x.c_Lane, .int .i64 x.c_Locks, .int .i64 x.c_Log, .slice x.c_Procs.base x.c_Procs.len x.c_Procs.cap]
  dec := fun v => match v with
    | .agg ⟨[.slice a0 b0 c0, .int .i64 a1, .int .i64 a2, .int .i64 a3, .slice a4 b4 c4, .slice a5 b5 c5, .int .i64 a6, .int .i64 a7, .int .i64 a8, .int .i64 a9, .slice a10 b10 c10]⟩ => some ⟨⟨a0, b0, c0⟩, a1, a2, a3, ⟨a4, b4, c4⟩, ⟨a5, b5, c5⟩, a6, a7, a8, a9, ⟨a10, b10, c10⟩⟩
    | _ => none
  ok := by intro v x h; split at h <;> cases h; rfl

structure S_machine_asked where
  c_Labels : Sl
  c_Table : Sl
  c_Fuel : Int
  c_Lane : Int
  c_Locks : Int
  c_Log : Int
  c_Procs : Sl
  s_Tick : Int
  s_Parts : Sl
  s_Procs : Sl
  t : Option Addr
def S_machine_asked.v (x : S_machine_asked) : Value := .agg #[.slice x.c_Labels.base x.c_Labels.len x.c_Labels.cap, .slice x.c_Table.base x.c_Table.len x.c_Table.cap, .int .i64 x.c_Fuel, .int .i64 x.c_Lane, .int .i64 x.c_Locks, .int .i64 x.c_Log, .slice x.c_Procs.base x.c_Procs.len x.c_Procs.cap, .int .i64 x.s_Tick, .slice x.s_Parts.base x.s_Parts.len x.s_Parts.cap, .slice x.s_Procs.base x.s_Procs.len x.s_Procs.cap, .pointer x.t]
@[reducible] def sh_machine_asked : Shape where
  T := S_machine_asked
  enc := fun x => .agg #[.slice x.c_Labels.base x.c_Labels.len x.c_Labels.cap, .slice x.c_Table.base x.c_Table.len x.c_Table.cap, .int .i64 x.c_Fuel, .int .i64 x.c_Lane, .int .i64 x.c_Locks, .int .i64 x.c_Log, .slice x.c_Procs.base x.c_Procs.len x.c_Procs.cap, .int .i64 x.s_Tick, .slice x.s_Parts.base x.s_Parts.len x.s_Parts.cap, .slice x.s_Procs.base x.s_Procs.len x.s_Procs.cap, .pointer x.t]
  dec := fun v => match v with
    | .agg ⟨[.slice a0 b0 c0, .slice a1 b1 c1, .int .i64 a2, .int .i64 a3, .int .i64 a4, .int .i64 a5, .slice a6 b6 c6, .int .i64 a7, .slice a8 b8 c8, .slice a9 b9 c9, .pointer a10]⟩ => some ⟨⟨a0, b0, c0⟩, ⟨a1, b1, c1⟩, a2, a3, a4, a5, ⟨a6, b6, c6⟩, a7, ⟨a8, b8, c8⟩, ⟨a9, b9, c9⟩, a10⟩
    | _ => none
  ok := by intro v x h; split at h <;> cases h; rfl

structure S_api_Entry where
  Tick : Int
  Proc : Int
  Value_ : Int
def S_api_Entry.v (x : S_api_Entry) : Value := .agg #[.int .i64 x.Tick, .int .i64 x.Proc, .int .i64 x.Value_]
@[reducible] def sh_api_Entry : Shape where
  T := S_api_Entry
  enc := fun x => .agg #[.int .i64 x.Tick, .int .i64 x.Proc, .int .i64 x.Value_]
  dec := fun v => match v with
    | .agg ⟨[.int .i64 a0, .int .i64 a1, .int .i64 a2]⟩ => some ⟨a0, a1, a2⟩
    | _ => none
  ok := by intro v x h; split at h <;> cases h; rfl

structure S_api_Ins where
  Op : Int
  A : Int
  B : Int
  C : Int
  Imm : Int
def S_api_Ins.v (x : S_api_Ins) : Value := .agg #[.int .i64 x.Op, .int .i64 x.A, .int .i64 x.B, .int .i64 x.C, .int .i64 x.Imm]
@[reducible] def sh_api_Ins : Shape where
  T := S_api_Ins
  enc := fun x => .agg #[.int .i64 x.Op, .int .i64 x.A, .int .i64 x.B, .int .i64 x.C, .int .i64 x.Imm]
  dec := fun v => match v with
    | .agg ⟨[.int .i64 a0, .int .i64 a1, .int .i64 a2, .int .i64 a3, .int .i64 a4]⟩ => some ⟨a0, a1, a2, a3, a4⟩
    | _ => none
  ok := by intro v x h; split at h <;> cases h; rfl

structure S_table_Table where
  labels : Sl
  by_ : Option Nat
def S_table_Table.v (x : S_table_Table) : Value := .agg #[.slice x.labels.base x.labels.len x.labels.cap, .map x.by_]
@[reducible] def sh_table_Table : Shape where
  T := S_table_Table
  enc := fun x => .agg #[.slice x.labels.base x.labels.len x.labels.cap, .map x.by_]
  dec := fun v => match v with
    | .agg ⟨[.slice a0 b0 c0, .map a1]⟩ => some ⟨⟨a0, b0, c0⟩, a1⟩
    | _ => none
  ok := by intro v x h; split at h <;> cases h; rfl

structure S_api_Waiter where
  Proc : Int
  Value_ : Int
def S_api_Waiter.v (x : S_api_Waiter) : Value := .agg #[.int .i64 x.Proc, .int .i64 x.Value_]
@[reducible] def sh_api_Waiter : Shape where
  T := S_api_Waiter
  enc := fun x => .agg #[.int .i64 x.Proc, .int .i64 x.Value_]
  dec := fun v => match v with
    | .agg ⟨[.int .i64 a0, .int .i64 a1]⟩ => some ⟨a0, a1⟩
    | _ => none
  ok := by intro v x h; split at h <;> cases h; rfl

structure S_slots_Slots where
  table : Sl
  parts : Int
def S_slots_Slots.v (x : S_slots_Slots) : Value := .agg #[.slice x.table.base x.table.len x.table.cap, .int .i64 x.parts]
@[reducible] def sh_slots_Slots : Shape where
  T := S_slots_Slots
  enc := fun x => .agg #[.slice x.table.base x.table.len x.table.cap, .int .i64 x.parts]
  dec := fun v => match v with
    | .agg ⟨[.slice a0 b0 c0, .int .i64 a1]⟩ => some ⟨⟨a0, b0, c0⟩, a1⟩
    | _ => none
  ok := by intro v x h; split at h <;> cases h; rfl

structure S_conf_reader where
  b : Sl
  at_ : Int
  e : Int
  place : Int
def S_conf_reader.v (x : S_conf_reader) : Value := .agg #[.slice x.b.base x.b.len x.b.cap, .int .i64 x.at_, .int .i64 x.e, .int .i64 x.place]
@[reducible] def sh_conf_reader : Shape where
  T := S_conf_reader
  enc := fun x => .agg #[.slice x.b.base x.b.len x.b.cap, .int .i64 x.at_, .int .i64 x.e, .int .i64 x.place]
  dec := fun v => match v with
    | .agg ⟨[.slice a0 b0 c0, .int .i64 a1, .int .i64 a2, .int .i64 a3]⟩ => some ⟨⟨a0, b0, c0⟩, a1, a2, a3⟩
    | _ => none
  ok := by intro v x h; split at h <;> cases h; rfl

structure S_struct_has_bool_n_int where
  has : Bool
  n : Int
def S_struct_has_bool_n_int.v (x : S_struct_has_bool_n_int) : Value := .agg #[.bool x.has, .int .i64 x.n]
@[reducible] def sh_struct_has_bool_n_int : Shape where
  T := S_struct_has_bool_n_int
  enc := fun x => .agg #[.bool x.has, .int .i64 x.n]
  dec := fun v => match v with
    | .agg ⟨[.bool a0, .int .i64 a1]⟩ => some ⟨a0, a1⟩
    | _ => none
  ok := by intro v x h; split at h <;> cases h; rfl

end Lf

/-
  By program: the types of the module by their numbers.
-/
set_option maxRecDepth 100000
namespace Lf
open Go

def ty0 : Ty := { und := (.tuple #[]), size := 1, bytes := 0, zero := (.tuple #[]), sh := shUnit }
def ty2 : Ty := { und := (.int .i64), size := 1, bytes := 8, zero := (.int .i64 0), sh := shInt .i64 }
def ty3 : Ty := { und := (.int .i64), size := 1, bytes := 8, zero := (.int .i64 0), sh := shInt .i64 }
def ty4 : Ty := { und := .bool, size := 1, bytes := 1, zero := (.bool false), sh := shBool }
def ty5 : Ty := { und := (.int .u8), size := 1, bytes := 1, zero := (.int .u8 0), sh := shInt .u8 }
def ty9 : Ty := { und := .string, size := 1, bytes := 16, zero := (.string ByteArray.empty), sh := shStr }
def ty23 : Ty := { und := (.slice 42), size := 1, bytes := 24, zero := (.slice none 0 0), sh := shSl }
def ty24 : Ty := { und := (.slice 3), size := 1, bytes := 24, zero := (.slice none 0 0), sh := shSl }
def ty25 : Ty := { und := (.slice 45), size := 1, bytes := 24, zero := (.slice none 0 0), sh := shSl }
def ty27 : Ty := { und := (.struct #[{ name := "Labels", type := 23, offset := 0, embedded := false, tag := "", pkgPath := "", byteOffset := 0 }, { name := "Table", type := 24, offset := 1, embedded := false, tag := "", pkgPath := "", byteOffset := 24 }, { name := "Fuel", type := 3, offset := 2, embedded := false, tag := "", pkgPath := "", byteOffset := 48 }, { name := "Lane", type := 3, offset := 3, embedded := false, tag := "", pkgPath := "", byteOffset := 56 }, { name := "Locks", type := 3, offset := 4, embedded := false, tag := "", pkgPath := "", byteOffset := 64 }, { name := "Log", type := 3, offset := 5, embedded := false, tag := "", pkgPath := "", byteOffset := 72 }, { name := "Procs", type := 25, offset := 6, embedded := false, tag := "", pkgPath := "", byteOffset := 80 }]), size := 7, bytes := 104, zero := (.agg #[(.slice none 0 0), (.slice none 0 0), (.int .i64 0), (.int .i64 0), (.int .i64 0), (.int .i64 0), (.slice none 0 0)]), sh := sh_api_Config }
def ty28 : Ty := { und := (.slice 49), size := 1, bytes := 24, zero := (.slice none 0 0), sh := shSl }
def ty29 : Ty := { und := (.slice 57), size := 1, bytes := 24, zero := (.slice none 0 0), sh := shSl }
def ty31 : Ty := { und := (.struct #[{ name := "Tick", type := 2, offset := 0, embedded := false, tag := "", pkgPath := "", byteOffset := 0 }, { name := "Parts", type := 28, offset := 1, embedded := false, tag := "", pkgPath := "", byteOffset := 8 }, { name := "Procs", type := 29, offset := 2, embedded := false, tag := "", pkgPath := "", byteOffset := 32 }]), size := 3, bytes := 56, zero := (.agg #[(.int .i64 0), (.slice none 0 0), (.slice none 0 0)]), sh := sh_api_State }
def ty32 : Ty := { und := (.tuple #[27, 31]), size := 1, bytes := 0, zero := (.tuple #[(.agg #[(.slice none 0 0), (.slice none 0 0), (.int .i64 0), (.int .i64 0), (.int .i64 0), (.int .i64 0), (.slice none 0 0)]), (.agg #[(.int .i64 0), (.slice none 0 0), (.slice none 0 0)])]), sh := shTup2 sh_api_Config sh_api_State }
def ty34 : Ty := { und := (.slice 5), size := 1, bytes := 24, zero := (.slice none 0 0), sh := shSl }
def ty35 : Ty := { und := (.int .i64), size := 1, bytes := 8, zero := (.int .i64 0), sh := shInt .i64 }
def ty36 : Ty := { und := (.tuple #[34, 35]), size := 1, bytes := 0, zero := (.tuple #[(.slice none 0 0), (.int .i64 0)]), sh := shTup2 shSl (shInt .i64) }
def ty38 : Ty := { und := (.tuple #[27, 31, 35, 3]), size := 1, bytes := 0, zero := (.tuple #[(.agg #[(.slice none 0 0), (.slice none 0 0), (.int .i64 0), (.int .i64 0), (.int .i64 0), (.int .i64 0), (.slice none 0 0)]), (.agg #[(.int .i64 0), (.slice none 0 0), (.slice none 0 0)]), (.int .i64 0), (.int .i64 0)]), sh := shTup4 sh_api_Config sh_api_State (shInt .i64) (shInt .i64) }
def ty42 : Ty := { und := (.int .u64), size := 1, bytes := 8, zero := (.int .u64 0), sh := shInt .u64 }
def ty43 : Ty := { und := (.slice 101), size := 1, bytes := 24, zero := (.slice none 0 0), sh := shSl }
def ty45 : Ty := { und := (.struct #[{ name := "Part", type := 3, offset := 0, embedded := false, tag := "", pkgPath := "", byteOffset := 0 }, { name := "Code", type := 43, offset := 1, embedded := false, tag := "", pkgPath := "", byteOffset := 8 }]), size := 2, bytes := 32, zero := (.agg #[(.int .i64 0), (.slice none 0 0)]), sh := sh_api_Proc }
def ty46 : Ty := { und := (.slice 92), size := 1, bytes := 24, zero := (.slice none 0 0), sh := shSl }
def ty47 : Ty := { und := (.slice 24), size := 1, bytes := 24, zero := (.slice none 0 0), sh := shSl }
def ty49 : Ty := { und := (.struct #[{ name := "Cursor", type := 3, offset := 0, embedded := false, tag := "", pkgPath := "", byteOffset := 0 }, { name := "Log", type := 46, offset := 1, embedded := false, tag := "", pkgPath := "", byteOffset := 8 }, { name := "Lost", type := 3, offset := 2, embedded := false, tag := "", pkgPath := "", byteOffset := 32 }, { name := "Forbidden", type := 3, offset := 3, embedded := false, tag := "", pkgPath := "", byteOffset := 40 }, { name := "Owners", type := 24, offset := 4, embedded := false, tag := "", pkgPath := "", byteOffset := 48 }, { name := "Queues", type := 47, offset := 5, embedded := false, tag := "", pkgPath := "", byteOffset := 72 }]), size := 6, bytes := 96, zero := (.agg #[(.int .i64 0), (.slice none 0 0), (.int .i64 0), (.int .i64 0), (.slice none 0 0), (.slice none 0 0)]), sh := sh_api_Part }
def ty50 : Ty := { und := (.slice 2), size := 1, bytes := 24, zero := (.slice none 0 0), sh := shSl }
def ty51 : Ty := { und := (.slice 119), size := 1, bytes := 24, zero := (.slice none 0 0), sh := shSl }
def ty53 : Ty := { und := (.struct #[{ name := "Values", type := 50, offset := 0, embedded := false, tag := "", pkgPath := "", byteOffset := 0 }, { name := "Waiters", type := 51, offset := 1, embedded := false, tag := "", pkgPath := "", byteOffset := 24 }, { name := "Taken", type := 3, offset := 2, embedded := false, tag := "", pkgPath := "", byteOffset := 48 }, { name := "Dropped", type := 3, offset := 3, embedded := false, tag := "", pkgPath := "", byteOffset := 56 }]), size := 4, bytes := 64, zero := (.agg #[(.slice none 0 0), (.slice none 0 0), (.int .i64 0), (.int .i64 0)]), sh := sh_api_Lane }
def ty54 : Ty := { und := (.slice 53), size := 1, bytes := 24, zero := (.slice none 0 0), sh := shSl }
def ty55 : Ty := { und := (.array 8 2), size := 8, bytes := 64, zero := (.agg #[(.int .i64 0), (.int .i64 0), (.int .i64 0), (.int .i64 0), (.int .i64 0), (.int .i64 0), (.int .i64 0), (.int .i64 0)]), sh := sh_n8_int64 }
def ty57 : Ty := { und := (.struct #[{ name := "State", type := 3, offset := 0, embedded := false, tag := "", pkgPath := "", byteOffset := 0 }, { name := "PC", type := 3, offset := 1, embedded := false, tag := "", pkgPath := "", byteOffset := 8 }, { name := "Regs", type := 55, offset := 2, embedded := false, tag := "", pkgPath := "", byteOffset := 16 }, { name := "Cursor", type := 3, offset := 10, embedded := false, tag := "", pkgPath := "", byteOffset := 80 }, { name := "Timer", type := 2, offset := 11, embedded := false, tag := "", pkgPath := "", byteOffset := 88 }, { name := "Fired", type := 4, offset := 12, embedded := false, tag := "", pkgPath := "", byteOffset := 96 }, { name := "Wake", type := 2, offset := 13, embedded := false, tag := "", pkgPath := "", byteOffset := 104 }, { name := "Lanes", type := 54, offset := 14, embedded := false, tag := "", pkgPath := "", byteOffset := 112 }]), size := 15, bytes := 136, zero := (.agg #[(.int .i64 0), (.int .i64 0), (.int .i64 0), (.int .i64 0), (.int .i64 0), (.int .i64 0), (.int .i64 0), (.int .i64 0), (.int .i64 0), (.int .i64 0), (.int .i64 0), (.int .i64 0), (.bool false), (.int .i64 0), (.slice none 0 0)]), sh := sh_api_Process }
def ty60 : Ty := { und := (.pointer 64), size := 1, bytes := 8, zero := (.pointer none), sh := shPtr }
def ty62 : Ty := { und := (.struct #[{ name := "b", type := 34, offset := 0, embedded := false, tag := "", pkgPath := "firebreak/snap", byteOffset := 0 }]), size := 1, bytes := 24, zero := (.agg #[(.slice none 0 0)]), sh := sh_snap_numbers }
def ty64 : Ty := { und := (.struct #[{ name := "numbers", type := 62, offset := 0, embedded := true, tag := "", pkgPath := "firebreak/snap", byteOffset := 0 }]), size := 1, bytes := 24, zero := (.agg #[(.slice none 0 0)]), sh := sh_snap_writer }
def ty69 : Ty := { und := (.pointer 73), size := 1, bytes := 8, zero := (.pointer none), sh := shPtr }
def ty71 : Ty := { und := (.struct #[{ name := "b", type := 34, offset := 0, embedded := false, tag := "", pkgPath := "firebreak/snap", byteOffset := 0 }, { name := "at", type := 3, offset := 1, embedded := false, tag := "", pkgPath := "firebreak/snap", byteOffset := 24 }, { name := "e", type := 35, offset := 2, embedded := false, tag := "", pkgPath := "firebreak/snap", byteOffset := 32 }, { name := "place", type := 3, offset := 3, embedded := false, tag := "", pkgPath := "firebreak/snap", byteOffset := 40 }]), size := 4, bytes := 48, zero := (.agg #[(.slice none 0 0), (.int .i64 0), (.int .i64 0), (.int .i64 0)]), sh := sh_snap_source }
def ty73 : Ty := { und := (.struct #[{ name := "source", type := 71, offset := 0, embedded := true, tag := "", pkgPath := "firebreak/snap", byteOffset := 0 }, { name := "c", type := 27, offset := 4, embedded := false, tag := "", pkgPath := "firebreak/snap", byteOffset := 48 }]), size := 11, bytes := 152, zero := (.agg #[(.slice none 0 0), (.int .i64 0), (.int .i64 0), (.int .i64 0), (.slice none 0 0), (.slice none 0 0), (.int .i64 0), (.int .i64 0), (.int .i64 0), (.int .i64 0), (.slice none 0 0)]), sh := sh_snap_reader }
def ty79 : Ty := { und := (.tuple #[35, 3]), size := 1, bytes := 0, zero := (.tuple #[(.int .i64 0), (.int .i64 0)]), sh := shTup2 (shInt .i64) (shInt .i64) }
def ty81 : Ty := { und := (.pointer 113), size := 1, bytes := 8, zero := (.pointer none), sh := shPtr }
def ty82 : Ty := { und := (.tuple #[81, 35, 3]), size := 1, bytes := 0, zero := (.tuple #[(.pointer none), (.int .i64 0), (.int .i64 0)]), sh := shTup3 shPtr (shInt .i64) (shInt .i64) }
def ty85 : Ty := { und := (.struct #[{ name := "c", type := 27, offset := 0, embedded := false, tag := "", pkgPath := "firebreak/machine", byteOffset := 0 }, { name := "s", type := 31, offset := 7, embedded := false, tag := "", pkgPath := "firebreak/machine", byteOffset := 104 }, { name := "t", type := 81, offset := 10, embedded := false, tag := "", pkgPath := "firebreak/machine", byteOffset := 160 }]), size := 11, bytes := 168, zero := (.agg #[(.slice none 0 0), (.slice none 0 0), (.int .i64 0), (.int .i64 0), (.int .i64 0), (.int .i64 0), (.slice none 0 0), (.int .i64 0), (.slice none 0 0), (.slice none 0 0), (.pointer none)]), sh := sh_machine_asked }
def ty86 : Ty := { und := (.func #[3] #[4] false), size := 1, bytes := 8, zero := .nilFunc, sh := shFn }
def ty88 : Ty := { und := (.tuple #[34, 35, 3]), size := 1, bytes := 0, zero := (.tuple #[(.slice none 0 0), (.int .i64 0), (.int .i64 0)]), sh := shTup3 shSl (shInt .i64) (shInt .i64) }
def ty90 : Ty := { und := (.pointer 62), size := 1, bytes := 8, zero := (.pointer none), sh := shPtr }
def ty92 : Ty := { und := (.struct #[{ name := "Tick", type := 2, offset := 0, embedded := false, tag := "", pkgPath := "", byteOffset := 0 }, { name := "Proc", type := 3, offset := 1, embedded := false, tag := "", pkgPath := "", byteOffset := 8 }, { name := "Value", type := 2, offset := 2, embedded := false, tag := "", pkgPath := "", byteOffset := 16 }]), size := 3, bytes := 24, zero := (.agg #[(.int .i64 0), (.int .i64 0), (.int .i64 0)]), sh := sh_api_Entry }
def ty97 : Ty := { und := (.pointer 71), size := 1, bytes := 8, zero := (.pointer none), sh := shPtr }
def ty101 : Ty := { und := (.struct #[{ name := "Op", type := 3, offset := 0, embedded := false, tag := "", pkgPath := "", byteOffset := 0 }, { name := "A", type := 3, offset := 1, embedded := false, tag := "", pkgPath := "", byteOffset := 8 }, { name := "B", type := 3, offset := 2, embedded := false, tag := "", pkgPath := "", byteOffset := 16 }, { name := "C", type := 3, offset := 3, embedded := false, tag := "", pkgPath := "", byteOffset := 24 }, { name := "Imm", type := 2, offset := 4, embedded := false, tag := "", pkgPath := "", byteOffset := 32 }]), size := 5, bytes := 40, zero := (.agg #[(.int .i64 0), (.int .i64 0), (.int .i64 0), (.int .i64 0), (.int .i64 0)]), sh := sh_api_Ins }
def ty105 : Ty := { und := (.pointer 128), size := 1, bytes := 8, zero := (.pointer none), sh := shPtr }
def ty106 : Ty := { und := (.tuple #[105, 35, 3]), size := 1, bytes := 0, zero := (.tuple #[(.pointer none), (.int .i64 0), (.int .i64 0)]), sh := shTup3 shPtr (shInt .i64) (shInt .i64) }
def ty111 : Ty := { und := (.map 42 3), size := 1, bytes := 8, zero := (.map none), sh := shMap }
def ty113 : Ty := { und := (.struct #[{ name := "labels", type := 23, offset := 0, embedded := false, tag := "", pkgPath := "firebreak/table", byteOffset := 0 }, { name := "by", type := 111, offset := 1, embedded := false, tag := "", pkgPath := "firebreak/table", byteOffset := 24 }]), size := 2, bytes := 32, zero := (.agg #[(.slice none 0 0), (.map none)]), sh := sh_table_Table }
def ty119 : Ty := { und := (.struct #[{ name := "Proc", type := 3, offset := 0, embedded := false, tag := "", pkgPath := "", byteOffset := 0 }, { name := "Value", type := 2, offset := 1, embedded := false, tag := "", pkgPath := "", byteOffset := 8 }]), size := 2, bytes := 16, zero := (.agg #[(.int .i64 0), (.int .i64 0)]), sh := sh_api_Waiter }
def ty121 : Ty := { und := (.tuple #[27, 35, 3]), size := 1, bytes := 0, zero := (.tuple #[(.agg #[(.slice none 0 0), (.slice none 0 0), (.int .i64 0), (.int .i64 0), (.int .i64 0), (.int .i64 0), (.slice none 0 0)]), (.int .i64 0), (.int .i64 0)]), sh := shTup3 sh_api_Config (shInt .i64) (shInt .i64) }
def ty128 : Ty := { und := (.struct #[{ name := "table", type := 24, offset := 0, embedded := false, tag := "", pkgPath := "firebreak/slots", byteOffset := 0 }, { name := "parts", type := 3, offset := 1, embedded := false, tag := "", pkgPath := "firebreak/slots", byteOffset := 24 }]), size := 2, bytes := 32, zero := (.agg #[(.slice none 0 0), (.int .i64 0)]), sh := sh_slots_Slots }
def ty131 : Ty := { und := (.pointer 133), size := 1, bytes := 8, zero := (.pointer none), sh := shPtr }
def ty133 : Ty := { und := (.struct #[{ name := "b", type := 34, offset := 0, embedded := false, tag := "", pkgPath := "firebreak/conf", byteOffset := 0 }, { name := "at", type := 3, offset := 1, embedded := false, tag := "", pkgPath := "firebreak/conf", byteOffset := 24 }, { name := "e", type := 35, offset := 2, embedded := false, tag := "", pkgPath := "firebreak/conf", byteOffset := 32 }, { name := "place", type := 3, offset := 3, embedded := false, tag := "", pkgPath := "firebreak/conf", byteOffset := 40 }]), size := 4, bytes := 48, zero := (.agg #[(.slice none 0 0), (.int .i64 0), (.int .i64 0), (.int .i64 0)]), sh := sh_conf_reader }
def ty135 : Ty := { und := (.pointer 27), size := 1, bytes := 8, zero := (.pointer none), sh := shPtr }
def ty138 : Ty := { und := (.func #[42] #[35] false), size := 1, bytes := 8, zero := .nilFunc, sh := shFn }
def ty141 : Ty := { und := (.func #[3] #[35] false), size := 1, bytes := 8, zero := .nilFunc, sh := shFn }
def ty143 : Ty := { und := (.tuple #[4, 4, 4, 4]), size := 1, bytes := 0, zero := (.tuple #[(.bool false), (.bool false), (.bool false), (.bool false)]), sh := shTup4 shBool shBool shBool shBool }
def ty150 : Ty := { und := (.func #[9] #[4] false), size := 1, bytes := 8, zero := .nilFunc, sh := shFn }
def ty151 : Ty := { und := (.struct #[{ name := "has", type := 4, offset := 0, embedded := false, tag := "", pkgPath := "firebreak/conf", byteOffset := 0 }, { name := "n", type := 3, offset := 1, embedded := false, tag := "", pkgPath := "firebreak/conf", byteOffset := 8 }]), size := 2, bytes := 16, zero := (.agg #[(.bool false), (.int .i64 0)]), sh := sh_struct_has_bool_n_int }
def ty152 : Ty := { und := (.slice 151), size := 1, bytes := 24, zero := (.slice none 0 0), sh := shSl }
def ty153 : Ty := { und := (.array 34 9), size := 34, bytes := 544, zero := (.agg #[(.string ByteArray.empty), (.string ByteArray.empty), (.string ByteArray.empty), (.string ByteArray.empty), (.string ByteArray.empty), (.string ByteArray.empty), (.string ByteArray.empty), (.string ByteArray.empty), (.string ByteArray.empty), (.string ByteArray.empty), (.string ByteArray.empty), (.string ByteArray.empty), (.string ByteArray.empty), (.string ByteArray.empty), (.string ByteArray.empty), (.string ByteArray.empty), (.string ByteArray.empty), (.string ByteArray.empty), (.string ByteArray.empty), (.string ByteArray.empty), (.string ByteArray.empty), (.string ByteArray.empty), (.string ByteArray.empty), (.string ByteArray.empty), (.string ByteArray.empty), (.string ByteArray.empty), (.string ByteArray.empty), (.string ByteArray.empty), (.string ByteArray.empty), (.string ByteArray.empty), (.string ByteArray.empty), (.string ByteArray.empty), (.string ByteArray.empty), (.string ByteArray.empty)]), sh := shCells 34 }
def ty157 : Ty := { und := (.int .u32), size := 1, bytes := 4, zero := (.int .u32 0), sh := shInt .u32 }
def ty158 : Ty := { und := (.tuple #[157, 157]), size := 1, bytes := 0, zero := (.tuple #[(.int .u32 0), (.int .u32 0)]), sh := shTup2 (shInt .u32) (shInt .u32) }
def tyRows : List (List (Option Ty)) := [[some ty0, none, some ty2, some ty3, some ty4, some ty5, none, none, none, some ty9, none, none, none, none, none, none],
  [none, none, none, none, none, none, none, some ty23, some ty24, some ty25, none, some ty27, some ty28, some ty29, none, some ty31],
  [some ty32, none, some ty34, some ty35, some ty36, none, some ty38, none, none, none, some ty42, some ty43, none, some ty45, some ty46, some ty47],
  [none, some ty49, some ty50, some ty51, none, some ty53, some ty54, some ty55, none, some ty57, none, none, some ty60, none, some ty62, none],
  [some ty64, none, none, none, none, some ty69, none, some ty71, none, some ty73, none, none, none, none, none, some ty79],
  [none, some ty81, some ty82, none, none, some ty85, some ty86, none, some ty88, none, some ty90, none, some ty92, none, none, none],
  [none, some ty97, none, none, none, some ty101, none, none, none, some ty105, some ty106, none, none, none, none, some ty111],
  [none, some ty113, none, none, none, none, none, some ty119, none, some ty121, none, none, none, none, none, none],
  [some ty128, none, none, some ty131, none, some ty133, none, some ty135, none, none, some ty138, none, none, some ty141, none, some ty143],
  [none, none, none, none, none, none, some ty150, some ty151, some ty152, some ty153, none, none, none, some ty157, some ty158]]
def tyAt (t : Nat) : Option Ty := match nth tyRows (t / 16) with
  | some r => match nth r (t % 16) with
    | some e => e
    | none => none
  | none => none
def fnRows : List (List Bool) := [[false, false, true, true, true, true, true, true, true, true, true, true, true, true, true, true],
  [true, true, true, true, true, true, true, true, true, true, true, true, true, true, true, true],
  [true, true, true, true, true, true, true, true, true, true, true, true, true, true, true, true],
  [true, true, true, true, true, true, true, true, true, true, true, true, true, true, true, true],
  [true, true, true, true, true, true, true, true, true, true, true, true, true, true, true, true],
  [true, true, true, true, true, true, true, true, true, true, true, true, true, true, true, true],
  [false, true, true, false, true]]
def fnAt (g : Nat) : Bool := match nth fnRows (g / 16) with
  | some r => match nth r (g % 16) with
    | some e => e
    | none => false
  | none => false
def extAt (g : Nat) : Option (Array Value → Sem Value) := none
def tb : Tb := { ty := tyAt, call := fnAt, ext := extAt }

abbrev n_gosem_cut_init : Nat := 2
abbrev n_firebreaklaw22_SnapNames : Nat := 3
abbrev n_firebreaklaw22_awake : Nat := 4
abbrev n_firebreaklaw22_plain : Nat := 5
abbrev n_snap_Encode : Nat := 6
abbrev n_snap_Decode : Nat := 7
abbrev n_firebreakref14_Same : Nat := 8
abbrev n_firebreakref18_Same : Nat := 9
abbrev n_machine_May : Nat := 10
abbrev n_conf_Encode : Nat := 11
abbrev n_snap_numbers_count : Nat := 12
abbrev n_snap_numbers_put : Nat := 13
abbrev n_snap_writer_part : Nat := 14
abbrev n_snap_writer_proc : Nat := 15
abbrev n_snap_reader_state : Nat := 16
abbrev n_snap_source_give : Nat := 17
abbrev n_firebreakref14_Skeleton : Nat := 18
abbrev n_firebreakref06_Same : Nat := 19
abbrev n_firebreakref18_samePart : Nat := 20
abbrev n_firebreakref18_sameProcess : Nat := 21
abbrev n_conf_May : Nat := 22
abbrev n_table_New : Nat := 23
abbrev n_machine_asked_part : Nat := 24
abbrev n_machine_asked_proc : Nat := 25
abbrev n_machine_asked_waits : Nat := 26
abbrev n_conf_lay : Nat := 27
abbrev n_code_Encode : Nat := 28
abbrev n_snap_writer_lane : Nat := 29
abbrev n_snap_source_get : Nat := 30
abbrev n_snap_reader_config : Nat := 31
abbrev n_snap_reader_part : Nat := 32
abbrev n_snap_reader_proc : Nat := 33
abbrev n_firebreakref02_SameLabels : Nat := 34
abbrev n_firebreakref02_SameInts : Nat := 35
abbrev n_firebreakref18_ints : Nat := 36
abbrev n_firebreakref18_sameLane : Nat := 37
abbrev n_table_May : Nat := 38
abbrev n_conf_many : Nat := 39
abbrev n_slots_New : Nat := 40
abbrev n_conf_ranged : Nat := 41
abbrev n_conf_within : Nat := 42
abbrev n_code_May : Nat := 43
abbrev n_slices_Clone_uint64_uint64 : Nat := 44
abbrev n_machine_asked_many : Nat := 45
abbrev n_machine_asked_of : Nat := 46
abbrev n_machine_count : Nat := 47
abbrev n_slices_ContainsFunc_int_int : Nat := 48
abbrev n_machine_asked_part_1 : Nat := 49
abbrev n_machine_lives : Nat := 50
abbrev n_table_Table_Flows : Nat := 51
abbrev n_machine_asked_op : Nat := 52
abbrev n_machine_asked_ins : Nat := 53
abbrev n_machine_asked_sends : Nat := 54
abbrev n_snap_source_small : Nat := 55
abbrev n_conf_Decode : Nat := 56
abbrev n_snap_source_many : Nat := 57
abbrev n_snap_reader_lane : Nat := 58
abbrev n_slices_IndexFunc_int_int : Nat := 59
abbrev n_slots_New_1 : Nat := 60
abbrev n_slices_Clone_int_int : Nat := 61
abbrev n_code_Check : Nat := 62
abbrev n_table_Table_is : Nat := 63
abbrev n_label_Flows : Nat := 64
abbrev n_conf_reader_give : Nat := 65
abbrev n_conf_reader_marked : Nat := 66
abbrev n_conf_reader_bad : Nat := 67
abbrev n_conf_reader_labels : Nat := 68
abbrev n_conf_reader_table : Nat := 69
abbrev n_conf_reader_ranged : Nat := 70
abbrev n_conf_reader_counted : Nat := 71
abbrev n_conf_reader_proc : Nat := 72
abbrev n_code_wrong : Nat := 73
abbrev n_conf_reader_number : Nat := 74
abbrev n_conf_reader_marked_1 : Nat := 75
abbrev n_conf_reader_labels_1 : Nat := 76
abbrev n_conf_reader_partition : Nat := 77
abbrev n_conf_reader_int : Nat := 78
abbrev n_conf_reader_ranged_1 : Nat := 79
abbrev n_conf_reader_counted_1 : Nat := 80
abbrev n_conf_reader_proc_1 : Nat := 81
abbrev n_conf_reader_ins : Nat := 82
abbrev n_code_Fields : Nat := 83
abbrev n_code_register : Nat := 84
abbrev n_code_number : Nat := 85
abbrev n_conf_reader_partition_1 : Nat := 86
abbrev n_conf_reader_int_1 : Nat := 87
abbrev n_conf_reader_ins_1 : Nat := 88
abbrev n_conf_spoilt : Nat := 89
abbrev n_code_fields : Nat := 90
abbrev n_code_Fields_1 : Nat := 91
abbrev n_strings_Contains : Nat := 92
abbrev n_strings_Index : Nat := 93
abbrev n_internal_stringslite_Index : Nat := 94
abbrev n_internal_stringslite_IndexByte : Nat := 95
abbrev n_internal_bytealg_Cutover : Nat := 97
abbrev n_internal_bytealg_IndexRabinKarp_string : Nat := 98
abbrev n_internal_bytealg_hashStr_string : Nat := 100
end Lf

/-
  The lifting layer, part 4: the same words for several variables, one behind the other.
-/
namespace Lf
open Go

def JoinW0 (A : (Hp → Prop) → Prop) (B : Hp → Prop) : Prop :=
  JoinT (σ := Unit) (fun R => A (fun h => R () h)) (fun _ h => B  h)
theorem JoinW0.intro {A : (Hp → Prop) → Prop} {B : Hp → Prop} (R : Hp → Prop) (hA : A R) (hB : ∀ h, R h → B h) : JoinW0 A B :=
  ⟨fun _ h => R  h, hA, fun _ h hr => hB  h hr⟩
theorem JoinW0.direct {A : (Hp → Prop) → Prop} {B : Hp → Prop} (hA : A B) : JoinW0 A B := JoinW0.intro B hA (fun _ hr => hr)
def LoopW0 (body : (Hp → Prop) → Hp → Prop)  (h : Hp) : Prop :=
  LoopT (σ := Unit) (fun R _ h => body (fun h => R () h)  h) () h
theorem LoopW0.intro {body : (Hp → Prop) → Hp → Prop} {h : Hp} (I : Hp → Prop) (μ : Hp → Nat)
    (h0 : I  h) (hr : ∀  k, I  k → body (fun  k' => I  k' ∧ μ  k' < μ  k)  k) : LoopW0 body  h :=
  ⟨fun _ h => I  h, fun _ h => μ  h, h0, fun _ k hk => hr  k hk⟩

def JoinW1 {α1 : Type} (A : (α1 → Hp → Prop) → Prop) (B : α1 → Hp → Prop) : Prop :=
  JoinT (σ := α1) (fun R => A (fun x1 h => R x1 h)) (fun p h => B p h)
theorem JoinW1.intro {α1 : Type} {A : (α1 → Hp → Prop) → Prop} {B : α1 → Hp → Prop} (R : α1 → Hp → Prop) (hA : A R) (hB : ∀ x1 h, R x1 h → B x1 h) : JoinW1 A B :=
  ⟨fun p h => R p h, hA, fun p h hr => hB p h hr⟩
theorem JoinW1.direct {α1 : Type} {A : (α1 → Hp → Prop) → Prop} {B : α1 → Hp → Prop} (hA : A B) : JoinW1 A B := JoinW1.intro B hA (fun _ _ hr => hr)
def LoopW1 {α1 : Type} (body : (α1 → Hp → Prop) → α1 → Hp → Prop) (x1 : α1) (h : Hp) : Prop :=
  LoopT (σ := α1) (fun R p h => body (fun x1 h => R x1 h) p h) x1 h
theorem LoopW1.intro {α1 : Type} {body : (α1 → Hp → Prop) → α1 → Hp → Prop} {x1 : α1} {h : Hp} (I : α1 → Hp → Prop) (μ : α1 → Hp → Nat)
    (h0 : I x1 h) (hr : ∀ x1 k, I x1 k → body (fun y1 k' => I y1 k' ∧ μ y1 k' < μ x1 k) x1 k) : LoopW1 body x1 h :=
  ⟨fun p h => I p h, fun p h => μ p h, h0, fun p k hk => hr p k hk⟩

def JoinW2 {α1 α2 : Type} (A : (α1 → α2 → Hp → Prop) → Prop) (B : α1 → α2 → Hp → Prop) : Prop :=
  JoinT (σ := α1 × α2) (fun R => A (fun x1 x2 h => R (x1, x2) h)) (fun p h => B p.1 p.2 h)
theorem JoinW2.intro {α1 α2 : Type} {A : (α1 → α2 → Hp → Prop) → Prop} {B : α1 → α2 → Hp → Prop} (R : α1 → α2 → Hp → Prop) (hA : A R) (hB : ∀ x1 x2 h, R x1 x2 h → B x1 x2 h) : JoinW2 A B :=
  ⟨fun p h => R p.1 p.2 h, hA, fun p h hr => hB p.1 p.2 h hr⟩
theorem JoinW2.direct {α1 α2 : Type} {A : (α1 → α2 → Hp → Prop) → Prop} {B : α1 → α2 → Hp → Prop} (hA : A B) : JoinW2 A B := JoinW2.intro B hA (fun _ _ _ hr => hr)
def LoopW2 {α1 α2 : Type} (body : (α1 → α2 → Hp → Prop) → α1 → α2 → Hp → Prop) (x1 : α1) (x2 : α2) (h : Hp) : Prop :=
  LoopT (σ := α1 × α2) (fun R p h => body (fun x1 x2 h => R (x1, x2) h) p.1 p.2 h) (x1, x2) h
theorem LoopW2.intro {α1 α2 : Type} {body : (α1 → α2 → Hp → Prop) → α1 → α2 → Hp → Prop} {x1 : α1} {x2 : α2} {h : Hp} (I : α1 → α2 → Hp → Prop) (μ : α1 → α2 → Hp → Nat)
    (h0 : I x1 x2 h) (hr : ∀ x1 x2 k, I x1 x2 k → body (fun y1 y2 k' => I y1 y2 k' ∧ μ y1 y2 k' < μ x1 x2 k) x1 x2 k) : LoopW2 body x1 x2 h :=
  ⟨fun p h => I p.1 p.2 h, fun p h => μ p.1 p.2 h, h0, fun p k hk => hr p.1 p.2 k hk⟩

def JoinW3 {α1 α2 α3 : Type} (A : (α1 → α2 → α3 → Hp → Prop) → Prop) (B : α1 → α2 → α3 → Hp → Prop) : Prop :=
  JoinT (σ := α1 × α2 × α3) (fun R => A (fun x1 x2 x3 h => R (x1, x2, x3) h)) (fun p h => B p.1 p.2.1 p.2.2 h)
theorem JoinW3.intro {α1 α2 α3 : Type} {A : (α1 → α2 → α3 → Hp → Prop) → Prop} {B : α1 → α2 → α3 → Hp → Prop} (R : α1 → α2 → α3 → Hp → Prop) (hA : A R) (hB : ∀ x1 x2 x3 h, R x1 x2 x3 h → B x1 x2 x3 h) : JoinW3 A B :=
  ⟨fun p h => R p.1 p.2.1 p.2.2 h, hA, fun p h hr => hB p.1 p.2.1 p.2.2 h hr⟩
theorem JoinW3.direct {α1 α2 α3 : Type} {A : (α1 → α2 → α3 → Hp → Prop) → Prop} {B : α1 → α2 → α3 → Hp → Prop} (hA : A B) : JoinW3 A B := JoinW3.intro B hA (fun _ _ _ _ hr => hr)
def LoopW3 {α1 α2 α3 : Type} (body : (α1 → α2 → α3 → Hp → Prop) → α1 → α2 → α3 → Hp → Prop) (x1 : α1) (x2 : α2) (x3 : α3) (h : Hp) : Prop :=
  LoopT (σ := α1 × α2 × α3) (fun R p h => body (fun x1 x2 x3 h => R (x1, x2, x3) h) p.1 p.2.1 p.2.2 h) (x1, x2, x3) h
theorem LoopW3.intro {α1 α2 α3 : Type} {body : (α1 → α2 → α3 → Hp → Prop) → α1 → α2 → α3 → Hp → Prop} {x1 : α1} {x2 : α2} {x3 : α3} {h : Hp} (I : α1 → α2 → α3 → Hp → Prop) (μ : α1 → α2 → α3 → Hp → Nat)
    (h0 : I x1 x2 x3 h) (hr : ∀ x1 x2 x3 k, I x1 x2 x3 k → body (fun y1 y2 y3 k' => I y1 y2 y3 k' ∧ μ y1 y2 y3 k' < μ x1 x2 x3 k) x1 x2 x3 k) : LoopW3 body x1 x2 x3 h :=
  ⟨fun p h => I p.1 p.2.1 p.2.2 h, fun p h => μ p.1 p.2.1 p.2.2 h, h0, fun p k hk => hr p.1 p.2.1 p.2.2 k hk⟩

def JoinW4 {α1 α2 α3 α4 : Type} (A : (α1 → α2 → α3 → α4 → Hp → Prop) → Prop) (B : α1 → α2 → α3 → α4 → Hp → Prop) : Prop :=
  JoinT (σ := α1 × α2 × α3 × α4) (fun R => A (fun x1 x2 x3 x4 h => R (x1, x2, x3, x4) h)) (fun p h => B p.1 p.2.1 p.2.2.1 p.2.2.2 h)
theorem JoinW4.intro {α1 α2 α3 α4 : Type} {A : (α1 → α2 → α3 → α4 → Hp → Prop) → Prop} {B : α1 → α2 → α3 → α4 → Hp → Prop} (R : α1 → α2 → α3 → α4 → Hp → Prop) (hA : A R) (hB : ∀ x1 x2 x3 x4 h, R x1 x2 x3 x4 h → B x1 x2 x3 x4 h) : JoinW4 A B :=
  ⟨fun p h => R p.1 p.2.1 p.2.2.1 p.2.2.2 h, hA, fun p h hr => hB p.1 p.2.1 p.2.2.1 p.2.2.2 h hr⟩
theorem JoinW4.direct {α1 α2 α3 α4 : Type} {A : (α1 → α2 → α3 → α4 → Hp → Prop) → Prop} {B : α1 → α2 → α3 → α4 → Hp → Prop} (hA : A B) : JoinW4 A B := JoinW4.intro B hA (fun _ _ _ _ _ hr => hr)
def LoopW4 {α1 α2 α3 α4 : Type} (body : (α1 → α2 → α3 → α4 → Hp → Prop) → α1 → α2 → α3 → α4 → Hp → Prop) (x1 : α1) (x2 : α2) (x3 : α3) (x4 : α4) (h : Hp) : Prop :=
  LoopT (σ := α1 × α2 × α3 × α4) (fun R p h => body (fun x1 x2 x3 x4 h => R (x1, x2, x3, x4) h) p.1 p.2.1 p.2.2.1 p.2.2.2 h) (x1, x2, x3, x4) h
theorem LoopW4.intro {α1 α2 α3 α4 : Type} {body : (α1 → α2 → α3 → α4 → Hp → Prop) → α1 → α2 → α3 → α4 → Hp → Prop} {x1 : α1} {x2 : α2} {x3 : α3} {x4 : α4} {h : Hp} (I : α1 → α2 → α3 → α4 → Hp → Prop) (μ : α1 → α2 → α3 → α4 → Hp → Nat)
    (h0 : I x1 x2 x3 x4 h) (hr : ∀ x1 x2 x3 x4 k, I x1 x2 x3 x4 k → body (fun y1 y2 y3 y4 k' => I y1 y2 y3 y4 k' ∧ μ y1 y2 y3 y4 k' < μ x1 x2 x3 x4 k) x1 x2 x3 x4 k) : LoopW4 body x1 x2 x3 x4 h :=
  ⟨fun p h => I p.1 p.2.1 p.2.2.1 p.2.2.2 h, fun p h => μ p.1 p.2.1 p.2.2.1 p.2.2.2 h, h0, fun p k hk => hr p.1 p.2.1 p.2.2.1 p.2.2.2 k hk⟩

def JoinW5 {α1 α2 α3 α4 α5 : Type} (A : (α1 → α2 → α3 → α4 → α5 → Hp → Prop) → Prop) (B : α1 → α2 → α3 → α4 → α5 → Hp → Prop) : Prop :=
  JoinT (σ := α1 × α2 × α3 × α4 × α5) (fun R => A (fun x1 x2 x3 x4 x5 h => R (x1, x2, x3, x4, x5) h)) (fun p h => B p.1 p.2.1 p.2.2.1 p.2.2.2.1 p.2.2.2.2 h)
theorem JoinW5.intro {α1 α2 α3 α4 α5 : Type} {A : (α1 → α2 → α3 → α4 → α5 → Hp → Prop) → Prop} {B : α1 → α2 → α3 → α4 → α5 → Hp → Prop} (R : α1 → α2 → α3 → α4 → α5 → Hp → Prop) (hA : A R) (hB : ∀ x1 x2 x3 x4 x5 h, R x1 x2 x3 x4 x5 h → B x1 x2 x3 x4 x5 h) : JoinW5 A B :=
  ⟨fun p h => R p.1 p.2.1 p.2.2.1 p.2.2.2.1 p.2.2.2.2 h, hA, fun p h hr => hB p.1 p.2.1 p.2.2.1 p.2.2.2.1 p.2.2.2.2 h hr⟩
theorem JoinW5.direct {α1 α2 α3 α4 α5 : Type} {A : (α1 → α2 → α3 → α4 → α5 → Hp → Prop) → Prop} {B : α1 → α2 → α3 → α4 → α5 → Hp → Prop} (hA : A B) : JoinW5 A B := JoinW5.intro B hA (fun _ _ _ _ _ _ hr => hr)
def LoopW5 {α1 α2 α3 α4 α5 : Type} (body : (α1 → α2 → α3 → α4 → α5 → Hp → Prop) → α1 → α2 → α3 → α4 → α5 → Hp → Prop) (x1 : α1) (x2 : α2) (x3 : α3) (x4 : α4) (x5 : α5) (h : Hp) : Prop :=
  LoopT (σ := α1 × α2 × α3 × α4 × α5) (fun R p h => body (fun x1 x2 x3 x4 x5 h => R (x1, x2, x3, x4, x5) h) p.1 p.2.1 p.2.2.1 p.2.2.2.1 p.2.2.2.2 h) (x1, x2, x3, x4, x5) h
theorem LoopW5.intro {α1 α2 α3 α4 α5 : Type} {body : (α1 → α2 → α3 → α4 → α5 → Hp → Prop) → α1 → α2 → α3 → α4 → α5 → Hp → Prop} {x1 : α1} {x2 : α2} {x3 : α3} {x4 : α4} {x5 : α5} {h : Hp} (I : α1 → α2 → α3 → α4 → α5 → Hp → Prop) (μ : α1 → α2 → α3 → α4 → α5 → Hp → Nat)
    (h0 : I x1 x2 x3 x4 x5 h) (hr : ∀ x1 x2 x3 x4 x5 k, I x1 x2 x3 x4 x5 k → body (fun y1 y2 y3 y4 y5 k' => I y1 y2 y3 y4 y5 k' ∧ μ y1 y2 y3 y4 y5 k' < μ x1 x2 x3 x4 x5 k) x1 x2 x3 x4 x5 k) : LoopW5 body x1 x2 x3 x4 x5 h :=
  ⟨fun p h => I p.1 p.2.1 p.2.2.1 p.2.2.2.1 p.2.2.2.2 h, fun p h => μ p.1 p.2.1 p.2.2.1 p.2.2.2.1 p.2.2.2.2 h, h0, fun p k hk => hr p.1 p.2.1 p.2.2.1 p.2.2.2.1 p.2.2.2.2 k hk⟩

def JoinW6 {α1 α2 α3 α4 α5 α6 : Type} (A : (α1 → α2 → α3 → α4 → α5 → α6 → Hp → Prop) → Prop) (B : α1 → α2 → α3 → α4 → α5 → α6 → Hp → Prop) : Prop :=
  JoinT (σ := α1 × α2 × α3 × α4 × α5 × α6) (fun R => A (fun x1 x2 x3 x4 x5 x6 h => R (x1, x2, x3, x4, x5, x6) h)) (fun p h => B p.1 p.2.1 p.2.2.1 p.2.2.2.1 p.2.2.2.2.1 p.2.2.2.2.2 h)
theorem JoinW6.intro {α1 α2 α3 α4 α5 α6 : Type} {A : (α1 → α2 → α3 → α4 → α5 → α6 → Hp → Prop) → Prop} {B : α1 → α2 → α3 → α4 → α5 → α6 → Hp → Prop} (R : α1 → α2 → α3 → α4 → α5 → α6 → Hp → Prop) (hA : A R) (hB : ∀ x1 x2 x3 x4 x5 x6 h, R x1 x2 x3 x4 x5 x6 h → B x1 x2 x3 x4 x5 x6 h) : JoinW6 A B :=
  ⟨fun p h => R p.1 p.2.1 p.2.2.1 p.2.2.2.1 p.2.2.2.2.1 p.2.2.2.2.2 h, hA, fun p h hr => hB p.1 p.2.1 p.2.2.1 p.2.2.2.1 p.2.2.2.2.1 p.2.2.2.2.2 h hr⟩
theorem JoinW6.direct {α1 α2 α3 α4 α5 α6 : Type} {A : (α1 → α2 → α3 → α4 → α5 → α6 → Hp → Prop) → Prop} {B : α1 → α2 → α3 → α4 → α5 → α6 → Hp → Prop} (hA : A B) : JoinW6 A B := JoinW6.intro B hA (fun _ _ _ _ _ _ _ hr => hr)
def LoopW6 {α1 α2 α3 α4 α5 α6 : Type} (body : (α1 → α2 → α3 → α4 → α5 → α6 → Hp → Prop) → α1 → α2 → α3 → α4 → α5 → α6 → Hp → Prop) (x1 : α1) (x2 : α2) (x3 : α3) (x4 : α4) (x5 : α5) (x6 : α6) (h : Hp) : Prop :=
  LoopT (σ := α1 × α2 × α3 × α4 × α5 × α6) (fun R p h => body (fun x1 x2 x3 x4 x5 x6 h => R (x1, x2, x3, x4, x5, x6) h) p.1 p.2.1 p.2.2.1 p.2.2.2.1 p.2.2.2.2.1 p.2.2.2.2.2 h) (x1, x2, x3, x4, x5, x6) h
theorem LoopW6.intro {α1 α2 α3 α4 α5 α6 : Type} {body : (α1 → α2 → α3 → α4 → α5 → α6 → Hp → Prop) → α1 → α2 → α3 → α4 → α5 → α6 → Hp → Prop} {x1 : α1} {x2 : α2} {x3 : α3} {x4 : α4} {x5 : α5} {x6 : α6} {h : Hp} (I : α1 → α2 → α3 → α4 → α5 → α6 → Hp → Prop) (μ : α1 → α2 → α3 → α4 → α5 → α6 → Hp → Nat)
    (h0 : I x1 x2 x3 x4 x5 x6 h) (hr : ∀ x1 x2 x3 x4 x5 x6 k, I x1 x2 x3 x4 x5 x6 k → body (fun y1 y2 y3 y4 y5 y6 k' => I y1 y2 y3 y4 y5 y6 k' ∧ μ y1 y2 y3 y4 y5 y6 k' < μ x1 x2 x3 x4 x5 x6 k) x1 x2 x3 x4 x5 x6 k) : LoopW6 body x1 x2 x3 x4 x5 x6 h :=
  ⟨fun p h => I p.1 p.2.1 p.2.2.1 p.2.2.2.1 p.2.2.2.2.1 p.2.2.2.2.2 h, fun p h => μ p.1 p.2.1 p.2.2.1 p.2.2.2.1 p.2.2.2.2.1 p.2.2.2.2.2 h, h0, fun p k hk => hr p.1 p.2.1 p.2.2.1 p.2.2.2.1 p.2.2.2.2.1 p.2.2.2.2.2 k hk⟩

def JoinW7 {α1 α2 α3 α4 α5 α6 α7 : Type} (A : (α1 → α2 → α3 → α4 → α5 → α6 → α7 → Hp → Prop) → Prop) (B : α1 → α2 → α3 → α4 → α5 → α6 → α7 → Hp → Prop) : Prop :=
  JoinT (σ := α1 × α2 × α3 × α4 × α5 × α6 × α7) (fun R => A (fun x1 x2 x3 x4 x5 x6 x7 h => R (x1, x2, x3, x4, x5, x6, x7) h)) (fun p h => B p.1 p.2.1 p.2.2.1 p.2.2.2.1 p.2.2.2.2.1 p.2.2.2.2.2.1 p.2.2.2.2.2.2 h)
theorem JoinW7.intro {α1 α2 α3 α4 α5 α6 α7 : Type} {A : (α1 → α2 → α3 → α4 → α5 → α6 → α7 → Hp → Prop) → Prop} {B : α1 → α2 → α3 → α4 → α5 → α6 → α7 → Hp → Prop} (R : α1 → α2 → α3 → α4 → α5 → α6 → α7 → Hp → Prop) (hA : A R) (hB : ∀ x1 x2 x3 x4 x5 x6 x7 h, R x1 x2 x3 x4 x5 x6 x7 h → B x1 x2 x3 x4 x5 x6 x7 h) : JoinW7 A B :=
  ⟨fun p h => R p.1 p.2.1 p.2.2.1 p.2.2.2.1 p.2.2.2.2.1 p.2.2.2.2.2.1 p.2.2.2.2.2.2 h, hA, fun p h hr => hB p.1 p.2.1 p.2.2.1 p.2.2.2.1 p.2.2.2.2.1 p.2.2.2.2.2.1 p.2.2.2.2.2.2 h hr⟩
theorem JoinW7.direct {α1 α2 α3 α4 α5 α6 α7 : Type} {A : (α1 → α2 → α3 → α4 → α5 → α6 → α7 → Hp → Prop) → Prop} {B : α1 → α2 → α3 → α4 → α5 → α6 → α7 → Hp → Prop} (hA : A B) : JoinW7 A B := JoinW7.intro B hA (fun _ _ _ _ _ _ _ _ hr => hr)
def LoopW7 {α1 α2 α3 α4 α5 α6 α7 : Type} (body : (α1 → α2 → α3 → α4 → α5 → α6 → α7 → Hp → Prop) → α1 → α2 → α3 → α4 → α5 → α6 → α7 → Hp → Prop) (x1 : α1) (x2 : α2) (x3 : α3) (x4 : α4) (x5 : α5) (x6 : α6) (x7 : α7) (h : Hp) : Prop :=
  LoopT (σ := α1 × α2 × α3 × α4 × α5 × α6 × α7) (fun R p h => body (fun x1 x2 x3 x4 x5 x6 x7 h => R (x1, x2, x3, x4, x5, x6, x7) h) p.1 p.2.1 p.2.2.1 p.2.2.2.1 p.2.2.2.2.1 p.2.2.2.2.2.1 p.2.2.2.2.2.2 h) (x1, x2, x3, x4, x5, x6, x7) h
theorem LoopW7.intro {α1 α2 α3 α4 α5 α6 α7 : Type} {body : (α1 → α2 → α3 → α4 → α5 → α6 → α7 → Hp → Prop) → α1 → α2 → α3 → α4 → α5 → α6 → α7 → Hp → Prop} {x1 : α1} {x2 : α2} {x3 : α3} {x4 : α4} {x5 : α5} {x6 : α6} {x7 : α7} {h : Hp} (I : α1 → α2 → α3 → α4 → α5 → α6 → α7 → Hp → Prop) (μ : α1 → α2 → α3 → α4 → α5 → α6 → α7 → Hp → Nat)
    (h0 : I x1 x2 x3 x4 x5 x6 x7 h) (hr : ∀ x1 x2 x3 x4 x5 x6 x7 k, I x1 x2 x3 x4 x5 x6 x7 k → body (fun y1 y2 y3 y4 y5 y6 y7 k' => I y1 y2 y3 y4 y5 y6 y7 k' ∧ μ y1 y2 y3 y4 y5 y6 y7 k' < μ x1 x2 x3 x4 x5 x6 x7 k) x1 x2 x3 x4 x5 x6 x7 k) : LoopW7 body x1 x2 x3 x4 x5 x6 x7 h :=
  ⟨fun p h => I p.1 p.2.1 p.2.2.1 p.2.2.2.1 p.2.2.2.2.1 p.2.2.2.2.2.1 p.2.2.2.2.2.2 h, fun p h => μ p.1 p.2.1 p.2.2.1 p.2.2.2.1 p.2.2.2.2.1 p.2.2.2.2.2.1 p.2.2.2.2.2.2 h, h0, fun p k hk => hr p.1 p.2.1 p.2.2.1 p.2.2.2.1 p.2.2.2.2.1 p.2.2.2.2.2.1 p.2.2.2.2.2.2 k hk⟩

def JoinW8 {α1 α2 α3 α4 α5 α6 α7 α8 : Type} (A : (α1 → α2 → α3 → α4 → α5 → α6 → α7 → α8 → Hp → Prop) → Prop) (B : α1 → α2 → α3 → α4 → α5 → α6 → α7 → α8 → Hp → Prop) : Prop :=
  JoinT (σ := α1 × α2 × α3 × α4 × α5 × α6 × α7 × α8) (fun R => A (fun x1 x2 x3 x4 x5 x6 x7 x8 h => R (x1, x2, x3, x4, x5, x6, x7, x8) h)) (fun p h => B p.1 p.2.1 p.2.2.1 p.2.2.2.1 p.2.2.2.2.1 p.2.2.2.2.2.1 p.2.2.2.2.2.2.1 p.2.2.2.2.2.2.2 h)
theorem JoinW8.intro {α1 α2 α3 α4 α5 α6 α7 α8 : Type} {A : (α1 → α2 → α3 → α4 → α5 → α6 → α7 → α8 → Hp → Prop) → Prop} {B : α1 → α2 → α3 → α4 → α5 → α6 → α7 → α8 → Hp → Prop} (R : α1 → α2 → α3 → α4 → α5 → α6 → α7 → α8 → Hp → Prop) (hA : A R) (hB : ∀ x1 x2 x3 x4 x5 x6 x7 x8 h, R x1 x2 x3 x4 x5 x6 x7 x8 h → B x1 x2 x3 x4 x5 x6 x7 x8 h) : JoinW8 A B :=
  ⟨fun p h => R p.1 p.2.1 p.2.2.1 p.2.2.2.1 p.2.2.2.2.1 p.2.2.2.2.2.1 p.2.2.2.2.2.2.1 p.2.2.2.2.2.2.2 h, hA, fun p h hr => hB p.1 p.2.1 p.2.2.1 p.2.2.2.1 p.2.2.2.2.1 p.2.2.2.2.2.1 p.2.2.2.2.2.2.1 p.2.2.2.2.2.2.2 h hr⟩
theorem JoinW8.direct {α1 α2 α3 α4 α5 α6 α7 α8 : Type} {A : (α1 → α2 → α3 → α4 → α5 → α6 → α7 → α8 → Hp → Prop) → Prop} {B : α1 → α2 → α3 → α4 → α5 → α6 → α7 → α8 → Hp → Prop} (hA : A B) : JoinW8 A B := JoinW8.intro B hA (fun _ _ _ _ _ _ _ _ _ hr => hr)
def LoopW8 {α1 α2 α3 α4 α5 α6 α7 α8 : Type} (body : (α1 → α2 → α3 → α4 → α5 → α6 → α7 → α8 → Hp → Prop) → α1 → α2 → α3 → α4 → α5 → α6 → α7 → α8 → Hp → Prop) (x1 : α1) (x2 : α2) (x3 : α3) (x4 : α4) (x5 : α5) (x6 : α6) (x7 : α7) (x8 : α8) (h : Hp) : Prop :=
  LoopT (σ := α1 × α2 × α3 × α4 × α5 × α6 × α7 × α8) (fun R p h => body (fun x1 x2 x3 x4 x5 x6 x7 x8 h => R (x1, x2, x3, x4, x5, x6, x7, x8) h) p.1 p.2.1 p.2.2.1 p.2.2.2.1 p.2.2.2.2.1 p.2.2.2.2.2.1 p.2.2.2.2.2.2.1 p.2.2.2.2.2.2.2 h) (x1, x2, x3, x4, x5, x6, x7, x8) h
theorem LoopW8.intro {α1 α2 α3 α4 α5 α6 α7 α8 : Type} {body : (α1 → α2 → α3 → α4 → α5 → α6 → α7 → α8 → Hp → Prop) → α1 → α2 → α3 → α4 → α5 → α6 → α7 → α8 → Hp → Prop} {x1 : α1} {x2 : α2} {x3 : α3} {x4 : α4} {x5 : α5} {x6 : α6} {x7 : α7} {x8 : α8} {h : Hp} (I : α1 → α2 → α3 → α4 → α5 → α6 → α7 → α8 → Hp → Prop) (μ : α1 → α2 → α3 → α4 → α5 → α6 → α7 → α8 → Hp → Nat)
    (h0 : I x1 x2 x3 x4 x5 x6 x7 x8 h) (hr : ∀ x1 x2 x3 x4 x5 x6 x7 x8 k, I x1 x2 x3 x4 x5 x6 x7 x8 k → body (fun y1 y2 y3 y4 y5 y6 y7 y8 k' => I y1 y2 y3 y4 y5 y6 y7 y8 k' ∧ μ y1 y2 y3 y4 y5 y6 y7 y8 k' < μ x1 x2 x3 x4 x5 x6 x7 x8 k) x1 x2 x3 x4 x5 x6 x7 x8 k) : LoopW8 body x1 x2 x3 x4 x5 x6 x7 x8 h :=
  ⟨fun p h => I p.1 p.2.1 p.2.2.1 p.2.2.2.1 p.2.2.2.2.1 p.2.2.2.2.2.1 p.2.2.2.2.2.2.1 p.2.2.2.2.2.2.2 h, fun p h => μ p.1 p.2.1 p.2.2.1 p.2.2.2.1 p.2.2.2.2.1 p.2.2.2.2.2.1 p.2.2.2.2.2.2.1 p.2.2.2.2.2.2.2 h, h0, fun p k hk => hr p.1 p.2.1 p.2.2.1 p.2.2.2.1 p.2.2.2.2.1 p.2.2.2.2.2.1 p.2.2.2.2.2.2.1 p.2.2.2.2.2.2.2 k hk⟩

def JoinW9 {α1 α2 α3 α4 α5 α6 α7 α8 α9 : Type} (A : (α1 → α2 → α3 → α4 → α5 → α6 → α7 → α8 → α9 → Hp → Prop) → Prop) (B : α1 → α2 → α3 → α4 → α5 → α6 → α7 → α8 → α9 → Hp → Prop) : Prop :=
  JoinT (σ := α1 × α2 × α3 × α4 × α5 × α6 × α7 × α8 × α9) (fun R => A (fun x1 x2 x3 x4 x5 x6 x7 x8 x9 h => R (x1, x2, x3, x4, x5, x6, x7, x8, x9) h)) (fun p h => B p.1 p.2.1 p.2.2.1 p.2.2.2.1 p.2.2.2.2.1 p.2.2.2.2.2.1 p.2.2.2.2.2.2.1 p.2.2.2.2.2.2.2.1 p.2.2.2.2.2.2.2.2 h)
theorem JoinW9.intro {α1 α2 α3 α4 α5 α6 α7 α8 α9 : Type} {A : (α1 → α2 → α3 → α4 → α5 → α6 → α7 → α8 → α9 → Hp → Prop) → Prop} {B : α1 → α2 → α3 → α4 → α5 → α6 → α7 → α8 → α9 → Hp → Prop} (R : α1 → α2 → α3 → α4 → α5 → α6 → α7 → α8 → α9 → Hp → Prop) (hA : A R) (hB : ∀ x1 x2 x3 x4 x5 x6 x7 x8 x9 h, R x1 x2 x3 x4 x5 x6 x7 x8 x9 h → B x1 x2 x3 x4 x5 x6 x7 x8 x9 h) : JoinW9 A B :=
  ⟨fun p h => R p.1 p.2.1 p.2.2.1 p.2.2.2.1 p.2.2.2.2.1 p.2.2.2.2.2.1 p.2.2.2.2.2.2.1 p.2.2.2.2.2.2.2.1 p.2.2.2.2.2.2.2.2 h, hA, fun p h hr => hB p.1 p.2.1 p.2.2.1 p.2.2.2.1 p.2.2.2.2.1 p.2.2.2.2.2.1 p.2.2.2.2.2.2.1 p.2.2.2.2.2.2.2.1 p.2.2.2.2.2.2.2.2 h hr⟩
theorem JoinW9.direct {α1 α2 α3 α4 α5 α6 α7 α8 α9 : Type} {A : (α1 → α2 → α3 → α4 → α5 → α6 → α7 → α8 → α9 → Hp → Prop) → Prop} {B : α1 → α2 → α3 → α4 → α5 → α6 → α7 → α8 → α9 → Hp → Prop} (hA : A B) : JoinW9 A B := JoinW9.intro B hA (fun _ _ _ _ _ _ _ _ _ _ hr => hr)
def LoopW9 {α1 α2 α3 α4 α5 α6 α7 α8 α9 : Type} (body : (α1 → α2 → α3 → α4 → α5 → α6 → α7 → α8 → α9 → Hp → Prop) → α1 → α2 → α3 → α4 → α5 → α6 → α7 → α8 → α9 → Hp → Prop) (x1 : α1) (x2 : α2) (x3 : α3) (x4 : α4) (x5 : α5) (x6 : α6) (x7 : α7) (x8 : α8) (x9 : α9) (h : Hp) : Prop :=
  LoopT (σ := α1 × α2 × α3 × α4 × α5 × α6 × α7 × α8 × α9) (fun R p h => body (fun x1 x2 x3 x4 x5 x6 x7 x8 x9 h => R (x1, x2, x3, x4, x5, x6, x7, x8, x9) h) p.1 p.2.1 p.2.2.1 p.2.2.2.1 p.2.2.2.2.1 p.2.2.2.2.2.1 p.2.2.2.2.2.2.1 p.2.2.2.2.2.2.2.1 p.2.2.2.2.2.2.2.2 h) (x1, x2, x3, x4, x5, x6, x7, x8, x9) h
theorem LoopW9.intro {α1 α2 α3 α4 α5 α6 α7 α8 α9 : Type} {body : (α1 → α2 → α3 → α4 → α5 → α6 → α7 → α8 → α9 → Hp → Prop) → α1 → α2 → α3 → α4 → α5 → α6 → α7 → α8 → α9 → Hp → Prop} {x1 : α1} {x2 : α2} {x3 : α3} {x4 : α4} {x5 : α5} {x6 : α6} {x7 : α7} {x8 : α8} {x9 : α9} {h : Hp} (I : α1 → α2 → α3 → α4 → α5 → α6 → α7 → α8 → α9 → Hp → Prop) (μ : α1 → α2 → α3 → α4 → α5 → α6 → α7 → α8 → α9 → Hp → Nat)
    (h0 : I x1 x2 x3 x4 x5 x6 x7 x8 x9 h) (hr : ∀ x1 x2 x3 x4 x5 x6 x7 x8 x9 k, I x1 x2 x3 x4 x5 x6 x7 x8 x9 k → body (fun y1 y2 y3 y4 y5 y6 y7 y8 y9 k' => I y1 y2 y3 y4 y5 y6 y7 y8 y9 k' ∧ μ y1 y2 y3 y4 y5 y6 y7 y8 y9 k' < μ x1 x2 x3 x4 x5 x6 x7 x8 x9 k) x1 x2 x3 x4 x5 x6 x7 x8 x9 k) : LoopW9 body x1 x2 x3 x4 x5 x6 x7 x8 x9 h :=
  ⟨fun p h => I p.1 p.2.1 p.2.2.1 p.2.2.2.1 p.2.2.2.2.1 p.2.2.2.2.2.1 p.2.2.2.2.2.2.1 p.2.2.2.2.2.2.2.1 p.2.2.2.2.2.2.2.2 h, fun p h => μ p.1 p.2.1 p.2.2.1 p.2.2.2.1 p.2.2.2.2.1 p.2.2.2.2.2.1 p.2.2.2.2.2.2.1 p.2.2.2.2.2.2.2.1 p.2.2.2.2.2.2.2.2 h, h0, fun p k hk => hr p.1 p.2.1 p.2.2.1 p.2.2.2.1 p.2.2.2.2.1 p.2.2.2.2.2.1 p.2.2.2.2.2.2.1 p.2.2.2.2.2.2.2.1 p.2.2.2.2.2.2.2.2 k hk⟩

def JoinW10 {α1 α2 α3 α4 α5 α6 α7 α8 α9 α10 : Type} (A : (α1 → α2 → α3 → α4 → α5 → α6 → α7 → α8 → α9 → α10 → Hp → Prop) → Prop) (B : α1 → α2 → α3 → α4 → α5 → α6 → α7 → α8 → α9 → α10 → Hp → Prop) : Prop :=
  JoinT (σ := α1 × α2 × α3 × α4 × α5 × α6 × α7 × α8 × α9 × α10) (fun R => A (fun x1 x2 x3 x4 x5 x6 x7 x8 x9 x10 h => R (x1, x2, x3, x4, x5, x6, x7, x8, x9, x10) h)) (fun p h => B p.1 p.2.1 p.2.2.1 p.2.2.2.1 p.2.2.2.2.1 p.2.2.2.2.2.1 p.2.2.2.2.2.2.1 p.2.2.2.2.2.2.2.1 p.2.2.2.2.2.2.2.2.1 p.2.2.2.2.2.2.2.2.2 h)
theorem JoinW10.intro {α1 α2 α3 α4 α5 α6 α7 α8 α9 α10 : Type} {A : (α1 → α2 → α3 → α4 → α5 → α6 → α7 → α8 → α9 → α10 → Hp → Prop) → Prop} {B : α1 → α2 → α3 → α4 → α5 → α6 → α7 → α8 → α9 → α10 → Hp → Prop} (R : α1 → α2 → α3 → α4 → α5 → α6 → α7 → α8 → α9 → α10 → Hp → Prop) (hA : A R) (hB : ∀ x1 x2 x3 x4 x5 x6 x7 x8 x9 x10 h, R x1 x2 x3 x4 x5 x6 x7 x8 x9 x10 h → B x1 x2 x3 x4 x5 x6 x7 x8 x9 x10 h) : JoinW10 A B :=
  ⟨fun p h => R p.1 p.2.1 p.2.2.1 p.2.2.2.1 p.2.2.2.2.1 p.2.2.2.2.2.1 p.2.2.2.2.2.2.1 p.2.2.2.2.2.2.2.1 p.2.2.2.2.2.2.2.2.1 p.2.2.2.2.2.2.2.2.2 h, hA, fun p h hr => hB p.1 p.2.1 p.2.2.1 p.2.2.2.1 p.2.2.2.2.1 p.2.2.2.2.2.1 p.2.2.2.2.2.2.1 p.2.2.2.2.2.2.2.1 p.2.2.2.2.2.2.2.2.1 p.2.2.2.2.2.2.2.2.2 h hr⟩
theorem JoinW10.direct {α1 α2 α3 α4 α5 α6 α7 α8 α9 α10 : Type} {A : (α1 → α2 → α3 → α4 → α5 → α6 → α7 → α8 → α9 → α10 → Hp → Prop) → Prop} {B : α1 → α2 → α3 → α4 → α5 → α6 → α7 → α8 → α9 → α10 → Hp → Prop} (hA : A B) : JoinW10 A B := JoinW10.intro B hA (fun _ _ _ _ _ _ _ _ _ _ _ hr => hr)
def LoopW10 {α1 α2 α3 α4 α5 α6 α7 α8 α9 α10 : Type} (body : (α1 → α2 → α3 → α4 → α5 → α6 → α7 → α8 → α9 → α10 → Hp → Prop) → α1 → α2 → α3 → α4 → α5 → α6 → α7 → α8 → α9 → α10 → Hp → Prop) (x1 : α1) (x2 : α2) (x3 : α3) (x4 : α4) (x5 : α5) (x6 : α6) (x7 : α7) (x8 : α8) (x9 : α9) (x10 : α10) (h : Hp) : Prop :=
  LoopT (σ := α1 × α2 × α3 × α4 × α5 × α6 × α7 × α8 × α9 × α10) (fun R p h => body (fun x1 x2 x3 x4 x5 x6 x7 x8 x9 x10 h => R (x1, x2, x3, x4, x5, x6, x7, x8, x9, x10) h) p.1 p.2.1 p.2.2.1 p.2.2.2.1 p.2.2.2.2.1 p.2.2.2.2.2.1 p.2.2.2.2.2.2.1 p.2.2.2.2.2.2.2.1 p.2.2.2.2.2.2.2.2.1 p.2.2.2.2.2.2.2.2.2 h) (x1, x2, x3, x4, x5, x6, x7, x8, x9, x10) h
theorem LoopW10.intro {α1 α2 α3 α4 α5 α6 α7 α8 α9 α10 : Type} {body : (α1 → α2 → α3 → α4 → α5 → α6 → α7 → α8 → α9 → α10 → Hp → Prop) → α1 → α2 → α3 → α4 → α5 → α6 → α7 → α8 → α9 → α10 → Hp → Prop} {x1 : α1} {x2 : α2} {x3 : α3} {x4 : α4} {x5 : α5} {x6 : α6} {x7 : α7} {x8 : α8} {x9 : α9} {x10 : α10} {h : Hp} (I : α1 → α2 → α3 → α4 → α5 → α6 → α7 → α8 → α9 → α10 → Hp → Prop) (μ : α1 → α2 → α3 → α4 → α5 → α6 → α7 → α8 → α9 → α10 → Hp → Nat)
    (h0 : I x1 x2 x3 x4 x5 x6 x7 x8 x9 x10 h) (hr : ∀ x1 x2 x3 x4 x5 x6 x7 x8 x9 x10 k, I x1 x2 x3 x4 x5 x6 x7 x8 x9 x10 k → body (fun y1 y2 y3 y4 y5 y6 y7 y8 y9 y10 k' => I y1 y2 y3 y4 y5 y6 y7 y8 y9 y10 k' ∧ μ y1 y2 y3 y4 y5 y6 y7 y8 y9 y10 k' < μ x1 x2 x3 x4 x5 x6 x7 x8 x9 x10 k) x1 x2 x3 x4 x5 x6 x7 x8 x9 x10 k) : LoopW10 body x1 x2 x3 x4 x5 x6 x7 x8 x9 x10 h :=
  ⟨fun p h => I p.1 p.2.1 p.2.2.1 p.2.2.2.1 p.2.2.2.2.1 p.2.2.2.2.2.1 p.2.2.2.2.2.2.1 p.2.2.2.2.2.2.2.1 p.2.2.2.2.2.2.2.2.1 p.2.2.2.2.2.2.2.2.2 h, fun p h => μ p.1 p.2.1 p.2.2.1 p.2.2.2.1 p.2.2.2.2.1 p.2.2.2.2.2.1 p.2.2.2.2.2.2.1 p.2.2.2.2.2.2.2.1 p.2.2.2.2.2.2.2.2.1 p.2.2.2.2.2.2.2.2.2 h, h0, fun p k hk => hr p.1 p.2.1 p.2.2.1 p.2.2.2.1 p.2.2.2.2.1 p.2.2.2.2.2.1 p.2.2.2.2.2.2.1 p.2.2.2.2.2.2.2.1 p.2.2.2.2.2.2.2.2.1 p.2.2.2.2.2.2.2.2.2 k hk⟩

def JoinW11 {α1 α2 α3 α4 α5 α6 α7 α8 α9 α10 α11 : Type} (A : (α1 → α2 → α3 → α4 → α5 → α6 → α7 → α8 → α9 → α10 → α11 → Hp → Prop) → Prop) (B : α1 → α2 → α3 → α4 → α5 → α6 → α7 → α8 → α9 → α10 → α11 → Hp → Prop) : Prop :=
  JoinT (σ := α1 × α2 × α3 × α4 × α5 × α6 × α7 × α8 × α9 × α10 × α11) (fun R => A (fun x1 x2 x3 x4 x5 x6 x7 x8 x9 x10 x11 h => R (x1, x2, x3, x4, x5, x6, x7, x8, x9, x10, x11) h)) (fun p h => B p.1 p.2.1 p.2.2.1 p.2.2.2.1 p.2.2.2.2.1 p.2.2.2.2.2.1 p.2.2.2.2.2.2.1 p.2.2.2.2.2.2.2.1 p.2.2.2.2.2.2.2.2.1 p.2.2.2.2.2.2.2.2.2.1 p.2.2.2.2.2.2.2.2.2.2 h)
theorem JoinW11.intro {α1 α2 α3 α4 α5 α6 α7 α8 α9 α10 α11 : Type} {A : (α1 → α2 → α3 → α4 → α5 → α6 → α7 → α8 → α9 → α10 → α11 → Hp → Prop) → Prop} {B : α1 → α2 → α3 → α4 → α5 → α6 → α7 → α8 → α9 → α10 → α11 → Hp → Prop} (R : α1 → α2 → α3 → α4 → α5 → α6 → α7 → α8 → α9 → α10 → α11 → Hp → Prop) (hA : A R) (hB : ∀ x1 x2 x3 x4 x5 x6 x7 x8 x9 x10 x11 h, R x1 x2 x3 x4 x5 x6 x7 x8 x9 x10 x11 h → B x1 x2 x3 x4 x5 x6 x7 x8 x9 x10 x11 h) : JoinW11 A B :=
  ⟨fun p h => R p.1 p.2.1 p.2.2.1 p.2.2.2.1 p.2.2.2.2.1 p.2.2.2.2.2.1 p.2.2.2.2.2.2.1 p.2.2.2.2.2.2.2.1 p.2.2.2.2.2.2.2.2.1 p.2.2.2.2.2.2.2.2.2.1 p.2.2.2.2.2.2.2.2.2.2 h, hA, fun p h hr => hB p.1 p.2.1 p.2.2.1 p.2.2.2.1 p.2.2.2.2.1 p.2.2.2.2.2.1 p.2.2.2.2.2.2.1 p.2.2.2.2.2.2.2.1 p.2.2.2.2.2.2.2.2.1 p.2.2.2.2.2.2.2.2.2.1 p.2.2.2.2.2.2.2.2.2.2 h hr⟩
theorem JoinW11.direct {α1 α2 α3 α4 α5 α6 α7 α8 α9 α10 α11 : Type} {A : (α1 → α2 → α3 → α4 → α5 → α6 → α7 → α8 → α9 → α10 → α11 → Hp → Prop) → Prop} {B : α1 → α2 → α3 → α4 → α5 → α6 → α7 → α8 → α9 → α10 → α11 → Hp → Prop} (hA : A B) : JoinW11 A B := JoinW11.intro B hA (fun _ _ _ _ _ _ _ _ _ _ _ _ hr => hr)
def LoopW11 {α1 α2 α3 α4 α5 α6 α7 α8 α9 α10 α11 : Type} (body : (α1 → α2 → α3 → α4 → α5 → α6 → α7 → α8 → α9 → α10 → α11 → Hp → Prop) → α1 → α2 → α3 → α4 → α5 → α6 → α7 → α8 → α9 → α10 → α11 → Hp → Prop) (x1 : α1) (x2 : α2) (x3 : α3) (x4 : α4) (x5 : α5) (x6 : α6) (x7 : α7) (x8 : α8) (x9 : α9) (x10 : α10) (x11 : α11) (h : Hp) : Prop :=
  LoopT (σ := α1 × α2 × α3 × α4 × α5 × α6 × α7 × α8 × α9 × α10 × α11) (fun R p h => body (fun x1 x2 x3 x4 x5 x6 x7 x8 x9 x10 x11 h => R (x1, x2, x3, x4, x5, x6, x7, x8, x9, x10, x11) h) p.1 p.2.1 p.2.2.1 p.2.2.2.1 p.2.2.2.2.1 p.2.2.2.2.2.1 p.2.2.2.2.2.2.1 p.2.2.2.2.2.2.2.1 p.2.2.2.2.2.2.2.2.1 p.2.2.2.2.2.2.2.2.2.1 p.2.2.2.2.2.2.2.2.2.2 h) (x1, x2, x3, x4, x5, x6, x7, x8, x9, x10, x11) h
theorem LoopW11.intro {α1 α2 α3 α4 α5 α6 α7 α8 α9 α10 α11 : Type} {body : (α1 → α2 → α3 → α4 → α5 → α6 → α7 → α8 → α9 → α10 → α11 → Hp → Prop) → α1 → α2 → α3 → α4 → α5 → α6 → α7 → α8 → α9 → α10 → α11 → Hp → Prop} {x1 : α1} {x2 : α2} {x3 : α3} {x4 : α4} {x5 : α5} {x6 : α6} {x7 : α7} {x8 : α8} {x9 : α9} {x10 : α10} {x11 : α11} {h : Hp} (I : α1 → α2 → α3 → α4 → α5 → α6 → α7 → α8 → α9 → α10 → α11 → Hp → Prop) (μ : α1 → α2 → α3 → α4 → α5 → α6 → α7 → α8 → α9 → α10 → α11 → Hp → Nat)
    (h0 : I x1 x2 x3 x4 x5 x6 x7 x8 x9 x10 x11 h) (hr : ∀ x1 x2 x3 x4 x5 x6 x7 x8 x9 x10 x11 k, I x1 x2 x3 x4 x5 x6 x7 x8 x9 x10 x11 k → body (fun y1 y2 y3 y4 y5 y6 y7 y8 y9 y10 y11 k' => I y1 y2 y3 y4 y5 y6 y7 y8 y9 y10 y11 k' ∧ μ y1 y2 y3 y4 y5 y6 y7 y8 y9 y10 y11 k' < μ x1 x2 x3 x4 x5 x6 x7 x8 x9 x10 x11 k) x1 x2 x3 x4 x5 x6 x7 x8 x9 x10 x11 k) : LoopW11 body x1 x2 x3 x4 x5 x6 x7 x8 x9 x10 x11 h :=
  ⟨fun p h => I p.1 p.2.1 p.2.2.1 p.2.2.2.1 p.2.2.2.2.1 p.2.2.2.2.2.1 p.2.2.2.2.2.2.1 p.2.2.2.2.2.2.2.1 p.2.2.2.2.2.2.2.2.1 p.2.2.2.2.2.2.2.2.2.1 p.2.2.2.2.2.2.2.2.2.2 h, fun p h => μ p.1 p.2.1 p.2.2.1 p.2.2.2.1 p.2.2.2.2.1 p.2.2.2.2.2.1 p.2.2.2.2.2.2.1 p.2.2.2.2.2.2.2.1 p.2.2.2.2.2.2.2.2.1 p.2.2.2.2.2.2.2.2.2.1 p.2.2.2.2.2.2.2.2.2.2 h, h0, fun p k hk => hr p.1 p.2.1 p.2.2.1 p.2.2.2.1 p.2.2.2.2.1 p.2.2.2.2.2.1 p.2.2.2.2.2.2.1 p.2.2.2.2.2.2.2.1 p.2.2.2.2.2.2.2.2.1 p.2.2.2.2.2.2.2.2.2.1 p.2.2.2.2.2.2.2.2.2.2 k hk⟩

def JoinW12 {α1 α2 α3 α4 α5 α6 α7 α8 α9 α10 α11 α12 : Type} (A : (α1 → α2 → α3 → α4 → α5 → α6 → α7 → α8 → α9 → α10 → α11 → α12 → Hp → Prop) → Prop) (B : α1 → α2 → α3 → α4 → α5 → α6 → α7 → α8 → α9 → α10 → α11 → α12 → Hp → Prop) : Prop :=
  JoinT (σ := α1 × α2 × α3 × α4 × α5 × α6 × α7 × α8 × α9 × α10 × α11 × α12) (fun R => A (fun x1 x2 x3 x4 x5 x6 x7 x8 x9 x10 x11 x12 h => R (x1, x2, x3, x4, x5, x6, x7, x8, x9, x10, x11, x12) h)) (fun p h => B p.1 p.2.1 p.2.2.1 p.2.2.2.1 p.2.2.2.2.1 p.2.2.2.2.2.1 p.2.2.2.2.2.2.1 p.2.2.2.2.2.2.2.1 p.2.2.2.2.2.2.2.2.1 p.2.2.2.2.2.2.2.2.2.1 p.2.2.2.2.2.2.2.2.2.2.1 p.2.2.2.2.2.2.2.2.2.2.2 h)
theorem JoinW12.intro {α1 α2 α3 α4 α5 α6 α7 α8 α9 α10 α11 α12 : Type} {A : (α1 → α2 → α3 → α4 → α5 → α6 → α7 → α8 → α9 → α10 → α11 → α12 → Hp → Prop) → Prop} {B : α1 → α2 → α3 → α4 → α5 → α6 → α7 → α8 → α9 → α10 → α11 → α12 → Hp → Prop} (R : α1 → α2 → α3 → α4 → α5 → α6 → α7 → α8 → α9 → α10 → α11 → α12 → Hp → Prop) (hA : A R) (hB : ∀ x1 x2 x3 x4 x5 x6 x7 x8 x9 x10 x11 x12 h, R x1 x2 x3 x4 x5 x6 x7 x8 x9 x10 x11 x12 h → B x1 x2 x3 x4 x5 x6 x7 x8 x9 x10 x11 x12 h) : JoinW12 A B :=
  ⟨fun p h => R p.1 p.2.1 p.2.2.1 p.2.2.2.1 p.2.2.2.2.1 p.2.2.2.2.2.1 p.2.2.2.2.2.2.1 p.2.2.2.2.2.2.2.1 p.2.2.2.2.2.2.2.2.1 p.2.2.2.2.2.2.2.2.2.1 p.2.2.2.2.2.2.2.2.2.2.1 p.2.2.2.2.2.2.2.2.2.2.2 h, hA, fun p h hr => hB p.1 p.2.1 p.2.2.1 p.2.2.2.1 p.2.2.2.2.1 p.2.2.2.2.2.1 p.2.2.2.2.2.2.1 p.2.2.2.2.2.2.2.1 p.2.2.2.2.2.2.2.2.1 p.2.2.2.2.2.2.2.2.2.1 p.2.2.2.2.2.2.2.2.2.2.1 p.2.2.2.2.2.2.2.2.2.2.2 h hr⟩
theorem JoinW12.direct {α1 α2 α3 α4 α5 α6 α7 α8 α9 α10 α11 α12 : Type} {A : (α1 → α2 → α3 → α4 → α5 → α6 → α7 → α8 → α9 → α10 → α11 → α12 → Hp → Prop) → Prop} {B : α1 → α2 → α3 → α4 → α5 → α6 → α7 → α8 → α9 → α10 → α11 → α12 → Hp → Prop} (hA : A B) : JoinW12 A B := JoinW12.intro B hA (fun _ _ _ _ _ _ _ _ _ _ _ _ _ hr => hr)
def LoopW12 {α1 α2 α3 α4 α5 α6 α7 α8 α9 α10 α11 α12 : Type} (body : (α1 → α2 → α3 → α4 → α5 → α6 → α7 → α8 → α9 → α10 → α11 → α12 → Hp → Prop) → α1 → α2 → α3 → α4 → α5 → α6 → α7 → α8 → α9 → α10 → α11 → α12 → Hp → Prop) (x1 : α1) (x2 : α2) (x3 : α3) (x4 : α4) (x5 : α5) (x6 : α6) (x7 : α7) (x8 : α8) (x9 : α9) (x10 : α10) (x11 : α11) (x12 : α12) (h : Hp) : Prop :=
  LoopT (σ := α1 × α2 × α3 × α4 × α5 × α6 × α7 × α8 × α9 × α10 × α11 × α12) (fun R p h => body (fun x1 x2 x3 x4 x5 x6 x7 x8 x9 x10 x11 x12 h => R (x1, x2, x3, x4, x5, x6, x7, x8, x9, x10, x11, x12) h) p.1 p.2.1 p.2.2.1 p.2.2.2.1 p.2.2.2.2.1 p.2.2.2.2.2.1 p.2.2.2.2.2.2.1 p.2.2.2.2.2.2.2.1 p.2.2.2.2.2.2.2.2.1 p.2.2.2.2.2.2.2.2.2.1 p.2.2.2.2.2.2.2.2.2.2.1 p.2.2.2.2.2.2.2.2.2.2.2 h) (x1, x2, x3, x4, x5, x6, x7, x8, x9, x10, x11, x12) h
theorem LoopW12.intro {α1 α2 α3 α4 α5 α6 α7 α8 α9 α10 α11 α12 : Type} {body : (α1 → α2 → α3 → α4 → α5 → α6 → α7 → α8 → α9 → α10 → α11 → α12 → Hp → Prop) → α1 → α2 → α3 → α4 → α5 → α6 → α7 → α8 → α9 → α10 → α11 → α12 → Hp → Prop} {x1 : α1} {x2 : α2} {x3 : α3} {x4 : α4} {x5 : α5} {x6 : α6} {x7 : α7} {x8 : α8} {x9 : α9} {x10 : α10} {x11 : α11} {x12 : α12} {h : Hp} (I : α1 → α2 → α3 → α4 → α5 → α6 → α7 → α8 → α9 → α10 → α11 → α12 → Hp → Prop) (μ : α1 → α2 → α3 → α4 → α5 → α6 → α7 → α8 → α9 → α10 → α11 → α12 → Hp → Nat)
    (h0 : I x1 x2 x3 x4 x5 x6 x7 x8 x9 x10 x11 x12 h) (hr : ∀ x1 x2 x3 x4 x5 x6 x7 x8 x9 x10 x11 x12 k, I x1 x2 x3 x4 x5 x6 x7 x8 x9 x10 x11 x12 k → body (fun y1 y2 y3 y4 y5 y6 y7 y8 y9 y10 y11 y12 k' => I y1 y2 y3 y4 y5 y6 y7 y8 y9 y10 y11 y12 k' ∧ μ y1 y2 y3 y4 y5 y6 y7 y8 y9 y10 y11 y12 k' < μ x1 x2 x3 x4 x5 x6 x7 x8 x9 x10 x11 x12 k) x1 x2 x3 x4 x5 x6 x7 x8 x9 x10 x11 x12 k) : LoopW12 body x1 x2 x3 x4 x5 x6 x7 x8 x9 x10 x11 x12 h :=
  ⟨fun p h => I p.1 p.2.1 p.2.2.1 p.2.2.2.1 p.2.2.2.2.1 p.2.2.2.2.2.1 p.2.2.2.2.2.2.1 p.2.2.2.2.2.2.2.1 p.2.2.2.2.2.2.2.2.1 p.2.2.2.2.2.2.2.2.2.1 p.2.2.2.2.2.2.2.2.2.2.1 p.2.2.2.2.2.2.2.2.2.2.2 h, fun p h => μ p.1 p.2.1 p.2.2.1 p.2.2.2.1 p.2.2.2.2.1 p.2.2.2.2.2.1 p.2.2.2.2.2.2.1 p.2.2.2.2.2.2.2.1 p.2.2.2.2.2.2.2.2.1 p.2.2.2.2.2.2.2.2.2.1 p.2.2.2.2.2.2.2.2.2.2.1 p.2.2.2.2.2.2.2.2.2.2.2 h, h0, fun p k hk => hr p.1 p.2.1 p.2.2.1 p.2.2.2.1 p.2.2.2.2.1 p.2.2.2.2.2.1 p.2.2.2.2.2.2.1 p.2.2.2.2.2.2.2.1 p.2.2.2.2.2.2.2.2.1 p.2.2.2.2.2.2.2.2.2.1 p.2.2.2.2.2.2.2.2.2.2.1 p.2.2.2.2.2.2.2.2.2.2.2 k hk⟩

def Call2 (P : Program) (g : FuncId) (args : List Value) (s1 s2 : Shape) (K : s1.T → s2.T → Hp → Prop) (h : Hp) : Prop :=
  CallT P g args (shTup2 s1 s2) (fun p h' => K p.1 p.2 h') h
def SemV2 (c : Option Bool) (P : Program) (s : Sem Value) (s1 s2 : Shape) (h : Hp) (K : s1.T → s2.T → Prop) : Prop :=
  SemV c P s (shTup2 s1 s2) h (fun p => K p.1 p.2)
def SemE2 (P : Program) (s : Sem Value) (s1 s2 : Shape) (K : s1.T → s2.T → Hp → Prop) (h : Hp) : Prop :=
  SemE P s (shTup2 s1 s2) (fun p h' => K p.1 p.2 h') h
def CallV2 (P : Program) (tb : Tb) (f : Value) (args : List Value) (s1 s2 : Shape) (K : s1.T → s2.T → Hp → Prop) (h : Hp) : Prop :=
  CallV P tb f args (shTup2 s1 s2) (fun p h' => K p.1 p.2 h') h

def Call3 (P : Program) (g : FuncId) (args : List Value) (s1 s2 s3 : Shape) (K : s1.T → s2.T → s3.T → Hp → Prop) (h : Hp) : Prop :=
  CallT P g args (shTup3 s1 s2 s3) (fun p h' => K p.1 p.2.1 p.2.2 h') h
def SemV3 (c : Option Bool) (P : Program) (s : Sem Value) (s1 s2 s3 : Shape) (h : Hp) (K : s1.T → s2.T → s3.T → Prop) : Prop :=
  SemV c P s (shTup3 s1 s2 s3) h (fun p => K p.1 p.2.1 p.2.2)
def SemE3 (P : Program) (s : Sem Value) (s1 s2 s3 : Shape) (K : s1.T → s2.T → s3.T → Hp → Prop) (h : Hp) : Prop :=
  SemE P s (shTup3 s1 s2 s3) (fun p h' => K p.1 p.2.1 p.2.2 h') h
def CallV3 (P : Program) (tb : Tb) (f : Value) (args : List Value) (s1 s2 s3 : Shape) (K : s1.T → s2.T → s3.T → Hp → Prop) (h : Hp) : Prop :=
  CallV P tb f args (shTup3 s1 s2 s3) (fun p h' => K p.1 p.2.1 p.2.2 h') h

def Call4 (P : Program) (g : FuncId) (args : List Value) (s1 s2 s3 s4 : Shape) (K : s1.T → s2.T → s3.T → s4.T → Hp → Prop) (h : Hp) : Prop :=
  CallT P g args (shTup4 s1 s2 s3 s4) (fun p h' => K p.1 p.2.1 p.2.2.1 p.2.2.2 h') h
def SemV4 (c : Option Bool) (P : Program) (s : Sem Value) (s1 s2 s3 s4 : Shape) (h : Hp) (K : s1.T → s2.T → s3.T → s4.T → Prop) : Prop :=
  SemV c P s (shTup4 s1 s2 s3 s4) h (fun p => K p.1 p.2.1 p.2.2.1 p.2.2.2)
def SemE4 (P : Program) (s : Sem Value) (s1 s2 s3 s4 : Shape) (K : s1.T → s2.T → s3.T → s4.T → Hp → Prop) (h : Hp) : Prop :=
  SemE P s (shTup4 s1 s2 s3 s4) (fun p h' => K p.1 p.2.1 p.2.2.1 p.2.2.2 h') h
def CallV4 (P : Program) (tb : Tb) (f : Value) (args : List Value) (s1 s2 s3 s4 : Shape) (K : s1.T → s2.T → s3.T → s4.T → Hp → Prop) (h : Hp) : Prop :=
  CallV P tb f args (shTup4 s1 s2 s3 s4) (fun p h' => K p.1 p.2.1 p.2.2.1 p.2.2.2 h') h

def Call5 (P : Program) (g : FuncId) (args : List Value) (s1 s2 s3 s4 s5 : Shape) (K : s1.T → s2.T → s3.T → s4.T → s5.T → Hp → Prop) (h : Hp) : Prop :=
  CallT P g args (shTup5 s1 s2 s3 s4 s5) (fun p h' => K p.1 p.2.1 p.2.2.1 p.2.2.2.1 p.2.2.2.2 h') h
def SemV5 (c : Option Bool) (P : Program) (s : Sem Value) (s1 s2 s3 s4 s5 : Shape) (h : Hp) (K : s1.T → s2.T → s3.T → s4.T → s5.T → Prop) : Prop :=
  SemV c P s (shTup5 s1 s2 s3 s4 s5) h (fun p => K p.1 p.2.1 p.2.2.1 p.2.2.2.1 p.2.2.2.2)
def SemE5 (P : Program) (s : Sem Value) (s1 s2 s3 s4 s5 : Shape) (K : s1.T → s2.T → s3.T → s4.T → s5.T → Hp → Prop) (h : Hp) : Prop :=
  SemE P s (shTup5 s1 s2 s3 s4 s5) (fun p h' => K p.1 p.2.1 p.2.2.1 p.2.2.2.1 p.2.2.2.2 h') h
def CallV5 (P : Program) (tb : Tb) (f : Value) (args : List Value) (s1 s2 s3 s4 s5 : Shape) (K : s1.T → s2.T → s3.T → s4.T → s5.T → Hp → Prop) (h : Hp) : Prop :=
  CallV P tb f args (shTup5 s1 s2 s3 s4 s5) (fun p h' => K p.1 p.2.1 p.2.2.1 p.2.2.2.1 p.2.2.2.2 h') h

def Call0 (P : Program) (g : FuncId) (args : List Value) (K : Hp → Prop) (h : Hp) : Prop :=
  CallT P g args shUnit (fun _ h' => K h') h
def SemE0 (P : Program) (s : Sem Value) (_ : Shape) (K : Hp → Prop) (h : Hp) : Prop := SemE P s shUnit (fun _ h' => K h') h
def CallV0 (P : Program) (tb : Tb) (f : Value) (args : List Value) (K : Hp → Prop) (h : Hp) : Prop :=
  CallV P tb f args shUnit (fun _ h' => K h') h
end Lf

