/-
  The reference's lists.
-/
import Derived.Test.YtoffikpplbiohaaTbC
namespace Lf
open Go Go.Proofs

theorem sameInts_ok {a b : Sl} {xs : List Int} {Q : Bool → Hp → Prop} {h : Hp} (ra : Is h a xs) (rb : Is h b xs) (hl : xs.length ≤ 1000000) (hq : Q true h) : firebreakref02_SameInts_w Try.prog a b Q h := by
  unfold firebreakref02_SameInts_w
  have h1 := ra.1
  have h2 := rb.1
  rw [if_neg (show ¬ (((a.len : Int) != (b.len : Int)) = true) by simp; omega)]
  refine LoopW1.intro (fun i k => k = h ∧ 0 ≤ i ∧ i ≤ (xs.length : Int)) (fun i _ => (xs.length - i).toNat) ⟨rfl, by omega, by omega⟩ ?_
  rintro i k ⟨rfl, hi0, hi1⟩
  split
  · rename_i e
    have e : i < (a.len : Int) := by simpa using e
    refine Rs.get ra (fun _ => rfl) (by omega) hi0 (by omega) fun (x : Int) hx => ?_
    refine Rs.get rb (fun _ => rfl) (by omega) hi0 (by omega) fun (y : Int) hy => ?_
    rw [hx] at hy; cases hy
    rw [if_neg (show ¬ ((x != x) = true) by simp), wrap64 (by omega) (by omega)]
    exact ⟨⟨rfl, by omega, by omega⟩, by omega⟩
  · exact hq

/-- The numbers of those that something is so of. -/
def those (p : Nat → Bool) (n : Nat) : List Int := ((List.range n).filter p).map fun (k : Nat) => (k : Int)

theorem those_succ (p : Nat → Bool) (n : Nat) : those p (n + 1) = those p n ++ (if p n = true then [(n : Int)] else []) := by
  unfold those
  rw [List.range_succ, List.filter_append, List.map_append]
  congr 1
  by_cases h : p n = true
  · simp [h]
  · simp [h]

theorem those_len (p : Nat → Bool) (n : Nat) : (those p n).length ≤ n := by
  unfold those
  rw [List.length_map]
  exact Nat.le_trans (List.length_filter_le _ _) (by simp)

/-- Does one of the list flow to another of it? -/
def fl (xs : List Int) (i j : Int) : Bool := if 0 ≤ i ∧ i < (xs.length : Int) ∧ 0 ≤ j ∧ j < (xs.length : Int) then flows (xs.getD i.toNat 0) (xs.getD j.toNat 0) else false

theorem fl_in {xs : List Int} {i j : Int} {x y : Int} (h : 0 ≤ i ∧ 0 ≤ j) (hx : xs[i.toNat]? = some x) (hy : xs[j.toNat]? = some y) : fl xs i j = flows x y := by
  have h1 := (List.getElem?_eq_some_iff.1 hx).1
  have h2 := (List.getElem?_eq_some_iff.1 hy).1
  unfold fl
  rw [if_pos (by omega), List.getD_eq_getElem?_getD, List.getD_eq_getElem?_getD, hx, hy]
  rfl

theorem fl_out {xs : List Int} {i j : Int} (h : ¬ (0 ≤ i ∧ i < (xs.length : Int) ∧ 0 ≤ j ∧ j < (xs.length : Int))) : fl xs i j = false := by
  unfold fl
  rw [if_neg h]

theorem refFlows2_ok {l : Sl} {xs : List Int} {i j : Int} {Q : Bool → Hp → Prop} {h : Hp} (r : Us h l xs) (hu : ∀ x ∈ xs, InU x) (hq : Q (fl xs i j) h) : firebreakref02_Flows_w Try.prog l i j Q h := by
  unfold firebreakref02_Flows_w
  have hl := r.1
  refine letW (letW (letW ?_))
  have hcase : ∀ c, (decide (i ≥ 0) && decide (i < (l.len : Int)) && decide (j ≥ 0) && decide (j < (l.len : Int))) = c → (c = true → 0 ≤ i ∧ i < (xs.length : Int) ∧ 0 ≤ j ∧ j < (xs.length : Int)) ∧
      (c = false → ¬ (0 ≤ i ∧ i < (xs.length : Int) ∧ 0 ≤ j ∧ j < (xs.length : Int))) := by
    intro c e
    subst e
    simp [hl]
    omega
  generalize hc : (decide (i ≥ 0) && decide (i < (l.len : Int)) && decide (j ≥ 0) && decide (j < (l.len : Int))) = c
  have h1 := (hcase c hc).1
  have h2 := (hcase c hc).2
  refine Rs.getC r (0 : Int) (fun _ => rfl) (by omega) (fun e => ?_) fun (x : Int) hx => ?_
  · have := h1 e; omega
  refine Rs.getC r (0 : Int) (fun _ => rfl) (by omega) (fun e => ?_) fun (y : Int) hy => ?_
  · have := h1 e; omega
  refine ⟨fun e => ?_, fun e => ⟨false, ?_⟩⟩
  · have ex := hx e
    have ey := hy e
    have := h1 e
    refine firebreakref01_Flows_call (refFlows1_ok (hu x (List.mem_of_getElem? ex)) (hu y (List.mem_of_getElem? ey)) (letW ?_))
    rw [e, Bool.true_and, ← fl_in ⟨by omega, by omega⟩ ex ey]
    exact hq
  · refine letW ?_
    rw [e, Bool.false_and, ← fl_out (h2 e)]
    exact hq

end Lf
