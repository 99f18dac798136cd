/-
  What flows to what.
-/
import Derived.Test.YtoffikpplbiohaaLfBits
import Derived.Test.YtoffikpplbiohaaTbB
import Derived.Test.YtoffikpplbiohaaLfCall0
import Derived.Test.YtoffikpplbiohaaLfCall1
import Derived.Test.YtoffikpplbiohaaLfCall2
namespace Lf
open Go Go.Proofs

def flows (a b : Int) : Bool := (List.range 64).all fun n => !bit a n || bit b n

theorem flows_iff {a b : Int} : flows a b = true ↔ ∀ n, n < 64 → bit a n = true → bit b n = true := by
  unfold flows
  rw [List.all_eq_true]
  constructor
  · intro h n hn ha
    have := h n (List.mem_range.2 hn)
    rw [ha] at this
    simpa using this
  · intro h n hn
    have := h n (List.mem_range.1 hn)
    cases ha : bit a n with
    | false => rfl
    | true => simp [this ha]

theorem has_ok {a n : Int} {Q : Bool → Hp → Prop} {h : Hp} (ha : InU a) (h0 : 0 ≤ n) (h1 : n ≤ 63) (hq : Q (bit a n.toNat) h) : firebreakref01_Has_w Try.prog a n Q h := by
  unfold firebreakref01_Has_w
  refine letW ⟨fun _ => h0, letW ?_⟩
  have e : (decide (n ≥ 0) && decide (n ≤ 63)) = true := by simp; omega
  rw [e, bit_and ha h0 h1, Bool.true_and]
  exact hq

theorem refFlows1_ok {a b : Int} {Q : Bool → Hp → Prop} {h : Hp} (ha : InU a) (hb : InU b) (hq : Q (flows a b) h) : firebreakref01_Flows_w Try.prog a b Q h := by
  unfold firebreakref01_Flows_w
  refine LoopW1.intro (fun n k => k = h ∧ 0 ≤ n ∧ n ≤ 64 ∧ ∀ m : Nat, (m : Int) < n → bit a m = true → bit b m = true) (fun n _ => (64 - n).toNat) ⟨rfl, by omega, by omega, fun m hm => by omega⟩ ?_
  rintro n k ⟨rfl, h0, h1, hall⟩
  split
  · rename_i e
    have e : n < 64 := by simpa using e
    refine firebreakref01_Has_call (has_ok ha h0 (by omega) ?_)
    have goOn : (bit a n.toNat = true → bit b n.toNat = true) → (k = k ∧ 0 ≤ IntKind.wrap .i64 (n + 1) ∧ IntKind.wrap .i64 (n + 1) ≤ 64 ∧ ∀ m : Nat, (m : Int) < IntKind.wrap .i64 (n + 1) → bit a m = true → bit b m = true) ∧ (64 - IntKind.wrap .i64 (n + 1)).toNat < (64 - n).toNat := by
      intro hn
      rw [wrap64 (by omega) (by omega)]
      refine ⟨⟨rfl, by omega, by omega, fun m hm => ?_⟩, by omega⟩
      by_cases hmn : (m : Int) < n
      · exact hall m hmn
      · have : m = n.toNat := by omega
        rw [this]; exact hn
    cases hA : bit a n.toNat with
    | false =>
      refine ⟨fun e => (by cases e), fun _ => ⟨false, ?_⟩⟩
      refine letW ?_
      rw [if_neg (by simp)]
      exact goOn fun e => by rw [hA] at e; cases e
    | true =>
      refine ⟨fun _ => firebreakref01_Has_call (has_ok hb h0 (by omega) ?_), fun e => (by cases e)⟩
      refine letW ?_
      cases hB : bit b n.toNat with
      | false =>
        rw [if_pos (by simp)]
        have : flows a b = false := by
          refine Bool.eq_false_iff.2 fun hf => ?_
          have := flows_iff.1 hf n.toNat (by omega) hA
          rw [hB] at this; cases this
        rw [← this]; exact hq
      | true =>
        rw [if_neg (by simp)]
        exact goOn fun _ => hB
  · rename_i e
    have e : ¬ n < 64 := by simpa using e
    have : flows a b = true := flows_iff.2 fun m hm => hall m (by omega)
    rw [← this]; exact hq

theorem labelFlows_ok {a b : Int} {Q : Bool → Hp → Prop} {h : Hp} (ha : InU a) (hb : InU b) (hq : Q (flows a b) h) : label_Flows_w Try.prog a b Q h := by
  unfold label_Flows_w
  have : (bitsI .andNot .u64 a b == 0) = flows a b := by
    rw [Bool.eq_iff_iff, bit_sub ha hb, flows_iff]
  rw [this]
  exact hq

end Lf
