/-
  Tables: what the functions come to.
-/
import Derived.Test.YtoffikpplbiohaaLfLib
import Derived.Test.YtoffikpplbiohaaLfFun
namespace Lf
open Go

abbrev Us (h : Hp) (l : Sl) (xs : List Int) : Prop := Rs h (shInt .u64) 1 l xs
abbrev Is (h : Hp) (l : Sl) (xs : List Int) : Prop := Rs h (shInt .i64) 1 l xs

theorem may_ok {P : Program} {l : Sl} {xs : List Int} {Q : Int → Int → Hp → Prop} {h : Hp} (r : Us h l xs) (hl : xs.length ≤ 8) (asc : xs.Pairwise (· < ·)) (h0 : xs = [] → Q 1 0 h) (h1 : xs ≠ [] → Q 0 0 h) : table_May_w P l Q h := by
  unfold table_May_w
  have hlen := r.1
  split
  · rename_i e
    have e : (l.len : Int) = 0 := by simpa using e
    exact h0 (List.length_eq_zero_iff.1 (by omega))
  · rename_i e
    have e : ¬ (l.len : Int) = 0 := by simpa using e
    split
    · rename_i e2
      have e2 : (l.len : Int) > 8 := by simpa using e2
      omega
    · refine LoopW1.intro (fun i k => k = h ∧ 1 ≤ i ∧ i ≤ (xs.length : Int)) (fun i _ => (xs.length - i).toNat) ⟨rfl, by omega, by omega⟩ ?_
      rintro i k ⟨rfl, hi1, hi2⟩
      split
      · rename_i e3
        have e3 : i < (l.len : Int) := by simpa using e3
        have hw : IntKind.wrap .i64 (i - 1) = i - 1 := wrap64 (by omega) (by omega)
        rw [hw]
        refine r.get (fun _ => rfl) (by omega) (by omega) (by omega) fun (x : Int) hx => ?_
        refine r.get (fun _ => rfl) (by omega) (by omega) (by omega) fun (y : Int) hy => ?_
        have hxy : y < x := by
          have e4 : (i - 1).toNat < i.toNat := by omega
          have hxl := (List.getElem?_eq_some_iff.1 hx)
          have hyl := (List.getElem?_eq_some_iff.1 hy)
          obtain ⟨hx1, hx2⟩ := hxl
          obtain ⟨hy1, hy2⟩ := hyl
          rw [← hx2, ← hy2]
          exact List.pairwise_iff_getElem.1 asc _ _ hy1 hx1 e4
        rw [if_neg (show ¬ ((x == y) = true) by simp; omega)]
        refine r.get (fun _ => rfl) (by omega) (by omega) (by omega) fun (x' : Int) hx' => ?_
        rw [hx] at hx'; cases hx'
        refine r.get (fun _ => rfl) (by omega) (by omega) (by omega) fun (y' : Int) hy' => ?_
        rw [hy] at hy'; cases hy'
        rw [if_neg (show ¬ (decide (x < y) = true) by simp; omega)]
        have hw2 : IntKind.wrap .i64 (i + 1) = i + 1 := wrap64 (by omega) (by omega)
        rw [hw2]
        exact ⟨⟨rfl, by omega, by omega⟩, by omega⟩
      · exact h1 fun e4 => by rw [e4] at hlen; simp at hlen; omega

end Lf
