/-
  What a table tells.
-/
import Derived.Test.YtoffikpplbiohaaTbF
namespace Lf
open Go Go.Proofs

theorem tabLabel_ok {p : Addr} {ls : List Int} {i : Int} {Q : Int → Int → Hp → Prop} {h : Hp} (t : Tab h p ls) (h0 : ¬ (0 ≤ i ∧ i < (ls.length : Int)) → Q 0 2 h)
    (h1 : ∀ x, 0 ≤ i ∧ i < (ls.length : Int) → ls[i.toNat]? = some x → Q x 0 h) : table_Table_Label_w Try.prog (some p) i Q h := by
  unfold table_Table_Label_w
  refine table_Table_is_call (tabIs_ok t ?_)
  by_cases hi : 0 ≤ i ∧ i < (ls.length : Int)
  · have : (decide (0 ≤ i) && decide (i < (ls.length : Int))) = true := by simp; exact hi
    rw [this, if_neg (by simp)]
    refine notNil (t.sl fun sl hs => ?_)
    exact Rs.get hs (fun _ => rfl) (by omega) hi.1 hi.2 fun (x : Int) hx => h1 x hi hx
  · have : (decide (0 ≤ i) && decide (i < (ls.length : Int))) = false := by simp; omega
    rw [this, if_pos (by simp)]
    exact h0 hi

theorem tabFlows_ok {p : Addr} {ls : List Int} {i j : Int} {Q : Bool → Hp → Prop} {h : Hp} (t : Tab h p ls) (hu : ∀ x ∈ ls, InU x) (hq : Q (fl ls i j) h) : table_Table_Flows_w Try.prog (some p) i j Q h := by
  unfold table_Table_Flows_w
  refine table_Table_is_call (tabIs_ok t ?_)
  generalize hc : (decide (0 ≤ i) && decide (i < (ls.length : Int))) = ci
  refine ⟨fun e => table_Table_is_call (tabIs_ok t ?_), fun e => ⟨false, ?_⟩⟩
  · generalize hd : (decide (0 ≤ j) && decide (j < (ls.length : Int))) = cj
    refine letW ?_
    subst e
    rw [Bool.true_and]
    simp at hc
    refine notNil (t.slC fun sl hs => ?_)
    refine Rs.getC hs (0 : Int) (fun _ => rfl) (by omega) (fun _ => hc) fun (x : Int) hx => ?_
    refine notNil (t.slC fun sl2 hs2 => ?_)
    refine Rs.getC hs2 (0 : Int) (fun _ => rfl) (by omega) (fun e => by rw [e] at hd; simpa using hd) fun (y : Int) hy => ?_
    refine ⟨fun e => ?_, fun e => ⟨false, ?_⟩⟩
    · have ex := hx e
      have ey := hy e
      rw [e] at hd
      simp at hd
      refine label_Flows_call (labelFlows_ok (hu x (List.mem_of_getElem? ex)) (hu y (List.mem_of_getElem? ey)) (letW ?_))
      rw [e, Bool.true_and, ← fl_in ⟨hc.1, hd.1⟩ ex ey]
      exact hq
    · refine letW ?_
      rw [e] at hd ⊢
      rw [Bool.false_and, ← fl_out (xs := ls) (i := i) (j := j) (by simp at hd; omega)]
      exact hq
  · subst e
    simp at hc
    refine letW ?_
    rw [Bool.false_and]
    refine notNil (t.slC fun sl hs => ?_)
    refine Rs.getC hs (0 : Int) (fun _ => rfl) (by omega) (fun e => by cases e) fun (x : Int) hx => ?_
    refine notNil (t.slC fun sl2 hs2 => ?_)
    refine Rs.getC hs2 (0 : Int) (fun _ => rfl) (by omega) (fun e => by cases e) fun (y : Int) hy => ?_
    refine ⟨fun e => (by cases e), fun e => ⟨false, letW ?_⟩⟩
    rw [Bool.false_and, ← fl_out (xs := ls) (i := i) (j := j) (by omega)]
    exact hq

end Lf
