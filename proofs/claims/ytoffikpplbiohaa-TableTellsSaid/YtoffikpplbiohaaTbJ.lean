/-
  The answers that the document fixes.
-/
import Derived.Test.YtoffikpplbiohaaTbI
namespace Lf
open Go Go.Proofs

theorem awake_ok {Q : Bool → Hp → Prop} {h : Hp} (hq : ∀ h', h ≤ h' → Q true h') : firebreaklaw02_awake_w Try.prog Q h := by
  unfold firebreaklaw02_awake_w
  refine new_row (xs := ([0, 1, 2, 3, 8] : List Int)) (enc := fun x => cellsL ((shInt .u64).enc x)) (sz := 1) (Hp.le_refl h) rfl (fun _ => rfl) fun a h1 l1 o1 => ?_
  have hu : ∀ x ∈ ([0, 1, 2, 3, 8] : List Int), InU x := by decide
  refine table_New_call (l := ⟨some a, 5, 5⟩) (new_ok (ls := [0, 1, 2, 3, 8]) (o1.rw fun _ => rfl) (by decide) (by decide) (fun e => (by cases e)) fun _ p h2 l2 t => ?_)
  refine letW (letW ?_)
  refine effT (table_Table_Len_call (tabLen_ok t ?_))
  refine letW ?_
  refine effT (table_Table_Flows_call (tabFlows_ok t hu ?_))
  refine letW ?_
  refine effB (by rw [show fl [0, 1, 2, 3, 8] 1 3 = true by decide +kernel]; rfl) ?_
  refine table_Table_Flows_call (tabFlows_ok t hu ?_)
  refine letW ?_
  rw [show fl [0, 1, 2, 3, 8] 1 3 = true by decide +kernel, show fl [0, 1, 2, 3, 8] 1 2 = false by decide +kernel]
  rw [if_neg (by simp)]
  refine table_Table_Label_call (tabLabel_ok t (fun e => absurd e (by decide)) fun x _ hx => ?_)
  cases hx
  refine table_Table_Index_call (tabIndex_ok t (fun e => absurd e (by decide)) fun k hk => ?_)
  cases hk
  refine table_Table_Index_call (tabIndex_ok t (fun _ => ?_) fun k hk => absurd hk (by simp [place]))
  refine letW (letW (letW (letW ?_)))
  refine effT (table_Table_Down_call (tabDown_ok t hu (by decide) (by decide) fun out h3 l3 o3 => ?_))
  have e3 : those (fun j => flows (([0, 1, 2, 3, 8] : List Int).getD j 0) 10) ([0, 1, 2, 3, 8] : List Int).length = [0, 2, 4] := by decide +kernel
  rw [e3] at o3
  refine effT (new_row (xs := ([0, 2, 4] : List Int)) (enc := fun x => cellsL ((shInt .i64).enc x)) (sz := 1) (Hp.le_refl h3) rfl (fun _ => rfl) fun a4 h4 l4 o4 => ?_)
  refine effT (firebreakref02_SameInts_call (b := ⟨some a4, 3, 3⟩) (sameInts_ok (Rw.mono l4 (o3.rw fun _ => rfl)) (o4.rw fun _ => rfl) (by decide) ?_))
  refine letW ?_
  refine effT (table_Table_Up_call (tabUp_ok (t.mono (Hp.le_trans l3 l4)) hu (by decide) fun out h5 l5 o5 => ?_))
  have e5 : those (fun j => fl [0, 1, 2, 3, 8] 1 j) ([0, 1, 2, 3, 8] : List Int).length = [1, 3] := by decide +kernel
  rw [e5] at o5
  refine effT (new_row (xs := ([1, 3] : List Int)) (enc := fun x => cellsL ((shInt .i64).enc x)) (sz := 1) (Hp.le_refl h5) rfl (fun _ => rfl) fun a6 h6 l6 o6 => ?_)
  refine effT (firebreakref02_SameInts_call (b := ⟨some a6, 2, 2⟩) (sameInts_ok (Rw.mono l6 (o5.rw fun _ => rfl)) (o6.rw fun _ => rfl) (by decide) ?_))
  refine letW ?_
  exact hq _ (Hp.le_trans l1 (Hp.le_trans l2 (Hp.le_trans l3 (Hp.le_trans l4 (Hp.le_trans l5 l6)))))

theorem tableNames_ok {Q : Bool → Hp → Prop} {h : Hp} (hq : ∀ h', h ≤ h' → Q true h') : firebreaklaw02_TableNames_w Try.prog Q h := by
  unfold firebreaklaw02_TableNames_w
  exact effT (firebreaklaw02_awake_call (awake_ok fun h' hle => letW (hq h' hle)))

end Lf
