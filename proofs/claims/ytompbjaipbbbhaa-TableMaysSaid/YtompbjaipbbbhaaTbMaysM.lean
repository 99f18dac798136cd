/-
  It proves that the law TableMays holds of the program: for every list of labels the call returns true, and what was there before is left as it was. There are no conditions.
-/
import Derived.Test.YtompbjaipbbbhaaMgTbMays4
namespace Go.Proofs.Ytompbjaipbbbhaa
open Go.ChangeShapes Go.WideShapes Go.ChangeAt Go.RowKit

theorem own : ownKnob Try.prog.godebug = none := by kernel_rfl
theorem laidOut : laidOutB Try.prog = true := by kernel_rfl

theorem tableMays_params : ∀ t ∈ Try.f5.params.toList, Try.prog.readableRec t = true ∧ t < Try.prog.types.size := by
  rw [Try.params5]
  intro t ht
  simp at ht
  rcases ht with rfl <;> exact ⟨by kernel_rfl, of_decide_eq_true (by kernel_rfl)⟩

set_option maxRecDepth 100000 in
theorem tableMays_lifted (os : Os) (started : os.Started) (H : Type) (enc : TypeId × Value → H) :
    ReturnsInHanded {} Try.checked os 5 .any (Rows.tableMaysSpec.pre6 enc Try.prog Try.f5 Rows.tableMaysRow.domain false) (Rows.tableMaysSpec.post enc Try.prog Try.f5 false true false false) := by
  refine Lf.law_lifted (C := Try.checked) (t := 4) own started (by kernel_rfl) Try.func5
    (ChangeSpec.witness6 (enc := enc) (C := Try.checked) false ⟨#[], #[.slice none 0 0], []⟩ 8 (by kernel_rfl) (by kernel_rfl) (by kernel_rfl) (by kernel_rfl)) laidOut tableMays_params rfl (by kernel_rfl) Try.underlying4 ?_
  intro W base args ds p hval0 hA0
  have hval : ∀ (j : Nat) t v, Try.f5.params[j]? = some t → args[j]? = some v → Value.okWide Try.prog W .any base t v := hval0
  have hA : DataW.TrodAll enc Try.prog W 0 (fun _ => true) true Try.f5.params.toList args.toList ds p := hA0
  rw [Try.params5] at hA hval
  obtain ⟨v0, d0, rfl, rfl, h0⟩ := trodAll_one hA
  obtain ⟨l0, xs0, rfl, r0, c0, _, w0⟩ := Lf.ints_in Try.underlying33 Try.underlying43 (by kernel_rfl) (hval 0 33 v0 rfl rfl) h0
  exact ⟨rfl, Lf.firebreaklaw02_TableMays_call (Lf.tableMays_ok r0 c0 fun h' hle => ⟨rfl, hle⟩)⟩

theorem tableMays_holds : Rows.TableMaysSaid :=
  OpenClaim.holds_of_wide 5 Try.f5 rfl rfl rfl rfl rfl rfl rfl ⟨rfl, rfl, rfl, rfl, rfl⟩ rfl rfl rfl rfl rfl (by kernel_rfl) Try.func5 (by kernel_rfl)
    (of_decide_eq_true (by kernel_rfl)) (by unfold Func.isWrapper; first | (rw [if_pos (by decide +kernel)]; kernel_rfl) | (rw [if_neg (by decide +kernel)]; exact ⟨rfl, rfl⟩))
    (fun os started H enc _ => tableMays_lifted os started H enc)

#print axioms tableMays_holds
end Go.Proofs.Ytompbjaipbbbhaa
