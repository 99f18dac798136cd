/-
  It proves that the law RunNames holds of the program: whatever the call is run from, it returns true, and what was there before is left as it was. There are no conditions.
-/
import Derived.Test.YtgplfmccdkfddaaGreatMgRnNames5
namespace Go.Proofs.YtgplfmccdkfddaaGreat
open Go.ChangeShapes Go.WideShapes Go.ChangeAt Go.RowKit

theorem own : ownKnob Tryz.prog.godebug = none := by kernel_rfl
theorem laidOut : laidOutB Tryz.prog = true := by kernel_rfl

set_option maxRecDepth 100000 in
theorem runNames_lifted (os : Os) (started : os.Started) (H : Type) (enc : TypeId × Value → H) :
    ReturnsInHanded {} Tryz.checked os 4 .any (Rows.runNamesSpec.pre6 enc Tryz.prog Tryz.f4 Rows.runNamesRow.domain false) (Rows.runNamesSpec.post enc Tryz.prog Tryz.f4 false true false false) := by
  refine Lf.law_lifted (C := Tryz.checked) (t := 4) own started (by kernel_rfl) Tryz.func4
    (ChangeSpec.witness6 (enc := enc) (C := Tryz.checked) false ⟨#[], #[], []⟩ 8 (by kernel_rfl) (by kernel_rfl) (by kernel_rfl) (by kernel_rfl)) laidOut (fun t ht => by cases ht) rfl (by kernel_rfl) Tryz.underlying4 ?_
  intro W base args ds p _ hA
  have hA : DataW.TrodAll enc Tryz.prog W 0 (fun _ => true) true Tryz.f4.params.toList args.toList ds p := hA
  rw [Tryz.params4] at hA
  obtain ⟨rfl, rfl, rfl⟩ := trodAll_none hA
  exact ⟨rfl, Lf.firebreaklaw17_RunNames_call (Lf.runNames_ok fun h' hle => ⟨rfl, hle⟩)⟩

theorem runNames_holds : Rows.RunNamesSaid :=
  OpenClaim.holds_of_wide 4 Tryz.f4 rfl rfl rfl rfl rfl rfl rfl ⟨rfl, rfl, rfl, rfl, rfl⟩ rfl rfl rfl rfl rfl (by kernel_rfl) Tryz.func4 (by kernel_rfl)
    (of_decide_eq_true (by kernel_rfl)) (by unfold Func.isWrapper; first | (rw [if_pos (by decide +kernel)]; kernel_rfl) | (rw [if_neg (by decide +kernel)]; exact ⟨rfl, rfl⟩))
    (fun os started H enc _ => runNames_lifted os started H enc)

#print axioms runNames_holds
end Go.Proofs.YtgplfmccdkfddaaGreat
