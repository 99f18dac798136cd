/-
  It proves that the law MachineNames holds of the program: whatever the call is run from, it returns true, and what was there before is left as it was. There are no conditions.
-/
import Derived.Test.YthlkklcbcdmegaaGreatMgMaNames4
namespace Go.Proofs.YthlkklcbcdmegaaGreat
open Go.ChangeShapes Go.WideShapes Go.ChangeAt Go.RowKit

theorem own : ownKnob Tryz.prog.godebug = none := by kernel_rfl
theorem laidOut : laidOutB Tryz.prog = true := by kernel_rfl

set_option maxRecDepth 100000 in
theorem machineNames_lifted (os : Os) (started : os.Started) (H : Type) (enc : TypeId × Value → H) :
    ReturnsInHanded {} Tryz.checked os 3 .any (Rows.machineNamesSpec.pre6 enc Tryz.prog Tryz.f3 Rows.machineNamesRow.domain false) (Rows.machineNamesSpec.post enc Tryz.prog Tryz.f3 false true false false) := by
  refine Lf.law_lifted (C := Tryz.checked) (t := 4) own started (by kernel_rfl) Tryz.func3
    (ChangeSpec.witness6 (enc := enc) (C := Tryz.checked) false ⟨#[], #[], []⟩ 8 (by kernel_rfl) (by kernel_rfl) (by kernel_rfl) (by kernel_rfl)) laidOut (fun t ht => by cases ht) rfl (by kernel_rfl) Tryz.underlying4 ?_
  intro W base args ds p _ hA
  have hA : DataW.TrodAll enc Tryz.prog W 0 (fun _ => true) true Tryz.f3.params.toList args.toList ds p := hA
  rw [Tryz.params3] at hA
  obtain ⟨rfl, rfl, rfl⟩ := trodAll_none hA
  exact ⟨rfl, Lf.firebreaklaw15_MachineNames_call (Lf.machineNames_ok fun h' hle => ⟨rfl, hle⟩)⟩

theorem machineNames_holds : Rows.MachineNamesSaid :=
  OpenClaim.holds_of_wide 3 Tryz.f3 rfl rfl rfl rfl rfl rfl rfl ⟨rfl, rfl, rfl, rfl, rfl⟩ rfl rfl rfl rfl rfl (by kernel_rfl) Tryz.func3 (by kernel_rfl)
    (of_decide_eq_true (by kernel_rfl)) (by unfold Func.isWrapper; first | (rw [if_pos (by decide +kernel)]; kernel_rfl) | (rw [if_neg (by decide +kernel)]; exact ⟨rfl, rfl⟩))
    (fun os started H enc _ => machineNames_lifted os started H enc)

#print axioms machineNames_holds
end Go.Proofs.YthlkklcbcdmegaaGreat
