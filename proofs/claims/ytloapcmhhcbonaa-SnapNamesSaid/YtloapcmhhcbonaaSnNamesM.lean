/-
  It proves that the law SnapNames holds of the program: whatever the call is run from, it returns true, and what was there before is left as it was. There are no conditions.
-/
import Derived.Test.YtloapcmhhcbonaaMgSnNames5
namespace Lf
open Go Go.Proofs

theorem snapNames_ok {Q : Bool → Hp → Prop} {h : Hp} (hq : ∀ h', h ≤ h' → Q true h') : firebreaklaw22_SnapNames_w Try.prog Q h := by
  unfold firebreaklaw22_SnapNames_w
  exact effT (firebreaklaw22_awake_call (awake22_ok fun h' hle => letW (hq h' hle)))

end Lf
namespace Go.Proofs.Ytloapcmhhcbonaa
open Go.ChangeShapes Go.WideShapes Go.ChangeAt Go.RowKit

theorem own : ownKnob Try.prog.godebug = none := by kernel_rfl
theorem laidOut : laidOutB Try.prog = true := by kernel_rfl

set_option maxRecDepth 100000 in
theorem snapNames_lifted (os : Os) (started : os.Started) (H : Type) (enc : TypeId × Value → H) :
    ReturnsInHanded {} Try.checked os 3 .any (Rows.snapNamesSpec.pre6 enc Try.prog Try.f3 Rows.snapNamesRow.domain false) (Rows.snapNamesSpec.post enc Try.prog Try.f3 false true false false) := by
  refine Lf.law_lifted (C := Try.checked) (t := 4) own started (by kernel_rfl) Try.func3
    (ChangeSpec.witness6 (enc := enc) (C := Try.checked) false ⟨#[], #[], []⟩ 8 (by kernel_rfl) (by kernel_rfl) (by kernel_rfl) (by kernel_rfl)) laidOut (fun t ht => by cases ht) rfl (by kernel_rfl) Try.underlying4 ?_
  intro W base args ds p _ hA
  have hA : DataW.TrodAll enc Try.prog W 0 (fun _ => true) true Try.f3.params.toList args.toList ds p := hA
  rw [Try.params3] at hA
  obtain ⟨rfl, rfl, rfl⟩ := trodAll_none hA
  exact ⟨rfl, Lf.firebreaklaw22_SnapNames_call (Lf.snapNames_ok fun h' hle => ⟨rfl, hle⟩)⟩

theorem snapNames_holds : Rows.SnapNamesSaid :=
  OpenClaim.holds_of_wide 3 Try.f3 rfl rfl rfl rfl rfl rfl rfl ⟨rfl, rfl, rfl, rfl, rfl⟩ rfl rfl rfl rfl rfl (by kernel_rfl) Try.func3 (by kernel_rfl)
    (of_decide_eq_true (by kernel_rfl)) (by unfold Func.isWrapper; first | (rw [if_pos (by decide +kernel)]; kernel_rfl) | (rw [if_neg (by decide +kernel)]; exact ⟨rfl, rfl⟩))
    (fun os started H enc _ => snapNames_lifted os started H enc)

#print axioms snapNames_holds
end Go.Proofs.Ytloapcmhhcbonaa
