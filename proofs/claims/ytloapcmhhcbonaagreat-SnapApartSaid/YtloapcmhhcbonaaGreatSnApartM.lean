/-
  It proves that the law SnapApart holds of the program: for all bytes the call returns true, and what was there before is left as it was. There are no conditions.
-/
import Derived.Test.YtloapcmhhcbonaaGreatMgSnApart6
namespace Go.Proofs.YtloapcmhhcbonaaGreat
open Go.ChangeShapes Go.WideShapes Go.ChangeAt Go.RowKit

theorem own : ownKnob Tryz.prog.godebug = none := by kernel_rfl
theorem laidOut : laidOutB Tryz.prog = true := by kernel_rfl

theorem snapApart_params : ∀ t ∈ Tryz.f7.params.toList, Tryz.prog.readableRec t = true ∧ t < Tryz.prog.types.size := by
  rw [Tryz.params7]
  intro t ht
  simp at ht
  rcases ht with rfl
  exact ⟨by kernel_rfl, of_decide_eq_true (by kernel_rfl)⟩

set_option maxRecDepth 100000 in
theorem snapApart_lifted (os : Os) (started : os.Started) (H : Type) (enc : TypeId × Value → H) :
    ReturnsInHanded {} Tryz.checked os 7 .any (Rows.snapApartSpec.pre6 enc Tryz.prog Tryz.f7 Rows.snapApartRow.domain false) (Rows.snapApartSpec.post enc Tryz.prog Tryz.f7 false true false false) := by
  refine Lf.law_liftedS (C := Tryz.checked) (t := 4) own started (by kernel_rfl) Tryz.func7
    (ChangeSpec.witness6 (enc := enc) (C := Tryz.checked) false ⟨#[], #[.slice none 0 0], []⟩ 8 (by kernel_rfl) (by kernel_rfl) (by kernel_rfl) (by kernel_rfl)) laidOut snapApart_params rfl (by kernel_rfl) Tryz.underlying4 ?_
  intro W base args ds p hval0 hA0 hsz0
  have hval : ∀ (j : Nat) t v, Tryz.f7.params[j]? = some t → args[j]? = some v → Value.okWide Tryz.prog W .any base t v := hval0
  have hA : DataW.TrodAll enc Tryz.prog W 0 (fun _ => true) true Tryz.f7.params.toList args.toList ds p := hA0
  have hsz : (DataW.weightsEach Tryz.prog Tryz.f7.params.toList ds).all (· ≤ reachBytes) = true := hsz0
  rw [Tryz.params7] at hA hval hsz
  obtain ⟨v0, vs0, d0, ds0, p0, q0, e0, rfl, _, h0, hA⟩ := trodAll_cons hA
  obtain ⟨rfl, rfl, _⟩ := trodAll_nil hA
  have hargs : args = #[v0] := by cases args; simp at e0; rw [e0]
  obtain ⟨b, bs, rfl, hb⟩ := Lf.arg_bytes (hval 0 33 v0 rfl (by rw [hargs]; rfl)) h0 (Lf.wEach (i := 0) rfl rfl hsz)
  rw [hargs]
  exact ⟨rfl, Lf.firebreaklaw22_SnapApart_call (Lf.snapApart_ok hb.rw_ hb.cap fun h' hle => ⟨rfl, hle⟩)⟩

theorem snapApart_holds : Rows.SnapApartSaid :=
  OpenClaim.holds_of_wide 7 Tryz.f7 rfl rfl rfl rfl rfl rfl rfl ⟨rfl, rfl, rfl, rfl, rfl⟩ rfl rfl rfl rfl rfl (by kernel_rfl) Tryz.func7 (by kernel_rfl)
    (of_decide_eq_true (by kernel_rfl)) (by unfold Func.isWrapper; first | (rw [if_pos (by decide +kernel)]; kernel_rfl) | (rw [if_neg (by decide +kernel)]; exact ⟨rfl, rfl⟩))
    (fun os started H enc _ => snapApart_lifted os started H enc)

#print axioms snapApart_holds
end Go.Proofs.YtloapcmhhcbonaaGreat
