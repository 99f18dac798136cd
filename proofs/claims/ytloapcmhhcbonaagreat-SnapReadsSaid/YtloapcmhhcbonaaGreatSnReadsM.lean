/-
  It proves that the law SnapReads holds of the program: for all bytes the call returns true, and what was there before is left as it was. There are no conditions.
-/
import Derived.Test.YtloapcmhhcbonaaGreatMgSnReads6
namespace Go.Proofs.YtloapcmhhcbonaaGreat
open Go.ChangeShapes Go.WideShapes Go.ChangeAt Go.RowKit

theorem own : ownKnob Tryz.prog.godebug = none := by kernel_rfl
theorem laidOut : laidOutB Tryz.prog = true := by kernel_rfl

theorem snapReads_params : ∀ t ∈ Tryz.f4.params.toList, Tryz.prog.readableRec t = true ∧ t < Tryz.prog.types.size := by
  rw [Tryz.params4]
  intro t ht
  simp at ht
  rcases ht with rfl
  exact ⟨by kernel_rfl, of_decide_eq_true (by kernel_rfl)⟩

set_option maxRecDepth 100000 in
theorem snapReads_lifted (os : Os) (started : os.Started) (H : Type) (enc : TypeId × Value → H) :
    ReturnsInHanded {} Tryz.checked os 4 .any (Rows.snapReadsSpec.pre6 enc Tryz.prog Tryz.f4 Rows.snapReadsRow.domain false) (Rows.snapReadsSpec.post enc Tryz.prog Tryz.f4 false true false false) := by
  refine Lf.law_liftedS (C := Tryz.checked) (t := 4) own started (by kernel_rfl) Tryz.func4
    (ChangeSpec.witness6 (enc := enc) (C := Tryz.checked) false ⟨#[], #[.slice none 0 0], []⟩ 8 (by kernel_rfl) (by kernel_rfl) (by kernel_rfl) (by kernel_rfl)) laidOut snapReads_params rfl (by kernel_rfl) Tryz.underlying4 ?_
  intro W base args ds p hval0 hA0 hsz0
  have hval : ∀ (j : Nat) t v, Tryz.f4.params[j]? = some t → args[j]? = some v → Value.okWide Tryz.prog W .any base t v := hval0
  have hA : DataW.TrodAll enc Tryz.prog W 0 (fun _ => true) true Tryz.f4.params.toList args.toList ds p := hA0
  have hsz : (DataW.weightsEach Tryz.prog Tryz.f4.params.toList ds).all (· ≤ reachBytes) = true := hsz0
  rw [Tryz.params4] at hA hval hsz
  obtain ⟨v0, vs0, d0, ds0, p0, q0, e0, rfl, _, h0, hA⟩ := trodAll_cons hA
  obtain ⟨rfl, rfl, _⟩ := trodAll_nil hA
  have hargs : args = #[v0] := by cases args; simp at e0; rw [e0]
  obtain ⟨b, bs, rfl, hb⟩ := Lf.arg_bytes (hval 0 33 v0 rfl (by rw [hargs]; rfl)) h0 (Lf.wEach (i := 0) rfl rfl hsz)
  rw [hargs]
  exact ⟨rfl, Lf.firebreaklaw22_SnapReads_call (Lf.snapReads_ok hb.rw_ hb.cap fun h' hle => ⟨rfl, hle⟩)⟩

theorem snapReads_holds : Rows.SnapReadsSaid :=
  OpenClaim.holds_of_wide 4 Tryz.f4 rfl rfl rfl rfl rfl rfl rfl ⟨rfl, rfl, rfl, rfl, rfl⟩ rfl rfl rfl rfl rfl (by kernel_rfl) Tryz.func4 (by kernel_rfl)
    (of_decide_eq_true (by kernel_rfl)) (by unfold Func.isWrapper; first | (rw [if_pos (by decide +kernel)]; kernel_rfl) | (rw [if_neg (by decide +kernel)]; exact ⟨rfl, rfl⟩))
    (fun os started H enc _ => snapReads_lifted os started H enc)

#print axioms snapReads_holds
end Go.Proofs.YtloapcmhhcbonaaGreat
