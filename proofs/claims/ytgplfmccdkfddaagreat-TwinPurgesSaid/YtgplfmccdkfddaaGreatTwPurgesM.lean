/-
  It proves that the law TwinPurges holds of the program: for every config, script and label the call returns true, and what was there before is left as it was. There are no conditions.
-/
import Derived.Test.YtgplfmccdkfddaaGreatMgTwPurges5
namespace Go.Proofs.YtgplfmccdkfddaaGreat
open Go.ChangeShapes Go.WideShapes Go.ChangeAt Go.RowKit

theorem own : ownKnob Tryz.prog.godebug = none := by kernel_rfl
theorem laidOut : laidOutB Tryz.prog = true := by kernel_rfl

theorem twinPurges_params : ∀ t ∈ Tryz.f3.params.toList, Tryz.prog.readableRec t = true ∧ t < Tryz.prog.types.size := by
  rw [Tryz.params3]
  intro t ht
  simp at ht
  rcases ht with rfl | rfl | rfl <;> exact ⟨by kernel_rfl, of_decide_eq_true (by kernel_rfl)⟩

set_option maxRecDepth 100000 in
theorem twinPurges_lifted (os : Os) (started : os.Started) (H : Type) (enc : TypeId × Value → H) :
    ReturnsInHanded {} Tryz.checked os 3 .any (Rows.twinPurgesSpec.pre6 enc Tryz.prog Tryz.f3 Rows.twinPurgesRow.domain false) (Rows.twinPurgesSpec.post enc Tryz.prog Tryz.f3 false true false false) := by
  refine Lf.qo (C := Tryz.checked) (t := 4) own started (by kernel_rfl) Tryz.func3
    (ChangeSpec.witness6 (enc := enc) (C := Tryz.checked) false ⟨#[], #[.agg #[.slice none 0 0, .slice none 0 0, .int .i64 0, .int .i64 0, .int .i64 0, .int .i64 0, .slice none 0 0], .slice none 0 0, .int .u64 0], []⟩ 8 (by kernel_rfl) (by kernel_rfl) (by kernel_rfl) (by kernel_rfl)) laidOut twinPurges_params rfl (by kernel_rfl) Tryz.underlying4 ?_
  intro W base args ds p hval0 hA0 hsz0
  have hval : ∀ (j : Nat) t v, Tryz.f3.params[j]? = some t → args[j]? = some v → Value.okWide Tryz.prog W .any base t v := hval0
  have hA : DataW.TrodAll enc Tryz.prog W 0 (fun _ => true) true Tryz.f3.params.toList args.toList ds p := hA0
  have hsz : (DataW.weightsEach Tryz.prog Tryz.f3.params.toList ds).all (· ≤ reachBytes) = true := hsz0
  rw [Tryz.params3] at hA hval hsz
  obtain ⟨v0, vs0, d0, ds0, p0, q0, e0, rfl, _, h0, hA⟩ := trodAll_cons hA
  obtain ⟨v1, vs1, d1, ds1, p1, q1, rfl, rfl, _, h1, hA⟩ := trodAll_cons hA
  obtain ⟨v2, vs2, d2, ds2, p2, q2, rfl, rfl, _, h2, hA⟩ := trodAll_cons hA
  obtain ⟨rfl, rfl, _⟩ := trodAll_nil hA
  have hargs : args = #[v0, v1, v2] := by cases args; simp at e0; rw [e0]
  obtain ⟨x, rfl, hx⟩ := Lf.wx h0 (Lf.qH (i := 0) rfl rfl hsz)
  obtain ⟨b, ss, rfl, hb⟩ := Lf.s7 (hval 1 27 v1 rfl (by rw [hargs]; rfl)) h1 (Lf.qH (i := 1) rfl rfl hsz)
  obtain ⟨fuel, hf3⟩ := h2
  obtain ⟨cut, hc3, hw3⟩ := Lf.Fx fuel _ _ hf3 (Lf.qH (i := 2) rfl rfl hsz)
  have hv3 : v2 = .int .u64 cut := Lf.wS (hval 2 28 v2 rfl (by rw [hargs]; rfl)) hc3 Tryz.underlying28
  subst hv3
  obtain ⟨c, cx, tc, lc⟩ := Lf.A6 hx
  rw [hargs]
  exact ⟨rfl, Lf.gk (Lf.nU cx (Lf.u7 tc) (Lf.uD hw3) hb.Bt fun h' hle => ⟨rfl, hle⟩)⟩

theorem twinPurges_holds : Rows.TwinPurgesSaid :=
  OpenClaim.holds_of_wide 3 Tryz.f3 rfl rfl rfl rfl rfl rfl rfl ⟨rfl, rfl, rfl, rfl, rfl⟩ rfl rfl rfl rfl rfl (by kernel_rfl) Tryz.func3 (by kernel_rfl)
    (of_decide_eq_true (by kernel_rfl)) (by unfold Func.isWrapper; first | (rw [if_pos (by decide +kernel)]; kernel_rfl) | (rw [if_neg (by decide +kernel)]; exact ⟨rfl, rfl⟩))
    (fun os started H enc _ => twinPurges_lifted os started H enc)

#print axioms twinPurges_holds
end Go.Proofs.YtgplfmccdkfddaaGreat
