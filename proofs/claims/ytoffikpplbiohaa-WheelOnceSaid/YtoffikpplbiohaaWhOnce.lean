/-
  It proves that the law WheelOnce holds of the program: for every list of numbers that are set, every list of numbers that are cleared and every list of times the call returns true, and what was there before is left as it was. There are no conditions.
-/
import Derived.Test.YtoffikpplbiohaaWhM
import Derived.Test.YtoffikpplbiohaaLfLaw
namespace Go.Proofs.Ytoffikpplbiohaa
open Go.ChangeShapes Go.WideShapes Go.ChangeAt Go.RowKit

theorem own : ownKnob Try.prog.godebug = none := by kernel_rfl
theorem laidOut : laidOutB Try.prog = true := by kernel_rfl

theorem wheelOnce_params : ∀ t ∈ Try.f7.params.toList, Try.prog.readableRec t = true ∧ t < Try.prog.types.size := by
  rw [Try.params7]
  intro t ht
  simp at ht
  rcases ht with rfl | rfl | rfl <;> exact ⟨by kernel_rfl, of_decide_eq_true (by kernel_rfl)⟩

set_option maxRecDepth 100000 in
theorem wheelOnce_lifted (os : Os) (started : os.Started) (H : Type) (enc : TypeId × Value → H) :
    ReturnsInHanded {} Try.checked os 7 .any (Rows.wheelOnceSpec.pre6 enc Try.prog Try.f7 Rows.wheelOnceRow.domain false) (Rows.wheelOnceSpec.post enc Try.prog Try.f7 false true false false) := by
  refine Lf.law_liftedS (C := Try.checked) (t := 4) own started (by kernel_rfl) Try.func7
    (ChangeSpec.witness6 (enc := enc) (C := Try.checked) false ⟨#[], #[.slice none 0 0, .slice none 0 0, .slice none 0 0], []⟩ 8 (by kernel_rfl) (by kernel_rfl) (by kernel_rfl) (by kernel_rfl)) laidOut wheelOnce_params rfl (by kernel_rfl) Try.underlying4 ?_
  intro W base args ds p hval0 hA0 hsz0
  have hval : ∀ (j : Nat) t v, Try.f7.params[j]? = some t → args[j]? = some v → Value.okWide Try.prog W .any base t v := hval0
  have hA : DataW.TrodAll enc Try.prog W 0 (fun _ => true) true Try.f7.params.toList args.toList ds p := hA0
  have hsz : (DataW.weightsEach Try.prog Try.f7.params.toList ds).all (· ≤ reachBytes) = true := hsz0
  rw [Try.params7] at hA hval hsz
  obtain ⟨v0, v1, v2, d0, d1, d2, p0, p1, p2, rfl, rfl, rfl, h0, h1, h2⟩ := trodAll_three hA
  have hc64 : Try.prog.cellsOf 64 = 2 := by kernel_rfl
  have hc3 : Try.prog.cellsOf 3 = 1 := by kernel_rfl
  have hc2 : Try.prog.cellsOf 2 = 1 := by kernel_rfl
  obtain ⟨l, xs, rfl, r, _, _, hg, _⟩ := Lf.slice_in (α := Lf.S_firebreaklaw11_Set) Try.underlying59 Lf.eS (fun o => o.Due ≤ 9223372036854775807) (fun fuel cs y hl hy => by
      obtain ⟨n0, e0, _⟩ := Lf.trod_fieldInt Try.underlying64 hy (i := 0) rfl Try.underlying3 hc3
      obtain ⟨n1, e1, w1⟩ := Lf.trod_fieldInt Try.underlying64 hy (i := 1) rfl Try.underlying2 hc2
      rw [hc64] at hl
      match cs, hl with
      | [a, b], _ =>
        simp at e0 e1
        subst e0; subst e1
        exact ⟨⟨n0, n1⟩, rfl, (Lf.inI_wf w1).2⟩) (fun _ => by rw [hc64]; rfl) (hval 0 59 v0 rfl rfl) h0
  rw [hc64] at r
  obtain ⟨g, gs, rfl, rg, _, _, wg, hdg⟩ := Lf.ints_inS Try.underlying24 Try.underlying3 hc3 (hval 1 24 v1 rfl rfl) h1
  obtain ⟨n, ns, rfl, rn, _, _, wn, hdn⟩ := Lf.ints_inS Try.underlying60 Try.underlying2 hc2 (hval 2 60 v2 rfl rfl) h2
  have lg := Lf.slice_size hsz (j := 1) rfl rfl Try.underlying24 (b := 8) (by kernel_rfl) hdg
  have ln := Lf.slice_size hsz (j := 2) rfl rfl Try.underlying60 (b := 8) (by kernel_rfl) hdn
  have lg' := rg.1
  have ln' := rn.1
  exact ⟨rfl, Lf.firebreaklaw11_WheelOnce_call (Lf.wheelOnce_ok r rg rn (by omega) (by omega) hg fun h' hle => ⟨rfl, hle⟩)⟩

theorem wheelOnce_holds : Rows.WheelOnceSaid :=
  OpenClaim.holds_of_wide 7 Try.f7 rfl rfl rfl rfl rfl rfl rfl ⟨rfl, rfl, rfl, rfl, rfl⟩ rfl rfl rfl rfl rfl (by kernel_rfl) Try.func7 (by kernel_rfl)
    (of_decide_eq_true (by kernel_rfl)) (by unfold Func.isWrapper; first | (rw [if_pos (by decide +kernel)]; kernel_rfl) | (rw [if_neg (by decide +kernel)]; exact ⟨rfl, rfl⟩))
    (fun os started H enc _ => wheelOnce_lifted os started H enc)

#print axioms wheelOnce_holds
end Go.Proofs.Ytoffikpplbiohaa
