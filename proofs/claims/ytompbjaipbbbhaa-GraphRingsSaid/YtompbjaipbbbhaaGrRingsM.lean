/-
  It proves that the law GraphRings holds of the program: for every list of edges the call returns true, and what was there before is left as it was. There are no conditions.
-/
import Derived.OpenShut
import Derived.Test.YtompbjaipbbbhaaMgGrRings4
namespace Go.Proofs.Ytompbjaipbbbhaa
open Go.ChangeShapes Go.WideShapes Go.ChangeAt Go.RowKit

theorem own : ownKnob Try.prog.godebug = none := by kernel_rfl
theorem laidOut : laidOutB Try.prog = true := by kernel_rfl

theorem graphRings_params : ∀ t ∈ Try.f4.params.toList, Try.prog.readableRec t = true ∧ t < Try.prog.types.size := by
  rw [Try.params4]
  intro t ht
  simp at ht
  rcases ht with rfl <;> exact ⟨by kernel_rfl, of_decide_eq_true (by kernel_rfl)⟩

set_option maxRecDepth 100000 in
theorem graphRings_lifted (os : Os) (started : os.Started) (H : Type) (enc : TypeId × Value → H) :
    ReturnsInHanded {} Try.checked os 4 .any (Rows.graphRingsSpec.pre6 enc Try.prog Try.f4 Rows.graphRingsRow.domain false) (Rows.graphRingsSpec.post enc Try.prog Try.f4 false true false false) := by
  refine Lf.law_lifted (C := Try.checked) (t := 4) own started (by kernel_rfl) Try.func4
    (ChangeSpec.witness6 (enc := enc) (C := Try.checked) false ⟨#[], #[.slice none 0 0], []⟩ 8 (by kernel_rfl) (by kernel_rfl) (by kernel_rfl) (by kernel_rfl)) laidOut graphRings_params rfl (by kernel_rfl) Try.underlying4 ?_
  intro W base args ds p hval0 hA0
  have hval : ∀ (j : Nat) t v, Try.f4.params[j]? = some t → args[j]? = some v → Value.okWide Try.prog W .any base t v := hval0
  have hA : DataW.TrodAll enc Try.prog W 0 (fun _ => true) true Try.f4.params.toList args.toList ds p := hA0
  rw [Try.params4] at hA hval
  obtain ⟨v0, d0, rfl, rfl, h0⟩ := trodAll_one hA
  have hc2 : Try.prog.cellsOf 24 = 2 := by kernel_rfl
  have hc1 : Try.prog.cellsOf 3 = 1 := by kernel_rfl
  obtain ⟨l0, xs0, rfl, r0, c0, _, w0, _⟩ := Lf.slice_in (α := Lf.S_n2_int) Try.underlying23 Lf.eE Lf.WfE (fun fuel cs y hl hy => by
      obtain ⟨zs, m, _, _, _, hzl, hel⟩ := DataW.trod_array Try.underlying24 hy
      rw [hc2] at hl
      match cs, hl with
      | [a, b], _ =>
        have h1 := hel 0 (by omega)
        have h2 := hel 1 (by omega)
        rw [hc1, List.getElem?_eq_getElem (by omega)] at h1 h2
        obtain ⟨n0, e0, _, w0⟩ := DataW.trod_int Try.underlying3 h1
        obtain ⟨n1, e1, _, w1⟩ := DataW.trod_int Try.underlying3 h2
        simp at e0 e1
        subst e0; subst e1
        exact ⟨⟨n0, n1⟩, rfl, w0, w1⟩) (fun _ => by rw [hc2]; rfl) (hval 0 23 v0 rfl rfl) h0
  rw [hc2] at r0
  exact ⟨rfl, Lf.firebreaklaw20_GraphRings_call (Lf.graphRings_ok r0 w0 fun h' hle => ⟨rfl, hle⟩)⟩

theorem graphRings_holds : Rows.GraphRingsSaid :=
  OpenClaim.holds_of_wide 4 Try.f4 rfl rfl rfl rfl rfl rfl rfl ⟨rfl, rfl, rfl, rfl, rfl⟩ rfl rfl rfl rfl rfl (by kernel_rfl) Try.func4 (by kernel_rfl)
    (of_decide_eq_true (by kernel_rfl)) (by unfold Func.isWrapper; first | (rw [if_pos (by decide +kernel)]; kernel_rfl) | (rw [if_neg (by decide +kernel)]; exact ⟨rfl, rfl⟩))
    (fun os started H enc _ => graphRings_lifted os started H enc)

#print axioms graphRings_holds
end Go.Proofs.Ytompbjaipbbbhaa
