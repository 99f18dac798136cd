/-
  It proves that the law WheelTurns holds of the program: for every script the call returns true, and what was there before is left as it was. There are no conditions.
-/
import Derived.Test.YtoffikpplbiohaaWhK
import Derived.Test.YtoffikpplbiohaaLfLaw
namespace Go.Proofs.Ytoffikpplbiohaa
open Go.ChangeShapes Go.WideShapes Go.ChangeAt Go.RowKit

theorem own : ownKnob Try.prog.godebug = none := by kernel_rfl
theorem laidOut : laidOutB Try.prog = true := by kernel_rfl

theorem wheelTurns_params : ∀ t ∈ Try.f6.params.toList, Try.prog.readableRec t = true ∧ t < Try.prog.types.size := by
  rw [Try.params6]
  intro t ht
  simp at ht
  subst ht
  exact ⟨by kernel_rfl, of_decide_eq_true (by kernel_rfl)⟩

set_option maxRecDepth 100000 in
theorem wheelTurns_lifted (os : Os) (started : os.Started) (H : Type) (enc : TypeId × Value → H) :
    ReturnsInHanded {} Try.checked os 6 .any (Rows.wheelTurnsSpec.pre6 enc Try.prog Try.f6 Rows.wheelTurnsRow.domain false) (Rows.wheelTurnsSpec.post enc Try.prog Try.f6 false true false false) := by
  refine Lf.law_liftedS (C := Try.checked) (t := 4) own started (by kernel_rfl) Try.func6
    (ChangeSpec.witness6 (enc := enc) (C := Try.checked) false ⟨#[], #[.slice none 0 0], []⟩ 8 (by kernel_rfl) (by kernel_rfl) (by kernel_rfl) (by kernel_rfl)) laidOut wheelTurns_params rfl (by kernel_rfl) Try.underlying4 ?_
  intro W base args ds p hval0 hA0 hsz0
  have hval : ∀ (j : Nat) t v, Try.f6.params[j]? = some t → args[j]? = some v → Value.okWide Try.prog W .any base t v := hval0
  have hA : DataW.TrodAll enc Try.prog W 0 (fun _ => true) true Try.f6.params.toList args.toList ds p := hA0
  have hsz : (DataW.weightsEach Try.prog Try.f6.params.toList ds).all (· ≤ reachBytes) = true := hsz0
  rw [Try.params6] at hA hval hsz
  obtain ⟨v0, d0, rfl, rfl, h0⟩ := trodAll_one hA
  have hc55 : Try.prog.cellsOf 55 = 4 := by kernel_rfl
  have hc3 : Try.prog.cellsOf 3 = 1 := by kernel_rfl
  have hc2 : Try.prog.cellsOf 2 = 1 := by kernel_rfl
  obtain ⟨l, xs, rfl, r, hcap, _, hg, hd⟩ := Lf.slice_in (α := Lf.S_firebreaklaw11_Op) Try.underlying45 Lf.eOp (fun o => o.At ≤ 9223372036854775807) (fun fuel cs y hl hy => by
      obtain ⟨n0, e0, _⟩ := Lf.trod_fieldInt Try.underlying55 hy (i := 0) rfl Try.underlying3 hc3
      obtain ⟨n1, e1, _⟩ := Lf.trod_fieldInt Try.underlying55 hy (i := 1) rfl Try.underlying3 hc3
      obtain ⟨n2, e2, _⟩ := Lf.trod_fieldInt Try.underlying55 hy (i := 2) rfl Try.underlying3 hc3
      obtain ⟨n3, e3, w3⟩ := Lf.trod_fieldInt Try.underlying55 hy (i := 3) rfl Try.underlying2 hc2
      rw [hc55] at hl
      match cs, hl with
      | [a, b, c, d], _ =>
        simp at e0 e1 e2 e3
        subst e0; subst e1; subst e2; subst e3
        exact ⟨⟨n0, n1, n2, n3⟩, rfl, (Lf.inI_wf w3).2⟩) (fun _ => by rw [hc55]; rfl) (hval 0 45 v0 rfl rfl) h0
  rw [hc55] at r
  have hlen := Lf.slice_size hsz (j := 0) rfl rfl Try.underlying45 (b := 32) (by kernel_rfl) hd
  have hxl : xs.length ≤ 4398046511104 := by
    have := r.1
    omega
  exact ⟨rfl, Lf.firebreaklaw11_WheelTurns_call (Lf.wheelTurns_ok r hxl hg fun h' hle => ⟨rfl, hle⟩)⟩

theorem wheelTurns_holds : Rows.WheelTurnsSaid :=
  OpenClaim.holds_of_wide 6 Try.f6 rfl rfl rfl rfl rfl rfl rfl ⟨rfl, rfl, rfl, rfl, rfl⟩ rfl rfl rfl rfl rfl (by kernel_rfl) Try.func6 (by kernel_rfl)
    (of_decide_eq_true (by kernel_rfl)) (by unfold Func.isWrapper; first | (rw [if_pos (by decide +kernel)]; kernel_rfl) | (rw [if_neg (by decide +kernel)]; exact ⟨rfl, rfl⟩))
    (fun os started H enc _ => wheelTurns_lifted os started H enc)

#print axioms wheelTurns_holds
end Go.Proofs.Ytoffikpplbiohaa
