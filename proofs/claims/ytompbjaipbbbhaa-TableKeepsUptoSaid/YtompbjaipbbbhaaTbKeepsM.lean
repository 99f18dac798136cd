/-
  It proves that the law TableKeeps holds of the program: for every list of labels and every label, of bulk at most 1048576, the call returns true, and what was there before is left as it was. There are no other conditions.
-/
import Derived.Test.YtompbjaipbbbhaaMgTbKeeps4
namespace Go.Proofs.Ytompbjaipbbbhaa
open Go.ChangeShapes Go.WideShapes Go.ChangeAt Go.RowKit

theorem own : ownKnob Try.prog.godebug = none := by kernel_rfl
theorem laidOut : laidOutB Try.prog = true := by kernel_rfl

theorem tableKeeps_params : ∀ t ∈ Try.f7.params.toList, Try.prog.readableRec t = true ∧ t < Try.prog.types.size := by
  rw [Try.params7]
  intro t ht
  simp at ht
  rcases ht with rfl | rfl <;> exact ⟨by kernel_rfl, of_decide_eq_true (by kernel_rfl)⟩

set_option maxRecDepth 100000 in
theorem tableKeeps_lifted (os : Os) (started : os.Started) (H : Type) (enc : TypeId × Value → H) (F : Stop.Interp) :
    ReturnsInHanded {} Try.checked os 7 .any ((Rows.OpenSpec.upto Rows.tableKeepsSpec).pre6 enc Try.prog Try.f7 Rows.tableKeepsUptoRow.domain false) (((Rows.OpenSpec.upto Rows.tableKeepsSpec).at F).post enc Try.prog Try.f7 false true false false) := by
  refine Lf.law_upto (C := Try.checked) (s := Rows.OpenSpec.upto Rows.tableKeepsSpec) (cs := Rows.tableKeepsSpec) (k := Rows.uptoSmall) rfl rfl rfl (t := 4) own started (by kernel_rfl) Try.func7
    (OpenSpec.witness (enc := enc) (C := Try.checked) (s := Rows.OpenSpec.upto Rows.tableKeepsSpec) (k := Rows.uptoSmall) rfl false ⟨#[], #[.slice none 0 0, .int .u64 0], []⟩ 8 (by kernel_rfl) (by kernel_rfl) (by kernel_rfl)
      (x := ([.nil, .lit (.int .u64 0)], [], [])) (by kernel_rfl) rfl (by kernel_rfl)) laidOut tableKeeps_params rfl (by kernel_rfl) Try.underlying4 ?_
  intro W base args ds p hval0 hA0 _
  have hval : ∀ (j : Nat) t v, Try.f7.params[j]? = some t → args[j]? = some v → Value.okWide Try.prog W .any base t v := hval0
  have hA : DataW.TrodAll enc Try.prog W 0 (fun _ => true) true Try.f7.params.toList args.toList ds p := hA0
  rw [Try.params7] at hA hval
  obtain ⟨v0, v1, d0, d1, p0, p1, rfl, rfl, rfl, h0, h1⟩ := trodAll_two hA
  obtain ⟨l0, xs0, rfl, r0, c0, _, w0⟩ := Lf.ints_in Try.underlying33 Try.underlying43 (by kernel_rfl) (hval 0 33 v0 rfl rfl) h0
  obtain ⟨a1, rfl, rfl, rfl, w1⟩ := open_int Try.underlying43 (hval 1 43 v1 rfl rfl) h1
  exact ⟨rfl, Lf.firebreaklaw02_TableKeeps_call (Lf.tableKeeps_ok r0 c0 (fun x hx => Lf.inU_wf (w0 x hx)) (Lf.inU_wf w1) fun h' hle => ⟨rfl, hle⟩)⟩

theorem tableKeeps_holds : Rows.TableKeepsUptoSaid :=
  OpenClaim.holds_of_cond 7 Try.f7 rfl rfl rfl rfl rfl rfl rfl ⟨rfl, rfl, rfl, rfl, rfl⟩ rfl rfl rfl rfl rfl (by kernel_rfl) Try.func7 (by kernel_rfl)
    (of_decide_eq_true (by kernel_rfl)) (by unfold Func.isWrapper; first | (rw [if_pos (by decide +kernel)]; kernel_rfl) | (rw [if_neg (by decide +kernel)]; exact ⟨rfl, rfl⟩))
    (fun os started H enc _ F => tableKeeps_lifted os started H enc F)

#print axioms tableKeeps_holds
end Go.Proofs.Ytompbjaipbbbhaa
