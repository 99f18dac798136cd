/-
  It proves that the law TableTells holds of the program: for every list of labels, every list of labels asked for and every list of numbers the call returns true, and what was there before is left as it was. There are no conditions.
-/
import Derived.Test.YtoffikpplbiohaaTbK
import Derived.Test.YtoffikpplbiohaaLfLaw
namespace Go.Proofs.Ytoffikpplbiohaa
open Go.ChangeShapes Go.WideShapes Go.ChangeAt Go.RowKit

theorem own : ownKnob Try.prog.godebug = none := by kernel_rfl
theorem laidOut : laidOutB Try.prog = true := by kernel_rfl

theorem tableTells_params : ∀ t ∈ Try.f4.params.toList, Try.prog.readableRec t = true ∧ t < Try.prog.types.size := by
  rw [Try.params4]
  intro t ht
  simp at ht
  rcases ht with rfl | rfl | rfl <;> exact ⟨by kernel_rfl, of_decide_eq_true (by kernel_rfl)⟩

set_option maxRecDepth 100000 in
theorem tableTells_lifted (os : Os) (started : os.Started) (H : Type) (enc : TypeId × Value → H) :
    ReturnsInHanded {} Try.checked os 4 .any (Rows.tableTellsSpec.pre6 enc Try.prog Try.f4 Rows.tableTellsRow.domain false) (Rows.tableTellsSpec.post enc Try.prog Try.f4 false true false false) := by
  refine Lf.law_lifted (C := Try.checked) (t := 4) own started (by kernel_rfl) Try.func4
    (ChangeSpec.witness6 (enc := enc) (C := Try.checked) false ⟨#[], #[.slice none 0 0, .slice none 0 0, .slice none 0 0], []⟩ 8 (by kernel_rfl) (by kernel_rfl) (by kernel_rfl) (by kernel_rfl)) laidOut tableTells_params rfl (by kernel_rfl) Try.underlying4 ?_
  intro W base args ds p hval0 hA0
  have hval : ∀ (j : Nat) t v, Try.f4.params[j]? = some t → args[j]? = some v → Value.okWide Try.prog W .any base t v := hval0
  have hA : DataW.TrodAll enc Try.prog W 0 (fun _ => true) true Try.f4.params.toList args.toList ds p := hA0
  rw [Try.params4] at hA hval
  obtain ⟨v0, v1, v2, d0, d1, d2, p0, p1, p2, rfl, rfl, rfl, h0, h1, h2⟩ := trodAll_three hA
  obtain ⟨l0, xs0, rfl, r0, c0, _, w0⟩ := Lf.ints_in Try.underlying23 Try.underlying31 (by kernel_rfl) (hval 0 23 v0 rfl rfl) h0
  obtain ⟨l1, xs1, rfl, r1, c1, _, w1⟩ := Lf.ints_in Try.underlying23 Try.underlying31 (by kernel_rfl) (hval 1 23 v1 rfl rfl) h1
  obtain ⟨l2, xs2, rfl, r2, c2, _, w2⟩ := Lf.ints_in Try.underlying24 Try.underlying3 (by kernel_rfl) (hval 2 24 v2 rfl rfl) h2
  exact ⟨rfl, Lf.firebreaklaw02_TableTells_call (Lf.tableTells_ok r0 r1 r2 c0 c1 c2 (fun x hx => Lf.inU_wf (w0 x hx)) (fun x hx => Lf.inU_wf (w1 x hx)) fun h' hle => ⟨rfl, hle⟩)⟩

theorem tableTells_holds : Rows.TableTellsSaid :=
  OpenClaim.holds_of_wide 4 Try.f4 rfl rfl rfl rfl rfl rfl rfl ⟨rfl, rfl, rfl, rfl, rfl⟩ rfl rfl rfl rfl rfl (by kernel_rfl) Try.func4 (by kernel_rfl)
    (of_decide_eq_true (by kernel_rfl)) (by unfold Func.isWrapper; first | (rw [if_pos (by decide +kernel)]; kernel_rfl) | (rw [if_neg (by decide +kernel)]; exact ⟨rfl, rfl⟩))
    (fun os started H enc _ => tableTells_lifted os started H enc)

#print axioms tableTells_holds
end Go.Proofs.Ytoffikpplbiohaa
