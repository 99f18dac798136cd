/-
  It proves that the law LabelNames holds of the program: the call returns true, whatever else is in memory, where the listed variables of the library hold what its text lays into them. There are no conditions.
-/
import Derived.Test.YtompbjaipbbbhaaDoorMgDoNames2
namespace Lf
open Go Go.Proofs

theorem labelNames_ok {Q : Bool → Hp → Prop} {h : Hp} (he : ErrIs h) (hq : ∀ h', h ≤ h' → Q true h') : firebreaklaw01_LabelNames_w Tryd.prog Q h := by
  unfold firebreaklaw01_LabelNames_w
  exact effT (firebreaklaw01_awake_call (awake_ok he fun h' hle => letT rfl (hq h' hle)))

end Lf
namespace Go.Proofs.YtompbjaipbbbhaaDoor
open Go.ChangeShapes Go.WideShapes Go.ChangeAt Go.RowKit

theorem labelNames_params : ∀ t ∈ Tryd.f3.params.toList, Tryd.prog.readableRec t = true ∧ t < Tryd.prog.types.size := by
  rw [Tryd.params3]
  intro t ht
  simp at ht

set_option maxRecDepth 100000 in
theorem labelNames_reads (os : Os) {H : Type} (enc : TypeId × Value → H) : ∃ places, DataW.whole enc Tryd.prog ((World.laidAll Tryd.prog os Lf.doorLaid).forCall (fun _ _ => 0) ⟨#[], #[], []⟩).memory Tryd.f3.params.toList Rows.labelNamesSpec.vars false (#[] : Array Value).toList 8 = some ([], [], places) :=
  ⟨[], by kernel_rfl⟩

set_option maxRecDepth 100000 in
theorem labelNames_lifted (os : Os) (started : os.Started) (H : Type) (enc : TypeId × Value → H) (F : Stop.Interp) :
    ReturnsInHanded {} Tryd.checked os 3 .any ((OpenSpec.ofChange Rows.labelNamesSpec).preRow enc Tryd.prog Tryd.f3 Rows.labelNamesRow.domain false Rows.labelNamesRow.laid) (((OpenSpec.ofChange Rows.labelNamesSpec).at F).post enc Tryd.prog Tryd.f3 false true false false) := by
  obtain ⟨places, hx⟩ := labelNames_reads os enc
  refine Lf.law_laid (C := Tryd.checked) (laid := Lf.doorLaid) (t := 4) Lf.own started (by kernel_rfl) Tryd.func3
    (witness_row_atRef (enc := enc) (C := Tryd.checked) false (World.laidAll Tryd.prog os Lf.doorLaid) #[] (World.laidAll_os _ _ _) (by kernel_rfl) (by kernel_rfl) (by kernel_rfl)
      (OpenSpec.preRow_of_cond 8 hx (by kernel_rfl) (fun k hk => by cases hk) (by kernel_rfl) (Lf.laid_met os _))) Lf.laidOut labelNames_params rfl (by kernel_rfl) Tryd.underlying4 ?_
  intro W base args ds p hval0 hA0 hL
  have hA : DataW.TrodAll enc Tryd.prog W 0 (fun _ => true) true Tryd.f3.params.toList args.toList ds p := hA0
  rw [Tryd.params3] at hA
  obtain ⟨hargs, rfl, rfl⟩ := trodAll_nil hA
  have he : args.toList = [] := hargs
  rw [he]
  exact ⟨rfl, Lf.firebreaklaw01_LabelNames_call (Lf.labelNames_ok (Lf.laid_err hL) fun h' hle => ⟨rfl, hle⟩)⟩

theorem labelNames_said : Rows.LabelNamesSaid :=
  OpenClaim.holds_of_cond 3 Tryd.f3 rfl rfl rfl rfl rfl rfl rfl ⟨rfl, rfl, rfl, rfl, rfl⟩ rfl rfl rfl rfl rfl (by kernel_rfl) Tryd.func3 (by kernel_rfl)
    (of_decide_eq_true (by kernel_rfl)) (by unfold Func.isWrapper; first | (rw [if_pos (by decide +kernel)]; kernel_rfl) | (rw [if_neg (by decide +kernel)]; exact ⟨rfl, rfl⟩))
    (fun os started H enc _ F => by rw [OpenClaim.pre_eq_preRow]; exact labelNames_lifted os started H enc F)

theorem labelNames_plain (f : FuncId) (fn : Func) (hf : Tryd.pinned.checked.prog.funcNamed "firebreak/firebreaklaw01.LabelNames" = some f) (hfn : Tryd.pinned.checked.prog.funcs[f]? = some fn) :
    true = Tryd.pinned.checked.prog.looks [] ∧ ∀ (j : Nat) t, fn.params[j]? = some t → Tryd.pinned.checked.prog.wantsStandIn t = false := by
  obtain rfl : f = 3 := Option.some.inj ((show Tryd.prog.funcNamed "firebreak/firebreaklaw01.LabelNames" = some 3 by kernel_rfl).symm.trans hf) |>.symm
  obtain rfl : fn = Tryd.f3 := (Option.some.inj (Tryd.func3.symm.trans hfn)).symm
  refine ⟨by kernel_rfl, fun j t ht => ?_⟩
  rw [Tryd.params3] at ht
  simp at ht

theorem labelNames_holds : Rows.LabelNamesCardSaid :=
  Claim7.holds_tied_plain_at .later [] _ _ _ _ labelNames_said (fun _ h => by cases h) (by kernel_rfl) (fun _ h => by cases h) labelNames_row_tie rfl ⟨rfl, rfl⟩ (by kernel_rfl) rfl labelNames_plain (by kernel_rfl)

#print axioms labelNames_holds
end Go.Proofs.YtompbjaipbbbhaaDoor
