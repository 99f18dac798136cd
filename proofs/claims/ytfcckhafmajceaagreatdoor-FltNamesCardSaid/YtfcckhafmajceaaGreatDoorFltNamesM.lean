/-
  It proves that the law FltNames holds of the program: the call returns true, whatever else is in memory, where the listed variables of the library hold what its text lays into them. There are no conditions.
-/
import Derived.Test.YtfcckhafmajceaaGreatDoorMgFltNames4
set_option autoImplicit false
namespace Go.Proofs.YtfcckhafmajceaaGreatDoor
open Go.ChangeShapes Go.WideShapes Go.ChangeAt Go.RowKit

theorem fltNames_params : ∀ t ∈ Tryz.f3.params.toList, Tryz.prog.readableRec t = true ∧ t < Tryz.prog.types.size := by
  rw [Tryz.params3]
  intro t ht
  simp at ht

set_option maxRecDepth 100000 in
theorem fltNames_reads (os : Os) {H : Type} (enc : TypeId × Value → H) : ∃ places, DataW.whole enc Tryz.prog ((World.laidAll Tryz.prog os Lf.fltLaid).forCall (fun _ _ => 0) ⟨#[], #[], []⟩).memory Tryz.f3.params.toList Rows.fltNamesSpec.vars false (#[] : Array Value).toList 8 = some ([], [], places) :=
  ⟨[], by kernel_rfl⟩

set_option maxRecDepth 100000 in
theorem fltNames_lifted (os : Os) (started : os.Started) (H : Type) (enc : TypeId × Value → H) (F : Stop.Interp) :
    ReturnsInHanded {} Tryz.checked os 3 .any ((OpenSpec.ofChange Rows.fltNamesSpec).preRow enc Tryz.prog Tryz.f3 Rows.fltNamesRow.domain false Rows.fltNamesRow.laid) (((OpenSpec.ofChange Rows.fltNamesSpec).at F).post enc Tryz.prog Tryz.f3 false true false false) := by
  obtain ⟨places, hx⟩ := fltNames_reads os enc
  refine Lf.law_laid (C := Tryz.checked) (laid := Lf.fltLaid) (t := 4) Lf.own started (by kernel_rfl) Tryz.func3
    (Lf.witness_zip (enc := enc) (C := Tryz.checked) false (World.laidAll Tryz.prog os Lf.fltLaid) #[] (World.laidAll_os _ _ _) (by kernel_rfl) (by kernel_rfl) (by kernel_rfl)
      (OpenSpec.preRow_of_cond 8 hx (by kernel_rfl) (fun k hk => by cases hk) (by kernel_rfl) (Lf.laid_met os _))) Lf.laidOut fltNames_params rfl (by kernel_rfl) Tryz.underlying4 ?_
  intro W base args ds p hval0 hA0 hL
  have hA : DataW.TrodAll enc Tryz.prog W 0 (fun _ => true) true Tryz.f3.params.toList args.toList ds p := hA0
  rw [Tryz.params3] at hA
  obtain ⟨hargs, rfl, rfl⟩ := trodAll_nil hA
  have he : args.toList = [] := hargs
  rw [he]
  exact ⟨rfl, Lf.firebreaklaw05_FltNames_call (Lf.fltNames_ok (Lf.env_laid hL) fun h' hle => ⟨rfl, hle⟩)⟩

theorem fltNames_said : Rows.FltNamesSaid :=
  OpenClaim.holds_of_cond 3 Tryz.f3 rfl rfl rfl rfl rfl rfl rfl ⟨rfl, rfl, rfl, rfl, rfl⟩ rfl rfl rfl rfl rfl (by kernel_rfl) Tryz.func3 (by kernel_rfl)
    (of_decide_eq_true (by kernel_rfl)) (by unfold Func.isWrapper; first | (rw [if_pos (by decide +kernel)]; kernel_rfl) | (rw [if_neg (by decide +kernel)]; exact ⟨rfl, rfl⟩))
    (fun os started H enc _ F => by rw [OpenClaim.pre_eq_preRow]; exact fltNames_lifted os started H enc F)

theorem fltNames_plain (f : FuncId) (fn : Func) (hf : Tryz.pinned.checked.prog.funcNamed "firebreak/firebreaklaw05.FltNames" = some f) (hfn : Tryz.pinned.checked.prog.funcs[f]? = some fn) :
    true = Tryz.pinned.checked.prog.looks [] ∧ ∀ (j : Nat) t, fn.params[j]? = some t → Tryz.pinned.checked.prog.wantsStandIn t = false := by
  obtain rfl : f = 3 := Option.some.inj ((show Tryz.prog.funcNamed "firebreak/firebreaklaw05.FltNames" = some 3 by kernel_rfl).symm.trans hf) |>.symm
  obtain rfl : fn = Tryz.f3 := (Option.some.inj (Tryz.func3.symm.trans hfn)).symm
  refine ⟨by kernel_rfl, fun j t ht => ?_⟩
  rw [Tryz.params3] at ht
  simp at ht

theorem fltNames_holds : Rows.FltNamesCardSaid :=
  Claim7.holds_tied_plain_at .later [] _ _ _ _ fltNames_said (fun _ h => by cases h) (by kernel_rfl) (fun _ h => by cases h) fltNames_row_tie rfl ⟨rfl, rfl⟩ (by kernel_rfl) rfl fltNames_plain (by kernel_rfl)

#print axioms fltNames_holds
end Go.Proofs.YtfcckhafmajceaaGreatDoor
