/-
  It proves that the law LabelReturns holds of the program: for every two labels, every text and every number the call returns true, where the listed variables of the library hold what its text lays into them. There are no conditions.
-/
import Derived.Test.YtompbjaipbbbhaaDoorMgDoReturns2
namespace Go.Proofs.YtompbjaipbbbhaaDoor
open Go.ChangeShapes Go.WideShapes Go.ChangeAt Go.RowKit
open Go.ChangeMaps (open_string)

theorem labelReturns_params : ∀ t ∈ Tryd.f7.params.toList, Tryd.prog.readableRec t = true ∧ t < Tryd.prog.types.size := by
  rw [Tryd.params7]
  intro t ht
  simp at ht
  rcases ht with rfl | rfl | rfl <;> exact ⟨by kernel_rfl, of_decide_eq_true (by kernel_rfl)⟩

set_option maxRecDepth 100000 in
theorem labelReturns_reads (os : Os) {H : Type} (enc : TypeId × Value → H) : ∃ places, DataW.whole enc Tryd.prog ((World.laidAll Tryd.prog os Lf.doorLaid).forCall (fun _ _ => 0) ⟨#[], #[.int .u64 0, .int .u64 0, .string .empty, .int .i64 0], []⟩).memory Tryd.f7.params.toList Rows.labelReturnsSpec.vars false (#[.int .u64 0, .int .u64 0, .string .empty, .int .i64 0] : Array Value).toList 8 = some ([.lit (.int .u64 0), .lit (.int .u64 0), .lit (.string []), .lit (.int .i64 0)], [], places) :=
  ⟨[], by kernel_rfl⟩

set_option maxRecDepth 100000 in
theorem labelReturns_lifted (os : Os) (started : os.Started) (H : Type) (enc : TypeId × Value → H) (F : Stop.Interp) :
    ReturnsInHanded {} Tryd.checked os 7 .any ((OpenSpec.ofChange Rows.labelReturnsSpec).preRow enc Tryd.prog Tryd.f7 Rows.labelReturnsRow.domain false Rows.labelReturnsRow.laid) (((OpenSpec.ofChange Rows.labelReturnsSpec).at F).post enc Tryd.prog Tryd.f7 false true false false) := by
  obtain ⟨places, hx⟩ := labelReturns_reads os enc
  refine Lf.law_laid (C := Tryd.checked) (laid := Lf.doorLaid) (t := 4) Lf.own started (by kernel_rfl) Tryd.func7
    (witness_row_atRef (enc := enc) (C := Tryd.checked) false (World.laidAll Tryd.prog os Lf.doorLaid) #[.int .u64 0, .int .u64 0, .string .empty, .int .i64 0] (World.laidAll_os _ _ _) (by kernel_rfl) (by kernel_rfl) (by kernel_rfl)
      (OpenSpec.preRow_of_cond 8 hx (by kernel_rfl) (fun k hk => by cases hk) (by kernel_rfl) (Lf.laid_met os _))) Lf.laidOut labelReturns_params rfl (by kernel_rfl) Tryd.underlying4 ?_
  intro W base args ds p hval0 hA0 hL
  have hval : ∀ (j : Nat) t v, Tryd.f7.params[j]? = some t → args[j]? = some v → Value.okWide Tryd.prog W .any base t v := hval0
  have hA : DataW.TrodAll enc Tryd.prog W 0 (fun _ => true) true Tryd.f7.params.toList args.toList ds p := hA0
  rw [Tryd.params7] at hA hval
  obtain ⟨v0, vs0, d0, ds0, p0, q0, ha0, rfl, rfl, h0, r0⟩ := trodAll_cons hA
  obtain ⟨v1, vs1, d1, ds1, p1, q1, ha1, rfl, rfl, h1, r1⟩ := trodAll_cons r0
  obtain ⟨v2, vs2, d2, ds2, p2, q2, ha2, rfl, rfl, h2, r2⟩ := trodAll_cons r1
  obtain ⟨v3, vs3, d3, ds3, p3, q3, ha3, rfl, rfl, h3, r3⟩ := trodAll_cons r2
  obtain ⟨rfl, rfl, rfl⟩ := trodAll_nil r3
  subst ha3
  subst ha2
  subst ha1
  obtain rfl : args = #[v0, v1, v2, v3] := by cases args; simp_all
  obtain ⟨x0, rfl, rfl, rfl, w0⟩ := open_int Tryd.underlying23 (hval 0 23 v0 rfl rfl) h0
  obtain ⟨x1, rfl, rfl, rfl, w1⟩ := open_int Tryd.underlying23 (hval 1 23 v1 rfl rfl) h1
  obtain ⟨x2, rfl, rfl, rfl, w2⟩ := open_string Tryd.underlying9 (hval 2 9 v2 rfl rfl) h2
  obtain ⟨x3, rfl, rfl, rfl, w3⟩ := open_int Tryd.underlying3 (hval 3 3 v3 rfl rfl) h3
  exact ⟨rfl, Lf.firebreaklaw01_LabelReturns_call (Lf.labelReturns_ok (Lf.laid_err hL) (Lf.inU_wf w0) (Lf.inU_wf w1) (Nat.le_trans w2 (by decide))  fun h' hle => ⟨rfl, hle⟩)⟩

theorem labelReturns_said : Rows.LabelReturnsSaid :=
  OpenClaim.holds_of_cond 7 Tryd.f7 rfl rfl rfl rfl rfl rfl rfl ⟨rfl, rfl, rfl, rfl, rfl⟩ rfl rfl rfl rfl rfl (by kernel_rfl) Tryd.func7 (by kernel_rfl)
    (of_decide_eq_true (by kernel_rfl)) (by unfold Func.isWrapper; first | (rw [if_pos (by decide +kernel)]; kernel_rfl) | (rw [if_neg (by decide +kernel)]; exact ⟨rfl, rfl⟩))
    (fun os started H enc _ F => by rw [OpenClaim.pre_eq_preRow]; exact labelReturns_lifted os started H enc F)

theorem labelReturns_plain (f : FuncId) (fn : Func) (hf : Tryd.pinned.checked.prog.funcNamed "firebreak/firebreaklaw01.LabelReturns" = some f) (hfn : Tryd.pinned.checked.prog.funcs[f]? = some fn) :
    true = Tryd.pinned.checked.prog.looks [] ∧ ∀ (j : Nat) t, fn.params[j]? = some t → Tryd.pinned.checked.prog.wantsStandIn t = false := by
  obtain rfl : f = 7 := Option.some.inj ((show Tryd.prog.funcNamed "firebreak/firebreaklaw01.LabelReturns" = some 7 by kernel_rfl).symm.trans hf) |>.symm
  obtain rfl : fn = Tryd.f7 := (Option.some.inj (Tryd.func7.symm.trans hfn)).symm
  refine ⟨by kernel_rfl, fun j t ht => ?_⟩
  rw [Tryd.params7] at ht
  have ht := Array.mem_of_getElem? ht
  simp at ht
  rcases ht with rfl | rfl | rfl <;> first | exact (show Tryd.prog.wantsStandIn 3 = false by kernel_rfl) | exact (show Tryd.prog.wantsStandIn 9 = false by kernel_rfl) | exact (show Tryd.prog.wantsStandIn 23 = false by kernel_rfl)

theorem labelReturns_holds : Rows.LabelReturnsCardSaid :=
  Claim7.holds_tied_plain_at .later [] _ _ _ _ labelReturns_said (fun _ h => by cases h) (by kernel_rfl) (fun _ h => by cases h) labelReturns_row_tie rfl ⟨rfl, rfl⟩ (by kernel_rfl) rfl labelReturns_plain (by kernel_rfl)

#print axioms labelReturns_holds
end Go.Proofs.YtompbjaipbbbhaaDoor
