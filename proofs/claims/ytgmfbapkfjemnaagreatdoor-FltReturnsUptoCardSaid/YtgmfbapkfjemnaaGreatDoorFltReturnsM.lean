/-
  It proves that the law FltReturns holds of the program: for every two whole numbers and every text, where what is read is of bulk at most 1048576, the call returns true, where the listed variables of the library hold what its text lays into them. There are no other conditions.
-/
import Derived.Test.YtgmfbapkfjemnaaGreatDoorMgFltReturns5
namespace Go.Proofs.YtgmfbapkfjemnaaGreatDoor
open Go.ChangeShapes Go.WideShapes Go.ChangeAt Go.RowKit
open Go.ChangeMaps (open_string)

theorem fltReturns_params : ∀ t ∈ Tryz.f4.params.toList, Tryz.prog.readableRec t = true ∧ t < Tryz.prog.types.size := by
  rw [Tryz.params4]
  intro t ht
  simp at ht
  rcases ht with rfl | rfl <;> exact ⟨by kernel_rfl, of_decide_eq_true (by kernel_rfl)⟩

set_option maxRecDepth 100000 in
theorem fltReturns_reads (os : Os) {H : Type} (enc : TypeId × Value → H) : ∃ places, DataW.whole enc Tryz.prog ((World.laidAll Tryz.prog os Lf.fltLaid).forCall (fun _ _ => 0) ⟨#[], #[.int .i64 0, .int .i64 0, .string .empty], []⟩).memory Tryz.f4.params.toList Rows.fltReturnsSpec.vars false (#[.int .i64 0, .int .i64 0, .string .empty] : Array Value).toList 8 = some ([.lit (.int .i64 0), .lit (.int .i64 0), .lit (.string [])], [], places) :=
  ⟨[], by kernel_rfl⟩

set_option maxRecDepth 100000 in
theorem fltReturns_lifted (os : Os) (started : os.Started) (H : Type) (enc : TypeId × Value → H) (F : Stop.Interp) :
    ReturnsInHanded {} Tryz.checked os 4 .any ((Rows.OpenSpec.upto Rows.fltReturnsSpec).preRow enc Tryz.prog Tryz.f4 Rows.fltReturnsUptoRow.domain false Rows.fltReturnsUptoRow.laid) (((Rows.OpenSpec.upto Rows.fltReturnsSpec).at F).post enc Tryz.prog Tryz.f4 false true false false) := by
  obtain ⟨places, hx⟩ := fltReturns_reads os enc
  refine Lf.law_laid_upto (C := Tryz.checked) (s := Rows.OpenSpec.upto Rows.fltReturnsSpec) (cs := Rows.fltReturnsSpec) (k := Rows.uptoSmall) rfl rfl rfl (laid := Lf.fltLaid) (t := 4) Lf.own started (by kernel_rfl) Tryz.func4
    (Lf.witness_zip (enc := enc) (C := Tryz.checked) false (World.laidAll Tryz.prog os Lf.fltLaid) #[.int .i64 0, .int .i64 0, .string .empty] (World.laidAll_os _ _ _) (by kernel_rfl) (by kernel_rfl) (by kernel_rfl)
      (OpenSpec.preRow_of_cond 8 hx (by kernel_rfl) (fun k hk => by cases hk; rfl) (by kernel_rfl) (Lf.laid_met os _))) Lf.laidOut fltReturns_params rfl (by kernel_rfl) Tryz.underlying4 ?_
  intro W base args ds p hval0 hA0 hL hB
  have hval : ∀ (j : Nat) t v, Tryz.f4.params[j]? = some t → args[j]? = some v → Value.okWide Tryz.prog W .any base t v := hval0
  have hA : DataW.TrodAll enc Tryz.prog W 0 (fun _ => true) true Tryz.f4.params.toList args.toList ds p := hA0
  rw [Tryz.params4] at hA hval
  obtain ⟨v0, vs0, d0, ds0, p0, q0, ha0, rfl, rfl, h0, r0⟩ := trodAll_cons hA
  obtain ⟨v1, vs1, d1, ds1, p1, q1, ha1, rfl, rfl, h1, r1⟩ := trodAll_cons r0
  obtain ⟨v2, vs2, d2, ds2, p2, q2, ha2, rfl, rfl, h2, r2⟩ := trodAll_cons r1
  obtain ⟨rfl, rfl, rfl⟩ := trodAll_nil r2
  subst ha2
  subst ha1
  obtain rfl : args = #[v0, v1, v2] := by cases args; simp_all
  obtain ⟨x0, rfl, rfl, rfl, w0⟩ := open_int Tryz.underlying2 (hval 0 2 v0 rfl rfl) h0
  obtain ⟨x1, rfl, rfl, rfl, w1⟩ := open_int Tryz.underlying2 (hval 1 2 v1 rfl rfl) h1
  obtain ⟨x2, rfl, rfl, rfl, w2⟩ := open_string Tryz.underlying9 (hval 2 9 v2 rfl rfl) h2
  have hs : x2.size ≤ 281474976710656 := by
    have h1 : Rows.uptoBulkAll [(.lit (.int .i64 x0) : DataW H), .lit (.int .i64 x1), .lit (.string x2.data.toList)] ≤ 1048576 := of_decide_eq_true hB
    simp only [Rows.uptoBulkAll, Rows.uptoBulk, Array.length_toList] at h1
    have h2 : x2.data.size = x2.size := rfl
    omega
  have b0 := Lf.inI_wf w0
  have b1 := Lf.inI_wf w1
  exact ⟨rfl, Lf.firebreaklaw05_FltReturns_call (Lf.fltReturns_ok (Lf.env_laid hL) b0.1 (by have := b0.2; omega) b1.1 (by have := b1.2; omega) hs fun h' hle => ⟨rfl, hle⟩)⟩

theorem fltReturns_said : Rows.FltReturnsUptoSaid :=
  OpenClaim.holds_of_cond 4 Tryz.f4 rfl rfl rfl rfl rfl rfl rfl ⟨rfl, rfl, rfl, rfl, rfl⟩ rfl rfl rfl rfl rfl (by kernel_rfl) Tryz.func4 (by kernel_rfl)
    (of_decide_eq_true (by kernel_rfl)) (by unfold Func.isWrapper; first | (rw [if_pos (by decide +kernel)]; kernel_rfl) | (rw [if_neg (by decide +kernel)]; exact ⟨rfl, rfl⟩))
    (fun os started H enc _ F => by rw [OpenClaim.pre_eq_preRow]; exact fltReturns_lifted os started H enc F)

theorem fltReturns_plain (f : FuncId) (fn : Func) (hf : Tryz.pinned.checked.prog.funcNamed "firebreak/firebreaklaw05.FltReturns" = some f) (hfn : Tryz.pinned.checked.prog.funcs[f]? = some fn) :
    true = Tryz.pinned.checked.prog.looks [] ∧ ∀ (j : Nat) t, fn.params[j]? = some t → Tryz.pinned.checked.prog.wantsStandIn t = false := by
  obtain rfl : f = 4 := Option.some.inj ((show Tryz.prog.funcNamed "firebreak/firebreaklaw05.FltReturns" = some 4 by kernel_rfl).symm.trans hf) |>.symm
  obtain rfl : fn = Tryz.f4 := (Option.some.inj (Tryz.func4.symm.trans hfn)).symm
  refine ⟨by kernel_rfl, fun j t ht => ?_⟩
  rw [Tryz.params4] at ht
  have ht := Array.mem_of_getElem? ht
  simp at ht
  rcases ht with rfl | rfl
  · exact (show Tryz.prog.wantsStandIn 2 = false by kernel_rfl)
  · exact (show Tryz.prog.wantsStandIn 9 = false by kernel_rfl)

theorem fltReturns_holds : Rows.FltReturnsUptoCardSaid :=
  Claim7.holds_tied_plain_at .later [] _ _ _ _ fltReturns_said (fun _ h => by cases h) (by kernel_rfl) (fun _ h => by cases h) fltReturnsUpto_row_tie rfl ⟨rfl, rfl⟩ (by kernel_rfl) rfl fltReturns_plain (by kernel_rfl)

#print axioms fltReturns_holds
end Go.Proofs.YtgmfbapkfjemnaaGreatDoor
