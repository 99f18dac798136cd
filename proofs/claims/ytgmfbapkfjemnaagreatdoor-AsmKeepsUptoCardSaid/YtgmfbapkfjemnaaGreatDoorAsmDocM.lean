/-
  Of programs as texts: AsmReads and AsmKeeps, in one text, so that two claims share what they lean on.
-/
import Derived.Test.YtgmfbapkfjemnaaGreatDoorMgAsmDoc5
namespace Go.Proofs.YtgmfbapkfjemnaaGreatDoor
open Go.ChangeShapes Go.WideShapes Go.ChangeAt Go.RowKit
open Go.ChangeMaps (open_string)

theorem asmReads_params : ∀ t ∈ Tryz.f7.params.toList, Tryz.prog.readableRec t = true ∧ t < Tryz.prog.types.size := by
  rw [Tryz.params7]
  intro t ht
  simp at ht
  rcases ht with rfl <;> exact ⟨by kernel_rfl, of_decide_eq_true (by kernel_rfl)⟩

set_option maxRecDepth 100000 in
theorem asmReads_reads (os : Os) {H : Type} (enc : TypeId × Value → H) : ∃ places, DataW.whole enc Tryz.prog ((World.laidAll Tryz.prog os Lf.fltLaid).forCall (fun _ _ => 0) ⟨#[], #[.string .empty], []⟩).memory Tryz.f7.params.toList Rows.asmReadsSpec.vars false (#[.string .empty] : Array Value).toList 8 = some ([.lit (.string [])], [], places) :=
  ⟨[], by kernel_rfl⟩

set_option maxRecDepth 100000 in
theorem asmReads_lifted (os : Os) (started : os.Started) (H : Type) (enc : TypeId × Value → H) (F : Stop.Interp) :
    ReturnsInHanded {} Tryz.checked os 7 .any ((Rows.OpenSpec.upto Rows.asmReadsSpec).preRow enc Tryz.prog Tryz.f7 Rows.asmReadsUptoRow.domain false Rows.asmReadsUptoRow.laid) (((Rows.OpenSpec.upto Rows.asmReadsSpec).at F).post enc Tryz.prog Tryz.f7 false true false false) := by
  obtain ⟨places, hx⟩ := asmReads_reads os enc
  refine Lf.law_laid_upto (C := Tryz.checked) (s := Rows.OpenSpec.upto Rows.asmReadsSpec) (cs := Rows.asmReadsSpec) (k := Rows.uptoSmall) rfl rfl rfl (laid := Lf.fltLaid) (t := 4) Lf.own started (by kernel_rfl) Tryz.func7
    (Lf.witness_zip (enc := enc) (C := Tryz.checked) false (World.laidAll Tryz.prog os Lf.fltLaid) #[.string .empty] (World.laidAll_os _ _ _) (by kernel_rfl) (by kernel_rfl) (by kernel_rfl)
      (OpenSpec.preRow_of_cond 8 hx (by kernel_rfl) (fun k hk => by cases hk; rfl) (by kernel_rfl) (Lf.laid_met os _))) Lf.laidOut asmReads_params rfl (by kernel_rfl) Tryz.underlying4 ?_
  intro W base args ds p hval0 hA0 hL hB
  have hval : ∀ (j : Nat) t v, Tryz.f7.params[j]? = some t → args[j]? = some v → Value.okWide Tryz.prog W .any base t v := hval0
  have hA : DataW.TrodAll enc Tryz.prog W 0 (fun _ => true) true Tryz.f7.params.toList args.toList ds p := hA0
  rw [Tryz.params7] at hA hval
  obtain ⟨v0, vs0, d0, ds0, p0, q0, ha0, rfl, rfl, h0, r0⟩ := trodAll_cons hA
  obtain ⟨rfl, rfl, rfl⟩ := trodAll_nil r0
  obtain rfl : args = #[v0] := by cases args; simp_all
  obtain ⟨t0, rfl, rfl, rfl, w0⟩ := open_string Tryz.underlying9 (hval 0 9 v0 rfl rfl) h0
  have s0 : t0.size ≤ 281474976710656 := by
    have b1 : Rows.uptoBulkAll [.lit (.string t0.data.toList)] ≤ 1048576 := of_decide_eq_true hB
    have e : t0.data.toList.length = t0.size := by rw [Array.length_toList]; rfl
    simp only [Rows.uptoBulkAll, Rows.uptoBulk] at b1
    omega
  exact ⟨rfl, Lf.firebreaklaw07_AsmReads_call (Lf.asmReads_ok (Lf.env_laid hL) s0 fun h' hle => ⟨rfl, hle⟩)⟩

theorem asmReads_said : Rows.AsmReadsUptoSaid :=
  OpenClaim.holds_of_cond 7 Tryz.f7 rfl rfl rfl rfl rfl rfl rfl ⟨rfl, rfl, rfl, rfl, rfl⟩ rfl rfl rfl rfl rfl (by kernel_rfl) Tryz.func7 (by kernel_rfl)
    (of_decide_eq_true (by kernel_rfl)) (by unfold Func.isWrapper; first | (rw [if_pos (by decide +kernel)]; kernel_rfl) | (rw [if_neg (by decide +kernel)]; exact ⟨rfl, rfl⟩))
    (fun os started H enc _ F => by rw [OpenClaim.pre_eq_preRow]; exact asmReads_lifted os started H enc F)

theorem asmReads_plain (f : FuncId) (fn : Func) (hf : Tryz.pinned.checked.prog.funcNamed "firebreak/firebreaklaw07.AsmReads" = some f) (hfn : Tryz.pinned.checked.prog.funcs[f]? = some fn) :
    true = Tryz.pinned.checked.prog.looks [] ∧ ∀ (j : Nat) t, fn.params[j]? = some t → Tryz.pinned.checked.prog.wantsStandIn t = false := by
  obtain rfl : f = 7 := Option.some.inj ((show Tryz.prog.funcNamed "firebreak/firebreaklaw07.AsmReads" = some 7 by kernel_rfl).symm.trans hf) |>.symm
  obtain rfl : fn = Tryz.f7 := (Option.some.inj (Tryz.func7.symm.trans hfn)).symm
  refine ⟨by kernel_rfl, fun j t ht => ?_⟩
  rw [Tryz.params7] at ht
  have ht := Array.mem_of_getElem? ht
  simp at ht
  rcases ht with rfl
  exact (show Tryz.prog.wantsStandIn 9 = false by kernel_rfl)

theorem asmReads_holds : Rows.AsmReadsUptoCardSaid :=
  Claim7.holds_tied_plain_at .later [] _ _ _ _ asmReads_said (fun _ h => by cases h) (by kernel_rfl) (fun _ h => by cases h) asmReadsUpto_row_tie rfl ⟨rfl, rfl⟩ (by kernel_rfl) rfl asmReads_plain (by kernel_rfl)

theorem asmKeeps_params : ∀ t ∈ Tryz.f10.params.toList, Tryz.prog.readableRec t = true ∧ t < Tryz.prog.types.size := by
  rw [Tryz.params10]
  intro t ht
  simp at ht
  rcases ht with rfl | rfl <;> exact ⟨by kernel_rfl, of_decide_eq_true (by kernel_rfl)⟩

set_option maxRecDepth 100000 in
theorem asmKeeps_reads (os : Os) {H : Type} (enc : TypeId × Value → H) : ∃ places, DataW.whole enc Tryz.prog ((World.laidAll Tryz.prog os Lf.fltLaid).forCall (fun _ _ => 0) ⟨#[], #[.slice none 0 0, .string .empty], []⟩).memory Tryz.f10.params.toList Rows.asmKeepsSpec.vars false (#[.slice none 0 0, .string .empty] : Array Value).toList 8 = some ([.nil, .lit (.string [])], [], places) :=
  ⟨[], by kernel_rfl⟩

set_option maxRecDepth 100000 in
theorem asmKeeps_lifted (os : Os) (started : os.Started) (H : Type) (enc : TypeId × Value → H) (F : Stop.Interp) :
    ReturnsInHanded {} Tryz.checked os 10 .any ((Rows.OpenSpec.upto Rows.asmKeepsSpec).preRow enc Tryz.prog Tryz.f10 Rows.asmKeepsUptoRow.domain false Rows.asmKeepsUptoRow.laid) (((Rows.OpenSpec.upto Rows.asmKeepsSpec).at F).post enc Tryz.prog Tryz.f10 false true false false) := by
  obtain ⟨places, hx⟩ := asmKeeps_reads os enc
  refine Lf.law_laid_upto (C := Tryz.checked) (s := Rows.OpenSpec.upto Rows.asmKeepsSpec) (cs := Rows.asmKeepsSpec) (k := Rows.uptoSmall) rfl rfl rfl (laid := Lf.fltLaid) (t := 4) Lf.own started (by kernel_rfl) Tryz.func10
    (Lf.witness_zip (enc := enc) (C := Tryz.checked) false (World.laidAll Tryz.prog os Lf.fltLaid) #[.slice none 0 0, .string .empty] (World.laidAll_os _ _ _) (by kernel_rfl) (by kernel_rfl) (by kernel_rfl)
      (OpenSpec.preRow_of_cond 8 hx (by kernel_rfl) (fun k hk => by cases hk; rfl) (by kernel_rfl) (Lf.laid_met os _))) Lf.laidOut asmKeeps_params rfl (by kernel_rfl) Tryz.underlying4 ?_
  intro W base args ds p hval0 hA0 hL hB
  have hval : ∀ (j : Nat) t v, Tryz.f10.params[j]? = some t → args[j]? = some v → Value.okWide Tryz.prog W .any base t v := hval0
  have hA : DataW.TrodAll enc Tryz.prog W 0 (fun _ => true) true Tryz.f10.params.toList args.toList ds p := hA0
  rw [Tryz.params10] at hA hval
  obtain ⟨v0, vs0, d0, ds0, p0, q0, ha0, rfl, rfl, h0, rr0⟩ := trodAll_cons hA
  obtain ⟨v1, vs1, d1, ds1, p1, q1, ha1, rfl, rfl, h1, rr1⟩ := trodAll_cons rr0
  obtain ⟨rfl, rfl, rfl⟩ := trodAll_nil rr1
  subst ha1
  obtain rfl : args = #[v0, v1] := by cases args; simp_all
  obtain ⟨l0, xs0, rfl, r0, c0, i0, z0⟩ := Lf.ins_in (hval 0 31 v0 rfl rfl) h0
  obtain ⟨t1, rfl, rfl, rfl, w1⟩ := open_string Tryz.underlying9 (hval 1 9 v1 rfl rfl) h1
  have s1 : t1.size ≤ 281474976710656 := by
    have b1 : Rows.uptoBulkAll [d0, .lit (.string t1.data.toList)] ≤ 1048576 := of_decide_eq_true hB
    have e : t1.data.toList.length = t1.size := by rw [Array.length_toList]; rfl
    simp only [Rows.uptoBulkAll, Rows.uptoBulk] at b1
    omega
  exact ⟨rfl, Lf.firebreaklaw07_AsmKeeps_call (Lf.asmKeeps_ok (Lf.env_laid hL) r0 c0 i0 s1 fun h' hle => ⟨rfl, hle⟩)⟩

theorem asmKeeps_said : Rows.AsmKeepsUptoSaid :=
  OpenClaim.holds_of_cond 10 Tryz.f10 rfl rfl rfl rfl rfl rfl rfl ⟨rfl, rfl, rfl, rfl, rfl⟩ rfl rfl rfl rfl rfl (by kernel_rfl) Tryz.func10 (by kernel_rfl)
    (of_decide_eq_true (by kernel_rfl)) (by unfold Func.isWrapper; first | (rw [if_pos (by decide +kernel)]; kernel_rfl) | (rw [if_neg (by decide +kernel)]; exact ⟨rfl, rfl⟩))
    (fun os started H enc _ F => by rw [OpenClaim.pre_eq_preRow]; exact asmKeeps_lifted os started H enc F)

theorem asmKeeps_plain (f : FuncId) (fn : Func) (hf : Tryz.pinned.checked.prog.funcNamed "firebreak/firebreaklaw07.AsmKeeps" = some f) (hfn : Tryz.pinned.checked.prog.funcs[f]? = some fn) :
    true = Tryz.pinned.checked.prog.looks [] ∧ ∀ (j : Nat) t, fn.params[j]? = some t → Tryz.pinned.checked.prog.wantsStandIn t = false := by
  obtain rfl : f = 10 := Option.some.inj ((show Tryz.prog.funcNamed "firebreak/firebreaklaw07.AsmKeeps" = some 10 by kernel_rfl).symm.trans hf) |>.symm
  obtain rfl : fn = Tryz.f10 := (Option.some.inj (Tryz.func10.symm.trans hfn)).symm
  refine ⟨by kernel_rfl, fun j t ht => ?_⟩
  rw [Tryz.params10] at ht
  have ht := Array.mem_of_getElem? ht
  simp at ht
  rcases ht with rfl | rfl
  · exact (show Tryz.prog.wantsStandIn 31 = false by kernel_rfl)
  · exact (show Tryz.prog.wantsStandIn 9 = false by kernel_rfl)

theorem asmKeeps_holds : Rows.AsmKeepsUptoCardSaid :=
  Claim7.holds_tied_plain_at .later [] _ _ _ _ asmKeeps_said (fun _ h => by cases h) (by kernel_rfl) (fun _ h => by cases h) asmKeepsUpto_row_tie rfl ⟨rfl, rfl⟩ (by kernel_rfl) rfl asmKeeps_plain (by kernel_rfl)

end Go.Proofs.YtgmfbapkfjemnaaGreatDoor
