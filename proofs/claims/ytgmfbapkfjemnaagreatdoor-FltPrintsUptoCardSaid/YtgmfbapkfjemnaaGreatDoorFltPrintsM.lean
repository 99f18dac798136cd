/-
  It proves that the law FltPrints holds of the program: for every list of whole numbers and every list of texts, where what is read is of bulk at most 1048576, the call returns true, where the listed variables of the library hold what its text lays into them. There are no other conditions.
-/
import Derived.Test.YtgmfbapkfjemnaaGreatDoorMgFltPrints4
namespace Go.Proofs.YtgmfbapkfjemnaaGreatDoor
open Go.ChangeShapes Go.WideShapes Go.ChangeAt Go.RowKit
open Go.ChangeMaps (open_string)

theorem bulk_each {H : Type} : ∀ (ts : List ByteArray) (s : ByteArray), s ∈ ts → s.size ≤ Rows.uptoBulkAll (ts.map fun s => (.lit (.string s.data.toList) : DataW H))
  | t :: ts, s, hs => by
    have e : t.data.toList.length = t.size := by rw [Array.length_toList]; rfl
    rw [List.map_cons]
    simp only [Rows.uptoBulkAll, Rows.uptoBulk]
    rcases List.mem_cons.1 hs with rfl | hs
    · omega
    · have := bulk_each (H := H) ts s hs
      omega

theorem fltPrints_params : ∀ t ∈ Tryz.f3.params.toList, Tryz.prog.readableRec t = true ∧ t < Tryz.prog.types.size := by
  rw [Tryz.params3]
  intro t ht
  simp at ht
  rcases ht with rfl | rfl <;> exact ⟨by kernel_rfl, of_decide_eq_true (by kernel_rfl)⟩

set_option maxRecDepth 100000 in
theorem fltPrints_reads (os : Os) {H : Type} (enc : TypeId × Value → H) : ∃ places, DataW.whole enc Tryz.prog ((World.laidAll Tryz.prog os Lf.fltLaid).forCall (fun _ _ => 0) ⟨#[], #[.slice none 0 0, .slice none 0 0], []⟩).memory Tryz.f3.params.toList Rows.fltPrintsSpec.vars false (#[.slice none 0 0, .slice none 0 0] : Array Value).toList 8 = some ([.nil, .nil], [], places) :=
  ⟨[], by kernel_rfl⟩

set_option maxRecDepth 100000 in
theorem fltPrints_lifted (os : Os) (started : os.Started) (H : Type) (enc : TypeId × Value → H) (F : Stop.Interp) :
    ReturnsInHanded {} Tryz.checked os 3 .any ((Rows.OpenSpec.upto Rows.fltPrintsSpec).preRow enc Tryz.prog Tryz.f3 Rows.fltPrintsUptoRow.domain false Rows.fltPrintsUptoRow.laid) (((Rows.OpenSpec.upto Rows.fltPrintsSpec).at F).post enc Tryz.prog Tryz.f3 false true false false) := by
  obtain ⟨places, hx⟩ := fltPrints_reads os enc
  refine Lf.law_laid_upto (C := Tryz.checked) (s := Rows.OpenSpec.upto Rows.fltPrintsSpec) (cs := Rows.fltPrintsSpec) (k := Rows.uptoSmall) rfl rfl rfl (laid := Lf.fltLaid) (t := 4) Lf.own started (by kernel_rfl) Tryz.func3
    (Lf.witness_zip (enc := enc) (C := Tryz.checked) false (World.laidAll Tryz.prog os Lf.fltLaid) #[.slice none 0 0, .slice none 0 0] (World.laidAll_os _ _ _) (by kernel_rfl) (by kernel_rfl) (by kernel_rfl)
      (OpenSpec.preRow_of_cond 8 hx (by kernel_rfl) (fun k hk => by cases hk; rfl) (by kernel_rfl) (Lf.laid_met os _))) Lf.laidOut fltPrints_params rfl (by kernel_rfl) Tryz.underlying4 ?_
  intro W base args ds p hval0 hA0 hL hB
  have hval : ∀ (j : Nat) t v, Tryz.f3.params[j]? = some t → args[j]? = some v → Value.okWide Tryz.prog W .any base t v := hval0
  have hA : DataW.TrodAll enc Tryz.prog W 0 (fun _ => true) true Tryz.f3.params.toList args.toList ds p := hA0
  rw [Tryz.params3] at hA hval
  obtain ⟨v0, v1, d0, d1, p0, p1, rfl, rfl, rfl, h0, h1⟩ := trodAll_two hA
  obtain ⟨l0, xs0, rfl, r0, c0, m0, w0⟩ := Lf.ints_in Tryz.underlying22 Tryz.underlying2 (by kernel_rfl) (hval 0 22 v0 rfl rfl) h0
  obtain ⟨l1, ts, rfl, r1, m1, k1⟩ := Lf.strs_in Tryz.underlying23 Tryz.underlying9 (by kernel_rfl) (hval 1 23 v1 rfl rfl) h1
  have hs : ∀ s ∈ ts, s.size ≤ 281474976710656 := by
    intro s hs
    rcases k1 with rfl | ⟨sp, rfl⟩
    · cases hs
    · have b1 : Rows.uptoBulkAll [d0, .slice (ts.map fun s => .lit (.string s.data.toList)) sp] ≤ 1048576 := of_decide_eq_true hB
      have b2 := bulk_each (H := H) ts s hs
      simp only [Rows.uptoBulkAll, Rows.uptoBulk] at b1
      omega
  exact ⟨rfl, Lf.firebreaklaw05_FltPrints_call (Lf.fltPrints_ok (Lf.env_laid hL) r0 (by omega) (fun x hx => by have := Lf.inI_wf (w0 x hx); exact ⟨this.1, by have := this.2; omega⟩) r1 m1 hs fun h' hle => ⟨rfl, hle⟩)⟩

theorem fltPrints_said : Rows.FltPrintsUptoSaid :=
  OpenClaim.holds_of_cond 3 Tryz.f3 rfl rfl rfl rfl rfl rfl rfl ⟨rfl, rfl, rfl, rfl, rfl⟩ rfl rfl rfl rfl rfl (by kernel_rfl) Tryz.func3 (by kernel_rfl)
    (of_decide_eq_true (by kernel_rfl)) (by unfold Func.isWrapper; first | (rw [if_pos (by decide +kernel)]; kernel_rfl) | (rw [if_neg (by decide +kernel)]; exact ⟨rfl, rfl⟩))
    (fun os started H enc _ F => by rw [OpenClaim.pre_eq_preRow]; exact fltPrints_lifted os started H enc F)

theorem fltPrints_plain (f : FuncId) (fn : Func) (hf : Tryz.pinned.checked.prog.funcNamed "firebreak/firebreaklaw05.FltPrints" = some f) (hfn : Tryz.pinned.checked.prog.funcs[f]? = some fn) :
    true = Tryz.pinned.checked.prog.looks [] ∧ ∀ (j : Nat) t, fn.params[j]? = some t → Tryz.pinned.checked.prog.wantsStandIn t = false := by
  obtain rfl : f = 3 := Option.some.inj ((show Tryz.prog.funcNamed "firebreak/firebreaklaw05.FltPrints" = some 3 by kernel_rfl).symm.trans hf) |>.symm
  obtain rfl : fn = Tryz.f3 := (Option.some.inj (Tryz.func3.symm.trans hfn)).symm
  refine ⟨by kernel_rfl, fun j t ht => ?_⟩
  rw [Tryz.params3] at ht
  have ht := Array.mem_of_getElem? ht
  simp at ht
  rcases ht with rfl | rfl
  · exact (show Tryz.prog.wantsStandIn 22 = false by kernel_rfl)
  · exact (show Tryz.prog.wantsStandIn 23 = false by kernel_rfl)

theorem fltPrints_holds : Rows.FltPrintsUptoCardSaid :=
  Claim7.holds_tied_plain_at .later [] _ _ _ _ fltPrints_said (fun _ h => by cases h) (by kernel_rfl) (fun _ h => by cases h) fltPrintsUpto_row_tie rfl ⟨rfl, rfl⟩ (by kernel_rfl) rfl fltPrints_plain (by kernel_rfl)

#print axioms fltPrints_holds
end Go.Proofs.YtgmfbapkfjemnaaGreatDoor
