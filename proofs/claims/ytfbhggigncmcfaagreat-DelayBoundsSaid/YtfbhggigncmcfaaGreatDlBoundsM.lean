/-
  It proves that the law DelayBounds holds of the program: for every config and every list of questions the call returns true, and what was there before is left as it was. There are no conditions.
-/
import Derived.Test.YtfbhggigncmcfaaGreatMgDlBounds4
namespace Go.Proofs.YtfbhggigncmcfaaGreat
open Go.ChangeShapes Go.WideShapes Go.ChangeAt Go.RowKit

theorem own : ownKnob Tryz.prog.godebug = none := by kernel_rfl
theorem laidOut : laidOutB Tryz.prog = true := by kernel_rfl

theorem delayBounds_params : ∀ t ∈ Tryz.f4.params.toList, Tryz.prog.readableRec t = true ∧ t < Tryz.prog.types.size := by
  rw [Tryz.params4]
  intro t ht
  simp at ht
  rcases ht with rfl | rfl <;> exact ⟨by kernel_rfl, of_decide_eq_true (by kernel_rfl)⟩

set_option maxRecDepth 100000 in
theorem delayBounds_lifted (os : Os) (started : os.Started) (H : Type) (enc : TypeId × Value → H) :
    ReturnsInHanded {} Tryz.checked os 4 .any (Rows.delayBoundsSpec.pre6 enc Tryz.prog Tryz.f4 Rows.delayBoundsRow.domain false) (Rows.delayBoundsSpec.post enc Tryz.prog Tryz.f4 false true false false) := by
  refine Lf.pS (C := Tryz.checked) (t := 4) own started (by kernel_rfl) Tryz.func4
    (ChangeSpec.witness6 (enc := enc) (C := Tryz.checked) false ⟨#[], #[.agg #[.slice none 0 0, .slice none 0 0, .int .i64 0, .int .i64 0, .int .i64 0, .int .i64 0, .slice none 0 0], .slice none 0 0], []⟩ 8 (by kernel_rfl) (by kernel_rfl) (by kernel_rfl) (by kernel_rfl)) laidOut delayBounds_params rfl (by kernel_rfl) Tryz.underlying4 ?_
  intro W base args ds p hval0 hA0 hsz0
  have hval : ∀ (j : Nat) t v, Tryz.f4.params[j]? = some t → args[j]? = some v → Value.okWide Tryz.prog W .any base t v := hval0
  have hA : DataW.TrodAll enc Tryz.prog W 0 (fun _ => true) true Tryz.f4.params.toList args.toList ds p := hA0
  have hsz : (DataW.weightsEach Tryz.prog Tryz.f4.params.toList ds).all (· ≤ reachBytes) = true := hsz0
  rw [Tryz.params4] at hA hval hsz
  obtain ⟨v0, vs0, d0, ds0, p0, q0, e0, rfl, _, h0, hA⟩ := trodAll_cons hA
  obtain ⟨v1, vs1, d1, ds1, p1, q1, rfl, rfl, _, h1, hA⟩ := trodAll_cons hA
  obtain ⟨rfl, rfl, _⟩ := trodAll_nil hA
  have hargs : args = #[v0, v1] := by cases args; simp at e0; rw [e0]
  obtain ⟨y, rfl, hy⟩ := Lf.vM h0 (Lf.rH (i := 0) rfl rfl hsz)
  obtain ⟨b, ss, rfl, hb⟩ := Lf.tq (hval 1 51 v1 rfl (by rw [hargs]; rfl)) h1 (Lf.rH (i := 1) rfl rfl hsz)
  obtain ⟨c, cy, tc, lc⟩ := Lf.yR hy
  rw [hargs]
  exact ⟨rfl, Lf.fT (c := y) (Lf.mT cy (Lf.uk tc) lc hb.zr hb.mh (fun z hz => by have := (hb.all z hz).2; omega) fun h' hle => ⟨rfl, hle⟩)⟩

/- What the row says of the program, in parts (in one it takes more than 12 GB). -/
theorem rowIn : (Rows.delayBoundsRow.inPlace == Tryz.prog.inPlace 4) = true := by kernel_rfl
theorem rowUn : (Rows.delayBoundsRow.unfollowed == Tryz.prog.unfollowed 4) = true := by kernel_rfl
theorem rowRe : (Rows.delayBoundsRow.recurses == Tryz.prog.recurses 4) = true := by kernel_rfl
theorem rowNa : (Rows.delayBoundsRow.named == Tryz.prog.varsNamed 4) = true := by kernel_rfl
theorem rowAll : joinedFacts Tryz.prog 4 Tryz.f4 Rows.delayBoundsSpec Rows.delayBoundsRow = true := by
  unfold joinedFacts
  rw [laidOut, rowIn, rowUn, rowRe, rowNa]
  kernel_rfl

theorem delayBounds_holds : Rows.DelayBoundsSaid :=
  OpenClaim.holds_of_wide 4 Tryz.f4 rfl rfl rfl rfl rfl rfl rfl ⟨rfl, rfl, rfl, rfl, rfl⟩ rfl rfl rfl rfl rfl (by kernel_rfl) Tryz.func4 rowAll
    (of_decide_eq_true (by kernel_rfl)) (by unfold Func.isWrapper; first | (rw [if_pos (by decide +kernel)]; kernel_rfl) | (rw [if_neg (by decide +kernel)]; exact ⟨rfl, rfl⟩))
    (fun os started H enc _ => delayBounds_lifted os started H enc)

#print axioms delayBounds_holds
end Go.Proofs.YtfbhggigncmcfaaGreat
