/-
  It proves that the law TopUnheard holds of the program: for every pair of configs, scripts and label the call returns true, and what was there before is left as it was. There are no conditions.
-/
import Derived.Test.YtfbhggigncmcfaaGreatMgTpTop5
namespace Go.Proofs.YtfbhggigncmcfaaGreat
open Go.ChangeShapes Go.WideShapes Go.ChangeAt Go.RowKit

theorem own : ownKnob Tryz.prog.godebug = none := by kernel_rfl
theorem laidOut : laidOutB Tryz.prog = true := by kernel_rfl

theorem topUnheard_params : ∀ t ∈ Tryz.f3.params.toList, Tryz.prog.readableRec t = true ∧ t < Tryz.prog.types.size := by
  rw [Tryz.params3]
  intro t ht
  simp at ht
  subst ht
  exact ⟨by kernel_rfl, of_decide_eq_true (by kernel_rfl)⟩

set_option maxRecDepth 100000 in
theorem topUnheard_lifted (os : Os) (started : os.Started) (H : Type) (enc : TypeId × Value → H) :
    ReturnsInHanded {} Tryz.checked os 3 .any (Rows.topUnheardSpec.pre6 enc Tryz.prog Tryz.f3 Rows.topUnheardRow.domain false) (Rows.topUnheardSpec.post enc Tryz.prog Tryz.f3 false true false false) := by
  refine Lf.rL (C := Tryz.checked) (t := 4) own started (by kernel_rfl) Tryz.func3
    (ChangeSpec.witness6 (enc := enc) (C := Tryz.checked) false ⟨#[], #[.agg #[.slice none 0 0, .slice none 0 0, .int .i64 0, .int .i64 0, .int .i64 0, .int .i64 0, .slice none 0 0, .slice none 0 0, .slice none 0 0, .int .i64 0, .int .i64 0, .int .i64 0, .int .i64 0, .slice none 0 0, .slice none 0 0, .slice none 0 0, .int .u64 0]], []⟩ 8 (by kernel_rfl) (by kernel_rfl) (by kernel_rfl) (by kernel_rfl)) laidOut topUnheard_params rfl (by kernel_rfl) Tryz.underlying4 ?_
  intro W base args ds p hval0 hA0 hsz0
  have hA : DataW.TrodAll enc Tryz.prog W 0 (fun _ => true) true Tryz.f3.params.toList args.toList ds p := hA0
  have hsz : (DataW.weightsEach Tryz.prog Tryz.f3.params.toList ds).all (· ≤ reachBytes) = true := hsz0
  rw [Tryz.params3] at hA hsz
  obtain ⟨v0, vs0, d0, ds0, p0, q0, e0, rfl, _, h0, hA⟩ := trodAll_cons hA
  obtain ⟨rfl, rfl, _⟩ := trodAll_nil hA
  have hargs : args = #[v0] := by cases args; simp at e0; rw [e0]
  obtain ⟨t, A, B, S, T, rfl, k0, tA, tB⟩ := Lf.sD h0 (Lf.wA (i := 0) rfl rfl hsz)
  rw [hargs]
  exact ⟨rfl, Lf.iy (Lf.pR k0 tA tB fun h' hle => ⟨rfl, hle⟩)⟩

/- What the row says of the program, in parts (in one it takes more than 12 GB). -/
theorem rowIn : (Rows.topUnheardRow.inPlace == Tryz.prog.inPlace 3) = true := by kernel_rfl
theorem rowUn : (Rows.topUnheardRow.unfollowed == Tryz.prog.unfollowed 3) = true := by kernel_rfl
theorem rowRe : (Rows.topUnheardRow.recurses == Tryz.prog.recurses 3) = true := by kernel_rfl
theorem rowNa : (Rows.topUnheardRow.named == Tryz.prog.varsNamed 3) = true := by kernel_rfl
theorem rowAll : joinedFacts Tryz.prog 3 Tryz.f3 Rows.topUnheardSpec Rows.topUnheardRow = true := by
  unfold joinedFacts
  rw [laidOut, rowIn, rowUn, rowRe, rowNa]
  kernel_rfl

theorem topUnheard_holds : Rows.TopUnheardSaid :=
  OpenClaim.holds_of_wide 3 Tryz.f3 rfl rfl rfl rfl rfl rfl rfl ⟨rfl, rfl, rfl, rfl, rfl⟩ rfl rfl rfl rfl rfl (by kernel_rfl) Tryz.func3 rowAll
    (of_decide_eq_true (by kernel_rfl)) (by unfold Func.isWrapper; first | (rw [if_pos (by decide +kernel)]; kernel_rfl) | (rw [if_neg (by decide +kernel)]; exact ⟨rfl, rfl⟩))
    (fun os started H enc _ => topUnheard_lifted os started H enc)

#print axioms topUnheard_holds
end Go.Proofs.YtfbhggigncmcfaaGreat
