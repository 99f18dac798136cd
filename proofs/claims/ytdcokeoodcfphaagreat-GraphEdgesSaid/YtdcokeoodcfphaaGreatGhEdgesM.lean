/-
  It proves that the law GraphEdges holds of the program: for every play, config and state the call returns true, and what was there before is left as it was. There are no conditions.
-/
import Derived.Test.YtdcokeoodcfphaaGreatMgGhEdges5
namespace Go.Proofs.YtdcokeoodcfphaaGreat
open Go.ChangeShapes Go.WideShapes Go.ChangeAt Go.RowKit

theorem own : ownKnob Tryz.prog.godebug = none := by kernel_rfl
theorem laidOut : laidOutB Tryz.prog = true := by kernel_rfl

theorem graphEdges_params : ∀ t ∈ Tryz.f3.params.toList, Tryz.prog.readableRec t = true ∧ t < Tryz.prog.types.size := by
  rw [Tryz.params3]
  intro t ht
  simp at ht
  rcases ht with rfl | rfl | rfl <;> exact ⟨by kernel_rfl, of_decide_eq_true (by kernel_rfl)⟩

set_option maxRecDepth 100000 in
theorem graphEdges_lifted (os : Os) (started : os.Started) (H : Type) (enc : TypeId × Value → H) :
    ReturnsInHanded {} Tryz.checked os 3 .any (Rows.graphEdgesSpec.pre6 enc Tryz.prog Tryz.f3 Rows.graphEdgesRow.domain false) (Rows.graphEdgesSpec.post enc Tryz.prog Tryz.f3 false true false false) := by
  refine Lf.rf (C := Tryz.checked) (t := 4) own started (by kernel_rfl) Tryz.func3
    (ChangeSpec.witness6 (enc := enc) (C := Tryz.checked) false ⟨#[], #[.agg #[.slice none 0 0, .slice none 0 0, .int .i64 0, .int .i64 0, .int .i64 0, .int .i64 0, .slice none 0 0, .slice none 0 0], .agg #[.slice none 0 0, .slice none 0 0, .int .i64 0, .int .i64 0, .int .i64 0, .int .i64 0, .slice none 0 0], .agg #[.int .i64 0, .slice none 0 0, .slice none 0 0]], []⟩ 8 (by kernel_rfl) (by kernel_rfl) (by kernel_rfl) (by kernel_rfl)) laidOut graphEdges_params rfl (by kernel_rfl) Tryz.underlying4 ?_
  intro W base args ds p hval0 hA0 hsz0
  have hA : DataW.TrodAll enc Tryz.prog W 0 (fun _ => true) true Tryz.f3.params.toList args.toList ds p := hA0
  have hsz : (DataW.weightsEach Tryz.prog Tryz.f3.params.toList ds).all (· ≤ reachBytes) = true := hsz0
  rw [Tryz.params3] at hA hsz
  obtain ⟨v0, vs0, d0, ds0, p0, q0, e0, rfl, _, h0, hA⟩ := trodAll_cons hA
  obtain ⟨v1, vs1, d1, ds1, p1, q1, rfl, rfl, _, h1, hA⟩ := trodAll_cons hA
  obtain ⟨v2, vs2, d2, ds2, p2, q2, rfl, rfl, _, h2, hA⟩ := trodAll_cons hA
  obtain ⟨rfl, rfl, _⟩ := trodAll_nil hA
  have hargs : args = #[v0, v1, v2] := by cases args; simp at e0; rw [e0]
  obtain ⟨x, c, S, rfl, cx, tc, hS⟩ := Lf.vB h0 (Lf.rJ (i := 0) rfl rfl hsz)
  obtain ⟨y, rfl, hy⟩ := Lf.xW h1 (Lf.rJ (i := 1) rfl rfl hsz)
  obtain ⟨s, rfl, hs⟩ := Lf.uo h2 (Lf.rJ (i := 2) rfl rfl hsz)
  obtain ⟨d, cy, td, ld⟩ := Lf.vD hy
  obtain ⟨u, su, tu, lu⟩ := Lf.GL hs
  rw [hargs]
  exact ⟨rfl, Lf.gW (x := x) (c := y) (s := s) (Lf.pg cx (Lf.rI tc) hS cy (Lf.rI td) su lu (fun p hp => (tu.2.2 p hp).1) fun h' hle => ⟨rfl, hle⟩)⟩

/- What the row says of the program, in parts (in one it takes more than 12 GB). -/
theorem rowIn : (Rows.graphEdgesRow.inPlace == Tryz.prog.inPlace 3) = true := by kernel_rfl
theorem rowUn : (Rows.graphEdgesRow.unfollowed == Tryz.prog.unfollowed 3) = true := by kernel_rfl
theorem rowRe : (Rows.graphEdgesRow.recurses == Tryz.prog.recurses 3) = true := by kernel_rfl
theorem rowNa : (Rows.graphEdgesRow.named == Tryz.prog.varsNamed 3) = true := by kernel_rfl
theorem rowAll : joinedFacts Tryz.prog 3 Tryz.f3 Rows.graphEdgesSpec Rows.graphEdgesRow = true := by
  unfold joinedFacts
  rw [laidOut, rowIn, rowUn, rowRe, rowNa]
  kernel_rfl

theorem graphEdges_holds : Rows.GraphEdgesSaid :=
  OpenClaim.holds_of_wide 3 Tryz.f3 rfl rfl rfl rfl rfl rfl rfl ⟨rfl, rfl, rfl, rfl, rfl⟩ rfl rfl rfl rfl rfl (by kernel_rfl) Tryz.func3 rowAll
    (of_decide_eq_true (by kernel_rfl)) (by unfold Func.isWrapper; first | (rw [if_pos (by decide +kernel)]; kernel_rfl) | (rw [if_neg (by decide +kernel)]; exact ⟨rfl, rfl⟩))
    (fun os started H enc _ => graphEdges_lifted os started H enc)

#print axioms graphEdges_holds
end Go.Proofs.YtdcokeoodcfphaaGreat
