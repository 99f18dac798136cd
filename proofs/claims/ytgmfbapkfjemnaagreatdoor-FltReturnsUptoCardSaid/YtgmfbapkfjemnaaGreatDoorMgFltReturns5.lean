/-
  Part 6 of the texts that the claim leans on.
-/
import Derived.Test.YtgmfbapkfjemnaaGreatDoorCards
import Derived.Test.YtgmfbapkfjemnaaGreatDoorTie
import Derived.Test.YtgmfbapkfjemnaaGreatDoorMgFltReturns4
/-
  What is printed is read again, one text each.
-/
namespace Lf
open Go Go.Proofs

section
variable {h : Hp}

theorem zra1 (a : Int) (h0 : -9223372036854775808 ≤ a) (h1 : a < 9223372036854775808) : ∃ w : Nat, w < 18446744073709551616 ∧ IntKind.wrap .u64 a = (w : Int) ∧ IntKind.wrap .i64 (w : Int) = a := by
  have hb : 0 ≤ IntKind.wrap .u64 a ∧ IntKind.wrap .u64 a < 18446744073709551616 := by rw [zao]; omega
  refine ⟨(IntKind.wrap .u64 a).toNat, by omega, (Int.toNat_of_nonneg hb.1).symm, ?_⟩
  rw [Int.toNat_of_nonneg hb.1, zao]
  unfold IntKind.wrap
  simp only [IntKind.signed, IntKind.bits]
  grind

theorem fltReturns_ok {a b : Int} {text : ByteArray} {Q : Bool → Hp → Prop} (e : VEnv h) (a0 : -9223372036854775808 ≤ a) (a1 : a < 9223372036854775808) (b0 : -9223372036854775808 ≤ b) (b1 : b < 9223372036854775808) (hs : text.size ≤ 281474976710656)
    (hq : ∀ h', h ≤ h' → Q true h') : zez Tryz.prog a b text Q h := by
  obtain ⟨wa, la, na, ra⟩ := zra1 a a0 a1
  obtain ⟨wb, lb, nb, rb⟩ := zra1 b b0 b1
  unfold zez
  refine zft (zmo na la e.pe fun h1 oa l1 ia => ?_)
  refine zft (zmo nb lb (e.mono l1).pe fun h2 ob l2 ib => ?_)
  have l12 := Hp.le_trans l1 l2
  have ha25 := (zww ia).1
  refine zmc (zxj (e.mono l12) (by rw [zbl]; omega) fun h3 x er l3 sd => ?_)
  have l13 := Hp.le_trans l12 l3
  refine zmc (zxj (e.mono l13) hs fun h4 x2 er2 l4 sd2 => ?_)
  have l14 := Hp.le_trans l13 l4
  obtain ⟨rfl, rfl⟩ := zti1 sd (.inl ⟨wa, oa, la, ia, rfl, rfl, rfl⟩)
  rw [ra]
  have heq : (((ByteArray.toList (strN oa)) == (ByteArray.toList (strN ob))) == (a == b)) = true := by
    by_cases c : a = b
    · subst c
      have : wa = wb := by
        have := na.symm.trans nb
        omega
      subst this
      rw [zwv ia ib]
      simp
    · have : ¬ ((ByteArray.toList (strN oa)) == (ByteArray.toList (strN ob))) = true := fun hh => c (by
        have := zlc1 la lb ia ib (zdm1 hh)
        rw [← ra, ← rb, this])
      rw [Bool.eq_false_iff.2 this, beq_false_of_ne c]
      rfl
  rw [heq]
  refine letW (letW (letW (iteF ?_ ?_)))
  · rw [zbl, decide_eq_false (show ¬ (oa.length : Int) > 25 by omega)]
    simp
  rcases sd2 with ⟨w2, o2, lw2, i2, ht, rfl, rfl⟩ | ⟨-, rfl, rfl⟩
  · refine iteF (by decide) (zft (zmo (zfv1 lw2) lw2 (e.mono l14).pe fun h5 o5 l5 i5 => ?_))
    have l15 := Hp.le_trans l14 l5
    have ee : ((ByteArray.toList (strN o5)) == (ByteArray.toList text)) = true := by
      rw [zwv i5 i2, ht]
      simp
    rw [ee]
    exact effT (zix (zku1 (e.mono l15).pe.env fun h6 l6 => letW (hq h6 (Hp.le_trans l15 l6))))
  · exact iteT (by decide) (letW (effB (by decide) (zix (zku1 (e.mono l14).pe.env fun h6 l6 => letW (hq h6 (Hp.le_trans l14 l6))))))
end
end Lf

/-
  What the rows of this seat list, as strconv's tables in memory.
-/
namespace Lf
open Go Go.Proofs Go.ChangeShapes Go.WideShapes Go.ChangeAt Go.RowKit

/-- What the row lists. -/
abbrev fltLaid : List (String × DataW Unit) := YtgmfbapkfjemnaaGreatDoor.Rows.fltReturnsUptoRow.laid

theorem star : "*" ++ "errors.errorString" = "*errors.errorString" := by decide

theorem zxe1 (u : TypeId) (h : Tryz.prog.typeName? 3 u = some "*errors.errorString") : u = 202 :=
  typeName_ptr_named (nm := "errors.errorString") (by rw [star]; kernel_rfl) (by kernel_rfl) (by decide) u (by rw [star]; exact h)

def dbL : List Int := [0, 1, 56, 2, 57, 49, 28, 3, 61, 58, 42, 50, 38, 29, 17, 4, 62, 47, 59, 36, 45, 43, 51, 22, 53, 39, 33, 30, 24, 18, 12, 5, 63, 55, 48, 27, 60, 41, 37, 16, 46, 35, 44, 21, 52, 32, 23, 11, 54, 26, 40, 15, 34, 20, 31, 10, 25, 14, 19, 9, 13, 8, 7, 6]

theorem ztj1 : ∀ k, k < 61 → Go.Pinned.cheatRows[k]? = some (newD k, (fiveL k).map UInt8.ofNat) := by decide +kernel

theorem env_laid {W : World} (h : laidMetH Tryz.prog fltLaid W) : VEnv (whole W) := by
  rw [MakeChecks.laidMetH_plain _ _ _ (by kernel_rfl)] at h
  have h1 := h.tail
  have h2 := h1.tail
  have h3 := h2.tail
  have h4 := h3.tail
  have h5 := h4.tail
  have h6 := h5.tail
  have h8 := h6.tail.tail
  have h9 := h8.tail
  have h10 := h9.tail
  have h11 := h10.tail
  have h12 := h11.tail
  have i0 : LdIs (whole W) ⟨7, 0, none⟩ [.int .u64 52] := zwl (j := 0) rfl h3 (by kernel_rfl) (by kernel_rfl) Tryz.underlying213 rfl rfl (by kernel_rfl) (by kernel_rfl)
  have i1 : LdIs (whole W) ⟨7, 1, none⟩ [.int .u64 11] := zwl (j := 1) rfl h3 (by kernel_rfl) (by kernel_rfl) Tryz.underlying213 rfl rfl (by kernel_rfl) (by kernel_rfl)
  have i2 : LdIs (whole W) ⟨7, 2, none⟩ [.int .i64 (-1023)] := zwl (j := 2) rfl h3 (by kernel_rfl) (by kernel_rfl) Tryz.underlying213 rfl rfl (by kernel_rfl) (by kernel_rfl)
  have fe : FEnv (whole W) := by
    refine ⟨?_, ?_, ?_, i0, ?_⟩
    · exact zlr1 (g := 8) h12 (by kernel_rfl) (by kernel_rfl) Tryz.underlying229 Tryz.underlying228 rfl rfl rfl rfl rfl rfl (by kernel_rfl) (by kernel_rfl) (by kernel_rfl)
    · have h8' : laidMet Tryz.prog (("internal/strconv.uint64pow10", .agg (((List.range 20).map fun k => ((10 ^ k : Nat) : Int)).map fun x => .lit (.int .u64 x))) :: _) W := h8
      have := zen1 (g := 5) h8' (by kernel_rfl) (by kernel_rfl) Tryz.underlying182 Tryz.underlying51 (by kernel_rfl) (by kernel_rfl)
      rw [List.map_map] at this
      exact this
    · exact zou1 (g := 2) h4 (by kernel_rfl) (by kernel_rfl) Tryz.underlying4
    · have h6' : laidMet Tryz.prog (("internal/strconv.float64pow10", .slice (pow10F.map fun x => .lit (.float .f64 x)) []) :: _) W := h6
      exact zhb1 (g := 12) h6' (by kernel_rfl) (by kernel_rfl) Tryz.underlying240 Tryz.underlying48 (by kernel_rfl)
  have tz : LdIs (whole W) ⟨14, 15, none⟩ [.int .u8 4] := by
    have h1' : laidMet Tryz.prog (("math/bits.deBruijn64tab", .agg (dbL.map fun x => .lit (.int .u8 x))) :: _) W := h1
    have := zen1 (g := 14) h1' (by kernel_rfl) (by kernel_rfl) Tryz.underlying242 Tryz.underlying5 (by kernel_rfl) (by kernel_rfl)
    intro i v hv
    cases i with
    | zero =>
      cases hv
      have := this 15 _ rfl
      rw [zak] at this
      rw [zak]
      exact this
    | succ i => simp at hv
  have err : ∀ {n : String} {text : List UInt8} {r : List (String × DataW Unit)} {g : Nat}, laidMet Tryz.prog ((n, .iface "*errors.errorString" (.ptr (.agg [.lit (.string text)]))) :: r) W → Tryz.prog.globalNamed n = some g → (Tryz.prog.globals[g]?).map (·.type) = some 56 → ∃ te pe, LdIs (whole W) ⟨g, 0, none⟩ [.iface te pe] := fun {n text r g} hl hg ht => by
    obtain ⟨a0, s0, hv0, -, -, -⟩ := laid_sentinel hl hg ht Tryz.underlying56 zxe1 Tryz.underlying202 Tryz.underlying204 rfl rfl Tryz.underlying9 (by kernel_rfl) (by kernel_rfl)
    refine ⟨202, .pointer (some a0), fun i v e => ?_⟩
    cases i with
    | succ i => simp at e
    | zero =>
      cases e
      have h0 := World.var?_cell hg hv0 0
      rw [zlk, zak]
      simpa using h0
  refine ⟨⟨fe, tz⟩, ⟨fe, ⟨⟨zju1 h3 (by kernel_rfl) (by kernel_rfl) Tryz.underlying213 (of_decide_eq_true (by kernel_rfl)), i0, i1, i2, zju1 h2 (by kernel_rfl) (by kernel_rfl) Tryz.underlying213 (of_decide_eq_true (by kernel_rfl))⟩, ?_, ?_⟩⟩, ⟨err h10 (by kernel_rfl) (by kernel_rfl), err h9 (by kernel_rfl) (by kernel_rfl)⟩⟩
  · have h11' : laidMet Tryz.prog (("internal/strconv.leftcheats", .slice (Go.Pinned.cheatRows.map fun x => .agg [.lit (.int .i64 x.1), .lit (.string x.2)]) []) :: _) W := h11
    obtain ⟨a, c, e1, e2⟩ := zlt1 (g := 9) h11' (by kernel_rfl) (by kernel_rfl) Tryz.underlying233 Tryz.underlying232 rfl rfl rfl rfl rfl rfl Tryz.underlying3 Tryz.underlying9 (by kernel_rfl) (by kernel_rfl) (by kernel_rfl)
    have hlen : Go.Pinned.cheatRows.length = 61 := by decide +kernel
    rw [hlen] at e1
    exact ⟨a, c, e1, fun k hk => e2 k _ (ztj1 k hk)⟩
  · have h5' : laidMet Tryz.prog (("internal/strconv.powtab", .slice (powL.map fun x => .lit (.int .i64 x)) []) :: _) W := h5
    exact zhc1 (g := 11) h5' (by kernel_rfl) (by kernel_rfl) Tryz.underlying239 Tryz.underlying3 (by kernel_rfl)

theorem own : ownKnob Tryz.prog.godebug = none := by kernel_rfl
theorem laidOut : laidOutB Tryz.prog = true := by kernel_rfl

/-- A world for the witness. -/
theorem laid_met (os : Os) (args : Array Value) : laidMetH Tryz.prog fltLaid ((World.laidAll Tryz.prog os fltLaid).forCall (fun _ _ => 0) ⟨#[], args, []⟩).memory := by
  rw [MakeChecks.laidMetH_plain _ _ _ (by kernel_rfl)]
  exact laidMet_laidAll args (by kernel_rfl) (by kernel_rfl)
end Lf

