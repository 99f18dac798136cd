/-
  Part 6 of the texts that the claim leans on.
-/
import Derived.Test.YtfcckhafmajceaaGreatDoorMgFltAll4
/-
  Floats: what the statements ask.
-/
set_option autoImplicit false
namespace Lf
open Go Go.Proofs

/-- A number's bits; bits as a number. -/
def uN (a : Int) : Nat := (IntKind.wrap .u64 a).toNat
def iN (w : Nat) : Int := IntKind.wrap .i64 (w : Int)

theorem uN_lt (a : Int) : uN a < 18446744073709551616 := (wrap_nat a).2
theorem wrapI (x : Int) : IntKind.wrap .i64 x = (x + 9223372036854775808) % 18446744073709551616 - 9223372036854775808 := by
  unfold IntKind.wrap
  simp only [IntKind.signed, IntKind.bits]
  simp
  first | omega | (split <;> omega)
theorem uN_iN {w : Nat} (h : w < 18446744073709551616) : uN (iN w) = w := by unfold uN iN; rw [wrapI, wrapU64]; omega
theorem iN_uN {a : Int} (h0 : -9223372036854775808 ≤ a) (h1 : a < 9223372036854775808) : iN (uN a) = a := by unfold uN iN; rw [wrapU64, wrapI]; omega

theorem fltD_add {a b : Int} : fltD 15 a b = iN (addD (uN a) (uN b)) := rfl
theorem fltD_mul {a b : Int} : fltD 17 a b = iN (mulD (uN a) (uN b)) := rfl
theorem fltD_div {a b : Int} : fltD 18 a b = iN (divD (uN a) (uN b)) := rfl
theorem fltD_below {a b : Int} : fltD 19 a b = belowD (uN a) (uN b) := rfl
theorem fltD_float {a b : Int} : fltD 20 a b = iN (toFloatD a) := rfl
theorem fltD_whole {a b : Int} : fltD 21 a b = wholeD (uN a) := rfl
def flipN (y : Nat) : Nat := if 9223372036854775808 ≤ y then y - 9223372036854775808 else y + 9223372036854775808
theorem flipN_lt {y : Nat} (h : y < 18446744073709551616) : flipN y < 18446744073709551616 := by unfold flipN; split <;> omega
theorem fltD_sub {a b : Int} : fltD 16 a b = iN (if isNaND (uN b) = true then 9221120237041090560 else addD (uN a) (flipN (uN b))) := by
  show (if isNaND (uN b) = true then IntKind.wrap .i64 9221120237041090560 else IntKind.wrap .i64 ((addD (uN a) (flipN (uN b)) : Nat) : Int)) = _
  split <;> rfl

theorem ofInt_u (b : Int) : BitVec.ofInt 64 b = BitVec.ofInt 64 ((uN b : Nat) : Int) := by
  apply BitVec.eq_of_toNat_eq
  rw [ofInt64 (uN_lt b), BitVec.toNat_ofInt]
  unfold uN
  rw [wrapU64]
  rfl

theorem xor_flip (b : Int) : uN (bitsI .xor .i64 b (-9223372036854775808 : Int)) = flipN (uN b) := by
  have h1 := flip_sign (uN_lt b)
  have h2 : (BitVec.ofInt 64 ((uN b : Nat) : Int) ^^^ BitVec.ofInt 64 9223372036854775808).toNat = flipN (uN b) := by
    have : bitsI .xor .u64 ((uN b : Nat) : Int) (9223372036854775808 : Int) = IntKind.wrap .u64 ((BitVec.ofInt 64 ((uN b : Nat) : Int) ^^^ BitVec.ofInt 64 9223372036854775808).toNat : Int) := rfl
    rw [this, wrapN (BitVec.isLt _)] at h1
    exact Int.ofNat_inj.1 h1
  have h3 : bitsI .xor .i64 b (-9223372036854775808 : Int) = iN (flipN (uN b)) := by
    rw [← h2, ← ofInt_u]
    rfl
  rw [h3, uN_iN (flipN_lt (uN_lt b))]

theorem andNot_mod (a : Int) : bitsI .andNot .i64 a (-9223372036854775808 : Int) = ((uN a % 9223372036854775808 : Nat) : Int) := by
  have h1 := andNot_sign (uN_lt a)
  have h2 : (BitVec.ofInt 64 ((uN a : Nat) : Int) &&& ~~~ BitVec.ofInt 64 9223372036854775808).toNat = uN a % 9223372036854775808 := by
    have : bitsI .andNot .u64 ((uN a : Nat) : Int) (9223372036854775808 : Int) = IntKind.wrap .u64 ((BitVec.ofInt 64 ((uN a : Nat) : Int) &&& ~~~ BitVec.ofInt 64 9223372036854775808).toNat : Int) := rfl
    rw [this, wrapN (BitVec.isLt _)] at h1
    exact Int.ofNat_inj.1 h1
  have h3 : bitsI .andNot .i64 a (-9223372036854775808 : Int) = iN (uN a % 9223372036854775808) := by
    rw [← h2, ← ofInt_u]
    rfl
  rw [h3]
  unfold iN
  rw [wrap64 (by omega) (by omega)]

section
variable {h : Hp}

theorem do_ok {op b c : Int} {Q : Int → Hp → Prop} (hop : 15 ≤ op ∧ op ≤ 21) (hq : Q (fltD op b c) h) : firebreaklaw05_do_w Tryz.prog op b c Q h := by
  unfold firebreaklaw05_do_w
  refine flt_Do_call (fltDo_ok (fun _ => ?_) fun hh => absurd hop hh)
  rw [flt_doc]
  exact hq

theorem lawNaN_ok {a : Int} {Q : Bool → Hp → Prop} (hq : Q (isNaND (uN a)) h) : firebreaklaw05_isNaN_w Tryz.prog a Q h := by
  unfold firebreaklaw05_isNaN_w
  have e : decide ((bitsI .andNot .u64 (IntKind.wrap .u64 a) (9223372036854775808 : Int)) > (9218868437227405312 : Int)) = isNaND (uN a) := by
    rw [(wrap_nat a).1, show (IntKind.wrap .u64 a).toNat = uN a from rfl, andNot_sign (uN_lt a)]
    unfold isNaND
    exact decide_eq_decide.2 (by omega)
  rw [e]
  exact hq

theorem refOther_ok {op b c : Int} {Q : Int → Int → Hp → Prop} (hop : ¬ (15 ≤ op ∧ op ≤ 21)) (hq : Q 0 9 h) : firebreakref05_Do_w Tryz.prog op b c Q h := by
  unfold firebreakref05_Do_w
  have ne : ∀ n : Int, 15 ≤ n → n ≤ 21 → ¬ ((op == n) = true) := fun n h0 h1 hh => by
    have := beq_iff_eq.1 hh
    omega
  exact iteF (ne 15 (by decide) (by decide)) (iteF (ne 16 (by decide) (by decide)) (iteF (ne 17 (by decide) (by decide)) (iteF (ne 18 (by decide) (by decide)) (iteF (ne 19 (by decide) (by decide)) (iteF (ne 20 (by decide) (by decide)) (iteF (ne 21 (by decide) (by decide)) hq))))))

/-- The program and the document: the same. -/
theorem both_ok {op b c : Int} {K : Int → Int → Int → Int → Hp → Prop} (b0 : -9223372036854775808 ≤ b) (b1 : b < 9223372036854775808) (hk : ∀ x e h', h ≤ h' → K x e x e h') :
    Call2 Tryz.prog n_flt_Do [(.int .i64 op), (.int .i64 b), (.int .i64 c)] (shInt .i64) (shInt .i64) (fun r r1 h1 => Call2 Tryz.prog n_firebreakref05_Do [(.int .i64 op), (.int .i64 b), (.int .i64 c)] (shInt .i64) (shInt .i64) (fun r2 r3 h2 => K r r1 r2 r3 h2) h1) h := by
  by_cases hop : 15 ≤ op ∧ op ≤ 21
  · refine flt_Do_call (fltDo_ok (fun _ => ?_) fun hh => absurd hop hh)
    rw [flt_doc]
    exact firebreakref05_Do_call (refFlt_ok b0 b1 hop fun h' hl => hk _ _ h' hl)
  · exact flt_Do_call (fltDo_ok (fun hh => absurd hh hop) fun _ => firebreakref05_Do_call (refOther_ok hop (hk _ _ h (Hp.le_refl h))))

theorem fltDoes_ok {op b c : Int} {Q : Bool → Hp → Prop} (env : FEnv h) (_ : -9223372036854775808 ≤ op ∧ op ≤ 9223372036854775807) (hb : -9223372036854775808 ≤ b ∧ b ≤ 9223372036854775807) (hc : -9223372036854775808 ≤ c ∧ c ≤ 9223372036854775807) (hq : ∀ h', h ≤ h' → Q true h') : firebreaklaw05_FltDoes_w Tryz.prog op b c Q h := by
  unfold firebreaklaw05_FltDoes_w
  have same : ∀ {x e : Int}, ((x != x) || (e != e)) = false := fun {x e} => by simp
  refine both_ok hb.1 (by omega) fun x e h1 l1 => letW ?_
  rw [same]
  refine iteF (by decide) (LoopW1.intro (fun k h' => h ≤ h' ∧ 14 ≤ k ∧ k ≤ 23) (fun k _ => (23 - k).toNat) ⟨l1, by decide, by decide⟩ ?_)
  rintro k h2 ⟨l2, k0, k1⟩
  by_cases hk : k ≤ 22
  · refine iteT (decide_eq_true hk) (both_ok hb.1 (by omega) fun x e h3 l3 => letW ?_)
    rw [same]
    refine iteF (by decide) (both_ok hc.1 (by omega) fun x e h4 l4 => letW ?_)
    rw [same]
    refine iteF (by decide) ?_
    rw [wrap64 (n := k + 1) (by omega) (by omega)]
    exact ⟨⟨Hp.le_trans l2 (Hp.le_trans l3 l4), by omega, by omega⟩, by omega⟩
  · exact iteF (fun hh => hk (of_decide_eq_true hh)) (firebreaklaw05_fixed_call (fixed_ok (env.mono l2) fun h' hl => hq h' (Hp.le_trans l2 hl)))

theorem fltWhole_ok {n m : Int} {Q : Bool → Hp → Prop} (env : FEnv h) (hn : -9223372036854775808 ≤ n ∧ n ≤ 9223372036854775807) (hm : -9223372036854775808 ≤ m ∧ m ≤ 9223372036854775807) (hq : ∀ h', h ≤ h' → Q true h') : firebreaklaw05_FltWhole_w Tryz.prog n m Q h := by
  unfold firebreaklaw05_FltWhole_w
  have op20 : (15 : Int) ≤ 20 ∧ (20 : Int) ≤ 21 := by decide
  have op21 : (15 : Int) ≤ 21 ∧ (21 : Int) ≤ 21 := by decide
  have op19 : (15 : Int) ≤ 19 ∧ (19 : Int) ≤ 21 := by decide
  obtain ⟨a1, -, -, -⟩ := rz_whole hn.1 (show n < 9223372036854775808 by omega)
  obtain ⟨b1, -, -, -⟩ := rz_whole hm.1 (show m < 9223372036854775808 by omega)
  obtain ⟨w1, w2, w3, w4, w5⟩ := whole_back hn.1 (show n < 9223372036854775808 by omega)
  obtain ⟨c1, c2⟩ := whole_below hn.1 (show n < 9223372036854775808 by omega) hm.1 (show m < 9223372036854775808 by omega)
  refine firebreaklaw05_do_call (do_ok op20 ?_)
  refine firebreaklaw05_do_call (do_ok op20 ?_)
  rw [fltD_float, fltD_float]
  refine firebreaklaw05_do_call (do_ok op21 ?_)
  rw [fltD_whole, uN_iN a1]
  generalize hX : wholeD (toFloatD n) = X at *
  refine letW (letW (iteF (fun hh => ?_) ?_))
  · rw [Bool.and_eq_true, Bool.and_eq_true] at hh
    exact bne_iff_ne.1 hh.2 (w1 ⟨of_decide_eq_true hh.1.1, of_decide_eq_true hh.1.2⟩)
  refine JoinW1.intro (fun off k => k = h ∧ 0 ≤ off ∧ off ≤ 512) ?_ ?_
  · by_cases hlt : X < n
    · refine iteT (decide_eq_true hlt) ⟨rfl, ?_⟩
      rw [wrap64 (by omega) (by omega), wrapU64]
      omega
    · refine iteF (fun hh => hlt (of_decide_eq_true hh)) ⟨rfl, ?_⟩
      rw [wrap64 (by omega) (by omega), wrapU64]
      omega
  rintro off h ⟨rfl, o0, o1⟩
  have e1 : decide (off > (512 : Int)) = false := decide_eq_false (by omega)
  rw [e1]
  have low : ∀ {K : Int → Hp → Prop} (_ : ∀ x, (n ≤ m → x ≠ 1) → K x h), EffC (some ((!false) && decide (n ≤ m))) (CallT Tryz.prog n_firebreaklaw05_do [(.int .i64 (19 : Int)), (.int .i64 (iN (toFloatD m))), (.int .i64 (iN (toFloatD n)))] (shInt .i64)) K h := fun {K} hK => by
    by_cases hle : n ≤ m
    · refine effB (by rw [decide_eq_true hle]; rfl) (firebreaklaw05_do_call (do_ok op19 ?_))
      rw [fltD_below, uN_iN a1, uN_iN b1]
      exact hK _ c1
    · exact effF (by rw [decide_eq_false hle]; rfl) (0 : Int) (hK 0 fun hh => absurd hh hle)
  refine low fun x hx => letW ?_
  have e2 : ((decide (n ≤ m)) && (x == (1 : Int))) = false := by
    by_cases hle : n ≤ m
    · rw [decide_eq_true hle, Bool.true_and, Bool.eq_false_iff]
      exact fun hh => hx hle (beq_iff_eq.1 hh)
    · rw [decide_eq_false hle]; rfl
  rw [e2]
  refine letW (letW (letW ?_))
  generalize hB : (((decide (n < m)) && (decide (n ≥ (-9007199254740992 : Int)))) && (decide (m ≤ (9007199254740992 : Int)))) = B
  have up : ∀ {K : Int → Hp → Prop} (_ : ∀ x, (B = true → x = 1) → K x h), EffC (some ((!(false || false)) && B)) (CallT Tryz.prog n_firebreaklaw05_do [(.int .i64 (19 : Int)), (.int .i64 (iN (toFloatD n))), (.int .i64 (iN (toFloatD m)))] (shInt .i64)) K h := fun {K} hK => by
    cases hb : B with
    | true =>
      rw [hb, Bool.and_eq_true, Bool.and_eq_true] at hB
      refine effB rfl (firebreaklaw05_do_call (do_ok op19 ?_))
      rw [fltD_below, uN_iN a1, uN_iN b1]
      exact hK _ fun _ => c2 (of_decide_eq_true hB.1.1) (of_decide_eq_true hB.1.2) (of_decide_eq_true hB.2)
    | false => exact effF rfl (0 : Int) (hK 0 fun hh => by rw [hb] at hh; cases hh)
  refine up fun z hz => letW ?_
  have e3 : (B && (z != (1 : Int))) = false := by
    cases hb : B with
    | true => rw [hz hb]; rfl
    | false => rfl
  rw [e3]
  refine letW (iteF (by decide) ?_)
  refine firebreaklaw05_do_call (do_ok op20 ?_)
  rw [fltD_float]
  refine effB (beq_iff_eq.2 rfl) (firebreaklaw05_do_call (do_ok op21 ?_))
  rw [fltD_whole, uN_iN a1, hX]
  refine letW (effB (by simp) (firebreaklaw05_fixed_call (fixed_ok env fun h' hl => letW ?_)))
  have := hq h' hl
  simpa using this
end
end Lf

/-
  Floats: what follows without the document.
-/
set_option autoImplicit false
namespace Lf
open Go Go.Proofs

section
variable {h : Hp}

theorem fltFollows_ok {a b : Int} {Q : Bool → Hp → Prop} (env : FEnv h) (ha : -9223372036854775808 ≤ a ∧ a ≤ 9223372036854775807) (hb : -9223372036854775808 ≤ b ∧ b ≤ 9223372036854775807) (hq : ∀ h', h ≤ h' → Q true h') : firebreaklaw05_FltFollows_w Tryz.prog a b Q h := by
  have lx := uN_lt a
  have ly := uN_lt b
  have ex := iN_uN ha.1 (show a < 9223372036854775808 by omega)
  have oA := add_out lx ly
  have oM := mul_out (a := uN a) (b := uN b)
  have oD := div_out (a := uN a) (b := uN b)
  have oF := add_out lx (flipN_lt ly)
  have nz : isNaND (flipN (uN b)) = isNaND (uN b) := by
    have fm : flipN (uN b) % 9223372036854775808 = uN b % 9223372036854775808 := by
      unfold flipN
      split <;> omega
    unfold isNaND
    rw [fm]
  have oS : OutD (uN a) (uN b) (if isNaND (uN b) = true then 9221120237041090560 else addD (uN a) (flipN (uN b))) := by
    split
    · exact outD_nan
    · refine ⟨oF.1, oF.2.1, fun e => oF.2.2 ?_⟩
      rw [nz]; exact e
  have nanI : iN 9221120237041090560 = 9221120237041090560 := by decide
  have op15 : (15 : Int) ≤ 15 ∧ (15 : Int) ≤ 21 := by decide
  have op16 : (15 : Int) ≤ 16 ∧ (16 : Int) ≤ 21 := by decide
  have op17 : (15 : Int) ≤ 17 ∧ (17 : Int) ≤ 21 := by decide
  have op18 : (15 : Int) ≤ 18 ∧ (18 : Int) ≤ 21 := by decide
  have op19 : (15 : Int) ≤ 19 ∧ (19 : Int) ≤ 21 := by decide
  have op21 : (15 : Int) ≤ 21 ∧ (21 : Int) ≤ 21 := by decide
  unfold firebreaklaw05_FltFollows_w
  refine firebreaklaw05_do_call (do_ok op15 (firebreaklaw05_do_call (do_ok op16 (firebreaklaw05_do_call (do_ok op17 (firebreaklaw05_do_call (do_ok op18 (firebreaklaw05_do_call (do_ok op15 ?_)))))))))
  rw [fltD_add, fltD_sub, fltD_mul, fltD_div, fltD_add, addD_comm ly lx]
  have ne : ∀ x : Int, (x != x) = false := fun x => by simp
  rw [ne (iN (addD (uN a) (uN b)))]
  refine effT (firebreaklaw05_do_call (do_ok op17 ?_))
  rw [fltD_mul, mulD_comm (a := uN b), ne]
  refine letW (effT (firebreaklaw05_isNaN_call (lawNaN_ok ?_)))
  -- the sum with the sign turned
  have turned : ∀ {K : Int → Hp → Prop} (_ : ∀ x, (isNaND (uN b) = false → x = iN (if isNaND (uN b) = true then 9221120237041090560 else addD (uN a) (flipN (uN b)))) → K x h),
      EffC (some ((!(false || false)) && (!isNaND (uN b)))) (CallT Tryz.prog n_firebreaklaw05_do [(.int .i64 (15 : Int)), (.int .i64 a), (.int .i64 (bitsI .xor .i64 b (-9223372036854775808 : Int)))] (shInt .i64)) K h := fun {K} hK => by
    cases hn : isNaND (uN b) with
    | true => exact effF rfl (0 : Int) (hK 0 fun e => by rw [hn] at e; cases e)
    | false =>
      refine effB rfl (firebreaklaw05_do_call (do_ok op15 ?_))
      rw [fltD_add, xor_flip]
      exact hK _ fun _ => by rw [if_neg (by rw [hn]; decide)]
  refine turned fun x7 h7 => letW ?_
  have y1 : ((!isNaND (uN b)) && (iN (if isNaND (uN b) = true then 9221120237041090560 else addD (uN a) (flipN (uN b))) != x7)) = false := by
    cases hn : isNaND (uN b) with
    | true => rfl
    | false => rw [h7 hn, hn, ne]; rfl
  rw [y1]
  refine letW (iteF (by decide) ?_)
  -- the four
  refine newF (enc := fun x => cellsL ((shInt .i64).enc x)) (xs := [iN (addD (uN a) (uN b)), iN (if isNaND (uN b) = true then 9221120237041090560 else addD (uN a) (flipN (uN b))), iN (mulD (uN a) (uN b)), iN (divD (uN a) (uN b))]) (sz := 1) rfl (fun _ => rfl) fun ab h9 _ l9 _ own => ?_
  have row := own.rw (fun _ => rfl)
  have four : ∀ v ∈ [iN (addD (uN a) (uN b)), iN (if isNaND (uN b) = true then 9221120237041090560 else addD (uN a) (flipN (uN b))), iN (mulD (uN a) (uN b)), iN (divD (uN a) (uN b))], ∃ w, OutD (uN a) (uN b) w ∧ v = iN w := fun v hv => by
    simp only [List.mem_cons, List.not_mem_nil, or_false] at hv
    rcases hv with rfl | rfl | rfl | rfl
    · exact ⟨_, oA, rfl⟩
    · exact ⟨_, oS, rfl⟩
    · exact ⟨_, oM, rfl⟩
    · exact ⟨_, oD, rfl⟩
  have vl0 : [iN (addD (uN a) (uN b)), iN (if isNaND (uN b) = true then 9221120237041090560 else addD (uN a) (flipN (uN b))), iN (mulD (uN a) (uN b)), iN (divD (uN a) (uN b))].length = 4 := rfl
  generalize [iN (addD (uN a) (uN b)), iN (if isNaND (uN b) = true then 9221120237041090560 else addD (uN a) (flipN (uN b))), iN (mulD (uN a) (uN b)), iN (divD (uN a) (uN b))] = vs at *
  have vl : vs.length = 4 := vl0
  have env9 := env.mono l9
  refine LoopW1.intro (fun t k => k = h9 ∧ 0 ≤ t ∧ t ≤ 4) (fun t _ => (4 - t).toNat) ⟨rfl, by decide, by decide⟩ ?_
  rintro t k ⟨rfl, t0, t4⟩
  by_cases ht : t < 4
  · refine iteT (decide_eq_true ht) ?_
    have inb := Rs.get (sh := shInt .i64) row (fun _ => rfl) (by decide) t0 (by omega) (K := fun x => CallT Tryz.prog n_firebreaklaw05_isNaN [(.int .i64 x)] shBool (fun r8 h11 =>
      LetW (r8 && (x != (9221120237041090560 : Int))) fun y3 =>
      EffC (some (!y3)) (CallT Tryz.prog n_firebreaklaw05_isNaN [(.int .i64 a)] shBool) (fun r9 h12 =>
      EffC (some ((!y3) && (!r9))) (CallT Tryz.prog n_firebreaklaw05_isNaN [(.int .i64 b)] shBool) (fun r10 h13 =>
      LetW (r9 || r10) fun y4 =>
      LetW (y4 && (x != (9221120237041090560 : Int))) fun y5 =>
      LetW (y3 || y5) fun y6 =>
      (if y6 = true then
      Q false h13
      else
      ((IntKind.wrap .i64 (t + (1 : Int))) |> fun t' => (h13 = k ∧ 0 ≤ t' ∧ t' ≤ 4) ∧ (4 - t').toNat < (4 - t).toNat))) h12) h11) k) fun v hv => ?_
    · rw [vl] at inb
      exact inb
    obtain ⟨w, ow, rfl⟩ := four v (List.mem_of_getElem? hv)
    refine firebreaklaw05_isNaN_call (lawNaN_ok (letW ?_))
    rw [uN_iN ow.1]
    have y3 : (isNaND w && (iN w != (9221120237041090560 : Int))) = false := by
      cases hn : isNaND w with
      | true => rw [ow.2.1 hn, nanI, ne]; rfl
      | false => rfl
    rw [y3]
    refine effT (firebreaklaw05_isNaN_call (lawNaN_ok ?_))
    have other : ∀ {K : Bool → Hp → Prop} (_ : ∀ r, ((isNaND (uN a) || r) = true → isNaND (uN a) = true ∨ isNaND (uN b) = true) → K r k),
        EffC (some ((!false) && (!isNaND (uN a)))) (CallT Tryz.prog n_firebreaklaw05_isNaN [(.int .i64 b)] shBool) K k := fun {K} hK => by
      cases hn : isNaND (uN a) with
      | true => exact effF rfl true (hK true fun _ => .inl hn)
      | false => exact effB rfl (firebreaklaw05_isNaN_call (lawNaN_ok (hK _ fun e => .inr (by rw [hn] at e; exact e))))
    refine other fun r hr => letW (letW (letW ?_))
    have y5 : (false || ((isNaND (uN a) || r) && (iN w != (9221120237041090560 : Int)))) = false := by
      cases hn : (isNaND (uN a) || r) with
      | true => rw [ow.2.2 (hr hn), nanI, ne]; rfl
      | false => rfl
    rw [y5]
    refine iteF (by decide) ?_
    dsimp only
    rw [wrap64 (n := t + 1) (by omega) (by omega)]
    exact ⟨⟨rfl, by omega, by omega⟩, by omega⟩
  · refine iteF (fun hh => ht (of_decide_eq_true hh)) ?_
    refine firebreaklaw05_do_call (do_ok op19 (firebreaklaw05_do_call (do_ok op19 ?_)))
    rw [fltD_below, fltD_below]
    obtain ⟨b1, b2, b3, b4⟩ := below_bounds (a := uN a) (b := uN b)
    have df : uN a % 9223372036854775808 < 9218868437227405312 → uN b % 9223372036854775808 < 9218868437227405312 → (belowD (uN a) (uN b) = 1 ↔ belowD (addD (uN a) (flipN (uN b))) 0 = 1) := fun fa fb => diff_sign lx ly fa fb
    generalize belowD (uN a) (uN b) = L at *
    generalize belowD (uN b) (uN a) = M at *
    rw [decide_eq_false (show ¬ L < 0 by omega), decide_eq_false (show ¬ M < 0 by omega)]
    rw [wrap64 (n := L + M) (by omega) (by omega), decide_eq_false (show ¬ L + M > 1 by omega)]
    refine letW (letW (effT (firebreaklaw05_isNaN_call (lawNaN_ok ?_))))
    have other : ∀ {K : Bool → Hp → Prop} (_ : ∀ r, ((isNaND (uN a) || r) = true → isNaND (uN a) = true ∨ isNaND (uN b) = true) → K r k),
        EffC (some ((!((false || false) || false)) && (!isNaND (uN a)))) (CallT Tryz.prog n_firebreaklaw05_isNaN [(.int .i64 b)] shBool) K k := fun {K} hK => by
      cases hn : isNaND (uN a) with
      | true => exact effF rfl true (hK true fun _ => .inl hn)
      | false => exact effB rfl (firebreaklaw05_isNaN_call (lawNaN_ok (hK _ fun e => .inr (by rw [hn] at e; exact e))))
    refine other fun r hr => letW (letW (letW ?_))
    have y7 : (((false || false) || false) || ((isNaND (uN a) || r) && decide (L + M > 0))) = false := by
      cases hn : (isNaND (uN a) || r) with
      | true => rw [decide_eq_false (show ¬ L + M > 0 by have := b4 (hr hn); omega)]; rfl
      | false => rfl
    rw [y7]
    refine iteF (by decide) (firebreaklaw05_isNaN_call (lawNaN_ok ?_))
    by_cases na : isNaND (uN a) = true
    · refine iteT na (firebreaklaw05_do_call (do_ok op21 ?_))
      rw [fltD_whole, show wholeD (uN a) = 0 by unfold wholeD; dsimp only; rw [if_pos na]]
      exact effT (firebreaklaw05_fixed_call (fixed_ok env9 fun h' hl => letW (hq h' (Hp.le_trans l9 hl))))
    · refine iteF na (firebreaklaw05_do_call (do_ok op17 ?_))
      rw [fltD_mul, show uN 4607182418800017408 = 4607182418800017408 by decide, mul_one_D lx na, ex, ne]
      refine effT (firebreaklaw05_do_call (do_ok op18 ?_))
      rw [fltD_div, show uN 4607182418800017408 = 4607182418800017408 by decide, div_one_D lx na, ex, ne]
      refine letW (effT (firebreaklaw05_do_call (do_ok op15 ?_)))
      rw [fltD_add, show uN (-9223372036854775808) = 9223372036854775808 by decide, add_zero_D lx na, ex, ne]
      refine letW (iteF (by decide) (firebreaklaw05_isNaN_call (lawNaN_ok (letW (letW ?_)))))
      rw [andNot_mod, andNot_mod]
      have last : ∀ {K : Int → Hp → Prop} (_ : ∀ x, (((!isNaND (uN b)) && (((uN a % 9223372036854775808 : Nat) : Int) != (9218868437227405312 : Int)) && (((uN b % 9223372036854775808 : Nat) : Int) != (9218868437227405312 : Int))) = true → (L = 1 ↔ x = 1)) → K x k),
          EffC (some ((!isNaND (uN b)) && (((uN a % 9223372036854775808 : Nat) : Int) != (9218868437227405312 : Int)) && (((uN b % 9223372036854775808 : Nat) : Int) != (9218868437227405312 : Int)))) (CallT Tryz.prog n_firebreaklaw05_do [(.int .i64 (19 : Int)), (.int .i64 (iN (if isNaND (uN b) = true then 9221120237041090560 else addD (uN a) (flipN (uN b))))), (.int .i64 (0 : Int))] (shInt .i64)) K k := fun {K} hK => by
        cases hc : ((!isNaND (uN b)) && (((uN a % 9223372036854775808 : Nat) : Int) != (9218868437227405312 : Int)) && (((uN b % 9223372036854775808 : Nat) : Int) != (9218868437227405312 : Int))) with
        | false => exact effF rfl (0 : Int) (hK 0 fun e => by rw [hc] at e; cases e)
        | true =>
          refine effB rfl (firebreaklaw05_do_call (do_ok op19 ?_))
          rw [Bool.and_eq_true, Bool.and_eq_true] at hc
          obtain ⟨⟨c1, c2⟩, c3⟩ := hc
          have c1 : isNaND (uN b) = false := by simpa using c1
          have c2 := bne_iff_ne.1 c2
          have c3 := bne_iff_ne.1 c3
          have na' : ¬ 9218868437227405312 < uN a % 9223372036854775808 := fun h => na (decide_eq_true h)
          have nb' : ¬ 9218868437227405312 < uN b % 9223372036854775808 := of_decide_eq_false c1
          have d := df (by omega) (by omega)
          rw [fltD_below, if_neg (by rw [c1]; decide), uN_iN oF.1, show uN 0 = 0 by decide]
          exact hK _ fun _ => d
      refine last fun x hx => letW ?_
      generalize ((!isNaND (uN b)) && (((uN a % 9223372036854775808 : Nat) : Int) != (9218868437227405312 : Int)) && (((uN b % 9223372036854775808 : Nat) : Int) != (9218868437227405312 : Int))) = C at hx ⊢
      have y12 : (C && (!((L == (1 : Int)) == (x == (1 : Int))))) = false := by
        cases C with
        | false => rfl
        | true =>
          have hx := hx rfl
          by_cases hL : L = 1
          · rw [hL, hx.1 hL]; rfl
          · have : ¬ x = 1 := fun e => hL (hx.2 e)
            rw [beq_eq_false_iff_ne.2 hL, beq_eq_false_iff_ne.2 this]; rfl
      rw [y12]
      exact iteF (by decide) (firebreaklaw05_fixed_call (fixed_ok env9 fun h' hl => hq h' (Hp.le_trans l9 hl)))
end
end Lf

