/-
  Part 5 of the texts that the claim leans on.
-/
import Derived.Test.YtfcckhafmajceaaGreatDoorCards
import Derived.Test.YtfcckhafmajceaaGreatDoorTie
import Derived.Test.YtfcckhafmajceaaGreatDoorMgFltNames3
/-
  Texts that are read as floats: digits, a point, an exponent.
-/
set_option autoImplicit false
namespace Lf
open Go Go.Proofs

theorem effF {α : Type} {b : Bool} {A : (α → Hp → Prop) → Hp → Prop} {K : α → Hp → Prop} {h : Hp} (hb : b = false) (x : α) (hk : K x h) : EffC (some b) A K h := ⟨fun e => (by rw [hb] at e; cases e), fun _ => ⟨x, hk⟩⟩

/-- Digits with a point behind the first one. -/
def manL (c : Nat) (ds : List Nat) : List Nat := c :: (if ds = [] then [] else 46 :: ds)
/-- A float's text. -/
def fltL (neg : Bool) (c : Nat) (ds : List Nat) (eneg : Bool) (xs : List Nat) : List Nat := (if neg then [45] else []) ++ (manL c ds ++ 101 :: ((if eneg then [45] else []) ++ xs))

def sgnN (b : Bool) : Nat := if b then 1 else 0

theorem sgn_len (b : Bool) : (if b then [45] else [] : List Nat).length = sgnN b := by cases b <;> rfl

theorem manL_len (c : Nat) (ds : List Nat) : (manL c ds).length = if ds = [] then 1 else ds.length + 2 := by
  unfold manL
  split <;> simp

section
variable {neg eneg : Bool} {c : Nat} {ds xs : List Nat}

theorem fltL_len : (fltL neg c ds eneg xs).length = sgnN neg + (manL c ds).length + 1 + sgnN eneg + xs.length := by
  unfold fltL
  rw [List.length_append, List.length_append, List.length_cons, List.length_append, sgn_len, sgn_len]
  omega

theorem fltL_man {j : Nat} (hj : j < (manL c ds).length) : (fltL neg c ds eneg xs)[sgnN neg + j]? = (manL c ds)[j]? := by
  unfold fltL
  rw [List.getElem?_append_right (by rw [sgn_len]; omega), sgn_len, show sgnN neg + j - sgnN neg = j by omega, List.getElem?_append_left hj]

theorem fltL_e : (fltL neg c ds eneg xs)[sgnN neg + (manL c ds).length]? = some 101 := by
  unfold fltL
  rw [List.getElem?_append_right (by rw [sgn_len]; omega), sgn_len, show sgnN neg + (manL c ds).length - sgnN neg = (manL c ds).length by omega, List.getElem?_append_right (Nat.le_refl _), Nat.sub_self]
  rfl

theorem fltL_x {j : Nat} (hj : j < xs.length) : (fltL neg c ds eneg xs)[sgnN neg + (manL c ds).length + 1 + sgnN eneg + j]? = xs[j]? := by
  unfold fltL
  rw [List.getElem?_append_right (by rw [sgn_len]; omega), sgn_len, List.getElem?_append_right (by omega), show sgnN neg + (manL c ds).length + 1 + sgnN eneg + j - sgnN neg - (manL c ds).length = sgnN eneg + j + 1 by omega, List.getElem?_cons_succ,
    List.getElem?_append_right (by rw [sgn_len]; omega), sgn_len, show sgnN eneg + j - sgnN eneg = j by omega]

/-- How many digits are read. -/
def dgN (j : Nat) : Nat := if j ≤ 1 then j else j - 1

theorem numV_cons_le {zs : List Nat} (hz : ∀ z ∈ zs, 48 ≤ z ∧ z < 58) (hl : zs.length ≤ 18) (k : Nat) : numV (zs.take k) < 1000000000000000000 := by
  have h1 := numV_lt (zs := zs.take k) fun z hz' => hz z (List.mem_of_mem_take hz')
  have h2 : 10 ^ (zs.take k).length ≤ 10 ^ 18 := Nat.pow_le_pow_right (by decide) (by rw [List.length_take]; omega)
  omega

theorem manL_at {j : Nat} (hj : j < (manL c ds).length) : (j = 1 ∧ ds ≠ [] ∧ (manL c ds)[j]? = some 46) ∨ (j ≠ 1 ∧ ∃ z, (manL c ds)[j]? = some z ∧ (c :: ds)[dgN j]? = some z) := by
  rw [manL_len] at hj
  unfold manL dgN
  rcases (show j = 0 ∨ j = 1 ∨ 2 ≤ j by omega) with rfl | rfl | h2
  · exact .inr ⟨by decide, c, rfl, rfl⟩
  · left
    by_cases hd : ds = []
    · rw [if_pos hd] at hj; omega
    · exact ⟨rfl, hd, by rw [if_neg hd]; rfl⟩
  · right
    by_cases hd : ds = []
    · rw [if_pos hd] at hj; omega
    · rw [if_neg hd] at hj
      obtain ⟨i, rfl⟩ : ∃ i, j = i + 2 := ⟨j - 2, by omega⟩
      have hi : i < ds.length := by omega
      refine ⟨by omega, ds[i], ?_, ?_⟩
      · rw [if_neg hd, List.getElem?_cons_succ, List.getElem?_cons_succ, List.getElem?_eq_getElem hi]
      · rw [if_neg (by omega), show i + 2 - 1 = i + 1 by omega, List.getElem?_cons_succ, List.getElem?_eq_getElem hi]

variable {h : Hp}

theorem lower_ok {x : Int} {Q : Int → Hp → Prop} (hq : Q (bitsI .or .u8 x 32) h) : internal_strconv_lower_w Tryz.prog x Q h := by
  unfold internal_strconv_lower_w
  exact hq

theorem readFloat_ok {Q : Int → Int → Bool → Bool → Bool → Int → Bool → Hp → Prop} (hc : 49 ≤ c ∧ c < 58) (hds : ∀ d ∈ ds, 48 ≤ d ∧ d < 58) (hl : ds.length ≤ 17) (hxs : ∀ x ∈ xs, 48 ≤ x ∧ x < 58) (x1 : 1 ≤ xs.length) (x2 : xs.length ≤ 4)
    (hq : Q (numV (c :: ds) : Int) ((if eneg then -(numV xs : Int) else numV xs) - (ds.length : Int)) neg false false ((fltL neg c ds eneg xs).length : Int) true h) : internal_strconv_readFloat_w Tryz.prog (strN (fltL neg c ds eneg xs)) Q h := by
  have hcd : ∀ z ∈ c :: ds, 48 ≤ z ∧ z < 58 := fun z hz => by
    rcases List.mem_cons.1 hz with rfl | hz
    · omega
    · exact hds z hz
  have hcl : (c :: ds).length ≤ 18 := by rw [List.length_cons]; omega
  have hm := manL_len c ds
  have hm2 : 1 ≤ (manL c ds).length ∧ (manL c ds).length ≤ 19 := by rw [hm]; split <;> omega
  have hL := fltL_len (neg := neg) (c := c) (ds := ds) (eneg := eneg) (xs := xs)
  have hs0 : sgnN neg ≤ 1 := by unfold sgnN; split <;> omega
  have hs1 : sgnN eneg ≤ 1 := by unfold sgnN; split <;> omega
  have gM := @fltL_man neg eneg c ds xs
  have gE := @fltL_e neg eneg c ds xs
  have gX := @fltL_x neg eneg c ds xs
  have g0 : (fltL neg c ds eneg xs)[0]? = some (if neg then 45 else c) := by
    unfold fltL manL
    cases neg <;> rfl
  have gS : (fltL neg c ds eneg xs)[sgnN neg + (manL c ds).length + 1]? = if eneg then some 45 else xs[0]? := by
    cases eneg with
    | false => have := gX (j := 0) (by omega); simpa [sgnN] using this
    | true =>
      unfold fltL
      rw [List.getElem?_append_right (by rw [sgn_len]; omega), sgn_len, List.getElem?_append_right (by omega), show sgnN neg + (manL c ds).length + 1 - sgnN neg - (manL c ds).length = 1 by omega]
      rfl
  generalize hT : fltL neg c ds eneg xs = T at *
  have chr : ∀ {i x : Nat}, T[i]? = some x → x < 256 → UInt8.toNat (List.getD (strN T).data.toList (Int.toNat ((i : Nat) : Int)) 0) = x := fun {i x} e hx => by rw [Int.toNat_natCast]; exact strN_get e hx
  unfold internal_strconv_readFloat_w
  rw [strN_size]
  refine iteF (fun hh => by have := of_decide_eq_true hh; omega) ⟨⟨by decide, by omega⟩, ?_⟩
  have c0 := strN_get g0 (by split <;> omega)
  rw [c0]
  refine JoinW2.intro (fun n i k => k = h ∧ neg = n ∧ i = ((sgnN neg : Nat) : Int)) ?_ ?_
  · cases neg with
    | true => exact iteF (by show ¬ (((45 : Nat) : Int) == 43) = true; decide) (iteT (by show (((45 : Nat) : Int) == 45) = true; decide) ⟨rfl, rfl, rfl⟩)
    | false => exact iteF (fun hh => by have : ((c : Nat) : Int) = 43 := beq_iff_eq.1 hh; omega) (iteF (fun hh => by have : ((c : Nat) : Int) = 45 := beq_iff_eq.1 hh; omega) ⟨rfl, rfl, rfl⟩)
  rintro _ _ h ⟨rfl, rfl, rfl⟩
  have cM0 : T[sgnN neg]? = some c := by have := gM (j := 0) (by omega); rw [Nat.add_zero] at this; rw [this]; rfl
  refine JoinW5.intro (fun hx i b m e k => k = h ∧ hx = false ∧ i = ((sgnN neg : Nat) : Int) ∧ b = 10 ∧ m = 19 ∧ e = 101) ?_ ?_
  · rw [chr cM0 (by omega)]
    refine ⟨fun _ => ⟨by omega, by omega⟩, letW ?_⟩
    have hy : ((decide (IntKind.wrap .i64 (((sgnN neg : Nat) : Int) + 2) < (T.length : Int))) && (((c : Nat) : Int) == 48)) = false := by
      rw [Bool.and_eq_false_iff]
      right
      rw [Bool.eq_false_iff]
      intro hh
      have : ((c : Nat) : Int) = 48 := beq_iff_eq.1 hh
      omega
    rw [hy]
    refine ⟨fun e => (by cases e), effF rfl (0 : Int) (letW (iteF (by decide) ⟨rfl, rfl, rfl, rfl, rfl, rfl⟩))⟩
  rintro _ _ _ _ _ h ⟨rfl, rfl, rfl, rfl, rfl, rfl⟩
  -- the digits
  refine JoinW9.intro (fun m tr i us sd sg nd ndm dp k => k = h ∧ m = (numV (c :: ds) : Int) ∧ tr = false ∧ i = ((sgnN neg + (manL c ds).length : Nat) : Int) ∧ us = false ∧ sd = decide (ds ≠ []) ∧ sg = true ∧ nd = ((ds.length + 1 : Nat) : Int) ∧ ndm = ((ds.length + 1 : Nat) : Int) ∧ dp = if ds = [] then 0 else 1) ?_ ?_
  · refine LoopW9.intro (fun m tr i us sd sg nd ndm dp k => k = h ∧ ∃ j : Nat, j ≤ (manL c ds).length ∧ m = (numV ((c :: ds).take (dgN j)) : Int) ∧ tr = false ∧ i = ((sgnN neg + j : Nat) : Int) ∧ us = false ∧ sd = decide (2 ≤ j) ∧ sg = decide (1 ≤ j) ∧ nd = ((dgN j : Nat) : Int) ∧ ndm = ((dgN j : Nat) : Int) ∧ dp = if 2 ≤ j then 1 else 0)
      (fun _ _ i _ _ _ _ _ _ _ => (T.length - i).toNat) ⟨rfl, 0, by omega, by simp [dgN, numV], rfl, by simp, rfl, by decide, by decide, rfl, rfl, rfl⟩ ?_
    rintro _ _ _ _ _ _ _ _ _ h ⟨rfl, j, hj, rfl, rfl, rfl, rfl, rfl, rfl, rfl, rfl, rfl⟩
    have nw : ∀ {n : Nat}, n < 1000 → IntKind.wrap .i64 ((n : Int) + 1) = ((n + 1 : Nat) : Int) := fun {n} hn => by rw [wrap64 (by omega) (by omega)]; omega
    refine iteT (decide_eq_true (by omega)) ?_
    by_cases hjm : j < (manL c ds).length
    · have gj := gM hjm
      rcases manL_at hjm with ⟨rfl, hd, ha⟩ | ⟨hj1, z, ha, hz⟩
      · -- the point
        rw [ha] at gj
        rw [chr gj (by decide)]
        have hd1 : 2 ≤ (manL c ds).length := by rw [hm, if_neg hd]; omega
        refine JoinW8.direct ⟨⟨by omega, by omega⟩, iteF (by decide) (iteT (by decide) (iteF (by decide) ⟨⟨rfl, 2, hd1, rfl, rfl, ?_, rfl, rfl, rfl, rfl, rfl, rfl⟩, ?_⟩))⟩
        · exact nw (by omega)
        · rw [nw (by omega)]; omega
      · -- a digit
        rw [ha] at gj
        have hz2 := hcd z (List.mem_of_getElem? hz)
        rw [chr gj (by omega)]
        have hdg : dgN j < (c :: ds).length := (List.getElem?_eq_some_iff.1 hz).1
        have hdg1 : dgN (j + 1) = dgN j + 1 := by unfold dgN; split <;> split <;> omega
        have hsn : numV ((c :: ds).take (dgN (j + 1))) = 10 * numV ((c :: ds).take (dgN j)) + (z - 48) := by rw [hdg1, List.take_add_one, hz]; exact numV_snoc _ _
        have hb1 := numV_cons_le hcd hcl (dgN j)
        have hz0 : j = 0 → z = c := fun e => by subst e; exact (Option.some.inj hz).symm
        refine JoinW8.direct ⟨⟨by omega, by omega⟩, iteF (fun hh => by have : ((z : Nat) : Int) = 95 := beq_iff_eq.1 (eq_of_beq hh).symm; omega) (iteF (fun hh => by have : ((z : Nat) : Int) = 46 := beq_iff_eq.1 (eq_of_beq hh).symm; omega) (letW (iteT ?_ (letW (iteF (fun hh => ?_) (iteT (decide_eq_true (by omega)) ?_))))))⟩
        · rw [decide_eq_true (by omega), decide_eq_true (by omega)]; rfl
        · rw [Bool.and_eq_true] at hh
          have e1 : ((z : Nat) : Int) = 48 := beq_iff_eq.1 hh.1
          have e2 : ((dgN j : Nat) : Int) = 0 := beq_iff_eq.1 hh.2
          have : j = 0 := by unfold dgN at e2; split at e2 <;> omega
          have := hz0 this
          omega
        · have ew : IntKind.wrap .u64 ((IntKind.wrap .u64 ((numV ((c :: ds).take (dgN j)) : Int) * 10)) + (IntKind.wrap .u64 (IntKind.wrap .u8 (((z : Nat) : Int) - 48)))) = (numV ((c :: ds).take (dgN (j + 1))) : Int) := by
            rw [hsn, byte8, wrapU64, wrapU64, wrapU64]
            omega
          rw [ew, nw (n := dgN j) (by omega), nw (n := sgnN neg + j) (by omega)]
          refine ⟨⟨rfl, j + 1, by omega, rfl, rfl, by omega, rfl, ?_, ?_, by rw [hdg1], by rw [hdg1], ?_⟩, by omega⟩
          · exact decide_eq_decide.2 (by omega)
          · rw [decide_eq_true (by omega)]
          · by_cases c2 : 2 ≤ j
            · rw [if_pos c2, if_pos (by omega)]
            · rw [if_neg c2, if_neg (by omega)]
    · -- behind them
      have hje : j = (manL c ds).length := by omega
      rw [← hje] at gE
      rw [chr gE (by decide)]
      refine JoinW8.direct ⟨⟨by omega, by omega⟩, iteF (by decide) (iteF (by decide) (letW (iteF (by decide) (effF (by decide) (0 : Int) (letW (effF (by decide) (0 : Int) (letW (iteF (by decide) ?_))))))))⟩
      have hdj : dgN j = ds.length + 1 := by
        rw [hje, hm]
        unfold dgN
        by_cases hd : ds = []
        · rw [if_pos hd, hd]; rfl
        · have := List.length_pos_iff.2 hd
          rw [if_neg hd, if_neg (by omega)]
          omega
      have hall : (c :: ds).take (dgN j) = c :: ds := List.take_of_length_le (by rw [hdj]; exact Nat.le_refl _)
      refine ⟨rfl, by rw [hall], rfl, by rw [hje], rfl, ?_, by rw [decide_eq_true (by omega)], by rw [hdj], by rw [hdj], ?_⟩
      · by_cases hd : ds = []
        · rw [hje, hm, if_pos hd, decide_eq_false (by omega), decide_eq_false (fun h => h hd)]
        · rw [hje, hm, if_neg hd, decide_eq_true (by omega), decide_eq_true hd]
      · rw [hje, hm]
        by_cases hd : ds = []
        · rw [if_pos hd, if_pos hd, if_neg (by omega)]
        · rw [if_neg hd, if_neg hd, if_pos (by omega)]
  rintro _ _ _ _ _ _ _ _ _ h ⟨rfl, rfl, rfl, rfl, rfl, rfl, rfl, rfl, rfl, rfl⟩
  refine iteF (by decide) ?_
  refine JoinW1.intro (fun dp k => k = h ∧ dp = 1) ?_ ?_
  · by_cases hd : ds = []
    · subst hd
      exact iteT (by decide) ⟨rfl, rfl⟩
    · refine iteF (by rw [decide_eq_true hd]; decide) ⟨rfl, by rw [if_neg hd]⟩
  rintro _ h ⟨rfl, rfl⟩
  refine JoinW2.direct (iteF (by decide) ?_)
  -- the exponent
  have hxb : ∀ k, numV (xs.take k) < 10000 := fun k => by
    have h1 := numV_lt (zs := xs.take k) fun z hz' => hxs z (List.mem_of_mem_take hz')
    have h2 : 10 ^ (xs.take k).length ≤ 10 ^ 4 := Nat.pow_le_pow_right (by decide) (by rw [List.length_take]; omega)
    omega
  have hxb' : numV xs < 10000 := by have := hxb xs.length; rw [List.take_of_length_le (Nat.le_refl _)] at this; exact this
  refine JoinW3.intro (fun i us dp k => k = h ∧ i = (T.length : Int) ∧ us = false ∧ dp = 1 + if eneg then -(numV xs : Int) else numV xs) ?_ ?_
  · rw [chr gE (by decide), decide_eq_true (show ((sgnN neg + (manL c ds).length : Nat) : Int) < (T.length : Int) by omega)]
    refine ⟨fun _ => ⟨by omega, by omega⟩, effT (internal_strconv_lower_call (lower_ok (letW (iteT (by decide) ?_))))⟩
    have ei : IntKind.wrap .i64 (((sgnN neg + (manL c ds).length : Nat) : Int) + 1) = ((sgnN neg + (manL c ds).length + 1 : Nat) : Int) := by rw [wrap64 (by omega) (by omega)]; omega
    rw [ei]
    refine iteF (fun hh => by have := of_decide_eq_true hh; omega) ⟨⟨by omega, by omega⟩, ?_⟩
    obtain ⟨y, gy, hy⟩ : ∃ y, xs[0]? = some y ∧ 48 ≤ y ∧ y < 58 := ⟨xs[0], List.getElem?_eq_getElem (by omega), hxs _ (List.getElem_mem _)⟩
    refine JoinW2.intro (fun i e k => k = h ∧ i = ((sgnN neg + (manL c ds).length + 1 + sgnN eneg : Nat) : Int) ∧ e = if eneg then -1 else 1) ?_ ?_
    · cases eneg with
      | true =>
        rw [chr (x := 45) gS (by decide)]
        refine iteF (by decide) (iteT (by decide) ⟨rfl, ?_, rfl⟩)
        rw [wrap64 (by omega) (by omega)]
        show _ = ((_ + 1 : Nat) : Int)
        omega
      | false =>
        rw [chr (x := y) (by rw [gS]; exact gy) (by omega)]
        exact iteF (fun hh => by have : ((y : Nat) : Int) = 43 := beq_iff_eq.1 hh; omega) (iteF (fun hh => by have : ((y : Nat) : Int) = 45 := beq_iff_eq.1 hh; omega) ⟨rfl, rfl, rfl⟩)
    rintro _ _ h ⟨rfl, rfl, rfl⟩
    have gx0 := gX (j := 0) (by omega)
    rw [Nat.add_zero, gy] at gx0
    rw [chr gx0 (by omega)]
    have n1 : ¬ ((sgnN neg + (manL c ds).length + 1 + sgnN eneg : Nat) : Int) ≥ (T.length : Int) := by omega
    refine ⟨fun _ => ⟨by omega, by omega⟩, letW ⟨fun _ => ⟨by omega, by omega⟩, letW (iteF (fun hh => ?_) ?_)⟩⟩
    · rw [Bool.or_eq_true, Bool.or_eq_true] at hh
      rcases hh with (hh | hh) | hh
      · exact n1 (of_decide_eq_true hh)
      · have := of_decide_eq_true hh; omega
      · have := of_decide_eq_true hh; omega
    refine LoopW3.intro (fun i us e k => k = h ∧ ∃ j : Nat, j ≤ xs.length ∧ i = ((sgnN neg + (manL c ds).length + 1 + sgnN eneg + j : Nat) : Int) ∧ us = false ∧ e = (numV (xs.take j) : Int)) (fun i _ _ _ => (T.length - i).toNat) ⟨rfl, 0, by omega, rfl, rfl, by simp [numV]⟩ ?_
    rintro _ _ _ h ⟨rfl, j, hj, rfl, rfl, rfl⟩
    by_cases hlt : j < xs.length
    · have gj := gX hlt
      have gz : xs[j]? = some xs[j] := List.getElem?_eq_getElem hlt
      obtain ⟨z0, z1⟩ := hxs _ (List.getElem_mem hlt)
      rw [gz] at gj
      have hsn : numV (xs.take (j + 1)) = 10 * numV (xs.take j) + (xs[j] - 48) := by rw [List.take_add_one, gz]; exact numV_snoc _ _
      have hb1 := hxb j
      have hb2 := hxb (j + 1)
      rw [chr gj (by omega)]
      generalize xs[j] = z at *
      have e1 : ((decide ((48 : Int) ≤ ((z : Nat) : Int))) && (decide (((z : Nat) : Int) ≤ (57 : Int)))) = true := by rw [decide_eq_true (by omega), decide_eq_true (by omega)]; rfl
      have e2 : decide (((sgnN neg + (manL c ds).length + 1 + sgnN eneg + j : Nat) : Int) < (T.length : Int)) = true := decide_eq_true (by omega)
      refine ⟨fun _ => ⟨by omega, by omega⟩, fun _ => ⟨by omega, by omega⟩, letW ⟨fun _ => ⟨by omega, by omega⟩, letW (letW (iteT (by rw [e1, e2]; rfl) ?_))⟩⟩
      have e3 : decide ((numV (xs.take j) : Int) < (10000 : Int)) = true := decide_eq_true (by omega)
      rw [e3]
      refine JoinW2.direct ⟨⟨by omega, by omega⟩, iteF (fun hh => by have : ((z : Nat) : Int) = 95 := beq_iff_eq.1 hh; omega) (iteT rfl ⟨⟨by omega, by omega⟩, ?_⟩)⟩
      refine ⟨⟨rfl, j + 1, hlt, ?_, rfl, ?_⟩, ?_⟩
      · rw [wrap64 (by omega) (by omega)]; omega
      · rw [wrap64 (n := (numV (xs.take j) : Int) * 10) (by omega) (by omega), wrap64 (n := ((z : Nat) : Int)) (by omega) (by omega), wrap64 (n := (numV (xs.take j) : Int) * 10 + (z : Int)) (by omega) (by omega), wrap64 (by omega) (by omega), hsn]
        omega
      · rw [wrap64 (by omega) (by omega)]; omega
    · have hje : j = xs.length := by omega
      have e2 : decide (((sgnN neg + (manL c ds).length + 1 + sgnN eneg + j : Nat) : Int) < (T.length : Int)) = false := decide_eq_false (by omega)
      rw [e2]
      refine ⟨fun e => (by cases e), fun e => (by cases e), letW ⟨fun e => (by cases e), letW (letW (iteF (by rw [Bool.false_and]; decide) ⟨rfl, by omega, rfl, ?_⟩))⟩⟩
      rw [hje, List.take_of_length_le (Nat.le_refl _)]
      have key : ∀ x : Int, -10000 ≤ x → x ≤ 10000 → IntKind.wrap .i64 (1 + IntKind.wrap .i64 x) = 1 + x := fun x a b => by rw [wrap64 (n := x) (by omega) (by omega), wrap64 (by omega) (by omega)]
      cases eneg with
      | true =>
        refine (key ((numV xs : Int) * -1) (by omega) (by omega)).trans ?_
        show 1 + (numV xs : Int) * -1 = 1 + -(numV xs : Int)
        omega
      | false =>
        refine (key ((numV xs : Int) * 1) (by omega) (by omega)).trans ?_
        show 1 + (numV xs : Int) * 1 = 1 + (numV xs : Int)
        omega
  rintro _ _ _ h ⟨rfl, rfl, rfl, rfl⟩
  have hpos : 0 < numV (c :: ds) := by
    have : ∀ (zs : List Nat) (n : Nat), 0 < n → 0 < zs.foldl (fun n z => 10 * n + (z - 48)) n := fun zs => by
      induction zs with
      | nil => intro n hn; exact hn
      | cons z zs ih => intro n hn; exact ih (10 * n + (z - 48)) (by omega)
    exact this ds (10 * 0 + (c - 48)) (by omega)
  refine JoinW1.intro (fun e k => k = h ∧ e = (if eneg then -(numV xs : Int) else numV xs) - (ds.length : Int)) (iteT (by exact bne_iff_ne.2 (by omega)) ⟨rfl, ?_⟩) ?_
  · have key : ∀ x : Int, -10000 ≤ x → x ≤ 10000 → IntKind.wrap .i64 (1 + x - ((ds.length + 1 : Nat) : Int)) = x - (ds.length : Int) := fun x a b => by rw [wrap64 (by omega) (by omega)]; omega
    exact key _ (by cases eneg <;> simp <;> omega) (by cases eneg <;> simp <;> omega)
  rintro _ h ⟨rfl, rfl⟩
  refine ⟨fun e => (by cases e), effF rfl true (letW (iteF (by decide) hq))⟩
end
end Lf

/-
  Texts that are read as floats.
-/
set_option autoImplicit false
namespace Lf
open Go Go.Proofs

def pow10F : List Nat := [4607182418800017408, 4621819117588971520, 4636737291354636288, 4652007308841189376, 4666723172467343360, 4681608360884174848, 4696837146684686336, 4711630319722168320, 4726483295884279808, 4741671816366391296, 4756540486875873280, 4771362005757984768, 4786511204640096256, 4801453603149578240, 4816244402031689728, 4831355200913801216, 4846369599423283200, 4861130398305394688, 4876203697187506176, 4891288408196988160, 4906019910204099648, 4921056587992461136, 4936209963552724370]

/-- What strconv's tables hold. -/
structure FEnv (h : Hp) : Prop where
  pow : Pow10 h
  small : Small10 h
  opt : LdIs h ⟨4, 0, none⟩ [.bool true]
  info : LdIs h ⟨6, 0, none⟩ [.int .u64 52]
  f10 : ∃ a c, LdIs h ⟨10, 0, none⟩ [.slice (some a) 23 c] ∧ LdIs h a (pow10F.map fun x => .float .f64 x)

theorem FEnv.mono {h h' : Hp} (e : FEnv h) (hl : h ≤ h') : FEnv h' := by
  obtain ⟨a, c, e1, e2⟩ := e.f10
  exact ⟨ldIs_mono hl e.pow, ldIs_mono hl e.small, ldIs_mono hl e.opt, ldIs_mono hl e.info, a, c, ldIs_mono hl e1, ldIs_mono hl e2⟩

section
variable {neg eneg : Bool} {c : Nat} {ds xs : List Nat} {h : Hp}

theorem prefix_ok {s p : ByteArray} {x y : Nat} {Q : Int → Hp → Prop} (hs : 1 ≤ s.size) (hp : 1 ≤ p.size) (hx : (s.data.toList.getD 0 0).toNat = x) (hy : (p.data.toList.getD 0 0).toNat = y) (hd : x < 65) (hne : x ≠ y) (hq : Q 0 h) : internal_strconv_commonPrefixLenIgnoreCase_w Tryz.prog s p Q h := by
  unfold internal_strconv_commonPrefixLenIgnoreCase_w
  refine LoopW1.intro (fun i k => i = 0 ∧ k = h) (fun _ _ => 0) ⟨rfl, rfl⟩ ?_
  rintro _ h ⟨rfl, rfl⟩
  have hm : (0 : Int) < min2I ((p.size : Nat) : Int) ((s.size : Nat) : Int) := by unfold min2I; split <;> omega
  rw [show Int.toNat 0 = 0 from rfl, hx, hy]
  refine iteT (decide_eq_true hm) ⟨⟨by decide, by omega⟩, JoinW1.direct (letW (iteF (fun hh => ?_) ⟨⟨by decide, by omega⟩, iteT (bne_iff_ne.2 (by omega)) hq⟩))⟩
  rw [Bool.and_eq_true] at hh
  have := of_decide_eq_true hh.1
  omega

theorem special_ok {Q : Nat → Int → Bool → Hp → Prop} (hc : 48 ≤ c ∧ c < 58) (hq : Q 0 0 false h) : internal_strconv_special_w Tryz.prog (strN (fltL neg c ds eneg xs)) Q h := by
  have hL := fltL_len (neg := neg) (c := c) (ds := ds) (eneg := eneg) (xs := xs)
  have hm := manL_len c ds
  have hm1 : 1 ≤ (manL c ds).length := by rw [hm]; split <;> omega
  have g0 : (fltL neg c ds eneg xs)[0]? = some (if neg then 45 else c) := by
    unfold fltL manL
    cases neg <;> rfl
  unfold internal_strconv_special_w
  rw [strN_get g0 (by split <;> omega), strN_size]
  refine iteF (fun hh => by have : ((fltL neg c ds eneg xs).length : Int) = 0 := beq_iff_eq.1 hh; omega) ⟨⟨by decide, by omega⟩, JoinW3.direct ?_⟩
  cases neg with
  | false =>
    have nc : ∀ n : Int, 58 ≤ n ∨ n < 48 → ¬ ((((if false = true then 45 else c : Nat) : Nat) : Int) == n) = true := fun n hn hh => by
      have : ((c : Nat) : Int) = n := beq_iff_eq.1 hh
      omega
    refine JoinW1.direct (iteF (nc 43 (by omega)) (iteF (nc 45 (by omega)) ?_))
    refine JoinW1.direct (iteF (nc 105 (by omega)) (iteF (nc 73 (by omega)) ?_))
    exact JoinW1.direct (iteF (nc 110 (by omega)) (iteF (nc 78 (by omega)) hq))
  | true =>
    refine JoinW1.direct (iteF (by show ¬ (((45 : Nat) : Int) == 43) = true; decide) (iteT (by show (((45 : Nat) : Int) == 45) = true; decide) ?_))
    refine JoinW1.direct ⟨⟨by decide, by omega⟩, iteT (by show (((45 : Nat) : Int) == 45) = true; decide) ⟨⟨by decide, by omega⟩, ?_⟩⟩
    have e : (strN (fltL true c ds eneg xs)).extract 1 (fltL true c ds eneg xs).length = strN (fltL false c ds eneg xs) := by
      rw [strN_extract _ _ _ (Nat.le_refl _), List.take_of_length_le (Nat.le_refl _)]
      rfl
    rw [e]
    have g1 : (fltL false c ds eneg xs)[0]? = some c := rfl
    have h1 := fltL_len (neg := false) (c := c) (ds := ds) (eneg := eneg) (xs := xs)
    refine internal_strconv_commonPrefixLenIgnoreCase_call (prefix_ok (x := c) (y := 105) (by rw [strN_size]; omega) (by decide) (strN_get g1 (by omega)) (by decide) (by omega) (by omega) ?_)
    exact JoinW1.direct (letW (iteF (by decide) (letW (iteF (by decide) hq))))

theorem atof64_exact {Q : Nat → Int → Leaf → Hp → Prop} (hc : 49 ≤ c ∧ c < 58) (hds : ∀ d ∈ ds, 48 ≤ d ∧ d < 58) (hl : ds.length ≤ 17) (hxs : ∀ x ∈ xs, 48 ≤ x ∧ x < 58) (x1 : 1 ≤ xs.length) (x2 : xs.length ≤ 4) (env : FEnv h)
    (p0 : -345 ≤ (if eneg then -(numV xs : Int) else numV xs) - (ds.length : Int)) (p1 : (if eneg then -(numV xs : Int) else numV xs) - (ds.length : Int) ≤ 310) (hn : numV (c :: ds) ≠ 0)
    {f : Nat} (hx : ∀ {Q' : Nat → Bool → Hp → Prop}, (∀ h', h ≤ h' → Q' f true h') → internal_strconv_atof64exact_w Tryz.prog (numV (c :: ds) : Int) ((if eneg then -(numV xs : Int) else numV xs) - (ds.length : Int)) neg Q' h)
    (hk : ∀ h' (e : Leaf), h ≤ h' → e.v = .nilIface → Q f ((fltL neg c ds eneg xs).length : Int) e h') : internal_strconv_atof64_w Tryz.prog (strN (fltL neg c ds eneg xs)) Q h := by
  unfold internal_strconv_atof64_w
  refine internal_strconv_special_call (special_ok (by omega) (iteF (by decide) ?_))
  refine internal_strconv_readFloat_call (readFloat_ok hc hds hl hxs x1 x2 (iteF (by decide) (iteF (by decide) (JoinW2.direct ?_))))
  refine ld_at (sh := shBool) true env.opt (iteT rfl ?_)
  refine internal_strconv_bool2_uint64_call (bool64_ok ⟨by decide, ?_⟩)
  generalize hp : (if eneg then -(numV xs : Int) else numV xs) - (ds.length : Int) = p at *
  refine iteF (fun hh => hn (by have : ((numV (c :: ds) : Nat) : Int) = 0 := beq_iff_eq.1 hh; omega)) ?_
  refine iteF (fun hh => by have : p > 310 := of_decide_eq_true hh; omega) (iteF (fun hh => by have : p < -345 := of_decide_eq_true hh; omega) (JoinW2.direct (iteT (by decide) ?_)))
  exact internal_strconv_atof64exact_call (hx fun h' hl => iteT rfl ⟨⟨.nilIface, rfl⟩, rfl, hk h' _ hl rfl⟩)

theorem parseFloat_exact {Q : Nat → Leaf → Hp → Prop} (hc : 49 ≤ c ∧ c < 58) (hds : ∀ d ∈ ds, 48 ≤ d ∧ d < 58) (hl : ds.length ≤ 17) (hxs : ∀ x ∈ xs, 48 ≤ x ∧ x < 58) (x1 : 1 ≤ xs.length) (x2 : xs.length ≤ 4) (env : FEnv h)
    (p0 : -345 ≤ (if eneg then -(numV xs : Int) else numV xs) - (ds.length : Int)) (p1 : (if eneg then -(numV xs : Int) else numV xs) - (ds.length : Int) ≤ 310) (hn : numV (c :: ds) ≠ 0)
    {f : Nat} (hx : ∀ {Q' : Nat → Bool → Hp → Prop}, (∀ h', h ≤ h' → Q' f true h') → internal_strconv_atof64exact_w Tryz.prog (numV (c :: ds) : Int) ((if eneg then -(numV xs : Int) else numV xs) - (ds.length : Int)) neg Q' h)
    (hk : ∀ h' (e : Leaf), h ≤ h' → Q f e h') : strconv_ParseFloat_w Tryz.prog (strN (fltL neg c ds eneg xs)) (64 : Int) Q h := by
  unfold strconv_ParseFloat_w
  refine internal_strconv_ParseFloat_call ?_
  unfold internal_strconv_ParseFloat_w
  refine internal_strconv_parseFloatPrefix_call ?_
  unfold internal_strconv_parseFloatPrefix_w
  refine iteF (by decide) (internal_strconv_atof64_call (atof64_exact hc hds hl hxs x1 x2 env p0 p1 hn hx fun h1 e l1 he => ⟨e, rfl, ?_⟩))
  rw [strN_size]
  refine iteF (fun hh => bne_iff_ne.1 hh rfl) ⟨e, rfl, ?_⟩
  dsimp only
  rw [he]
  exact ⟨rfl, iteF (by decide) ⟨⟨.nilIface, rfl⟩, rfl, hk _ _ l1⟩⟩

theorem conv_uf {b : Int} : SemIs Tryz.prog (convert 31 34 (.int .u64 b)) h (.float .f64 (f64.nearest b)) := by
  refine semIs_of_run fun w => ?_
  have u1 := run_underlying' (e := ty31) tb_ok (t := 31) rfl w
  have u2 := run_underlying' (e := ty34) tb_ok (t := 34) rfl w
  simp only [convert, Sem.run_bind, u1, u2, Result.andThen_ok]
  rfl

/-- A small number by a small power of ten. -/
theorem exact_div {m k : Nat} {q x f : Nat} {Q : Nat → Bool → Hp → Prop} (env : FEnv h) (hm : m < 4503599627370496) (hk0 : 0 < k) (hk : k ≤ 22) (hq : f64.nearest (m : Int) = q) (hx : pow10F[k]? = some x) (hf : f64.format.div q x = some f) (hok : ∀ h', h ≤ h' → Q f true h') :
    internal_strconv_atof64exact_w Tryz.prog (m : Int) (-(k : Int)) false Q h := by
  unfold internal_strconv_atof64exact_w
  have ea : Addr.add ⟨6, 0, none⟩ 0 = (⟨6, 0, none⟩ : Addr) := by rw [box_add]
  rw [ea]
  refine ld_at (sh := shInt .u64) (52 : Int) env.info ⟨by decide, ?_⟩
  have e0 : shrI .u64 (m : Int) (52 : Int) = ((m / 2 ^ 52 : Nat) : Int) := shrN m (n := 52) (by decide)
  rw [e0, show m / 2 ^ 52 = 0 by rw [Nat.div_eq_zero_iff]; right; exact hm]
  refine iteF (by decide) ⟨f64.nearest (m : Int), conv_uf, ?_⟩
  refine JoinW1.direct (iteF (by decide) (iteF (fun hh => by have : -(k : Int) = 0 := beq_iff_eq.1 hh; omega) (letW (iteF (fun hh => ?_) (letW (iteT ?_ ?_))))))
  · rw [Bool.and_eq_true] at hh
    have := of_decide_eq_true hh.1
    omega
  · rw [Bool.and_eq_true]
    exact ⟨decide_eq_true (by omega), decide_eq_true (by omega)⟩
  obtain ⟨a, c, e1, e2⟩ := env.f10
  have ek : IntKind.wrap .i64 ((0 : Int) - (-(k : Int))) = (k : Int) := by rw [wrap64 (by omega) (by omega)]; omega
  rw [ek]
  refine ld_at (sh := shSl) ⟨some a, 23, c⟩ e1 ⟨⟨by simp, by omega, by show (k : Int) < 23; omega⟩, ld_at (sh := shFlt .f64) x ?_ ?_⟩
  · show LdIs h (Addr.add a (Int.toNat (k : Int) * 1)) [.float .f64 x]
    rw [Int.toNat_natCast, Nat.mul_one]
    exact one_cell (e2 k _ (by rw [List.getElem?_map, hx]; rfl))
  · rw [hq]
    refine semE_float bin_div fun g g1 _ => ?_
    rw [g1 f hf]
    exact hok h (Hp.le_refl h)
end
end Lf

/-
  The calls whose answers the document fixes.
-/
set_option autoImplicit false
namespace Lf
open Go Go.Proofs

theorem tens_one {v w k l : Nat} (h : v * 10 ^ k = w * 10 ^ l) (hv : v % 10 ≠ 0) (hw : w % 10 ≠ 0) : k = l ∧ v = w := by
  have key : ∀ {v w k l : Nat}, v * 10 ^ k = w * 10 ^ l → v % 10 ≠ 0 → ¬ k < l := fun {v w k l} h hv hlt => by
    obtain ⟨d, rfl⟩ : ∃ d, l = k + (d + 1) := ⟨l - k - 1, by omega⟩
    rw [Nat.pow_add, ← Nat.mul_assoc, Nat.mul_right_comm] at h
    have := Nat.eq_of_mul_eq_mul_right (Nat.pow_pos (by decide)) h
    rw [Nat.pow_succ, ← Nat.mul_assoc] at this
    omega
  have : k = l := by
    have h1 := key h hv
    have h2 := key h.symm hw
    omega
  subst this
  exact ⟨rfl, Nat.eq_of_mul_eq_mul_right (Nat.pow_pos (by decide)) h⟩

theorem len_one {d n m : Nat} (h1 : 10 ^ (n - 1) ≤ d) (h2 : d < 10 ^ n) (h3 : 10 ^ (m - 1) ≤ d) (h4 : d < 10 ^ m) (n1 : 1 ≤ n) (m1 : 1 ≤ m) : n = m := by
  have a := (Nat.pow_lt_pow_iff_right (a := 10) (by decide)).1 (Nat.lt_of_le_of_lt h1 h4)
  have b := (Nat.pow_lt_pow_iff_right (a := 10) (by decide)).1 (Nat.lt_of_le_of_lt h3 h2)
  omega

theorem printedF_is {r : Nat} {neg : Bool} {out zs0 : List Nat} {v0 k0 n0 : Nat} {p : Int} (hp : PrintedF r neg out) (h : shortP (mS r) (eS r) = (v0 * 10 ^ k0, p)) (hv : v0 % 10 ≠ 0) (h1 : 10 ^ (n0 - 1) ≤ v0 * 10 ^ k0) (h2 : v0 * 10 ^ k0 < 10 ^ n0) (n1 : 1 ≤ n0)
    (hz : ∀ zs, NatTxt ((n0 : Int) + p - 1).natAbs zs → zs = zs0) : out = headL neg (n0 - k0) v0 ++ 101 :: (signL ((n0 : Int) + p - 1) ++ zs0) := by
  obtain ⟨n, k, v, zs, a1, a2, a3, a4, a5, a6, a7, a8⟩ := hp
  rw [h] at a1 a5 a6 a7 a8
  obtain ⟨rfl, rfl⟩ := tens_one a1.symm a2 hv
  obtain rfl := len_one a5 a6 h1 h2 (by omega) n1
  rw [a8, hz zs a7]

section
variable {h : Hp}

/-- The bits of one and a half. -/
abbrev oneHalf : Nat := 4609434218613702656

theorem short_half : shortP (mS oneHalf) (eS oneHalf) = (15 * 10 ^ 14, -15) := by decide +kernel

theorem print_half {Q : ByteArray → Hp → Prop} (env : FEnv h) (hk : ∀ h', h ≤ h' → Q (strN [49, 46, 53, 101, 48]) h') : flt_Print_w Tryz.prog (4609434218613702656 : Int) Q h := by
  have hr : oneHalf % 9223372036854775808 = oneHalf := by decide
  refine print_ok (w := oneHalf) (by decide) (by rw [hr]; decide) (by rw [hr]; decide) (by rw [hr, short_half]; decide) (by rw [hr, short_half]; decide) env.pow env.small fun h' out hl hp => ?_
  rw [hr] at hp
  have hn : negD oneHalf = false := by decide
  rw [hn] at hp
  have := printedF_is (zs0 := [48]) (n0 := 16) hp short_half (by decide) (by decide) (by decide) (by decide) (fun zs hz => by
    obtain ⟨n, rfl, -, a2, a3⟩ := hz
    rcases a3 with rfl | a3
    · rfl
    · have : 10 ^ (n - 1) ≤ 0 := a3
      have := Nat.pow_pos (n := n - 1) (show 0 < 10 by decide)
      omega)
  rw [this]
  exact hk h' hl

theorem parse_half {c : Nat} {ds xs : List Nat} {k x : Nat} {Q : Int → Int → Hp → Prop} (env : FEnv h) (hc : c = 49) (hds : ds = [53] ∧ k = 1 ∨ ds = [53, 48] ∧ k = 2) (hxs : xs = [48]) (hx : pow10F[k]? = some x) (hf : ∀ q, f64.nearest ((numV (c :: ds) : Nat) : Int) = q → f64.format.div q x = some oneHalf)
    (hk : ∀ h', h ≤ h' → Q (if ds = [53] then 4609434218613702656 else 0) (if ds = [53] then 0 else 4) h') : flt_Parse_w Tryz.prog (strN (fltL false c ds false xs)) Q h := by
  subst hc hxs
  unfold flt_Parse_w
  have hpre : (strN (fltL false 49 ds false [48])).size = ds.length + 4 ∧ ((strN (fltL false 49 ds false [48])).extract 0 4).toList.head? = some 49 := by
    rcases hds with ⟨rfl, -⟩ | ⟨rfl, -⟩ <;> exact ⟨by decide +kernel, by decide +kernel⟩
  refine strings_CutPrefix_call ?_
  unfold strings_CutPrefix_w
  refine internal_stringslite_CutPrefix_call ?_
  unfold internal_stringslite_CutPrefix_w
  refine internal_stringslite_HasPrefix_call ?_
  unfold internal_stringslite_HasPrefix_w
  have hs4 : ((⟨#[110, 97, 110, 58]⟩ : ByteArray).size) = 4 := rfl
  rw [hpre.1, hs4]
  refine ⟨fun _ => ⟨by omega, by omega⟩, letW ?_⟩
  have hne : (((strN (fltL false 49 ds false [48])).extract 0 (Int.toNat ((4 : Nat) : Int))).toList == (⟨#[110, 97, 110, 58]⟩ : ByteArray).toList) = false := by
    rw [Bool.eq_false_iff]
    intro hh
    have e := eq_of_beq hh
    have := congrArg List.head? e
    rw [show Int.toNat ((4 : Nat) : Int) = 4 from rfl, hpre.2] at this
    revert this
    decide +kernel
  rw [hne, Bool.and_false]
  refine iteT (by decide) (JoinW1.direct (iteF (by decide) ?_))
  have hd1 : ds.length = k ∧ (∀ d ∈ ds, 48 ≤ d ∧ d < 58) ∧ k ≤ 2 ∧ 0 < k ∧ numV (49 :: ds) < 1000 ∧ numV (49 :: ds) ≠ 0 := by
    rcases hds with ⟨rfl, rfl⟩ | ⟨rfl, rfl⟩ <;> decide
  obtain ⟨e1, e2, e3, e4, e5, e6⟩ := hd1
  have hp : (if false = true then -((numV [48] : Nat) : Int) else ((numV [48] : Nat) : Int)) - (ds.length : Int) = -(k : Int) := by rw [e1]; simp [numV]
  refine strconv_ParseFloat_call (parseFloat_exact (f := oneHalf) (by decide) e2 (by omega) (by decide) (by decide) (by decide) env (by rw [hp]; omega) (by rw [hp]; omega) e6 (fun {Q'} hq' => ?_) fun h1 er l1 => ?_)
  · rw [hp]
    exact exact_div env (by omega) e4 (by omega) rfl hx (hf _ rfl) hq'
  refine ⟨(oneHalf : Int), rfl, ?_⟩
  have ew : IntKind.wrap .i64 ((oneHalf : Nat) : Int) = (4609434218613702656 : Int) := by decide
  dsimp only
  rw [ew]
  refine flt_Print_call (print_half (env.mono l1) fun h2 l2 => ?_)
  have hk' := hk h2 (Hp.le_trans l1 l2)
  rcases hds with ⟨rfl, -⟩ | ⟨rfl, -⟩
  · exact iteF (by decide +kernel) hk'
  · exact iteT (by decide +kernel) hk'

theorem fixed_ok {Q : Bool → Hp → Prop} (env : FEnv h) (hq : ∀ h', h ≤ h' → Q true h') : firebreaklaw05_fixed_w Tryz.prog Q h := by
  unfold firebreaklaw05_fixed_w
  have f1 : fltP 15 4607182418800017408 4607182418800017408 = 4611686018427387904 := by decide +kernel
  have f2 : fltP 18 0 0 = 9221120237041090560 := by decide +kernel
  have s1 : (⟨#[49, 46, 53, 101, 48]⟩ : ByteArray) = strN (fltL false 49 [53] false [48]) := bytes_ext (by decide +kernel)
  have s2 : (⟨#[49, 46, 53, 48, 101, 48]⟩ : ByteArray) = strN (fltL false 49 [53, 48] false [48]) := bytes_ext (by decide +kernel)
  have t1 : (strN [49, 46, 53, 101, 48]).toList = (strN (fltL false 49 [53] false [48])).toList := rfl
  rw [s1, s2]
  refine flt_Do_call (fltDo_ok (fun _ => ?_) fun hh => absurd (by decide) hh)
  refine flt_Do_call (fltDo_ok (fun _ => ?_) fun hh => absurd (by decide) hh)
  refine flt_Do_call (fltDo_ok (fun hh => absurd hh (by decide)) fun _ => ?_)
  rw [f1, f2]
  refine flt_Parse_call (parse_half env rfl (.inl ⟨rfl, rfl⟩) rfl rfl (fun q hq' => by subst hq'; decide +kernel) fun h1 l1 => ?_)
  refine flt_Parse_call (parse_half (env.mono l1) rfl (.inr ⟨rfl, rfl⟩) rfl rfl (fun q hq' => by subst hq'; decide +kernel) fun h2 l2 => ?_)
  have l12 := Hp.le_trans l1 l2
  refine letW (letW (letW (letW (letW (letW (letW (effB (by decide) (flt_Print_call ?_)))))))) 
  rw [if_pos rfl]
  refine print_half (env.mono l12) fun h3 l3 => letW ?_
  rw [t1]
  have := hq h3 (Hp.le_trans l12 l3)
  simpa using this
end
end Lf

/-
  What the rows of this seat list, as strconv's tables in memory.
-/
set_option autoImplicit false
namespace Lf
open Go Go.Proofs Go.ChangeShapes Go.WideShapes Go.ChangeAt Go.RowKit

/-- What the row lists. -/
abbrev fltLaid : List (String × DataW Unit) := YtfcckhafmajceaaGreatDoor.Rows.fltNamesRow.laid

theorem env_laid {W : World} (h : laidMetH Tryz.prog fltLaid W) : FEnv (whole W) := by
  rw [MakeChecks.laidMetH_plain _ _ _ (by kernel_rfl)] at h
  have h3 := h.tail.tail.tail
  have h4 := h3.tail
  have h6 := h4.tail.tail
  have h8 := h6.tail.tail
  have h12 := h8.tail.tail.tail.tail
  refine ⟨?_, ?_, ?_, ?_, ?_⟩
  · exact laid_pairs (g := 11) h12 (by kernel_rfl) (by kernel_rfl) Tryz.underlying195 Tryz.underlying194 rfl rfl rfl rfl rfl rfl (by kernel_rfl) (by kernel_rfl) (by kernel_rfl)
  · have h8' : laidMet Tryz.prog (("internal/strconv.uint64pow10", .agg (((List.range 20).map fun k => ((10 ^ k : Nat) : Int)).map fun x => .lit (.int .u64 x))) :: _) W := h8
    have := laid_ints (g := 7) h8' (by kernel_rfl) (by kernel_rfl) Tryz.underlying163 Tryz.underlying31 (by kernel_rfl) (by kernel_rfl)
    rw [List.map_map] at this
    exact this
  · exact laid_bool (g := 4) h4 (by kernel_rfl) (by kernel_rfl) Tryz.underlying4
  · exact laid_first (g := 6) h3 (by kernel_rfl) (by kernel_rfl) Tryz.underlying149 rfl rfl (by kernel_rfl) (by kernel_rfl)
  · have h6' : laidMet Tryz.prog (("internal/strconv.float64pow10", .slice (pow10F.map fun x => .lit (.float .f64 x)) []) :: _) W := h6
    exact laid_floats (g := 10) h6' (by kernel_rfl) (by kernel_rfl) Tryz.underlying190 Tryz.underlying34 (by kernel_rfl)

theorem own : ownKnob Tryz.prog.godebug = none := by kernel_rfl
theorem laidOut : laidOutB Tryz.prog = true := by kernel_rfl

/-- A world for the witness. -/
theorem laid_met (os : Os) (args : Array Value) : laidMetH Tryz.prog fltLaid ((World.laidAll Tryz.prog os fltLaid).forCall (fun _ _ => 0) ⟨#[], args, []⟩).memory := by
  rw [MakeChecks.laidMetH_plain _ _ _ (by kernel_rfl)]
  exact laidMet_laidAll args (by kernel_rfl) (by kernel_rfl)
end Lf















/-
  Floats: what the statements ask.
-/
set_option autoImplicit false
namespace Lf
open Go Go.Proofs

section
variable {h : Hp}

theorem fltNames_ok {Q : Bool → Hp → Prop} (env : FEnv h) (hq : ∀ h', h ≤ h' → Q true h') : firebreaklaw05_FltNames_w Tryz.prog Q h := by
  unfold firebreaklaw05_FltNames_w
  exact effT (firebreaklaw05_fixed_call (fixed_ok env fun h' hl => letW (hq h' hl)))

end
end Lf

