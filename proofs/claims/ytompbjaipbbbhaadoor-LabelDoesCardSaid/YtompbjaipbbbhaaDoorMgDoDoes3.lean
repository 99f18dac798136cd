/-
  Part 4 of the texts that the claim leans on.
-/
import Derived.Test.YtompbjaipbbbhaaDoorMgDoDoes2
/-
  Labels are ordered.
-/
namespace Lf
open Go Go.Proofs

theorem or_div2 (x y : Nat) : (x ||| y) / 2 = x / 2 ||| y / 2 := by
  apply Nat.eq_of_testBit_eq
  intro i
  rw [Nat.testBit_or, Nat.testBit_div_two, Nat.testBit_div_two, Nat.testBit_div_two, Nat.testBit_or]

theorem and_div2 (x y : Nat) : (x &&& y) / 2 = x / 2 &&& y / 2 := by
  apply Nat.eq_of_testBit_eq
  intro i
  rw [Nat.testBit_and, Nat.testBit_div_two, Nat.testBit_div_two, Nat.testBit_div_two, Nat.testBit_and]

theorem mod2_law (x y : Nat) : (x ||| y) % 2 + (x &&& y) % 2 = x % 2 + y % 2 := by
  have h1 : (x ||| y) % 2 = 1 ↔ (x % 2 = 1 ∨ y % 2 = 1) := by
    have := Nat.testBit_or x y 0
    simp only [Nat.testBit_zero] at this
    rw [← Bool.decide_or, decide_eq_decide] at this
    exact this
  have h2 : (x &&& y) % 2 = 1 ↔ (x % 2 = 1 ∧ y % 2 = 1) := by
    have := Nat.testBit_and x y 0
    simp only [Nat.testBit_zero] at this
    rw [← Bool.decide_and, decide_eq_decide] at this
    exact this
  have hp := Nat.mod_two_eq_zero_or_one (x ||| y)
  have hq := Nat.mod_two_eq_zero_or_one (x &&& y)
  omega

theorem dsum_law : ∀ k x y, dsum 2 k (x ||| y) + dsum 2 k (x &&& y) = dsum 2 k x + dsum 2 k y
  | 0, _, _ => rfl
  | k + 1, x, y => by
    have ih := dsum_law k (x / 2) (y / 2)
    have h := mod2_law x y
    simp only [dsum, or_div2, and_div2]
    omega

theorem dsum_le : ∀ k x, dsum 2 k x ≤ k
  | 0, _ => Nat.le_refl _
  | k + 1, x => by
    have := dsum_le k (x / 2)
    simp only [dsum]
    omega

abbrev Fl (a b : Int) : Bool := bitsI .andNot .u64 a b == 0

theorem effFlows {a b : Int} {c : Bool} {K : Bool → Hp → Prop} {h : Hp} (hk : K (Fl a b) h) : EffC (some c) (CallT Tryd.prog n_label_Flows [.int .u64 a, .int .u64 b] shBool) K h :=
  ⟨fun _ => call_flows hk, fun _ => ⟨_, hk⟩⟩

theorem bit_or {a b : Int} (ha : InU a) (hb : InU b) (n : Nat) : bit (bitsI .or .u64 a b) n = (bit a n || bit b n) := by
  obtain ⟨X, rfl⟩ := Int.eq_ofNat_of_zero_le ha.1
  obtain ⟨Y, rfl⟩ := Int.eq_ofNat_of_zero_le hb.1
  rw [or_nat (by have := ha.2; omega) (by have := hb.2; omega)]
  exact Nat.testBit_or ..

theorem bit_andI {a b : Int} (ha : InU a) (hb : InU b) (n : Nat) : bit (bitsI .and .u64 a b) n = (bit a n && bit b n) := by
  obtain ⟨X, rfl⟩ := Int.eq_ofNat_of_zero_le ha.1
  obtain ⟨Y, rfl⟩ := Int.eq_ofNat_of_zero_le hb.1
  rw [and_nat (by have := ha.2; omega) (by have := hb.2; omega)]
  exact Nat.testBit_and ..

section
variable {a b c : Int}

theorem fl_refl (ha : InU a) : Fl a a = true := (bit_sub ha ha).2 fun _ _ e => e

theorem fl_anti (ha : InU a) (hb : InU b) (h1 : Fl a b = true) (h2 : Fl b a = true) : a = b := by
  refine in_ext ha hb fun k hk => ?_
  have g1 := (bit_sub ha hb).1 h1 k hk
  have g2 := (bit_sub hb ha).1 h2 k hk
  cases e1 : bit a k <;> cases e2 : bit b k <;> simp_all

theorem fl_trans (ha : InU a) (hb : InU b) (hc : InU c) (h1 : Fl a b = true) (h2 : Fl b c = true) : Fl a c = true :=
  (bit_sub ha hc).2 fun n hn e => (bit_sub hb hc).1 h2 n hn ((bit_sub ha hb).1 h1 n hn e)

theorem fl_lub (ha : InU a) (hb : InU b) (hc : InU c) : (Fl a c && Fl b c) = Fl (bitsI .or .u64 a b) c := by
  have hj : InU (bitsI .or .u64 a b) := inU_wrap _
  rw [Bool.eq_iff_iff, Bool.and_eq_true, bit_sub ha hc, bit_sub hb hc, bit_sub hj hc]
  constructor
  · rintro ⟨h1, h2⟩ n hn e
    rw [bit_or ha hb, Bool.or_eq_true] at e
    exact e.elim (h1 n hn) (h2 n hn)
  · intro h
    exact ⟨fun n hn e => h n hn (by rw [bit_or ha hb, e]; rfl), fun n hn e => h n hn (by rw [bit_or ha hb, e]; simp)⟩

theorem fl_glb (ha : InU a) (hb : InU b) (hc : InU c) : (Fl c a && Fl c b) = Fl c (bitsI .and .u64 a b) := by
  have hm : InU (bitsI .and .u64 a b) := inU_wrap _
  rw [Bool.eq_iff_iff, Bool.and_eq_true, bit_sub hc ha, bit_sub hc hb, bit_sub hc hm]
  constructor
  · rintro ⟨h1, h2⟩ n hn e
    rw [bit_andI ha hb, h1 n hn e, h2 n hn e]; rfl
  · intro h
    refine ⟨fun n hn e => ?_, fun n hn e => ?_⟩
    · have := h n hn e
      rw [bit_andI ha hb, Bool.and_eq_true] at this
      exact this.1
    · have := h n hn e
      rw [bit_andI ha hb, Bool.and_eq_true] at this
      exact this.2

theorem pop_law (ha : InU a) (hb : InU b) : pop (bitsI .or .u64 a b).toNat + pop (bitsI .and .u64 a b).toNat = pop a.toNat + pop b.toNat := by
  obtain ⟨X, rfl⟩ := Int.eq_ofNat_of_zero_le ha.1
  obtain ⟨Y, rfl⟩ := Int.eq_ofNat_of_zero_le hb.1
  rw [or_nat (by have := ha.2; omega) (by have := hb.2; omega), and_nat (by have := ha.2; omega) (by have := hb.2; omega)]
  exact dsum_law 64 X Y

end

set_option maxRecDepth 20000 in
theorem labelOrder_ok {a b c : Int} {Q : Bool → Hp → Prop} {h : Hp} (he : ErrIs h) (ha : InU a) (hb : InU b) (hc : InU c) (hq : ∀ h', h ≤ h' → Q true h') : firebreaklaw01_LabelOrder_w Tryd.prog a b c Q h := by
  unfold firebreaklaw01_LabelOrder_w
  refine call_awake he fun h1 l1 => ifN (by simp) ?_
  have hj : InU (bitsI .or .u64 a b) := inU_wrap _
  have hm : InU (bitsI .and .u64 a b) := inU_wrap _
  have q1 : ((Fl a b && Fl b a) && (a != b)) = false := by
    cases e1 : Fl a b with
    | false => rfl
    | true =>
      cases e2 : Fl b a with
      | false => rfl
      | true => simp [fl_anti ha hb e1 e2]
  have q2 : ((Fl a b && Fl b c) && (!(Fl a c))) = false := by
    cases e1 : Fl a b with
    | false => rfl
    | true =>
      cases e2 : Fl b c with
      | false => rfl
      | true => rw [fl_trans ha hb hc e1 e2]; rfl
  have j12 : (Fl a (bitsI .or .u64 a b) && Fl b (bitsI .or .u64 a b)) = true := (fl_lub ha hb hj).trans (fl_refl hj)
  have m12 : (Fl (bitsI .and .u64 a b) a && Fl (bitsI .and .u64 a b) b) = true := (fl_glb ha hb hm).trans (fl_refl hm)
  rw [Bool.and_eq_true] at j12 m12
  refine call_flows (effFlows (effFlows (letW (letF q1 (letF (show (!(Fl a a) || false) = false by rw [fl_refl ha]; rfl) (effFlows (effFlows (letW (effFlows (letF q2 (letF rfl (ifN (by simp) ?_))))))))))))
  refine call_join (call_meet (call_flows (effFlows (letF (show (!(Fl a (bitsI .or .u64 a b)) || !(Fl b (bitsI .or .u64 a b))) = false by rw [j12.1, j12.2]; rfl) (effFlows (letF (show (false || !(Fl (bitsI .and .u64 a b) a)) = false by rw [m12.1]; rfl) (effFlows (letF (show (false || !(Fl (bitsI .and .u64 a b) b)) = false by rw [m12.2]; rfl) (ifN (by simp) ?_)))))))))
  refine call_flows (effFlows (letW (call_flows (effFlows (effFlows (letW (effFlows (letF ?_ (ifN (by simp) ?_)))))))))
  · have e1 : (Fl a c && Fl b c) = Fl (bitsI .or .u64 a b) c := fl_lub ha hb hc
    have e2 : (Fl c a && Fl c b) = Fl c (bitsI .and .u64 a b) := fl_glb ha hb hc
    rw [e1, e2]
    simp
  · refine call_count hj (call_count hm (call_count ha (call_count hb ?_)))
    have e : (((pop (bitsI .or .u64 a b).toNat : Nat) : Int) + ((pop (bitsI .and .u64 a b).toNat : Nat) : Int)) = (((pop a.toNat : Nat) : Int) + ((pop b.toNat : Nat) : Int)) := by
      have := pop_law ha hb
      omega
    rw [e, beq_self_eq_true]
    exact hq _ l1

end Lf

/-
  The document's answers on labels.
-/
namespace Lf
open Go Go.Proofs

theorem refHas_ok {a n : Int} {Q : Bool → Hp → Prop} {h : Hp} (ha : InU a) (hq : Q (decide (0 ≤ n) && decide (n < 64) && bit a n.toNat) h) : firebreakref01_Has_w Tryd.prog a n Q h := by
  unfold firebreakref01_Has_w
  refine letW ⟨fun e => ?_, letW ?_⟩
  · simp at e; exact e.1
  have e64 : decide (n ≤ 63) = decide (n < 64) := by apply decide_eq_decide.2; omega
  rw [e64]
  by_cases h1 : 0 ≤ n
  · by_cases h2 : n < 64
    · rw [bit_and ha h1 (by omega)]
      exact hq
    · rw [decide_eq_false h2] at hq ⊢
      simpa using hq
  · have e : decide (n ≥ 0) = false := decide_eq_false h1
    rw [e]
    rw [decide_eq_false h1] at hq
    simpa using hq

theorem refHas_in {a : Int} {m : Nat} {Q : Bool → Hp → Prop} {h : Hp} (ha : InU a) (hm : m < 64) (hq : Q (bit a m) h) : CallT Tryd.prog n_firebreakref01_Has [.int .u64 a, .int .i64 (m : Int)] shBool Q h := by
  refine firebreakref01_Has_call (refHas_ok ha ?_)
  have e1 : decide ((0 : Int) ≤ (m : Int)) = true := decide_eq_true (by omega)
  have e2 : decide ((m : Int) < 64) = true := decide_eq_true (by omega)
  rw [e1, e2]
  exact hq

theorem effRefHas {a : Int} {m : Nat} {c : Bool} {Q : Bool → Hp → Prop} {h : Hp} (ha : InU a) (hm : m < 64) (hq : Q (bit a m) h) : EffC (some c) (CallT Tryd.prog n_firebreakref01_Has [.int .u64 a, .int .i64 (m : Int)] shBool) Q h :=
  ⟨fun _ => refHas_in ha hm hq, fun _ => ⟨_, hq⟩⟩

theorem step64 {m : Nat} (h : m < 64) : IntKind.wrap .i64 ((m : Int) + 1) = ((m + 1 : Nat) : Int) := by rw [wrap64 (by omega) (by omega)]; omega

theorem refFlows_ok {a b : Int} {Q : Bool → Hp → Prop} {h : Hp} (ha : InU a) (hb : InU b) (hq : Q (Fl a b) h) : firebreakref01_Flows_w Tryd.prog a b Q h := by
  unfold firebreakref01_Flows_w
  refine LoopW1.intro (fun (n : Int) k => k = h ∧ ∃ m : Nat, n = m ∧ m ≤ 64 ∧ ∀ j, j < m → bit a j = true → bit b j = true) (fun n _ => (64 - n).toNat) ⟨rfl, 0, rfl, by omega, fun j hj => by omega⟩ ?_
  rintro n k ⟨ek, m, rfl, hm, hall⟩
  subst k
  by_cases e : (m : Int) < 64
  · refine ifP (decide_eq_true e) (refHas_in ha (by omega) (effRefHas hb (by omega) (letW ?_)))
    cases h1 : bit a m with
    | false =>
      refine ifN (by simp) ?_
      rw [step64 (by omega)]
      refine ⟨⟨rfl, m + 1, rfl, by omega, fun j hj hbj => ?_⟩, by omega⟩
      by_cases hjm : j = m
      · subst hjm; rw [h1] at hbj; cases hbj
      · exact hall j (by omega) hbj
    | true =>
      cases h2 : bit b m with
      | true =>
        refine ifN (by simp) ?_
        rw [step64 (by omega)]
        refine ⟨⟨rfl, m + 1, rfl, by omega, fun j hj hbj => ?_⟩, by omega⟩
        by_cases hjm : j = m
        · subst hjm; exact h2
        · exact hall j (by omega) hbj
      | false =>
        refine ifP rfl ?_
        have : Fl a b = false := by
          cases hf : Fl a b with
          | false => rfl
          | true =>
            have := (bit_sub ha hb).1 hf m (by omega) h1
            rw [h2] at this; cases this
        rw [this] at hq
        exact hq
  · refine ifN (fun hh => e (of_decide_eq_true hh)) ?_
    have : Fl a b = true := (bit_sub ha hb).2 fun j hj => hall j (by omega)
    rw [this] at hq
    exact hq

theorem dsum_len : ∀ (k x : Nat), dsum 2 k x = ((List.range k).filter fun j => x.testBit j).length
  | 0, _ => rfl
  | k + 1, x => by
    rw [List.range_succ_eq_map, List.filter_cons, List.filter_map]
    have e : ((fun j => x.testBit j) ∘ Nat.succ) = fun j => (x / 2).testBit j := by
      funext j
      show x.testBit (j + 1) = _
      rw [Nat.testBit_div_two]
    rw [e, dsum, dsum_len k (x / 2)]
    have h0 : x.testBit 0 = decide (x % 2 = 1) := Nat.testBit_zero x
    rw [h0]
    by_cases h : x % 2 = 1
    · rw [if_pos (decide_eq_true h)]
      simp; omega
    · rw [if_neg (fun hh => h (of_decide_eq_true hh))]
      simp; omega

theorem pop_els (a : Int) : pop a.toNat = (els a).length := dsum_len 64 a.toNat

theorem refCount_ok {a : Int} {Q : Int → Hp → Prop} {h : Hp} (ha : InU a) (hq : Q ((pop a.toNat : Nat) : Int) h) : firebreakref01_Count_w Tryd.prog a Q h := by
  unfold firebreakref01_Count_w
  refine LoopW2.intro (fun (c n : Int) k => k = h ∧ ∃ m : Nat, n = m ∧ m ≤ 64 ∧ c = ((List.range m).filter (bit a)).length) (fun _ n _ => (64 - n).toNat) ⟨rfl, 0, rfl, by omega, rfl⟩ ?_
  rintro c n k ⟨ek, m, rfl, hm, rfl⟩
  subst k
  have hfl := List.length_filter_le (bit a) (List.range m)
  rw [List.length_range] at hfl
  by_cases e : (m : Int) < 64
  · refine ifP (decide_eq_true e) (JoinW1.direct (refHas_in ha (by omega) ?_))
    rw [step64 (by omega)]
    cases h1 : bit a m with
    | true =>
      refine ifP rfl ?_
      refine ⟨⟨rfl, m + 1, rfl, by omega, ?_⟩, by omega⟩
      rw [filter_succ, if_pos h1, List.length_append, wrap64 (by omega) (by omega)]
      simp
    | false =>
      refine ifN (by simp) ?_
      refine ⟨⟨rfl, m + 1, rfl, by omega, ?_⟩, by omega⟩
      rw [filter_succ, if_neg (by rw [h1]; simp), List.append_nil]
  · refine ifN (fun hh => e (of_decide_eq_true hh)) ?_
    have hm64 : m = 64 := by omega
    subst hm64
    rw [pop_els] at hq
    exact hq

theorem joinc_snoc2 : ∀ (l : List Nat) (n : Nat), l ≠ [] → joinc (l ++ [n]) = joinc l ++ 44 :: dg n
  | [], _, h => absurd rfl h
  | [x], n, _ => by simp [joinc]
  | x :: y :: l, n, _ => by
    have := joinc_snoc2 (y :: l) n (by simp)
    show dg x ++ 44 :: joinc (y :: l ++ [n]) = _
    rw [this]
    simp [joinc]

theorem joinc_pos : ∀ (l : List Nat), l ≠ [] → 0 < (joinc l).length
  | [], h => absurd rfl h
  | [x], _ => List.length_pos_iff.2 (dg_ne x)
  | x :: y :: l, _ => by simp [joinc]; omega

set_option maxRecDepth 20000 in
theorem refPrint_ok {a : Int} {Q : ByteArray → Hp → Prop} {h : Hp} (ha : InU a) (hq : Q (txt (printR a)) h) : firebreakref01_Print_w Tryd.prog a Q h := by
  unfold firebreakref01_Print_w
  refine LoopW2.intro (fun (s : ByteArray) (n : Int) k => k = h ∧ ∃ m : Nat, n = m ∧ m ≤ 64 ∧ s.data.toList = 123 :: joinc ((List.range m).filter (bit a))) (fun _ n _ => (64 - n).toNat) ⟨rfl, 0, rfl, by omega, rfl⟩ ?_
  rintro s n k ⟨ek, m, rfl, hm, hs⟩
  subst k
  have hfl := List.length_filter_le (bit a) (List.range m)
  rw [List.length_range] at hfl
  have hjl := joinc_len ((List.range m).filter (bit a))
  have hsz : s.size = (joinc ((List.range m).filter (bit a))).length + 1 := by rw [size_data, hs, List.length_cons]
  by_cases e : (m : Int) < 64
  · refine ifP (decide_eq_true e) (JoinW1.direct (refHas_in ha (by omega) ?_))
    rw [step64 (by omega)]
    cases h1 : bit a m with
    | false =>
      refine ifN (by simp) ?_
      refine ⟨⟨rfl, m + 1, rfl, by omega, ?_⟩, by omega⟩
      rw [filter_succ, if_neg (by rw [h1]; simp), List.append_nil]
      exact hs
    | true =>
      refine ifP rfl ?_
      refine JoinW1.intro (fun s1 k => k = h ∧ s1.size ≤ 300 ∧ s1.data.toList ++ dg m = 123 :: joinc ((List.range m).filter (bit a) ++ [m])) ?_ ?_
      · by_cases hl : (List.range m).filter (bit a) = []
        · have : joinc ((List.range m).filter (bit a)) = [] := by rw [hl]; rfl
          rw [this] at hsz hs
          refine ifN (by simp at hsz ⊢; omega) ⟨rfl, by simp at hsz; omega, ?_⟩
          rw [hs, hl]; rfl
        · have hp := joinc_pos _ hl
          refine ifP (by simp; omega) ⟨by omega, rfl, ?_, ?_⟩
          · rw [size_data]
            show (s.data.toList ++ [44]).length ≤ _
            rw [List.length_append, hs]
            simp only [List.length_cons, List.length_nil]
            omega
          · show (s.data.toList ++ [44]) ++ dg m = _
            rw [hs, joinc_snoc2 _ _ hl]
            simp
      · rintro s1 k ⟨ek, hs1, hs2⟩
        subst k
        refine itoa_ok (by omega) (by omega) ?_
        have hd := dg_len m
        have hds : (txt (dg (m : Int).toNat)).size = (dg m).length := size_data _
        refine ⟨by omega, ⟨rfl, m + 1, rfl, by omega, ?_⟩, by omega⟩
        rw [filter_succ, if_pos h1]
        exact hs2
  · refine ifN (fun hh => e (of_decide_eq_true hh)) ?_
    have hm64 : m = 64 := by omega
    subst hm64
    refine ⟨by omega, ?_⟩
    have : (⟨⟨List.append s.data.toList [125]⟩⟩ : ByteArray) = txt (printR a) := by
      show (⟨⟨s.data.toList ++ [125]⟩⟩ : ByteArray) = _
      rw [hs]
      rfl
    have hq' : Q ⟨⟨List.append s.data.toList [125]⟩⟩ h := by rw [this]; exact hq
    exact hq'

end Lf

/-
  What is in one of two labels, in both: as the document reckons it; every call of any labels.
-/
namespace Lf
open Go Go.Proofs

theorem lf_get {l : List Value} {i : Nat} : List.get?Internal l i = l[i]? := rfl

/-- The label of those secrets of which 'p' tells true. -/
def ofB (p : Nat → Bool) : Int := maskR ((List.range 64).filter p)

theorem of_ok {is : CellsN 64} {p : Nat → Bool} {Q : Int → Hp → Prop} {h : Hp} (hc : ∀ n, n < 64 → is.l[n]? = some (.bool (p n))) (hq : Q (ofB p) h) : firebreakref01_of_w Tryd.prog is Q h := by
  unfold firebreakref01_of_w
  refine LoopW2.intro (fun (a n : Int) k => k = h ∧ ∃ m : Nat, n = m ∧ m ≤ 64 ∧ a = maskR ((List.range m).filter p)) (fun _ n _ => (64 - n).toNat) ⟨rfl, 0, rfl, by omega, rfl⟩ ?_
  rintro a n k ⟨ek, m, rfl, hm, rfl⟩
  subst k
  by_cases e : (m : Int) < 64
  · refine ifP (decide_eq_true e) (JoinW1.direct ?_)
    refine ⟨⟨by omega, e⟩, p m, ?_, ?_⟩
    · rw [lf_get, Int.toNat_natCast, Nat.zero_add, Nat.mul_one]
      exact hc m (by omega)
    rw [step64 (by omega)]
    cases hp : p m with
    | true =>
      refine ifP rfl ⟨by omega, ⟨rfl, m + 1, rfl, by omega, ?_⟩, by omega⟩
      rw [filter_succ, if_pos hp]
      exact mask_snoc _ m
    | false =>
      refine ifN (by simp) ⟨⟨rfl, m + 1, rfl, by omega, ?_⟩, by omega⟩
      rw [filter_succ, if_neg (by rw [hp]; simp), List.append_nil]
  · refine ifN (fun hh => e (of_decide_eq_true hh)) ?_
    have hm64 : m = 64 := by omega
    subst hm64
    exact hq

theorem zeros_put {h : Hp} {b : Nat} (k : Blk h b (List.replicate 64 (.bool false))) {K : Hp → Prop} (hk : ∀ h', Mv [b] h [b] h' → Blk h' b (List.replicate 64 (.bool false)) → K h') : StW h ⟨b, 0, none⟩ (List.replicate 64 (.bool false)) K := by
  refine stW_blk (off := 0) k (by simp) fun h1 m1 k1 => hk h1 m1 ?_
  simpa using k1

/-- The cells of 64 truths. -/
def cellsB (p : Nat → Bool) (m : Nat) : List Value := (List.range 64).map fun j => .bool (decide (j < m) && p j)

theorem cellsB_len (p : Nat → Bool) (m : Nat) : (cellsB p m).length = 64 := by simp [cellsB]

theorem cellsB_get (p : Nat → Bool) (m i : Nat) : (cellsB p m)[i]? = if i < 64 then some (.bool (decide (i < m) && p i)) else none := by
  by_cases hi : i < 64
  · simp [cellsB, hi]
  · rw [if_neg hi]
    exact List.getElem?_eq_none (by rw [cellsB_len]; omega)

theorem cellsB_zero (p : Nat → Bool) : cellsB p 0 = List.replicate 64 (.bool false) := by
  apply List.ext_getElem?
  intro i
  rw [cellsB_get, List.getElem?_replicate]
  by_cases hi : i < 64
  · rw [if_pos hi, if_pos hi, decide_eq_false (by omega : ¬ i < 0)]
    rfl
  · rw [if_neg hi, if_neg hi]

theorem cellsB_put {p : Nat → Bool} {m : Nat} (hm : m < 64) : (cellsB p m).take m ++ [.bool (p m)] ++ (cellsB p m).drop (m + 1) = cellsB p (m + 1) := by
  have e : (cellsB p m).take m ++ [.bool (p m)] ++ (cellsB p m).drop (m + 1) = (cellsB p m).set m (.bool (p m)) := by
    rw [List.append_assoc, List.set_eq_take_append_cons_drop, if_pos (by rw [cellsB_len]; exact hm)]
    rfl
  rw [e]
  apply List.ext_getElem?
  intro i
  rw [List.getElem?_set, cellsB_get, cellsB_get, cellsB_len]
  by_cases he : m = i
  · subst he
    rw [if_pos rfl, if_pos hm, if_pos hm, decide_eq_true (by omega : m < m + 1)]
    rfl
  · rw [if_neg he]
    by_cases hi : i < 64
    · rw [if_pos hi, if_pos hi]
      have : decide (i < m) = decide (i < m + 1) := by apply decide_eq_decide.2; omega
      rw [this]
    · rw [if_neg hi, if_neg hi]

theorem ofB_of {a : Int} {p : Nat → Bool} (ha : InU a) (h : ∀ j, j < 64 → bit a j = p j) : ofB p = a := by
  rw [← mask_els ha]
  unfold ofB els
  congr 1
  refine List.filter_congr fun j hj => ?_
  rw [h j (List.mem_range.1 hj)]

/-- Writing the truths one by one, then reckoning the label. -/
theorem fill_of {Q : Int → Hp → Prop} {h h3 : Hp} {b : Nat} {p : Nat → Bool} (hk : Blk h3 b (cellsB p 64)) (hq : Q (ofB p) h3) :
    LdW none (shCells 64) h3 ⟨b, 0, none⟩ fun x => CallT Tryd.prog n_firebreakref01_of [.agg ⟨x.l⟩] (shInt .u64) (fun r h4 => Q r h4) h3 := by
  refine ⟨⟨cellsB p 64, by rw [cellsB_len]; rfl⟩, ?_, ?_⟩
  · exact Blk.ldIs hk (n := 64) (by rw [List.drop_zero]; exact List.take_of_length_le (by rw [cellsB_len]; omega))
  · refine firebreakref01_of_call (of_ok (p := p) (fun n hn => ?_) hq)
    simp [cellsB, hn]

set_option maxRecDepth 20000 in
theorem refJoin_ok {a b : Int} {Q : Int → Hp → Prop} {h : Hp} (ha : InU a) (hb : InU b) (hq : ∀ h', h ≤ h' → Q (bitsI .or .u64 a b) h') : firebreakref01_Join_w Tryd.prog a b Q h := by
  unfold firebreakref01_Join_w
  intro c t hc
  have hle0 : h ≤ h.set c (.cells (List.replicate 64 (Value.bool false)).toArray t (0, 0)) := set_new hc
  have hmv : ∀ {k k' : Hp}, h ≤ k → Mv [c] k [c] k' → h ≤ k' := fun hle m => (m.le hle fun x hx => by rw [List.mem_singleton.1 hx]; exact hc).1
  refine zeros_put ⟨t, set_self⟩ fun h2 m2 k2 => ?_
  have hp : ofB (fun j => bit a j || bit b j) = bitsI .or .u64 a b := ofB_of (inU_wrap _) fun j hj => bit_or ha hb j
  refine LoopW1.intro (fun (n : Int) k => ∃ m : Nat, n = m ∧ m ≤ 64 ∧ h ≤ k ∧ Blk k c (cellsB (fun j => bit a j || bit b j) m)) (fun n _ => (64 - n).toNat) ⟨0, rfl, by omega, hmv hle0 m2, by rw [cellsB_zero]; exact k2⟩ ?_
  rintro n k ⟨m, rfl, hm, hle, hk⟩
  by_cases e : (m : Int) < 64
  · refine ifP (decide_eq_true e) (refHas_in ha (by omega) (effRefHas hb (by omega) (letW ⟨⟨by omega, e⟩, ?_⟩)))
    have ea : Addr.add ⟨c, 0, none⟩ (Int.toNat (m : Int) * 1) = ⟨c, m, none⟩ := by rw [box_add, Int.toNat_natCast, Nat.mul_one, Nat.zero_add]
    rw [ea]
    refine stW_blk (off := m) hk (by rw [cellsB_len]; simp; omega) fun h6 m6 k6 => ?_
    rw [step64 (by omega)]
    refine ⟨⟨m + 1, rfl, by omega, hmv hle m6, ?_⟩, by omega⟩
    have := cellsB_put (p := fun j => bit a j || bit b j) (m := m) (by omega)
    rw [← this]
    exact k6
  · refine ifN (fun hh => e (of_decide_eq_true hh)) ?_
    have hm64 : m = 64 := by omega
    subst hm64
    refine fill_of (h := h) hk ?_
    rw [hp]
    exact hq k hle

set_option maxRecDepth 20000 in
theorem refMeet_ok {a b : Int} {Q : Int → Hp → Prop} {h : Hp} (ha : InU a) (hb : InU b) (hq : ∀ h', h ≤ h' → Q (bitsI .and .u64 a b) h') : firebreakref01_Meet_w Tryd.prog a b Q h := by
  unfold firebreakref01_Meet_w
  intro c t hc
  have hle0 : h ≤ h.set c (.cells (List.replicate 64 (Value.bool false)).toArray t (0, 0)) := set_new hc
  have hmv : ∀ {k k' : Hp}, h ≤ k → Mv [c] k [c] k' → h ≤ k' := fun hle m => (m.le hle fun x hx => by rw [List.mem_singleton.1 hx]; exact hc).1
  refine zeros_put ⟨t, set_self⟩ fun h2 m2 k2 => ?_
  have hp : ofB (fun j => bit a j && bit b j) = bitsI .and .u64 a b := ofB_of (inU_wrap _) fun j hj => bit_andI ha hb j
  refine LoopW1.intro (fun (n : Int) k => ∃ m : Nat, n = m ∧ m ≤ 64 ∧ h ≤ k ∧ Blk k c (cellsB (fun j => bit a j && bit b j) m)) (fun n _ => (64 - n).toNat) ⟨0, rfl, by omega, hmv hle0 m2, by rw [cellsB_zero]; exact k2⟩ ?_
  rintro n k ⟨m, rfl, hm, hle, hk⟩
  by_cases e : (m : Int) < 64
  · refine ifP (decide_eq_true e) (refHas_in ha (by omega) (effRefHas hb (by omega) (letW ⟨⟨by omega, e⟩, ?_⟩)))
    have ea : Addr.add ⟨c, 0, none⟩ (Int.toNat (m : Int) * 1) = ⟨c, m, none⟩ := by rw [box_add, Int.toNat_natCast, Nat.mul_one, Nat.zero_add]
    rw [ea]
    refine stW_blk (off := m) hk (by rw [cellsB_len]; simp; omega) fun h6 m6 k6 => ?_
    rw [step64 (by omega)]
    refine ⟨⟨m + 1, rfl, by omega, hmv hle m6, ?_⟩, by omega⟩
    have := cellsB_put (p := fun j => bit a j && bit b j) (m := m) (by omega)
    rw [← this]
    exact k6
  · refine ifN (fun hh => e (of_decide_eq_true hh)) ?_
    have hm64 : m = 64 := by omega
    subst hm64
    refine fill_of (h := h) hk ?_
    rw [hp]
    exact hq k hle

theorem effAny {α : Type} {A : (α → Hp → Prop) → Hp → Prop} {K : α → Hp → Prop} {h : Hp} {c : Bool} {x : α} (hA : c = true → A K h) (h0 : K x h) : EffC (some c) A K h := ⟨hA, fun _ => ⟨x, h0⟩⟩

set_option maxRecDepth 20000 in
theorem labelDoes_ok {a b n : Int} {Q : Bool → Hp → Prop} {h : Hp} (he : ErrIs h) (ha : InU a) (hb : InU b) (hq : ∀ h', h ≤ h' → Q true h') : firebreaklaw01_LabelDoes_w Tryd.prog a b n Q h := by
  unfold firebreaklaw01_LabelDoes_w
  refine call_awake he fun h1 l1 => ifN (by simp) ?_
  refine call_flows (firebreakref01_Flows_call (refFlows_ok ha hb ?_))
  have e1 : ((bitsI .andNot .u64 a b == 0) == Fl a b) = true := by simp
  rw [e1]
  refine effT (call_join (effT (firebreakref01_Join_call (refJoin_ok ha hb fun h2 l2 => ?_))))
  refine letF (by simp) (effT (call_meet (effT (firebreakref01_Meet_call (refMeet_ok ha hb fun h3 l3 => ?_)))))
  refine letF (by simp) (ifN (by simp) ?_)
  have hle3 : h ≤ h3 := Hp.le_trans l1 (Hp.le_trans l2 l3)
  refine LoopW1.intro (fun (k : Int) h' => h' = h3 ∧ -1 ≤ k ∧ k ≤ 65) (fun k _ => (65 - k).toNat) ⟨rfl, by omega, by omega⟩ ?_
  rintro k h' ⟨eh, hk1, hk2⟩
  subst h'
  by_cases e : k ≤ 64
  · refine ifP (decide_eq_true e) (label_Has_call (has_ok ha (firebreakref01_Has_call (refHas_ok ha ?_))))
    refine ifN (by simp) ?_
    rw [wrap64 (by omega) (by omega)]
    exact ⟨⟨rfl, by omega, by omega⟩, by omega⟩
  · refine ifN (fun hh => e (of_decide_eq_true hh)) (label_Has_call (has_ok ha (firebreakref01_Has_call (refHas_ok ha ?_))))
    refine effB (by simp) (call_count ha (effB (by simp) (firebreakref01_Count_call (refCount_ok ha (letT (by simp) ?_)))))
    refine effT (call_print ha fun h4 l4 => effT (firebreakref01_Print_call (refPrint_ok ha (letT ?_ (hq _ (Hp.le_trans hle3 l4))))))
    simp

end Lf

