/-
  Part 5 of the texts that the claim leans on.
-/
import Derived.ProofKit
import Derived.SizedLaws
import Derived.OpenShut
import Derived.JoinedCond
import Derived.Test.YtompbjaipbbbhaaMgTbKeeps3
/-
  The library's sort, whole.
-/
namespace Lf.Souint64
open Go Go.Proofs Go.Sort

/-- What is left to be sorted makes the whole sorted. -/
def Rest (a b : Nat) (d : Array Int) (a1 b1 : Nat) (d1 : Array Int) : Prop := ∀ R, PermIn a1 b1 d1 R → SortedIn ltInt a1 b1 R → PermIn a b d R ∧ SortedIn ltInt a b R

theorem rest_perm {a b : Nat} {d : Array Int} {a1 b1 : Nat} {d1 d2 : Array Int} (r : Rest a b d a1 b1 d1) (hp : PermIn a1 b1 d1 d2) : Rest a b d a1 b1 d2 := fun R h1 h2 => r R (permIn_trans _ _ _ _ _ hp h1) h2

theorem rest_eq {a b : Nat} {d : Array Int} {a1 b1 pivot mid : Nat} {d3 d4 : Array Int} (r : Rest a b d a1 b1 d3) (ha : 0 < a1) (hp2 : pivot < b1) (hp1 : a1 ≤ pivot) (hb : b1 ≤ d3.size) (hB : Below ltInt a1 b1 d3) (hnl : ltInt d3[a1 - 1]! d3[pivot]! = false)
    (h1 : a1 < mid) (h2 : mid ≤ b1) (hperm : PermIn a1 b1 d3 d4) (hle : ∀ x : Nat, a1 ≤ x → x < mid → ltInt d3[pivot]! d4[x]! = false) (hgt : ∀ x : Nat, mid ≤ x → x < b1 → ltInt d3[pivot]! d4[x]! = true) :
    Rest a b d mid b1 d4 ∧ Below ltInt mid b1 d4 := by
  have h := swo_ltInt
  have hb4 : b1 ≤ d4.size := by rw [hperm.1]; exact hb
  have hge : ∀ x : Nat, a1 ≤ x → x < b1 → ltInt d3[x]! d3[pivot]! = false := fun x hx hx' => by
    rcases hB with h0 | hB
    · omega
    · exact h.ntrans _ _ _ (hB x hx hx') hnl
  have hge4 := permIn_all d3 d4 a1 b1 (fun x => ltInt x d3[pivot]! = false) hb hperm hge
  refine ⟨fun R hR hs => ?_, Or.inr fun x hx hx' => ?_⟩
  · refine r R (permIn_trans _ _ _ a1 b1 hperm (permIn_mono _ _ mid b1 a1 b1 (by omega) (Nat.le_refl _) hb4 hR)) ?_
    refine sorted_glue_eq h d3[pivot]! hs (fun x hx hx' => ?_) (fun x hx hx' => ?_) (permIn_all d4 R mid b1 (fun x => ltInt d3[pivot]! x = true) hb4 hR hgt)
    · rw [hR.2.1 x (Or.inl hx')]; exact hle x hx hx'
    · rw [hR.2.1 x (Or.inl hx')]; exact hge4 x hx (by omega)
  · cases hc : ltInt d4[x]! d4[mid - 1]! with
    | false => rfl
    | true =>
      have := h.trans _ _ _ (hgt x hx hx') hc
      rw [hle (mid - 1) (by omega) (by omega)] at this
      cases this

theorem rest_left {a b : Nat} {d : Array Int} {a1 b1 mid : Nat} {d3 d4 L : Array Int} (r : Rest a b d a1 b1 d3) (hb : b1 ≤ d3.size) (hp : Parted a1 b1 d3 d4 mid) (hL : PermIn a1 mid d4 L) (hsL : SortedIn ltInt a1 mid L) :
    Rest a b d (mid + 1) b1 L ∧ Below ltInt (mid + 1) b1 L := by
  obtain ⟨h1, h2, hperm, hlo, hhi⟩ := hp
  have hb4 : b1 ≤ d4.size := by rw [hperm.1]; exact hb
  have hbL : b1 ≤ L.size := by rw [hL.1]; exact hb4
  have eL : ∀ i, mid ≤ i → L[i]! = d4[i]! := fun i hi => hL.2.1 i (Or.inr hi)
  refine ⟨fun R hR hsR => ?_, Or.inr fun i hi hi' => by rw [Nat.add_sub_cancel, eL i (by omega), eL mid (Nat.le_refl _)]; exact hhi i (by omega) hi'⟩
  have eR : ∀ i, i ≤ mid → R[i]! = L[i]! := fun i hi => hR.2.1 i (Or.inl (by omega))
  refine r R (permIn_trans _ _ _ _ _ hperm (permIn_trans _ _ _ _ _ (permIn_mono _ _ a1 mid a1 b1 (Nat.le_refl _) (by omega) hb4 hL) (permIn_mono _ _ (mid + 1) b1 a1 b1 (by omega) (Nat.le_refl _) hbL hR))) ?_
  refine sorted_glue swo_ltInt (hsL.congr fun i _ hi' => eR i (by omega)) hsR (fun i hi hi' => ?_) (fun i hi hi' => ?_)
  · rw [eR i (by omega), eR mid (Nat.le_refl _), eL mid (Nat.le_refl _)]
    exact permIn_all d4 L a1 mid (fun x => ltInt x d4[mid]! = true) (by omega) hL hlo i hi hi'
  · rw [eR mid (Nat.le_refl _), eL mid (Nat.le_refl _)]
    exact permIn_all L R (mid + 1) b1 (fun x => ltInt x d4[mid]! = false) hbL hR (fun q hq hq' => by rw [eL q (by omega)]; exact hhi q (by omega) hq') i (by omega) hi'

theorem rest_right {a b : Nat} {d : Array Int} {a1 b1 mid : Nat} {d3 d4 L : Array Int} (r : Rest a b d a1 b1 d3) (hb : b1 ≤ d3.size) (hB : Below ltInt a1 b1 d3) (hp : Parted a1 b1 d3 d4 mid) (hL : PermIn (mid + 1) b1 d4 L) (hsL : SortedIn ltInt (mid + 1) b1 L) :
    Rest a b d a1 mid L ∧ Below ltInt a1 mid L := by
  obtain ⟨h1, h2, hperm, hlo, hhi⟩ := hp
  have hb4 : b1 ≤ d4.size := by rw [hperm.1]; exact hb
  have hbL : b1 ≤ L.size := by rw [hL.1]; exact hb4
  have eL : ∀ i, i ≤ mid → L[i]! = d4[i]! := fun i hi => hL.2.1 i (Or.inl (by omega))
  have hBa : Below ltInt a1 mid d4 := (hB.perm hb hperm).mono (by omega)
  refine ⟨fun R hR hsR => ?_, ?_⟩
  · have eR : ∀ i, mid ≤ i → R[i]! = L[i]! := fun i hi => hR.2.1 i (Or.inr hi)
    refine r R (permIn_trans _ _ _ _ _ hperm (permIn_trans _ _ _ _ _ (permIn_mono _ _ (mid + 1) b1 a1 b1 (by omega) (Nat.le_refl _) hb4 hL) (permIn_mono _ _ a1 mid a1 b1 (Nat.le_refl _) (by omega) hbL hR))) ?_
    refine sorted_glue swo_ltInt hsR (hsL.congr fun i hi _ => eR i (by omega)) (fun i hi hi' => ?_) (fun i hi hi' => ?_)
    · rw [eR mid (Nat.le_refl _), eL mid (Nat.le_refl _)]
      exact permIn_all L R a1 mid (fun x => ltInt x d4[mid]! = true) (by omega) hR (fun q hq hq' => by rw [eL q (by omega)]; exact hlo q hq hq') i hi hi'
    · rw [eR i (by omega), eR mid (Nat.le_refl _), eL mid (Nat.le_refl _)]
      exact permIn_all d4 L (mid + 1) b1 (fun x => ltInt x d4[mid]! = false) hb4 hL (fun q hq hq' => hhi q (by omega) hq') i (by omega) hi'
  · rcases hBa with h0 | hBa
    · exact Or.inl h0
    · exact Or.inr fun i hi hi' => by rw [eL i (by omega), eL (a1 - 1) (by omega)]; exact hBa i hi hi'

set_option maxHeartbeats 4000000 in
theorem pdq_ok : ∀ (n : Nat) {k : Hp} {data : Sl} {d : Array Int} {F : List Nat} {a b : Nat} {limit : Int} {Q : Hp → Prop} (_ : b - a ≤ n) (_ : DA k data d F) (_ : a ≤ b) (_ : b ≤ d.size) (_ : d.size ≤ 140737488355328) (_ : Below ltInt a b d)
    (_ : ∀ k' d', DA k' data d' F → Mv F k F k' → PermIn a b d d' → SortedIn ltInt a b d' → Q k'), slices_pdqsortOrdered_uint64_w Try.prog data (a : Int) (b : Int) limit Q k := by
  intro n
  induction n with
  | zero =>
    intro k data d F a b limit Q hn o hab hb hs hB hq
    unfold slices_pdqsortOrdered_uint64_w
    refine LoopW5.intro (fun a1 b1 _ _ _ k1 => a1 = (a : Int) ∧ b1 = (b : Int) ∧ k1 = k) (fun _ _ _ _ _ _ => 0) ⟨rfl, rfl, rfl⟩ ?_
    rintro a1 b1 l wb wp k1 ⟨rfl, rfl, rfl⟩
    refine JoinW5.intro (fun _ _ _ _ _ _ => False) ?_ (fun _ _ _ _ _ _ h => h.elim)
    rw [wrap64 (n := (b : Int) - (a : Int)) (by omega) (by omega), if_pos (by simp; omega)]
    exact slices_insertionSortOrdered_uint64_call (insertionSort_ok o hab hb hs hq)
  | succ n ih =>
    intro k data d F a b limit Q hn o hab hb hs hB hq
    unfold slices_pdqsortOrdered_uint64_w
    refine LoopW5.intro (fun a1 b1 _ _ _ k1 => ∃ (A B : Nat) (d1 : Array Int), a1 = (A : Int) ∧ b1 = (B : Int) ∧ DA k1 data d1 F ∧ Mv F k F k1 ∧ d1.size = d.size ∧ a ≤ A ∧ A ≤ B ∧ B ≤ b ∧ Below ltInt A B d1 ∧ Rest a b d A B d1) (fun a1 b1 _ _ _ _ => (b1 - a1).toNat)
      ⟨a, b, d, rfl, rfl, o, Mv.refl _ _, rfl, Nat.le_refl _, hab, Nat.le_refl _, hB, fun R h1 h2 => ⟨h1, h2⟩⟩ ?_
    rintro a1 b1 l wb wp k1 ⟨A, B, d1, rfl, rfl, o1, m1, hsz1, hA, hAB, hBb, hB1, hr⟩
    refine JoinW5.intro (fun a2 b2 _ _ _ k2 => (∃ (A' B' : Nat) (d2 : Array Int), a2 = (A' : Int) ∧ b2 = (B' : Int) ∧ DA k2 data d2 F ∧ Mv F k F k2 ∧ d2.size = d.size ∧ a ≤ A' ∧ A' ≤ B' ∧ B' ≤ b ∧ Below ltInt A' B' d2 ∧ Rest a b d A' B' d2) ∧ (b2 - a2).toNat < ((B : Int) - (A : Int)).toNat) ?_ (fun _ _ _ _ _ _ h => h)
    rw [wrap64 (n := (B : Int) - (A : Int)) (by omega) (by omega)]
    have whole : ∀ {k' : Hp} {d' : Array Int}, DA k' data d' F → Mv F k1 F k' → PermIn A B d1 d' → SortedIn ltInt A B d' → Q k' := fun o' m' h1 h2 => by
      obtain ⟨h3, h4⟩ := hr _ h1 h2
      exact hq _ _ o' (m1.trans m') h3 h4
    by_cases h12 : (B : Int) - (A : Int) ≤ 12
    · rw [if_pos (decide_eq_true h12)]
      exact slices_insertionSortOrdered_uint64_call (insertionSort_ok o1 hAB (by omega) (by omega) fun k' d' o' m' h1 h2 => whole o' m' h1 h2)
    rw [if_neg fun hh => h12 (of_decide_eq_true hh)]
    by_cases hl : l = 0
    · rw [if_pos (by simpa using hl)]
      exact slices_heapSortOrdered_uint64_call (heapSort_ok o1 hAB (by omega) (by omega) fun k' d' o' m' h1 h2 => whole o' m' h1 h2)
    rw [if_neg (by simpa using hl)]
    refine JoinW1.intro (fun _ k2 => ∃ d2, DA k2 data d2 F ∧ Mv F k1 F k2 ∧ PermIn A B d1 d2) ?_ ?_
    · split
      · exact slices_breakPatternsOrdered_uint64_call (breakPatterns_ok o1 hAB (by omega) (by omega) fun k' d' o' m' h1 => ⟨d', o', m', h1⟩)
      · exact ⟨d1, o1, Mv.refl _ _, permIn_refl _ _ _⟩
    · rintro l2 k2 ⟨d2, o2, m2, hp2⟩
      have hsz2 : d2.size = d.size := hp2.1.trans hsz1
      refine slices_choosePivotOrdered_uint64_call (choosePivot_ok o2 (by omega) (by omega) (by omega) fun r hint k3 hr0 hr1 o3 m3 => ?_)
      refine JoinW2.intro (fun pivot _ k4 => ∃ (p : Nat) (d4 : Array Int), pivot = (p : Int) ∧ A ≤ p ∧ p < B ∧ DA k4 data d4 F ∧ Mv F k1 F k4 ∧ PermIn A B d1 d4) ?_ ?_
      · split
        · refine slices_reverseRangeOrdered_uint64_call (reverse_ok o3 (by omega) (by omega) (by omega) fun k' d' o' m' h1 => ?_)
          rw [wrap64 (n := (B : Int) - 1) (by omega) (by omega), wrap64 (n := (r : Int) - (A : Int)) (by omega) (by omega), wrap64 (by omega) (by omega)]
          exact ⟨B - 1 - (r - A), d', by omega, by omega, by omega, o', m2.trans (m3.trans m'), permIn_trans _ _ _ _ _ hp2 h1⟩
        · exact ⟨r, d2, rfl, hr0, hr1, o3, m2.trans m3, hp2⟩
      · rintro pivot hint4 k4 ⟨p, d4, rfl, hp0, hp1, o4, m4, hp4⟩
        have hsz4 : d4.size = d.size := hp4.1.trans hsz1
        have hB4 : Below ltInt A B d4 := hB1.perm (by omega) hp4
        refine JoinW0.intro (fun k5 => ∃ d5, DA k5 data d5 F ∧ Mv F k1 F k5 ∧ PermIn A B d1 d5) ?_ ?_
        · refine letW (letW ?_)
          split
          · refine slices_partialInsertionSortOrdered_uint64_call (partial_ok o4 (by omega) (by omega) (by omega) hB4 fun r2 k' d' o' m' h1 h2 => ?_)
            cases r2 with
            | true =>
              rw [if_pos rfl]
              exact whole o' (m4.trans m') (permIn_trans _ _ _ _ _ hp4 h1) (h2 rfl)
            | false =>
              rw [if_neg (by simp)]
              exact ⟨d', o', m4.trans m', permIn_trans _ _ _ _ _ hp4 h1⟩
          · exact ⟨d4, o4, m4, hp4⟩
        · rintro k5 ⟨d5, o5, m5, hp5⟩
          have hsz5 : d5.size = d.size := hp5.1.trans hsz1
          have hB5 : Below ltInt A B d5 := hB1.perm (by omega) hp5
          have hr5 : Rest a b d A B d5 := rest_perm hr hp5
          rw [wrap64 (n := (A : Int) - 1) (by omega) (by omega)]
          have e1 : ((A : Int) - 1).toNat = A - 1 := by omega
          have e2 : ((p : Nat) : Int).toNat = p := by omega
          refine da_getC o5 (fun hc => ?_) fun x hx => ?_
          · have : (A : Int) > 0 := by simpa using hc
            omega
          refine da_getC o5 (fun hc => by omega) fun x1 hx1 => ?_
          rw [e1] at hx
          rw [e2] at hx1
          have cont : ∀ (r2 : Bool), (decide ((A : Int) > 0) = true → r2 = ltInt d5[A - 1]! d5[p]!) → LetW ((decide ((A : Int) > (0 : Int))) && (!r2)) fun y =>
 (if y = true then
 CallT Try.prog n_slices_partitionEqualOrdered_uint64 [data.v, (.int .i64 (A : Int)), (.int .i64 (B : Int)), (.int .i64 (p : Int))] (shInt .i64) (fun r3 h7 =>
 (∃ (A' B' : Nat) (d2 : Array Int), r3 = (A' : Int) ∧ (B : Int) = (B' : Int) ∧ DA h7 data d2 F ∧ Mv F k F h7 ∧ d2.size = d.size ∧ a ≤ A' ∧ A' ≤ B' ∧ B' ≤ b ∧ Below ltInt A' B' d2 ∧ Rest a b d A' B' d2) ∧ ((B : Int) - r3).toNat < ((B : Int) - (A : Int)).toNat) k5
 else
 Call2 Try.prog n_slices_partitionOrdered_uint64 [data.v, (.int .i64 (A : Int)), (.int .i64 (B : Int)), (.int .i64 (p : Int))] (shInt .i64) shBool (fun r3 r4 h7 =>
 ((8 : Int) ≠ (0 : Int) ∧ (if (decide ((IntKind.wrap .i64 (r3 - (A : Int))) < (IntKind.wrap .i64 ((B : Int) - r3)))) = true then
 Call0 Try.prog n_slices_pdqsortOrdered_uint64 [data.v, (.int .i64 (A : Int)), (.int .i64 r3), (.int .i64 l2)] (fun h8 =>
 (∃ (A' B' : Nat) (d2 : Array Int), IntKind.wrap .i64 (r3 + (1 : Int)) = (A' : Int) ∧ (B : Int) = (B' : Int) ∧ DA h8 data d2 F ∧ Mv F k F h8 ∧ d2.size = d.size ∧ a ≤ A' ∧ A' ≤ B' ∧ B' ≤ b ∧ Below ltInt A' B' d2 ∧ Rest a b d A' B' d2) ∧ ((B : Int) - IntKind.wrap .i64 (r3 + (1 : Int))).toNat < ((B : Int) - (A : Int)).toNat) h7
 else
 Call0 Try.prog n_slices_pdqsortOrdered_uint64 [data.v, (.int .i64 (IntKind.wrap .i64 (r3 + (1 : Int)))), (.int .i64 (B : Int)), (.int .i64 l2)] (fun h8 =>
 (∃ (A' B' : Nat) (d2 : Array Int), (A : Int) = (A' : Int) ∧ r3 = (B' : Int) ∧ DA h8 data d2 F ∧ Mv F k F h8 ∧ d2.size = d.size ∧ a ≤ A' ∧ A' ≤ B' ∧ B' ≤ b ∧ Below ltInt A' B' d2 ∧ Rest a b d A' B' d2) ∧ (r3 - (A : Int)).toNat < ((B : Int) - (A : Int)).toNat) h7))) k5) := by
            intro r2 hr2
            refine letW ?_
            cases hy : (decide ((A : Int) > (0 : Int)) && !r2) with
            | true =>
              rw [if_pos rfl]
              simp only [Bool.and_eq_true, Bool.not_eq_true'] at hy
              have hA0 : (A : Int) > 0 := of_decide_eq_true hy.1
              have hnl := hr2 hy.1
              rw [hy.2] at hnl
              refine slices_partitionEqualOrdered_uint64_call (partitionEqual_ok o5 hp0 hp1 (by omega) (by omega) fun mid k6 d6 o6 m6 g1 g2 g3 g4 g5 => ?_)
              obtain ⟨h1, h2⟩ := rest_eq hr5 (by omega) hp1 hp0 (by omega) hB5 hnl.symm g1 g2 g3 g4 g5
              exact ⟨⟨mid, B, d6, rfl, rfl, o6, m1.trans (m5.trans m6), g3.1.trans hsz5, by omega, g2, hBb, h2, h1⟩, by omega⟩
            | false =>
              rw [if_neg (by simp)]
              refine slices_partitionOrdered_uint64_call (partition_ok o5 hp0 hp1 (by omega) (by omega) fun mid ap k6 d6 o6 m6 hpt => ?_)
              refine ⟨by decide, ?_⟩
              have hpt0 := hpt
              obtain ⟨g1, g2, g3, g4, g5⟩ := hpt
              have hsz6 : d6.size = d.size := g3.1.trans hsz5
              rw [wrap64 (n := (mid : Int) - (A : Int)) (by omega) (by omega), wrap64 (n := (B : Int) - (mid : Int)) (by omega) (by omega), wrap64 (n := (mid : Int) + 1) (by omega) (by omega)]
              have em : (mid : Int) + 1 = ((mid + 1 : Nat) : Int) := by omega
              rw [em]
              have hB6 : Below ltInt A B d6 := hB5.perm (by omega) g3
              by_cases hside : (mid : Int) - (A : Int) < (B : Int) - (mid : Int)
              · rw [if_pos (decide_eq_true hside)]
                refine slices_pdqsortOrdered_uint64_call (ih (by omega) o6 g1 (by omega) (by omega) (hB6.mono (by omega)) fun k7 d7 o7 m7 hL hsL => ?_)
                obtain ⟨h1, h2⟩ := rest_left hr5 (by omega) hpt0 hL hsL
                exact ⟨⟨mid + 1, B, d7, rfl, rfl, o7, m1.trans (m5.trans (m6.trans m7)), hL.1.trans hsz6, by omega, by omega, hBb, h2, h1⟩, by omega⟩
              · rw [if_neg fun hh => hside (of_decide_eq_true hh)]
                have hBr : Below ltInt (mid + 1) B d6 := Or.inr fun i hi hi' => by rw [Nat.add_sub_cancel]; exact g5 i (by omega) hi'
                refine slices_pdqsortOrdered_uint64_call (ih (by omega) o6 (by omega) (by omega) (by omega) hBr fun k7 d7 o7 m7 hL hsL => ?_)
                obtain ⟨h1, h2⟩ := rest_right hr5 (by omega) hB5 hpt0 hL hsL
                exact ⟨⟨A, mid, d7, rfl, rfl, o7, m1.trans (m5.trans (m6.trans m7)), hL.1.trans hsz6, by omega, by omega, by omega, h2, h1⟩, by omega⟩
          by_cases hA0 : (A : Int) > 0
          · have hc : decide ((A : Int) > 0) = true := decide_eq_true hA0
            refine ⟨fun _ => cmp_Less_uint64_call (less_ok (cont _ fun _ => ?_)), fun e => (by rw [hc] at e; cases e)⟩
            rw [hx hc, hx1 hc]
          · have hc : decide ((A : Int) > 0) = false := decide_eq_false hA0
            exact ⟨fun e => (by rw [hc] at e; cases e), fun _ => ⟨false, cont false fun e => by rw [hc] at e; cases e⟩⟩

/-- slices.Sort. -/
theorem sort_ok {k : Hp} {data : Sl} {xs : List Int} {F : List Nat} {Q : Hp → Prop} (o : OwnF k 1 eK data xs F) (hs : xs.length ≤ 140737488355328)
    (hq : ∀ k' ys, OwnF k' 1 eK data ys F → Mv F k F k' → ys.Perm xs → ys.Pairwise (· ≤ ·) → Q k') : slices_Sort_uint64_uint64_w Try.prog data Q k := by
  unfold slices_Sort_uint64_uint64_w
  have hl := o.1
  have e : (data.len : Int) = (xs.toArray.size : Int) := by simp [hl]
  rw [wrapU64 (n := (data.len : Int)) (by omega) (by omega)]
  refine math_bits_Len_call (len_ok (by omega) ?_)
  rw [e]
  have o' : DA k data xs.toArray F := o
  refine slices_pdqsortOrdered_uint64_call (a := ((0 : Nat) : Int)) (pdq_ok xs.toArray.size (by omega) o' (by omega) (by omega) (by simpa using hs) (Or.inl rfl) fun k' d' o2 m2 hp hsd => ?_)
  refine hq k' d'.toList o2 m2 ?_ ?_
  · have h3 := hp.2.2
    have h1 : d'.extract 0 xs.toArray.size = d' := by rw [← hp.1]; simp
    have h2 : xs.toArray.extract 0 xs.toArray.size = xs.toArray := by simp
    rw [h1, h2] at h3
    simpa using h3
  · refine List.pairwise_iff_getElem.2 fun i j hi hj hij => ?_
    have hi' : i < d'.size := by simpa using hi
    have hj' : j < d'.size := by simpa using hj
    have := hsd i j (by omega) hij (by rw [← hp.1]; exact hj')
    rw [getElem!_pos d' j hj', getElem!_pos d' i hi'] at this
    have h4 : ¬ d'[j] < d'[i] := by simpa [ltInt] using this
    have e1 : d'.toList[i] = d'[i] := by simp
    have e2 : d'.toList[j] = d'[j] := by simp
    rw [e1, e2]
    omega

end Lf.Souint64

/-
  Labels, rising, each once.
-/
namespace Lf
open Go Go.Proofs

/-- The reference's labels, rising. -/
theorem refCanon_ok {P : Program} {l : Sl} {xs : List Int} {Q : Sl → Hp → Prop} {h : Hp} (r : Us h l xs) (hl : xs.length ≤ 1000000)
    (hq : ∀ out ys h', h ≤ h' → OwnU h h' out ys → ys.Pairwise (· < ·) → (∀ y, y ∈ ys ↔ y ∈ xs) → Q out h') : firebreakref02_Canon_w P l Q h := by
  unfold firebreakref02_Canon_w
  refine new_row (xs := ([] : List Int)) (enc := fun x => cellsL ((shInt .u64).enc x)) (sz := 1) (Hp.le_refl h) rfl (fun _ => rfl) fun a h1 hle1 ho1 => ?_
  refine LoopW1.intro (fun out k => h ≤ k ∧ ∃ ys, OwnU h k out ys ∧ ys.Pairwise (· < ·) ∧ (∀ y ∈ ys, y ∈ xs) ∧ ∀ x ∈ xs, ∀ z, ys.getLast? = some z → x ≤ z → x ∈ ys) (fun out _ => xs.length + 1 - out.len)
    ⟨hle1, [], ho1, List.Pairwise.nil, fun y hy => (by cases hy), fun x _ z hz => by cases hz⟩ ?_
  rintro out k ⟨hle, ys, ho, hasc, hmem, hall⟩
  have hlx := r.1
  have hly := ho.1
  have hyx : ys.length ≤ xs.length := nodup_len ys xs (asc_nodup hasc) hmem
  have rk : Us k l xs := r.mono hle
  have ro : Us k out ys := ho.rw fun _ => rfl
  refine LoopW3.intro (fun found least i k' => k' = k ∧ 0 ≤ i ∧ i ≤ (xs.length : Int) ∧ (found = true → least ∈ xs ∧ ∀ z, ys.getLast? = some z → z < least) ∧
      ∀ x ∈ xs.take i.toNat, (∀ z, ys.getLast? = some z → z < x) → found = true ∧ least ≤ x) (fun _ _ i _ => (xs.length - i).toNat)
    ⟨rfl, by omega, by omega, fun e => (by cases e), fun x hx => by simp at hx⟩ ?_
  rintro found least i k' ⟨rfl, hi0, hi1, hf, hlow⟩
  split
  · rename_i e
    have e : i < (l.len : Int) := by simpa using e
    refine JoinW2.intro (fun found least k2 => k2 = k' ∧ (found = true → least ∈ xs ∧ ∀ z, ys.getLast? = some z → z < least) ∧ ∀ x ∈ xs.take (i.toNat + 1), (∀ z, ys.getLast? = some z → z < x) → found = true ∧ least ≤ x) ?_ ?_
    · have hwl : IntKind.wrap .i64 ((out.len : Int) - 1) = (out.len : Int) - 1 := wrap64 (by omega) (by omega)
      rw [hwl]
      have hxi : ∃ x, xs[i.toNat]? = some x := ⟨xs[i.toNat]'(by omega), List.getElem?_eq_getElem (by omega)⟩
      obtain ⟨xi, hxi⟩ := hxi
      have htk : xs.take (i.toNat + 1) = xs.take i.toNat ++ [xi] := by rw [List.take_add_one, hxi]; rfl
      refine Rs.getC rk (0 : Int) (fun _ => rfl) (by omega) (fun _ => ⟨hi0, by omega⟩) fun (x : Int) hx => ?_
      refine Rs.getC ro (0 : Int) (fun _ => rfl) (by omega) (fun hc => ?_) fun (x1 : Int) hx1 => ?_
      · have : ¬ (out.len : Int) = 0 := by simpa using hc
        omega
      refine letW ?_
      -- is it above the last one?
      have habove : ((((out.len : Nat) : Int) == (0 : Int)) || (decide (x > x1))) = true ↔ ∀ z, ys.getLast? = some z → z < xi := by
        by_cases h0 : (out.len : Int) = 0
        · have hy0 : ys = [] := List.length_eq_zero_iff.1 (by omega)
          rw [hy0]
          simp [h0]
        · have hc : (!((out.len : Int) == 0)) = true := by simp; omega
          have hx' := hx hc
          have hx1' := hx1 hc
          rw [hxi] at hx'; cases hx'
          have hyl : ((out.len : Int) - 1).toNat = ys.length - 1 := by omega
          rw [hyl, ← List.getLast?_eq_getElem?] at hx1'
          rw [hx1']
          have : ((out.len : Int) == 0) = false := by simpa using h0
          rw [this, Bool.false_or]
          simp
      refine Rs.getC rk (0 : Int) (fun _ => rfl) (by omega) (fun _ => ⟨hi0, by omega⟩) fun (x2 : Int) hx2 => ?_
      refine letW (letW ?_)
      split
      · rename_i hy
        obtain ⟨hy1, hy2⟩ := Bool.and_eq_true_iff.1 hy
        have hab := habove.1 hy1
        refine Rs.get rk (fun _ => rfl) (by omega) hi0 (by omega) fun (x3 : Int) hx3 => ?_
        rw [hxi] at hx3; cases hx3
        refine ⟨rfl, fun _ => ⟨List.mem_of_getElem? hxi, hab⟩, fun x hx hz => ⟨rfl, ?_⟩⟩
        rw [htk] at hx
        rcases List.mem_append.1 hx with hx | hx
        · obtain ⟨g1, g2⟩ := hlow x hx hz
          rw [g1] at hy2
          have hx2' := hx2 (by rw [hy1, g1]; rfl)
          rw [hxi] at hx2'; cases hx2'
          have : xi < least := by simpa using hy2
          omega
        · rw [List.mem_singleton.1 hx]; omega
      · rename_i hy
        refine ⟨rfl, hf, fun x hx hz => ?_⟩
        rw [htk] at hx
        rcases List.mem_append.1 hx with hx | hx
        · exact hlow x hx hz
        · rw [List.mem_singleton.1 hx] at hz ⊢
          have hy1 := habove.2 hz
          rw [hy1, Bool.true_and] at hy
          have hfd : found = true := by
            cases found with
            | true => rfl
            | false => simp at hy
          have hx2' := hx2 (by rw [hy1, hfd]; rfl)
          rw [hxi] at hx2'; cases hx2'
          rw [hfd] at hy
          have : ¬ xi < least := by simpa using hy
          exact ⟨hfd, by omega⟩
    · rintro found1 least1 k1 ⟨rfl, hf1, hlow1⟩
      have hw : IntKind.wrap .i64 (i + 1) = i + 1 := wrap64 (by omega) (by omega)
      rw [hw]
      have e1 : (i + 1).toNat = i.toNat + 1 := by omega
      exact ⟨⟨rfl, by omega, by omega, hf1, by rw [e1]; exact hlow1⟩, by omega⟩
  · rename_i e
    have e : ¬ i < (l.len : Int) := by simpa using e
    rw [List.take_of_length_le (by omega)] at hlow
    split
    · rename_i e2
      have hfd : found = false := by simpa using e2
      refine hq out ys _ hle ho hasc fun y => ⟨hmem y, fun hy => ?_⟩
      refine Classical.byContradiction fun hn => ?_
      have := hlow y hy fun z hz => by
        refine Classical.byContradiction fun hzy => hn (hall y hy z hz (by omega))
      rw [hfd] at this
      cases this.1
    · rename_i e2
      have hfd : found = true := by simpa using e2
      obtain ⟨h5, h6⟩ := hf hfd
      refine new_row (xs := [least]) (enc := fun x => cellsL ((shInt .u64).enc x)) (sz := 1) (h0 := h) hle rfl (fun _ => rfl) fun a1 h4 hle4 ho4 => ?_
      have ho' : OwnU h h4 out ys := ho.mono hle4
      refine app_own (Hp.le_trans hle hle4) ho' (ho4.rw fun _ => rfl) (fun _ => rfl) (fun _ => rfl) rfl ?_ fun l' h' hle' hown _ => ?_
      · simp; omega
      · have hsn := asc_snoc hasc h6
        have hm : ∀ y ∈ ys ++ [least], y ∈ xs := fun y hy => by
          rcases List.mem_append.1 hy with hy | hy
          · exact hmem y hy
          · rw [List.mem_singleton.1 hy]; exact h5
        have hlen := nodup_len _ xs (asc_nodup hsn) hm
        have hl' := hown.1
        simp at hlen hl'
        refine ⟨⟨hle', _, hown, hsn, hm, fun x hx z hz hxz => ?_⟩, by omega⟩
        rw [List.getLast?_concat] at hz
        cases hz
        by_cases hab : ∀ z, ys.getLast? = some z → z < x
        · have := (hlow x hx hab).2
          have : x = least := by omega
          rw [this]; simp
        · have : ∃ z, ys.getLast? = some z ∧ ¬ z < x := Classical.byContradiction fun hne => hab fun z hz => Classical.byContradiction fun hzx => hne ⟨z, hz, hzx⟩
          obtain ⟨z, hz, hzx⟩ := this
          exact List.mem_append_left _ (hall x hx z hz (by omega))

abbrev eU : Int → List Value := fun x => cellsL ((shInt .u64).enc x)

theorem cloneF_ok {s : Sl} {xs : List Int} {Q : Sl → Hp → Prop} {h : Hp} (r : Us h s xs) (hl : xs.length ≤ 1000000) (hq : ∀ out h' F, OwnF h' 1 eU out xs F → Mv [] h F h' → Q out h') : slices_Clone_uint64_uint64_w Try.prog s Q h := by
  unfold slices_Clone_uint64_uint64_w
  refine ⟨s.base.isNone, semIs_nilSl (tb_ok.und 33 ty33 rfl) s, ?_⟩
  cases hb : s.base with
  | none =>
    rw [if_pos (show (none : Option Addr).isNone = true from rfl)]
    have : xs = [] := by
      rcases r.2.2 with e | ⟨a, ha, _⟩
      · exact List.length_eq_zero_iff.1 (by omega)
      · rw [hb] at ha; cases ha
    subst this
    exact hq _ h [] ⟨rfl, Nat.le_refl _, .inl ⟨rfl, rfl, rfl⟩⟩ (Mv.refl _ _)
  | some a =>
    rw [if_neg (by simp)]
    refine newF (xs := ([] : List Int)) (enc := eU) (sz := 1) rfl (fun _ => rfl) fun b h1 hb1 hle1 m1 o1 => ?_
    refine appF (F := [b]) (l := ⟨some ⟨b, 0, none⟩, 0, 0⟩) o1 (Rw.mono hle1 r) (fun _ => rfl) (fun _ => rfl) rfl (by simp; omega) fun l' h' F' o' m' => ?_
    exact hq l' h' F' o' (m1.trans m')

end Lf

/-
  Neighbours that are the same: one of them.
-/
namespace Lf
open Go Go.Proofs

set_option maxRecDepth 20000 in
theorem clearTail {s : Sl} {zs : List Int} {F : List Nat} {n : Nat} {K : Hp → Prop} {h : Hp} (o : OwnF h 1 eU s zs F) (hn : n < zs.length)
    (hk : ∀ h', OwnF h' 1 eU ⟨sbase s.base 1 0 s.cap, n - 0, s.cap - 0⟩ (zs.take n) F → Mv F h F h' → K h') :
    SemE0 Try.prog (Builtin.clear_ #[33] 0 #[(⟨sbase s.base 1 n s.cap, s.len - n, s.cap - n⟩ : Sl).v]) shUnit K h := by
  obtain ⟨o1, o2, o3⟩ := o
  rcases o3 with ⟨_, e2, _⟩ | ⟨b, cs, e1, rfl, kb, e4, e5⟩
  · omega
  have eb : sbase s.base 1 n s.cap = some ⟨b, n, none⟩ := by
    rw [e1, sbase_at (by omega), Nat.zero_add, Nat.mul_one]
  have eb0 : sbase s.base 1 0 s.cap = some ⟨b, 0, none⟩ := by
    rw [e1, sbase_at (by omega)]
  rw [eb]
  rw [eb0] at hk
  rw [Nat.mul_one] at e4 e5
  refine clear_blk (off := n) (n := s.len - n) (z := .int .u64 0) (tb_ok.und 33 ty33 rfl) (fun hk => semW_zero tb_ok (t := 43) (e := ty43) rfl hk) (fun m => by
    induction m with
    | zero => rfl
    | succ m ih => exact ih) kb (by show n + (s.len - n) * 1 ≤ _; omega) fun h' m' k' => ?_
  have hz : (zerosL (cellsL (Value.int .u64 0)) (s.len - n)).length = s.len - n := by rw [zerosL_len]; exact Nat.mul_one _
  have hl1 : (cellsL (Value.int .u64 0)).length = 1 := rfl
  rw [hl1, Nat.mul_one] at k'
  refine hk h' ⟨?_, ?_, .inr ⟨b, _, rfl, rfl, k', ?_, ?_⟩⟩ m'
  · show n - 0 = _
    rw [List.length_take]; omega
  · show n - 0 ≤ s.cap - 0
    omega
  · show _ = (s.cap - 0) * 1
    simp only [List.length_append, List.length_take, List.length_drop, hz]
    omega
  · show List.take ((n - 0) * 1) _ = _
    rw [List.append_assoc, Nat.sub_zero, Nat.mul_one, List.take_append_of_le_length (by rw [List.length_take]; omega), List.take_take, Nat.min_self]
    rw [flat_take (enc := eU) (sz := 1) (fun _ => rfl), ← e5, List.take_take, Nat.mul_one]
    congr 1
    omega

set_option maxRecDepth 20000 in
theorem compact_ok {s : Sl} {xs : List Int} {F : List Nat} {Q : Sl → Hp → Prop} {h : Hp} (o : OwnF h 1 eU s xs F) (hl : xs.length ≤ 1000000) (hq : ∀ out h', OwnF h' 1 eU out (cmpP xs) F → Mv F h F h' → Q out h') : slices_Compact_uint64_uint64_w Try.prog s Q h := by
  unfold slices_Compact_uint64_uint64_w
  have hs := o.1
  have rs : Us h s xs := o.rw fun _ => rfl
  by_cases h2 : (s.len : Int) < 2
  · rw [if_pos (decide_eq_true h2)]
    refine hq s h ?_ (Mv.refl _ _)
    rw [cmpP_short (by omega)]
    exact o
  rw [if_neg fun hh => h2 (of_decide_eq_true hh)]
  refine LoopW1.intro (fun k k' => k' = h ∧ 1 ≤ k ∧ k ≤ (xs.length : Int) ∧ ∃ p, xs[(k - 1).toNat]? = some p ∧ cmpP xs = xs.take k.toNat ++ cmpR p (xs.drop k.toNat)) (fun k _ => (xs.length - k).toNat) ⟨rfl, by omega, by omega, ?_⟩ ?_
  · cases xs with
    | nil => simp at hs; omega
    | cons x r => exact ⟨x, rfl, rfl⟩
  rintro k kh ⟨ekh, hk1, hk2, p, hp, hc⟩
  subst kh
  split
  · rename_i e
    have e : k < (s.len : Int) := by simpa using e
    rw [wrap64 (n := k - 1) (by omega) (by omega)]
    refine Rs.get rs (fun _ => rfl) (by omega) (by omega) (by omega) fun (x : Int) hx => ?_
    refine Rs.get rs (fun _ => rfl) (by omega) (by omega) (by omega) fun (x1 : Int) hx1 => ?_
    rw [hp] at hx1; cases hx1
    have hd : xs.drop k.toNat = x :: xs.drop (k.toNat + 1) := by
      obtain ⟨h3, h4⟩ := List.getElem?_eq_some_iff.1 hx
      rw [List.drop_eq_getElem_cons h3, h4]
    rw [hd] at hc
    simp only [cmpR] at hc
    have e1 : (k + 1).toNat = k.toNat + 1 := by omega
    by_cases hxp : x = p
    · rw [if_pos (by simpa using hxp)]
      rw [if_pos hxp] at hc
      refine ⟨by omega, letW ?_⟩
      subst hxp
      -- the second loop
      have hkn : ((k.toNat : Nat) : Int) = k := by omega
      have hyl : ((s.len - k.toNat : Nat) : Int) = (xs.length : Int) - k := by omega
      refine LoopW2.intro (fun k1 k2 k' => ∃ zs, OwnF k' 1 eU s zs F ∧ Mv F h F k' ∧ zs.length = xs.length ∧ 1 ≤ k2 ∧ k ≤ k1 ∧ k1 ≤ k + k2 - 1 ∧ k + k2 ≤ (xs.length : Int) ∧ zs.drop (k + k2 - 1).toNat = xs.drop (k + k2 - 1).toNat ∧
          ∃ p, xs[(k + k2 - 1).toNat]? = some p ∧ cmpP xs = zs.take k1.toNat ++ cmpR p (xs.drop (k + k2).toNat)) (fun _ k2 _ => (xs.length - k2).toNat)
        ⟨xs, o, Mv.refl _ _, rfl, by omega, by omega, by omega, by omega, rfl, x, by rw [show (k + 1 - 1).toNat = k.toNat by omega]; exact hx, by rw [e1]; exact hc⟩ ?_
      rintro k1 k2 k' ⟨zs, oz, mz, hzl, hk21, hk11, hk12, hk22, hdr, q, hq1, hcq⟩
      have rz : Us k' ⟨sbase s.base 1 k.toNat s.cap, s.len - k.toNat, s.cap - k.toNat⟩ (zs.drop k.toNat) := by
        have := Rw.cut (a := k.toNat) (b := zs.length) (c := s.cap) (n := s.len - k.toNat) (m := s.cap - k.toNat) (oz.rw (enc := eU) fun _ => rfl) (fun _ => rfl) (by omega) (Nat.le_refl _) (by have := o.2.1; omega) (by omega)
        rw [List.take_of_length_le (by rw [List.length_drop]; omega)] at this
        exact this
      have hzd : (zs.drop k.toNat).length = xs.length - k.toNat := by rw [List.length_drop, hzl]
      have hat : ∀ j : Int, k + k2 - 1 ≤ j → zs[j.toNat]? = xs[j.toNat]? := fun j hj => by
        have h1 := congrArg (fun l : List Int => l[j.toNat - (k + k2 - 1).toNat]?) hdr
        simp only [List.getElem?_drop] at h1
        rw [show (k + k2 - 1).toNat + (j.toNat - (k + k2 - 1).toNat) = j.toNat by omega] at h1
        exact h1
      dsimp only
      split
      · rename_i e
        have e : k2 < ((s.len - k.toNat : Nat) : Int) := by simpa using e
        rw [wrap64 (n := k2 - 1) (by omega) (by omega)]
        refine JoinW1.intro (fun k1 k' => ∃ zs, OwnF k' 1 eU s zs F ∧ Mv F h F k' ∧ zs.length = xs.length ∧ k ≤ k1 ∧ k1 ≤ k + k2 ∧ zs.drop (k + k2).toNat = xs.drop (k + k2).toNat ∧
          ∃ p, xs[(k + k2).toNat]? = some p ∧ cmpP xs = zs.take k1.toNat ++ cmpR p (xs.drop (k + k2 + 1).toNat)) ?_ ?_
        · refine Rs.get rz (fun _ => rfl) (by omega) (by omega) (by omega) fun (y : Int) hy => ?_
          refine Rs.get rz (fun _ => rfl) (by omega) (by omega) (by omega) fun (y1 : Int) hy1 => ?_
          rw [List.getElem?_drop, show k.toNat + k2.toNat = (k + k2).toNat by omega, hat _ (by omega)] at hy
          rw [List.getElem?_drop, show k.toNat + (k2 - 1).toNat = (k + k2 - 1).toNat by omega, hat _ (by omega), hq1] at hy1
          cases hy1
          have hd2 : xs.drop (k + k2).toNat = y :: xs.drop (k + k2 + 1).toNat := by
            obtain ⟨h3, h4⟩ := List.getElem?_eq_some_iff.1 hy
            rw [List.drop_eq_getElem_cons h3, h4, show (k + k2 + 1).toNat = (k + k2).toNat + 1 by omega]
          have hdr' : zs.drop (k + k2).toNat = xs.drop (k + k2).toNat := by
            have := congrArg (List.drop 1) hdr
            rw [List.drop_drop, List.drop_drop, show (k + k2 - 1).toNat + 1 = (k + k2).toNat by omega] at this
            exact this
          rw [hd2] at hcq
          simp only [cmpR] at hcq
          by_cases hyq : y = q
          · rw [if_neg (by simpa using hyq)]
            rw [if_pos hyq] at hcq
            exact ⟨zs, oz, mz, hzl, hk11, by omega, hdr', y, hy, by rw [hyq]; exact hcq⟩
          · rw [if_pos (by simpa using hyq)]
            rw [if_neg hyq] at hcq
            refine Rs.get rz (fun _ => rfl) (by omega) (by omega) (by omega) fun (y2 : Int) hy2 => ?_
            rw [List.getElem?_drop, show k.toNat + k2.toNat = (k + k2).toNat by omega, hat _ (by omega), hy] at hy2
            cases hy2
            refine oz.store (fun _ => rfl) (by omega) (by omega) y fun h3 o3 m3 => ?_
            rw [wrap64 (n := k1 + 1) (by omega) (by omega)]
            refine ⟨_, o3, mz.trans m3, by rw [List.length_set]; exact hzl, by omega, by omega, ?_, y, hy, ?_⟩
            · rw [List.drop_set_of_lt (by omega)]
              exact hdr'
            · rw [hcq, show (k1 + 1).toNat = k1.toNat + 1 by omega, List.take_add_one, List.take_set_of_le (Nat.le_refl _), List.getElem?_set_self (by omega)]
              simp
        · rintro k3 h3 ⟨zs3, o3, m3, hz3, g1, g2, g3, g4⟩
          rw [wrap64 (n := k2 + 1) (by omega) (by omega)]
          rw [show k + (k2 + 1) - 1 = k + k2 by omega, show k + (k2 + 1) = k + k2 + 1 by omega]
          exact ⟨⟨zs3, o3, m3, hz3, by omega, g1, g2, by omega, g3, g4⟩, by omega⟩
      · rename_i e
        have e : ¬ k2 < ((s.len - k.toNat : Nat) : Int) := by simpa using e
        rw [List.drop_eq_nil_of_le (by omega)] at hcq
        simp only [cmpR, List.append_nil] at hcq
        refine ⟨by omega, letW ?_⟩
        refine clearTail oz (n := k1.toNat) (by omega) fun h3 o3 m3 => ?_
        refine ⟨by have := o.2.1; omega, letW ?_⟩
        rw [← hcq] at o3
        exact hq _ _ o3 (mz.trans m3)
    · rw [if_neg (by simpa using hxp)]
      rw [if_neg hxp] at hc
      rw [wrap64 (by omega) (by omega)]
      exact ⟨⟨rfl, by omega, by omega, x, by rw [show (k + 1 - 1).toNat = k.toNat by omega]; exact hx, by
        rw [e1, List.take_add_one, hx, hc]
        simp⟩, by omega⟩
  · rename_i e
    have e : ¬ k < (s.len : Int) := by simpa using e
    rw [List.drop_eq_nil_of_le (by omega), List.take_of_length_le (by omega)] at hc
    simp only [cmpR, List.append_nil] at hc
    refine hq s _ ?_ (Mv.refl _ _)
    rw [hc]
    exact o

/-- table.Canon. -/
theorem tabCanon_ok {l : Sl} {xs : List Int} {Q : Sl → Hp → Prop} {h : Hp} (r : Us h l xs) (hl : xs.length ≤ 1000000)
    (hq : ∀ out ys h' F, OwnF h' 1 eU out ys F → Mv [] h F h' → ys.Pairwise (· < ·) → (∀ y, y ∈ ys ↔ y ∈ xs) → Q out h') : table_Canon_w Try.prog l Q h := by
  unfold table_Canon_w
  refine slices_Clone_uint64_uint64_call (cloneF_ok r hl fun out h1 F o1 m1 => ?_)
  refine slices_Sort_uint64_uint64_call (Souint64.sort_ok o1 (by omega) fun h2 ys o2 m2 hp hasc => ?_)
  have hlen : ys.length = xs.length := hp.length_eq
  refine slices_Compact_uint64_uint64_call (compact_ok o2 (by omega) fun out' h3 o3 m3 => ?_)
  exact hq _ _ _ _ o3 (m1.trans (m2.trans m3)) (cmpP_asc hasc) fun y => cmpP_mem.trans hp.mem_iff

end Lf

/-
  TableMays.
-/
namespace Lf
open Go Go.Proofs

theorem few_ok {l : Sl} {xs : List Int} {h : Hp} (r : Us h l xs) (cl : l.len ≤ l.cap) :
    ((0 : Int) ≤ min2I (l.len : Int) 300 ∧ (min2I (l.len : Int) 300 ≤ min2I (l.len : Int) 300 ∧ min2I (l.len : Int) 300 ≤ (l.cap : Int))) ∧
      Us h ⟨sbase l.base 1 0 (Int.toNat (min2I (l.len : Int) 300)), Int.toNat (min2I (l.len : Int) 300) - 0, Int.toNat (min2I (l.len : Int) 300) - 0⟩ (xs.take 300) := by
  have hll := r.1
  have m1 := @min2_le (l.len : Int) 300
  refine ⟨by omega, ?_⟩
  have e : xs.take 300 = xs.take (min2I (l.len : Int) 300).toNat := by
    rcases m1.2.2 with e | e
    · rw [List.take_of_length_le (by omega), List.take_of_length_le (by omega)]
    · rw [e]; rfl
  rw [e]
  exact Rw.head r (fun _ => rfl) (by omega) (by omega) (by omega)

theorem tableMays_ok {l : Sl} {xs : List Int} {Q : Bool → Hp → Prop} {h : Hp} (r : Us h l xs) (cl : l.len ≤ l.cap) (hq : ∀ h', h ≤ h' → Q true h') : firebreaklaw02_TableMays_w Try.prog l Q h := by
  unfold firebreaklaw02_TableMays_w
  refine firebreaklaw02_awake_call (awake_ok fun h1 l1 => ?_)
  rw [if_neg (by simp)]
  refine firebreaklaw02_short_call (short_ok (r.mono l1) cl fun o ro co _ => ?_)
  refine table_May_call (mayG_ok ro (firebreakref02_May_call (refMay_ok ro ?_)))
  have rest : ∀ h2, h1 ≤ h2 → (((0 : Int) ≤ (min2I ((o.len : Nat) : Int) (300 : Int)) ∧ ((min2I ((o.len : Nat) : Int) (300 : Int)) ≤ (min2I ((o.len : Nat) : Int) (300 : Int)) ∧ (min2I ((o.len : Nat) : Int) (300 : Int)) ≤ ((o.cap : Nat) : Int))) ∧ LetW (α := Sl) ⟨(sbase o.base 1 0 (Int.toNat (min2I ((o.len : Nat) : Int) (300 : Int)))), ((Int.toNat (min2I ((o.len : Nat) : Int) (300 : Int))) - 0), ((Int.toNat (min2I ((o.len : Nat) : Int) (300 : Int))) - 0)⟩ fun y4 =>
 CallT Try.prog n_table_Canon [y4.v] shSl (fun r9 h6 =>
 CallT Try.prog n_firebreakref02_Canon [y4.v] shSl (fun r10 h7 =>
 CallT Try.prog n_firebreakref02_SameLabels [r9.v, r10.v] shBool (fun r11 h8 =>
 Q r11 h8) h7) h6) h2) := fun h2 l2 => by
    obtain ⟨g1, g2⟩ := few_ok (ro.mono l2) co
    refine ⟨g1, letW ?_⟩
    have hlt : ((xs.take 1048576).take 300).length ≤ 300 := by rw [List.length_take]; omega
    refine table_Canon_call (tabCanon_ok g2 (by omega) fun out ys h3 F o3 m3 asc3 mem3 => ?_)
    have l3 := (m3.le (Hp.le_refl h2) fun b hb => by cases hb).1
    refine firebreakref02_Canon_call (refCanon_ok (g2.mono l3) (by omega) fun out2 zs h4 l4 o4 asc4 mem4 => ?_)
    have e : ys = zs := asc_eq asc3 asc4 fun z => (mem3 z).trans (mem4 z).symm
    subst e
    have hy : ys.length ≤ ((xs.take 1048576).take 300).length := nodup_len ys _ (asc_nodup asc3) fun y hy => (mem3 y).1 hy
    exact firebreakref02_SameLabels_call (sameLabels_ok (Rw.mono l4 (o3.rw fun _ => rfl)) (o4.rw fun _ => rfl) (by omega) (hq _ (Hp.le_trans l1 (Hp.le_trans l2 (Hp.le_trans l3 l4)))))
  refine table_New_call (newG_ok ro (fun hne => ?_) fun he p h2 l2 t2 => ?_)
  · have e1 : (mayP (List.take 1048576 xs)).1 ≠ 0 := hne
    refine letW (letW (letW (letW ?_)))
    rw [if_neg (by simp [e1])]
    exact rest h1 (Hp.le_refl _)
  · refine letW (letW (letW (letW ?_)))
    rw [if_neg (by simp [he, mayP_place0 he])]
    exact rest h2 l2

end Lf

/-
  TableOrder.
-/
namespace Lf
open Go Go.Proofs

theorem bit_high {a : Int} (ha : InU a) {n : Nat} (hn : 64 ≤ n) : bit a n = false := by
  unfold bit
  refine Nat.testBit_lt_two_pow ?_
  have : a.toNat < 2 ^ 64 := by have := ha.2; omega
  exact Nat.lt_of_lt_of_le this (Nat.pow_le_pow_right (by omega) hn)

theorem flows_le {a b : Int} (ha : InU a) (h : flows a b = true) : a ≤ b ∨ b < 0 := by
  have h1 := flows_iff.1 h
  have e : a.toNat &&& b.toNat = a.toNat := by
    refine Nat.eq_of_testBit_eq fun n => ?_
    rw [Nat.testBit_and]
    by_cases hn : n < 64
    · cases hb : a.toNat.testBit n with
      | false => rfl
      | true =>
        have : b.toNat.testBit n = true := h1 n hn hb
        rw [this]; rfl
    · have : a.toNat.testBit n = false := bit_high ha (by omega)
      rw [this]; rfl
  have := @Nat.and_le_right a.toNat b.toNat
  rw [e] at this
  have := ha.1
  omega

theorem flows_refl (a : Int) : flows a a = true := flows_iff.2 fun _ _ h => h

theorem flows_trans {a b c : Int} (h1 : flows a b = true) (h2 : flows b c = true) : flows a c = true := flows_iff.2 fun n hn h => flows_iff.1 h2 n hn (flows_iff.1 h1 n hn h)

section
variable {ls : List Int} (hu : ∀ x ∈ ls, InU x) (asc : ls.Pairwise (· < ·)) {i j k : Int}

theorem fl_parts (h : fl ls i j = true) : ∃ x y, 0 ≤ i ∧ 0 ≤ j ∧ ls[i.toNat]? = some x ∧ ls[j.toNat]? = some y ∧ flows x y = true := by
  unfold fl at h
  split at h
  · rename_i e
    refine ⟨ls[i.toNat]'(by omega), ls[j.toNat]'(by omega), by omega, by omega, List.getElem?_eq_getElem (by omega), List.getElem?_eq_getElem (by omega), ?_⟩
    rw [List.getD_eq_getElem?_getD, List.getD_eq_getElem?_getD, List.getElem?_eq_getElem (by omega), List.getElem?_eq_getElem (by omega)] at h
    exact h
  · cases h

include hu asc in
theorem fl_up (h : fl ls i j = true) : i ≤ j := by
  obtain ⟨x, y, h0, h1, hx, hy, hf⟩ := fl_parts h
  obtain ⟨p1, e1⟩ := List.getElem?_eq_some_iff.1 hx
  obtain ⟨p2, e2⟩ := List.getElem?_eq_some_iff.1 hy
  have hxy := flows_le (hu x (List.mem_of_getElem? hx)) hf
  have hy0 := (hu y (List.mem_of_getElem? hy)).1
  refine Classical.byContradiction fun hn => ?_
  have := List.pairwise_iff_getElem.1 asc j.toNat i.toNat p2 p1 (by omega)
  rw [e1, e2] at this
  omega

theorem fl_refl (h0 : 0 ≤ i) (h1 : i < (ls.length : Int)) : fl ls i i = true := by
  unfold fl
  rw [if_pos (by omega)]
  exact flows_refl _

theorem fl_trans (h1 : fl ls i j = true) (h2 : fl ls j k = true) : fl ls i k = true := by
  obtain ⟨x, y, a0, a1, hx, hy, hf⟩ := fl_parts h1
  obtain ⟨y', z, b0, b1, hy', hz, hg⟩ := fl_parts h2
  rw [hy] at hy'
  cases hy'
  rw [fl_in ⟨a0, b1⟩ hx hz]
  exact flows_trans hf hg

end

theorem those_has {p : Nat → Bool} {n : Nat} {j : Int} (h0 : 0 ≤ j) (h1 : j < (n : Int)) : (those p n).contains j = p j.toNat := by
  rw [Bool.eq_iff_iff, List.contains_iff_mem]
  unfold those
  rw [List.mem_map]
  constructor
  · rintro ⟨k, hk, rfl⟩
    have := (List.mem_filter.1 hk).2
    simpa using this
  · intro h
    exact ⟨j.toNat, List.mem_filter.2 ⟨List.mem_range.2 (by omega), h⟩, by omega⟩

theorem effFl {p : Addr} {ls : List Int} {b : Bool} {i j : Int} {K : Bool → Hp → Prop} {h : Hp} (t : Tab h p ls) (hu : ∀ x ∈ ls, InU x) (hk : ∀ r, (b = true → r = fl ls i j) → K r h) :
    EffC (some b) (CallT Try.prog n_table_Table_Flows [(.pointer (some p)), (.int .i64 i), (.int .i64 j)] shBool) K h :=
  ⟨fun _ => table_Table_Flows_call (tabFlows_ok t hu (hk _ fun _ => rfl)), fun hb => ⟨false, hk _ fun e => by rw [hb] at e; cases e⟩⟩

/-- Is a number in a list? By steps. -/
theorem isIn_ok {y : Sl} {xs : List Int} {a : Int} {K : Hp → Prop} {C : Hp → Prop} {h : Hp} (r : Us h y xs) (hl : xs.length ≤ 1000000) (hm : a ∈ xs) (hk : K h) :
    LoopW2 (α1 := Bool) (α2 := Int) (fun again1 in_ i h4 =>
 (if (decide (i < ((y.len : Nat) : Int))) = true then
 ((InB y.base y.len i) ∧ LdW none (shInt .u64) h4 (sat y.base 1 i) fun x2 =>
 LetW (in_ || (a == x2)) fun y2 =>
 again1 y2 (IntKind.wrap .i64 (i + (1 : Int))) h4)
 else
 (if (!in_) = true then
 C h4
 else
 K h4))) false (0 : Int) h := by
  have hlen := r.1
  refine LoopW2.intro (fun b i k => k = h ∧ 0 ≤ i ∧ i ≤ (xs.length : Int) ∧ b = (xs.take i.toNat).contains a) (fun _ i _ => (xs.length - i).toNat) ⟨rfl, by omega, by omega, rfl⟩ ?_
  rintro b i k ⟨ek, hi0, hi1, hb⟩
  subst k
  split
  · rename_i e
    have e : i < (y.len : Int) := by simpa using e
    refine Rs.get r (fun _ => rfl) (by omega) hi0 (by omega) fun (x : Int) hx => letW ?_
    rw [wrap64 (by omega) (by omega)]
    refine ⟨⟨rfl, by omega, by omega, ?_⟩, by omega⟩
    have e1 : (i + 1).toNat = i.toNat + 1 := by omega
    rw [e1, List.take_add_one, hx, hb, Bool.eq_iff_iff]
    simp
  · rename_i e
    have e : ¬ i < (y.len : Int) := by simpa using e
    rw [List.take_of_length_le (by omega)] at hb
    have hb : b = true := by rw [hb]; exact List.contains_iff_mem.2 hm
    rw [hb, if_neg (by simp)]
    exact hk

set_option maxRecDepth 20000 in
theorem tableOrder_ok {l : Sl} {xs : List Int} {Q : Bool → Hp → Prop} {h : Hp} (r : Us h l xs) (cl : l.len ≤ l.cap) (hx : ∀ x ∈ xs, InU x) (hq : ∀ h', h ≤ h' → Q true h') : firebreaklaw02_TableOrder_w Try.prog l Q h := by
  unfold firebreaklaw02_TableOrder_w
  refine firebreaklaw02_awake_call (awake_ok fun h1 l1 => ?_)
  rw [if_neg (by simp)]
  obtain ⟨g1, g2⟩ := few_ok (r.mono l1) cl
  refine ⟨g1, letW ?_⟩
  have hxs : ∀ x ∈ xs.take 300, InU x := fun x hm => hx x (List.mem_of_mem_take hm)
  have hlt : (xs.take 300).length ≤ 300 := by rw [List.length_take]; omega
  generalize xs.take 300 = xs' at g2 hxs hlt
  generalize (⟨sbase l.base 1 0 (Int.toNat (min2I (l.len : Int) 300)), Int.toNat (min2I (l.len : Int) 300) - 0, Int.toNat (min2I (l.len : Int) 300) - 0⟩ : Sl) = y at g2
  refine table_Canon_call (tabCanon_ok g2 (by omega) fun r1 ys h2 F o2 m2 asc mem => ?_)
  have l2 := (m2.le (Hp.le_refl h1) fun b hb => by cases hb).1
  have ry := g2.mono l2
  have r2 : Us h2 r1 ys := o2.rw fun _ => rfl
  have hyl : ys.length ≤ xs'.length := nodup_len ys _ (asc_nodup asc) fun y hy => (mem y).1 hy
  have hlr := r2.1
  have hly := ry.1
  have hcap := o2.2.1
  refine LoopW1.intro (fun i k => k = h2 ∧ 0 ≤ i ∧ i ≤ (ys.length : Int)) (fun i _ => (ys.length - i).toNat) ⟨rfl, by omega, by omega⟩ ?_
  rintro i k ⟨ek, hi0, hi1⟩
  subst k
  split
  · rename_i e
    have e : i < (r1.len : Int) := by simpa using e
    refine Rs.get r2 (fun _ => rfl) (by omega) hi0 (by omega) fun (x : Int) hxi => ?_
    refine Rs.getC r2 (0 : Int) (fun _ => rfl) (by omega) (fun hc => ?_) fun (x1 : Int) hx1 => ?_
    · have hc : i > 0 := by simpa using hc
      rw [wrap64 (by omega) (by omega)]
      omega
    refine letW ?_
    have e5 : (decide (i > 0) && decide (x1 ≥ x)) = false := by
      by_cases hi : i > 0
      · have h3 := hx1 (by simpa using hi)
        rw [wrap64 (by omega) (by omega)] at h3
        obtain ⟨p1, e1⟩ := List.getElem?_eq_some_iff.1 hxi
        obtain ⟨p2, e2⟩ := List.getElem?_eq_some_iff.1 h3
        have := List.pairwise_iff_getElem.1 asc (i - 1).toNat i.toNat p2 p1 (by omega)
        rw [e1, e2] at this
        simp; omega
      · simp [hi]
    rw [e5, if_neg (by simp)]
    refine isIn_ok (C := Q false) ry (by omega) ((mem x).1 (List.mem_of_getElem? hxi)) ?_
    rw [wrap64 (by omega) (by omega)]
    exact ⟨⟨rfl, by omega, by omega⟩, by omega⟩
  rename_i hend
  clear hend hi0 hi1 i
  refine LoopW1.intro (fun i k => k = h2 ∧ 0 ≤ i ∧ i ≤ (xs'.length : Int)) (fun i _ => (xs'.length - i).toNat) ⟨rfl, by omega, by omega⟩ ?_
  rintro i k ⟨ek, hi0, hi1⟩
  subst k
  split
  · rename_i e
    have e : i < (y.len : Int) := by simpa using e
    refine Rs.get ry (fun _ => rfl) (by omega) hi0 (by omega) fun (x : Int) hxi => ?_
    refine isIn_ok (C := Q false) r2 (by omega) ((mem x).2 (List.mem_of_getElem? hxi)) ?_
    rw [wrap64 (by omega) (by omega)]
    exact ⟨⟨rfl, by omega, by omega⟩, by omega⟩
  rename_i hend
  clear hend hi0 hi1 i
  have m8 := @min2_le (r1.len : Int) 8
  refine ⟨by omega, letW ?_⟩
  have ry2 : Us h2 ⟨sbase r1.base 1 0 r1.cap, (min2I (r1.len : Int) 8).toNat - 0, r1.cap - 0⟩ (ys.take (min2I (r1.len : Int) 8).toNat) := Rw.head r2 (fun _ => rfl) (by omega) (by omega) (by omega)
  have hcl : (ys.take (min2I (r1.len : Int) 8).toNat).length ≤ 8 := by rw [List.length_take]; omega
  have hca : (ys.take (min2I (r1.len : Int) 8).toNat).Pairwise (· < ·) := asc.sublist (List.take_sublist _ ys)
  have hcu : ∀ x ∈ ys.take (min2I (r1.len : Int) 8).toNat, InU x := fun x hm => hxs x ((mem x).1 (List.mem_of_mem_take hm))
  generalize ys.take (min2I (r1.len : Int) 8).toNat = c at ry2 hcl hca hcu
  generalize (⟨sbase r1.base 1 0 r1.cap, (min2I (r1.len : Int) 8).toNat - 0, r1.cap - 0⟩ : Sl) = y1 at ry2
  have hy1 := ry2.1
  have l02 := Hp.le_trans l1 l2
  refine table_New_call (new_ok ry2 hcl hca (fun e => ?_) fun hne p h4 l4 t4 => ?_)
  · rw [e] at hy1
    rw [if_pos (by simp [hy1])]
    exact hq _ l02
  have hc0 : c.length ≠ 0 := fun e => hne (List.length_eq_zero_iff.1 e)
  rw [if_neg (show ¬ (((y1.len : Int) == 0) = true) by simp; omega)]
  refine letW ?_
  rw [if_neg (by simp)]
  have l04 := Hp.le_trans l02 l4
  have ry4 := ry2.mono l4
  refine LoopW1.intro (fun i k => h4 ≤ k ∧ 0 ≤ i ∧ i ≤ (c.length : Int)) (fun i _ => (c.length - i).toNat) ⟨Hp.le_refl h4, by omega, by omega⟩ ?_
  rintro i k ⟨hk, hi0, hi1⟩
  have ryk := ry4.mono hk
  have tk := t4.mono hk
  split
  · rename_i e
    have e : i < (y1.len : Int) := by simpa using e
    refine Rs.get ryk (fun _ => rfl) (by omega) hi0 (by omega) fun (x : Int) hxi => ?_
    refine table_Table_Up_call (tabUp_ok tk hcu (by omega) fun up h5 l5 o5 => ?_)
    have hxu := hcu x (List.mem_of_getElem? hxi)
    obtain ⟨_, x', hx', hld⟩ := Rw.read (ryk.mono l5) (fun _ => rfl) (by omega) hi0 (show i < (y1.len : Int) by omega)
    have hxx : c[i.toNat]? = some x := hxi
    rw [hxx] at hx'
    cases hx'
    refine ⟨⟨hld, trivial⟩, ?_⟩
    refine table_Table_Down_call (tabDown_ok (tk.mono l5) hcu hxu (by omega) fun down h6 l6 o6 => ?_)
    have t6 := tk.mono (Hp.le_trans l5 l6)
    have rup : Is h6 up _ := Rw.mono l6 (o5.rw fun _ => rfl)
    have rdn : Is h6 down _ := o6.rw fun _ => rfl
    have hul := those_len (fun j => fl c i j) c.length
    have hdl := those_len (fun j => flows (c.getD j 0) x) c.length
    refine LoopW1.intro (fun j k => k = h6 ∧ 0 ≤ j ∧ j ≤ (c.length : Int)) (fun j _ => (c.length - j).toNat) ⟨rfl, by omega, by omega⟩ ?_
    rintro j k ⟨ek, hj0, hj1⟩
    subst k
    split
    · rename_i ej
      have ej : j < (y1.len : Int) := by simpa using ej
      have hF : fl c i j = true → i ≤ j := fl_up hcu hca
      have hG : fl c j i = true → j ≤ i := fl_up hcu hca
      have hR : i = j → fl c i j = true := fun e => by subst e; exact fl_refl hi0 (by omega)
      refine table_Table_Flows_call (tabFlows_ok t6 hcu ?_)
      refine effFl t6 hcu fun r8 hr8 => letW (letW (letW ?_))
      have e5 : (fl c i j && (decide (i > j) || ((i != j) && r8))) = false := by
        cases hf : fl c i j with
        | false => rfl
        | true =>
          have h1 := hF hf
          have e1 : decide (i > j) = false := by simp; omega
          by_cases hij : i = j
          · simp [hij]
          · have h2 := hr8 (by simp [hf, hij]; omega)
            have h3 : fl c j i = false := by
              cases hg : fl c j i with
              | false => rfl
              | true => have := hG hg; omega
            rw [h2, h3, e1]
            simp
      rw [e5]
      refine effFl t6 hcu fun r9 hr9 => letW (letW ?_)
      have e7 : (false || ((i == j) && (!r9))) = false := by
        by_cases hij : i = j
        · have h2 := hr9 (by simp [hij])
          rw [h2, hR hij]
          simp
        · simp [hij]
      rw [e7]
      refine effFl t6 hcu fun r10 hr10 => ?_
      have h10 := hr10 rfl
      subst h10
      refine effB rfl (firebreaklaw02_has_call (has_ok2 rup (by omega) (letW ?_)))
      rw [those_has hj0 (by omega)]
      have ejn : ((j.toNat : Nat) : Int) = j := by omega
      rw [ejn]
      have e8 : (false || !(fl c i j == fl c i j)) = false := by simp
      rw [e8]
      refine effFl t6 hcu fun r12 hr12 => ?_
      have h12 := hr12 rfl
      subst h12
      refine effB rfl (firebreaklaw02_has_call (has_ok2 rdn (by omega) (letW ?_)))
      rw [those_has hj0 (by omega)]
      have hjy : ∃ y, c[j.toNat]? = some y := ⟨c[j.toNat]'(by omega), List.getElem?_eq_getElem (by omega)⟩
      obtain ⟨yj, hyj⟩ := hjy
      have hgd : c.getD j.toNat 0 = yj := by rw [List.getD_eq_getElem?_getD, hyj]; rfl
      rw [hgd, ← fl_in ⟨hj0, hi0⟩ hyj hxx]
      have e9 : (false || !(fl c j i == fl c j i)) = false := by simp
      rw [e9, if_neg (by simp)]
      refine LoopW1.intro (fun m k => k = h6 ∧ 0 ≤ m ∧ m ≤ (c.length : Int)) (fun m _ => (c.length - m).toNat) ⟨rfl, by omega, by omega⟩ ?_
      rintro m k ⟨ek, hm0, hm1⟩
      subst k
      split
      · rename_i em
        have em : m < (y1.len : Int) := by simpa using em
        refine table_Table_Flows_call (tabFlows_ok t6 hcu ?_)
        refine effFl t6 hcu fun r15 hr15 => letW ?_
        refine effFl t6 hcu fun r16 hr16 => letW ?_
        have e10 : ((fl c i j && r15) && (!r16)) = false := by
          cases hf : fl c i j with
          | false => rfl
          | true =>
            have h15 := hr15 hf
            rw [h15] at hr16 ⊢
            cases hg : fl c j m with
            | false => rfl
            | true =>
              rw [hr16 (by rw [hf, hg]; rfl), fl_trans hf hg]
              rfl
        rw [e10, if_neg (by simp), wrap64 (by omega) (by omega)]
        exact ⟨⟨rfl, by omega, by omega⟩, by omega⟩
      · rw [wrap64 (by omega) (by omega)]
        exact ⟨⟨rfl, by omega, by omega⟩, by omega⟩
    · rw [wrap64 (by omega) (by omega)]
      exact ⟨⟨Hp.le_trans hk (Hp.le_trans l5 l6), by omega, by omega⟩, by omega⟩
  · exact hq _ (Hp.le_trans l04 hk)

end Lf

/-
  Regions of memory that do not meet.
-/
namespace Lf
open Go

theorem mv_same {F F' E : List Nat} {k k' : Hp} (m : Mv F k F' k') (hE : ∀ c ∈ E, k c ≠ none) (hd : ∀ c ∈ E, c ∉ F) : ∀ c ∈ E, k' c = k c := fun c hc => by
  cases hk : k c with
  | none => exact absurd hk (hE c hc)
  | some o => exact m.keep c o hk (hd c hc)

theorem mv_disj {F F' E : List Nat} {k k' : Hp} (m : Mv F k F' k') (hE : ∀ c ∈ E, k c ≠ none) (hd : ∀ c ∈ E, c ∉ F) : ∀ c ∈ E, c ∉ F' := fun c hc hf => by
  rcases m.from_ c hf with h | h
  · exact hd c hc h
  · exact hE c hc h

/-- First the one region, then the other one. -/
theorem mv_two {F F' R R' : List Nat} {k k1 k2 : Hp} (m1 : Mv F k F' k1) (m2 : Mv R k1 R' k2) : Mv (F ++ R) k (F' ++ R') k2 := by
  have q1 := m1.wide R
  have q2 : Mv (F' ++ R) k1 (F' ++ R') k2 := m2.sub (fun c hc => List.mem_append_right _ hc) fun c hc => by
    rcases List.mem_append.1 hc with hc | hc
    · exact .inr (.inl (List.mem_append_left _ hc))
    · exact .inl hc
  exact q1.trans q2

/-- Of what is made, some is let go. -/
theorem Mv.less {F F' E : List Nat} {h h' : Hp} (a : Mv F h F' h') (hs : ∀ c ∈ E, c ∈ F') : Mv F h E h' := ⟨a.keep, fun b hb => a.from_ b (hs b hb)⟩

/-- Regions that do not meet, all known, none of them known at first. -/
structure Regs (h k : Hp) (Rg : List (List Nat)) : Prop where
  sep : ∀ (a b : Nat) E G, Rg[a]? = some E → Rg[b]? = some G → a ≠ b → ∀ c ∈ E, c ∉ G
  known : ∀ (a : Nat) E, Rg[a]? = some E → ∀ c ∈ E, k c ≠ none
  fresh : ∀ (a : Nat) E, Rg[a]? = some E → ∀ c ∈ E, h c = none
  le : h ≤ k

theorem Regs.grow {h k k' : Hp} {Rg : List (List Nat)} (r : Regs h k Rg) (hl : k ≤ k') : Regs h k' Rg :=
  ⟨r.sep, fun a E hE c hc e => r.known a E hE c hc (none_of_le hl e), r.fresh, Hp.le_trans r.le hl⟩

theorem Regs.step {h k k' : Hp} {Rg : List (List Nat)} {j : Nat} {F F' : List Nat} (r : Regs h k Rg) (hj : Rg[j]? = some F) (m : Mv F k F' k') (kn : ∀ c ∈ F', k' c ≠ none) : Regs h k' (Rg.set j F') := by
  have hjl : j < Rg.length := (List.getElem?_eq_some_iff.1 hj).1
  have hget : ∀ a E, (Rg.set j F')[a]? = some E → (a = j ∧ E = F') ∨ (a ≠ j ∧ Rg[a]? = some E) := by
    intro a E hE
    rw [List.getElem?_set, if_pos hjl] at hE
    split at hE
    · rename_i e
      exact .inl ⟨e.symm, (Option.some.inj hE).symm⟩
    · rename_i e
      exact .inr ⟨fun e' => e e'.symm, hE⟩
  have hdis : ∀ a E, a ≠ j → Rg[a]? = some E → ∀ c ∈ E, c ∉ F' := fun a E hne hE => mv_disj m (r.known a E hE) (r.sep a j E F hE hj hne)
  have hfr : ∀ c ∈ F', h c = none := (m.le r.le (r.fresh j F hj)).2
  refine ⟨fun a b E G hE hG hab c hc hc' => ?_, fun a E hE c hc => ?_, fun a E hE c hc => ?_, (m.le r.le (r.fresh j F hj)).1⟩
  · rcases hget a E hE with ⟨rfl, rfl⟩ | ⟨h1, h2⟩
    · rcases hget b G hG with ⟨rfl, rfl⟩ | ⟨h3, h4⟩
      · exact hab rfl
      · exact hdis b G h3 h4 c hc' hc
    · rcases hget b G hG with ⟨rfl, rfl⟩ | ⟨h3, h4⟩
      · exact hdis a E h1 h2 c hc hc'
      · exact r.sep a b E G h2 h4 hab c hc hc'
  · rcases hget a E hE with ⟨rfl, rfl⟩ | ⟨h1, h2⟩
    · exact kn c hc
    · have := mv_same m (r.known a E h2) (r.sep a j E F h2 hj h1) c hc
      rw [this]
      exact r.known a E h2 c hc
  · rcases hget a E hE with ⟨rfl, rfl⟩ | ⟨h1, h2⟩
    · exact hfr c hc
    · exact r.fresh a E h2 c hc

theorem Regs.other {h k k' : Hp} {Rg : List (List Nat)} {j a : Nat} {F F' E : List Nat} (r : Regs h k Rg) (hj : Rg[j]? = some F) (m : Mv F k F' k') (ha : Rg[a]? = some E) (hne : a ≠ j) : ∀ c ∈ E, k' c = k c :=
  mv_same m (r.known a E ha) (r.sep a j E F ha hj hne)

theorem Regs.push {h k k' : Hp} {Rg : List (List Nat)} {E : List Nat} (r : Regs h k Rg) (hl : k ≤ k') (hn : ∀ c ∈ E, k c = none) (kn : ∀ c ∈ E, k' c ≠ none) : Regs h k' (Rg ++ [E]) := by
  have hget : ∀ a G, (Rg ++ [E])[a]? = some G → (a = Rg.length ∧ G = E) ∨ (a < Rg.length ∧ Rg[a]? = some G) := by
    intro a G hG
    by_cases h1 : a < Rg.length
    · rw [List.getElem?_append_left h1] at hG
      exact .inr ⟨h1, hG⟩
    · rw [List.getElem?_append_right (by omega)] at hG
      have h2 : a - Rg.length = 0 := by
        have := (List.getElem?_eq_some_iff.1 hG).1
        simp at this
        omega
      rw [h2] at hG
      exact .inl ⟨by omega, (Option.some.inj hG).symm⟩
  refine ⟨fun a b A B hA hB hab c hc hc' => ?_, fun a A hA c hc => ?_, fun a A hA c hc => ?_, Hp.le_trans r.le hl⟩
  · rcases hget a A hA with ⟨rfl, rfl⟩ | ⟨h1, h2⟩
    · rcases hget b B hB with ⟨rfl, rfl⟩ | ⟨h3, h4⟩
      · exact hab rfl
      · exact r.known b B h4 c hc' (hn c hc)
    · rcases hget b B hB with ⟨rfl, rfl⟩ | ⟨h3, h4⟩
      · exact r.known a A h2 c hc (hn c hc')
      · exact r.sep a b A B h2 h4 hab c hc hc'
  · rcases hget a A hA with ⟨rfl, rfl⟩ | ⟨h1, h2⟩
    · exact kn c hc
    · exact fun e => r.known a A h2 c hc (none_of_le hl e)
  · rcases hget a A hA with ⟨rfl, rfl⟩ | ⟨h1, h2⟩
    · exact none_of_le r.le (hn c hc)
    · exact r.fresh a A h2 c hc

end Lf

/-
  What is done with is held in a part of memory.
-/
namespace Lf
open Go

/-- A memory without some blocks. -/
def cutH (k : Hp) (R : List Nat) : Hp := fun b => if b ∈ R then none else k b

theorem cut_le {k : Hp} {R : List Nat} : cutH k R ≤ k := fun b o e => by
  unfold cutH at e
  split at e
  · cases e
  · exact e

theorem cut_none {k : Hp} {R : List Nat} {b : Nat} (h : b ∈ R) : cutH k R b = none := by
  unfold cutH
  rw [if_pos h]

theorem cut_eq {k : Hp} {R : List Nat} {b : Nat} (h : b ∉ R) : cutH k R b = k b := by
  unfold cutH
  rw [if_neg h]

theorem le_cut {d k : Hp} {R : List Nat} (hl : d ≤ k) (hn : ∀ b ∈ R, d b = none) : d ≤ cutH k R := fun b o e => by
  rw [cut_eq fun hb => by rw [hn b hb] at e; cases e]
  exact hl b o e

theorem hcell_same {h h' : Hp} {a : Addr} (e : h' a.block = h a.block) : hcell h' a = hcell h a := by
  unfold hcell
  rw [e]

theorem addr_block (a : Addr) (n : Nat) : (a.add n).block = a.block := by
  unfold Addr.add
  split <;> rfl

theorem ldIs_same {h h' : Hp} {a : Addr} {cs : List Value} (l : LdIs h a cs) (e : h' a.block = h a.block) : LdIs h' a cs := fun i v hv => by
  have : hcell h' (a.add i) = hcell h (a.add i) := hcell_same (a := a.add i) (by rw [addr_block]; exact e)
  rw [this]
  exact l i v hv

section
variable {α : Type} {h h' : Hp} {sz : Nat} {enc : α → List Value} {l : Sl} {xs : List α} {F : List Nat}

theorem Rw.same (r : Rw h sz enc l xs) (e : ∀ a, l.base = some a → h' a.block = h a.block) : Rw h' sz enc l xs := by
  obtain ⟨h1, h2, h3⟩ := r
  refine ⟨h1, h2, h3.imp id ?_⟩
  rintro ⟨a, ha, hl⟩
  exact ⟨a, ha, ldIs_same hl (e a ha)⟩

theorem Rw.nil {l : Sl} (hl : l.len = 0) : Rw h sz enc l ([] : List α) := ⟨hl, (by simp), .inl (by simp)⟩

theorem OwnF.grow (o : OwnF h sz enc l xs F) (hl : h ≤ h') : OwnF h' sz enc l xs F := by
  obtain ⟨h1, h2, h3⟩ := o
  refine ⟨h1, h2, h3.imp id ?_⟩
  rintro ⟨b, cs, e1, rfl, e3, e4⟩
  exact ⟨b, cs, e1, rfl, e3.le hl, e4⟩

theorem OwnF.cut {R : List Nat} (o : OwnF h sz enc l xs F) (hd : ∀ b ∈ F, b ∉ R) : OwnF (cutH h R) sz enc l xs F := o.same fun b hb => cut_eq (hd b hb)

theorem OwnF.head (o : OwnF h sz enc l xs F) (henc : ∀ x, (enc x).length = sz) {n : Nat} (hn : n ≤ xs.length) : OwnF h sz enc ⟨l.base, n, l.cap⟩ (xs.take n) F := by
  obtain ⟨h1, h2, h3⟩ := o
  refine ⟨by simp; omega, by show n ≤ l.cap; omega, h3.imp id ?_⟩
  rintro ⟨b, cs, e1, e2, e3, e4, e5⟩
  refine ⟨b, cs, e1, e2, e3, e4, ?_⟩
  show cs.take (n * sz) = _
  rw [flat_take henc, ← e5, List.take_take, h1, Nat.min_eq_left (Nat.mul_le_mul_right sz hn)]

theorem OwnF.base (o : OwnF h sz enc l xs F) {a : Addr} (ha : l.base = some a) : F = [a.block] := by
  obtain ⟨_, _, h3⟩ := o
  rcases h3 with ⟨e, _⟩ | ⟨b, cs, e1, rfl, _⟩
  · rw [e] at ha; cases ha
  · rw [e1] at ha; cases ha; rfl

/-- Append, and whether it was in place. -/
theorem appS {zero : List Value} {bytes : Nat} {x : Sl} {ys : List α} {K : Sl → Hp → Prop} (o : OwnF h sz enc l xs F) (r : Rw h sz enc x ys) (henc : ∀ x, (enc x).length = sz) (hok : ∀ x, okCells (enc x) = true)
    (hz : zero.length = sz) (hb : xs.length + ys.length ≤ 140737488355328 ∧ (xs.length + ys.length) * bytes ≤ 140737488355328)
    (hk : ∀ l' h' F', OwnF h' sz enc l' (xs ++ ys) F' → Mv F h F' h' → (F' = F ∧ l'.base = l.base) ∨ (h ≤ h' ∧ ∀ b ∈ F', h b = none) → K l' h') : AppendW sz bytes zero l x K h := by
  have hrw := o.rw henc
  obtain ⟨h1, h2, h3⟩ := o
  obtain ⟨hx1, hx2⟩ := r
  refine ⟨ys.flatMap enc, by rw [hx1]; exact hx2, xs.flatMap enc, by rw [h1]; exact hrw.2, by rw [h1, hx1]; exact hb, flat_ok hok ys, fun hcap => ?_, fun hcap c b t hc hbn => ?_⟩
  · rcases h3 with ⟨e, ec, rfl⟩ | ⟨b, cs, e, rfl, hbk, hl, ht⟩
    · have e1 : ys.length = 0 := by omega
      have e2 : ys = [] := List.length_eq_zero_iff.1 e1
      subst e2
      refine ⟨fun a ha => (by rw [e] at ha; cases ha), ?_⟩
      have e3 : putO h l.base (l.len * sz) (([] : List α).flatMap enc) = h := by rw [e]; rfl
      rw [e3, hx1]
      exact hk _ h [] ⟨by simp [h1], by simpa using h2, .inl ⟨e, ec, rfl⟩⟩ (Mv.refl _ _) (.inl ⟨rfl, rfl⟩)
    · have hle : l.len * sz + (ys.flatMap enc).length ≤ cs.length := by
        rw [hl, flat_len henc, ← Nat.add_mul]
        exact Nat.mul_le_mul_right sz (by omega)
      obtain ⟨p1, p2⟩ := hbk.put hle
      refine ⟨fun a ha => ?_, ?_⟩
      · rw [e] at ha; cases ha
        rw [box_add, Nat.zero_add]
        refine hbk.stOk _ ?_
        rw [hx1, ← flat_len henc ys]
        exact hle
      · have e3 : putO h l.base (l.len * sz) (ys.flatMap enc) = putL h ⟨b, l.len * sz, none⟩ (ys.flatMap enc) 0 := by
          rw [e]
          simp only [putO, box_add, Nat.zero_add]
        rw [e3]
        refine hk _ _ [b] ⟨by simp [h1, hx1], hcap, .inr ⟨b, _, e, rfl, p1, ?_, ?_⟩⟩ (Mv.of_other p2) (.inl ⟨rfl, rfl⟩)
        · rw [← hl]
          simp only [List.length_append, List.length_take, List.length_drop]
          omega
        · have e4 : (l.len + x.len) * sz = (cs.take (l.len * sz) ++ ys.flatMap enc).length := by
            rw [List.length_append, ht, flat_len henc, flat_len henc, h1, hx1, Nat.add_mul]
          show List.take ((l.len + x.len) * sz) _ = _
          rw [e4, List.take_left, ht, List.flatMap_append]
  · have hn : Mv F h [b] (h.set b (.cells (xs.flatMap enc ++ ys.flatMap enc ++ zerosL zero (c - (l.len + x.len))).toArray t (0, 0))) :=
      (Mv.new hbn).sub (fun b hb => by cases hb) fun b hb => .inl hb
    refine hk _ _ [b] ⟨by simp [h1, hx1], hc, .inr ⟨b, xs.flatMap enc ++ ys.flatMap enc ++ zerosL zero (c - (l.len + x.len)), rfl, rfl, ⟨t, set_self⟩, ?_, ?_⟩⟩ hn (.inr ⟨set_new hbn, fun b' hb' => by rw [List.mem_singleton.1 hb']; exact hbn⟩)
    · rw [List.length_append, List.length_append, flat_len henc, flat_len henc, zerosL_len, hz, ← Nat.add_mul, ← Nat.add_mul]
      show _ = c * sz
      congr 1
      omega
    · have e4 : (l.len + x.len) * sz = (xs.flatMap enc ++ ys.flatMap enc).length := by
        rw [List.length_append, flat_len henc, flat_len henc, h1, hx1, Nat.add_mul]
      show List.take ((l.len + x.len) * sz) _ = _
      rw [e4, List.take_left, List.flatMap_append]

/-- All elements are written over by one. -/
theorem fill_ok {bound : Nat} {c : α} (o : OwnF h sz enc l xs F) (henc : ∀ x, (enc x).length = sz) (hl : xs.length ≤ 1000000000) {K : Hp → Prop} {cs : List Value} (hc : cs = enc c)
    (hk : ∀ h', OwnF h' sz enc l (List.replicate xs.length c) F → Mv F h F h' → K h') (hb : l.len = bound) :
    LoopW1 (α1 := Int) (fun again i h1 =>
 (if (decide (i < ((bound : Nat) : Int))) = true then
 ((InB l.base bound i) ∧ StW h1 (sat l.base sz i) cs (fun h2 =>
 again (IntKind.wrap .i64 (i + (1 : Int))) h2))
 else
 K h1)) (0 : Int) h := by
  subst hb
  have h1 := o.1
  refine LoopW1.intro (fun i k => ∃ zs, OwnF k sz enc l zs F ∧ Mv F h F k ∧ zs.length = xs.length ∧ 0 ≤ i ∧ i ≤ (xs.length : Int) ∧ zs.take i.toNat = List.replicate i.toNat c) (fun i _ => (xs.length - i).toNat) ⟨xs, o, Mv.refl _ _, rfl, by omega, by omega, rfl⟩ ?_
  rintro i k ⟨zs, oz, mz, hz, hi0, hi1, ht⟩
  split
  · rename_i e
    have e : i < (l.len : Int) := by simpa using e
    subst hc
    refine oz.store henc hi0 (by omega) c fun h' o' m' => ?_
    rw [wrap64 (by omega) (by omega)]
    refine ⟨⟨_, o', mz.trans m', by rw [List.length_set]; exact hz, by omega, by omega, ?_⟩, by omega⟩
    have e1 : (i + 1).toNat = i.toNat + 1 := by omega
    rw [e1, List.take_add_one, List.take_set_of_le (Nat.le_refl _), List.getElem?_set_self (by omega), ht, List.replicate_succ']
    rfl
  · rename_i e
    have e : ¬ i < (l.len : Int) := by simpa using e
    have e1 : i.toNat = xs.length := by omega
    rw [e1, ← hz, List.take_length, hz] at ht
    refine hk _ ?_ mz
    rw [← ht]
    exact oz

end
end Lf

/-
  A table that is made lies in blocks of its own.
-/
namespace Lf
open Go Go.Proofs

/-- A table in blocks that were not known. -/
structure TabN (h0 h : Hp) (p : Addr) (ls : List Int) : Prop where
  ex : ∃ (sl : Sl) (m : Nat), LdIs h p [sl.v, .map (some m)] ∧ Us h sl ls ∧ h m = some (.map (ents ls 0).toArray ls.length) ∧ h0 p.block = none ∧ (∀ a, sl.base = some a → h0 a.block = none) ∧ h0 m = none

theorem TabN.tab {h0 h : Hp} {p : Addr} {ls : List Int} (t : TabN h0 h p ls) : Tab h p ls := by
  obtain ⟨sl, m, h1, h2, h3, _⟩ := t.ex
  exact ⟨sl, m, h1, h2, h3⟩

theorem TabN.cut {h0 h : Hp} {p : Addr} {ls : List Int} {R : List Nat} (t : TabN h0 h p ls) (hR : ∀ b ∈ R, h0 b ≠ none) : Tab (cutH h R) p ls := by
  obtain ⟨sl, m, h1, h2, h3, h4, h5, h6⟩ := t.ex
  refine ⟨sl, m, ldIs_same h1 (cut_eq fun hb => hR _ hb h4), h2.same fun a ha => cut_eq fun hb => hR _ hb (h5 a ha), ?_⟩
  rw [cut_eq fun hb => hR _ hb h6]
  exact h3

theorem newN_ok {l : Sl} {ls : List Int} {Q : Option Addr → Int → Int → Hp → Prop} {h : Hp} (r : Us h l ls) (hl : ls.length ≤ 8) (asc : ls.Pairwise (· < ·)) (h0 : ls = [] → Q none 1 0 h)
    (h1 : ls ≠ [] → ∀ p h', h ≤ h' → TabN h h' p ls → Q (some p) 0 0 h') : table_New_w Try.prog l Q h := by
  unfold table_New_w
  refine table_May_call (may_ok r hl asc (fun e => ?_) (fun e => ?_))
  · rw [if_pos (by simp)]
    exact h0 e
  rw [if_neg (by simp)]
  refine slices_Clone_uint64_uint64_call (clone_ok r (by omega) fun out k1 hle1 ho1 => ?_)
  intro m hm
  have hle2 : k1 ≤ k1.set m (.map #[] 0) := set_new hm
  intro b t hb
  have hle3 := set_new (o := .cells (([out.v, .map (some m)] : List Value).toArray) t (0, 0)) hb
  have hm0 : h m = none := none_of_le hle1 hm
  have hbm : b ≠ m := fun e => by rw [e, set_self] at hb; cases hb
  have rout : Us k1 out ls := ho1.rw fun _ => rfl
  have hb0 : h b = none := none_of_le (Hp.le_trans hle1 hle2) hb
  have hob : ∀ a, out.base = some a → h a.block = none := by
    rcases ho1.2.2 with ⟨e1, _⟩ | ⟨b', _, _, e1, _, _, _, e2⟩
    · intro a ha; rw [e1] at ha; cases ha
    · intro a ha; rw [e1] at ha; cases ha; exact e2
  refine ⟨_, rfl, out, ?_, ?_⟩
  · intro i v hv
    cases i with
    | zero =>
      rw [add_add]
      exact ldIs_new 0 v (by simpa [cellsL, Sl.v] using hv)
    | succ i => simp [cellsL] at hv
  refine LoopW1.intro (fun i k => h ≤ k ∧ 0 ≤ i ∧ i ≤ (ls.length : Int) ∧ Us k out ls ∧ LdIs k ⟨b, 0, none⟩ [out.v, .map (some m)] ∧ k m = some (.map (ents (ls.take i.toNat) 0).toArray i.toNat)) (fun i _ => (ls.length - i).toNat)
    ⟨Hp.le_trans hle1 (Hp.le_trans hle2 hle3), by omega, by omega, Rw.mono (Hp.le_trans hle2 hle3) rout, ldIs_new, hle3 _ _ set_self⟩ ?_
  rintro i k ⟨hk, hi0, hi1, hr, hp, hmk⟩
  have hlen := hr.1
  split
  · rename_i e
    have e : i < (out.len : Int) := by simpa using e
    refine Rs.get hr (fun _ => rfl) (by omega) hi0 (by omega) fun (x : Int) hx => ?_
    refine ⟨_, rfl, some m, ?_, ?_⟩
    · intro j v hv
      cases j with
      | zero =>
        have := hp 1 v (by simpa [cellsL] using hv)
        rw [add_add]
        exact this
      | succ j => simp [cellsL] at hv
    have hlt : (ls.take i.toNat).length = i.toNat := by rw [List.length_take]; omega
    refine ⟨m, _, _, rfl, hmk, .inl ⟨?_, ?_⟩⟩
    · have := find_ents x (ls.take i.toNat) 0
      rw [place_none (place_take asc hx)] at this
      exact this
    · have hck : ∀ o, CKeep k (k.set m o) := fun o => ck_set hmk rfl
      rw [wrap64 (by omega) (by omega)]
      refine ⟨⟨set_over hk hm0, by omega, by omega, Rw.ck (hck _) hr, ldIs_ck (hck _) hp, ?_⟩, by omega⟩
      rw [set_self]
      have e1 : (i + 1).toNat = i.toNat + 1 := by omega
      have e2 : ls.take (i.toNat + 1) = ls.take i.toNat ++ [x] := by rw [List.take_add_one, hx]; rfl
      rw [e1, e2, ents_snoc, hlt]
      have e3 : ((0 + i.toNat : Nat) : Int) = i := by omega
      rw [e3, Nat.zero_add, List.push_toArray]
  · rename_i e2
    have e2 : ¬ i < (out.len : Int) := by simpa using e2
    have e3 : i.toNat = ls.length := by omega
    rw [e3, List.take_length] at hmk
    exact h1 e _ _ hk ⟨out, m, hp, hr, hmk, hb0, hob, hm0⟩


/-- Labels in memory of their own, with marks behind them. -/
theorem wideF_ok {l : Sl} {xs : List Int} {Q : Sl → Hp → Prop} {h : Hp} (r : Us h l xs) (hl : xs.length ≤ 2000000) (hq : ∀ (o out : Sl) h' F, OwnF h' 1 eU o (xs ++ [161, 162, 163]) F → Mv [] h F h' → out.base = o.base → out.cap = o.cap → out.len = xs.length → Q out h') : firebreaklaw02_wide_w Try.prog l Q h := by
  unfold firebreaklaw02_wide_w
  have hlen := r.1
  have hw : IntKind.wrap .i64 ((l.len : Int) + 3) = (l.len : Int) + 3 := wrap64 (by omega) (by omega)
  rw [hw]
  refine ⟨by omega, fun b t hb => ?_⟩
  have m0 := Mv.new (o := .cells (zerosL [Value.int .u64 0] ((l.len : Int) + 3).toNat).toArray t (0, 0)) hb
  have hle := set_new (o := .cells (zerosL [Value.int .u64 0] ((l.len : Int) + 3).toNat).toArray t (0, 0)) hb
  have ho : OwnF (h.set b (.cells (zerosL [Value.int .u64 0] ((l.len : Int) + 3).toNat).toArray t (0, 0))) 1 eU ⟨some ⟨b, 0, none⟩, (0 : Int).toNat, ((l.len : Int) + 3).toNat⟩ [] [b] := by
    refine ⟨rfl, Nat.zero_le _, .inr ⟨b, _, rfl, rfl, ⟨t, set_self⟩, ?_, by simp⟩⟩
    simp [zerosL]
  refine appF ho (Rw.mono hle r) (fun _ => rfl) (fun _ => rfl) rfl (by simp; omega) fun l1 h1 F1 o1 m1 => ?_
  refine newF (xs := ([161, 162, 163] : List Int)) (enc := eU) (sz := 1) rfl (fun _ => rfl) fun b2 h2 hb2 hle2 m2 o2 => ?_
  refine appF (o1.grow hle2) (o2.rw fun _ => rfl) (fun _ => rfl) (fun _ => rfl) rfl (by simp; omega) fun l3 h3 F3 o3 m3 => ?_
  have h3l := o3.1
  have h3c := o3.2.1
  simp at h3l
  rw [List.nil_append] at o3
  refine ⟨by omega, letW (hq _ _ _ _ o3 ?_ ?_ rfl ?_)⟩
  · exact m0.trans (m1.trans ((Mv.of_le F1 hle2).trans m3))
  · show sbase l3.base 1 0 l3.cap = l3.base
    rcases o3.2.2 with ⟨e, _⟩ | ⟨b, _, e, _⟩
    · unfold sbase; rw [e]; simp
    · rw [e, sbase_at (by omega)]
  · show (l.len : Int).toNat - 0 = _
    omega

/-- They are as they were, the marks too. -/
theorem kept_ok {o w l : Sl} {xs : List Int} {F : List Nat} {Q : Bool → Hp → Prop} {h : Hp} (ow : OwnF h 1 eU o (xs ++ [161, 162, 163]) F) (rl : Us h l xs) (hl : xs.length ≤ 2000000) (hb : w.base = o.base) (hc : w.cap = o.cap) (hn : w.len = xs.length)
    (hq : ∀ h', h ≤ h' → Q true h') : firebreaklaw02_kept_w Try.prog w l Q h := by
  unfold firebreaklaw02_kept_w
  have hll := rl.1
  have o1 := ow.1
  have o2 := ow.2.1
  simp at o1
  have rw_ : Us h w xs := by
    have := (ow.head (fun _ => rfl) (n := xs.length) (by simp)).rw fun _ => rfl
    rw [List.take_left] at this
    have e : w = ⟨o.base, xs.length, o.cap⟩ := by cases w; simp_all
    rw [e]
    exact this
  refine firebreakref02_SameLabels_call (sameLabels_ok rw_ rl (by omega) ?_)
  rw [wrap64 (n := (l.len : Int) + 3) (by omega) (by omega)]
  refine ⟨fun _ => by omega, letW ⟨fun _ => ?_, letW ?_⟩⟩
  · dsimp only
    omega
  dsimp only
  refine effT ?_
  refine newF (xs := ([161, 162, 163] : List Int)) (enc := eU) (sz := 1) rfl (fun _ => rfl) fun b2 h2 hb2 hle2 m2 o2' => ?_
  refine effT ?_
  have ry : Us h2 ⟨sbase (sbase w.base 1 0 w.cap) 1 (Int.toNat (l.len : Int)) (w.cap - 0), (Int.toNat ((l.len : Int) + 3) - 0) - Int.toNat (l.len : Int), (w.cap - 0) - Int.toNat (l.len : Int)⟩ [161, 162, 163] := by
    have h1 := Rw.head (b := xs.length + 3) (c := w.cap) (n := xs.length + 3) (m := w.cap) (Rw.mono hle2 (ow.rw fun _ => rfl)) (fun _ => rfl) (by simp) (by omega) rfl
    rw [List.take_of_length_le (by simp)] at h1
    have h2 := Rw.cut (a := xs.length) (b := xs.length + 3) (c := w.cap) (n := 3) (m := w.cap - xs.length) h1 (fun _ => rfl) (by omega) (by simp) (by omega) (by omega)
    rw [List.drop_left, List.take_of_length_le (by simp)] at h2
    rw [hb]
    have e1 : Int.toNat (l.len : Int) = xs.length := by omega
    have e2 : Int.toNat ((l.len : Int) + 3) - 0 - xs.length = 3 := by omega
    rw [e1, e2, Nat.sub_zero]
    exact h2
  refine firebreakref02_SameLabels_call (b := ⟨some ⟨b2, 0, none⟩, 3, 3⟩) (sameLabels_ok ry (o2'.rw fun _ => rfl) (by simp) (letW ?_))
  exact hq _ hle2

end Lf

/-
  What stays of a slice that is read while others are written.
-/
namespace Lf
open Go

theorem hcell_known {h : Hp} {a : Addr} {v : Value} (e : hcell h a = some v) : ∃ o, h a.block = some o := by
  unfold hcell at e
  split at e
  · rename_i c t f hb
    exact ⟨_, hb⟩
  · cases e

theorem ldIs_mv {F F' : List Nat} {h h' : Hp} {a : Addr} {cs : List Value} (l : LdIs h a cs) (m : Mv F h F' h') (hn : a.block ∉ F) : LdIs h' a cs := fun i v hv => by
  have h1 := l i v hv
  obtain ⟨o, ho⟩ := hcell_known h1
  have hb : (a.add i).block = a.block := addr_block a i
  rw [hcell_same (h := h) (h' := h') (a := a.add i) (by rw [ho]; exact m.keep _ _ ho (by rw [hb]; exact hn))]
  exact h1

section
variable {α : Type} {h h' : Hp} {sz : Nat} {enc : α → List Value} {l : Sl} {xs : List α} {F F' : List Nat}

theorem Rw.mvk (r : Rw h sz enc l xs) (m : Mv F h F' h') (hn : ∀ a, l.base = some a → xs.length * sz ≠ 0 → a.block ∉ F) : Rw h' sz enc l xs := by
  obtain ⟨h1, h2, h3⟩ := r
  by_cases h0 : xs.length * sz = 0
  · exact ⟨h1, h2, .inl h0⟩
  · obtain ⟨a, ha, hl⟩ := h3.resolve_left h0
    exact ⟨h1, h2, .inr ⟨a, ha, ldIs_mv hl m (hn a ha h0)⟩⟩

theorem Rw.known (r : Rw h sz enc l xs) {a : Addr} (ha : l.base = some a) (h0 : xs.length * sz ≠ 0) : h a.block ≠ none := by
  obtain ⟨h1, h2, h3⟩ := r
  obtain ⟨a', ha', hl⟩ := h3.resolve_left h0
  rw [ha] at ha'
  cases ha'
  have hne : (xs.flatMap enc).length ≠ 0 := by rw [h2]; exact h0
  obtain ⟨v, hv⟩ : ∃ v, (xs.flatMap enc)[0]? = some v := ⟨(xs.flatMap enc)[0]'(by omega), List.getElem?_eq_getElem (by omega)⟩
  obtain ⟨o, ho⟩ := hcell_known (hl 0 v hv)
  rw [addr_block] at ho
  rw [ho]
  simp

theorem Rw.cutR {R : List Nat} (r : Rw h sz enc l xs) (hn : ∀ a, l.base = some a → xs.length * sz ≠ 0 → a.block ∉ R) : Rw (cutH h R) sz enc l xs := by
  obtain ⟨h1, h2, h3⟩ := r
  by_cases h0 : xs.length * sz = 0
  · exact ⟨h1, h2, .inl h0⟩
  · obtain ⟨a, ha, hl⟩ := h3.resolve_left h0
    exact ⟨h1, h2, .inr ⟨a, ha, ldIs_same hl (cut_eq (hn a ha h0))⟩⟩

/-- Only the place and the length count. -/
theorem Rw.re {l' : Sl} (r : Rw h sz enc l xs) (hb : l'.base = l.base) (hl : l'.len = l.len) : Rw h sz enc l' xs := by
  obtain ⟨h1, h2⟩ := r
  exact ⟨hl.trans h1, by rw [hb]; exact h2⟩

/-- One is appended again and again, to a slice whose first elements are read elsewhere. -/
theorem appends_ok {c : α} {cs zero : List Value} {bytes N : Nat} {NI : Int} {x1 : Sl} {n : Nat} {K : Sl → Hp → Prop} (henc : ∀ x, (enc x).length = sz) (hok : ∀ x, okCells (enc x) = true) (hz : zero.length = sz) (hc : cs = enc c) (hsz : sz = 1) (hNI : NI = (N : Int)) (hN : n + N ≤ 1000000) (hb : bytes ≤ 1000)
    (o : OwnF h sz enc x1 (List.replicate n c) F)
    (hk : ∀ m h' F', OwnF h' sz enc m (List.replicate (n + N) c) F' → Mv F h F' h' → Rw h' sz enc x1 (List.replicate n c) → (∀ a, x1.base = some a → n ≠ 0 → a.block ∈ F) → K m h') :
    LoopW2 (α1 := Sl) (α2 := Int) (fun again6 m i h21 =>
 (if (decide (i < NI)) = true then
 NewW cs (fun a3 h22 =>
 AppendW sz bytes zero ⟨m.base, m.len, m.cap⟩ ⟨(some a3), 1, 1⟩ (fun r15 h23 =>
 again6 r15 (IntKind.wrap .i64 (i + (1 : Int))) h23) h22) h21
 else
 K m h21)) x1 (0 : Int) h := by
  subst hc
  subst hNI
  have hlen := o.1
  simp only [List.length_replicate] at hlen
  have hF : ∀ a, x1.base = some a → F = [a.block] := fun a ha => o.base ha
  refine LoopW2.intro (fun m i k => 0 ≤ i ∧ i ≤ (N : Int) ∧ ∃ F', OwnF k sz enc m (List.replicate (n + i.toNat) c) F' ∧ Mv F h F' k ∧ Rw k sz enc x1 (List.replicate n c) ∧ ((F' = F ∧ m.base = x1.base) ∨ ∀ a, x1.base = some a → n ≠ 0 → a.block ∉ F')) (fun _ i _ => (N - i).toNat)
    ⟨by omega, by omega, F, o, Mv.refl _ _, o.rw henc, .inl ⟨rfl, rfl⟩⟩ ?_
  rintro m i k ⟨hi0, hi1, F', o', m', r', hcase⟩
  split
  · rename_i e
    have e : i < (N : Int) := by simpa using e
    refine newF (xs := [c]) (enc := enc) (sz := sz) (by simp) henc fun b k2 hb2 hle2 _ o2 => ?_
    refine appS (o'.grow hle2) (o2.rw henc) henc hok hz (by
      simp only [List.length_replicate, List.length_cons, List.length_nil]
      refine ⟨by omega, ?_⟩
      exact Nat.le_trans (Nat.mul_le_mul (show n + i.toNat + (0 + 1) ≤ 1000000 by omega) hb) (by omega)) fun l' k3 F3 o3 m3 hw => ?_
    rw [wrap64 (by omega) (by omega)]
    have e1 : n + (i + 1).toNat = n + i.toNat + 1 := by omega
    have e2 : List.replicate (n + i.toNat) c ++ [c] = List.replicate (n + i.toNat + 1) c := by rw [List.replicate_succ']
    rw [e2] at o3
    have r2 := Rw.mono hle2 r'
    have mm := m'.trans ((Mv.of_le F' hle2).trans m3)
    have hnn : ∀ {a : Addr}, n ≠ 0 → (List.replicate n c).length * sz ≠ 0 := fun hn => by rw [hsz, List.length_replicate]; omega
    have hnn' : (List.replicate n c).length * sz ≠ 0 → n ≠ 0 := fun hn e => by rw [e] at hn; simp at hn
    rcases hw with ⟨rfl, hbase⟩ | ⟨hle3, hnew⟩
    · rcases hcase with ⟨rfl, hA⟩ | hB
      · refine ⟨⟨by omega, by omega, F3, by rw [e1]; exact o3, mm, ?_, .inl ⟨rfl, hbase.trans hA⟩⟩, by omega⟩
        have h5 := (o3.head henc (n := n) (by simp; omega)).rw henc
        have h6 : (List.replicate (n + i.toNat + 1) c).take n = List.replicate n c := by
          rw [List.take_replicate]; congr 1; omega
        rw [h6] at h5
        exact h5.re (hA.symm.trans hbase.symm) hlen
      · refine ⟨⟨by omega, by omega, F3, by rw [e1]; exact o3, mm, ?_, .inr hB⟩, by omega⟩
        exact r2.mvk m3 fun a ha hn => hB a ha (hnn' hn)
    · refine ⟨⟨by omega, by omega, F3, by rw [e1]; exact o3, mm, Rw.mono hle3 r2, .inr fun a ha hn hmem => ?_⟩, by omega⟩
      exact r2.known ha (hnn (a := a) hn) (hnew _ hmem)
  · rename_i e
    have e : ¬ i < (N : Int) := by simpa using e
    have e1 : i.toNat = N := by omega
    rw [e1] at o'
    exact hk m k F' o' m' r' fun a ha _ => by rw [hF a ha]; exact List.mem_singleton.2 rfl

end
end Lf

/-
  Lists that came out are their owner's: how the memory stands.
-/
namespace Lf
open Go Go.Proofs

abbrev eI : Int → List Value := fun x => cellsL ((shInt .i64).enc x)
abbrev eS : Sl → List Value := fun s => cellsL (shSl.enc s)

/-- A list that came out, and where it lies. -/
structure Itm where
  s : Sl
  ys : List Int
  F : List Nat

/-- Lists that came out: each in a block of its own. -/
structure Its (d k : Hp) (its : List Itm) (Fa : List Nat) : Prop where
  own : ∀ it ∈ its, OwnF k 1 eI it.s it.ys it.F
  new : ∀ it ∈ its, ∀ b ∈ it.F, d b = none
  away : ∀ it ∈ its, ∀ b ∈ it.F, b ∉ Fa
  few : ∀ it ∈ its, it.ys.length ≤ 8
  sep : its.Pairwise fun a b => ∀ c ∈ a.F, c ∉ b.F

theorem Its.nil {d k : Hp} {Fa : List Nat} : Its d k [] Fa := ⟨fun _ h => (by cases h), fun _ h => (by cases h), fun _ h => (by cases h), fun _ h => (by cases h), List.Pairwise.nil⟩

theorem Its.grow {d k k' : Hp} {its : List Itm} {Fa : List Nat} (e : Its d k its Fa) (hl : k ≤ k') : Its d k' its Fa := ⟨fun it h => (e.own it h).grow hl, e.new, e.away, e.few, e.sep⟩

theorem Its.known {d k : Hp} {its : List Itm} {Fa : List Nat} (e : Its d k its Fa) : ∀ it ∈ its, ∀ b ∈ it.F, k b ≠ none := fun it h => (e.own it h).known

theorem Its.add {d k k' : Hp} {its : List Itm} {Fa F : List Nat} {s : Sl} {ys : List Int} (e : Its d k its Fa) (hd : d ≤ k) (hl : k ≤ k') (o : OwnF k' 1 eI s ys F) (hF : ∀ b ∈ F, k b = none) (ha : ∀ b ∈ Fa, k b ≠ none) (hy : ys.length ≤ 8) : Its d k' (its ++ [⟨s, ys, F⟩]) Fa := by
  have e' := e.grow hl
  refine ⟨fun it h => ?_, fun it h => ?_, fun it h => ?_, fun it h => ?_, List.pairwise_append.2 ⟨e.sep, List.pairwise_singleton _ _, fun a ha' b hb => ?_⟩⟩
  · rcases List.mem_append.1 h with h | h
    · exact e'.own it h
    · rw [List.mem_singleton.1 h]; exact o
  · rcases List.mem_append.1 h with h | h
    · exact e'.new it h
    · rw [List.mem_singleton.1 h]; exact fun b hb => none_of_le hd (hF b hb)
  · rcases List.mem_append.1 h with h | h
    · exact e'.away it h
    · rw [List.mem_singleton.1 h]; exact fun b hb hb' => ha b hb' (hF b hb)
  · rcases List.mem_append.1 h with h | h
    · exact e'.few it h
    · rw [List.mem_singleton.1 h]; exact hy
  · rw [List.mem_singleton.1 hb]
    exact fun c hc hc' => e.known a ha' c hc (hF c hc')

theorem Its.mv {d k k' : Hp} {its : List Itm} {Fa Fa' : List Nat} (e : Its d k its Fa) (m : Mv Fa k Fa' k') : Its d k' its Fa' := by
  refine ⟨fun it h => (e.own it h).mv m (e.away it h), e.new, fun it h => mv_disj m (e.known it h) (e.away it h), e.few, e.sep⟩

/-- The lists from a place on are not yet written; those before it have been. -/
structure Half (d0 k : Hp) (its : List Itm) (all long : Sl) (i : Nat) : Prop where
  ex : ∃ (d : Hp) (Fl : List Nat) (longs : List Sl), d0 ≤ d ∧ d ≤ k ∧ Rw d 1 eS all (its.map (·.s)) ∧ longs.length = i ∧ OwnF k 1 eS long longs Fl ∧ (∀ b ∈ Fl, d b = none) ∧
    (∀ (j : Nat) it lg, j < i → its[j]? = some it → longs[j]? = some lg → Rw d 1 eI it.s (List.replicate it.ys.length (100 + (j : Int))) ∧ Rw d 1 eI lg (List.replicate (it.ys.length + 20) (100 + (j : Int)))) ∧
    (∀ it ∈ its.drop i, OwnF k 1 eI it.s it.ys it.F ∧ ∀ b ∈ it.F, d b = none ∧ b ∉ Fl)

theorem half_start {d0 k : Hp} {its : List Itm} {all : Sl} {Fa : List Nat} {K : Hp → Prop} {bl : Nat} {k' : Hp} (e : Its d0 k its Fa) (hd : d0 ≤ k) (oa : OwnF k 1 eS all (its.map (·.s)) Fa) (hl : k ≤ k') (hb : k bl = none)
    (ol : OwnF k' 1 eS ⟨some ⟨bl, 0, none⟩, 0, 0⟩ [] [bl]) : Half d0 k' its all ⟨some ⟨bl, 0, none⟩, 0, 0⟩ 0 := by
  refine ⟨cutH k (its.map (·.F)).flatten, [bl], [], le_cut hd ?_, Hp.le_trans cut_le hl, ?_, rfl, ol, ?_, fun j _ _ hj => by omega, fun it h => ?_⟩
  · intro b hb'
    obtain ⟨F, hF, hbF⟩ := List.mem_flatten.1 hb'
    obtain ⟨it, hit, rfl⟩ := List.mem_map.1 hF
    exact e.new it hit b hbF
  · refine (oa.cut fun b hb' hb2 => ?_).rw fun _ => rfl
    obtain ⟨F, hF, hbF⟩ := List.mem_flatten.1 hb2
    obtain ⟨it, hit, rfl⟩ := List.mem_map.1 hF
    exact e.away it hit b hbF hb'
  · intro b hb'
    rw [List.mem_singleton.1 hb']
    exact none_of_le cut_le hb
  · rw [List.drop_zero] at h
    refine ⟨(e.own it h).grow hl, fun b hb' => ⟨cut_none (List.mem_flatten.2 ⟨_, List.mem_map.2 ⟨it, h, rfl⟩, hb'⟩), fun hb2 => ?_⟩⟩
    rw [List.mem_singleton.1 hb2] at hb'
    exact e.known it h bl hb' hb

set_option maxHeartbeats 1000000 in
theorem half_step {d0 k : Hp} {its : List Itm} {all long : Sl} {i : Int} (hf : Half d0 k its all long i.toNat) (sep : its.Pairwise fun a b => ∀ c ∈ a.F, c ∉ b.F) (few : ∀ it ∈ its, it.ys.length ≤ 8) (hi0 : 0 ≤ i) (hi1 : i < (its.length : Int)) (hil : its.length ≤ 1000)
    {K : Sl → Hp → Prop} (hk : ∀ l' k', Half d0 k' its all l' (i.toNat + 1) → K l' k') :
 (InB all.base all.len i) ∧ LdW none shSl k (sat all.base 1 i) fun x1 =>
 LoopW1 (α1 := Int) (fun again5 t135 h20 =>
 (if (decide (t135 < ((x1.len : Nat) : Int))) = true then
 ((InB x1.base x1.len t135) ∧ StW h20 (sat x1.base 1 t135) [(.int .i64 (IntKind.wrap .i64 ((100 : Int) + i)))] (fun h21 =>
 again5 (IntKind.wrap .i64 (t135 + (1 : Int))) h21))
 else
 LoopW2 (α1 := Sl) (α2 := Int) (fun again6 m t144 h21 =>
 (if (decide (t144 < (20 : Int))) = true then
 NewW [(.int .i64 (IntKind.wrap .i64 ((100 : Int) + i)))] (fun a3 h22 =>
 AppendW 1 8 [(.int .i64 (0 : Int))] ⟨m.base, m.len, m.cap⟩ ⟨(some a3), 1, 1⟩ (fun r15 h23 =>
 again6 r15 (IntKind.wrap .i64 (t144 + (1 : Int))) h23) h22) h21
 else
 NewW [m.v] (fun a3 h22 =>
 AppendW 1 24 [(.slice none 0 0)] ⟨long.base, long.len, long.cap⟩ ⟨(some a3), 1, 1⟩ (fun r15 h23 =>
 K r15 h23) h22) h21)) x1 (0 : Int) h20)) (0 : Int) k := by
  obtain ⟨d, Fl, longs, hd0, hd, rall, hll, ol, hFl, hdone, hrest⟩ := hf.ex
  have hin : i.toNat < its.length := by omega
  have hin2 : ((i.toNat : Nat) : Int) = i := by omega
  obtain ⟨it, hit⟩ : ∃ it, its[i.toNat]? = some it := ⟨its[i.toNat], List.getElem?_eq_getElem hin⟩
  have hmem : it ∈ its := List.mem_of_getElem? hit
  have hdrop : its.drop i.toNat = it :: its.drop (i.toNat + 1) := by
    obtain ⟨h3, h4⟩ := List.getElem?_eq_some_iff.1 hit
    rw [List.drop_eq_getElem_cons h3, h4]
  obtain ⟨oi, hiF⟩ := hrest it (by rw [hdrop]; exact List.mem_cons_self ..)
  have hsep : ∀ jt ∈ its.drop (i.toNat + 1), ∀ c ∈ it.F, c ∉ jt.F := fun jt hj => by
    have h1 : (its.drop i.toNat).Pairwise fun a b => ∀ c ∈ a.F, c ∉ b.F := sep.sublist (List.drop_sublist _ _)
    rw [hdrop] at h1
    exact (List.pairwise_cons.1 h1).1 jt hj
  have hn8 := few it hmem
  rw [wrap64 (n := 100 + i) (by omega) (by omega)]
  refine Rs.get (sh := shSl) (rall.mono hd) (fun _ => rfl) (by omega) hi0 (by rw [List.length_map]; omega) fun (x1 : Sl) hx1 => ?_
  have ex1 : x1 = it.s := by
    rw [List.getElem?_map, hit] at hx1
    exact (Option.some.inj hx1).symm
  subst ex1
  refine fill_ok (enc := eI) (c := 100 + i) oi (fun _ => rfl) (by omega) rfl (fun k1 o1 m1 => ?_) rfl
  refine appends_ok (enc := eI) (c := 100 + i) (N := 20) (fun _ => rfl) (fun _ => rfl) rfl rfl rfl rfl (by omega) (by omega) o1 fun m k2 F' o2 m2 r2 hbF => ?_
  have m02 := m1.trans m2
  refine newF (xs := [m]) (enc := eS) (sz := 1) rfl (fun _ => rfl) fun b3 k3 hb3 hle3 m3 o3 => ?_
  have hFlF : ∀ b ∈ Fl, b ∉ it.F := fun b hb hb' => (hiF b hb').2 hb
  have hFlk := ol.known
  have ol2 : OwnF k2 1 eS long longs Fl := ol.mv m02 hFlF
  have hFlF' : ∀ b ∈ Fl, b ∉ F' := mv_disj m02 hFlk hFlF
  refine appF (ol2.grow hle3) (o3.rw fun _ => rfl) (fun _ => rfl) (fun _ => rfl) rfl (by simp; omega) fun l4 k4 Fl' o4 m4 => ?_
  refine hk l4 k4 ⟨cutH k4 (((its.drop (i.toNat + 1)).map (·.F)).flatten ++ Fl'), Fl', longs ++ [m], ?_⟩
  have hdn : ∀ b ∈ it.F, d b = none := fun b hb => (hiF b hb).1
  have hd2 : d ≤ k2 := (m02.le hd hdn).1
  have hd3 : d ≤ k3 := Hp.le_trans hd2 hle3
  obtain ⟨hd4, hFl'⟩ := m4.le hd3 hFl
  have hFlk3 : ∀ b ∈ Fl, k3 b ≠ none := (ol2.grow hle3).known
  have hmemR : ∀ b, b ∈ ((its.drop (i.toNat + 1)).map (·.F)).flatten ++ Fl' → (∃ jt ∈ its.drop (i.toNat + 1), b ∈ jt.F) ∨ b ∈ Fl' := fun b hb => by
    rcases List.mem_append.1 hb with hb | hb
    · obtain ⟨F, hF, hbF⟩ := List.mem_flatten.1 hb
      obtain ⟨jt, hj, rfl⟩ := List.mem_map.1 hF
      exact .inl ⟨jt, hj, hbF⟩
    · exact .inr hb
  have hrest1 : ∀ jt ∈ its.drop (i.toNat + 1), OwnF k 1 eI jt.s jt.ys jt.F ∧ ∀ b ∈ jt.F, d b = none ∧ b ∉ Fl := fun jt hj => hrest jt (by rw [hdrop]; exact List.mem_cons_of_mem _ hj)
  have hjk2 : ∀ jt ∈ its.drop (i.toNat + 1), OwnF k2 1 eI jt.s jt.ys jt.F := fun jt hj => (hrest1 jt hj).1.mv m02 fun c hc hc' => hsep jt hj c hc' hc
  have hjF' : ∀ jt ∈ its.drop (i.toNat + 1), ∀ b ∈ jt.F, b ∉ F' := fun jt hj => mv_disj m02 (hrest1 jt hj).1.known fun c hc hc' => hsep jt hj c hc' hc
  have hjFl' : ∀ jt ∈ its.drop (i.toNat + 1), ∀ b ∈ jt.F, b ∉ Fl' := fun jt hj => mv_disj m4 ((hjk2 jt hj).grow hle3).known fun c hc => ((hrest1 jt hj).2 c hc).2
  have hdd : d ≤ cutH k4 (((its.drop (i.toNat + 1)).map (·.F)).flatten ++ Fl') := le_cut hd4 fun b hb => by
    rcases hmemR b hb with ⟨jt, hj, hbj⟩ | hb
    · exact ((hrest1 jt hj).2 b hbj).1
    · exact hFl' b hb
  have ek : (List.replicate it.ys.length (100 + i)).length * 1 ≠ 0 → it.ys.length ≠ 0 := fun h e => by rw [e] at h; simp at h
  -- the list itself, and the longer one
  have r3 : Rw k3 1 eI it.s (List.replicate it.ys.length (100 + i)) := r2.mono hle3
  have hbk3 : ∀ a, it.s.base = some a → (List.replicate it.ys.length (100 + i)).length * 1 ≠ 0 → a.block ∈ it.F ∧ k3 a.block ≠ none := fun a ha h0 => ⟨hbF a ha (by simpa using ek h0), r3.known ha h0⟩
  have r4 : Rw k4 1 eI it.s (List.replicate it.ys.length (100 + i)) := r3.mvk m4 fun a ha h0 hb => hFlF _ hb (hbk3 a ha h0).1
  have r5 := r4.cutR (R := ((its.drop (i.toNat + 1)).map (·.F)).flatten ++ Fl') fun a ha h0 hb => by
    obtain ⟨h5, h6⟩ := hbk3 a ha h0
    rcases hmemR _ hb with ⟨jt, hj, hbj⟩ | hb
    · exact hsep jt hj _ h5 hbj
    · rcases m4.from_ _ hb with h7 | h7
      · exact hFlF _ h7 h5
      · exact h6 h7
  have o5 : OwnF k4 1 eI m (List.replicate (it.ys.length + 20) (100 + i)) F' := (o2.grow hle3).mv m4 fun b hb hb' => hFlF' b hb' hb
  have o6 := o5.cut (R := ((its.drop (i.toNat + 1)).map (·.F)).flatten ++ Fl') fun b hb hbR => by
    rcases hmemR _ hbR with ⟨jt, hj, hbj⟩ | hb2
    · exact hjF' jt hj b hbj hb
    · exact mv_disj m4 (o2.grow hle3).known (fun c hc hc' => hFlF' c hc' hc) b hb hb2
  refine ⟨Hp.le_trans hd0 hdd, cut_le, rall.mono hdd, by rw [List.length_append, hll]; rfl, o4, fun b hb => cut_none (List.mem_append_right _ hb), fun j jt lg hj hjt hlg => ?_, fun jt hj => ⟨((hjk2 jt hj).grow hle3).mv m4 fun c hc => ((hrest1 jt hj).2 c hc).2, fun b hb => ⟨cut_none (List.mem_append_left _ (List.mem_flatten.2 ⟨_, List.mem_map.2 ⟨jt, hj, rfl⟩, hb⟩)), hjFl' jt hj b hb⟩⟩⟩
  by_cases hji : j < i.toNat
  · rw [List.getElem?_append_left (by omega)] at hlg
    obtain ⟨h5, h6⟩ := hdone j jt lg hji hjt hlg
    exact ⟨h5.mono hdd, h6.mono hdd⟩
  · have e1 : j = i.toNat := by omega
    subst e1
    rw [hit] at hjt
    cases hjt
    rw [List.getElem?_append_right (by omega), hll, Nat.sub_self] at hlg
    cases hlg
    rw [hin2]
    exact ⟨r5, o6.rw fun _ => rfl⟩

end Lf

/-
  Lists that came out are their owner's: all of it.
-/
namespace Lf
open Go Go.Proofs

set_option maxRecDepth 20000 in
set_option maxHeartbeats 1000000 in
theorem keepsB_ok {d k : Hp} {p : Addr} {ls : List Int} {r1 : Sl} {a : Int} {Q : Bool → Hp → Prop} (hd : d ≤ k) (t : Tab d p ls) (r : Us d r1 ls) (hl8 : ls.length ≤ 8) (hu : ∀ x ∈ ls, InU x) (ha : InU a) (hq : ∀ h', d ≤ h' → Q true h') :
 NewW [] (fun a1 h16 =>
 LoopW2 (α1 := Sl) (α2 := Int) (fun again3 all t109 h17 =>
 (if (decide (t109 < (2 : Int))) = true then
 CallT Try.prog n_table_Table_Down [(.pointer (some p)), (.int .u64 a)] shSl (fun r15 h18 =>
 CallT Try.prog n_table_Table_Up [(.pointer (some p)), (.int .i64 (0 : Int))] shSl (fun r16 h19 =>
 CallT Try.prog n_table_Table_Up [(.pointer (some p)), (.int .i64 (IntKind.wrap .i64 (((r1.len : Nat) : Int) - (1 : Int))))] shSl (fun r17 h20 =>
 NewW [r15.v, r16.v, r17.v] (fun a2 h21 =>
 AppendW 1 24 [(.slice none 0 0)] ⟨all.base, all.len, all.cap⟩ ⟨(some a2), 3, 3⟩ (fun r18 h22 =>
 again3 r18 (IntKind.wrap .i64 (t109 + (1 : Int))) h22) h21) h20) h19) h18) h17
 else
 NewW [] (fun a2 h18 =>
 LoopW2 (α1 := Sl) (α2 := Int) (fun again4 long t128 h19 =>
 (if (decide (t128 < ((all.len : Nat) : Int))) = true then
 ((InB all.base all.len t128) ∧ LdW none shSl h19 (sat all.base 1 t128) fun x1 =>
 LoopW1 (α1 := Int) (fun again5 t135 h20 =>
 (if (decide (t135 < ((x1.len : Nat) : Int))) = true then
 ((InB x1.base x1.len t135) ∧ StW h20 (sat x1.base 1 t135) [(.int .i64 (IntKind.wrap .i64 ((100 : Int) + t128)))] (fun h21 =>
 again5 (IntKind.wrap .i64 (t135 + (1 : Int))) h21))
 else
 LoopW2 (α1 := Sl) (α2 := Int) (fun again6 m t144 h21 =>
 (if (decide (t144 < (20 : Int))) = true then
 NewW [(.int .i64 (IntKind.wrap .i64 ((100 : Int) + t128)))] (fun a3 h22 =>
 AppendW 1 8 [(.int .i64 (0 : Int))] ⟨m.base, m.len, m.cap⟩ ⟨(some a3), 1, 1⟩ (fun r15 h23 =>
 again6 r15 (IntKind.wrap .i64 (t144 + (1 : Int))) h23) h22) h21
 else
 NewW [m.v] (fun a3 h22 =>
 AppendW 1 24 [(.slice none 0 0)] ⟨long.base, long.len, long.cap⟩ ⟨(some a3), 1, 1⟩ (fun r15 h23 =>
 again4 r15 (IntKind.wrap .i64 (t128 + (1 : Int))) h23) h22) h21)) x1 (0 : Int) h20)) (0 : Int) h19)
 else
 LoopW1 (α1 := Int) (fun again5 t159 h20 =>
 (if (decide (t159 < ((long.len : Nat) : Int))) = true then
 ((InB long.base long.len t159) ∧ LdW none shSl h20 (sat long.base 1 t159) fun x1 =>
 LoopW1 (α1 := Int) (fun again6 t166 h21 =>
 (if (decide (t166 < ((x1.len : Nat) : Int))) = true then
 ((InB x1.base x1.len t166) ∧ LdW none (shInt .i64) h21 (sat x1.base 1 t166) fun x2 =>
 (((!(x2 != (IntKind.wrap .i64 ((100 : Int) + t159)))) = true → (InB all.base all.len t159)) ∧ LdW (some (!(x2 != (IntKind.wrap .i64 ((100 : Int) + t159))))) shSl h21 (sat all.base 1 t159) fun x3 =>
 ((((!(x2 != (IntKind.wrap .i64 ((100 : Int) + t159)))) && (decide (t166 < ((x3.len : Nat) : Int)))) = true → (InB all.base all.len t159)) ∧ LdW (some ((!(x2 != (IntKind.wrap .i64 ((100 : Int) + t159)))) && (decide (t166 < ((x3.len : Nat) : Int))))) shSl h21 (sat all.base 1 t159) fun x4 =>
 ((((!(x2 != (IntKind.wrap .i64 ((100 : Int) + t159)))) && (decide (t166 < ((x3.len : Nat) : Int)))) = true → (InB x4.base x4.len t166)) ∧ LdW (some ((!(x2 != (IntKind.wrap .i64 ((100 : Int) + t159)))) && (decide (t166 < ((x3.len : Nat) : Int))))) (shInt .i64) h21 (sat x4.base 1 t166) fun x5 =>
 LetW ((decide (t166 < ((x3.len : Nat) : Int))) && (x5 != (IntKind.wrap .i64 ((100 : Int) + t159)))) fun y5 =>
 LetW ((x2 != (IntKind.wrap .i64 ((100 : Int) + t159))) || y5) fun y6 =>
 (if y6 = true then
 Q false h21
 else
 again6 (IntKind.wrap .i64 (t166 + (1 : Int))) h21)))))
 else
 again5 (IntKind.wrap .i64 (t159 + (1 : Int))) h21)) (0 : Int) h20)
 else
 CallT Try.prog n_table_Table_Down [(.pointer (some p)), (.int .u64 a)] shSl (fun r15 h21 =>
 CallT Try.prog n_firebreakref02_Down [r1.v, (.int .u64 a)] shSl (fun r16 h22 =>
 CallT Try.prog n_firebreakref02_SameInts [r15.v, r16.v] shBool (fun r17 h23 =>
 EffC (some r17) (CallT Try.prog n_table_Table_Up [(.pointer (some p)), (.int .i64 (0 : Int))] shSl) (fun r18 h24 =>
 EffC (some r17) (CallT Try.prog n_firebreakref02_Up [r1.v, (.int .i64 (0 : Int))] shSl) (fun r19 h25 =>
 EffC (some r17) (CallT Try.prog n_firebreakref02_SameInts [r18.v, r19.v] shBool) (fun r20 h26 =>
 LetW (r17 && r20) fun y5 =>
 Q y5 h26) h25) h24) h23) h22) h21) h20)) (0 : Int) h19)) ⟨(some a2), 0, 0⟩ (0 : Int) h18) h17)) ⟨(some a1), 0, 0⟩ (0 : Int) h16) k := by
  have hr1 := r.1
  rw [wrap64 (n := (r1.len : Int) - 1) (by omega) (by omega)]
  refine newF (xs := ([] : List Sl)) (enc := eS) (sz := 1) rfl (fun _ => rfl) fun ba k0 hba hle0 m0 oa => ?_
  refine LoopW2.intro (fun all i k => d ≤ k ∧ 0 ≤ i ∧ i ≤ 2 ∧ ∃ its Fa, OwnF k 1 eS all (its.map (·.s)) Fa ∧ (∀ b ∈ Fa, d b = none) ∧ Its d k its Fa ∧ (its.length : Int) = 3 * i) (fun _ i _ => (2 - i).toNat)
    ⟨Hp.le_trans hd hle0, by omega, by omega, [], [ba], oa, fun b hb => (by rw [List.mem_singleton.1 hb]; exact none_of_le hd hba), Its.nil, by simp⟩ ?_
  rintro all i k1 ⟨hd1, hi0, hi1, its, Fa, oal, hFa, hits, hlen⟩
  split
  · rename_i e
    have e : i < 2 := by simpa using e
    have tl : ∀ p n, n = ls.length → (those p n).length ≤ 8 := fun p n hn => Nat.le_trans (those_len p n) (by omega)
    refine table_Table_Down_call (tabDown_ok (t.mono hd1) hu ha (by omega) fun s1 k2 l2 o2 => ?_)
    obtain ⟨F1, p1, q1⟩ := o2.ownF
    have i1 := hits.add hd1 l2 p1 q1 oal.known (tl _ _ rfl)
    have hd2 := Hp.le_trans hd1 l2
    have oal2 := oal.grow l2
    refine table_Table_Up_call (tabUp_ok (t.mono hd2) hu (by omega) fun s2 k3 l3 o3 => ?_)
    obtain ⟨F2, p2, q2⟩ := o3.ownF
    have i2 := i1.add hd2 l3 p2 q2 oal2.known (tl _ _ rfl)
    have hd3 := Hp.le_trans hd2 l3
    have oal3 := oal2.grow l3
    refine table_Table_Up_call (tabUp_ok (t.mono hd3) hu (by omega) fun s3 k4 l4 o4 => ?_)
    obtain ⟨F3, p3, q3⟩ := o4.ownF
    have i3 := i2.add hd3 l4 p3 q3 oal3.known (tl _ _ rfl)
    have hd4 := Hp.le_trans hd3 l4
    have oal4 := oal3.grow l4
    refine newF (xs := [s1, s2, s3]) (enc := eS) (sz := 1) rfl (fun _ => rfl) fun b5 k5 hb5 l5 m5 o5 => ?_
    have hd5 := Hp.le_trans hd4 l5
    have hlm : (its.map (·.s)).length = its.length := List.length_map _
    refine appF (oal4.grow l5) (o5.rw fun _ => rfl) (fun _ => rfl) (fun _ => rfl) rfl (by simp; omega) fun all6 k6 F6 o6 m6 => ?_
    obtain ⟨hd6, hF6⟩ := m6.le hd5 hFa
    rw [wrap64 (by omega) (by omega)]
    refine ⟨⟨hd6, by omega, by omega, _, F6, ?_, hF6, (i3.grow l5).mv m6, ?_⟩, by omega⟩
    · rw [List.map_append, List.map_append, List.map_append, List.append_assoc, List.append_assoc]
      exact o6
    · simp; omega
  rename_i e
  have e : ¬ i < 2 := by simpa using e
  have hlen6 : its.length = 6 := by omega
  refine newF (xs := ([] : List Sl)) (enc := eS) (sz := 1) rfl (fun _ => rfl) fun bl k2 hbl hle2 m2 ol => ?_
  have hall : all.len = its.length := by have := oal.1; rw [List.length_map] at this; exact this
  have hstart := half_start (K := fun _ => True) hits hd1 oal hle2 hbl ol
  clear hstart
  refine LoopW2.intro (fun long i k => 0 ≤ i ∧ i ≤ (its.length : Int) ∧ Half d k its all long i.toNat) (fun _ i _ => (its.length - i).toNat) ⟨by omega, by omega, half_start (K := fun _ => True) hits hd1 oal hle2 hbl ol⟩ ?_
  rintro long i2 k3 ⟨hi20, hi21, hf⟩
  split
  · rename_i e
    have e : i2 < (all.len : Int) := by simpa using e
    refine half_step hf hits.sep hits.few hi20 (by omega) (by omega) fun l' k' hf' => ?_
    rw [wrap64 (by omega) (by omega)]
    have e1 : (i2 + 1).toNat = i2.toNat + 1 := by omega
    exact ⟨⟨by omega, by omega, by rw [e1]; exact hf'⟩, by omega⟩
  rename_i e2
  have e2 : ¬ i2 < (all.len : Int) := by simpa using e2
  have e3 : i2.toNat = its.length := by omega
  rw [e3] at hf
  obtain ⟨dd, Fl, longs, hdd0, hdd, rall, hll, olong, _, hdone, _⟩ := hf.ex
  have rlong := olong.rw fun _ => rfl
  have hlongl := olong.1
  have rall3 := rall.mono hdd
  refine LoopW1.intro (fun i k => k = k3 ∧ 0 ≤ i ∧ i ≤ (its.length : Int)) (fun i _ => (its.length - i).toNat) ⟨rfl, by omega, by omega⟩ ?_
  rintro i3 k4 ⟨ek, hi30, hi31⟩
  subst k4
  split
  · rename_i e
    have e : i3 < (long.len : Int) := by simpa using e
    have hin : ((i3.toNat : Nat) : Int) = i3 := by omega
    rw [wrap64 (n := 100 + i3) (by omega) (by omega)]
    refine Rs.get (sh := shSl) rlong (fun _ => rfl) (by omega) hi30 (by omega) fun (x1 : Sl) hx1 => ?_
    obtain ⟨it, hit⟩ : ∃ it, its[i3.toNat]? = some it := ⟨its[i3.toNat]'(by omega), List.getElem?_eq_getElem (by omega)⟩
    have hx1' : longs[i3.toNat]? = some x1 := hx1
    obtain ⟨ra, rb⟩ := hdone i3.toNat it x1 (by omega) hit hx1'
    rw [hin] at ra rb
    have ra3 := ra.mono hdd
    have rb3 := rb.mono hdd
    have hn8 := hits.few it (List.mem_of_getElem? hit)
    have hal := ra3.1
    have hbl' := rb3.1
    simp only [List.length_replicate] at hal hbl'
    have hits' : (its.map (·.s))[i3.toNat]? = some it.s := by rw [List.getElem?_map, hit]; rfl
    refine LoopW1.intro (fun j k => k = k3 ∧ 0 ≤ j ∧ j ≤ ((it.ys.length + 20 : Nat) : Int)) (fun j _ => (it.ys.length + 20 - j).toNat) ⟨rfl, by omega, by omega⟩ ?_
    rintro j k4 ⟨ek, hj0, hj1⟩
    subst k4
    split
    · rename_i ej
      have ej : j < (x1.len : Int) := by simpa using ej
      refine Rs.get (sh := shInt .i64) rb3 (fun _ => rfl) (by omega) hj0 (by simp; omega) fun (x2 : Int) hx2 => ?_
      have hx2' : x2 = 100 + i3 := by
        have := List.mem_of_getElem? hx2
        exact (List.mem_replicate.1 this).2
      subst hx2'
      have ec : (!((100 + i3 : Int) != 100 + i3)) = true := by simp
      rw [ec]
      refine Rs.getC (sh := shSl) rall3 (⟨none, 0, 0⟩ : Sl) (fun _ => rfl) (by omega) (fun _ => ⟨hi30, by rw [List.length_map]; omega⟩) fun (x3 : Sl) hx3 => ?_
      have hx3' := hx3 rfl
      rw [hits'] at hx3'
      cases hx3'
      rw [Bool.true_and]
      refine Rs.getC (sh := shSl) rall3 (⟨none, 0, 0⟩ : Sl) (fun _ => rfl) (by omega) (fun _ => ⟨hi30, by rw [List.length_map]; omega⟩) fun (x4 : Sl) hx4 => ?_
      by_cases hj : j < (it.s.len : Int)
      · have ed : decide (j < (it.s.len : Int)) = true := decide_eq_true hj
        rw [ed] at hx4 ⊢
        have hx4' := hx4 rfl
        rw [hits'] at hx4'
        cases hx4'
        refine Rs.getC (sh := shInt .i64) ra3 (0 : Int) (fun _ => rfl) (by omega) (fun _ => ⟨hj0, by simp; omega⟩) fun (x5 : Int) hx5 => ?_
        have hx5' : x5 = 100 + i3 := (List.mem_replicate.1 (List.mem_of_getElem? (hx5 rfl))).2
        subst hx5'
        refine letW (letW ?_)
        rw [if_neg (by simp), wrap64 (by omega) (by omega)]
        exact ⟨⟨rfl, by omega, by omega⟩, by omega⟩
      · have ed : decide (j < (it.s.len : Int)) = false := decide_eq_false hj
        rw [ed]
        refine ⟨fun h => (by cases h), (0 : Int), fun h => (by cases h), ?_⟩
        refine letW (letW ?_)
        rw [if_neg (by simp), wrap64 (by omega) (by omega)]
        exact ⟨⟨rfl, by omega, by omega⟩, by omega⟩
    · rw [wrap64 (by omega) (by omega)]
      exact ⟨⟨rfl, by omega, by omega⟩, by omega⟩
  · have hdk : d ≤ k3 := Hp.le_trans hdd0 hdd
    refine table_Table_Down_call (tabDown_ok (t.mono hdk) hu ha (by omega) fun s1 k4 l4 o4 => ?_)
    have hd4 := Hp.le_trans hdk l4
    refine firebreakref02_Down_call (refDown_ok (r.mono hd4) hu ha (by omega) fun s2 k5 l5 o5 => ?_)
    have tl : (those (fun j => flows (ls.getD j 0) a) ls.length).length ≤ 1000000 := Nat.le_trans (those_len _ _) (by omega)
    refine firebreakref02_SameInts_call (sameInts_ok (Rw.mono l5 (o4.rw fun _ => rfl)) (o5.rw fun _ => rfl) tl ?_)
    have hd5 := Hp.le_trans hd4 l5
    refine effT (table_Table_Up_call (tabUp_ok (t.mono hd5) hu (by omega) fun s3 k6 l6 o6 => ?_))
    have hd6 := Hp.le_trans hd5 l6
    refine effT (firebreakref02_Up_call (refUp_ok (r.mono hd6) hu (by omega) fun s4 k7 l7 o7 => ?_))
    have tl2 : (those (fun j => fl ls 0 j) ls.length).length ≤ 1000000 := Nat.le_trans (those_len _ _) (by omega)
    refine effT (firebreakref02_SameInts_call (sameInts_ok (Rw.mono l7 (o6.rw fun _ => rfl)) (o7.rw fun _ => rfl) tl2 ?_))
    exact letW (hq _ (Hp.le_trans hd6 l7))

end Lf

/-
  TableKeeps.
-/
namespace Lf
open Go Go.Proofs

theorem few2_ok {l : Sl} {xs : List Int} {h : Hp} (r : Us h l xs) (cl : l.len ≤ l.cap) :
    ((0 : Int) ≤ min2I (l.len : Int) 300 ∧ min2I (l.len : Int) 300 ≤ (l.cap : Int)) ∧
      Us h ⟨sbase l.base 1 0 l.cap, Int.toNat (min2I (l.len : Int) 300) - 0, l.cap - 0⟩ (xs.take 300) := by
  have hll := r.1
  have m1 := @min2_le (l.len : Int) 300
  refine ⟨by omega, ?_⟩
  have e : xs.take 300 = xs.take (min2I (l.len : Int) 300).toNat := by
    rcases m1.2.2 with e | e
    · rw [List.take_of_length_le (by omega), List.take_of_length_le (by omega)]
    · rw [e]; rfl
  rw [e]
  exact Rw.head r (fun _ => rfl) (by omega) (by omega) (by omega)

theorem TabN.grow {h0 h h' : Hp} {p : Addr} {ls : List Int} (t : TabN h0 h p ls) (hl : h ≤ h') : TabN h0 h' p ls := by
  obtain ⟨sl, m, h1, h2, h3, h4⟩ := t.ex
  exact ⟨sl, m, ldIs_mono hl h1, h2.mono hl, hl _ _ h3, h4⟩

theorem newK_ok {l : Sl} {ls : List Int} {Q : Option Addr → Int → Int → Hp → Prop} {h : Hp} (r : Us h l ls)
    (hq : ∀ r7 r8 r9 h', h ≤ h' → (r7 = none ∧ r8 ≠ 0 ∨ ∃ p, r7 = some p ∧ r8 = 0 ∧ ls.length ≤ 8 ∧ TabN h h' p ls) → Q r7 r8 r9 h') : table_New_w Try.prog l Q h := by
  by_cases hm : (mayP ls).1 = 0
  · obtain ⟨hne, hl, hasc⟩ := mayP_zero.1 hm
    exact newN_ok r hl hasc (fun e => absurd e hne) fun _ p h' hle t => hq _ _ _ _ hle (.inr ⟨p, rfl, rfl, hl, t⟩)
  · unfold table_New_w
    refine table_May_call (mayG_ok r ?_)
    rw [if_pos (by simpa using hm)]
    exact hq _ _ _ _ (Hp.le_refl h) (.inl ⟨rfl, hm⟩)

set_option maxRecDepth 20000 in
set_option maxHeartbeats 2000000 in
theorem tableKeeps_ok {l : Sl} {xs : List Int} {a : Int} {Q : Bool → Hp → Prop} {h : Hp} (r : Us h l xs) (cl : l.len ≤ l.cap) (hx : ∀ x ∈ xs, InU x) (ha : InU a) (hq : ∀ h', h ≤ h' → Q true h') : firebreaklaw02_TableKeeps_w Try.prog l a Q h := by
  unfold firebreaklaw02_TableKeeps_w
  refine firebreaklaw02_awake_call (awake_ok fun h1 l1 => ?_)
  rw [if_neg (by simp)]
  refine firebreaklaw02_short_call (short_ok (r.mono l1) cl fun r1 ro co ho => ?_)
  have hxs : ∀ x ∈ xs.take 1048576, InU x := fun x hm => hx x (List.mem_of_mem_take hm)
  generalize xs.take 1048576 = xs1 at ro hxs
  have hr1 := ro.1
  refine firebreaklaw02_wide_call (wideF_ok ro (by omega) fun o r2 h3 Fw ow m3 hwb hwc hwl => ?_)
  have l3 : h1 ≤ h3 := (m3.le (Hp.le_refl h1) fun b hb => by cases hb).1
  have hFw : ∀ b ∈ Fw, h1 b = none := fun b hb => (m3.from_ b hb).resolve_left fun hb' => by cases hb'
  have howl := ow.1
  have howc := ow.2.1
  rw [List.length_append] at howl
  have howl : o.len = xs1.length + 3 := howl
  have or2 : ∀ {k : Hp}, OwnF k 1 eU o (xs1 ++ [161, 162, 163]) Fw → OwnF k 1 eU r2 xs1 Fw := fun o' => by
    have := o'.head (fun _ => rfl) (n := xs1.length) (by simp)
    rw [List.take_left] at this
    have e : r2 = ⟨o.base, xs1.length, o.cap⟩ := by cases r2; simp_all
    rw [e]
    exact this
  have rw3 : Us h3 r2 xs1 := (or2 ow).rw fun _ => rfl
  refine table_May_call (mayG_ok rw3 ?_)
  obtain ⟨g1, g2⟩ := few2_ok rw3 (by omega)
  have hlt : (xs1.take 300).length ≤ 300 := by rw [List.length_take]; omega
  refine ⟨g1, letW ?_⟩
  refine table_Canon_call (tabCanon_ok g2 (by omega) fun r5 ys5 h5 F5 o5 m5 asc5 mem5 => ?_)
  have l5 : h3 ≤ h5 := (m5.le (Hp.le_refl h3) fun b hb => by cases hb).1
  have hF5 : ∀ b ∈ F5, h3 b = none := fun b hb => (m5.from_ b hb).resolve_left fun hb' => by cases hb'
  refine ⟨g1, letW ?_⟩
  refine table_Canon_call (tabCanon_ok (g2.mono l5) (by omega) fun r6 ys6 h6 F6 o6 m6 asc6 mem6 => ?_)
  have l6 : h5 ≤ h6 := (m6.le (Hp.le_refl h5) fun b hb => by cases hb).1
  have hF6 : ∀ b ∈ F6, h5 b = none := fun b hb => (m6.from_ b hb).resolve_left fun hb' => by cases hb'
  have hl5 : ys5.length ≤ 300 := Nat.le_trans (nodup_len ys5 _ (asc_nodup asc5) fun y hy => (mem5 y).1 hy) hlt
  refine table_New_call (newK_ok (rw3.mono (Hp.le_trans l5 l6)) fun r7 r8 r9 h7 l7 hcase => ?_)
  refine firebreaklaw02_kept_call (kept_ok (ow.grow (Hp.le_trans l5 (Hp.le_trans l6 l7))) (ro.mono (Hp.le_trans l3 (Hp.le_trans l5 (Hp.le_trans l6 l7)))) (by omega) hwb hwc hwl fun h8 l8 => ?_)
  rw [if_neg (by simp)]
  have l38 : h3 ≤ h8 := Hp.le_trans l5 (Hp.le_trans l6 (Hp.le_trans l7 l8))
  have l58 : h5 ≤ h8 := Hp.le_trans l6 (Hp.le_trans l7 l8)
  have kFw : ∀ b ∈ Fw, h3 b ≠ none := ow.known
  have kF5 : ∀ b ∈ F5, h5 b ≠ none := o5.known
  -- what is written to no more
  have hRn1 : ∀ b ∈ Fw ++ F5, h1 b = none := fun b hb => by
    rcases List.mem_append.1 hb with hb | hb
    · exact hFw b hb
    · exact none_of_le l3 (hF5 b hb)
  have hRk : ∀ b ∈ Fw ++ F5, h5 b ≠ none := fun b hb => by
    rcases List.mem_append.1 hb with hb | hb
    · exact fun e => kFw b hb (none_of_le l5 e)
    · exact kF5 b hb
  have d1 : h1 ≤ cutH h8 (Fw ++ F5) := le_cut (Hp.le_trans l3 l38) hRn1
  have oy : OwnF (cutH h8 (Fw ++ F5)) 1 eU r6 ys6 F6 := (o6.grow (Hp.le_trans l7 l8)).cut fun b hb hb' => hRk b hb' (hF6 b hb)
  have ot : r7 = none ∧ r8 ≠ 0 ∨ ∃ p, r7 = some p ∧ r8 = 0 ∧ xs1.length ≤ 8 ∧ Tab (cutH h8 (Fw ++ F5)) p xs1 := by
    rcases hcase with hc | ⟨p, e1, e2, e3, t⟩
    · exact .inl hc
    · exact .inr ⟨p, e1, e2, e3, (t.grow l8).cut fun b hb e => hRk b hb (none_of_le l6 e)⟩
  have hdle : cutH h8 (Fw ++ F5) ≤ h8 := cut_le
  have hdn : ∀ b ∈ Fw ++ F5, cutH h8 (Fw ++ F5) b = none := fun b hb => cut_none hb
  generalize cutH h8 (Fw ++ F5) = d at d1 oy ot hdle hdn
  have hd5w : ∀ b ∈ F5, b ∉ Fw := fun b hb hb' => kFw b hb' (hF5 b hb)
  refine LoopW1.intro (fun i k => d ≤ k ∧ 0 ≤ i ∧ i ≤ (xs1.length : Int) ∧ OwnF k 1 eU r5 ys5 F5 ∧ ∃ zs, OwnF k 1 eU r2 zs Fw ∧ zs.length = xs1.length) (fun i _ => (xs1.length - i).toNat)
    ⟨hdle, by omega, by omega, o5.grow l58, xs1, or2 (ow.grow l38), rfl⟩ ?_
  rintro i k ⟨hdk, hi0, hi1, ox, zs, oz, hzl⟩
  by_cases e : i < (r2.len : Int)
  · rw [if_pos (decide_eq_true e)]
    refine Rs.get (sh := shInt .u64) (oz.rw fun _ => rfl) (fun _ => rfl) (by omega) hi0 (by omega) fun (x : Int) _ => ?_
    refine oz.store (fun _ => rfl) hi0 (by omega) (bitsI .xor .u64 x 23130) fun k' o' m' => ?_
    rw [wrap64 (by omega) (by omega)]
    exact ⟨⟨(m'.le hdk fun b hb => hdn b (List.mem_append_left _ hb)).1, by omega, by omega, ox.mv m' hd5w, _, o', by rw [List.length_set]; exact hzl⟩, by omega⟩
  rw [if_neg fun hh => e (of_decide_eq_true hh)]
  clear hi0 hi1
  have rd1 : Us d r1 xs1 := ro.mono d1
  obtain ⟨g3, g4⟩ := few2_ok rd1 co
  refine ⟨g3, letW ?_⟩
  refine firebreakref02_Canon_call (refCanon_ok (g4.mono hdk) (by omega) fun r11 zs11 h10 l10 o11 asc11 mem11 => ?_)
  have e5 : ys5 = zs11 := asc_eq asc5 asc11 fun z => (mem5 z).trans (mem11 z).symm
  have e6 : ys6 = zs11 := asc_eq asc6 asc11 fun z => (mem6 z).trans (mem11 z).symm
  subst e5
  subst e6
  have ox10 := ox.grow l10
  have r11r : Us h10 r11 ys6 := o11.rw fun _ => rfl
  have hd10 := Hp.le_trans hdk l10
  refine firebreakref02_SameLabels_call (sameLabels_ok (ox10.rw fun _ => rfl) r11r (by omega) ?_)
  refine effT (firebreakref02_SameLabels_call (sameLabels_ok (Rw.mono hd10 (oy.rw fun _ => rfl)) r11r (by omega) (letW ?_)))
  rw [if_neg (by simp)]
  -- what is written to no more
  have h11n : ∀ a, r11.base = some a → a.block ∉ F5 := fun a ha hb => by
    rcases o11.2.2 with ⟨e1, _⟩ | ⟨b', _, _, e1, _, _, _, e2⟩
    · rw [e1] at ha; cases ha
    · rw [e1] at ha; cases ha; exact ox.known _ hb e2
  have d2 : d ≤ cutH h10 F5 := le_cut hd10 fun b hb => hdn b (List.mem_append_right _ hb)
  have r11d : Us (cutH h10 F5) r11 ys6 := r11r.same fun a ha => cut_eq (h11n a ha)
  have hd2le : cutH h10 F5 ≤ h10 := cut_le
  have hd2n : ∀ b ∈ F5, cutH h10 F5 b = none := fun b hb => cut_none hb
  generalize cutH h10 F5 = d' at d2 r11d hd2le hd2n
  refine fill_ok (enc := eU) (c := 7) (bound := r5.len) ox10 (fun _ => rfl) (by omega) rfl (fun k1 o1 m1 => ?_) rfl
  obtain ⟨hdk1, _⟩ := m1.le hd2le hd2n
  refine LoopW2.intro (fun x i k => d' ≤ k ∧ 0 ≤ i ∧ i ≤ 20 ∧ ∃ zs F, OwnF k 1 eU x zs F ∧ (∀ b ∈ F, d' b = none) ∧ (zs.length : Int) ≤ 300 + i) (fun _ i _ => (20 - i).toNat)
    ⟨hdk1, by omega, by omega, _, F5, o1, hd2n, by simp; omega⟩ ?_
  rintro x i2 k2 ⟨hdk2, hi20, hi21, zs2, F2, o2, hF2, hzl2⟩
  by_cases e : i2 < 20
  · rw [if_pos (decide_eq_true e)]
    refine newF (xs := [(8 : Int)]) (enc := eU) (sz := 1) rfl (fun _ => rfl) fun b3 k3 hb3 l3' m3' o3 => ?_
    refine appF (o2.grow l3') (o3.rw fun _ => rfl) (fun _ => rfl) (fun _ => rfl) rfl (by simp; omega) fun x4 k4 F4 o4 m4 => ?_
    obtain ⟨hdk4, hF4⟩ := m4.le (Hp.le_trans hdk2 l3') hF2
    rw [wrap64 (by omega) (by omega)]
    exact ⟨⟨hdk4, by omega, by omega, _, F4, o4, hF4, by simp; omega⟩, by omega⟩
  rw [if_neg fun hh => e (of_decide_eq_true hh)]
  have hh : h ≤ d' := Hp.le_trans l1 (Hp.le_trans d1 d2)
  refine firebreakref02_SameLabels_call (sameLabels_ok (Rw.mono (Hp.le_trans d2 hdk2) (oy.rw fun _ => rfl)) (r11d.mono hdk2) (by omega) (letW ?_))
  rcases ot with ⟨e1, e2⟩ | ⟨p, e1, e2, e3, t⟩
  · subst e1
    have : (!true || !((r8 == 0) == (!Option.isNone (none : Option Addr)))) = false := by
      have : (r8 == 0) = false := by simpa using e2
      rw [this]; rfl
    rw [this, if_neg (by simp), if_pos (show (none : Option Addr).isNone = true from rfl)]
    exact hq _ (Hp.le_trans hh hdk2)
  · subst e1
    subst e2
    rw [if_neg (by simp), if_neg (by simp)]
    exact keepsB_ok hdk2 (t.mono d2) (rd1.mono d2) e3 hxs ha fun h' hl => hq h' (Hp.le_trans hh hl)

end Lf

/-
  From a call's text to a law's statement.
-/
namespace Lf
open Go Go.ChangeShapes Go.WideShapes Go.ChangeAt Go.RowKit

/-- All that is in memory. -/
def whole (W : World) : Hp := fun b => W.heap[b]?

theorem whole_sub (W : World) : Sub (whole W) W := fun _ _ e => e

theorem hcell_whole (W : World) (a : Addr) : hcell (whole W) a = W.cell? a := rfl

theorem below_of_step {W W' : World} {h' : Hp} (hle : whole W ≤ h') (st : Step (whole W) h' W W') : Below W.heap.size W W' :=
  ⟨st.os, st.tape, st.output, st.size, fun k hk => by
    cases e : W.heap[k]? with
    | some o => exact st.sub _ _ (hle _ _ e)
    | none => simp at e; omega⟩

theorem trodAll_stays {H : Type} {enc : TypeId × Value → H} {P : Program} (hl : laidOutB P = true) {W W' : World} {sp : Nat → Bool} (hb : Below W.heap.size W W') : ∀ {ts : List TypeId} {vs : List Value} {ds : List (DataW H)} {ps : List MemPlace},
    (∀ t ∈ ts, P.readableRec t = true ∧ t < P.types.size) → DataW.TrodAll enc P W 0 (fun _ => true) true ts vs ds ps → (∀ x ∈ ps, x.block < W.heap.size) → (∀ x ∈ ps, sp x.block = true) → DataW.TrodAll enc P W' 0 sp true ts vs ds ps
  | [], _, _, _, _, h, _, _ => by
    obtain ⟨rfl, rfl, rfl⟩ := trodAll_nil h
    exact trodAll_mk0
  | t :: ts, _, _, _, hr, h, hlt, hs => by
    obtain ⟨v, vs, d, ds, p, q, rfl, rfl, rfl, h1, h2⟩ := trodAll_cons h
    obtain ⟨hr1, hr2⟩ := hr t (List.mem_cons_self ..)
    exact ⟨p, q, WideElems.Trod_stays hl hr1 hr2 h1 (fun x hx => hb.same (hlt x (List.mem_append_left _ hx))) (fun x hx => hs x (List.mem_append_left _ hx)),
      trodAll_stays hl hb (fun t ht => hr t (List.mem_cons_of_mem _ ht)) h2 (fun x hx => hlt x (List.mem_append_right _ hx)) (fun x hx => hs x (List.mem_append_right _ hx)), rfl⟩

theorem law_post {H : Type} {enc : TypeId × Value → H} {P : Program} {f : Func} {s : ChangeSpec} {W W' : World} {h' : Hp} {args : Array Value} {ds gs : List (DataW H)} {before : List MemPlace} {t : TypeId} (hl : laidOutB P = true)
    (hrd : ∀ t ∈ f.params.toList, P.readableRec t = true ∧ t < P.types.size) (hvars : s.vars = []) (hres : f.resultTypes = #[t]) (ht : P.underlying t = some .bool)
    (hfn : gs = [] → s.fn H (ds ++ gs) = { results := [.lit (.bool true)], args := ds }) (hW : DataW.Whole enc P f.params.toList s.vars false W args.toList ds gs before) (hle : whole W ≤ h') (st : Step (whole W) h' W W') :
    s.post enc P f false true false false W args (.bool true) W' := by
  have hb := below_of_step hle st
  have hlt : ∀ p ∈ before, p.block < W.heap.size := fun p hp => hW.lt p hp
  have hW' := hW
  obtain ⟨p, q, hA, hV, rfl, hfz, hnd⟩ := hW'
  rw [hvars] at hV
  obtain ⟨rfl, rfl⟩ := trodVars_none hV
  rw [List.append_nil] at hlt
  have hsp := hfn rfl
  refine ⟨ds, [], p ++ [], [], p, [], hW, ?_, ?_, ?_, Below.frame hb _, fun e => (by cases e)⟩
  · rw [hsp, hres]
    exact trodAll_mk1 (shut_bool ht true)
  · rw [hsp]
    exact trodAll_stays hl hb hrd hA hlt (fun x hx => by simpa using hlt x hx)
  · rw [hsp, hvars]
    exact rfl

theorem law_lifted {H : Type} {enc : TypeId × Value → H} {C : Checked} {os : Os} {f : FuncId} {fn : Func} {s : ChangeSpec} {t : TypeId} (own : ownKnob C.prog.godebug = none) (started : os.Started) (noInit : C.prog.inits.idxOf? f = none) (hf : C.prog.funcs[f]? = some fn)
    (witness : ∃ (w : World) (tape : Tape) (i : Input), w.os = os ∧ (w.forCall tape i).Shaped C.prog ∧ i.vars = [] ∧ Input.okWide C.prog (w.forCall tape i) .any w.heap.size f i ∧
      s.pre6 enc C.prog fn [] false (w.forCall tape i).memory i.args ∧ ({} : Assume).holds C.prog (lone (Frame.enter C.prog f i.args .normal) [] (w.forCall tape i)))
    (hl : laidOutB C.prog = true) (hrd : ∀ t ∈ fn.params.toList, C.prog.readableRec t = true ∧ t < C.prog.types.size) (hvars : s.vars = []) (hres : fn.resultTypes = #[t]) (ht : C.prog.underlying t = some .bool)
    (walk : ∀ (W : World) (base : Nat) (args : Array Value) (ds : List (DataW H)) (p : List MemPlace), (∀ (j : Nat) t v, fn.params[j]? = some t → args[j]? = some v → Value.okWide C.prog W .any base t v) → DataW.TrodAll enc C.prog W 0 (fun _ => true) true fn.params.toList args.toList ds p →
      s.fn H ds = { results := [.lit (.bool true)], args := ds } ∧ CallT C.prog f args.toList shBool (fun r h' => r = true ∧ whole W ≤ h') (whole W)) :
    ReturnsInHanded {} C os f .any (s.pre6 enc C.prog fn [] false) (s.post enc C.prog fn false true false false) := by
  refine returnsInHanded_of_change own started noInit hf witness ?_
  intro W base args ds gs before hval hW hcnd _
  have hW' := hW
  obtain ⟨p, q, hA, hV, _, hfz, hnd⟩ := hW'
  obtain ⟨hsp, hc⟩ := walk W base args ds p hval hA
  have hc' := hc W (whole_sub W)
  simp only [Array.toArray_toList] at hc'
  refine hc'.mono fun e W' hh => ?_
  obtain ⟨v, h', rfl, ⟨x, rfl, rfl, hle⟩, hst⟩ := hh
  exact ⟨_, rfl, law_post hl hrd hvars hres ht (fun e => by rw [e, List.append_nil]; exact hsp) hW hle hst⟩

/-- The same, of arguments whose sizes are known. -/
theorem law_liftedS {H : Type} {enc : TypeId × Value → H} {C : Checked} {os : Os} {f : FuncId} {fn : Func} {s : ChangeSpec} {t : TypeId} (own : ownKnob C.prog.godebug = none) (started : os.Started) (noInit : C.prog.inits.idxOf? f = none) (hf : C.prog.funcs[f]? = some fn)
    (witness : ∃ (w : World) (tape : Tape) (i : Input), w.os = os ∧ (w.forCall tape i).Shaped C.prog ∧ i.vars = [] ∧ Input.okWide C.prog (w.forCall tape i) .any w.heap.size f i ∧
      s.pre6 enc C.prog fn [] false (w.forCall tape i).memory i.args ∧ ({} : Assume).holds C.prog (lone (Frame.enter C.prog f i.args .normal) [] (w.forCall tape i)))
    (hl : laidOutB C.prog = true) (hrd : ∀ t ∈ fn.params.toList, C.prog.readableRec t = true ∧ t < C.prog.types.size) (hvars : s.vars = []) (hres : fn.resultTypes = #[t]) (ht : C.prog.underlying t = some .bool)
    (walk : ∀ (W : World) (base : Nat) (args : Array Value) (ds : List (DataW H)) (p : List MemPlace), (∀ (j : Nat) t v, fn.params[j]? = some t → args[j]? = some v → Value.okWide C.prog W .any base t v) → DataW.TrodAll enc C.prog W 0 (fun _ => true) true fn.params.toList args.toList ds p →
      (DataW.weightsEach C.prog fn.params.toList ds).all (· ≤ reachBytes) = true →
      s.fn H ds = { results := [.lit (.bool true)], args := ds } ∧ CallT C.prog f args.toList shBool (fun r h' => r = true ∧ whole W ≤ h') (whole W)) :
    ReturnsInHanded {} C os f .any (s.pre6 enc C.prog fn [] false) (s.post enc C.prog fn false true false false) := by
  refine returnsInHanded_of_change_sized own started noInit hf witness ?_
  intro W base args ds gs before hval hW hcnd hsz _
  have hW' := hW
  obtain ⟨p, q, hA, hV, _, hfz, hnd⟩ := hW'
  have hgs : gs = [] := by
    rw [hvars] at hV
    exact (trodVars_none hV).1
  subst hgs
  have hvt : s.plain.varTypes C.prog = [] := by
    unfold ChangeSpec.plain DataSpec.varTypes
    rw [hvars]
    rfl
  rw [hvt, List.append_nil, List.append_nil] at hsz
  obtain ⟨hsp, hc⟩ := walk W base args ds p hval hA hsz
  have hc' := hc W (whole_sub W)
  simp only [Array.toArray_toList] at hc'
  refine hc'.mono fun e W' hh => ?_
  obtain ⟨v, h', rfl, ⟨x, rfl, rfl, hle⟩, hst⟩ := hh
  exact ⟨_, rfl, law_post hl hrd hvars hres ht (fun e => by rw [e, List.append_nil]; exact hsp) hW hle hst⟩


/-- A slice that is handed in. -/
theorem slice_in {H : Type} {enc : TypeId × Value → H} {P : Program} {W : World} {base : Nat} {t e : TypeId} {v : Value} {d : DataW H} {ps : List MemPlace} {α : Type} (ht : P.underlying t = some (.slice e)) (en : α → List Value) (good : α → Prop)
    (hel : ∀ fuel cs y, cs.length = P.cellsOf e → DataW.trod enc P W 0 (fun _ => true) true fuel e cs = some y → ∃ x, cs = en x ∧ good x) (henc : ∀ x, (en x).length = P.cellsOf e) (hv : Value.okWide P W .any base t v)
    (h : DataW.Trod enc P W 0 (fun _ => true) true t v d ps) : ∃ (l : Sl) (xs : List α), v = l.v ∧ Rw (whole W) (P.cellsOf e) en l xs ∧ l.len ≤ l.cap ∧ l.cap ≤ 9223372036854775807 ∧ (∀ x ∈ xs, good x) ∧ (l.len = 0 ∨ ∃ el sp, d = .slice el sp ∧ el.length = l.len) := by
  obtain ⟨a0, len0, cap0, rfl⟩ := okWide_slice ht hv
  obtain ⟨fuel, hf⟩ := h
  rcases DataW.trod_slice ht hf with ⟨h0, _⟩ | ⟨a, len, cap, elems, rest, n, _, h0, hd0, hb, hl, hm, hlen, hel', _, _⟩
  · simp [Value.cells] at h0
    obtain ⟨rfl, rfl, rfl⟩ := h0
    exact ⟨⟨none, 0, 0⟩, [], rfl, ⟨rfl, (by simp), .inl (by simp)⟩, Nat.le_refl _, (by simp), fun x hx => (by cases hx), .inl rfl⟩
  · simp [Value.cells] at h0
    obtain ⟨rfl, rfl, rfl⟩ := h0
    have each : ∀ i, i < len0 → ∃ x, good x ∧ LdIs (whole W) (a.add (i * P.cellsOf e)) (en x) := by
      intro i hi
      have h1 := hel' i hi
      have h2 : elems[i]? = some elems[i] := List.getElem?_eq_getElem (by omega)
      rw [h2] at h1
      cases hc : W.cells? 0 (a.add (i * P.cellsOf e)) (P.cellsOf e) with
      | none => rw [hc] at h1; cases h1
      | some cs =>
        rw [hc] at h1
        obtain ⟨_, hcl, hcc⟩ := World.cells?_some hc
        obtain ⟨x, hx, hg⟩ := hel n cs _ hcl h1
        refine ⟨x, hg, fun j v hj => ?_⟩
        have hjl : j < (en x).length := (List.getElem?_eq_some_iff.1 hj).1
        rw [hcell_whole, hcc j (by rw [← henc x]; exact hjl), hx]
        exact hj
    have build : ∀ m, m ≤ len0 → ∃ xs : List α, xs.length = m ∧ (∀ x ∈ xs, good x) ∧ ∀ i x, xs[i]? = some x → LdIs (whole W) (a.add (i * P.cellsOf e)) (en x) := by
      intro m
      induction m with
      | zero => intro _; exact ⟨[], rfl, fun x hx => (by cases hx), fun i x hx => (by simp at hx)⟩
      | succ m ih =>
        intro hm'
        obtain ⟨xs, h1, h2, h3⟩ := ih (by omega)
        obtain ⟨x, hg, hx⟩ := each m (by omega)
        refine ⟨xs ++ [x], by simp [h1], fun y hy => ?_, fun i y hy => ?_⟩
        · rcases List.mem_append.1 hy with hy | hy
          · exact h2 y hy
          · rw [List.mem_singleton.1 hy]; exact hg
        · by_cases hi : i < xs.length
          · rw [List.getElem?_append_left hi] at hy
            exact h3 i y hy
          · rw [List.getElem?_append_right (by omega)] at hy
            have : i - xs.length = 0 := by
              have := (List.getElem?_eq_some_iff.1 hy).1
              simp at this
              omega
            rw [this] at hy
            simp at hy
            subst hy
            have : i = m := by omega
            rw [this]
            exact hx
    obtain ⟨xs, h1, h2, h3⟩ := build len0 (Nat.le_refl _)
    refine ⟨⟨some a, len0, cap0⟩, xs, rfl, ⟨h1.symm, flat_len henc xs, .inr ⟨a, rfl, fun i v hv => ?_⟩⟩, hl, hm, h2, .inr ⟨_, _, (Prod.mk.inj hd0).1, by simp [hlen]⟩⟩
    obtain ⟨q, x, j, hq, hj, e1⟩ := flat_at henc xs i v hv
    rw [e1]
    rw [← add_add]
    exact h3 q x hq j v hj

theorem ints_in {H : Type} {enc : TypeId × Value → H} {P : Program} {W : World} {base : Nat} {t e : TypeId} {k : IntKind} {v : Value} {d : DataW H} {ps : List MemPlace} (ht : P.underlying t = some (.slice e)) (he : P.underlying e = some (.int k)) (hc : P.cellsOf e = 1) (hv : Value.okWide P W .any base t v)
    (h : DataW.Trod enc P W 0 (fun _ => true) true t v d ps) : ∃ (l : Sl) (xs : List Int), v = l.v ∧ Rs (whole W) (shInt k) 1 l xs ∧ l.len ≤ l.cap ∧ l.cap ≤ 9223372036854775807 ∧ ∀ x ∈ xs, (Lit.int k x).wf = true := by
  have key := slice_in (α := Int) ht (fun x => cellsL ((shInt k).enc x)) (fun x => (Lit.int k x).wf = true) (fun fuel cs y _ hy => ?_) (fun _ => by rw [hc]; rfl) hv h
  · rw [hc] at key
    obtain ⟨l, xs, h1, h2, h3, h4, h5, _⟩ := key
    exact ⟨l, xs, h1, h2, h3, h4, h5⟩
  · obtain ⟨n, hcs, _, hw⟩ := DataW.trod_int he hy
    exact ⟨n, hcs, hw⟩

theorem ints_inS {H : Type} {enc : TypeId × Value → H} {P : Program} {W : World} {base : Nat} {t e : TypeId} {k : IntKind} {v : Value} {d : DataW H} {ps : List MemPlace} (ht : P.underlying t = some (.slice e)) (he : P.underlying e = some (.int k)) (hc : P.cellsOf e = 1) (hv : Value.okWide P W .any base t v)
    (h : DataW.Trod enc P W 0 (fun _ => true) true t v d ps) : ∃ (l : Sl) (xs : List Int), v = l.v ∧ Rs (whole W) (shInt k) 1 l xs ∧ l.len ≤ l.cap ∧ l.cap ≤ 9223372036854775807 ∧ (∀ x ∈ xs, (Lit.int k x).wf = true) ∧ (l.len = 0 ∨ ∃ el sp, d = .slice el sp ∧ el.length = l.len) := by
  have key := slice_in (α := Int) ht (fun x => cellsL ((shInt k).enc x)) (fun x => (Lit.int k x).wf = true) (fun fuel cs y _ hy => ?_) (fun _ => by rw [hc]; rfl) hv h
  · rw [hc] at key
    exact key
  · obtain ⟨n, hcs, _, hw⟩ := DataW.trod_int he hy
    exact ⟨n, hcs, hw⟩

theorem inU_wf {x : Int} (h : (Lit.int .u64 x).wf = true) : 0 ≤ x ∧ x < 18446744073709551616 := by
  simp [Lit.wf, IntKind.min, IntKind.max, IntKind.signed, IntKind.bits] at h
  omega

theorem trod_fieldInt {H : Type} {enc : TypeId × Value → H} {P : Program} {W : World} {t : TypeId} {fs : Array Field} {fuel : Nat} {cs : List Value} {x : DataW H × List MemPlace} (ht : P.underlying t = some (.struct fs)) (h : DataW.trod enc P W 0 (fun _ => true) true fuel t cs = some x)
    {i : Nat} {f : Field} {k : IntKind} (hf : fs[i]? = some f) (hk : P.underlying f.type = some (.int k)) (hc : P.cellsOf f.type = 1) : ∃ n, cs[f.offset]? = some (.int k n) ∧ (Lit.int k n).wf = true := by
  obtain ⟨xs, n, _, _, hl, hlen, hfs⟩ := DataW.trod_struct ht h
  have h1 := hfs i f hf
  have hil : i < xs.length := by rw [hlen]; exact (Array.getElem?_eq_some_iff.1 hf).1
  rw [List.getElem?_eq_getElem hil, hc] at h1
  obtain ⟨m, hm, _, hw⟩ := DataW.trod_int hk h1
  refine ⟨m, ?_, hw⟩
  have : ((cs.drop f.offset).take 1)[0]? = some (.int k m) := by rw [hm]; rfl
  rw [List.getElem?_take] at this
  simpa using this

theorem inI_wf {x : Int} (h : (Lit.int .i64 x).wf = true) : -9223372036854775808 ≤ x ∧ x ≤ 9223372036854775807 := by
  simp [Lit.wf, IntKind.min, IntKind.max, IntKind.signed, IntKind.bits] at h
  omega

/-- How long a slice of that type may be. -/
theorem slice_size {H : Type} {P : Program} {ts : List TypeId} {ds : List (DataW H)} {j : Nat} {t e : TypeId} {d : DataW H} {l : Sl} {b : Nat} (h : (DataW.weightsEach P ts ds).all (· ≤ reachBytes) = true) (ht : ts[j]? = some t) (hd : ds[j]? = some d) (hu : P.underlying t = some (.slice e)) (hb : P.bytesOf e = b)
    (hs : l.len = 0 ∨ ∃ el sp, d = .slice el sp ∧ el.length = l.len) : l.len * b ≤ 140737488355328 := by
  rcases hs with h0 | ⟨el, sp, rfl, hl⟩
  · rw [h0]; omega
  · have h1 := sized_slice h ht hd hu
    rw [hb] at h1
    have h2 : el.length * b ≤ (el.length + sp.length) * b := Nat.mul_le_mul_right _ (by omega)
    rw [← hl]
    have h3 : reachBytes ≤ 140737488355328 := by decide
    omega

end Lf

/-
  From a call's text to a law's statement, of arguments that are not too many.
-/
namespace Lf
open Go Go.ChangeShapes Go.WideShapes Go.ChangeAt Go.RowKit

theorem law_upto {H : Type} {enc : TypeId × Value → H} {C : Checked} {os : Os} {f : FuncId} {fn : Func} {s : OpenSpec} {cs : ChangeSpec} {k : (H : Type) → List (DataW H) → Bool} (hk : s.cond = some k) {F : Stop.Interp} (hat : s.at F = cs) (hsv : s.vars = []) {t : TypeId}
    (own : ownKnob C.prog.godebug = none) (started : os.Started) (noInit : C.prog.inits.idxOf? f = none) (hf : C.prog.funcs[f]? = some fn)
    (witness : ∃ (w : World) (tape : Tape) (i : Input), w.os = os ∧ (w.forCall tape i).Shaped C.prog ∧ i.vars = [] ∧ Input.okWide C.prog (w.forCall tape i) .any w.heap.size f i ∧
      s.pre6 enc C.prog fn [] false (w.forCall tape i).memory i.args ∧ ({} : Assume).holds C.prog (lone (Frame.enter C.prog f i.args .normal) [] (w.forCall tape i)))
    (hl : laidOutB C.prog = true) (hrd : ∀ t ∈ fn.params.toList, C.prog.readableRec t = true ∧ t < C.prog.types.size) (hvars : cs.vars = []) (hres : fn.resultTypes = #[t]) (ht : C.prog.underlying t = some .bool)
    (walk : ∀ (W : World) (base : Nat) (args : Array Value) (ds : List (DataW H)) (p : List MemPlace), (∀ (j : Nat) t v, fn.params[j]? = some t → args[j]? = some v → Value.okWide C.prog W .any base t v) → DataW.TrodAll enc C.prog W 0 (fun _ => true) true fn.params.toList args.toList ds p →
      k H ds = true → cs.fn H ds = { results := [.lit (.bool true)], args := ds } ∧ CallT C.prog f args.toList shBool (fun r h' => r = true ∧ whole W ≤ h') (whole W)) :
    ReturnsInHanded {} C os f .any (s.pre6 enc C.prog fn [] false) ((s.at F).post enc C.prog fn false true false false) := by
  refine returnsInHanded_of_cond hk own started noInit hf witness ?_
  intro W base args ds gs before hval hW _ hkk _
  rw [hsv] at hW
  have hW0 := hW
  obtain ⟨p, q, hA, hV, _, hfz, hnd⟩ := hW0
  have hgs : gs = [] := (trodVars_none hV).1
  subst hgs
  rw [List.append_nil] at hkk
  obtain ⟨hsp, hc⟩ := walk W base args ds p hval hA hkk
  have hc' := hc W (whole_sub W)
  simp only [Array.toArray_toList] at hc'
  refine hc'.mono fun e W' hh => ?_
  obtain ⟨v, h', rfl, ⟨x, rfl, rfl, hle⟩, hst⟩ := hh
  rw [hat]
  exact ⟨_, rfl, law_post hl hrd hvars hres ht (fun e => by rw [List.append_nil]; exact hsp) (by rw [hvars]; exact hW) hle hst⟩

end Lf

