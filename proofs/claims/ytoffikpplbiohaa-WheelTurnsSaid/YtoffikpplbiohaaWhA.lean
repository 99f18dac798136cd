/-
  The wheel's order, and the search in a list that is in order.
-/
import Derived.Test.YtoffikpplbiohaaLfSlices
import Derived.Test.YtoffikpplbiohaaLfKv
import Derived.Test.YtoffikpplbiohaaLfCall0
import Derived.Test.YtoffikpplbiohaaLfCall1
import Derived.Test.YtoffikpplbiohaaLfCall2
namespace Lf
open Go Go.Proofs

abbrev eE : S_wheel_entry → List Value := fun x => cellsL (sh_wheel_entry.enc x)

def ltE (a b : S_wheel_entry) : Prop := a.due < b.due ∨ a.due = b.due ∧ a.id_ < b.id_

theorem ltE_irr (a : S_wheel_entry) : ¬ ltE a a := by unfold ltE; omega
theorem ltE_tr {a b c : S_wheel_entry} (h : ltE a b) (k : ltE b c) : ltE a c := by unfold ltE at *; omega
theorem ltE_tot {a b : S_wheel_entry} (h : ¬ ltE a b) (hne : a ≠ b) : ltE b a := by
  unfold ltE at *
  by_cases h1 : a.due = b.due
  · by_cases h2 : a.id_ = b.id_
    · exact absurd (by cases a; cases b; simp at h1 h2; simp [h1, h2]) hne
    · omega
  · omega

def cmpI (x y : Int) : Int := if x < y then -1 else if x > y then 1 else 0

theorem cmp64_ok {x y : Int} {Q : Int → Hp → Prop} {h : Hp} (hq : Q (cmpI x y) h) : cmp_Compare_int64_w Try.prog x y Q h := by
  unfold cmp_Compare_int64_w
  refine cmp_isNaN_int64_call ?_
  unfold cmp_isNaN_int64_w
  refine cmp_isNaN_int64_call ?_
  unfold cmp_isNaN_int64_w
  dsimp only
  rw [if_neg (by simp), if_neg (by simp)]
  unfold cmpI at hq
  by_cases h1 : x < y
  · rw [if_pos (by simpa using h1)]
    rw [if_pos h1] at hq; exact hq
  · rw [if_neg (by simpa using h1)]
    rw [if_neg h1] at hq
    by_cases h2 : x > y
    · rw [if_pos (by simpa using h2)]
      rw [if_pos h2] at hq; exact hq
    · rw [if_neg (by simpa using h2)]
      rw [if_neg h2] at hq; exact hq

theorem cmpInt_ok {x y : Int} {Q : Int → Hp → Prop} {h : Hp} (hq : Q (cmpI x y) h) : cmp_Compare_int_w Try.prog x y Q h := by
  unfold cmp_Compare_int_w
  refine cmp_isNaN_int_call ?_
  unfold cmp_isNaN_int_w
  refine cmp_isNaN_int_call ?_
  unfold cmp_isNaN_int_w
  dsimp only
  rw [if_neg (by simp), if_neg (by simp)]
  unfold cmpI at hq
  by_cases h1 : x < y
  · rw [if_pos (by simpa using h1)]
    rw [if_pos h1] at hq; exact hq
  · rw [if_neg (by simpa using h1)]
    rw [if_neg h1] at hq
    by_cases h2 : x > y
    · rw [if_pos (by simpa using h2)]
      rw [if_pos h2] at hq; exact hq
    · rw [if_neg (by simpa using h2)]
      rw [if_neg h2] at hq; exact hq

theorem or2_ok {l : Sl} {u v : Int} {Q : Int → Hp → Prop} {h : Hp} (r : Rs h (shInt .i64) 1 l [u, v]) (hq : Q (if u ≠ 0 then u else v) h) : cmp_Or_int_w Try.prog l Q h := by
  unfold cmp_Or_int_w
  have hl := r.1
  simp at hl
  refine LoopW1.intro (fun i k => k = h ∧ (i = 0 ∨ (i = 1 ∧ u = 0) ∨ (i = 2 ∧ u = 0 ∧ v = 0))) (fun i _ => (2 - i).toNat) ⟨rfl, .inl rfl⟩ ?_
  rintro i k ⟨rfl, hi⟩
  have w : IntKind.wrap .i64 (i + 1) = i + 1 := wrap64 (by omega) (by omega)
  rw [w]
  by_cases h2 : i = 2
  · rw [if_neg (show ¬ (decide (i < (l.len : Int)) = true) by simp; omega)]
    have hu : u = 0 := by omega
    have hv : v = 0 := by omega
    rw [hu, hv] at hq
    exact hq
  · rw [if_pos (show decide (i < (l.len : Int)) = true by simp; omega)]
    refine Rs.get r (fun _ => rfl) (by omega) (by omega) (by simp; omega) fun (x : Int) hx => ?_
    rcases hi with rfl | ⟨rfl, hu⟩ | ⟨rfl, _⟩
    · have : u = x := by simpa using hx
      subst this
      by_cases h0 : u = 0
      · rw [if_neg (by simpa using h0)]
        exact ⟨⟨rfl, .inr (.inl ⟨rfl, h0⟩)⟩, by decide⟩
      · rw [if_pos (by simpa using h0)]
        rw [if_pos h0] at hq
        exact hq
    · have : v = x := by simpa using hx
      subst this
      rw [if_neg (by simpa using hu)] at hq
      by_cases h0 : v = 0
      · rw [if_neg (by simpa using h0)]
        exact ⟨⟨rfl, .inr (.inr ⟨rfl, hu, h0⟩)⟩, by decide⟩
      · rw [if_pos (by simpa using h0)]
        exact hq
    · exact absurd rfl h2

def ordE (a b : S_wheel_entry) : Int := if cmpI a.due b.due ≠ 0 then cmpI a.due b.due else cmpI a.id_ b.id_

theorem ordE_lt {a b : S_wheel_entry} : ordE a b < 0 ↔ ltE a b := by
  unfold ordE cmpI ltE
  split <;> (repeat' split) <;> simp_all <;> omega

theorem order_ok {a b : S_wheel_entry} {Q : Int → Hp → Prop} {h : Hp} (hq : ∀ h', h ≤ h' → Q (ordE a b) h') : wheel_order_w Try.prog a b Q h := by
  unfold wheel_order_w
  refine cmp_Compare_int64_call (cmp64_ok ⟨⟨trivial, trivial, trivial⟩, ?_⟩)
  refine cmp_Compare_int_call (cmpInt_ok ?_)
  refine new_row (xs := ([cmpI a.due b.due, cmpI a.id_ b.id_] : List Int)) (enc := fun x => cellsL ((shInt .i64).enc x)) (sz := 1) (Hp.le_refl h) rfl (fun _ => rfl) fun a1 h1 l1 o1 => ?_
  exact cmp_Or_int_call (vals := ⟨some a1, 2, 2⟩) (or2_ok (o1.rw fun _ => rfl) (hq h1 l1))

theorem mid_eq {i j : Int} (h0 : 0 ≤ i) (h1 : 0 ≤ j) (h2 : i + j < 9223372036854775808) : IntKind.wrap .i64 (shrI .u64 (IntKind.wrap .u64 (IntKind.wrap .i64 (i + j))) 1) = (i + j) / 2 := by
  rw [wrap64 (by omega) h2]
  have e1 : IntKind.wrap .u64 (i + j) = i + j := by
    unfold IntKind.wrap
    simp only [IntKind.signed, IntKind.bits]
    first | omega | (simp; omega)
  rw [e1]
  have e2 : shrI .u64 (i + j) 1 = (i + j) / 2 := by
    unfold shrI
    have : min (1 : Int).toNat (IntKind.bits .u64) = 1 := by decide
    rw [this, Int.fdiv_eq_ediv_of_nonneg _ (by decide)]
    rfl
  rw [e2, wrap64 (by omega) (by omega)]

theorem search_ok {x : Sl} {es : List S_wheel_entry} {tgt : S_wheel_entry} {Q : Int → Bool → Hp → Prop} {h : Hp} (r : Rw h 2 eE x es) (hl : es.length ≤ 4398046511104) (hs : es.Pairwise ltE)
    (hq : ∀ (i : Nat) b h', h ≤ h' → i ≤ es.length → (∀ e ∈ es.take i, ltE e tgt) → (∀ e ∈ es.drop i, ¬ ltE e tgt) → Q (i : Int) b h') :
    slices_BinarySearchFunc_wheel_entry_wheel_entry_wheel_entry_w Try.prog x tgt ⟨.func (.func 51) #[] #[], rfl⟩ Q h := by
  unfold slices_BinarySearchFunc_wheel_entry_wheel_entry_wheel_entry_w
  have hxl := r.1
  refine LoopW2.intro (fun i j k => h ≤ k ∧ 0 ≤ i ∧ i ≤ j ∧ j ≤ (es.length : Int) ∧ (∀ e ∈ es.take i.toNat, ltE e tgt) ∧ (∀ e ∈ es.drop j.toNat, ¬ ltE e tgt)) (fun i j _ => (j - i).toNat) ⟨Hp.le_refl h, by omega, by omega, by omega, fun e he => by simp at he, fun e he => by simp [hxl] at he⟩ ?_
  rintro i j k ⟨hk, hi0, hij, hj, hlo, hhi⟩
  have rk := r.mono hk
  split
  · rename_i e
    have e : i < j := by simpa using e
    rw [mid_eq hi0 (by omega) (by omega)]
    have hm1 : i ≤ (i + j) / 2 := by omega
    have hm2 : (i + j) / 2 < j := by omega
    generalize (i + j) / 2 = m at hm1 hm2
    refine JoinW2.intro (fun i' j' k' => h ≤ k' ∧ 0 ≤ i' ∧ i' ≤ j' ∧ j' ≤ (es.length : Int) ∧ (∀ e ∈ es.take i'.toNat, ltE e tgt) ∧ (∀ e ∈ es.drop j'.toNat, ¬ ltE e tgt) ∧ j' - i' < j - i) ?_ ?_
    · refine ⟨by omega, ?_⟩
      refine Rs.get (sh := sh_wheel_entry) rk (fun _ => rfl) (by omega) (by omega) (by omega) fun (x1 : S_wheel_entry) hx1 => ?_
      refine ⟨51, #[], #[], rfl, rfl, wheel_order_call (a := x1) (b := tgt) (order_ok fun h' l' => ?_)⟩
      obtain ⟨hml, hmx⟩ := List.getElem?_eq_some_iff.1 hx1
      by_cases ho : ordE x1 tgt < 0
      · rw [if_pos (by simpa using ho), wrap64 (by omega) (by omega)]
        have hlt := ordE_lt.1 ho
        refine ⟨Hp.le_trans hk l', by omega, by omega, hj, fun y hy => ?_, hhi, by omega⟩
        have : (m + 1).toNat = m.toNat + 1 := by omega
        rw [this, List.take_add_one, hx1] at hy
        rcases List.mem_append.1 hy with hy | hy
        · obtain ⟨q, hq'⟩ := List.mem_iff_getElem?.1 hy
          rw [List.getElem?_take] at hq'
          split at hq'
          · rename_i hqm
            obtain ⟨hql, hqx⟩ := List.getElem?_eq_some_iff.1 hq'
            have := List.pairwise_iff_getElem.1 hs q m.toNat hql hml hqm
            rw [hqx, hmx] at this
            exact ltE_tr this hlt
          · cases hq'
        · have : y = x1 := by simpa using hy
          rw [this]; exact hlt
      · rw [if_neg (by simpa using ho)]
        have hlt : ¬ ltE x1 tgt := fun h => ho (ordE_lt.2 h)
        refine ⟨Hp.le_trans hk l', hi0, hm1, by omega, hlo, fun y hy => ?_, by omega⟩
        obtain ⟨q, hq'⟩ := List.mem_iff_getElem?.1 hy
        rw [List.getElem?_drop] at hq'
        obtain ⟨hql, hqx⟩ := List.getElem?_eq_some_iff.1 hq'
        by_cases hq0 : q = 0
        · subst hq0
          rw [Nat.add_zero, hx1] at hq'
          cases hq'
          exact hlt
        · have := List.pairwise_iff_getElem.1 hs m.toNat (m.toNat + q) hml hql (by omega)
          rw [hqx, hmx] at this
          exact fun hy => hlt (ltE_tr this hy)
    · rintro i' j' k' ⟨h1, h2, h3, h4, h5, h6, h7⟩
      exact ⟨⟨h1, h2, h3, h4, h5, h6⟩, by omega⟩
  · rename_i e
    have e : ¬ i < j := by simpa using e
    have hje : j = i := by omega
    subst hje
    have hjn : (j.toNat : Int) = j := by omega
    have hfin : ∀ b h', k ≤ h' → Q j b h' := fun b h' hl => by
      have := hq j.toNat b h' (Hp.le_trans hk hl) (by omega) hlo hhi
      rw [hjn] at this
      exact this
    cases hc : decide (j < (x.len : Int)) with
    | false =>
      refine Rs.getC (sh := sh_wheel_entry) rk (⟨0, 0⟩ : S_wheel_entry) (fun _ => rfl) (by omega) (fun e => by cases e) fun (x1 : S_wheel_entry) _ => ?_
      exact ⟨fun e => (by cases e), fun _ => ⟨0, letW (hfin _ k (Hp.le_refl k))⟩⟩
    | true =>
      have hc' : j < (x.len : Int) := by simpa using hc
      refine Rs.getC (sh := sh_wheel_entry) rk (⟨0, 0⟩ : S_wheel_entry) (fun _ => rfl) (by omega) (fun _ => by omega) fun (x1 : S_wheel_entry) _ => ?_
      refine effT ⟨51, #[], #[], rfl, rfl, wheel_order_call (a := x1) (b := tgt) (order_ok fun h' l' => letW (hfin _ h' l'))⟩

end Lf
