/-
  What a table tells, all of it.
-/
import Derived.Test.YtoffikpplbiohaaTbJ
import Derived.Test.YtoffikpplbiohaaLfCut
namespace Lf
open Go Go.Proofs

theorem asc_take {ys : List Int} (h : ys.Pairwise (· < ·)) (n : Nat) : (ys.take n).Pairwise (· < ·) := h.sublist (List.take_sublist n ys)

theorem effN {α : Type} {b : Bool} {A : (α → Hp → Prop) → Hp → Prop} {K : α → Hp → Prop} {h : Hp} (x : α) (hb : b = false) (hk : K x h) : EffC (some b) A K h := ⟨fun e => (by rw [hb] at e; cases e), fun _ => ⟨x, hk⟩⟩

theorem place_some {a : Int} : ∀ {ls : List Int} {j : Nat}, a ∈ ls → ∃ k, place a ls j = some k
  | x :: r, j, h => by
    simp only [place]
    by_cases e : a = x
    · exact ⟨j, by rw [if_pos e]⟩
    · rw [if_neg e]
      exact place_some ((List.mem_cons.1 h).resolve_left e)

set_option maxHeartbeats 1000000 in
theorem tableTells_ok {l asks numbers : Sl} {xs aks ns : List Int} {Q : Bool → Hp → Prop} {h : Hp} (rl : Us h l xs) (ra : Us h asks aks) (rn : Is h numbers ns) (cl : l.len ≤ l.cap) (ca : asks.len ≤ asks.cap) (cn : numbers.len ≤ numbers.cap)
    (hx : ∀ x ∈ xs, InU x) (has : ∀ x ∈ aks, InU x) (hq : ∀ h', h ≤ h' → Q true h') : firebreaklaw02_TableTells_w Try.prog l asks numbers Q h := by
  unfold firebreaklaw02_TableTells_w
  have hll := rl.1
  have hal := ra.1
  have hnl := rn.1
  have m1 := @min2_le (l.len : Int) 300
  have m2 := @min2_le (numbers.len : Int) 100
  have m3 := @min2_le (asks.len : Int) 100
  refine firebreaklaw02_awake_call (awake_ok fun h1 l1 => ?_)
  rw [if_neg (by simp)]
  refine ⟨by omega, letW ?_⟩
  refine firebreakref02_Canon_call (canon_ok (xs := xs.take (min2I (l.len : Int) 300).toNat) (Rw.head (rl.mono l1) (fun _ => rfl) (by omega) (by omega) (by omega)) (by rw [List.length_take]; omega) fun r1 ys h2 l2 o2 asc hmem => ?_)
  have hr1 := o2.1
  have hr1c := o2.2.1
  have m4 := @min2_le (r1.len : Int) 8
  refine ⟨by omega, letW ?_⟩
  have ry2 : Us h2 ⟨sbase r1.base 1 0 r1.cap, (min2I (r1.len : Int) 8).toNat - 0, r1.cap - 0⟩ (ys.take (min2I (r1.len : Int) 8).toNat) := Rw.head (o2.rw fun _ => rfl) (fun _ => rfl) (by omega) (by omega) (by omega)
  have hcl : (ys.take (min2I (r1.len : Int) 8).toNat).length ≤ 8 := by rw [List.length_take]; omega
  have hca := asc_take asc (min2I (r1.len : Int) 8).toNat
  have hcu : ∀ x ∈ ys.take (min2I (r1.len : Int) 8).toNat, InU x := fun x hm => hx x (List.mem_of_mem_take (hmem x (List.mem_of_mem_take hm)))
  generalize ys.take (min2I (r1.len : Int) 8).toNat = c at ry2 hcl hca hcu
  generalize (⟨sbase r1.base 1 0 r1.cap, (min2I (r1.len : Int) 8).toNat - 0, r1.cap - 0⟩ : Sl) = y1 at ry2
  have hy1 := ry2.1
  refine firebreaklaw02_wide_call (wide_ok ry2 (by omega) fun r2 h3 l3 rw3 => ?_)
  refine table_New_call (new_ok rw3 hcl hca (fun e => ?_) fun hne p h4 l4 t4 => ?_)
  · rw [e] at hy1
    rw [if_pos (by simp [hy1])]
    exact letW (hq _ (Hp.le_trans l1 (Hp.le_trans l2 l3)))
  have hc0 : c.length ≠ 0 := fun e => hne (List.length_eq_zero_iff.1 e)
  rw [if_neg (show ¬ (((y1.len : Int) == 0) = true) by simp; omega)]
  refine letW ?_
  refine effT (table_Table_Len_call (tabLen_ok t4 ?_))
  refine letW ?_
  rw [if_neg (by simp [hy1])]
  refine new_row (xs := ([-2, -1, 0, 1, 2, 3, 4, 5, 6, 7, 8, 9] : List Int)) (enc := fun x => cellsL ((shInt .i64).enc x)) (sz := 1) (h0 := h4) (Hp.le_refl h4) rfl (fun _ => rfl) fun a6 h6 l6 o6 => ?_
  refine ⟨by omega, letW ?_⟩
  have l06 : h ≤ h6 := Hp.le_trans l1 (Hp.le_trans l2 (Hp.le_trans l3 (Hp.le_trans l4 l6)))
  have ry4 : Is h6 ⟨sbase numbers.base 1 0 numbers.cap, (min2I (numbers.len : Int) 100).toNat - 0, numbers.cap - 0⟩ (ns.take (min2I (numbers.len : Int) 100).toNat) := Rw.head (rn.mono l06) (fun _ => rfl) (by omega) (by omega) (by omega)
  have hn4 : (ns.take (min2I (numbers.len : Int) 100).toNat).length ≤ 100 := by rw [List.length_take]; omega
  generalize ns.take (min2I (numbers.len : Int) 100).toNat = ns4 at ry4 hn4
  refine app_own (l := ⟨some a6, 12, 12⟩) l6 o6 ry4 (fun _ => rfl) (fun _ => rfl) rfl (by simp; omega) fun r7 h7 l7 o7 _ => ?_
  have r7r : Is h7 r7 ([-2, -1, 0, 1, 2, 3, 4, 5, 6, 7, 8, 9] ++ ns4) := o7.rw fun _ => rfl
  have hlen7 : ([-2, -1, 0, 1, 2, 3, 4, 5, 6, 7, 8, 9] ++ ns4 : List Int).length ≤ 112 := by simp; omega
  generalize ([-2, -1, 0, 1, 2, 3, 4, 5, 6, 7, 8, 9] ++ ns4 : List Int) = zs at r7r hlen7
  have hr7 := r7r.1
  have t7 := t4.mono l7
  have ry7 : Us h7 y1 c := ry2.mono (Hp.le_trans l3 (Hp.le_trans l4 l7))
  have l07 : h ≤ h7 := Hp.le_trans l1 (Hp.le_trans l2 (Hp.le_trans l3 (Hp.le_trans l4 l7)))
  refine LoopW1.intro (fun i k => h7 ≤ k ∧ 0 ≤ i ∧ i ≤ (zs.length : Int)) (fun i _ => (zs.length - i).toNat) ⟨Hp.le_refl h7, by omega, by omega⟩ ?_
  rintro i k ⟨hk, hi0, hi1⟩
  have tk := t7.mono hk
  have rck : Us k y1 c := ry7.mono hk
  have rzk : Is k r7 zs := r7r.mono hk
  split
  · rename_i e
    have e : i < (r7.len : Int) := by simpa using e
    refine Rs.get rzk (fun _ => rfl) (by omega) hi0 (by omega) fun (x : Int) _ => ?_
    have hxl : (y1.len : Int) = (c.length : Int) := by omega
    refine table_Table_Label_call (tabLabel_ok tk (fun hno => ?a) (fun v hin hv => ?b))
    case' a =>
      refine letW ?_
      have e5 : (decide (x ≥ 0) && decide (x < (y1.len : Int))) = false := by simp; omega
      rw [e5]
      refine Rs.getC rck (0 : Int) (fun _ => rfl) (by omega) (fun e => by simp at e) fun (x1 : Int) _ => ?_
      refine letW (letW (letW (letW (letW ?_))))
      have e10 : ((false && (((2 : Int) != 0) || ((0 : Int) != x1))) || (!false && (((2 : Int) != 2) || ((0 : Int) != 0)))) = false := by simp
      rw [e10]
    case' b =>
      refine letW ?_
      have e5 : (decide (x ≥ 0) && decide (x < (y1.len : Int))) = true := by simp; omega
      rw [e5]
      refine Rs.getC rck (0 : Int) (fun _ => rfl) (by omega) (fun e => by omega) fun (x1 : Int) hx1 => ?_
      have hx1' := hx1 rfl
      rw [hv] at hx1'
      cases hx1'
      refine letW (letW (letW (letW (letW ?_))))
      have e10 : ((true && (((0 : Int) != 0) || (v != v))) || (!true && (((0 : Int) != 2) || (v != 0)))) = false := by simp
      rw [e10]
    all_goals
      refine effT (table_Table_Up_call (tabUp_ok tk hcu (by omega) fun out h10 l10 o10 => ?_))
      refine effT (firebreakref02_Up_call (refUp_ok (rck.mono l10) hcu (by omega) fun out2 h11 l11 o11 => ?_))
      refine effT (firebreakref02_SameInts_call (sameInts_ok (Rw.mono l11 (o10.rw fun _ => rfl)) (o11.rw fun _ => rfl) (Nat.le_trans (those_len _ _) (by omega)) ?_))
      refine letW ?_
      rw [if_neg (by simp)]
      have l12 := Hp.le_trans l10 l11
      have t12 := tk.mono l12
      have r12 : Us h11 y1 c := rck.mono l12
      refine LoopW1.intro (fun j k' => k' = h11 ∧ -1 ≤ j ∧ j ≤ 9) (fun j _ => (9 - j).toNat) ⟨rfl, by omega, by omega⟩ ?_
      rintro j k' ⟨rfl, hj0, hj1⟩
      split
      · rename_i ej
        have ej : j < 9 := by simpa using ej
        refine table_Table_Flows_call (tabFlows_ok t12 hcu ?_)
        refine firebreakref02_Flows_call (refFlows2_ok r12 hcu ?_)
        refine effB (by simp) ?_
        refine table_Table_Flows_call (tabFlows_ok t12 hcu ?_)
        refine effB (by simp) ?_
        refine firebreakref02_Flows_call (refFlows2_ok r12 hcu ?_)
        refine letW ?_
        rw [if_neg (by simp), wrap64 (by omega) (by omega)]
        exact ⟨⟨rfl, by omega, by omega⟩, by omega⟩
      · rw [wrap64 (by omega) (by omega)]
        exact ⟨⟨Hp.le_trans hk l12, by omega, by omega⟩, by omega⟩
  · clear hi0 hi1 rzk
    refine LoopW1.intro (fun i k' => k' = k ∧ 0 ≤ i ∧ i ≤ (c.length : Int)) (fun i _ => (c.length - i).toNat) ⟨rfl, by omega, by omega⟩ ?_
    rintro i k' ⟨rfl, hi0, hi1⟩
    split
    · rename_i e
      have e : i < (y1.len : Int) := by simpa using e
      refine Rs.get rck (fun _ => rfl) (by omega) hi0 (by omega) fun (x : Int) hx => ?_
      refine table_Table_Index_call (tabIndex_ok tk (fun hn => ?_) fun m hm => ?_)
      · obtain ⟨m, hm⟩ := place_some (j := 0) (List.mem_of_getElem? hx)
        rw [hn] at hm; cases hm
      · obtain ⟨_, hg⟩ := place_get hm
        have hml := (List.getElem?_eq_some_iff.1 hg).1
        refine letW (letW ?_)
        have e6 : ((!true || decide ((m : Int) < 0)) || decide ((m : Int) ≥ (y1.len : Int))) = false := by simp; omega
        rw [e6]
        refine Rs.getC rck (0 : Int) (fun _ => rfl) (by omega) (fun e => by omega) fun (x1 : Int) hx1 => ?_
        have hx1' := hx1 rfl
        have hmm : (m : Int).toNat = m - 0 := by omega
        rw [hmm, hg] at hx1'
        cases hx1'
        refine letW ?_
        rw [if_neg (by simp), wrap64 (by omega) (by omega)]
        exact ⟨⟨rfl, by omega, by omega⟩, by omega⟩
    · clear hi0 hi1
      refine ⟨by omega, letW ?_⟩
      have ry5 : Us k' ⟨sbase asks.base 1 0 asks.cap, (min2I (asks.len : Int) 100).toNat - 0, asks.cap - 0⟩ (aks.take (min2I (asks.len : Int) 100).toNat) := Rw.head (ra.mono (Hp.le_trans l07 hk)) (fun _ => rfl) (by omega) (by omega) (by omega)
      have h5u : ∀ x ∈ aks.take (min2I (asks.len : Int) 100).toNat, InU x := fun x hm => has x (List.mem_of_mem_take hm)
      generalize aks.take (min2I (asks.len : Int) 100).toNat = as5 at ry5 h5u
      have hl5 : as5.length ≤ 100 := by
        have := ry5.1
        simp at this
        omega
      generalize (⟨sbase asks.base 1 0 asks.cap, (min2I (asks.len : Int) 100).toNat - 0, asks.cap - 0⟩ : Sl) = y5 at ry5
      have hy5 := ry5.1
      refine LoopW1.intro (fun i k => k' ≤ k ∧ 0 ≤ i ∧ i ≤ (as5.length : Int)) (fun i _ => (as5.length - i).toNat) ⟨Hp.le_refl k', by omega, by omega⟩ ?_
      rintro i k hk5 
      obtain ⟨hk5, hi0, hi1⟩ := hk5
      have t5 := tk.mono hk5
      have r5 : Us k y1 c := rck.mono hk5
      have ra5 : Us k y5 as5 := ry5.mono hk5
      split
      · rename_i e
        have e : i < (y5.len : Int) := by simpa using e
        refine Rs.get ra5 (fun _ => rfl) (by omega) hi0 (by omega) fun (x : Int) hx => ?_
        have hxu := h5u x (List.mem_of_getElem? hx)
        refine table_Table_Index_call (tabIndex_ok t5 (fun hn => ?_) fun m hm => ?_)
        · refine firebreakref02_Index_call (refIndex_ok r5 (by omega) (fun _ => ?_) fun m' hm' => ?_)
          · refine letW ?_
            refine effT (table_Table_Down_call (tabDown_ok t5 hcu hxu (by omega) fun out h10 l10 o10 => ?_))
            refine effT (firebreakref02_Down_call (refDown_ok (r5.mono l10) hcu hxu (by omega) fun out2 h11 l11 o11 => ?_))
            refine effT (firebreakref02_SameInts_call (sameInts_ok (Rw.mono l11 (o10.rw fun _ => rfl)) (o11.rw fun _ => rfl) (Nat.le_trans (those_len _ _) (by omega)) ?_))
            refine letW ?_
            rw [if_neg (by simp), wrap64 (by omega) (by omega)]
            exact ⟨⟨Hp.le_trans hk5 (Hp.le_trans l10 l11), by omega, by omega⟩, by omega⟩
          · rw [hn] at hm'; cases hm'
        · refine firebreakref02_Index_call (refIndex_ok r5 (by omega) (fun hn => ?_) fun m' hm' => ?_)
          · rw [hn] at hm; cases hm
          · rw [hm] at hm'
            cases hm'
            refine letW ?_
            refine effB (by simp) (table_Table_Down_call (tabDown_ok t5 hcu hxu (by omega) fun out h10 l10 o10 => ?_))
            refine effB (by simp) (firebreakref02_Down_call (refDown_ok (r5.mono l10) hcu hxu (by omega) fun out2 h11 l11 o11 => ?_))
            refine effB (by simp) (firebreakref02_SameInts_call (sameInts_ok (Rw.mono l11 (o10.rw fun _ => rfl)) (o11.rw fun _ => rfl) (Nat.le_trans (those_len _ _) (by omega)) ?_))
            refine letW ?_
            rw [if_neg (by simp), wrap64 (by omega) (by omega)]
            exact ⟨⟨Hp.le_trans hk5 (Hp.le_trans l10 l11), by omega, by omega⟩, by omega⟩
      · exact hq _ (Hp.le_trans l07 (Hp.le_trans hk hk5))

end Lf
