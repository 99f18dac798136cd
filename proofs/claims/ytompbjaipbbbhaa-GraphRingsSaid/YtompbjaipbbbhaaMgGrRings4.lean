/-
  Part 5 of the texts that the claim leans on.
-/
import Derived.Sort.LotD1
import Derived.Laws.StructEq
import Derived.DeepKeys
import Derived.ProofKit
import Derived.SizedLaws
import Derived.Test.YtompbjaipbbbhaaMgGrRings3
/-
  The library's sort: both partitions.
-/
namespace Lf.Soint
open Go Go.Proofs Go.Sort

/-- In the middle of a partition: all ahead of i are less than the one at a, none behind j is. -/
structure Pt (a b : Nat) (d d' : Array Int) (i j : Int) : Prop where
  p : PermIn a b d d'
  i0 : (a : Int) < i
  ij : i ≤ j + 1
  jb : j < (b : Int)
  lo : ∀ x : Nat, a < x → (x : Int) < i → ltInt d'[x]! d'[a]! = true
  hi : ∀ x : Nat, j < (x : Int) → x < b → ltInt d'[x]! d'[a]! = false

set_option maxHeartbeats 1000000 in
/-- Both scans: up to one that is not less, down to one that is. -/
theorem scan_ok {k : Hp} {data : Sl} {d d' : Array Int} {F : List Nat} {a b : Nat} {i0 j0 : Int} {K : Int → Int → Hp → Prop} (o : DA k data d' F) (hb : b ≤ d'.size) (hs : d'.size ≤ 140737488355328) (v : Pt a b d d' i0 j0)
    (hk : ∀ i j, Pt a b d d' i j → i0 ≤ i → j ≤ j0 → (i ≤ j → ltInt d'[i.toNat]! d'[a]! = false ∧ ltInt d'[j.toNat]! d'[a]! = true) → K i j k) :
    LoopW1 (α1 := Int) (fun again i h3 =>
 (((decide (i ≤ j0)) = true → (InB data.base data.len i)) ∧ LdW (some (decide (i ≤ j0))) (shInt .i64) h3 (sat data.base 1 i) fun x2 =>
 (((decide (i ≤ j0)) = true → (InB data.base data.len (a : Int))) ∧ LdW (some (decide (i ≤ j0))) (shInt .i64) h3 (sat data.base 1 (a : Int)) fun x3 =>
 EffC (some (decide (i ≤ j0))) (CallT Try.prog n_cmp_Less_int [(.int .i64 x2), (.int .i64 x3)] shBool) (fun r h4 =>
 LetW ((decide (i ≤ j0)) && r) fun y =>
 (if y = true then
 again (IntKind.wrap .i64 (i + (1 : Int))) h4
 else
 LoopW1 (α1 := Int) (fun again1 j h5 =>
 (((decide (i ≤ j)) = true → (InB data.base data.len j)) ∧ LdW (some (decide (i ≤ j))) (shInt .i64) h5 (sat data.base 1 j) fun x4 =>
 (((decide (i ≤ j)) = true → (InB data.base data.len (a : Int))) ∧ LdW (some (decide (i ≤ j))) (shInt .i64) h5 (sat data.base 1 (a : Int)) fun x5 =>
 EffC (some (decide (i ≤ j))) (CallT Try.prog n_cmp_Less_int [(.int .i64 x4), (.int .i64 x5)] shBool) (fun r1 h6 =>
 LetW ((decide (i ≤ j)) && (!r1)) fun y1 =>
 (if y1 = true then
 again1 (IntKind.wrap .i64 (j - (1 : Int))) h6
 else K i j h6)) h5))) j0 h4)) h3))) i0 k := by
  have v0 := v
  obtain ⟨_, w1, w2, w3, _, _⟩ := v0
  refine LoopW1.intro (fun i k' => k' = k ∧ i0 ≤ i ∧ Pt a b d d' i j0) (fun i _ => (j0 + 1 - i).toNat) ⟨rfl, by omega, v⟩ ?_
  rintro i k' ⟨rfl, hi0, vi⟩
  obtain ⟨vp, v1, v2, v3, v4, v5⟩ := id vi
  have hat : ((a : Nat) : Int).toNat = a := by omega
  have inner : (i ≤ j0 → ltInt d'[i.toNat]! d'[a]! = false) → LoopW1 (α1 := Int) (fun again1 j h5 =>
 (((decide (i ≤ j)) = true → (InB data.base data.len j)) ∧ LdW (some (decide (i ≤ j))) (shInt .i64) h5 (sat data.base 1 j) fun x4 =>
 (((decide (i ≤ j)) = true → (InB data.base data.len (a : Int))) ∧ LdW (some (decide (i ≤ j))) (shInt .i64) h5 (sat data.base 1 (a : Int)) fun x5 =>
 EffC (some (decide (i ≤ j))) (CallT Try.prog n_cmp_Less_int [(.int .i64 x4), (.int .i64 x5)] shBool) (fun r1 h6 =>
 LetW ((decide (i ≤ j)) && (!r1)) fun y1 =>
 (if y1 = true then
 again1 (IntKind.wrap .i64 (j - (1 : Int))) h6
 else K i j h6)) h5))) j0 k' := by
    intro hstop
    refine LoopW1.intro (fun j k2 => k2 = k' ∧ j ≤ j0 ∧ Pt a b d d' i j) (fun j _ => (j + 1 - i).toNat) ⟨rfl, by omega, vi⟩ ?_
    rintro j k2 ⟨rfl, hj0, vj⟩
    obtain ⟨_, u1, u2, u3, u4, u5⟩ := id vj
    refine da_getC o (fun hc => ?_) fun x hx => ?_
    · have : i ≤ j := by simpa using hc
      omega
    refine da_getC o (fun hc => ?_) fun x1 hx1 => ?_
    · omega
    rw [hat] at hx1
    by_cases hij : i ≤ j
    · have hc : decide (i ≤ j) = true := by simpa using hij
      refine ⟨fun _ => cmp_Less_int_call (less_ok ?_), fun e => (by rw [hc] at e; cases e)⟩
      refine letW ?_
      rw [hc, Bool.true_and, hx hc, hx1 hc]
      cases hl : ltInt d'[j.toNat]! d'[a]! with
      | false =>
        rw [if_pos (by rfl), wrap64 (by omega) (by omega)]
        refine ⟨⟨rfl, by omega, ⟨vp, u1, by omega, by omega, u4, fun x hx hxb => ?_⟩⟩, by omega⟩
        by_cases hxj : (x : Int) = j
        · have : x = j.toNat := by omega
          rw [this]; exact hl
        · exact u5 x (by omega) hxb
      | true =>
        rw [if_neg (by simp)]
        exact hk i j vj hi0 hj0 fun _ => ⟨hstop (by omega), hl⟩
    · have hc : decide (i ≤ j) = false := by simpa using hij
      refine ⟨fun e => (by rw [hc] at e; cases e), fun _ => ⟨false, letW ?_⟩⟩
      rw [hc, Bool.false_and, if_neg (by simp)]
      exact hk i j vj hi0 hj0 fun hh => absurd hh hij
  refine da_getC o (fun hc => ?_) fun x hx => ?_
  · have : i ≤ j0 := by simpa using hc
    omega
  refine da_getC o (fun hc => ?_) fun x1 hx1 => ?_
  · omega
  rw [hat] at hx1
  by_cases hij : i ≤ j0
  · have hc : decide (i ≤ j0) = true := by simpa using hij
    refine ⟨fun _ => cmp_Less_int_call (less_ok ?_), fun e => (by rw [hc] at e; cases e)⟩
    refine letW ?_
    rw [hc, Bool.true_and, hx hc, hx1 hc]
    cases hl : ltInt d'[i.toNat]! d'[a]! with
    | true =>
      rw [if_pos rfl, wrap64 (by omega) (by omega)]
      refine ⟨⟨rfl, by omega, ⟨vp, by omega, by omega, v3, fun x hx hxi => ?_, v5⟩⟩, by omega⟩
      by_cases hxj : (x : Int) = i
      · have : x = i.toNat := by omega
        rw [this]; exact hl
      · exact v4 x hx (by omega)
    | false =>
      rw [if_neg (by simp)]
      exact inner fun _ => hl
  · have hc : decide (i ≤ j0) = false := by simpa using hij
    refine ⟨fun e => (by rw [hc] at e; cases e), fun _ => ⟨false, letW ?_⟩⟩
    rw [hc, Bool.false_and, if_neg (by simp)]
    exact inner fun hh => absurd hh hij

/-- What a partition comes to. -/
def Parted (a b : Nat) (d d' : Array Int) (mid : Nat) : Prop :=
  a ≤ mid ∧ mid < b ∧ PermIn a b d d' ∧ (∀ x : Nat, a ≤ x → x < mid → ltInt d'[x]! d'[mid]! = true) ∧ (∀ x : Nat, mid < x → x < b → ltInt d'[x]! d'[mid]! = false)

theorem pt_end {a b : Nat} {d d' : Array Int} {i j : Int} (hb : b ≤ d'.size) (hab : a < b) (v : Pt a b d d' i j) (hij : i > j) : Parted a b d (swp d' j.toNat a) j.toNat := by
  obtain ⟨vp, v1, v2, v3, v4, v5⟩ := v
  have hj : j + 1 = i := by omega
  have hja : a ≤ j.toNat := by omega
  have hjb : j.toNat < b := by omega
  have hR : (swp d' j.toNat a)[j.toNat]! = d'[a]! := by
    by_cases e : j.toNat = a
    · rw [e]
      exact swp_right d' a a (by omega)
    · exact swp_left d' j.toNat a (by omega) e
  refine ⟨hja, hjb, permIn_trans _ _ _ _ _ vp (swp_permIn d' a b j.toNat a hja hjb (Nat.le_refl _) hab hb), fun x hx hxj => ?_, fun x hx hxb => ?_⟩
  · rw [hR]
    by_cases hxa : x = a
    · subst hxa
      have : (swp d' j.toNat x)[x]! = d'[j.toNat]! := swp_right d' j.toNat x (by omega)
      rw [this]
      exact v4 j.toNat (by omega) (by omega)
    · rw [swp_other d' j.toNat a x (by omega) hxa]
      exact v4 x (by omega) (by omega)
  · rw [hR, swp_other d' j.toNat a x (by omega) (by omega)]
    exact v5 x (by omega) hxb

theorem pt_swap {a b : Nat} {d d' : Array Int} {i j : Int} (hb : b ≤ d'.size) (v : Pt a b d d' i j) (hij : i ≤ j) (hl : ltInt d'[i.toNat]! d'[a]! = false ∧ ltInt d'[j.toNat]! d'[a]! = true) : Pt a b d (swp d' i.toNat j.toNat) (i + 1) (j - 1) := by
  obtain ⟨vp, v1, v2, v3, v4, v5⟩ := v
  have hne : i ≠ j := fun e => by
    rw [e] at hl
    rw [hl.1] at hl
    exact absurd hl.2 (by simp)
  have hnn : i.toNat ≠ j.toNat := by omega
  have ha : (swp d' i.toNat j.toNat)[a]! = d'[a]! := swp_other d' i.toNat j.toNat a (by omega) (by omega)
  refine ⟨permIn_trans _ _ _ _ _ vp (swp_permIn d' a b i.toNat j.toNat (by omega) (by omega) (by omega) (by omega) hb), by omega, by omega, by omega, fun x hx hxi => ?_, fun x hx hxb => ?_⟩
  · rw [ha]
    by_cases hxe : x = i.toNat
    · subst hxe
      rw [swp_left d' _ _ (by omega) hnn]
      exact hl.2
    · rw [swp_other d' _ _ x hxe (by omega)]
      exact v4 x hx (by omega)
  · rw [ha]
    by_cases hxe : x = j.toNat
    · subst hxe
      rw [swp_right d' _ _ (by omega)]
      exact hl.1
    · rw [swp_other d' _ _ x (by omega) hxe]
      exact v5 x (by omega) hxb

set_option maxHeartbeats 2000000 in
theorem partition_ok {k : Hp} {data : Sl} {d : Array Int} {F : List Nat} {a b pivot : Nat} {Q : Int → Bool → Hp → Prop} (o : DA k data d F) (hap : a ≤ pivot) (hpb : pivot < b) (hb : b ≤ d.size) (hs : d.size ≤ 140737488355328)
    (hq : ∀ (mid : Nat) ap k' d', DA k' data d' F → Mv F k F k' → Parted a b d d' mid → Q (mid : Int) ap k') : slices_partitionOrdered_int_w Try.prog data (a : Int) (b : Int) (pivot : Int) Q k := by
  unfold slices_partitionOrdered_int_w
  have hat : ((a : Nat) : Int).toNat = a := by omega
  have hpt : ((pivot : Nat) : Int).toNat = pivot := by omega
  refine da_swap o (A := (a : Int)) (B := (pivot : Int)) (by omega) (by omega) (by omega) (by omega) fun k1 o1 m1 => ?_
  rw [hat, hpt] at o1
  rw [wrap64 (n := (a : Int) + 1) (by omega) (by omega), wrap64 (n := (b : Int) - 1) (by omega) (by omega)]
  have hsz1 : (swp d a pivot).size = d.size := size_swp d a pivot
  have v1 : Pt a b d (swp d a pivot) ((a : Int) + 1) ((b : Int) - 1) := ⟨swp_permIn d a b a pivot (Nat.le_refl _) (by omega) hap hpb hb, by omega, by omega, by omega, fun x h1 h2 => by omega, fun x h1 h2 => by omega⟩
  have fin : ∀ {k' : Hp} {d' : Array Int} {i j : Int} (ap : Bool), DA k' data d' F → Mv F k F k' → d'.size = d.size → Pt a b d d' i j → i > j →
      (InB data.base data.len (a : Int) ∧ LdW none (shInt .i64) k' (sat data.base 1 (a : Int)) fun x6 => (InB data.base data.len j ∧ LdW none (shInt .i64) k' (sat data.base 1 j) fun x7 =>
        (InB data.base data.len j ∧ StW k' (sat data.base 1 j) [(.int .i64 x6)] fun h7 => (InB data.base data.len (a : Int) ∧ StW h7 (sat data.base 1 (a : Int)) [(.int .i64 x7)] fun h8 => Q j ap h8)))) := by
    intro k' d' i j ap o' m' hsz' v' hij
    have g1 := v'.i0
    have g2 := v'.ij
    have g3 := v'.jb
    have hjn : ((j.toNat : Nat) : Int) = j := by omega
    refine da_swap o' (A := j) (B := (a : Int)) (by omega) (by omega) (by omega) (by omega) fun k2 o2 m2 => ?_
    rw [hat] at o2
    have := hq j.toNat ap k2 _ o2 (m'.trans m2) (pt_end (by omega) (by omega) v' hij)
    rw [hjn] at this
    exact this
  refine scan_ok (d := d) o1 (by omega) (by omega) v1 fun i j v h1 h2 hst => ?_
  by_cases hij : i > j
  · rw [if_pos (by simpa using hij)]
    exact fin true o1 m1 hsz1 v hij
  · rw [if_neg (by simpa using hij)]
    have g1 := v.i0
    have g3 := v.jb
    refine da_swap o1 (A := i) (B := j) (by omega) (by omega) (by omega) (by omega) fun k2 o2 m2 => ?_
    rw [wrap64 (n := i + 1) (by omega) (by omega), wrap64 (n := j - 1) (by omega) (by omega)]
    refine LoopW2.intro (fun i j k' => ∃ d', DA k' data d' F ∧ Mv F k F k' ∧ d'.size = d.size ∧ Pt a b d d' i j) (fun i j _ => (j + 1 - i).toNat) ⟨_, o2, m1.trans m2, by rw [size_swp, hsz1], pt_swap (by omega) v (by omega) (hst (by omega))⟩ ?_
    clear o2 m2 k2 hst h1 h2 v g1 g3 hij i j
    rintro i1 j1 k3 ⟨d3, o3, m3, hsz3, v3⟩
    refine scan_ok (d := d) o3 (by omega) (by omega) v3 fun i j v h1 h2 hst => ?_
    by_cases hij : i > j
    · rw [if_pos (by simpa using hij)]
      exact fin false o3 m3 hsz3 v hij
    · rw [if_neg (by simpa using hij)]
      have g1 := v.i0
      have g3 := v.jb
      refine da_swap o3 (A := i) (B := j) (by omega) (by omega) (by omega) (by omega) fun k2 o2 m2 => ?_
      rw [wrap64 (n := i + 1) (by omega) (by omega), wrap64 (n := j - 1) (by omega) (by omega)]
      exact ⟨⟨_, o2, m3.trans m2, by rw [size_swp, hsz3], pt_swap (by omega) v (by omega) (hst (by omega))⟩, by omega⟩

/-- In the middle of the other partition: none ahead of i is greater than the one at a, all behind j are. -/
structure Pe (a b : Nat) (d d' : Array Int) (i j : Int) : Prop where
  p : PermIn a b d d'
  i0 : (a : Int) < i
  ij : i ≤ j + 1
  jb : j < (b : Int)
  lo : ∀ x : Nat, a < x → (x : Int) < i → ltInt d'[a]! d'[x]! = false
  hi : ∀ x : Nat, j < (x : Int) → x < b → ltInt d'[a]! d'[x]! = true

set_option maxHeartbeats 2000000 in
theorem partitionEqual_ok {k : Hp} {data : Sl} {d : Array Int} {F : List Nat} {a b pivot : Nat} {Q : Int → Hp → Prop} (o : DA k data d F) (hap : a ≤ pivot) (hpb : pivot < b) (hb : b ≤ d.size) (hs : d.size ≤ 140737488355328)
    (hq : ∀ (mid : Nat) k' d', DA k' data d' F → Mv F k F k' → a < mid → mid ≤ b → PermIn a b d d' → (∀ x : Nat, a ≤ x → x < mid → ltInt d[pivot]! d'[x]! = false) → (∀ x : Nat, mid ≤ x → x < b → ltInt d[pivot]! d'[x]! = true) → Q (mid : Int) k') :
    slices_partitionEqualOrdered_int_w Try.prog data (a : Int) (b : Int) (pivot : Int) Q k := by
  unfold slices_partitionEqualOrdered_int_w
  have hat : ((a : Nat) : Int).toNat = a := by omega
  have hpt : ((pivot : Nat) : Int).toNat = pivot := by omega
  refine da_swap o (A := (a : Int)) (B := (pivot : Int)) (by omega) (by omega) (by omega) (by omega) fun k1 o1 m1 => ?_
  rw [hat, hpt] at o1
  rw [wrap64 (n := (a : Int) + 1) (by omega) (by omega), wrap64 (n := (b : Int) - 1) (by omega) (by omega)]
  have hpv : (swp d a pivot)[a]! = d[pivot]! := by
    by_cases e : a = pivot
    · subst e
      exact swp_right d a a (by omega)
    · exact swp_left d a pivot (by omega) e
  refine LoopW2.intro (fun i j k' => ∃ d', DA k' data d' F ∧ Mv F k F k' ∧ d'.size = d.size ∧ d'[a]! = d[pivot]! ∧ Pe a b d d' i j) (fun i j _ => (j + 1 - i).toNat)
    ⟨_, o1, m1, size_swp d a pivot, hpv, ⟨swp_permIn d a b a pivot (Nat.le_refl _) (by omega) hap hpb hb, by omega, by omega, by omega, fun x h1 h2 => by omega, fun x h1 h2 => by omega⟩⟩ ?_
  rintro i0 j0 k3 ⟨d', o', m', hsz, hpa, v⟩
  obtain ⟨_, w1, w2, w3, _, _⟩ := id v
  refine LoopW1.intro (fun i k' => k' = k3 ∧ i0 ≤ i ∧ Pe a b d d' i j0) (fun i _ => (j0 + 1 - i).toNat) ⟨rfl, by omega, v⟩ ?_
  rintro i k' ⟨rfl, hi0, vi⟩
  obtain ⟨vp, v1, v2, v3, v4, v5⟩ := id vi
  refine da_getC o' (fun hc => ?_) fun x hx => ?_
  · omega
  refine da_getC o' (fun hc => ?_) fun x1 hx1 => ?_
  · have : i ≤ j0 := by simpa using hc
    omega
  rw [hat] at hx
  have hdec : ∀ (r : Bool), (decide (i ≤ j0) = true → r = ltInt d'[a]! d'[i.toNat]!) → (decide (i ≤ j0) && !r) = (decide (i ≤ j0) && !ltInt d'[a]! d'[i.toNat]!) := fun r hr => by
    cases hc : decide (i ≤ j0) with
    | false => rfl
    | true => rw [hr hc]
  have step : ∀ r : Bool, (decide (i ≤ j0) = true → r = ltInt d'[a]! d'[i.toNat]!) → LetW ((decide (i ≤ j0)) && (!r)) fun y =>
 (if y = true then
 ((k' = k' ∧ i0 ≤ IntKind.wrap .i64 (i + (1 : Int)) ∧ Pe a b d d' (IntKind.wrap .i64 (i + (1 : Int))) j0) ∧ (j0 + 1 - IntKind.wrap .i64 (i + (1 : Int))).toNat < (j0 + 1 - i).toNat)
 else
 LoopW1 (α1 := Int) (fun again2 j1 h6 =>
 (((decide (i ≤ j1)) = true → (InB data.base data.len (a : Int))) ∧ LdW (some (decide (i ≤ j1))) (shInt .i64) h6 (sat data.base 1 (a : Int)) fun x4 =>
 (((decide (i ≤ j1)) = true → (InB data.base data.len j1)) ∧ LdW (some (decide (i ≤ j1))) (shInt .i64) h6 (sat data.base 1 j1) fun x5 =>
 EffC (some (decide (i ≤ j1))) (CallT Try.prog n_cmp_Less_int [(.int .i64 x4), (.int .i64 x5)] shBool) (fun r1 h7 =>
 LetW ((decide (i ≤ j1)) && r1) fun y1 =>
 (if y1 = true then
 again2 (IntKind.wrap .i64 (j1 - (1 : Int))) h7
 else
 (if (decide (i > j1)) = true then
 Q i h7
 else
 ((InB data.base data.len j1) ∧ LdW none (shInt .i64) h7 (sat data.base 1 j1) fun x6 =>
 ((InB data.base data.len i) ∧ LdW none (shInt .i64) h7 (sat data.base 1 i) fun x7 =>
 ((InB data.base data.len i) ∧ StW h7 (sat data.base 1 i) [(.int .i64 x6)] (fun h8 =>
 ((InB data.base data.len j1) ∧ StW h8 (sat data.base 1 j1) [(.int .i64 x7)] (fun h9 =>
 ((∃ d', DA h9 data d' F ∧ Mv F k F h9 ∧ d'.size = d.size ∧ d'[a]! = d[pivot]! ∧ Pe a b d d' (IntKind.wrap .i64 (i + (1 : Int))) (IntKind.wrap .i64 (j1 - (1 : Int)))) ∧ (IntKind.wrap .i64 (j1 - (1 : Int)) + 1 - IntKind.wrap .i64 (i + (1 : Int))).toNat < (j0 + 1 - i0).toNat)))))))))) h6))) j0 k') := by
    intro r hr
    refine letW ?_
    rw [hdec r hr, wrap64 (n := i + 1) (by omega) (by omega)]
    cases hc : (decide (i ≤ j0) && !ltInt d'[a]! d'[i.toNat]!) with
    | true =>
      rw [if_pos rfl]
      simp at hc
      refine ⟨⟨rfl, by omega, ⟨vp, by omega, by omega, v3, fun x hx hxi => ?_, v5⟩⟩, by omega⟩
      by_cases hxj : (x : Int) = i
      · have : x = i.toNat := by omega
        rw [this]; exact hc.2
      · exact v4 x hx (by omega)
    | false =>
      rw [if_neg (by simp)]
      have hstop : i ≤ j0 → ltInt d'[a]! d'[i.toNat]! = true := fun hh => by
        simp at hc
        exact hc hh
      refine LoopW1.intro (fun j k2 => k2 = k' ∧ j ≤ j0 ∧ Pe a b d d' i j) (fun j _ => (j + 1 - i).toNat) ⟨rfl, by omega, vi⟩ ?_
      rintro j k2 ⟨rfl, hj0, vj⟩
      obtain ⟨_, u1, u2, u3, u4, u5⟩ := id vj
      refine da_getC o' (fun hc => ?_) fun x hx => ?_
      · omega
      refine da_getC o' (fun hc => ?_) fun x1 hx1 => ?_
      · have : i ≤ j := by simpa using hc
        omega
      rw [hat] at hx
      rw [wrap64 (n := j - 1) (by omega) (by omega)]
      by_cases hij : i ≤ j
      · have hc : decide (i ≤ j) = true := by simpa using hij
        refine ⟨fun _ => cmp_Less_int_call (less_ok ?_), fun e => (by rw [hc] at e; cases e)⟩
        refine letW ?_
        rw [hc, Bool.true_and, hx hc, hx1 hc]
        cases hl : ltInt d'[a]! d'[j.toNat]! with
        | true =>
          rw [if_pos rfl]
          refine ⟨⟨rfl, by omega, ⟨vp, u1, by omega, by omega, u4, fun x hx hxb => ?_⟩⟩, by omega⟩
          by_cases hxj : (x : Int) = j
          · have : x = j.toNat := by omega
            rw [this]; exact hl
          · exact u5 x (by omega) hxb
        | false =>
          rw [if_neg (by simp), if_neg (by simp; omega)]
          have hli := hstop (by omega)
          have hne : i ≠ j := fun e => by rw [e, hl] at hli; cases hli
          have hnn : i.toNat ≠ j.toNat := by omega
          refine da_swap o' (A := i) (B := j) (by omega) (by omega) (by omega) (by omega) fun k4 o4 m4 => ?_
          have ha : (swp d' i.toNat j.toNat)[a]! = d'[a]! := swp_other d' i.toNat j.toNat a (by omega) (by omega)
          refine ⟨⟨_, o4, m'.trans m4, by rw [size_swp, hsz], by rw [ha]; exact hpa, ⟨permIn_trans _ _ _ _ _ vp (swp_permIn d' a b i.toNat j.toNat (by omega) (by omega) (by omega) (by omega) (by omega)), by omega, by omega, by omega, fun x hx hxi => ?_, fun x hx hxb => ?_⟩⟩, by omega⟩
          · rw [ha]
            by_cases hxe : x = i.toNat
            · subst hxe
              rw [swp_left d' _ _ (by omega) hnn]
              exact hl
            · rw [swp_other d' _ _ x hxe (by omega)]
              exact v4 x hx (by omega)
          · rw [ha]
            by_cases hxe : x = j.toNat
            · subst hxe
              rw [swp_right d' _ _ (by omega)]
              exact hli
            · rw [swp_other d' _ _ x (by omega) hxe]
              exact u5 x (by omega) hxb
      · have hc : decide (i ≤ j) = false := by simpa using hij
        refine ⟨fun e => (by rw [hc] at e; cases e), fun _ => ⟨false, letW ?_⟩⟩
        rw [hc, Bool.false_and, if_neg (by simp), if_pos (by simp; omega)]
        have hin : ((i.toNat : Nat) : Int) = i := by omega
        have := hq i.toNat k2 d' o' m' (by omega) (by omega) vp (fun x hx hxi => ?_) fun x hx hxb => ?_
        · rw [hin] at this
          exact this
        · rw [← hpa]
          by_cases hxa : x = a
          · subst hxa
            exact swo_ltInt.irrefl _
          · exact v4 x (by omega) (by omega)
        · rw [← hpa]
          exact u5 x (by omega) hxb
  by_cases hij : i ≤ j0
  · have hc : decide (i ≤ j0) = true := by simpa using hij
    refine ⟨fun _ => cmp_Less_int_call (less_ok ?_), fun e => (by rw [hc] at e; cases e)⟩
    refine step _ fun _ => ?_
    rw [hx hc, hx1 hc]
  · have hc : decide (i ≤ j0) = false := by simpa using hij
    exact ⟨fun e => (by rw [hc] at e; cases e), fun _ => ⟨false, step false fun e => by rw [hc] at e; cases e⟩⟩

end Lf.Soint

/-
  The library's sort: the insertion that may give up.
-/
namespace Lf.Soint
open Go Go.Proofs Go.Sort

set_option maxHeartbeats 2000000 in
theorem partial_ok {k : Hp} {data : Sl} {d : Array Int} {F : List Nat} {a b : Nat} {Q : Bool → Hp → Prop} (o : DA k data d F) (hab : a < b) (hb : b ≤ d.size) (hs : d.size ≤ 140737488355328) (hB : Below ltInt a b d)
    (hq : ∀ r k' d', DA k' data d' F → Mv F k F k' → PermIn a b d d' → (r = true → SortedIn ltInt a b d') → Q r k') : slices_partialInsertionSortOrdered_int_w Try.prog data (a : Int) (b : Int) Q k := by
  unfold slices_partialInsertionSortOrdered_int_w
  obtain ⟨hperm, hsort⟩ := partialInsertionSort_holds (lt := ltInt) swo_ltInt d a b hab hb hB
  rw [wrap64 (n := (a : Int) + 1) (by omega) (by omega), wrap64 (n := (b : Int) - (a : Int)) (by omega) (by omega)]
  have done : ∀ {k' : Hp} {d' : Array Int} (r : Bool), DA k' data d' F → Mv F k F k' → (d', r) = partialInsertionSort ltInt d a b → Q r k' := fun {k'} {d'} r o' m' he => by
    rw [← he] at hperm hsort
    exact hq r k' d' o' m' hperm hsort
  refine LoopW2.intro (fun i j k' => ∃ d', DA k' data d' F ∧ Mv F k F k' ∧ (a : Int) + 1 ≤ i ∧ i ≤ (b : Int) ∧ 0 ≤ j ∧ j ≤ 5 ∧ d'.size = d.size ∧ partialIns ltInt a b (5 - j).toNat i.toNat d' = partialInsertionSort ltInt d a b) (fun _ j _ => (5 - j).toNat)
    ⟨d, o, Mv.refl _ _, by omega, by omega, by omega, by omega, rfl, by
      have : ((a : Int) + 1).toNat = a + 1 := by omega
      rw [this]; rfl⟩ ?_
  rintro i j k' ⟨d', o', m', hi0, hi1, hj0, hj1, hsz, he⟩
  by_cases hj5 : 5 ≤ j
  · rw [if_neg (by simpa using hj5)]
    have : (5 - j).toNat = 0 := by omega
    rw [this] at he
    exact done false o' m' he
  rw [if_pos (by simpa using hj5)]
  obtain ⟨s, hsj⟩ : ∃ s, (5 - j).toNat = s + 1 := ⟨(5 - j).toNat - 1, by omega⟩
  rw [hsj] at he
  refine JoinW1.intro (fun i1 h2 => ∃ d2, DA h2 data d2 F ∧ Mv F k F h2 ∧ (a : Int) + 1 ≤ i1 ∧ i1 ≤ (b : Int) ∧ d2.size = d.size ∧ partialIns ltInt a b s i1.toNat d2 = partialInsertionSort ltInt d a b) ?_ ?_
  rotate_left
  · rintro i1 h2 ⟨d2, o2, m2, h3, h4, h5, h6⟩
    rw [wrap64 (by omega) (by omega)]
    have : (5 - (j + 1)).toNat = s := by omega
    exact ⟨⟨d2, o2, m2, h3, h4, by omega, by omega, h5, by rw [this]; exact h6⟩, by omega⟩
  refine LoopW1.intro (fun i1 h2 => h2 = k' ∧ i ≤ i1 ∧ i1 ≤ (b : Int) ∧ scanSorted ltInt d' b i1.toNat = scanSorted ltInt d' b i.toNat) (fun i1 _ => (b - i1).toNat) ⟨rfl, by omega, by omega, rfl⟩ ?_
  rintro i1 h2 ⟨rfl, hii, hib, hsc⟩
  rw [wrap64 (n := i1 - 1) (by omega) (by omega)]
  have hm1 : (i1 - 1).toNat = i1.toNat - 1 := by omega
  -- behind the scan
  have behind : scanSorted ltInt d' b i1.toNat = i1.toNat → (if (i1 == (b : Int)) = true then Q true h2 else
 (if (decide (((b : Int) - (a : Int)) < (50 : Int))) = true then Q false h2 else
 ((InB data.base data.len (i1 - (1 : Int))) ∧ LdW none (shInt .i64) h2 (sat data.base 1 (i1 - (1 : Int))) fun x2 =>
 ((InB data.base data.len i1) ∧ LdW none (shInt .i64) h2 (sat data.base 1 i1) fun x3 =>
 ((InB data.base data.len i1) ∧ StW h2 (sat data.base 1 i1) [(.int .i64 x2)] (fun h4 =>
 ((InB data.base data.len (i1 - (1 : Int))) ∧ StW h4 (sat data.base 1 (i1 - (1 : Int))) [(.int .i64 x3)] (fun h5 =>
 JoinW0 (fun k1 =>
 (if (decide ((IntKind.wrap .i64 (i1 - (a : Int))) ≥ (2 : Int))) = true then
 JoinW0 (fun k2 =>
 LoopW1 (α1 := Int) (fun again2 j1 h6 =>
 (if (decide (j1 ≥ (1 : Int))) = true then
 ((InB data.base data.len j1) ∧ LdW none (shInt .i64) h6 (sat data.base 1 j1) fun x4 =>
 ((InB data.base data.len (IntKind.wrap .i64 (j1 - (1 : Int)))) ∧ LdW none (shInt .i64) h6 (sat data.base 1 (IntKind.wrap .i64 (j1 - (1 : Int)))) fun x5 =>
 CallT Try.prog n_cmp_Less_int [(.int .i64 x4), (.int .i64 x5)] shBool (fun r1 h7 =>
 (if (!r1) = true then
 k2 h7
 else
 ((InB data.base data.len (IntKind.wrap .i64 (j1 - (1 : Int)))) ∧ LdW none (shInt .i64) h7 (sat data.base 1 (IntKind.wrap .i64 (j1 - (1 : Int)))) fun x6 =>
 ((InB data.base data.len j1) ∧ LdW none (shInt .i64) h7 (sat data.base 1 j1) fun x7 =>
 ((InB data.base data.len j1) ∧ StW h7 (sat data.base 1 j1) [(.int .i64 x6)] (fun h8 =>
 ((InB data.base data.len (IntKind.wrap .i64 (j1 - (1 : Int)))) ∧ StW h8 (sat data.base 1 (IntKind.wrap .i64 (j1 - (1 : Int)))) [(.int .i64 x7)] (fun h9 =>
 again2 (IntKind.wrap .i64 (j1 - (1 : Int))) h9)))))))) h6))
 else
 k2 h6)) (i1 - (1 : Int)) h5)
 (fun h6 =>
 k1 h6)
 else
 k1 h5))
 (fun h6 =>
 (if (decide ((IntKind.wrap .i64 ((b : Int) - i1)) ≥ (2 : Int))) = true then
 JoinW0 (fun k1 =>
 LoopW1 (α1 := Int) (fun again2 j1 h7 =>
 (if (decide (j1 < (b : Int))) = true then
 ((InB data.base data.len j1) ∧ LdW none (shInt .i64) h7 (sat data.base 1 j1) fun x4 =>
 ((InB data.base data.len (IntKind.wrap .i64 (j1 - (1 : Int)))) ∧ LdW none (shInt .i64) h7 (sat data.base 1 (IntKind.wrap .i64 (j1 - (1 : Int)))) fun x5 =>
 CallT Try.prog n_cmp_Less_int [(.int .i64 x4), (.int .i64 x5)] shBool (fun r1 h8 =>
 (if (!r1) = true then
 k1 h8
 else
 ((InB data.base data.len (IntKind.wrap .i64 (j1 - (1 : Int)))) ∧ LdW none (shInt .i64) h8 (sat data.base 1 (IntKind.wrap .i64 (j1 - (1 : Int)))) fun x6 =>
 ((InB data.base data.len j1) ∧ LdW none (shInt .i64) h8 (sat data.base 1 j1) fun x7 =>
 ((InB data.base data.len j1) ∧ StW h8 (sat data.base 1 j1) [(.int .i64 x6)] (fun h9 =>
 ((InB data.base data.len (IntKind.wrap .i64 (j1 - (1 : Int)))) ∧ StW h9 (sat data.base 1 (IntKind.wrap .i64 (j1 - (1 : Int)))) [(.int .i64 x7)] (fun h10 =>
 again2 (IntKind.wrap .i64 (j1 + (1 : Int))) h10)))))))) h7))
 else
 k1 h7)) (IntKind.wrap .i64 (i1 + (1 : Int))) h6)
 (fun h7 => (∃ d2, DA h7 data d2 F ∧ Mv F k F h7 ∧ (a : Int) + 1 ≤ i1 ∧ i1 ≤ (b : Int) ∧ d2.size = d.size ∧ partialIns ltInt a b s i1.toNat d2 = partialInsertionSort ltInt d a b))
 else (∃ d2, DA h6 data d2 F ∧ Mv F k F h6 ∧ (a : Int) + 1 ≤ i1 ∧ i1 ≤ (b : Int) ∧ d2.size = d.size ∧ partialIns ltInt a b s i1.toNat d2 = partialInsertionSort ltInt d a b))))))))))) := by
    intro hstop
    rw [hstop] at hsc
    rw [partialIns_succ, ← hsc] at he
    unfold fixUp fixDown at he
    by_cases hib2 : i1 = (b : Int)
    · rw [if_pos (by simpa using hib2)]
      rw [if_pos (by omega)] at he
      exact done true o' m' he
    rw [if_neg (by simpa using hib2)]
    rw [if_neg (by omega)] at he
    by_cases h50 : (b : Int) - (a : Int) < 50
    · rw [if_pos (by simpa using h50)]
      rw [if_pos (by omega)] at he
      exact done false o' m' he
    rw [if_neg (by simpa using h50)]
    rw [if_neg (by omega)] at he
    refine da_swap o' (A := i1) (B := i1 - 1) (by omega) (by omega) (by omega) (by omega) fun k5 o5 m5 => ?_
    rw [hm1] at o5
    rw [wrap64 (n := i1 - (a : Int)) (by omega) (by omega), wrap64 (n := (b : Int) - i1) (by omega) (by omega), wrap64 (n := i1 + 1) (by omega) (by omega)]
    have hsz5 : (swp d' i1.toNat (i1.toNat - 1)).size = d.size := by rw [size_swp, hsz]
    generalize swp d' i1.toNat (i1.toNat - 1) = d5 at o5 he hsz5
    refine JoinW0.intro (fun h6 => ∃ d6, DA h6 data d6 F ∧ Mv F k F h6 ∧ d6.size = d.size ∧ d6 = if i1.toNat - a ≥ 2 then shiftDown ltInt (i1.toNat - 1) d5 else d5) ?_ ?_
    · by_cases h2 : i1 - (a : Int) ≥ 2
      · rw [if_pos (by simpa using h2)]
        refine JoinW0.intro (fun h6 => ∃ d6, DA h6 data d6 F ∧ Mv F k F h6 ∧ d6.size = d.size ∧ d6 = shiftDown ltInt (i1.toNat - 1) d5) ?_ ?_
        · refine LoopW1.intro (fun j1 h6 => ∃ d6, DA h6 data d6 F ∧ Mv F k F h6 ∧ d6.size = d.size ∧ 0 ≤ j1 ∧ j1 < (d.size : Int) ∧ shiftDown ltInt j1.toNat d6 = shiftDown ltInt (i1.toNat - 1) d5) (fun j1 _ => j1.toNat)
            ⟨d5, o5, m'.trans m5, hsz5, by omega, by omega, by rw [hm1]⟩ ?_
          rintro j1 h6 ⟨d6, o6, m6, hsz6, q0, q1, he6⟩
          by_cases hj1 : j1 ≥ 1
          · rw [if_pos (by simpa using hj1), wrap64 (n := j1 - 1) (by omega) (by omega)]
            refine da_get o6 (by omega) (by omega) (da_get o6 (by omega) (by omega) ?_)
            obtain ⟨z, hz⟩ : ∃ z, j1.toNat = z + 1 := ⟨j1.toNat - 1, by omega⟩
            have hz1 : (j1 - 1).toNat = z := by omega
            rw [hz, hz1]
            rw [hz, shiftDown] at he6
            refine cmp_Less_int_call (less_ok ?_)
            cases hl : ltInt d6[z + 1]! d6[z]! with
            | false =>
              rw [if_pos (by rfl)]
              rw [hl, if_pos (by rfl)] at he6
              exact ⟨d6, o6, m6, hsz6, he6⟩
            | true =>
              rw [if_neg (by simp)]
              rw [hl, if_neg (by simp)] at he6
              refine da_swap o6 (A := j1) (B := j1 - 1) (by omega) (by omega) (by omega) (by omega) fun k7 o7 m7 => ?_
              rw [hz, hz1] at o7
              exact ⟨⟨_, o7, m6.trans m7, by rw [size_swp, hsz6], by omega, by omega, by rw [hz1]; exact he6⟩, by omega⟩
          · rw [if_neg (by simpa using hj1)]
            have : j1.toNat = 0 := by omega
            rw [this, shiftDown] at he6
            exact ⟨d6, o6, m6, hsz6, he6⟩
        · rintro h6 ⟨d6, o6, m6, hsz6, he6⟩
          exact ⟨d6, o6, m6, hsz6, by rw [if_pos (by omega)]; exact he6⟩
      · rw [if_neg (by simpa using h2)]
        exact ⟨d5, o5, m'.trans m5, hsz5, by rw [if_neg (by omega)]⟩
    · rintro h6 ⟨d6, o6, m6, hsz6, he6⟩
      rw [← he6] at he
      by_cases h2 : (b : Int) - i1 ≥ 2
      · rw [if_pos (by simpa using h2)]
        rw [if_pos (by omega)] at he
        refine JoinW0.intro (fun h7 => ∃ d7, DA h7 data d7 F ∧ Mv F k F h7 ∧ d7.size = d.size ∧ d7 = shiftUp ltInt b (i1.toNat + 1) d6) ?_ ?_
        · refine LoopW1.intro (fun j1 h7 => ∃ d7, DA h7 data d7 F ∧ Mv F k F h7 ∧ d7.size = d.size ∧ i1 + 1 ≤ j1 ∧ j1 ≤ (b : Int) ∧ shiftUp ltInt b j1.toNat d7 = shiftUp ltInt b (i1.toNat + 1) d6) (fun j1 _ => (b - j1).toNat)
            ⟨d6, o6, m6, hsz6, by omega, by omega, by
              have : (i1 + 1).toNat = i1.toNat + 1 := by omega
              rw [this]⟩ ?_
          rintro j1 h7 ⟨d7, o7, m7, hsz7, q0, q1, he7⟩
          rw [shiftUp] at he7
          by_cases hj1 : j1 < (b : Int)
          · rw [if_pos (by simpa using hj1), wrap64 (n := j1 - 1) (by omega) (by omega)]
            rw [if_pos (by omega)] at he7
            refine da_get o7 (by omega) (by omega) (da_get o7 (by omega) (by omega) ?_)
            have hz1 : (j1 - 1).toNat = j1.toNat - 1 := by omega
            rw [hz1]
            refine cmp_Less_int_call (less_ok ?_)
            cases hl : ltInt d7[j1.toNat]! d7[j1.toNat - 1]! with
            | false =>
              rw [if_pos (by rfl)]
              rw [hl, if_pos (by rfl)] at he7
              exact ⟨d7, o7, m7, hsz7, he7⟩
            | true =>
              rw [if_neg (by simp)]
              rw [hl, if_neg (by simp)] at he7
              refine da_swap o7 (A := j1) (B := j1 - 1) (by omega) (by omega) (by omega) (by omega) fun k8 o8 m8 => ?_
              rw [hz1] at o8
              rw [wrap64 (by omega) (by omega)]
              have hz2 : (j1 + 1).toNat = j1.toNat + 1 := by omega
              exact ⟨⟨_, o8, m7.trans m8, by rw [size_swp, hsz7], by omega, by omega, by rw [hz2]; exact he7⟩, by omega⟩
          · rw [if_neg (by simpa using hj1)]
            rw [if_neg (by omega)] at he7
            exact ⟨d7, o7, m7, hsz7, he7⟩
        · rintro h7 ⟨d7, o7, m7, hsz7, he7⟩
          exact ⟨d7, o7, m7, by omega, by omega, hsz7, by rw [he7]; exact he⟩
      · rw [if_neg (by simpa using h2)]
        rw [if_neg (by omega)] at he
        exact ⟨d6, o6, m6, by omega, by omega, hsz6, he⟩
  refine da_getC o' (fun hc => ?_) fun x hx => ?_
  · have : i1 < (b : Int) := by simpa using hc
    omega
  refine da_getC o' (fun hc => ?_) fun x1 hx1 => ?_
  · omega
  rw [hm1] at hx1
  by_cases hib3 : i1 < (b : Int)
  · have hc : decide (i1 < (b : Int)) = true := by simpa using hib3
    refine ⟨fun _ => cmp_Less_int_call (less_ok ?_), fun e => (by rw [hc] at e; cases e)⟩
    refine letW ?_
    rw [hc, Bool.true_and, hx hc, hx1 hc]
    cases hl : ltInt d'[i1.toNat]! d'[i1.toNat - 1]! with
    | false =>
      rw [if_pos (by rfl), wrap64 (by omega) (by omega)]
      have hsc2 := hsc
      rw [scanSorted, hl, if_pos (by simp; omega)] at hsc2
      have : (i1 + 1).toNat = i1.toNat + 1 := by omega
      exact ⟨⟨rfl, by omega, by omega, by rw [this]; exact hsc2⟩, by omega⟩
    | true =>
      rw [if_neg (by simp)]
      exact behind (by rw [scanSorted, hl, if_neg (by simp)])
  · have hc : decide (i1 < (b : Int)) = false := by simpa using hib3
    refine ⟨fun e => (by rw [hc] at e; cases e), fun _ => ⟨false, letW ?_⟩⟩
    rw [hc, Bool.false_and, if_neg (by simp)]
    exact behind (by rw [scanSorted, if_neg (by simp; omega)])

end Lf.Soint

/-
  How many bits a number has.
-/
namespace Lf
open Go Go.Proofs Go.Sort

def len8 : List UInt8 := [⟨⟨⟨0, by decide⟩⟩⟩, ⟨⟨⟨1, by decide⟩⟩⟩, ⟨⟨⟨2, by decide⟩⟩⟩, ⟨⟨⟨2, by decide⟩⟩⟩, ⟨⟨⟨3, by decide⟩⟩⟩, ⟨⟨⟨3, by decide⟩⟩⟩, ⟨⟨⟨3, by decide⟩⟩⟩, ⟨⟨⟨3, by decide⟩⟩⟩, ⟨⟨⟨4, by decide⟩⟩⟩, ⟨⟨⟨4, by decide⟩⟩⟩, ⟨⟨⟨4, by decide⟩⟩⟩, ⟨⟨⟨4, by decide⟩⟩⟩, ⟨⟨⟨4, by decide⟩⟩⟩, ⟨⟨⟨4, by decide⟩⟩⟩, ⟨⟨⟨4, by decide⟩⟩⟩, ⟨⟨⟨4, by decide⟩⟩⟩, ⟨⟨⟨5, by decide⟩⟩⟩, ⟨⟨⟨5, by decide⟩⟩⟩, ⟨⟨⟨5, by decide⟩⟩⟩, ⟨⟨⟨5, by decide⟩⟩⟩, ⟨⟨⟨5, by decide⟩⟩⟩, ⟨⟨⟨5, by decide⟩⟩⟩, ⟨⟨⟨5, by decide⟩⟩⟩, ⟨⟨⟨5, by decide⟩⟩⟩, ⟨⟨⟨5, by decide⟩⟩⟩, ⟨⟨⟨5, by decide⟩⟩⟩, ⟨⟨⟨5, by decide⟩⟩⟩, ⟨⟨⟨5, by decide⟩⟩⟩, ⟨⟨⟨5, by decide⟩⟩⟩, ⟨⟨⟨5, by decide⟩⟩⟩, ⟨⟨⟨5, by decide⟩⟩⟩, ⟨⟨⟨5, by decide⟩⟩⟩, ⟨⟨⟨6, by decide⟩⟩⟩, ⟨⟨⟨6, by decide⟩⟩⟩, ⟨⟨⟨6, by decide⟩⟩⟩, ⟨⟨⟨6, by decide⟩⟩⟩, ⟨⟨⟨6, by decide⟩⟩⟩, ⟨⟨⟨6, by decide⟩⟩⟩, ⟨⟨⟨6, by decide⟩⟩⟩, ⟨⟨⟨6, by decide⟩⟩⟩, ⟨⟨⟨6, by decide⟩⟩⟩, ⟨⟨⟨6, by decide⟩⟩⟩, ⟨⟨⟨6, by decide⟩⟩⟩, ⟨⟨⟨6, by decide⟩⟩⟩, ⟨⟨⟨6, by decide⟩⟩⟩, ⟨⟨⟨6, by decide⟩⟩⟩, ⟨⟨⟨6, by decide⟩⟩⟩, ⟨⟨⟨6, by decide⟩⟩⟩, ⟨⟨⟨6, by decide⟩⟩⟩, ⟨⟨⟨6, by decide⟩⟩⟩, ⟨⟨⟨6, by decide⟩⟩⟩, ⟨⟨⟨6, by decide⟩⟩⟩, ⟨⟨⟨6, by decide⟩⟩⟩, ⟨⟨⟨6, by decide⟩⟩⟩, ⟨⟨⟨6, by decide⟩⟩⟩, ⟨⟨⟨6, by decide⟩⟩⟩, ⟨⟨⟨6, by decide⟩⟩⟩, ⟨⟨⟨6, by decide⟩⟩⟩, ⟨⟨⟨6, by decide⟩⟩⟩, ⟨⟨⟨6, by decide⟩⟩⟩, ⟨⟨⟨6, by decide⟩⟩⟩, ⟨⟨⟨6, by decide⟩⟩⟩, ⟨⟨⟨6, by decide⟩⟩⟩, ⟨⟨⟨6, by decide⟩⟩⟩, ⟨⟨⟨7, by decide⟩⟩⟩, ⟨⟨⟨7, by decide⟩⟩⟩, ⟨⟨⟨7, by decide⟩⟩⟩, ⟨⟨⟨7, by decide⟩⟩⟩, ⟨⟨⟨7, by decide⟩⟩⟩, ⟨⟨⟨7, by decide⟩⟩⟩, ⟨⟨⟨7, by decide⟩⟩⟩, ⟨⟨⟨7, by decide⟩⟩⟩, ⟨⟨⟨7, by decide⟩⟩⟩, ⟨⟨⟨7, by decide⟩⟩⟩, ⟨⟨⟨7, by decide⟩⟩⟩, ⟨⟨⟨7, by decide⟩⟩⟩, ⟨⟨⟨7, by decide⟩⟩⟩, ⟨⟨⟨7, by decide⟩⟩⟩, ⟨⟨⟨7, by decide⟩⟩⟩, ⟨⟨⟨7, by decide⟩⟩⟩, ⟨⟨⟨7, by decide⟩⟩⟩, ⟨⟨⟨7, by decide⟩⟩⟩, ⟨⟨⟨7, by decide⟩⟩⟩, ⟨⟨⟨7, by decide⟩⟩⟩, ⟨⟨⟨7, by decide⟩⟩⟩, ⟨⟨⟨7, by decide⟩⟩⟩, ⟨⟨⟨7, by decide⟩⟩⟩, ⟨⟨⟨7, by decide⟩⟩⟩, ⟨⟨⟨7, by decide⟩⟩⟩, ⟨⟨⟨7, by decide⟩⟩⟩, ⟨⟨⟨7, by decide⟩⟩⟩, ⟨⟨⟨7, by decide⟩⟩⟩, ⟨⟨⟨7, by decide⟩⟩⟩, ⟨⟨⟨7, by decide⟩⟩⟩, ⟨⟨⟨7, by decide⟩⟩⟩, ⟨⟨⟨7, by decide⟩⟩⟩, ⟨⟨⟨7, by decide⟩⟩⟩, ⟨⟨⟨7, by decide⟩⟩⟩, ⟨⟨⟨7, by decide⟩⟩⟩, ⟨⟨⟨7, by decide⟩⟩⟩, ⟨⟨⟨7, by decide⟩⟩⟩, ⟨⟨⟨7, by decide⟩⟩⟩, ⟨⟨⟨7, by decide⟩⟩⟩, ⟨⟨⟨7, by decide⟩⟩⟩, ⟨⟨⟨7, by decide⟩⟩⟩, ⟨⟨⟨7, by decide⟩⟩⟩, ⟨⟨⟨7, by decide⟩⟩⟩, ⟨⟨⟨7, by decide⟩⟩⟩, ⟨⟨⟨7, by decide⟩⟩⟩, ⟨⟨⟨7, by decide⟩⟩⟩, ⟨⟨⟨7, by decide⟩⟩⟩, ⟨⟨⟨7, by decide⟩⟩⟩, ⟨⟨⟨7, by decide⟩⟩⟩, ⟨⟨⟨7, by decide⟩⟩⟩, ⟨⟨⟨7, by decide⟩⟩⟩, ⟨⟨⟨7, by decide⟩⟩⟩, ⟨⟨⟨7, by decide⟩⟩⟩, ⟨⟨⟨7, by decide⟩⟩⟩, ⟨⟨⟨7, by decide⟩⟩⟩, ⟨⟨⟨7, by decide⟩⟩⟩, ⟨⟨⟨7, by decide⟩⟩⟩, ⟨⟨⟨7, by decide⟩⟩⟩, ⟨⟨⟨7, by decide⟩⟩⟩, ⟨⟨⟨7, by decide⟩⟩⟩, ⟨⟨⟨7, by decide⟩⟩⟩, ⟨⟨⟨7, by decide⟩⟩⟩, ⟨⟨⟨7, by decide⟩⟩⟩, ⟨⟨⟨7, by decide⟩⟩⟩, ⟨⟨⟨8, by decide⟩⟩⟩, ⟨⟨⟨8, by decide⟩⟩⟩, ⟨⟨⟨8, by decide⟩⟩⟩, ⟨⟨⟨8, by decide⟩⟩⟩, ⟨⟨⟨8, by decide⟩⟩⟩, ⟨⟨⟨8, by decide⟩⟩⟩, ⟨⟨⟨8, by decide⟩⟩⟩, ⟨⟨⟨8, by decide⟩⟩⟩, ⟨⟨⟨8, by decide⟩⟩⟩, ⟨⟨⟨8, by decide⟩⟩⟩, ⟨⟨⟨8, by decide⟩⟩⟩, ⟨⟨⟨8, by decide⟩⟩⟩, ⟨⟨⟨8, by decide⟩⟩⟩, ⟨⟨⟨8, by decide⟩⟩⟩, ⟨⟨⟨8, by decide⟩⟩⟩, ⟨⟨⟨8, by decide⟩⟩⟩, ⟨⟨⟨8, by decide⟩⟩⟩, ⟨⟨⟨8, by decide⟩⟩⟩, ⟨⟨⟨8, by decide⟩⟩⟩, ⟨⟨⟨8, by decide⟩⟩⟩, ⟨⟨⟨8, by decide⟩⟩⟩, ⟨⟨⟨8, by decide⟩⟩⟩, ⟨⟨⟨8, by decide⟩⟩⟩, ⟨⟨⟨8, by decide⟩⟩⟩, ⟨⟨⟨8, by decide⟩⟩⟩, ⟨⟨⟨8, by decide⟩⟩⟩, ⟨⟨⟨8, by decide⟩⟩⟩, ⟨⟨⟨8, by decide⟩⟩⟩, ⟨⟨⟨8, by decide⟩⟩⟩, ⟨⟨⟨8, by decide⟩⟩⟩, ⟨⟨⟨8, by decide⟩⟩⟩, ⟨⟨⟨8, by decide⟩⟩⟩, ⟨⟨⟨8, by decide⟩⟩⟩, ⟨⟨⟨8, by decide⟩⟩⟩, ⟨⟨⟨8, by decide⟩⟩⟩, ⟨⟨⟨8, by decide⟩⟩⟩, ⟨⟨⟨8, by decide⟩⟩⟩, ⟨⟨⟨8, by decide⟩⟩⟩, ⟨⟨⟨8, by decide⟩⟩⟩, ⟨⟨⟨8, by decide⟩⟩⟩, ⟨⟨⟨8, by decide⟩⟩⟩, ⟨⟨⟨8, by decide⟩⟩⟩, ⟨⟨⟨8, by decide⟩⟩⟩, ⟨⟨⟨8, by decide⟩⟩⟩, ⟨⟨⟨8, by decide⟩⟩⟩, ⟨⟨⟨8, by decide⟩⟩⟩, ⟨⟨⟨8, by decide⟩⟩⟩, ⟨⟨⟨8, by decide⟩⟩⟩, ⟨⟨⟨8, by decide⟩⟩⟩, ⟨⟨⟨8, by decide⟩⟩⟩, ⟨⟨⟨8, by decide⟩⟩⟩, ⟨⟨⟨8, by decide⟩⟩⟩, ⟨⟨⟨8, by decide⟩⟩⟩, ⟨⟨⟨8, by decide⟩⟩⟩, ⟨⟨⟨8, by decide⟩⟩⟩, ⟨⟨⟨8, by decide⟩⟩⟩, ⟨⟨⟨8, by decide⟩⟩⟩, ⟨⟨⟨8, by decide⟩⟩⟩, ⟨⟨⟨8, by decide⟩⟩⟩, ⟨⟨⟨8, by decide⟩⟩⟩, ⟨⟨⟨8, by decide⟩⟩⟩, ⟨⟨⟨8, by decide⟩⟩⟩, ⟨⟨⟨8, by decide⟩⟩⟩, ⟨⟨⟨8, by decide⟩⟩⟩, ⟨⟨⟨8, by decide⟩⟩⟩, ⟨⟨⟨8, by decide⟩⟩⟩, ⟨⟨⟨8, by decide⟩⟩⟩, ⟨⟨⟨8, by decide⟩⟩⟩, ⟨⟨⟨8, by decide⟩⟩⟩, ⟨⟨⟨8, by decide⟩⟩⟩, ⟨⟨⟨8, by decide⟩⟩⟩, ⟨⟨⟨8, by decide⟩⟩⟩, ⟨⟨⟨8, by decide⟩⟩⟩, ⟨⟨⟨8, by decide⟩⟩⟩, ⟨⟨⟨8, by decide⟩⟩⟩, ⟨⟨⟨8, by decide⟩⟩⟩, ⟨⟨⟨8, by decide⟩⟩⟩, ⟨⟨⟨8, by decide⟩⟩⟩, ⟨⟨⟨8, by decide⟩⟩⟩, ⟨⟨⟨8, by decide⟩⟩⟩, ⟨⟨⟨8, by decide⟩⟩⟩, ⟨⟨⟨8, by decide⟩⟩⟩, ⟨⟨⟨8, by decide⟩⟩⟩, ⟨⟨⟨8, by decide⟩⟩⟩, ⟨⟨⟨8, by decide⟩⟩⟩, ⟨⟨⟨8, by decide⟩⟩⟩, ⟨⟨⟨8, by decide⟩⟩⟩, ⟨⟨⟨8, by decide⟩⟩⟩, ⟨⟨⟨8, by decide⟩⟩⟩, ⟨⟨⟨8, by decide⟩⟩⟩, ⟨⟨⟨8, by decide⟩⟩⟩, ⟨⟨⟨8, by decide⟩⟩⟩, ⟨⟨⟨8, by decide⟩⟩⟩, ⟨⟨⟨8, by decide⟩⟩⟩, ⟨⟨⟨8, by decide⟩⟩⟩, ⟨⟨⟨8, by decide⟩⟩⟩, ⟨⟨⟨8, by decide⟩⟩⟩, ⟨⟨⟨8, by decide⟩⟩⟩, ⟨⟨⟨8, by decide⟩⟩⟩, ⟨⟨⟨8, by decide⟩⟩⟩, ⟨⟨⟨8, by decide⟩⟩⟩, ⟨⟨⟨8, by decide⟩⟩⟩, ⟨⟨⟨8, by decide⟩⟩⟩, ⟨⟨⟨8, by decide⟩⟩⟩, ⟨⟨⟨8, by decide⟩⟩⟩, ⟨⟨⟨8, by decide⟩⟩⟩, ⟨⟨⟨8, by decide⟩⟩⟩, ⟨⟨⟨8, by decide⟩⟩⟩, ⟨⟨⟨8, by decide⟩⟩⟩, ⟨⟨⟨8, by decide⟩⟩⟩, ⟨⟨⟨8, by decide⟩⟩⟩, ⟨⟨⟨8, by decide⟩⟩⟩, ⟨⟨⟨8, by decide⟩⟩⟩, ⟨⟨⟨8, by decide⟩⟩⟩, ⟨⟨⟨8, by decide⟩⟩⟩, ⟨⟨⟨8, by decide⟩⟩⟩, ⟨⟨⟨8, by decide⟩⟩⟩, ⟨⟨⟨8, by decide⟩⟩⟩, ⟨⟨⟨8, by decide⟩⟩⟩, ⟨⟨⟨8, by decide⟩⟩⟩, ⟨⟨⟨8, by decide⟩⟩⟩, ⟨⟨⟨8, by decide⟩⟩⟩, ⟨⟨⟨8, by decide⟩⟩⟩, ⟨⟨⟨8, by decide⟩⟩⟩, ⟨⟨⟨8, by decide⟩⟩⟩, ⟨⟨⟨8, by decide⟩⟩⟩, ⟨⟨⟨8, by decide⟩⟩⟩, ⟨⟨⟨8, by decide⟩⟩⟩]

theorem len8_get : ∀ n, n < 256 → (len8.getD n ⟨⟨⟨0, by decide⟩⟩⟩).toNat = bitsLen n := by decide +kernel

theorem bitsLen_shift {n k : Nat} (h : 2 ^ k ≤ n) : bitsLen n = k + bitsLen (n / 2 ^ k) := by
  have hp : 0 < 2 ^ k := Nat.pow_pos (by decide)
  have h1 : k < bitsLen n := by
    rcases Nat.lt_or_ge k (bitsLen n) with h1 | h1
    · exact h1
    · have := (bitsLen_le_iff n k).1 h1
      omega
  apply Nat.le_antisymm
  · refine (bitsLen_le_iff n _).2 ?_
    have := lt_two_pow_bitsLen (n / 2 ^ k)
    rw [Nat.div_lt_iff_lt_mul hp] at this
    rw [Nat.pow_add, Nat.mul_comm]
    exact this
  · have h2 : bitsLen (n / 2 ^ k) ≤ bitsLen n - k := by
      refine (bitsLen_le_iff _ _).2 ?_
      rw [Nat.div_lt_iff_lt_mul hp, ← Nat.pow_add]
      have := lt_two_pow_bitsLen n
      have e : bitsLen n - k + k = bitsLen n := by omega
      rw [e]
      exact this
    omega

theorem shr_nat {n k : Nat} (hk : k ≤ 64) : shrI .u64 (n : Int) (k : Int) = ((n / 2 ^ k : Nat) : Int) := by
  unfold shrI
  have : min (k : Int).toNat (IntKind.bits .u64) = k := by simp [IntKind.bits]; omega
  rw [this, Int.fdiv_eq_ediv_of_nonneg _ (Int.pow_nonneg (by decide))]
  norm_cast

theorem wrap8 {n : Int} (h0 : 0 ≤ n) (h1 : n < 256) : IntKind.wrap .u8 n = n := by
  unfold IntKind.wrap
  simp only [IntKind.signed, IntKind.bits]
  first | omega | (simp; omega)

theorem len64_ok {n : Nat} {Q : Int → Hp → Prop} {h : Hp} (hn : n < 18446744073709551616) (hq : Q (bitsLen n : Int) h) : math_bits_Len64_w Try.prog (n : Int) Q h := by
  have small : ∀ m, m < 256 → bitsLen m ≤ 8 := fun m hm => (bitsLen_le_iff m 8).2 (by simpa using hm)
  unfold math_bits_Len64_w
  refine JoinW2.intro (fun x1 n1 k => k = h ∧ ∃ (m c : Nat), x1 = (m : Int) ∧ n1 = (c : Int) ∧ m < 4294967296 ∧ c ≤ 32 ∧ bitsLen n = c + bitsLen m) ?_ ?_
  · by_cases hb : (n : Int) ≥ 4294967296
    · rw [if_pos (decide_eq_true hb)]
      refine ⟨by decide, rfl, n / 2 ^ 32, 32, shr_nat (k := 32) (by decide), rfl, ?_, by decide, bitsLen_shift (by omega)⟩
      rw [Nat.div_lt_iff_lt_mul (by decide)]
      omega
    · rw [if_neg fun hh => hb (of_decide_eq_true hh)]
      exact ⟨rfl, n, 0, rfl, rfl, by omega, by decide, by omega⟩
  · rintro x1 n1 k ⟨rfl, m, c, rfl, rfl, hm, hc, he⟩
    refine JoinW2.intro (fun x2 n2 k' => k' = k ∧ ∃ (m c : Nat), x2 = (m : Int) ∧ n2 = (c : Int) ∧ m < 65536 ∧ c ≤ 48 ∧ bitsLen n = c + bitsLen m) ?_ ?_
    · by_cases hb : (m : Int) ≥ 65536
      · rw [if_pos (decide_eq_true hb), wrap64 (by omega) (by omega)]
        refine ⟨by decide, rfl, m / 2 ^ 16, c + 16, shr_nat (k := 16) (by decide), by omega, ?_, by omega, ?_⟩
        · rw [Nat.div_lt_iff_lt_mul (by decide)]
          omega
        · rw [he, bitsLen_shift (n := m) (k := 16) (by omega)]
          omega
      · rw [if_neg fun hh => hb (of_decide_eq_true hh)]
        exact ⟨rfl, m, c, rfl, rfl, by omega, by omega, he⟩
    · clear he hc hm m c
      rintro x2 n2 k' ⟨rfl, m, c, rfl, rfl, hm, hc, he⟩
      by_cases hb : (m : Int) ≥ 256
      · rw [if_pos (decide_eq_true hb)]
        have e1 : shrI .u64 (m : Int) 8 = ((m / 2 ^ 8 : Nat) : Int) := shr_nat (k := 8) (by decide)
        have hlt : m / 2 ^ 8 < 256 := by
          rw [Nat.div_lt_iff_lt_mul (by decide)]
          omega
        rw [e1, wrap8 (n := ((m / 2 ^ 8 : Nat) : Int)) (by omega) (by omega)]
        have et : (((m / 2 ^ 8 : Nat) : Int)).toNat = m / 2 ^ 8 := by omega
        rw [et]
        refine ⟨by decide, by omega, ?_⟩
        have hg := len8_get (m / 2 ^ 8) hlt
        have hs := small (m / 2 ^ 8) hlt
        have hb2 := bitsLen_shift (n := m) (k := 8) (by omega)
        have hqq : Q (IntKind.wrap .i64 ((IntKind.wrap .i64 ((c : Int) + (8 : Int))) + (IntKind.wrap .i64 ((((len8.getD (m / 2 ^ 8) ⟨⟨⟨0, by decide⟩⟩⟩).toNat : Nat)) : Int)))) k' := by
          rw [hg, wrap64 (n := (c : Int) + 8) (by omega) (by omega), wrap64 (n := ((bitsLen (m / 2 ^ 8) : Nat) : Int)) (by omega) (by omega), wrap64 (by omega) (by omega)]
          have : (c : Int) + 8 + ((bitsLen (m / 2 ^ 8) : Nat) : Int) = (bitsLen n : Int) := by omega
          rw [this]
          exact hq
        exact hqq
      · rw [if_neg fun hh => hb (of_decide_eq_true hh)]
        have hlt : m < 256 := by omega
        rw [wrap8 (n := (m : Int)) (by omega) (by omega)]
        have et : ((m : Nat) : Int).toNat = m := by omega
        rw [et]
        refine ⟨by omega, ?_⟩
        have hg := len8_get m hlt
        have hs := small m hlt
        have hqq : Q (IntKind.wrap .i64 ((c : Int) + (IntKind.wrap .i64 ((((len8.getD m ⟨⟨⟨0, by decide⟩⟩⟩).toNat : Nat)) : Int)))) k' := by
          rw [hg, wrap64 (n := ((bitsLen m : Nat) : Int)) (by omega) (by omega), wrap64 (by omega) (by omega)]
          have : (c : Int) + ((bitsLen m : Nat) : Int) = (bitsLen n : Int) := by omega
          rw [this]
          exact hq
        exact hqq

theorem len_ok {n : Nat} {Q : Int → Hp → Prop} {h : Hp} (hn : n < 18446744073709551616) (hq : Q (bitsLen n : Int) h) : math_bits_Len_w Try.prog (n : Int) Q h := by
  unfold math_bits_Len_w
  exact math_bits_Len64_call (len64_ok hn hq)

theorem wrapU64 {n : Int} (h0 : 0 ≤ n) (h1 : n < 18446744073709551616) : IntKind.wrap .u64 n = n := wrapU ⟨h0, h1⟩

theorem nextPow_ok {n : Nat} {Q : Int → Hp → Prop} {h : Hp} (hn : n ≤ 140737488355328) (hq : Q ((2 ^ bitsLen n : Nat) : Int) h) : slices_nextPowerOfTwo_w Try.prog (n : Int) Q h := by
  unfold slices_nextPowerOfTwo_w
  rw [wrapU64 (by omega) (by omega)]
  refine math_bits_Len_call (len_ok (by omega) ⟨by omega, ?_⟩)
  have hb : bitsLen n ≤ 48 := (bitsLen_le_iff n 48).2 (by omega)
  have e : shlI .u64 1 (bitsLen n : Int) = ((2 ^ bitsLen n : Nat) : Int) := by
    unfold shlI
    have : min (bitsLen n : Int).toNat (IntKind.bits .u64) = bitsLen n := by simp [IntKind.bits]; omega
    rw [this]
    have hle : 2 ^ bitsLen n ≤ 2 ^ 48 := Nat.pow_le_pow_right (by decide) hb
    have e2 : (1 : Int) * 2 ^ bitsLen n = ((2 ^ bitsLen n : Nat) : Int) := by norm_cast; simp
    generalize 2 ^ bitsLen n = z at hle e2 ⊢
    rw [e2, wrapU64 (by omega) (by have : (2 : Nat) ^ 48 = 281474976710656 := by decide
                                   omega)]
  rw [e]
  exact hq

end Lf

/-
  The library's sort: the pivot, the patterns, the whole.
-/
namespace Lf.Soint
open Go Go.Proofs Go.Sort

theorem blk_at {h : Hp} {b : Nat} {sh : Shape} {x : sh.T} {K : sh.T → Prop} (k : Blk h b (cellsL (sh.enc x))) (hk : K x) : LdW none sh h ⟨b, 0, none⟩ K :=
  ⟨x, k.ldIs (by rw [List.drop_zero, List.take_length]), hk⟩

theorem order2_ok {k : Hp} {data : Sl} {d : Array Int} {F : List Nat} {blk : Nat} {s a b : Int} {Q : Int → Int → Hp → Prop} (o : DA k data d F) (hF : blk ∉ F) (kb : Blk k blk [.int .i64 s]) (ha0 : 0 ≤ a) (ha : a < (d.size : Int)) (hb0 : 0 ≤ b) (hb : b < (d.size : Int))
    (hq : ∀ r r1 s' k', ((r = a ∧ r1 = b) ∨ (r = b ∧ r1 = a)) → DA k' data d F → Blk k' blk [.int .i64 s'] → Mv [blk] k [blk] k' → Q r r1 k') : slices_order2Ordered_int_w Try.prog data a b (some ⟨blk, 0, none⟩) Q k := by
  unfold slices_order2Ordered_int_w
  refine da_get o hb0 hb (da_get o ha0 ha ?_)
  refine cmp_Less_int_call (less_ok ?_)
  cases hl : ltInt d[b.toNat]! d[a.toNat]! with
  | true =>
    rw [if_pos rfl]
    refine notNil (blk_at (sh := shInt .i64) (x := s) kb (notNil ?_))
    refine stW_blk (b := blk) (off := 0) kb (by simp) fun k' m' kb' => ?_
    exact hq b a _ k' (.inr ⟨rfl, rfl⟩) (o.mv m' fun c hc => by simp; exact fun e => hF (e ▸ hc)) (by simpa using kb') m'
  | false =>
    rw [if_neg (by simp)]
    exact hq a b s k (.inl ⟨rfl, rfl⟩) o kb (Mv.refl _ _)

theorem median_ok {k : Hp} {data : Sl} {d : Array Int} {F : List Nat} {blk : Nat} {s a b c : Int} {Q : Int → Hp → Prop} (o : DA k data d F) (hF : blk ∉ F) (kb : Blk k blk [.int .i64 s]) (ha0 : 0 ≤ a) (ha : a < (d.size : Int)) (hb0 : 0 ≤ b) (hb : b < (d.size : Int)) (hc0 : 0 ≤ c) (hc : c < (d.size : Int))
    (hq : ∀ r s' k', (r = a ∨ r = b ∨ r = c) → DA k' data d F → Blk k' blk [.int .i64 s'] → Mv [blk] k [blk] k' → Q r k') : slices_medianOrdered_int_w Try.prog data a b c (some ⟨blk, 0, none⟩) Q k := by
  unfold slices_medianOrdered_int_w
  refine slices_order2Ordered_int_call (order2_ok o hF kb ha0 ha hb0 hb fun r r1 s1 k1 h1 o1 kb1 m1 => ?_)
  refine slices_order2Ordered_int_call (order2_ok o1 hF kb1 (by omega) (by omega) hc0 hc fun r2 r3 s2 k2 h2 o2 kb2 m2 => ?_)
  refine slices_order2Ordered_int_call (order2_ok o2 hF kb2 (by omega) (by omega) (by omega) (by omega) fun r4 r5 s3 k3 h3 o3 kb3 m3 => ?_)
  exact hq r5 s3 k3 (by omega) o3 kb3 (m1.trans (m2.trans m3))

theorem medianAdj_ok {k : Hp} {data : Sl} {d : Array Int} {F : List Nat} {blk : Nat} {s a : Int} {Q : Int → Hp → Prop} (o : DA k data d F) (hF : blk ∉ F) (kb : Blk k blk [.int .i64 s]) (ha0 : 1 ≤ a) (ha : a + 1 < (d.size : Int)) (hs : d.size ≤ 140737488355328)
    (hq : ∀ r s' k', a - 1 ≤ r → r ≤ a + 1 → DA k' data d F → Blk k' blk [.int .i64 s'] → Mv [blk] k [blk] k' → Q r k') : slices_medianAdjacentOrdered_int_w Try.prog data a (some ⟨blk, 0, none⟩) Q k := by
  unfold slices_medianAdjacentOrdered_int_w
  rw [wrap64 (n := a - 1) (by omega) (by omega), wrap64 (n := a + 1) (by omega) (by omega)]
  exact slices_medianOrdered_int_call (median_ok o hF kb (by omega) (by omega) (by omega) (by omega) (by omega) (by omega) fun r s' k' h1 o1 kb1 m1 => hq r s' k' (by omega) (by omega) o1 kb1 m1)

set_option maxHeartbeats 1000000 in
theorem choosePivot_ok {k : Hp} {data : Sl} {d : Array Int} {F : List Nat} {a b : Nat} {Q : Int → Int → Hp → Prop} (o : DA k data d F) (hab : a < b) (hb : b ≤ d.size) (hs : d.size ≤ 140737488355328)
    (hq : ∀ (r : Nat) hint k', a ≤ r → r < b → DA k' data d F → Mv F k F k' → Q (r : Int) hint k') : slices_choosePivotOrdered_int_w Try.prog data (a : Int) (b : Int) Q k := by
  unfold slices_choosePivotOrdered_int_w
  have hba : (b : Int) - (a : Int) = ((b - a : Nat) : Int) := by omega
  have htd : ((b - a : Nat) : Int).tdiv 4 = (((b - a) / 4 : Nat) : Int) := rfl
  rw [wrap64 (n := (b : Int) - (a : Int)) (by omega) (by omega), hba, htd]
  rw [wrap64 (n := (((b - a) / 4 : Nat) : Int)) (by omega) (by omega), wrap64 (n := (((b - a) / 4 : Nat) : Int) * 1) (by omega) (by omega), wrap64 (n := (((b - a) / 4 : Nat) : Int) * 2) (by omega) (by omega), wrap64 (n := (((b - a) / 4 : Nat) : Int) * 3) (by omega) (by omega),
    wrap64 (n := (a : Int) + (((b - a) / 4 : Nat) : Int) * 1) (by omega) (by omega), wrap64 (n := (a : Int) + (((b - a) / 4 : Nat) : Int) * 2) (by omega) (by omega), wrap64 (n := (a : Int) + (((b - a) / 4 : Nat) : Int) * 3) (by omega) (by omega)]
  have hl4 : 4 * ((b - a) / 4) ≤ b - a := Nat.mul_div_le _ _
  intro blk t hblk
  have l1 := set_new (o := .cells (([.int .i64 0] : List Value).toArray) t (0, 0)) hblk
  have kb1 : Blk (k.set blk (.cells (([.int .i64 0] : List Value).toArray) t (0, 0))) blk [.int .i64 0] := ⟨t, set_self⟩
  have hF : blk ∉ F := fun hc => o.known blk hc hblk
  have m0 : Mv [] k [blk] (k.set blk (.cells (([.int .i64 0] : List Value).toArray) t (0, 0))) := Mv.new hblk
  generalize k.set blk (.cells (([.int .i64 0] : List Value).toArray) t (0, 0)) = k1 at l1 kb1 m0
  have o1 : DA k1 data d F := o.mv (Mv.of_le [] l1) (by simp)
  have out : ∀ {k' : Hp}, Mv [blk] k1 [blk] k' → Mv F k F k' := fun m => (m0.trans m).sub (fun c hc => by cases hc) fun c hc => .inr (.inl hc)
  have give : ∀ (r : Int) (s : Int) (k' : Hp), (a : Int) ≤ r → r < (b : Int) → DA k' data d F → Blk k' blk [.int .i64 s] → Mv [blk] k1 [blk] k' →
      LdW none (shInt .i64) k' ⟨blk, 0, none⟩ fun x => (if (x == (0 : Int)) = true then Q r (1 : Int) k' else (if (x == (12 : Int)) = true then Q r (2 : Int) k' else Q r (0 : Int) k')) := by
    intro r s k' h0 h1 o' kb' m'
    have hr : ((r.toNat : Nat) : Int) = r := by omega
    refine blk_at (sh := shInt .i64) (x := s) kb' ?_
    have key : ∀ hint, Q r hint k' := fun hint => by
      have := hq r.toNat hint k' (by omega) (by omega) o' (out m')
      rw [hr] at this
      exact this
    split
    · exact key _
    · split
      · exact key _
      · exact key _
  refine ⟨by decide, by decide, by decide, ?_⟩
  by_cases h8 : ((b - a : Nat) : Int) ≥ 8
  · rw [if_pos (by simpa using h8)]
    refine JoinW3.intro (fun i j q k' => ∃ s, (a : Int) ≤ i ∧ i < (b : Int) ∧ (a : Int) ≤ j ∧ j < (b : Int) ∧ (a : Int) ≤ q ∧ q < (b : Int) ∧ DA k' data d F ∧ Blk k' blk [.int .i64 s] ∧ Mv [blk] k1 [blk] k') ?_ ?_
    · by_cases h50 : ((b - a : Nat) : Int) ≥ 50
      · rw [if_pos (by simpa using h50)]
        refine slices_medianAdjacentOrdered_int_call (medianAdj_ok o1 hF kb1 (by omega) (by omega) hs fun r2 s2 k2 a2 b2 o2 kb2 m2 => ?_)
        refine slices_medianAdjacentOrdered_int_call (medianAdj_ok o2 hF kb2 (by omega) (by omega) hs fun r3 s3 k3 a3 b3 o3 kb3 m3 => ?_)
        refine slices_medianAdjacentOrdered_int_call (medianAdj_ok o3 hF kb3 (by omega) (by omega) hs fun r4 s4 k4 a4 b4 o4 kb4 m4 => ?_)
        exact ⟨s4, by omega, by omega, by omega, by omega, by omega, by omega, o4, kb4, m2.trans (m3.trans m4)⟩
      · rw [if_neg (by simpa using h50)]
        exact ⟨0, by omega, by omega, by omega, by omega, by omega, by omega, o1, kb1, Mv.refl _ _⟩
    · rintro i j q k' ⟨s, h1, h2, h3, h4, h5, h6, o', kb', m'⟩
      refine slices_medianOrdered_int_call (median_ok o' hF kb' (by omega) (by omega) (by omega) (by omega) (by omega) (by omega) fun r s2 k2 hr o2 kb2 m2 => ?_)
      exact give r s2 k2 (by omega) (by omega) o2 kb2 (m'.trans m2)
  · rw [if_neg (by simpa using h8)]
    exact give _ 0 k1 (by omega) (by omega) o1 kb1 (Mv.refl _ _)

theorem next_ok {k : Hp} {blk : Nat} {v : Int} {Q : Int → Hp → Prop} (kb : Blk k blk [.int .u64 v]) (hq : ∀ r k', Blk k' blk [.int .u64 r] → Mv [blk] k [blk] k' → Q r k') : slices_xorshift_Next_w Try.prog (some ⟨blk, 0, none⟩) Q k := by
  unfold slices_xorshift_Next_w
  refine notNil (blk_at (sh := shInt .u64) (x := v) kb (notNil (blk_at (sh := shInt .u64) (x := v) kb ⟨by decide, notNil ?_⟩)))
  refine stW_blk (b := blk) (off := 0) kb (by simp) fun k1 m1 kb1 => ?_
  have kb1' : Blk k1 blk [.int .u64 (bitsI .xor .u64 v (shlI .u64 v 13))] := by simpa using kb1
  generalize bitsI .xor .u64 v (shlI .u64 v 13) = v1 at kb1'
  refine notNil (blk_at (sh := shInt .u64) (x := v1) kb1' (notNil (blk_at (sh := shInt .u64) (x := v1) kb1' ⟨by decide, notNil ?_⟩)))
  refine stW_blk (b := blk) (off := 0) kb1' (by simp) fun k2 m2 kb2 => ?_
  have kb2' : Blk k2 blk [.int .u64 (bitsI .xor .u64 v1 (shrI .u64 v1 7))] := by simpa using kb2
  generalize bitsI .xor .u64 v1 (shrI .u64 v1 7) = v2 at kb2'
  refine notNil (blk_at (sh := shInt .u64) (x := v2) kb2' (notNil (blk_at (sh := shInt .u64) (x := v2) kb2' ⟨by decide, notNil ?_⟩)))
  refine stW_blk (b := blk) (off := 0) kb2' (by simp) fun k3 m3 kb3 => ?_
  have kb3' : Blk k3 blk [.int .u64 (bitsI .xor .u64 v2 (shlI .u64 v2 17))] := by simpa using kb3
  generalize bitsI .xor .u64 v2 (shlI .u64 v2 17) = v3 at kb3'
  exact notNil (blk_at (sh := shInt .u64) (x := v3) kb3' (hq v3 k3 kb3' (m1.trans (m2.trans m3))))

theorem and_low {x : Int} {L : Nat} (hL : L ≤ 48) : 0 ≤ bitsI .and .u64 x (IntKind.wrap .u64 (((2 ^ L : Nat) : Int) - 1)) ∧ bitsI .and .u64 x (IntKind.wrap .u64 (((2 ^ L : Nat) : Int) - 1)) < ((2 ^ L : Nat) : Int) := by
  have hle : 2 ^ L ≤ 2 ^ 48 := Nat.pow_le_pow_right (by decide) hL
  have hpos : 0 < 2 ^ L := Nat.pow_pos (by decide)
  have h48 : (2 : Nat) ^ 48 = 281474976710656 := by decide
  generalize 2 ^ L = z at hle hpos ⊢
  have e : ((z : Int) - 1) = ((z - 1 : Nat) : Int) := by omega
  rw [e, wrapU64 (by omega) (by omega)]
  have hb : (BitVec.ofInt 64 x &&& BitVec.ofInt 64 ((z - 1 : Nat) : Int)).toNat ≤ z - 1 := by
    rw [BitVec.toNat_and]
    refine Nat.le_trans Nat.and_le_right ?_
    show (BitVec.ofNat 64 (z - 1)).toNat ≤ z - 1
    rw [BitVec.toNat_ofNat]
    exact Nat.mod_le _ _
  show 0 ≤ IntKind.wrap .u64 (((BitVec.ofInt 64 x &&& BitVec.ofInt 64 ((z - 1 : Nat) : Int)).toNat : Nat) : Int) ∧ IntKind.wrap .u64 (((BitVec.ofInt 64 x &&& BitVec.ofInt 64 ((z - 1 : Nat) : Int)).toNat : Nat) : Int) < (z : Int)
  rw [wrapU64 (by omega) (by omega)]
  omega

set_option maxHeartbeats 1000000 in
theorem breakPatterns_ok {k : Hp} {data : Sl} {d : Array Int} {F : List Nat} {a b : Nat} {Q : Hp → Prop} (o : DA k data d F) (hab : a ≤ b) (hb : b ≤ d.size) (hs : d.size ≤ 140737488355328)
    (hq : ∀ k' d', DA k' data d' F → Mv F k F k' → PermIn a b d d' → Q k') : slices_breakPatternsOrdered_int_w Try.prog data (a : Int) (b : Int) Q k := by
  unfold slices_breakPatternsOrdered_int_w
  have hba : (b : Int) - (a : Int) = ((b - a : Nat) : Int) := by omega
  have htd : ((b - a : Nat) : Int).tdiv 4 = (((b - a) / 4 : Nat) : Int) := rfl
  have hl4 : 4 * ((b - a) / 4) ≤ b - a := Nat.mul_div_le _ _
  rw [wrap64 (n := (b : Int) - (a : Int)) (by omega) (by omega), hba, htd]
  rw [wrap64 (n := (((b - a) / 4 : Nat) : Int)) (by omega) (by omega), wrap64 (n := (((b - a) / 4 : Nat) : Int) * 2) (by omega) (by omega), wrap64 (n := (a : Int) + (((b - a) / 4 : Nat) : Int) * 2) (by omega) (by omega),
    wrap64 (n := (a : Int) + (((b - a) / 4 : Nat) : Int) * 2 + 1) (by omega) (by omega), wrap64 (n := (a : Int) + (((b - a) / 4 : Nat) : Int) * 2 - 1) (by omega) (by omega)]
  by_cases h8 : ((b - a : Nat) : Int) ≥ 8
  · rw [if_pos (by simpa using h8)]
    intro blk t hblk
    have l1 := set_new (o := .cells (([.int .u64 0] : List Value).toArray) t (0, 0)) hblk
    have kb1 : Blk (k.set blk (.cells (([.int .u64 0] : List Value).toArray) t (0, 0))) blk [.int .u64 0] := ⟨t, set_self⟩
    have hF : blk ∉ F := fun hc => o.known blk hc hblk
    have m0 : Mv [] k [blk] (k.set blk (.cells (([.int .u64 0] : List Value).toArray) t (0, 0))) := Mv.new hblk
    generalize k.set blk (.cells (([.int .u64 0] : List Value).toArray) t (0, 0)) = k1 at l1 kb1 m0
    have o1 : DA k1 data d F := o.mv (Mv.of_le [] l1) (by simp)
    refine stW_blk (b := blk) (off := 0) kb1 (by simp) fun k2 m2 kb2 => ?_
    have o2 : DA k2 data d F := o1.mv m2 fun c hc => by simp; exact fun e => hF (e ▸ hc)
    refine slices_nextPowerOfTwo_call (nextPow_ok (by omega) ?_)
    have hb48 : bitsLen (b - a) ≤ 48 := (bitsLen_le_iff _ 48).2 (by omega)
    have hpow := two_pow_bitsLen_le (n := b - a) (by omega)
    refine ⟨by decide, ?_⟩
    have mF : Mv (F ++ [blk]) k (F ++ [blk]) k2 := (m0.trans m2).sub (fun c hc => by cases hc) fun c hc => by
      rcases List.mem_append.1 hc with hc | hc
      · exact .inr (.inl (List.mem_append_left _ hc))
      · exact .inl hc
    have fin : ∀ {k'}, Mv (F ++ [blk]) k (F ++ [blk]) k' → Mv F k F k' := fun m => ⟨fun c ob e hn => m.keep c ob e (fun hc => by
      rcases List.mem_append.1 hc with hc | hc
      · exact hn hc
      · rw [List.mem_singleton.1 hc, hblk] at e; cases e), fun c hc => .inl hc⟩
    refine LoopW1.intro (fun idx k' => ∃ d' v, DA k' data d' F ∧ Blk k' blk [.int .u64 v] ∧ Mv (F ++ [blk]) k (F ++ [blk]) k' ∧ PermIn a b d d' ∧ (a : Int) ≤ idx) (fun idx _ => ((b : Int) + 8 - idx).toNat) ⟨d, _, o2, by simpa using kb2, mF, permIn_refl d a b, by omega⟩ ?_
    rintro idx k' ⟨d', v, o', kb', m', hp, hi0⟩
    have hsz := hp.1
    refine ⟨by decide, ?_⟩
    by_cases hidx : idx ≤ (a : Int) + (((b - a) / 4 : Nat) : Int) * 2 + 1
    · rw [if_pos (decide_eq_true hidx)]
      refine slices_xorshift_Next_call (next_ok kb' fun r1 k5 kb5 m5 => ?_)
      have o5 : DA k5 data d' F := o'.mv m5 fun c hc => by simp; exact fun e => hF (e ▸ hc)
      obtain ⟨g0, g1⟩ := and_low (x := r1) hb48
      generalize bitsI .and .u64 r1 (IntKind.wrap .u64 (((2 ^ bitsLen (b - a) : Nat) : Int) - 1)) = w at g0 g1
      have hw : w < 2 * ((b - a : Nat) : Int) := by
        have : ((2 ^ bitsLen (b - a) : Nat) : Int) ≤ ((2 * (b - a) : Nat) : Int) := by exact_mod_cast hpow
        omega
      rw [wrap64 (n := w) (by omega) (by omega)]
      refine JoinW1.intro (fun other k6 => k6 = k5 ∧ 0 ≤ other ∧ other < ((b - a : Nat) : Int)) ?_ ?_
      · by_cases hwl : w ≥ ((b - a : Nat) : Int)
        · rw [if_pos (decide_eq_true hwl), wrap64 (by omega) (by omega)]
          exact ⟨rfl, by omega, by omega⟩
        · rw [if_neg fun hh => hwl (of_decide_eq_true hh)]
          exact ⟨rfl, by omega, by omega⟩
      · rintro other k6 ⟨rfl, q0, q1⟩
        rw [wrap64 (n := (a : Int) + other) (by omega) (by omega)]
        refine da_swap o5 (A := idx) (B := (a : Int) + other) (by omega) (by omega) (by omega) (by omega) fun k7 o7 m7 => ?_
        rw [wrap64 (n := idx + 1) (by omega) (by omega)]
        have kb7 : Blk k7 blk [.int .u64 r1] := kb5.mv m7 hF
        have m57 : Mv (F ++ [blk]) k' (F ++ [blk]) k7 := by
          have a1 : Mv (F ++ [blk]) k' (F ++ [blk]) k6 := m5.sub (fun c hc => List.mem_append_right _ hc) fun c hc => .inr (.inl hc)
          have a2 : Mv (F ++ [blk]) k6 (F ++ [blk]) k7 := m7.sub (fun c hc => List.mem_append_left _ hc) fun c hc => .inr (.inl hc)
          exact a1.trans a2
        exact ⟨⟨_, r1, o7, kb7, m'.trans m57, permIn_trans _ _ _ _ _ hp (swp_permIn d' a b idx.toNat ((a : Int) + other).toNat (by omega) (by omega) (by omega) (by omega) (by omega)), by omega⟩, by omega⟩
    · rw [if_neg fun hh => hidx (of_decide_eq_true hh)]
      exact hq k' d' o' (fin m') hp
  · rw [if_neg (by simpa using h8)]
    exact hq k d o (Mv.refl _ _) (permIn_refl d a b)

end Lf.Soint

/-
  The library's sort, whole.
-/
namespace Lf.Soint
open Go Go.Proofs Go.Sort

/-- What is left to be sorted makes the whole sorted. -/
def Rest (a b : Nat) (d : Array Int) (a1 b1 : Nat) (d1 : Array Int) : Prop := ∀ R, PermIn a1 b1 d1 R → SortedIn ltInt a1 b1 R → PermIn a b d R ∧ SortedIn ltInt a b R

theorem rest_perm {a b : Nat} {d : Array Int} {a1 b1 : Nat} {d1 d2 : Array Int} (r : Rest a b d a1 b1 d1) (hp : PermIn a1 b1 d1 d2) : Rest a b d a1 b1 d2 := fun R h1 h2 => r R (permIn_trans _ _ _ _ _ hp h1) h2

theorem rest_eq {a b : Nat} {d : Array Int} {a1 b1 pivot mid : Nat} {d3 d4 : Array Int} (r : Rest a b d a1 b1 d3) (ha : 0 < a1) (hp2 : pivot < b1) (hp1 : a1 ≤ pivot) (hb : b1 ≤ d3.size) (hB : Below ltInt a1 b1 d3) (hnl : ltInt d3[a1 - 1]! d3[pivot]! = false)
    (h1 : a1 < mid) (h2 : mid ≤ b1) (hperm : PermIn a1 b1 d3 d4) (hle : ∀ x : Nat, a1 ≤ x → x < mid → ltInt d3[pivot]! d4[x]! = false) (hgt : ∀ x : Nat, mid ≤ x → x < b1 → ltInt d3[pivot]! d4[x]! = true) :
    Rest a b d mid b1 d4 ∧ Below ltInt mid b1 d4 := by
  have h := swo_ltInt
  have hb4 : b1 ≤ d4.size := by rw [hperm.1]; exact hb
  have hge : ∀ x : Nat, a1 ≤ x → x < b1 → ltInt d3[x]! d3[pivot]! = false := fun x hx hx' => by
    rcases hB with h0 | hB
    · omega
    · exact h.ntrans _ _ _ (hB x hx hx') hnl
  have hge4 := permIn_all d3 d4 a1 b1 (fun x => ltInt x d3[pivot]! = false) hb hperm hge
  refine ⟨fun R hR hs => ?_, Or.inr fun x hx hx' => ?_⟩
  · refine r R (permIn_trans _ _ _ a1 b1 hperm (permIn_mono _ _ mid b1 a1 b1 (by omega) (Nat.le_refl _) hb4 hR)) ?_
    refine sorted_glue_eq h d3[pivot]! hs (fun x hx hx' => ?_) (fun x hx hx' => ?_) (permIn_all d4 R mid b1 (fun x => ltInt d3[pivot]! x = true) hb4 hR hgt)
    · rw [hR.2.1 x (Or.inl hx')]; exact hle x hx hx'
    · rw [hR.2.1 x (Or.inl hx')]; exact hge4 x hx (by omega)
  · cases hc : ltInt d4[x]! d4[mid - 1]! with
    | false => rfl
    | true =>
      have := h.trans _ _ _ (hgt x hx hx') hc
      rw [hle (mid - 1) (by omega) (by omega)] at this
      cases this

theorem rest_left {a b : Nat} {d : Array Int} {a1 b1 mid : Nat} {d3 d4 L : Array Int} (r : Rest a b d a1 b1 d3) (hb : b1 ≤ d3.size) (hp : Parted a1 b1 d3 d4 mid) (hL : PermIn a1 mid d4 L) (hsL : SortedIn ltInt a1 mid L) :
    Rest a b d (mid + 1) b1 L ∧ Below ltInt (mid + 1) b1 L := by
  obtain ⟨h1, h2, hperm, hlo, hhi⟩ := hp
  have hb4 : b1 ≤ d4.size := by rw [hperm.1]; exact hb
  have hbL : b1 ≤ L.size := by rw [hL.1]; exact hb4
  have eL : ∀ i, mid ≤ i → L[i]! = d4[i]! := fun i hi => hL.2.1 i (Or.inr hi)
  refine ⟨fun R hR hsR => ?_, Or.inr fun i hi hi' => by rw [Nat.add_sub_cancel, eL i (by omega), eL mid (Nat.le_refl _)]; exact hhi i (by omega) hi'⟩
  have eR : ∀ i, i ≤ mid → R[i]! = L[i]! := fun i hi => hR.2.1 i (Or.inl (by omega))
  refine r R (permIn_trans _ _ _ _ _ hperm (permIn_trans _ _ _ _ _ (permIn_mono _ _ a1 mid a1 b1 (Nat.le_refl _) (by omega) hb4 hL) (permIn_mono _ _ (mid + 1) b1 a1 b1 (by omega) (Nat.le_refl _) hbL hR))) ?_
  refine sorted_glue swo_ltInt (hsL.congr fun i _ hi' => eR i (by omega)) hsR (fun i hi hi' => ?_) (fun i hi hi' => ?_)
  · rw [eR i (by omega), eR mid (Nat.le_refl _), eL mid (Nat.le_refl _)]
    exact permIn_all d4 L a1 mid (fun x => ltInt x d4[mid]! = true) (by omega) hL hlo i hi hi'
  · rw [eR mid (Nat.le_refl _), eL mid (Nat.le_refl _)]
    exact permIn_all L R (mid + 1) b1 (fun x => ltInt x d4[mid]! = false) hbL hR (fun q hq hq' => by rw [eL q (by omega)]; exact hhi q (by omega) hq') i (by omega) hi'

theorem rest_right {a b : Nat} {d : Array Int} {a1 b1 mid : Nat} {d3 d4 L : Array Int} (r : Rest a b d a1 b1 d3) (hb : b1 ≤ d3.size) (hB : Below ltInt a1 b1 d3) (hp : Parted a1 b1 d3 d4 mid) (hL : PermIn (mid + 1) b1 d4 L) (hsL : SortedIn ltInt (mid + 1) b1 L) :
    Rest a b d a1 mid L ∧ Below ltInt a1 mid L := by
  obtain ⟨h1, h2, hperm, hlo, hhi⟩ := hp
  have hb4 : b1 ≤ d4.size := by rw [hperm.1]; exact hb
  have hbL : b1 ≤ L.size := by rw [hL.1]; exact hb4
  have eL : ∀ i, i ≤ mid → L[i]! = d4[i]! := fun i hi => hL.2.1 i (Or.inl (by omega))
  have hBa : Below ltInt a1 mid d4 := (hB.perm hb hperm).mono (by omega)
  refine ⟨fun R hR hsR => ?_, ?_⟩
  · have eR : ∀ i, mid ≤ i → R[i]! = L[i]! := fun i hi => hR.2.1 i (Or.inr hi)
    refine r R (permIn_trans _ _ _ _ _ hperm (permIn_trans _ _ _ _ _ (permIn_mono _ _ (mid + 1) b1 a1 b1 (by omega) (Nat.le_refl _) hb4 hL) (permIn_mono _ _ a1 mid a1 b1 (Nat.le_refl _) (by omega) hbL hR))) ?_
    refine sorted_glue swo_ltInt hsR (hsL.congr fun i hi _ => eR i (by omega)) (fun i hi hi' => ?_) (fun i hi hi' => ?_)
    · rw [eR mid (Nat.le_refl _), eL mid (Nat.le_refl _)]
      exact permIn_all L R a1 mid (fun x => ltInt x d4[mid]! = true) (by omega) hR (fun q hq hq' => by rw [eL q (by omega)]; exact hlo q hq hq') i hi hi'
    · rw [eR i (by omega), eR mid (Nat.le_refl _), eL mid (Nat.le_refl _)]
      exact permIn_all d4 L (mid + 1) b1 (fun x => ltInt x d4[mid]! = false) hb4 hL (fun q hq hq' => hhi q (by omega) hq') i (by omega) hi'
  · rcases hBa with h0 | hBa
    · exact Or.inl h0
    · exact Or.inr fun i hi hi' => by rw [eL i (by omega), eL (a1 - 1) (by omega)]; exact hBa i hi hi'

set_option maxHeartbeats 4000000 in
theorem pdq_ok : ∀ (n : Nat) {k : Hp} {data : Sl} {d : Array Int} {F : List Nat} {a b : Nat} {limit : Int} {Q : Hp → Prop} (_ : b - a ≤ n) (_ : DA k data d F) (_ : a ≤ b) (_ : b ≤ d.size) (_ : d.size ≤ 140737488355328) (_ : Below ltInt a b d)
    (_ : ∀ k' d', DA k' data d' F → Mv F k F k' → PermIn a b d d' → SortedIn ltInt a b d' → Q k'), slices_pdqsortOrdered_int_w Try.prog data (a : Int) (b : Int) limit Q k := by
  intro n
  induction n with
  | zero =>
    intro k data d F a b limit Q hn o hab hb hs hB hq
    unfold slices_pdqsortOrdered_int_w
    refine LoopW5.intro (fun a1 b1 _ _ _ k1 => a1 = (a : Int) ∧ b1 = (b : Int) ∧ k1 = k) (fun _ _ _ _ _ _ => 0) ⟨rfl, rfl, rfl⟩ ?_
    rintro a1 b1 l wb wp k1 ⟨rfl, rfl, rfl⟩
    refine JoinW5.intro (fun _ _ _ _ _ _ => False) ?_ (fun _ _ _ _ _ _ h => h.elim)
    rw [wrap64 (n := (b : Int) - (a : Int)) (by omega) (by omega), if_pos (by simp; omega)]
    exact slices_insertionSortOrdered_int_call (insertionSort_ok o hab hb hs hq)
  | succ n ih =>
    intro k data d F a b limit Q hn o hab hb hs hB hq
    unfold slices_pdqsortOrdered_int_w
    refine LoopW5.intro (fun a1 b1 _ _ _ k1 => ∃ (A B : Nat) (d1 : Array Int), a1 = (A : Int) ∧ b1 = (B : Int) ∧ DA k1 data d1 F ∧ Mv F k F k1 ∧ d1.size = d.size ∧ a ≤ A ∧ A ≤ B ∧ B ≤ b ∧ Below ltInt A B d1 ∧ Rest a b d A B d1) (fun a1 b1 _ _ _ _ => (b1 - a1).toNat)
      ⟨a, b, d, rfl, rfl, o, Mv.refl _ _, rfl, Nat.le_refl _, hab, Nat.le_refl _, hB, fun R h1 h2 => ⟨h1, h2⟩⟩ ?_
    rintro a1 b1 l wb wp k1 ⟨A, B, d1, rfl, rfl, o1, m1, hsz1, hA, hAB, hBb, hB1, hr⟩
    refine JoinW5.intro (fun a2 b2 _ _ _ k2 => (∃ (A' B' : Nat) (d2 : Array Int), a2 = (A' : Int) ∧ b2 = (B' : Int) ∧ DA k2 data d2 F ∧ Mv F k F k2 ∧ d2.size = d.size ∧ a ≤ A' ∧ A' ≤ B' ∧ B' ≤ b ∧ Below ltInt A' B' d2 ∧ Rest a b d A' B' d2) ∧ (b2 - a2).toNat < ((B : Int) - (A : Int)).toNat) ?_ (fun _ _ _ _ _ _ h => h)
    rw [wrap64 (n := (B : Int) - (A : Int)) (by omega) (by omega)]
    have whole : ∀ {k' : Hp} {d' : Array Int}, DA k' data d' F → Mv F k1 F k' → PermIn A B d1 d' → SortedIn ltInt A B d' → Q k' := fun o' m' h1 h2 => by
      obtain ⟨h3, h4⟩ := hr _ h1 h2
      exact hq _ _ o' (m1.trans m') h3 h4
    by_cases h12 : (B : Int) - (A : Int) ≤ 12
    · rw [if_pos (decide_eq_true h12)]
      exact slices_insertionSortOrdered_int_call (insertionSort_ok o1 hAB (by omega) (by omega) fun k' d' o' m' h1 h2 => whole o' m' h1 h2)
    rw [if_neg fun hh => h12 (of_decide_eq_true hh)]
    by_cases hl : l = 0
    · rw [if_pos (by simpa using hl)]
      exact slices_heapSortOrdered_int_call (heapSort_ok o1 hAB (by omega) (by omega) fun k' d' o' m' h1 h2 => whole o' m' h1 h2)
    rw [if_neg (by simpa using hl)]
    refine JoinW1.intro (fun _ k2 => ∃ d2, DA k2 data d2 F ∧ Mv F k1 F k2 ∧ PermIn A B d1 d2) ?_ ?_
    · split
      · exact slices_breakPatternsOrdered_int_call (breakPatterns_ok o1 hAB (by omega) (by omega) fun k' d' o' m' h1 => ⟨d', o', m', h1⟩)
      · exact ⟨d1, o1, Mv.refl _ _, permIn_refl _ _ _⟩
    · rintro l2 k2 ⟨d2, o2, m2, hp2⟩
      have hsz2 : d2.size = d.size := hp2.1.trans hsz1
      refine slices_choosePivotOrdered_int_call (choosePivot_ok o2 (by omega) (by omega) (by omega) fun r hint k3 hr0 hr1 o3 m3 => ?_)
      refine JoinW2.intro (fun pivot _ k4 => ∃ (p : Nat) (d4 : Array Int), pivot = (p : Int) ∧ A ≤ p ∧ p < B ∧ DA k4 data d4 F ∧ Mv F k1 F k4 ∧ PermIn A B d1 d4) ?_ ?_
      · split
        · refine slices_reverseRangeOrdered_int_call (reverse_ok o3 (by omega) (by omega) (by omega) fun k' d' o' m' h1 => ?_)
          rw [wrap64 (n := (B : Int) - 1) (by omega) (by omega), wrap64 (n := (r : Int) - (A : Int)) (by omega) (by omega), wrap64 (by omega) (by omega)]
          exact ⟨B - 1 - (r - A), d', by omega, by omega, by omega, o', m2.trans (m3.trans m'), permIn_trans _ _ _ _ _ hp2 h1⟩
        · exact ⟨r, d2, rfl, hr0, hr1, o3, m2.trans m3, hp2⟩
      · rintro pivot hint4 k4 ⟨p, d4, rfl, hp0, hp1, o4, m4, hp4⟩
        have hsz4 : d4.size = d.size := hp4.1.trans hsz1
        have hB4 : Below ltInt A B d4 := hB1.perm (by omega) hp4
        refine JoinW0.intro (fun k5 => ∃ d5, DA k5 data d5 F ∧ Mv F k1 F k5 ∧ PermIn A B d1 d5) ?_ ?_
        · refine letW (letW ?_)
          split
          · refine slices_partialInsertionSortOrdered_int_call (partial_ok o4 (by omega) (by omega) (by omega) hB4 fun r2 k' d' o' m' h1 h2 => ?_)
            cases r2 with
            | true =>
              rw [if_pos rfl]
              exact whole o' (m4.trans m') (permIn_trans _ _ _ _ _ hp4 h1) (h2 rfl)
            | false =>
              rw [if_neg (by simp)]
              exact ⟨d', o', m4.trans m', permIn_trans _ _ _ _ _ hp4 h1⟩
          · exact ⟨d4, o4, m4, hp4⟩
        · rintro k5 ⟨d5, o5, m5, hp5⟩
          have hsz5 : d5.size = d.size := hp5.1.trans hsz1
          have hB5 : Below ltInt A B d5 := hB1.perm (by omega) hp5
          have hr5 : Rest a b d A B d5 := rest_perm hr hp5
          rw [wrap64 (n := (A : Int) - 1) (by omega) (by omega)]
          have e1 : ((A : Int) - 1).toNat = A - 1 := by omega
          have e2 : ((p : Nat) : Int).toNat = p := by omega
          refine da_getC o5 (fun hc => ?_) fun x hx => ?_
          · have : (A : Int) > 0 := by simpa using hc
            omega
          refine da_getC o5 (fun hc => by omega) fun x1 hx1 => ?_
          rw [e1] at hx
          rw [e2] at hx1
          have cont : ∀ (r2 : Bool), (decide ((A : Int) > 0) = true → r2 = ltInt d5[A - 1]! d5[p]!) → LetW ((decide ((A : Int) > (0 : Int))) && (!r2)) fun y =>
 (if y = true then
 CallT Try.prog n_slices_partitionEqualOrdered_int [data.v, (.int .i64 (A : Int)), (.int .i64 (B : Int)), (.int .i64 (p : Int))] (shInt .i64) (fun r3 h7 =>
 (∃ (A' B' : Nat) (d2 : Array Int), r3 = (A' : Int) ∧ (B : Int) = (B' : Int) ∧ DA h7 data d2 F ∧ Mv F k F h7 ∧ d2.size = d.size ∧ a ≤ A' ∧ A' ≤ B' ∧ B' ≤ b ∧ Below ltInt A' B' d2 ∧ Rest a b d A' B' d2) ∧ ((B : Int) - r3).toNat < ((B : Int) - (A : Int)).toNat) k5
 else
 Call2 Try.prog n_slices_partitionOrdered_int [data.v, (.int .i64 (A : Int)), (.int .i64 (B : Int)), (.int .i64 (p : Int))] (shInt .i64) shBool (fun r3 r4 h7 =>
 ((8 : Int) ≠ (0 : Int) ∧ (if (decide ((IntKind.wrap .i64 (r3 - (A : Int))) < (IntKind.wrap .i64 ((B : Int) - r3)))) = true then
 Call0 Try.prog n_slices_pdqsortOrdered_int [data.v, (.int .i64 (A : Int)), (.int .i64 r3), (.int .i64 l2)] (fun h8 =>
 (∃ (A' B' : Nat) (d2 : Array Int), IntKind.wrap .i64 (r3 + (1 : Int)) = (A' : Int) ∧ (B : Int) = (B' : Int) ∧ DA h8 data d2 F ∧ Mv F k F h8 ∧ d2.size = d.size ∧ a ≤ A' ∧ A' ≤ B' ∧ B' ≤ b ∧ Below ltInt A' B' d2 ∧ Rest a b d A' B' d2) ∧ ((B : Int) - IntKind.wrap .i64 (r3 + (1 : Int))).toNat < ((B : Int) - (A : Int)).toNat) h7
 else
 Call0 Try.prog n_slices_pdqsortOrdered_int [data.v, (.int .i64 (IntKind.wrap .i64 (r3 + (1 : Int)))), (.int .i64 (B : Int)), (.int .i64 l2)] (fun h8 =>
 (∃ (A' B' : Nat) (d2 : Array Int), (A : Int) = (A' : Int) ∧ r3 = (B' : Int) ∧ DA h8 data d2 F ∧ Mv F k F h8 ∧ d2.size = d.size ∧ a ≤ A' ∧ A' ≤ B' ∧ B' ≤ b ∧ Below ltInt A' B' d2 ∧ Rest a b d A' B' d2) ∧ (r3 - (A : Int)).toNat < ((B : Int) - (A : Int)).toNat) h7))) k5) := by
            intro r2 hr2
            refine letW ?_
            cases hy : (decide ((A : Int) > (0 : Int)) && !r2) with
            | true =>
              rw [if_pos rfl]
              simp only [Bool.and_eq_true, Bool.not_eq_true'] at hy
              have hA0 : (A : Int) > 0 := of_decide_eq_true hy.1
              have hnl := hr2 hy.1
              rw [hy.2] at hnl
              refine slices_partitionEqualOrdered_int_call (partitionEqual_ok o5 hp0 hp1 (by omega) (by omega) fun mid k6 d6 o6 m6 g1 g2 g3 g4 g5 => ?_)
              obtain ⟨h1, h2⟩ := rest_eq hr5 (by omega) hp1 hp0 (by omega) hB5 hnl.symm g1 g2 g3 g4 g5
              exact ⟨⟨mid, B, d6, rfl, rfl, o6, m1.trans (m5.trans m6), g3.1.trans hsz5, by omega, g2, hBb, h2, h1⟩, by omega⟩
            | false =>
              rw [if_neg (by simp)]
              refine slices_partitionOrdered_int_call (partition_ok o5 hp0 hp1 (by omega) (by omega) fun mid ap k6 d6 o6 m6 hpt => ?_)
              refine ⟨by decide, ?_⟩
              have hpt0 := hpt
              obtain ⟨g1, g2, g3, g4, g5⟩ := hpt
              have hsz6 : d6.size = d.size := g3.1.trans hsz5
              rw [wrap64 (n := (mid : Int) - (A : Int)) (by omega) (by omega), wrap64 (n := (B : Int) - (mid : Int)) (by omega) (by omega), wrap64 (n := (mid : Int) + 1) (by omega) (by omega)]
              have em : (mid : Int) + 1 = ((mid + 1 : Nat) : Int) := by omega
              rw [em]
              have hB6 : Below ltInt A B d6 := hB5.perm (by omega) g3
              by_cases hside : (mid : Int) - (A : Int) < (B : Int) - (mid : Int)
              · rw [if_pos (decide_eq_true hside)]
                refine slices_pdqsortOrdered_int_call (ih (by omega) o6 g1 (by omega) (by omega) (hB6.mono (by omega)) fun k7 d7 o7 m7 hL hsL => ?_)
                obtain ⟨h1, h2⟩ := rest_left hr5 (by omega) hpt0 hL hsL
                exact ⟨⟨mid + 1, B, d7, rfl, rfl, o7, m1.trans (m5.trans (m6.trans m7)), hL.1.trans hsz6, by omega, by omega, hBb, h2, h1⟩, by omega⟩
              · rw [if_neg fun hh => hside (of_decide_eq_true hh)]
                have hBr : Below ltInt (mid + 1) B d6 := Or.inr fun i hi hi' => by rw [Nat.add_sub_cancel]; exact g5 i (by omega) hi'
                refine slices_pdqsortOrdered_int_call (ih (by omega) o6 (by omega) (by omega) (by omega) hBr fun k7 d7 o7 m7 hL hsL => ?_)
                obtain ⟨h1, h2⟩ := rest_right hr5 (by omega) hB5 hpt0 hL hsL
                exact ⟨⟨A, mid, d7, rfl, rfl, o7, m1.trans (m5.trans (m6.trans m7)), hL.1.trans hsz6, by omega, by omega, by omega, h2, h1⟩, by omega⟩
          by_cases hA0 : (A : Int) > 0
          · have hc : decide ((A : Int) > 0) = true := decide_eq_true hA0
            refine ⟨fun _ => cmp_Less_int_call (less_ok (cont _ fun _ => ?_)), fun e => (by rw [hc] at e; cases e)⟩
            rw [hx hc, hx1 hc]
          · have hc : decide ((A : Int) > 0) = false := decide_eq_false hA0
            exact ⟨fun e => (by rw [hc] at e; cases e), fun _ => ⟨false, cont false fun e => by rw [hc] at e; cases e⟩⟩

/-- slices.Sort. -/
theorem sort_ok {k : Hp} {data : Sl} {xs : List Int} {F : List Nat} {Q : Hp → Prop} (o : OwnF k 1 eK data xs F) (hs : xs.length ≤ 140737488355328)
    (hq : ∀ k' ys, OwnF k' 1 eK data ys F → Mv F k F k' → ys.Perm xs → ys.Pairwise (· ≤ ·) → Q k') : slices_Sort_int_int_w Try.prog data Q k := by
  unfold slices_Sort_int_int_w
  have hl := o.1
  have e : (data.len : Int) = (xs.toArray.size : Int) := by simp [hl]
  rw [wrapU64 (n := (data.len : Int)) (by omega) (by omega)]
  refine math_bits_Len_call (len_ok (by omega) ?_)
  rw [e]
  have o' : DA k data xs.toArray F := o
  refine slices_pdqsortOrdered_int_call (a := ((0 : Nat) : Int)) (pdq_ok xs.toArray.size (by omega) o' (by omega) (by omega) (by simpa using hs) (Or.inl rfl) fun k' d' o2 m2 hp hsd => ?_)
  refine hq k' d'.toList o2 m2 ?_ ?_
  · have h3 := hp.2.2
    have h1 : d'.extract 0 xs.toArray.size = d' := by rw [← hp.1]; simp
    have h2 : xs.toArray.extract 0 xs.toArray.size = xs.toArray := by simp
    rw [h1, h2] at h3
    simpa using h3
  · refine List.pairwise_iff_getElem.2 fun i j hi hj hij => ?_
    have hi' : i < d'.size := by simpa using hi
    have hj' : j < d'.size := by simpa using hj
    have := hsd i j (by omega) hij (by rw [← hp.1]; exact hj')
    rw [getElem!_pos d' j hj', getElem!_pos d' i hi'] at this
    have h4 : ¬ d'[j] < d'[i] := by simpa [ltInt] using this
    have e1 : d'.toList[i] = d'[i] := by simp
    have e2 : d'.toList[j] = d'[j] := by simp
    rw [e1, e2]
    omega

end Lf.Soint

/-
  Rising lists, each number once.
-/
namespace Lf

/-- Numbers behind one, without those that are the one before. -/
def cmpR : Int → List Int → List Int
  | _, [] => []
  | p, x :: r => if x = p then cmpR p r else x :: cmpR x r

/-- A list without those that are the one before. -/
def cmpP : List Int → List Int
  | [] => []
  | x :: r => x :: cmpR x r

theorem cmpR_mem {y : Int} : ∀ {r : List Int} {p : Int}, y ∈ p :: cmpR p r ↔ y ∈ p :: r
  | [], p => by simp [cmpR]
  | x :: r, p => by
    simp only [cmpR]
    by_cases h : x = p
    · rw [if_pos h, cmpR_mem]
      subst h
      simp
    · rw [if_neg h]
      rw [List.mem_cons, cmpR_mem, List.mem_cons (b := p)]

theorem cmpP_mem {y : Int} {xs : List Int} : y ∈ cmpP xs ↔ y ∈ xs := by
  cases xs with
  | nil => simp [cmpP]
  | cons x r => exact cmpR_mem

theorem cmpR_asc : ∀ {r : List Int} {p : Int}, (p :: r).Pairwise (· ≤ ·) → (p :: cmpR p r).Pairwise (· < ·)
  | [], p, _ => by simp [cmpR]
  | x :: r, p, h => by
    simp only [cmpR]
    have h1 := List.pairwise_cons.1 h
    by_cases e : x = p
    · rw [if_pos e]
      subst e
      exact cmpR_asc h1.2
    · rw [if_neg e]
      have hx := cmpR_asc h1.2
      refine List.pairwise_cons.2 ⟨fun y hy => ?_, hx⟩
      have hp := h1.1 x (List.mem_cons_self ..)
      rcases List.mem_cons.1 hy with rfl | hy
      · omega
      · have := (List.pairwise_cons.1 hx).1 y hy
        omega

theorem cmpP_asc {xs : List Int} (h : xs.Pairwise (· ≤ ·)) : (cmpP xs).Pairwise (· < ·) := by
  cases xs with
  | nil => simp [cmpP]
  | cons x r => exact cmpR_asc h

/-- Rising lists of the same numbers are one. -/
theorem asc_eq : ∀ {xs ys : List Int}, xs.Pairwise (· < ·) → ys.Pairwise (· < ·) → (∀ z, z ∈ xs ↔ z ∈ ys) → xs = ys
  | [], [], _, _, _ => rfl
  | [], y :: ys, _, _, h => by have := (h y).2 (List.mem_cons_self ..); cases this
  | x :: xs, [], _, _, h => by have := (h x).1 (List.mem_cons_self ..); cases this
  | x :: xs, y :: ys, h1, h2, h => by
    obtain ⟨a1, a2⟩ := List.pairwise_cons.1 h1
    obtain ⟨b1, b2⟩ := List.pairwise_cons.1 h2
    have e : x = y := by
      rcases List.mem_cons.1 ((h x).1 (List.mem_cons_self ..)) with e | hx
      · exact e
      · rcases List.mem_cons.1 ((h y).2 (List.mem_cons_self ..)) with e | hy
        · exact e.symm
        · have := a1 y hy
          have := b1 x hx
          omega
    subst e
    have := asc_eq (xs := xs) (ys := ys) a2 b2 fun z => ⟨fun hz => by
      rcases List.mem_cons.1 ((h z).1 (List.mem_cons_of_mem _ hz)) with e | hz'
      · have := a1 z hz; omega
      · exact hz', fun hz => by
      rcases List.mem_cons.1 ((h z).2 (List.mem_cons_of_mem _ hz)) with e | hz'
      · have := b1 z hz; omega
      · exact hz'⟩
    rw [this]

theorem cmpP_short : ∀ {xs : List Int}, xs.length < 2 → cmpP xs = xs
  | [], _ => rfl
  | [x], _ => rfl
  | _ :: _ :: _, h => by simp at h; omega

end Lf

/-
  A ring from its least number on; a map's keys, rising.
-/
namespace Lf
open Go Go.Proofs

abbrev oI : Int → List Value := fun x => cellsL ((shInt .i64).enc x)

theorem cloneI_ok {s : Sl} {xs : List Int} {Q : Sl → Hp → Prop} {h : Hp} (r : Is h s xs) (hl : xs.length ≤ 100000000) (hq : ∀ out h' F, OwnF h' 1 oI out xs F → Mv [] h F h' → Q out h') : slices_Clone_int_int_w Try.prog s Q h := by
  unfold slices_Clone_int_int_w
  refine ⟨s.base.isNone, semIs_nilSl (tb_ok.und 25 ty25 rfl) s, ?_⟩
  cases hb : s.base with
  | none =>
    rw [if_pos (show (none : Option Addr).isNone = true from rfl)]
    have : xs = [] := by
      rcases r.2.2 with e | ⟨a, ha, _⟩
      · exact List.length_eq_zero_iff.1 (by omega)
      · rw [hb] at ha; cases ha
    subst this
    exact hq _ h [] ⟨rfl, Nat.le_refl _, .inl ⟨rfl, rfl, rfl⟩⟩ (Mv.refl _ _)
  | some a =>
    rw [if_neg (by simp)]
    refine newF (xs := ([] : List Int)) (enc := oI) (sz := 1) rfl (fun _ => rfl) fun b h1 hb1 hle1 m1 o1 => ?_
    refine appF (F := [b]) (l := ⟨some ⟨b, 0, none⟩, 0, 0⟩) o1 (Rw.mono hle1 r) (fun _ => rfl) (fun _ => rfl) rfl (by simp; omega) fun l' h' F' o' m' => ?_
    exact hq l' h' F' o' (m1.trans m')

theorem index_ok {s : Sl} {xs : List Int} {v : Int} {Q : Int → Hp → Prop} {h : Hp} (r : Is h s xs) (hl : xs.length ≤ 100000000) (hv : v ∈ xs) (hq : ∀ i : Nat, xs[i]? = some v → Q (i : Int) h) : slices_Index_int_int_w Try.prog s v Q h := by
  unfold slices_Index_int_int_w
  have hlen := r.1
  refine LoopW1.intro (fun i k => k = h ∧ 0 ≤ i ∧ i ≤ (xs.length : Int) ∧ v ∈ xs.drop i.toNat) (fun i _ => (xs.length - i).toNat) ⟨rfl, by omega, by omega, hv⟩ ?_
  rintro i k ⟨ek, hi0, hi1, hm⟩
  subst k
  by_cases e : i < (s.len : Int)
  · rw [if_pos (decide_eq_true e)]
    refine Rs.get r (fun _ => rfl) (by omega) hi0 (by omega) fun (x : Int) hx => ?_
    have hx' : xs[i.toNat]? = some x := hx
    by_cases hxv : v = x
    · rw [if_pos (by simpa using hxv)]
      have := hq i.toNat (by rw [hx', hxv])
      have e2 : ((i.toNat : Nat) : Int) = i := by omega
      rw [e2] at this
      exact this
    · rw [if_neg (by simpa using hxv), wrap64 (by omega) (by omega)]
      have hd : xs.drop i.toNat = x :: xs.drop (i.toNat + 1) := by
        obtain ⟨h3, h4⟩ := List.getElem?_eq_some_iff.1 hx'
        rw [List.drop_eq_getElem_cons h3, h4]
      rw [hd] at hm
      have e1 : (i + 1).toNat = i.toNat + 1 := by omega
      exact ⟨⟨rfl, by omega, by omega, by rw [e1]; exact (List.mem_cons.1 hm).resolve_left hxv⟩, by omega⟩
  · rw [List.drop_eq_nil_of_le (by omega)] at hm
    cases hm

theorem min_ok {s : Sl} {xs : List Int} {Q : Int → Hp → Prop} {h : Hp} (r : Is h s xs) (hl : xs.length ≤ 100000000) (hne : xs ≠ []) (hq : ∀ m, m ∈ xs → (∀ y ∈ xs, m ≤ y) → Q m h) : slices_Min_int_int_w Try.prog s Q h := by
  unfold slices_Min_int_int_w
  have hlen := r.1
  have hpos : 0 < xs.length := List.length_pos_iff.2 hne
  refine JoinW0.intro (fun k => k = h) ?_ ?_
  · rw [if_neg fun hh => by have := of_decide_eq_true hh; omega]
  · intro k ek
    subst k
    refine Rs.get r (fun _ => rfl) (by omega) (by omega) (by omega) fun (x : Int) hx => ?_
    have hx' : xs[0]? = some x := hx
    refine LoopW2.intro (fun m i k => k = h ∧ 1 ≤ i ∧ i ≤ (xs.length : Int) ∧ m ∈ xs ∧ ∀ y ∈ xs.take i.toNat, m ≤ y) (fun _ i _ => (xs.length - i).toNat) ⟨rfl, by omega, by omega, List.mem_of_getElem? hx', fun y hy => ?_⟩ ?_
    · cases xs with
      | nil => cases hy
      | cons z t =>
        cases hx'
        simp at hy
        omega
    · rintro m i k ⟨ek, hi0, hi1, hm, hlow⟩
      subst k
      by_cases e : i < (s.len : Int)
      · rw [if_pos (decide_eq_true e)]
        refine Rs.get r (fun _ => rfl) (by omega) (by omega) (by omega) fun (y : Int) hy => ?_
        have hy' : xs[i.toNat]? = some y := hy
        rw [wrap64 (by omega) (by omega)]
        have e1 : (i + 1).toNat = i.toNat + 1 := by omega
        refine ⟨⟨rfl, by omega, by omega, ?_, fun z hz => ?_⟩, by omega⟩
        · unfold min2I
          split
          · exact List.mem_of_getElem? hy'
          · exact hm
        · rw [e1, take_snoc hy'] at hz
          have := @min2_le m y
          rcases List.mem_append.1 hz with hz | hz
          · have := hlow z hz; omega
          · rw [List.mem_singleton.1 hz]; omega
      · rw [if_neg fun hh => e (of_decide_eq_true hh)]
        rw [List.take_of_length_le (by omega)] at hlow
        exact hq m hm hlow

/-- A ring that is come to somewhere is told from its least number on. -/
theorem turned_ok {N : Int → Option Int} {s : Sl} {c : List Int} {Q : Sl → Hp → Prop} {h : Hp} (r : Is h s c) (cc : s.len ≤ s.cap) (hl : c.length ≤ 50000000) (hc : Cyc N c)
    (hq : ∀ out d h' F, OwnF h' 1 oI out d F → Mv [] h F h' → Ring N d → (∀ x, x ∈ d ↔ x ∈ c) → Q out h') : graph_turned_w Try.prog s Q h := by
  unfold graph_turned_w
  have hlen := r.1
  have hne : c ≠ [] := fun e => by have := hc.ne; rw [e] at this; simp at this
  refine slices_Min_int_int_call (min_ok r (by omega) hne fun m hm hlow => ?_)
  refine slices_Index_int_int_call (index_ok r (by omega) hm fun i hi => ?_)
  have hil : i < c.length := (List.getElem?_eq_some_iff.1 hi).1
  have it : (i : Int).toNat = i := by omega
  rw [it]
  have hcap : c.length ≤ s.cap := by omega
  have hz : (0 : Int) ≤ (i : Int) ∧ (i : Int) ≤ (s.len : Int) := ⟨by omega, by omega⟩
  have hz2 : (0 : Int) ≤ (i : Int) ∧ (i : Int) ≤ (s.cap : Int) := ⟨by omega, by omega⟩
  refine ⟨hz, letW ⟨hz2, letW ?_⟩⟩
  have r1 : Is h ⟨sbase s.base 1 i s.cap, s.len - i, s.cap - i⟩ (c.drop i) := by
    have := Rw.cut (a := i) (b := c.length) (c := s.cap) (n := s.len - i) (m := s.cap - i) r (fun _ => rfl) (by omega) (Nat.le_refl _) (by omega) (by omega)
    rw [List.take_of_length_le (by rw [List.length_drop]; omega)] at this
    exact this
  have r2 : Is h ⟨sbase s.base 1 0 s.cap, i - 0, s.cap - 0⟩ (c.take i) := Rw.head r (fun _ => rfl) (by omega) (by omega) (by omega)
  refine slices_Clone_int_int_call (cloneI_ok r1 (by rw [List.length_drop]; omega) fun out h1 F o1 m1 => ?_)
  have l1 := (m1.le (Hp.le_refl h) fun b hb => by cases hb).1
  refine appF o1 (r2.mono l1) (fun _ => rfl) (fun _ => rfl) rfl (by rw [List.length_drop, List.length_take]; omega) fun l' h' F' o' m' => ?_
  have hp := rot_perm c i
  refine hq l' _ h' F' o' (m1.trans m') ⟨hc.rot (by omega), fun x hx => ?_⟩ fun x => hp.mem_iff
  rw [getD_rot (c := c) (a := i) (i := 0) (by omega) hc.ne, Nat.add_zero, Nat.mod_eq_of_lt hil]
  have : c.getD i 0 = m := by rw [List.getD_eq_getElem?_getD, hi]; rfl
  rw [this]
  exact hlow x (hp.mem_iff.1 hx)

/-- slices.Sorted(maps.Keys(m)). -/
theorem sortedKeys_ok {h : Hp} {m b : Nat} {kvs : List (Int × Int)} {K : Sl → Hp → Prop} (s : MapS h m .i64 vI kvs) (hi : ∀ p ∈ kvs, (Lit.int .i64 p.1).wf = true) (hb : LdIs h ⟨b, 0, none⟩ [.map (some m)]) (hl : kvs.length ≤ 4194304)
    (hq : ∀ out ks h' F, OwnF h' 1 oI out ks F → Mv [] h F h' → ks.Pairwise (· < ·) → (∀ x, x ∈ ks ↔ x ∈ kvs.map (·.1)) → K out h') :
    CallT Try.prog n_slices_Sorted_int [.func (.func 52) #[] #[.pointer (some ⟨b, 0, none⟩)]] shSl K h := by
  refine slices_Sorted_int_call (seq := ⟨.func (.func 52) #[] #[.pointer (some ⟨b, 0, none⟩)], rfl⟩) ?_
  unfold slices_Sorted_int_w
  refine collect_ok s hi hb hl fun out ks h1 F1 o1 m1 hp => ?_
  have hlen : ks.length = kvs.length := by rw [hp.length_eq, List.length_map]
  refine slices_Sort_int_int_call (Soint.sort_ok o1 (by omega) fun h2 ys o2 m2 hp2 hs => ?_)
  have hnd : ys.Nodup := (hp2.trans hp).nodup_iff.2 s.nodup
  refine hq out ys h2 F1 o2 (m1.trans m2) ?_ fun x => (hp2.trans hp).mem_iff
  refine List.pairwise_iff_getElem.2 fun i j hi hj hij => ?_
  have h1 := List.pairwise_iff_getElem.1 hs i j hi hj hij
  have h2 := List.pairwise_iff_getElem.1 hnd i j hi hj hij
  omega

end Lf

/-
  A way from a number on, and what is marked of it.
-/
namespace Lf

section
variable {N : Int → Option Int}

/-- From one number on, step by step; one stands at the last one now. -/
structure Pass (N : Int → Option Int) (s : Int) (path : List Int) (p : Int) : Prop where
  nd : path.Nodup
  nx : ∀ j, j + 1 < path.length → N (path.getD j 0) = some (path.getD (j + 1) 0)
  now : (path = [] ∧ p = s) ∨ (0 < path.length ∧ path.getD 0 0 = s ∧ N (path.getD (path.length - 1) 0) = some p)

theorem Pass.start (s : Int) : Pass N s [] s := ⟨List.nodup_nil, fun j h => by simp at h, .inl ⟨rfl, rfl⟩⟩

theorem getD_app_l {l m : List Int} {i : Nat} (h : i < l.length) : (l ++ m).getD i 0 = l.getD i 0 := by
  rw [List.getD_eq_getElem?_getD, List.getD_eq_getElem?_getD, List.getElem?_append_left h]

theorem getD_app_r {l : List Int} {p : Int} : (l ++ [p]).getD l.length 0 = p := by
  rw [List.getD_eq_getElem?_getD, List.getElem?_append_right (Nat.le_refl _)]
  simp

theorem Pass.snoc {s p : Int} {path : List Int} (a : Pass N s path p) (hp : p ∉ path) : (path ++ [p]).Nodup ∧ (∀ j, j + 1 < (path ++ [p]).length → N ((path ++ [p]).getD j 0) = some ((path ++ [p]).getD (j + 1) 0)) ∧ (path ++ [p]).getD 0 0 = s := by
  refine ⟨List.nodup_append.2 ⟨a.nd, by simp, fun x hx y hy e => hp ?_⟩, fun j hj => ?_, ?_⟩
  · rw [List.mem_singleton.1 hy] at e; rw [← e]; exact hx
  · rw [List.length_append, List.length_singleton] at hj
    by_cases h : j + 1 < path.length
    · rw [getD_app_l (by omega), getD_app_l h]
      exact a.nx j h
    · have e : j + 1 = path.length := by omega
      rw [e, getD_app_r, getD_app_l (by omega)]
      rcases a.now with ⟨e1, _⟩ | ⟨_, _, h3⟩
      · rw [e1] at e; simp at e
      · rw [← h3]; congr 2; omega
  · rcases a.now with ⟨e1, e2⟩ | ⟨h1, h2, _⟩
    · rw [e1, e2]; rfl
    · rw [getD_app_l h1, h2]

theorem Pass.step {s p q : Int} {path : List Int} (a : Pass N s path p) (hp : p ∉ path) (hq : N p = some q) : Pass N s (path ++ [p]) q := by
  obtain ⟨h1, h2, h3⟩ := a.snoc hp
  refine ⟨h1, h2, .inr ⟨by simp, h3, ?_⟩⟩
  rw [List.length_append, List.length_singleton, Nat.add_sub_cancel, getD_app_r]
  exact hq

theorem Pass.it {s p : Int} {path : List Int} (a : Pass N s path p) : ∀ j, j < path.length → itN N j s = some (path.getD j 0)
  | 0, h => by
    rcases a.now with ⟨e1, _⟩ | ⟨_, h2, _⟩
    · rw [e1] at h; simp at h
    · rw [h2]; rfl
  | j + 1, h => by
    rw [itN_succ, a.it j (by omega), Option.bind_some]
    exact a.nx j h

theorem Pass.last {s p : Int} {path : List Int} (a : Pass N s path p) : itN N path.length s = some p := by
  rcases a.now with ⟨e1, e2⟩ | ⟨h1, _, h3⟩
  · rw [e1, e2]; rfl
  · have h4 := a.it (path.length - 1) (by omega)
    have : path.length = (path.length - 1) + 1 := by omega
    rw [this, itN_succ, h4, Option.bind_some]
    exact h3

theorem Pass.from_ {s p : Int} {path : List Int} (a : Pass N s path p) {j : Nat} (hj : j < path.length) : itN N (path.length - j) (path.getD j 0) = some p := by
  have h1 := a.last
  have h2 := itN_add (N := N) j (path.length - j) s
  rw [show j + (path.length - j) = path.length by omega, h1, a.it j hj, Option.bind_some] at h2
  exact h2.symm

theorem Pass.dead {s p : Int} {path : List Int} (a : Pass N s path p) (hp : ¬ Inf N p) : ¬ Inf N s ∧ ∀ x ∈ path, ¬ Inf N x := by
  refine ⟨fun h => hp ((inf_reach a.last).1 h), fun x hx h => ?_⟩
  obtain ⟨j, hj, rfl⟩ := mem_getD hx
  exact hp ((inf_reach (a.from_ hj)).1 h)

theorem Pass.cyc {s p : Int} {path : List Int} (a : Pass N s path p) {j : Nat} (hj : path[j]? = some p) : Cyc N (path.drop j) ∧ p ∈ path.drop j ∧ (path.drop j).getD 0 0 = p := by
  have hjl : j < path.length := (List.getElem?_eq_some_iff.1 hj).1
  have hl : (path.drop j).length = path.length - j := List.length_drop
  have hg : ∀ i, i < path.length - j → (path.drop j).getD i 0 = path.getD (j + i) 0 := fun i hi => by
    rw [List.getD_eq_getElem?_getD, List.getD_eq_getElem?_getD, List.getElem?_drop]
  have h0 : (path.drop j).getD 0 0 = p := by
    rw [hg 0 (by omega), Nat.add_zero, List.getD_eq_getElem?_getD, hj]; rfl
  refine ⟨⟨by rw [hl]; omega, a.nd.sublist (List.drop_sublist _ _), fun i hi => ?_⟩, ?_, h0⟩
  · rw [hl] at hi ⊢
    rw [hg i hi]
    by_cases h : i + 1 < path.length - j
    · rw [Nat.mod_eq_of_lt h, hg _ h, a.nx (j + i) (by omega)]
      rfl
    · have e : i + 1 = path.length - j := by omega
      rw [e, Nat.mod_self, h0]
      rcases a.now with ⟨e1, _⟩ | ⟨_, _, h3⟩
      · rw [e1] at hjl; simp at hjl
      · rw [← h3]; congr 2; omega
  · rw [← h0]
    exact getD_mem (by rw [hl]; omega)

/-- What is marked: with the way's own mark what is on the way; with elder ones what goes nowhere. -/
structure Marks (N : Int → Option Int) (D : List (Int × Int)) (v0 cur : Int) (path : List Int) : Prop where
  old : ∀ x v, kget x D = some v → (v = cur ∧ x ∈ path) ∨ (v0 ≤ v ∧ v < cur ∧ ¬ Inf N x)
  new : ∀ x ∈ path, kget x D = some cur

theorem Marks.nil {v0 cur : Int} : Marks N [] v0 cur [] := ⟨fun x v h => (by cases h), fun x h => by cases h⟩

theorem Marks.add {D : List (Int × Int)} {v0 cur p : Int} {path : List Int} (a : Marks N D v0 cur path) : Marks N (kset p cur D) v0 cur (path ++ [p]) := by
  refine ⟨fun x v h => ?_, fun x hx => ?_⟩
  · rw [kget_set] at h
    by_cases e : x = p
    · rw [if_pos e] at h; cases h
      exact .inl ⟨rfl, by simp [e]⟩
    · rw [if_neg e] at h
      rcases a.old x v h with ⟨h1, h2⟩ | h1
      · exact .inl ⟨h1, by simp [h2]⟩
      · exact .inr h1
  · rw [kget_set]
    by_cases e : x = p
    · rw [if_pos e]
    · rw [if_neg e]
      exact a.new x ((List.mem_append.1 hx).resolve_right fun h => e (List.mem_singleton.1 h))

theorem Marks.close {D : List (Int × Int)} {v0 cur : Int} {path : List Int} (a : Marks N D v0 cur path) (hv : v0 ≤ cur) (hd : ∀ x ∈ path, ¬ Inf N x) : Marks N D v0 (cur + 1) [] := by
  refine ⟨fun x v h => .inr ?_, fun x h => by cases h⟩
  rcases a.old x v h with ⟨rfl, h2⟩ | ⟨h1, h2, h3⟩
  · exact ⟨hv, by omega, hd x h2⟩
  · exact ⟨h1, by omega, h3⟩

/-- So many are not marked yet. -/
def left (U : List Int) (D : List (Int × Int)) : Nat := (U.filter fun x => (kget x D).isNone).length

theorem left_lt {U : List Int} {D : List (Int × Int)} {p c : Int} (hp : p ∈ U) (hn : kget p D = none) : left U (kset p c D) < left U D := by
  unfold left
  have hsub : (U.filter fun x => (kget x (kset p c D)).isNone) = ((U.filter fun x => (kget x D).isNone).filter fun x => !(x == p)) := by
    rw [List.filter_filter]
    refine List.filter_congr fun x _ => ?_
    rw [kget_set]
    by_cases e : x = p
    · simp [e]
    · simp [e]
  rw [hsub]
  have hm : p ∈ U.filter fun x => (kget x D).isNone := List.mem_filter.2 ⟨hp, by rw [hn]; rfl⟩
  have h1 := List.length_filter_lt_length_iff_exists (l := U.filter fun x => (kget x D).isNone) (p := fun x => !(x == p))
  exact h1.2 ⟨p, hm, by simp⟩

/-- All numbers that edges name. -/
def names (kvs : List (Int × Int)) : List Int := kvs.map (·.1) ++ kvs.map (·.2)

theorem names_key {kvs : List (Int × Int)} {x : Int} (h : x ∈ kvs.map (·.1)) : x ∈ names kvs := List.mem_append_left _ h

theorem names_val {kvs : List (Int × Int)} {x q : Int} (h : kget x kvs = some q) : q ∈ names kvs := List.mem_append_right _ (List.mem_map_of_mem (f := (·.2)) (kget_mem h))

end
end Lf

/-
  The reference's ring.
-/
namespace Lf
open Go Go.Proofs

theorem look_ok {h : Hp} {m : Nat} {kvs : List (Int × Int)} {a : Int} {K : Int → Bool → Prop} (s : MapS h m .i64 vI kvs) (h0 : kget a kvs = none → K 0 false) (h1 : ∀ v, kget a kvs = some v → K v true) :
    LookW none (.int .i64) (shInt .i64) (.int .i64 (0 : Int)) (some m) (.int .i64 a) h K := lookW_kv (sh := shInt .i64) s.kv (z := (0 : Int)) rfl h0 h1

theorem lookC_ok {h : Hp} {m : Nat} {kvs : List (Int × Int)} {a : Int} {b : Bool} {K : Int → Bool → Prop} (s : MapS h m .i64 vI kvs) (hk : ∀ x ok, (b = true → (kget a kvs = none ∧ x = 0 ∧ ok = false) ∨ (kget a kvs = some x ∧ ok = true)) → K x ok) :
    LookW (some b) (.int .i64) (shInt .i64) (.int .i64 (0 : Int)) (some m) (.int .i64 a) h K := by
  cases b with
  | false => exact ⟨(0 : Int), false, fun e => (by cases e), hk _ _ fun e => by cases e⟩
  | true =>
    obtain ⟨x, ok, h1, h2⟩ := look_ok (K := fun x ok => (kget a kvs = none ∧ x = 0 ∧ ok = false) ∨ (kget a kvs = some x ∧ ok = true)) (a := a) s (fun h => .inl ⟨h, rfl, rfl⟩) fun v h => .inr ⟨h, rfl⟩
    exact ⟨x, ok, fun _ => h1, hk x ok fun _ => h2⟩

theorem take_succ_getD {c : List Int} {j : Nat} (hj : j < c.length) : c.take (j + 1) = c.take j ++ [c.getD j 0] := by
  rw [getD_eq hj, List.take_succ_eq_append_getElem hj]

/-- The ring on which a number stands, from its least number on. -/
theorem told_ok {m : Nat} {kvs : List (Int × Int)} {c : List Int} {p : Int} {Q : Sl → Hp → Prop} {h : Hp} (s : MapS h m .i64 vI kvs) (hc : Cyc (fun a => kget a kvs) c) (hp : c.getD 0 0 = p) (hl : c.length ≤ 50000000)
    (hq : ∀ out d h' F, OwnF h' 1 oI out d F → Mv [] h F h' → Ring (fun a => kget a kvs) d → (∀ x, x ∈ d ↔ x ∈ c) → Q out h') : firebreakref20_told_w Try.prog (some m) p Q h := by
  unfold firebreakref20_told_w
  have h0 := hc.ne
  have nx0 : kget p kvs = some (c.getD (1 % c.length) 0) := by have := hc.nx 0 h0; rw [hp] at this; simpa using this
  refine look_ok s (fun e => (by rw [nx0] at e; cases e)) fun v hv => ?_
  rw [nx0] at hv
  cases hv
  refine LoopW2.intro (fun least q k => k = h ∧ ∃ j, 1 ≤ j ∧ j ≤ c.length ∧ q = c.getD (j % c.length) 0 ∧ least ∈ c.take j ∧ ∀ y ∈ c.take j, least ≤ y) (fun _ q _ => if q = p then 0 else c.length - c.findIdx (· == q))
    ⟨rfl, 1, by omega, h0, rfl, ?_, fun y hy => ?_⟩ ?_
  · rw [take_succ_getD h0, hp]; simp
  · rw [take_succ_getD h0, hp] at hy
    simp at hy
    omega
  rintro least q k ⟨ek, j, hj1, hjc, hq1, hle, hlow⟩
  subst k
  by_cases hjn : j = c.length
  · have e : q = p := by rw [hq1, hjn, Nat.mod_self]; exact hp
    rw [if_neg (by simp [e])]
    rw [hjn, List.take_length] at hle hlow
    -- from the least one on
    obtain ⟨i0, hi0, hil⟩ := mem_getD hle
    have hrot := hc.rot (a := i0) (by omega)
    have hrl : (c.drop i0 ++ c.take i0).length = c.length := (rot_perm c i0).length_eq
    have hr0 : (c.drop i0 ++ c.take i0).getD 0 0 = least := by
      rw [getD_rot (c := c) (a := i0) (i := 0) (by omega) h0, Nat.add_zero, Nat.mod_eq_of_lt hi0, hil]
    have hmem : ∀ x, x ∈ c.drop i0 ++ c.take i0 ↔ x ∈ c := fun x => (rot_perm c i0).mem_iff
    generalize c.drop i0 ++ c.take i0 = d at hrot hrl hr0 hmem
    have hd0 := hrot.ne
    refine newF (xs := [least]) (enc := oI) (sz := 1) rfl (fun _ => rfl) fun b h1 hb1 l1 m1 o1 => ?_
    have nxl : kget least kvs = some (d.getD (1 % d.length) 0) := by have := hrot.nx 0 hd0; rw [hr0] at this; simpa using this
    refine look_ok (s.mono l1) (fun e => (by rw [nxl] at e; cases e)) fun v hv => ?_
    rw [nxl] at hv
    cases hv
    refine LoopW2.intro (fun out q k => h ≤ k ∧ ∃ j F, 1 ≤ j ∧ j ≤ d.length ∧ out.len = j ∧ q = d.getD (j % d.length) 0 ∧ OwnF k 1 oI out (d.take j) F ∧ Mv [] h F k) (fun out _ _ => d.length - out.len)
      ⟨l1, 1, [b], by omega, hd0, rfl, rfl, by rw [take_succ_getD hd0, hr0]; exact o1, m1⟩ ?_
    rintro out q2 k ⟨hk, j2, F, hj21, hj22, hol, hq2, oo, mm⟩
    by_cases hjn2 : j2 = d.length
    · have e : q2 = least := by rw [hq2, hjn2, Nat.mod_self, hr0]
      rw [if_neg (by simp [e])]
      rw [hjn2, List.take_length] at oo
      exact hq _ d k F oo mm ⟨hrot, fun x hx => by rw [hr0]; exact hlow x ((hmem x).1 hx)⟩ hmem
    · have hjd : j2 < d.length := by omega
      rw [Nat.mod_eq_of_lt hjd] at hq2
      have hne : q2 ≠ least := fun e => by
        rw [hq2, ← hr0] at e
        have := getD_inj hrot.nd hjd hd0 e
        omega
      rw [if_pos (by simpa using hne)]
      refine newF (xs := [q2]) (enc := oI) (sz := 1) rfl (fun _ => rfl) fun b2 h2 hb2 l2 m2 o2 => ?_
      refine appF (oo.grow l2) (o2.rw fun _ => rfl) (fun _ => rfl) (fun _ => rfl) rfl (by simp; omega) fun out' h3 F3 o3 m3 => ?_
      have mm3 : Mv [] h F3 h3 := mm.trans ((Mv.of_le F l2).trans m3)
      have l3 : h ≤ h3 := (mm3.le (Hp.le_refl h) fun b hb => by cases hb).1
      have nxq : kget q2 kvs = some (d.getD ((j2 + 1) % d.length) 0) := by rw [hq2]; exact hrot.nx j2 hjd
      refine look_ok (s.mono l3) (fun e => (by rw [nxq] at e; cases e)) fun v hv => ?_
      rw [nxq] at hv
      cases hv
      have hol3 := o3.1
      rw [List.length_append, List.length_take] at hol3
      have e9 : d.take j2 ++ [q2] = d.take (j2 + 1) := by rw [take_succ_getD hjd, hq2]
      rw [e9] at o3
      refine ⟨⟨l3, j2 + 1, F3, by omega, by omega, ?_, rfl, o3, mm3⟩, ?_⟩
      · simp at hol3; omega
      · simp at hol3; omega
  · have hjd : j < c.length := by omega
    rw [Nat.mod_eq_of_lt hjd] at hq1
    have hne : q ≠ p := fun e => by
      rw [hq1, ← hp] at e
      have := getD_inj hc.nd hjd h0 e
      omega
    rw [if_pos (by simpa using hne)]
    have nxq : kget q kvs = some (c.getD ((j + 1) % c.length) 0) := by rw [hq1]; exact hc.nx j hjd
    refine look_ok s (fun e => (by rw [nxq] at e; cases e)) fun v hv => ?_
    rw [nxq] at hv
    cases hv
    have hidx : ∀ i, i < c.length → c.findIdx (· == c.getD i 0) = i := fun i hi => by
      have hlt : c.findIdx (· == c.getD i 0) < c.length := List.findIdx_lt_length_of_exists ⟨_, getD_mem hi, by simp⟩
      have h1 := List.findIdx_getElem (xs := c) (p := (· == c.getD i 0)) (w := hlt)
      have h2 : c.getD (c.findIdx (· == c.getD i 0)) 0 = c.getD i 0 := by rw [getD_eq hlt]; exact eq_of_beq h1
      exact getD_inj hc.nd hlt hi h2
    refine ⟨⟨rfl, j + 1, by omega, by omega, rfl, ?_, fun y hy => ?_⟩, ?_⟩
    · rw [take_succ_getD hjd, ← hq1]
      unfold min2I
      split
      · simp
      · exact List.mem_append_left _ hle
    · rw [take_succ_getD hjd, ← hq1] at hy
      have := @min2_le least q
      rcases List.mem_append.1 hy with hy | hy
      · have := hlow y hy; omega
      · rw [List.mem_singleton.1 hy]; omega
    · rw [if_neg hne, hq1, hidx j hjd]
      by_cases hj2 : j + 1 = c.length
      · rw [hj2, Nat.mod_self, hp, if_pos rfl]
        omega
      · have hj3 : j + 1 < c.length := by omega
        rw [Nat.mod_eq_of_lt hj3]
        split
        · omega
        · rw [hidx (j + 1) hj3]; omega

end Lf

/-
  The reference's ring, whole.
-/
namespace Lf
open Go Go.Proofs

theorem asc_of {ks ys : List Int} (hs : ys.Pairwise (· ≤ ·)) (hn : ys.Nodup) : ys.Pairwise (· < ·) := by
  refine List.pairwise_iff_getElem.2 fun i j hi hj hij => ?_
  have h1 := List.pairwise_iff_getElem.1 hs i j hi hj hij
  have h2 := List.pairwise_iff_getElem.1 hn i j hi hj hij
  omega

/-- Those ahead of a place in a rising list. -/
theorem below_take {ks : List Int} (asc : ks.Pairwise (· < ·)) {i : Nat} {s q : Int} (hs : ks[i]? = some s) (hq : q ∈ ks) (hlt : q < s) : q ∈ ks.take i := by
  obtain ⟨j, hj, rfl⟩ := List.mem_iff_getElem.1 hq
  obtain ⟨hi, rfl⟩ := List.getElem?_eq_some_iff.1 hs
  have hji : j < i := by
    rcases Nat.lt_trichotomy j i with h | h | h
    · exact h
    · subst h; omega
    · have := List.pairwise_iff_getElem.1 asc i j hi hj h; omega
  rw [List.mem_take_iff_getElem]
  exact ⟨j, by omega, rfl⟩

theorem mapS_one {h : Hp} {m : Nat} {a b : List (Int × Int)} (x : MapS h m .i64 vI a) (y : MapS h m .i64 vI b) : a = b := by
  obtain ⟨mes, ck, e1, e2, _⟩ := x
  obtain ⟨mes', ck', f1, f2, _⟩ := y
  rw [e1] at f1
  cases f1
  rw [e2] at f2
  have inj : ∀ (a b : List (Int × Int)), a.map (fun p => (Value.int .i64 p.1, vI p.2)) = b.map (fun p => (Value.int .i64 p.1, vI p.2)) → a = b := by
    intro a
    induction a with
    | nil => intro b h; cases b with
      | nil => rfl
      | cons y t => cases h
    | cons x t ih =>
      intro b h
      cases b with
      | nil => cases h
      | cons y u =>
        simp only [List.map_cons, List.cons.injEq, Prod.mk.injEq] at h
        obtain ⟨⟨h1, h2⟩, h3⟩ := h
        rw [ih u h3]
        cases x; cases y
        cases h1
        cases h2
        rfl
  exact inj a b f2

open Classical in
/-- So many are not marked yet, as the map has it. -/
noncomputable def leftM (U : List Int) (h : Hp) (m : Nat) : Nat := if e : ∃ W, MapS h m .i64 vI W then left U (Classical.choose e) else 0

theorem leftM_eq {U : List Int} {h : Hp} {m : Nat} {W : List (Int × Int)} (s : MapS h m .i64 vI W) : leftM U h m = left U W := by
  unfold leftM
  have e : ∃ W, MapS h m .i64 vI W := ⟨W, s⟩
  rw [dif_pos e, mapS_one (Classical.choose_spec e) s]

set_option maxRecDepth 20000 in
set_option maxHeartbeats 1000000 in
theorem refRing_ok {e : Sl} {es : List S_n2_int} {Q : Sl → Hp → Prop} {h : Hp} (r : Es h e es) (hl : es.length ≤ 2000000)
    (hq : ∀ out d ks h', h ≤ h' → Is h' out d → ks.Pairwise (· < ·) → (∀ x, x ∈ ks ↔ x ∈ (nextP es).map (·.1)) → Told (fun a => kget a (nextP es)) ks d → d.length ≤ 4000000 → Q out h') : firebreakref20_Ring_w Try.prog e Q h := by
  unfold firebreakref20_Ring_w
  have hkl := nextP_len es
  refine firebreakref20_Next_call (refNext_ok r hl fun m1 h1 hm1 mv1 ms1 => ?_)
  generalize nextP es = kvs at ms1 hkl hq
  have l1 : h ≤ h1 := (mv1.le (Hp.le_refl h) fun b hb => by cases hb).1
  refine newF (xs := ([] : List Int)) (enc := oI) (sz := 1) rfl (fun _ => rfl) fun b2 h2 hb2 l2 m2 o2 => ?_
  refine range_ok Try.underlying29 (ms1.mono l2) fun r3 h3 hr3 l3 m3 w3 => ?_
  have hm1k : h1 m1 ≠ none := ms1.known
  refine LoopW1.intro (fun begins k => h ≤ k ∧ ∃ ks F, Walk k r3 m1 .i64 vI kvs ks ∧ OwnF k 1 oI begins ks F ∧ ks.Nodup ∧ (∀ x ∈ ks, x ∈ kvs.map (·.1)) ∧ m1 ∉ F ∧ r3 ∉ F ∧ (∀ x ∈ F, h x = none)) (fun begins _ => kvs.length - begins.len)
    ⟨Hp.le_trans l1 (Hp.le_trans l2 l3), [], [b2], w3, o2.grow l3, List.nodup_nil, fun x hx => (by cases hx), fun hx => ?_, fun hx => ?_, fun x hx => ?_⟩ ?_
  · rw [List.mem_singleton.1 hx] at hm1k; exact hm1k hb2
  · rw [List.mem_singleton.1 hx] at hr3
    exact o2.known b2 (by simp) hr3
  · rw [List.mem_singleton.1 hx]; exact none_of_le l1 hb2
  rintro begins k ⟨hk, ks, F, wk, ob, hnd, hsub, hmF, hrF, hF⟩
  have hkn : ks.length ≤ (kvs.map (·.1)).length := nodup_len ks _ hnd hsub
  rw [List.length_map] at hkn
  have hbl := ob.1
  refine next_ok wk (fun rest hall => ?_) fun a v rest k2 hav hnk mv2 wk2 => ?_
  · -- all have come
    rw [if_neg (by simp)]
    refine firebreakref20_sorted_call (refSorted_ok _ (Nat.le_refl _) (ob.rw fun _ => rfl) ob.2.1 (by omega) fun rs ys h6 l6 rs6 _ hp hs => ?_)
    have hys : ys.Pairwise (· < ·) := asc_of (ks := ks) hs (hp.nodup_iff.2 hnd)
    have hym : ∀ x, x ∈ ys ↔ x ∈ kvs.map (·.1) := fun x => hp.mem_iff.trans ⟨hsub x, fun hx => by
      obtain ⟨p, hp', rfl⟩ := List.mem_map.1 hx
      exact hall p hp'⟩
    have ms6 : MapS h6 m1 .i64 vI kvs := wk.map.mono l6
    have hh6 := Hp.le_trans hk l6
    have hyl : ys.length ≤ 2000000 := by rw [hp.length_eq]; omega
    have hrl := rs6.1
    intro m4 hm4
    have mv4 : Mv [] h6 [m4] (h6.set m4 (.map #[] 0)) := Mv.new hm4
    have fr : ∀ {k : Hp}, Mv [] h6 [m4] k → h6 ≤ k := fun mv => (mv.le (Hp.le_refl h6) fun b hb => by cases hb).1
    refine LoopW1.intro (fun i k => Mv [] h6 [m4] k ∧ 0 ≤ i ∧ i ≤ (ys.length : Int) ∧ ∃ W, MapS k m4 .i64 vI W ∧ Marks (fun a => kget a kvs) W 1 (i + 1) [] ∧ ∀ q ∈ ys.take i.toNat, ¬ Inf (fun a => kget a kvs) q) (fun i _ => (ys.length - i).toNat)
      ⟨mv4, by omega, by omega, [], MapS.new, Marks.nil, fun q hq => by simp at hq⟩ ?_
    rintro i k ⟨mvk, hi0, hi1, W, msk, mk, hdead⟩
    have hk6 := fr mvk
    by_cases ei : i < (rs.len : Int)
    · rw [if_pos (decide_eq_true ei)]
      refine Rs.get (rs6.mono hk6) (fun _ => rfl) (by omega) hi0 (by omega) fun (s : Int) hs' => ?_
      have hs2 : ys[i.toNat]? = some s := hs'
      have hsm : s ∈ ys := List.mem_of_getElem? hs2
      have e1 : (i + 1).toNat = i.toNat + 1 := by omega
      -- what is told where nothing has been found
      have goOn : ∀ {k : Hp} {W : List (Int × Int)}, Mv [] h6 [m4] k → MapS k m4 .i64 vI W → Marks (fun a => kget a kvs) W 1 (i + 1 + 1) [] → ¬ Inf (fun a => kget a kvs) s →
          (Mv [] h6 [m4] k ∧ 0 ≤ IntKind.wrap .i64 (i + 1) ∧ IntKind.wrap .i64 (i + 1) ≤ (ys.length : Int) ∧ ∃ W, MapS k m4 .i64 vI W ∧ Marks (fun a => kget a kvs) W 1 (IntKind.wrap .i64 (i + 1) + 1) [] ∧ ∀ q ∈ ys.take (IntKind.wrap .i64 (i + 1)).toNat, ¬ Inf (fun a => kget a kvs) q) ∧ (ys.length - IntKind.wrap .i64 (i + 1)).toNat < (ys.length - i).toNat := by
        intro k W mv ms mk hd
        rw [wrap64 (by omega) (by omega)]
        refine ⟨⟨mv, by omega, by omega, W, ms, mk, fun q hq => ?_⟩, by omega⟩
        rw [e1, take_snoc hs2] at hq
        rcases List.mem_append.1 hq with hq | hq
        · exact hdead q hq
        · rw [List.mem_singleton.1 hq]; exact hd
      refine LoopW2.intro (fun p is k => Mv [] h6 [m4] k ∧ ∃ W path, MapS k m4 .i64 vI W ∧ Marks (fun a => kget a kvs) W 1 (i + 1) path ∧ path.Nodup ∧
          ((is = true ∧ p ∈ names kvs ∧ Pass (fun a => kget a kvs) s path p) ∨ (is = false ∧ kget p kvs = none ∧ (∀ x ∈ path, ¬ Inf (fun a => kget a kvs) x) ∧ ¬ Inf (fun a => kget a kvs) s)))
        (fun _ _ k => leftM (names kvs) k m4) ⟨mvk, W, [], msk, mk, List.nodup_nil, .inl ⟨rfl, names_key ((hym s).1 hsm), Pass.start s⟩⟩ ?_
      rintro p is k ⟨mv, W, path, ms, mk, hndp, hcase⟩
      have hk := fr mv
      have msn : MapS k m1 .i64 vI kvs := ms6.mono hk
      refine lookC_ok ms fun x1 ok hx => letW ?_
      rcases hcase with ⟨rfl, hpn, hpass⟩ | ⟨rfl, hnp, hdp, hds⟩
      · rcases hx rfl with ⟨hnw, rfl, rfl⟩ | ⟨hsw, rfl⟩
        · -- it is marked now
          rw [if_pos (by simp)]
          refine JoinW2.direct ?_
          have hpp : p ∉ path := fun hm => by rw [mk.new p hm] at hnw; cases hnw
          rw [wrap64 (n := i + 1) (by omega) (by omega)]
          refine mapSet_s (ev := vI) (v := i + 1) ms fun o _ ms' => ?_
          have mv' := mv.trans (Mv.set (h := k) (b := m4) (o := o))
          have mk' := mk.add (p := p)
          have hmeas : leftM (names kvs) (k.set m4 o) m4 < leftM (names kvs) k m4 := by
            rw [leftM_eq ms', leftM_eq ms]
            exact left_lt hpn hnw
          refine look_ok (ms6.mono (fr mv')) (fun hn => ?_) fun q hq' => ?_
          · rw [if_neg (by simp)]
            have hd := hpass.dead (not_inf hn)
            refine ⟨⟨mv', _, path ++ [p], ms', mk', (hpass.snoc hpp).1, .inr ⟨rfl, hn, fun x hx => ?_, hd.1⟩⟩, hmeas⟩
            rcases List.mem_append.1 hx with hx | hx
            · exact hd.2 x hx
            · rw [List.mem_singleton.1 hx]; exact not_inf hn
          · rw [if_pos rfl]
            exact ⟨⟨mv', _, path ++ [p], ms', mk', (hpass.snoc hpp).1, .inl ⟨rfl, names_val hq', hpass.step hpp hq'⟩⟩, hmeas⟩
        · have hx1 : 1 ≤ x1 := by rcases mk.old p x1 hsw with ⟨h1, _⟩ | ⟨h1, _⟩ <;> omega
          rw [if_neg (by simp; omega)]
          refine look_ok msn (fun hn => ?_) fun q hq' => ?_
          · refine lookC_ok ms fun x3 ok2 _ => letW ?_
            rw [if_neg (by simp)]
            have hd := hpass.dead (not_inf hn)
            exact goOn mv ms (mk.close (by omega) hd.2) hd.1
          · refine lookC_ok ms fun x3 ok2 hx3 => letW ?_
            have hx3' : x3 = x1 := by
              rcases hx3 rfl with ⟨h1, _⟩ | ⟨h1, _⟩
              · rw [hsw] at h1; cases h1
              · rw [hsw] at h1; cases h1; rfl
            subst hx3'
            rw [wrap64 (n := i + 1) (by omega) (by omega)]
            rcases mk.old p x3 hsw with ⟨h1, hpm⟩ | ⟨_, h1, hnp⟩
            · rw [if_pos (by simp [h1])]
              obtain ⟨j, hj⟩ := List.mem_iff_getElem?.1 hpm
              obtain ⟨hcyc, hpc, hc0⟩ := hpass.cyc hj
              have hpl : path.length ≤ (names kvs).length := nodup_len path _ hndp fun x hx => by
                obtain ⟨t, ht, rfl⟩ := mem_getD hx
                by_cases h0 : t = 0
                · subst h0
                  rcases hpass.now with ⟨e, _⟩ | ⟨_, e, _⟩
                  · rw [e] at ht; simp at ht
                  · rw [e]; exact names_key ((hym s).1 hsm)
                · have := hpass.nx (t - 1) (by omega)
                  rw [show t - 1 + 1 = t by omega] at this
                  exact names_val this
              have hnl : (names kvs).length = kvs.length + kvs.length := by unfold names; simp
              have hdl : (path.drop j).length ≤ 4000000 := by rw [List.length_drop]; omega
              refine firebreakref20_told_call (told_ok msn hcyc hc0 (by omega) fun out d h' F oo mvo hring hmem => ?_)
              have lo : k ≤ h' := (mvo.le (Hp.le_refl k) fun b hb => by cases hb).1
              have hdle : d.length ≤ (path.drop j).length := nodup_len d _ hring.nd fun y hy => (hmem y).1 hy
              refine hq out d ys h' (Hp.le_trans hh6 (Hp.le_trans hk lo)) (oo.rw fun _ => rfl) hys hym (.inr ⟨hring, s, hsm, ?_, fun q hqm hqs => hdead q (below_take hys hs2 hqm hqs), _, p, hpass.last, (hmem p).2 hpc⟩) (by omega)
              exact (inf_reach hpass.last).2 (hcyc.inf hpc)
            · rw [if_neg (by simp; omega)]
              have hd := hpass.dead hnp
              have := goOn mv ms (mk.close (by omega) hd.2) hd.1
              rw [wrap64 (by omega) (by omega)] at this
              exact this
      · rw [if_neg (by simp)]
        refine look_ok msn (fun hn => ?_) fun q hq' => ?_
        · refine lookC_ok ms fun x3 ok2 _ => letW ?_
          rw [if_neg (by simp)]
          exact goOn mv ms (mk.close (by omega) hdp) hds
        · rw [hnp] at hq'; cases hq'
    · rw [if_neg fun hh => ei (of_decide_eq_true hh)]
      rw [List.take_of_length_le (by omega)] at hdead
      exact hq _ [] ys k (Hp.le_trans hh6 hk6) (Rw.nil rfl) hys hym (.inl ⟨rfl, hdead⟩) (by simp)
  · rw [if_pos rfl]
    refine entry_ok wk2 fun v' _ => ?_
    have hrk : k r3 ≠ none := wk.known
    have hmk : k m1 ≠ none := wk.map.known
    have hkr : h r3 = none := none_of_le (Hp.le_trans l1 l2) hr3
    have l2' : h ≤ k2 := (mv2.le hk fun b hb => by rw [List.mem_singleton.1 hb]; exact hkr).1
    have ob2 : OwnF k2 1 oI begins ks F := ob.mv mv2 fun b hb hb' => hrF (by rw [← List.mem_singleton.1 hb']; exact hb)
    refine newF (xs := [a]) (enc := oI) (sz := 1) rfl (fun _ => rfl) fun b5 h5 hb5 l5 m5 o5 => ?_
    refine appF (ob2.grow l5) (o5.rw fun _ => rfl) (fun _ => rfl) (fun _ => rfl) rfl (by simp; omega) fun l' h6 F6 o6 m6 => ?_
    have w5 : Walk h5 r3 m1 .i64 vI kvs (ks ++ [a]) := wk2.mv m5 (by simp) (by simp)
    have lh := m6.le (Hp.le_trans l2' l5) hF
    have hol := o6.1
    rw [List.length_append, List.length_singleton] at hol
    have hnd' : (ks ++ [a]).Nodup := List.nodup_append.2 ⟨hnd, by simp, fun x hx y hy e => hnk (by rw [List.mem_singleton.1 hy] at e; rw [← e]; exact hx)⟩
    have hsub' : ∀ x ∈ ks ++ [a], x ∈ kvs.map (·.1) := fun x hx => by
      rcases List.mem_append.1 hx with hx | hx
      · exact hsub x hx
      · rw [List.mem_singleton.1 hx]; exact List.mem_map_of_mem (f := (·.1)) hav
    have hlen' := nodup_len _ _ hnd' hsub'
    rw [List.length_append, List.length_singleton, List.length_map] at hlen'
    have known5 : ∀ b, k b ≠ none → b ∉ F → b ∉ F6 := fun b hb hbF hbF6 => by
      rcases m6.from_ b hbF6 with h | h
      · exact hbF h
      · have h2n : k2 b = none := none_of_le l5 h
        by_cases hbr : b = r3
        · subst hbr; exact wk2.known h2n
        · cases e : k b with
          | none => exact hb e
          | some o => rw [mv2.keep b o e (by simp [hbr])] at h2n; cases h2n
    exact ⟨⟨lh.1, ks ++ [a], F6, w5.mv m6 hmF hrF, o6, hnd', hsub', known5 m1 hmk hmF, known5 r3 hrk hrF, lh.2⟩, by omega⟩

end Lf

/-
  The program's ring.
-/
namespace Lf
open Go Go.Proofs

theorem nextP_wf {es : List S_n2_int} (hw : ∀ x ∈ es, (Lit.int .i64 x.a0).wf = true) (hn : ((nextP es).map (·.1)).Nodup) : ∀ p ∈ nextP es, (Lit.int .i64 p.1).wf = true := fun p hp => by
  have h1 := kget_of_mem hn (show (p.1, p.2) ∈ nextP es from hp)
  have h2 := nextP_low es p.1
  rw [h1] at h2
  obtain ⟨⟨x, hx, hxa, _⟩, _⟩ := h2
  rw [← hxa]
  exact hw x hx

set_option maxRecDepth 20000 in
set_option maxHeartbeats 1000000 in
theorem ring_ok {e : Sl} {es : List S_n2_int} {Q : Sl → Hp → Prop} {h : Hp} (r : Es h e es) (hl : es.length ≤ 2000000) (hw : ∀ x ∈ es, (Lit.int .i64 x.a0).wf = true)
    (hq : ∀ out d ks h' F, h ≤ h' → OwnF h' 1 oI out d F → (∀ b ∈ F, h b = none) → ks.Pairwise (· < ·) → (∀ x, x ∈ ks ↔ x ∈ (nextP es).map (·.1)) → Told (fun a => kget a (nextP es)) ks d → d.length ≤ 4000000 → Q out h') : graph_Ring_w Try.prog e Q h := by
  unfold graph_Ring_w
  have hkl := nextP_len es
  have hlen := r.1
  intro m1 hm1
  refine LoopW1.intro (fun i k => Mv [] h [m1] k ∧ 0 ≤ i ∧ i ≤ (es.length : Int) ∧ MapS k m1 .i64 vI (nextP (es.take i.toNat))) (fun i _ => (es.length - i).toNat) ⟨Mv.new hm1, by omega, by omega, MapS.new⟩ ?_
  rintro i k ⟨mv, hi0, hi1, ms⟩
  by_cases he : i < (e.len : Int)
  · rw [if_pos (decide_eq_true he)]
    have rk : Es k e es := r.mvk mv fun a _ _ hb => by cases hb
    have e1 : (i + 1).toNat = i.toNat + 1 := by omega
    refine JoinW0.intro (fun k' => Mv [] h [m1] k' ∧ MapS k' m1 .i64 vI (nextP (es.take (i.toNat + 1)))) ?_ ?_
    · refine Rs.get (sh := sh_n2_int) rk (fun _ => rfl) (by omega) hi0 (by omega) fun (x : S_n2_int) hx => ?_
      have hx' : es[i.toNat]? = some x := hx
      have hset : ∀ {K : Hp → Prop}, (stepE (nextP (es.take i.toNat)) x = kset x.a0 x.a1 (nextP (es.take i.toNat))) → (∀ k', Mv [] h [m1] k' ∧ MapS k' m1 .i64 vI (nextP (es.take (i.toNat + 1))) → K k') → MapSetW (.int .i64) (some m1) (.int .i64 x.a0) (.int .i64 x.a1) K k := fun hs hk => by
        refine mapSet_s (ev := vI) (v := x.a1) ms fun o _ ms' => hk _ ⟨mv.trans Mv.set, ?_⟩
        rw [take_snoc hx', nextP_snoc, hs]
        exact ms'
      refine ⟨by omega, look_ok ms (fun hg => ?_) fun q hg => ?_⟩
      · refine ⟨fun e => (by cases e), letW ?_⟩
        rw [if_pos (by simp)]
        exact ⟨by omega, by omega, hset (by unfold stepE; rw [hg]) fun k' hk => hk⟩
      · refine ⟨fun _ => by omega, letW ?_⟩
        by_cases hlt : x.a1 < q
        · rw [if_pos (by simp [hlt])]
          exact ⟨by omega, by omega, hset (by unfold stepE; rw [hg]; simp [hlt]) fun k' hk => hk⟩
        · rw [if_neg (by simp [hlt])]
          refine ⟨mv, ?_⟩
          rw [take_snoc hx', nextP_snoc]
          have : stepE (nextP (es.take i.toNat)) x = nextP (es.take i.toNat) := by unfold stepE; rw [hg]; simp [hlt]
          rw [this]
          exact ms
    · rintro k' ⟨mv', ms'⟩
      rw [wrap64 (by omega) (by omega)]
      exact ⟨⟨mv', by omega, by omega, by rw [e1]; exact ms'⟩, by omega⟩
  rw [if_neg fun hh => he (of_decide_eq_true hh)]
  rw [List.take_of_length_le (by omega)] at ms
  have hwk := nextP_wf hw ms.nodup
  generalize nextP es = kvs at ms hkl hwk hq
  clear hi0 hi1 he i
  have lk : h ≤ k := (mv.le (Hp.le_refl h) fun b hb => by cases hb).1
  intro m2 hm2
  have l2 := set_new (o := .map #[] 0) hm2
  have ms2 := ms.mono l2
  have hm12 : m1 ≠ m2 := fun e => by rw [← e] at hm2; exact ms.known hm2
  refine maps_Keys_map_int_int_int_int_call ?_
  unfold maps_Keys_map_int_int_int_int_w
  intro b3 t3 hb3
  have l3 := set_new (o := .cells (([.map (some m1)] : List Value).toArray) t3 (0, 0)) hb3
  refine sortedKeys_ok (ms2.mono l3) hwk ldIs_new (by omega) fun r3 ys h6 F3 o3 mv3 hys hym => ?_
  have l6 := (mv3.le (Hp.le_refl _) fun b hb => by cases hb).1
  have hm26 : h6 m2 = some (.map #[] 0) := l6 _ _ (l3 _ _ set_self)
  have hF3 : m2 ∉ F3 := fun hm => by
    rcases mv3.from_ m2 hm with h | h
    · cases h
    · rw [l3 _ _ set_self] at h; cases h
  have hyl : ys.length ≤ 2000000 := by
    have := nodup_len ys _ (asc_nodup hys) fun x hx => (hym x).1 hx
    rw [List.length_map] at this
    omega
  -- what stays
  have hd6 : cutH h6 [m2] ≤ h6 := cut_le
  have hdh : h ≤ cutH h6 [m2] := le_cut (Hp.le_trans lk (Hp.le_trans l2 (Hp.le_trans l3 l6))) fun b hb => by rw [List.mem_singleton.1 hb]; exact none_of_le lk hm2
  have hdm : cutH h6 [m2] m2 = none := cut_none (by simp)
  have msd : MapS (cutH h6 [m2]) m1 .i64 vI kvs := (ms2.mono (Hp.le_trans l3 l6)).same (cut_eq (by simp [hm12]))
  have rd : Is (cutH h6 [m2]) r3 ys := (o3.cut fun b hb hb' => hF3 (by rw [← List.mem_singleton.1 hb']; exact hb)).rw fun _ => rfl
  have ms0 : MapS h6 m2 .i64 vI [] := ⟨[], 0, hm26, rfl, fun _ h => (by cases h), List.nodup_nil, List.nodup_nil⟩
  generalize cutH h6 [m2] = d at hd6 hdh hdm msd rd
  have hrl := rd.1
  refine LoopW1.intro (fun i k => d ≤ k ∧ 0 ≤ i ∧ i ≤ (ys.length : Int) ∧ ∃ W, MapS k m2 .i64 vI W ∧ Marks (fun a => kget a kvs) W 0 i [] ∧ ∀ q ∈ ys.take i.toNat, ¬ Inf (fun a => kget a kvs) q) (fun i _ => (ys.length - i).toNat)
    ⟨hd6, by omega, by omega, [], ms0, Marks.nil, fun q hq => by simp at hq⟩ ?_
  rintro i k ⟨hk, hi0, hi1, W, msk, mk, hdead⟩
  by_cases ei : i < (r3.len : Int)
  · rw [if_pos (decide_eq_true ei)]
    refine JoinW0.intro (fun k' => d ≤ k' ∧ ∃ W, MapS k' m2 .i64 vI W ∧ Marks (fun a => kget a kvs) W 0 (i + 1) [] ∧ ∀ q ∈ ys.take (i.toNat + 1), ¬ Inf (fun a => kget a kvs) q) ?_ ?_
    · refine Rs.get (rd.mono hk) (fun _ => rfl) (by omega) hi0 (by omega) fun (s : Int) hs' => ?_
      have hs2 : ys[i.toNat]? = some s := hs'
      have hsm : s ∈ ys := List.mem_of_getElem? hs2
      have goOn : ¬ Inf (fun a => kget a kvs) s → ∀ q ∈ ys.take (i.toNat + 1), ¬ Inf (fun a => kget a kvs) q := fun hd q hq => by
        rw [take_snoc hs2] at hq
        rcases List.mem_append.1 hq with hq | hq
        · exact hdead q hq
        · rw [List.mem_singleton.1 hq]; exact hd
      refine LoopW2.intro (fun p way k => d ≤ k ∧ ∃ W path F, MapS k m2 .i64 vI W ∧ OwnF k 1 oI way path F ∧ (∀ b ∈ F, d b = none) ∧ m2 ∉ F ∧ Marks (fun a => kget a kvs) W 0 i path ∧ p ∈ names kvs ∧ Pass (fun a => kget a kvs) s path p ∧ (∀ x ∈ path, x ∈ names kvs))
        (fun _ _ k => leftM (names kvs) k m2) ⟨hk, W, [], [], msk, ⟨rfl, Nat.le_refl _, .inl ⟨rfl, rfl, rfl⟩⟩, fun b hb => (by cases hb), (by simp), mk, names_key ((hym s).1 hsm), Pass.start s, fun x hx => (by cases hx)⟩ ?_
      rintro p way k ⟨hk, W, path, F, ms, ow, hF, hmF, mk, hpn, hpass, hpn2⟩
      have msn : MapS k m1 .i64 vI kvs := msd.mono hk
      have hpl : path.length ≤ (names kvs).length := nodup_len path _ hpass.nd hpn2
      have hnl : (names kvs).length = kvs.length + kvs.length := by unfold names; simp
      have hwl := ow.1
      have hwc := ow.2.1
      refine look_ok ms (fun hnw => ?_) fun x1 hsw => ?_
      · -- it is marked now
        rw [if_neg (by simp)]
        have hpp : p ∉ path := fun hm => by rw [mk.new p hm] at hnw; cases hnw
        refine mapSet_s (ev := vI) (v := i) ms fun o _ ms' => ?_
        have mvs : Mv [m2] k [m2] (k.set m2 o) := Mv.set
        have hk2 := (mvs.le hk fun b hb => by rw [List.mem_singleton.1 hb]; exact hdm).1
        have mk' := mk.add (p := p)
        have ow2 : OwnF (k.set m2 o) 1 oI way path F := ow.mv mvs fun b hb hb' => hmF (by rw [← List.mem_singleton.1 hb']; exact hb)
        have hmeas : leftM (names kvs) (k.set m2 o) m2 < leftM (names kvs) k m2 := by
          rw [leftM_eq ms', leftM_eq ms]
          exact left_lt hpn hnw
        refine newF (xs := [p]) (enc := oI) (sz := 1) rfl (fun _ => rfl) fun b5 h5 hb5 l5 m5 o5 => ?_
        refine appF (ow2.grow l5) (o5.rw fun _ => rfl) (fun _ => rfl) (fun _ => rfl) rfl (by simp; omega) fun way' h7 F7 o7 mv7 => ?_
        obtain ⟨hk7, hF7⟩ := mv7.le (Hp.le_trans hk2 l5) hF
        have ms7 := (ms'.mono l5).mv mv7 hmF
        have hm7 : m2 ∉ F7 := fun hm => by
          rcases mv7.from_ m2 hm with h | h
          · exact hmF h
          · exact ms'.known (none_of_le l5 h)
        have hmeas7 : leftM (names kvs) h7 m2 < leftM (names kvs) k m2 := by
          rw [leftM_eq ms7]
          rw [leftM_eq ms'] at hmeas
          exact hmeas
        refine look_ok (msd.mono hk7) (fun hn => ?_) fun q hq' => ?_
        · rw [if_pos (by simp)]
          have hd := hpass.dead (not_inf hn)
          refine ⟨hk7, _, ms7, mk'.close (by omega) fun x hx => ?_, goOn hd.1⟩
          rcases List.mem_append.1 hx with hx | hx
          · exact hd.2 x hx
          · rw [List.mem_singleton.1 hx]; exact not_inf hn
        · rw [if_neg (by simp)]
          refine ⟨⟨hk7, _, path ++ [p], F7, ms7, o7, hF7, hm7, mk', names_val hq', hpass.step hpp hq', fun x hx => ?_⟩, hmeas7⟩
          rcases List.mem_append.1 hx with hx | hx
          · exact hpn2 x hx
          · rw [List.mem_singleton.1 hx]; exact hpn
      · rw [if_pos rfl]
        rcases mk.old p x1 hsw with ⟨h1, hpm⟩ | ⟨_, h1, hnp⟩
        · rw [if_neg (by simp [h1])]
          have rw_ : Is k way path := ow.rw fun _ => rfl
          refine slices_Index_int_int_call (index_ok rw_ (by omega) hpm fun j hj => ?_)
          obtain ⟨hcyc, hpc, hc0⟩ := hpass.cyc hj
          have hjl : j < path.length := (List.getElem?_eq_some_iff.1 hj).1
          have hz : (0 : Int) ≤ (j : Int) ∧ (j : Int) ≤ (way.len : Int) := ⟨by omega, by omega⟩
          have jt : (j : Int).toNat = j := by omega
          rw [jt]
          refine ⟨hz, letW ?_⟩
          have rj : Is k ⟨sbase way.base 1 j way.cap, way.len - j, way.cap - j⟩ (path.drop j) := by
            have := Rw.cut (a := j) (b := path.length) (c := way.cap) (n := way.len - j) (m := way.cap - j) rw_ (fun _ => rfl) (by omega) (Nat.le_refl _) (by omega) (by omega)
            rw [List.take_of_length_le (by rw [List.length_drop]; omega)] at this
            exact this
          refine graph_turned_call (turned_ok rj (by show way.len - j ≤ way.cap - j; omega) (by rw [List.length_drop]; omega) hcyc fun out c h' F' oo mvo hring hmem => ?_)
          have lo : k ≤ h' := (mvo.le (Hp.le_refl k) fun b hb => by cases hb).1
          have hFo : ∀ b ∈ F', h b = none := fun b hb => none_of_le (Hp.le_trans hdh hk) ((mvo.from_ b hb).resolve_left fun h => by cases h)
          have hdle : c.length ≤ (path.drop j).length := nodup_len c _ hring.nd fun y hy => (hmem y).1 hy
          rw [List.length_drop] at hdle
          refine hq out c ys h' F' (Hp.le_trans hdh (Hp.le_trans hk lo)) oo hFo hys hym (.inr ⟨hring, s, hsm, (inf_reach hpass.last).2 (hcyc.inf hpc), fun q hqm hqs => hdead q (below_take hys hs2 hqm hqs), _, p, hpass.last, (hmem p).2 hpc⟩) (by omega)
        · rw [if_pos (by simp; omega)]
          have hd := hpass.dead hnp
          exact ⟨hk, _, ms, mk.close (by omega) hd.2, goOn hd.1⟩
    · rintro k' ⟨hk', W', ms', mk', hdead'⟩
      rw [wrap64 (by omega) (by omega)]
      have e1 : (i + 1).toNat = i.toNat + 1 := by omega
      exact ⟨⟨hk', by omega, by omega, W', ms', mk', by rw [e1]; exact hdead'⟩, by omega⟩
  · rw [if_neg fun hh => ei (of_decide_eq_true hh)]
    rw [List.take_of_length_le (by omega)] at hdead
    exact hq _ [] ys k [] (Hp.le_trans hdh hk) ⟨rfl, Nat.le_refl _, .inl ⟨rfl, rfl, rfl⟩⟩ (fun b hb => (by cases hb)) hys hym (.inl ⟨rfl, hdead⟩) (by simp)

end Lf

/-
  Edges that are the same; rings that the document fixes.
-/
namespace Lf
open Go Go.Proofs

def WfE (x : S_n2_int) : Prop := (Lit.int .i64 x.a0).wf = true ∧ (Lit.int .i64 x.a1).wf = true

theorem neq_same {h : Hp} {x y : Operand} {e : S_n2_int} (hw : WfE e) : SemIs Try.prog (binS .neq 24 x y e.v e.v) h (.bool false) := by
  refine semIs_of_run fun w => ?_
  have hk : Try.prog.keyLits 3 24 [.int .i64 e.a0, .int .i64 e.a1] = some [.int .i64 e.a0, .int .i64 e.a1] := by
    have hc : Try.prog.cellsOf 24 = 2 := by kernel_rfl
    have hc1 : Try.prog.cellsOf 3 = 1 := by kernel_rfl
    simp [Program.keyLits, Try.underlying24, Try.underlying3, hc, hc1, show List.range 2 = [0, 1] from rfl, hw.1, hw.2]
  obtain ⟨r, h1, h2⟩ := run_equalIn_deep (P := Try.prog) 9997 3 24 (by kernel_rfl) w 3 3 e.v e.v _ _ (by kernel_rfl) (by kernel_rfl) hk hk
  have hr : r = true := h2.2 rfl
  subst hr
  have hg : Try.prog.eqGuardType Try.prog.depth 24 = false := by kernel_rfl
  unfold binS
  unfold S_n2_int.v at h1 ⊢
  simp only [Sem.run_bind, run_eqGuard_agg (P := Try.prog) w .neq 24 x y _ _ hg, Result.andThen_ok, run_neq_struct]
  rw [show (10000 : Nat) = 9997 + 3 from rfl, h1]
  rfl

theorem edges_ok {a b : Sl} {es : List S_n2_int} {Q : Bool → Hp → Prop} {h : Hp} (ra : Es h a es) (rb : Es h b es) (hl : es.length ≤ 100000000) (hw : ∀ x ∈ es, WfE x) (hq : Q true h) : firebreaklaw20_edges_w Try.prog a b Q h := by
  unfold firebreaklaw20_edges_w
  have h1 := ra.1
  have h2 := rb.1
  rw [if_neg (show ¬ (((a.len : Int) != (b.len : Int)) = true) by simp; omega)]
  refine LoopW1.intro (fun i k => k = h ∧ 0 ≤ i ∧ i ≤ (es.length : Int)) (fun i _ => (es.length - i).toNat) ⟨rfl, by omega, by omega⟩ ?_
  rintro i k ⟨ek, hi0, hi1⟩
  subst k
  by_cases e : i < (a.len : Int)
  · rw [if_pos (decide_eq_true e)]
    refine Rs.get (sh := sh_n2_int) ra (fun _ => rfl) (by omega) hi0 (by omega) fun (x : S_n2_int) hx => ?_
    refine Rs.get (sh := sh_n2_int) rb (fun _ => rfl) (by omega) hi0 (by omega) fun (y : S_n2_int) hy => ?_
    rw [hx] at hy; cases hy
    refine ⟨false, neq_same (hw x (List.mem_of_getElem? hx)), ?_⟩
    dsimp only
    rw [if_neg (by simp), wrap64 (by omega) (by omega)]
    exact ⟨⟨rfl, by omega, by omega⟩, by omega⟩
  · rw [if_neg fun hh => e (of_decide_eq_true hh)]
    exact hq

theorem ints_ok {a b : Sl} {xs : List Int} {Q : Bool → Hp → Prop} {h : Hp} (ra : Is h a xs) (rb : Is h b xs) (hl : xs.length ≤ 100000000) (hq : Q true h) : firebreaklaw20_ints_w Try.prog a b Q h := by
  unfold firebreaklaw20_ints_w
  have h1 := ra.1
  have h2 := rb.1
  rw [if_neg (show ¬ (((a.len : Int) != (b.len : Int)) = true) by simp; omega)]
  refine LoopW1.intro (fun i k => k = h ∧ 0 ≤ i ∧ i ≤ (xs.length : Int)) (fun i _ => (xs.length - i).toNat) ⟨rfl, by omega, by omega⟩ ?_
  rintro i k ⟨ek, hi0, hi1⟩
  subst k
  by_cases e : i < (a.len : Int)
  · rw [if_pos (decide_eq_true e)]
    refine Rs.get ra (fun _ => rfl) (by omega) hi0 (by omega) fun (x : Int) hx => ?_
    refine Rs.get rb (fun _ => rfl) (by omega) hi0 (by omega) fun (y : Int) hy => ?_
    rw [hx] at hy; cases hy
    rw [if_neg (by simp), wrap64 (by omega) (by omega)]
    exact ⟨⟨rfl, by omega, by omega⟩, by omega⟩
  · rw [if_neg fun hh => e (of_decide_eq_true hh)]
    exact hq

theorem ring123 : Ring (fun a => kget a (nextP [⟨3, 1⟩, ⟨1, 2⟩, ⟨2, 3⟩])) [1, 2, 3] := by
  refine ⟨⟨by decide, by decide, fun i hi => ?_⟩, by decide⟩
  have : i = 0 ∨ i = 1 ∨ i = 2 := by simp at hi; omega
  rcases this with rfl | rfl | rfl <;> decide

theorem told123 {ks : List Int} (hm : ∀ x, x ∈ ks ↔ x ∈ (nextP [⟨3, 1⟩, ⟨1, 2⟩, ⟨2, 3⟩]).map (·.1)) : Told (fun a => kget a (nextP [⟨3, 1⟩, ⟨1, 2⟩, ⟨2, 3⟩])) ks [1, 2, 3] := by
  refine .inr ⟨ring123, 1, (hm 1).2 (by decide), ring123.inf (by decide), fun q hq hlt => ?_, 0, 1, rfl, by decide⟩
  have := (hm q).1 hq
  have e : (nextP [⟨3, 1⟩, ⟨1, 2⟩, ⟨2, 3⟩]).map (·.1) = [3, 1, 2] := by decide
  rw [e] at this
  simp at this
  omega

theorem toldNone {ks : List Int} (hm : ∀ x, x ∈ ks ↔ x ∈ (nextP [⟨1, 2⟩, ⟨2, 3⟩]).map (·.1)) : Told (fun a => kget a (nextP [⟨1, 2⟩, ⟨2, 3⟩])) ks [] := by
  refine .inl ⟨rfl, fun q hq hi => ?_⟩
  have := (hm q).1 hq
  have e : (nextP [⟨1, 2⟩, ⟨2, 3⟩]).map (·.1) = [1, 2] := by decide
  rw [e] at this
  simp at this
  rcases this with rfl | rfl
  · exact hi 3 (by decide)
  · exact hi 2 (by decide)

theorem fixed_ok {Q : Bool → Hp → Prop} {h : Hp} (hq : ∀ h', h ≤ h' → Q true h') : firebreaklaw20_fixed_w Try.prog Q h := by
  unfold firebreaklaw20_fixed_w
  have hwf : ∀ x ∈ ([⟨3, 1⟩, ⟨1, 2⟩, ⟨2, 3⟩] : List S_n2_int), (Lit.int .i64 x.a0).wf = true := by decide
  have hwf2 : ∀ x ∈ ([⟨1, 2⟩, ⟨2, 3⟩] : List S_n2_int), (Lit.int .i64 x.a0).wf = true := by decide
  refine newF (xs := ([⟨3, 1⟩, ⟨1, 2⟩, ⟨2, 3⟩] : List S_n2_int)) (enc := eE) (sz := 2) rfl (fun _ => rfl) fun b h1 hb l1 m1 o1 => ?_
  refine graph_Ring_call (e := ⟨some ⟨b, 0, none⟩, 3, 3⟩) (ring_ok (o1.rw fun _ => rfl) (by decide) hwf fun out d ks h2 F l2 o2 _ _ hm ht _ => ?_)
  have hd : d = [1, 2, 3] := told_one ht (told123 hm)
  subst hd
  have r2 : Is h2 out [1, 2, 3] := o2.rw fun _ => rfl
  have hl := r2.1
  have hl3 : (out.len : Int) = 3 := by simp at hl; omega
  have e3 : ((out.len : Int) == 3) = true := by simp [hl3]
  rw [e3]
  refine Rs.getC r2 (0 : Int) (fun _ => rfl) (by omega) (fun _ => by simp) fun (x : Int) hx => letW ?_
  have hx' := hx rfl
  cases hx'
  refine Rs.getC r2 (0 : Int) (fun _ => rfl) (by omega) (fun _ => by simp) fun (x1 : Int) hx1 => letW ?_
  have hx1' := hx1 rfl
  cases hx1'
  refine Rs.getC r2 (0 : Int) (fun _ => rfl) (by omega) (fun _ => by simp) fun (x2 : Int) hx2 => letW ?_
  have hx2' := hx2 rfl
  cases hx2'
  refine effB (by rfl) ?_
  refine newF (xs := ([⟨1, 2⟩, ⟨2, 3⟩] : List S_n2_int)) (enc := eE) (sz := 2) rfl (fun _ => rfl) fun b3 h3 hb3 l3 m3 o3 => ?_
  refine effB (by rfl) (graph_Ring_call (e := ⟨some ⟨b3, 0, none⟩, 2, 2⟩) (ring_ok (o3.rw fun _ => rfl) (by decide) hwf2 fun out4 d4 ks4 h4 F4 l4 o4 _ _ hm4 ht4 _ => ?_))
  have hd4 : d4 = [] := told_one ht4 (toldNone hm4)
  subst hd4
  have hl4 := o4.1
  refine letW ?_
  have e4 : ((out4.len : Int) == 0) = true := by simp at hl4; simp [hl4]
  rw [e4]
  exact hq _ (Hp.le_trans l1 (Hp.le_trans l2 (Hp.le_trans l3 l4)))

theorem graphNames_ok {Q : Bool → Hp → Prop} {h : Hp} (hq : ∀ h', h ≤ h' → Q true h') : firebreaklaw20_GraphNames_w Try.prog Q h := by
  unfold firebreaklaw20_GraphNames_w
  exact effT (firebreaklaw20_fixed_call (fixed_ok fun h' hl => letW (hq h' hl)))

end Lf

/-
  GraphRings.
-/
namespace Lf
open Go Go.Proofs

theorem keys_iff {V : Type} {kvs : List (Int × V)} {a : Int} : a ∈ kvs.map (·.1) ↔ kget a kvs ≠ none := by
  constructor
  · intro h e
    obtain ⟨p, hp, rfl⟩ := List.mem_map.1 h
    have key : ∀ {l : List (Int × V)}, p ∈ l → kget p.1 l ≠ none := by
      intro l
      induction l with
      | nil => intro h; cases h
      | cons x t ih =>
        intro h
        simp only [kget]
        split
        · simp
        · rename_i hne
          rcases List.mem_cons.1 h with e | h
          · rw [e] at hne; exact absurd rfl hne
          · exact ih h
    exact key hp e
  · intro h
    refine Classical.byContradiction fun hn => h (kget_none hn)

/-- The edges in memory of their own, with others behind them. -/
theorem ahead_ok {e : Sl} {es : List S_n2_int} {h : Hp} {K : Sl → Hp → Prop} (r : Es h e es) (hl : es.length ≤ 2000000) (hk : ∀ y h', h ≤ h' → Es h' y es → K y h') :
    MakeW 16 [(.int .i64 (0 : Int)), (.int .i64 (0 : Int))] (0 : Int) (IntKind.wrap .i64 (((e.len : Nat) : Int) + (2 : Int))) (fun r h1 =>
 AppendW 2 16 [(.int .i64 (0 : Int)), (.int .i64 (0 : Int))] r e (fun r1 h2 =>
 NewW [(.int .i64 (1 : Int)), (.int .i64 (2 : Int)), (.int .i64 (2 : Int)), (.int .i64 (1 : Int))] (fun a h3 =>
 AppendW 2 16 [(.int .i64 (0 : Int)), (.int .i64 (0 : Int))] r1 ⟨(some a), 2, 2⟩ (fun r2 h4 =>
 (((0 : Int) ≤ ((e.len : Nat) : Int) ∧ ((e.len : Nat) : Int) ≤ ((r2.cap : Nat) : Int)) ∧ LetW (α := Sl) ⟨(sbase r2.base 2 0 r2.cap), ((Int.toNat ((e.len : Nat) : Int)) - 0), (r2.cap - 0)⟩ fun y =>
 K y h4)) h3) h2) h1) h := by
  have hlen := r.1
  rw [wrap64 (n := (e.len : Int) + 2) (by omega) (by omega)]
  refine ⟨by omega, fun b t hb => ?_⟩
  have hle := set_new (o := .cells (zerosL [Value.int .i64 0, Value.int .i64 0] ((e.len : Int) + 2).toNat).toArray t (0, 0)) hb
  have m0 := Mv.new (o := .cells (zerosL [Value.int .i64 0, Value.int .i64 0] ((e.len : Int) + 2).toNat).toArray t (0, 0)) hb
  have ho : OwnF (h.set b (.cells (zerosL [Value.int .i64 0, Value.int .i64 0] ((e.len : Int) + 2).toNat).toArray t (0, 0))) 2 eE ⟨some ⟨b, 0, none⟩, (0 : Int).toNat, ((e.len : Int) + 2).toNat⟩ [] [b] := by
    refine ⟨rfl, Nat.zero_le _, .inr ⟨b, _, rfl, rfl, ⟨t, set_self⟩, ?_, by simp⟩⟩
    rw [zerosL_len]
    rfl
  refine appF ho (Rw.mono hle r) (fun _ => rfl) (fun _ => rfl) rfl (by simp; omega) fun l1 h1 F1 o1 m1 => ?_
  refine newF (xs := ([⟨1, 2⟩, ⟨2, 1⟩] : List S_n2_int)) (enc := eE) (sz := 2) rfl (fun _ => rfl) fun b2 h2 hb2 hle2 m2 o2 => ?_
  refine appF (o1.grow hle2) (o2.rw fun _ => rfl) (fun _ => rfl) (fun _ => rfl) rfl (by simp; omega) fun l3 h3 F3 o3 m3 => ?_
  have h3l := o3.1
  have h3c := o3.2.1
  rw [List.nil_append] at o3 h3l
  simp only [List.length_append, List.length_cons, List.length_nil] at h3l
  have mm := m0.trans (m1.trans ((Mv.of_le F1 hle2).trans m3))
  refine ⟨by omega, letW (hk _ _ (mm.le (Hp.le_refl h) fun b hb => by cases hb).1 ?_)⟩
  have := Rw.head (b := es.length) (c := l3.cap) (n := (e.len : Int).toNat - 0) (m := l3.cap - 0) (o3.rw fun _ => rfl) (fun _ => rfl) (by simp) (by omega) (by omega)
  rw [List.take_left] at this
  exact this

set_option maxRecDepth 20000 in
set_option maxHeartbeats 2000000 in
theorem graphRings_ok {e : Sl} {es : List S_n2_int} {Q : Bool → Hp → Prop} {h : Hp} (r : Es h e es) (hw : ∀ x ∈ es, WfE x) (hq : ∀ h', h ≤ h' → Q true h') : firebreaklaw20_GraphRings_w Try.prog e Q h := by
  unfold firebreaklaw20_GraphRings_w
  have hlen := r.1
  by_cases hbig : (e.len : Int) > 1048576
  · rw [if_pos (decide_eq_true hbig)]
    exact firebreaklaw20_fixed_call (fixed_ok hq)
  rw [if_neg fun hh => hbig (of_decide_eq_true hh)]
  have hwf : ∀ x ∈ es, (Lit.int .i64 x.a0).wf = true := fun x hx => (hw x hx).1
  refine ahead_ok r (by omega) fun y h1 l1 ry => ?_
  refine firebreakref20_Ring_call (refRing_ok (r.mono l1) (by omega) fun r3 d ks h2 l2 r3r asc mem told hdl => ?_)
  refine graph_Ring_call (ring_ok (ry.mono l2) (by omega) hwf fun r4 d4 ks4 h4 F4 l4 o4 hF4 asc4 mem4 told4 _ => ?_)
  have ek4 : ks4 = ks := asc_eq asc4 asc fun z => (mem4 z).trans (mem z).symm
  subst ek4
  have ed4 := told_one told4 told
  subst ed4
  refine graph_Ring_call (ring_ok (ry.mono (Hp.le_trans l2 l4)) (by omega) hwf fun r5 d5 ks5 h5 F5 l5 o5 hF5 asc5 mem5 told5 _ => ?_)
  have ek5 : ks5 = ks4 := asc_eq asc5 asc fun z => (mem5 z).trans (mem z).symm
  subst ek5
  have ed5 := told_one told5 told
  subst ed5
  have r3h : Is h5 r3 d5 := r3r.mono (Hp.le_trans l4 l5)
  have r4h : Is h5 r4 d5 := Rw.mono l5 (o4.rw fun _ => rfl)
  have r5h : Is h5 r5 d5 := o5.rw fun _ => rfl
  have l05 : h ≤ h5 := Hp.le_trans l1 (Hp.le_trans l2 (Hp.le_trans l4 l5))
  refine firebreaklaw20_ints_call (ints_ok r4h r3h (by omega) ?_)
  refine effT (firebreaklaw20_ints_call (ints_ok r5h r3h (by omega) (letW ?_)))
  refine effB (by rfl) (firebreaklaw20_edges_call (edges_ok (ry.mono (Hp.le_trans l2 (Hp.le_trans l4 l5))) (r.mono l05) (by omega) hw (letW ?_)))
  rw [if_neg (by simp)]
  -- the edges the other way round
  rw [wrap64 (n := (e.len : Int) - 1) (by omega) (by omega)]
  refine newF (xs := ([] : List S_n2_int)) (enc := eE) (sz := 2) rfl (fun _ => rfl) fun b6 h6 hb6 l6 m6 o6 => ?_
  refine LoopW2.intro (fun back i k => h5 ≤ k ∧ -1 ≤ i ∧ i < (es.length : Int) ∧ ∃ F, OwnF k 2 eE back (es.drop (i + 1).toNat).reverse F ∧ (∀ b ∈ F, h5 b = none)) (fun _ i _ => (i + 1).toNat)
    ⟨l6, by omega, by omega, [b6], by
      have : (e.len : Int) - 1 + 1 = (es.length : Int) := by omega
      rw [this, Int.toNat_natCast, List.drop_length]
      exact o6, fun b hb => by rw [List.mem_singleton.1 hb]; exact hb6⟩ ?_
  rintro back i k ⟨hk, hi0, hi1, F, ob, hF⟩
  have hbl := ob.1
  rw [List.length_reverse, List.length_drop] at hbl
  by_cases hi : i ≥ 0
  · rw [if_pos (decide_eq_true hi)]
    refine Rs.get (sh := sh_n2_int) (r.mono (Hp.le_trans l05 hk)) (fun _ => rfl) (by omega) hi (by omega) fun (x : S_n2_int) hx => ?_
    have hx' : es[i.toNat]? = some x := hx
    refine newF (xs := [x]) (enc := eE) (sz := 2) rfl (fun _ => rfl) fun b7 h7 hb7 l7 m7 o7 => ?_
    refine appF (ob.grow l7) (o7.rw fun _ => rfl) (fun _ => rfl) (fun _ => rfl) rfl (by simp; omega) fun back8 h8 F8 o8 m8 => ?_
    obtain ⟨l8, hF8⟩ := m8.le (Hp.le_trans hk l7) hF
    rw [wrap64 (by omega) (by omega)]
    refine ⟨⟨l8, by omega, by omega, F8, ?_, hF8⟩, by omega⟩
    have hd : es.drop i.toNat = x :: es.drop (i + 1).toNat := by
      obtain ⟨h3, h4⟩ := List.getElem?_eq_some_iff.1 hx'
      rw [List.drop_eq_getElem_cons h3, h4, show (i + 1).toNat = i.toNat + 1 by omega]
    rw [show (i - 1 + 1).toNat = i.toNat by omega, hd, List.reverse_cons]
    exact o8
  rw [if_neg fun hh => hi (of_decide_eq_true hh)]
  rw [show (i + 1).toNat = 0 by omega, List.drop_zero] at ob
  have hrm : ∀ x, x ∈ es.reverse ↔ x ∈ es := fun x => List.mem_reverse
  have hsame : (fun a => kget a (nextP es.reverse)) = fun a => kget a (nextP es) := funext fun a => nextP_same hrm a
  have hwfr : ∀ x ∈ es.reverse, (Lit.int .i64 x.a0).wf = true := fun x hx => hwf x ((hrm x).1 hx)
  refine graph_Ring_call (ring_ok (ob.rw fun _ => rfl) (by rw [List.length_reverse]; omega) hwfr fun r9 d9 ks9 h9 F9 l9 o9 _ asc9 mem9 told9 _ => ?_)
  have ek9 : ks9 = ks5 := asc_eq asc9 asc fun z => by
    rw [mem9, mem, keys_iff, keys_iff, nextP_same hrm]
  subst ek9
  rw [hsame] at told9
  have ed9 := told_one told9 told
  subst ed9
  have l59 := Hp.le_trans hk l9
  refine firebreaklaw20_ints_call (ints_ok (o9.rw fun _ => rfl) (r3h.mono l59) (by omega) ?_)
  rw [if_neg (by simp)]
  refine firebreakref20_Next_call (refNext_ok (r.mono (Hp.le_trans l05 l59)) (by omega) fun m10 h10 hm10 mv10 ms10 => ?_)
  have l10 : h9 ≤ h10 := (mv10.le (Hp.le_refl h9) fun b hb => by cases hb).1
  intro m11 hm11
  have mv11 : Mv [] h10 [m11] (h10.set m11 (.map #[] 0)) := Mv.new hm11
  have fr : ∀ {k : Hp}, Mv [] h10 [m11] k → h10 ≤ k := fun mv => (mv.le (Hp.le_refl h10) fun b hb => by cases hb).1
  have l510 := Hp.le_trans l59 l10
  have r4a : Is h10 r4 d9 := r4h.mono l510
  have hl4 := r4a.1
  refine LoopW1.intro (fun i k => Mv [] h10 [m11] k ∧ 0 ≤ i ∧ i ≤ (d9.length : Int) ∧ ∃ W, MapS k m11 .i64 vI W ∧ ∀ a, a ∉ d9.take i.toNat → kget a W = none) (fun i _ => (d9.length - i).toNat)
    ⟨mv11, by omega, by omega, [], MapS.new, fun a _ => rfl⟩ ?_
  rintro i1 k1 ⟨mv1, hi10, hi11, W, msw, hW⟩
  have lk1 := fr mv1
  by_cases ei : i1 < (r4.len : Int)
  · rw [if_pos (decide_eq_true ei)]
    have r4k : Is k1 r4 d9 := r4a.mono lk1
    -- it is a ring
    have hring : Ring (fun a => kget a (nextP es)) d9 := by
      rcases told with ⟨e0, _⟩ | ⟨hr, _⟩
      · rw [e0] at hl4; simp at hl4; omega
      · exact hr
    refine Rs.get r4k (fun _ => rfl) (by omega) hi10 (by omega) fun (x : Int) hx => ?_
    have hx' : d9[i1.toNat]? = some x := hx
    have hxd : d9.getD i1.toNat 0 = x := by rw [List.getD_eq_getElem?_getD, hx']; rfl
    have hil : i1.toNat < d9.length := by omega
    have hnx := hring.nx i1.toNat hil
    rw [hxd] at hnx
    have hnx' : kget x (nextP es) = some (d9.getD ((i1.toNat + 1) % d9.length) 0) := hnx
    refine look_ok (ms10.mono lk1) (fun hn => (by rw [hnx'] at hn; cases hn)) fun v hv => ?_
    rw [hnx'] at hv
    cases hv
    refine Rs.get r4k (fun _ => rfl) (by omega) hi10 (by omega) fun (x2 : Int) hx2 => ?_
    rw [hx] at hx2
    cases hx2
    have hxt : x ∉ d9.take i1.toNat := fun hm => by
      obtain ⟨j, hj, hjx⟩ := mem_getD hm
      have hjl : j < i1.toNat := by rw [List.length_take] at hj; omega
      have : (d9.take i1.toNat).getD j 0 = d9.getD j 0 := by
        rw [List.getD_eq_getElem?_getD, List.getD_eq_getElem?_getD, List.getElem?_take, if_pos hjl]
      rw [this, ← hxd] at hjx
      have := getD_inj hring.nd (by omega) hil hjx
      omega
    refine look_ok msw (fun _ => ?_) fun v hv => (by rw [hW x hxt] at hv; cases hv)
    rw [wrap64 (n := (0 : Int) + 1) (by omega) (by omega)]
    refine mapSet_s (ev := vI) (v := (1 : Int)) msw fun o _ msw' => ?_
    have mv2 := mv1.trans (Mv.set (h := k1) (b := m11) (o := o))
    have lk2 := fr mv2
    have r4k2 : Is (k1.set m11 o) r4 d9 := r4a.mono lk2
    rw [wrap64 (n := i1 + 1) (by omega) (by omega)]
    have htm : Int.tmod (i1 + 1) (r4.len : Int) = (((i1.toNat + 1) % d9.length : Nat) : Int) := by
      rw [Int.tmod_eq_emod_of_nonneg (by omega), hl4]
      have : i1 + 1 = ((i1.toNat + 1 : Nat) : Int) := by omega
      rw [this]
      rfl
    rw [htm]
    have hmod : (i1.toNat + 1) % d9.length < d9.length := Nat.mod_lt _ (by omega)
    have hget : ∀ {K : Int → Prop} {c : Bool}, (∀ z, (c = true → z = d9.getD ((i1.toNat + 1) % d9.length) 0) → K z) → (c = true → InB r4.base r4.len (((i1.toNat + 1) % d9.length : Nat) : Int)) ∧ LdW (some c) (shInt .i64) (k1.set m11 o) (sat r4.base 1 (((i1.toNat + 1) % d9.length : Nat) : Int)) K := fun {K} {c} hk => by
      refine Rs.getC r4k2 (0 : Int) (fun _ => rfl) (by omega) (fun _ => ⟨by omega, by omega⟩) fun (z : Int) hz => hk z fun hc => ?_
      have := hz hc
      rw [Int.toNat_natCast] at this
      rw [List.getD_eq_getElem?_getD, this]
      rfl
    have hgetI : ∀ {K : Int → Prop} {c : Bool}, (∀ z, (c = true → z = x) → K z) → (c = true → InB r4.base r4.len i1) ∧ LdW (some c) (shInt .i64) (k1.set m11 o) (sat r4.base 1 i1) K := fun {K} {c} hk => by
      refine Rs.getC r4k2 (0 : Int) (fun _ => rfl) (by omega) (fun _ => ⟨by omega, by omega⟩) fun (z : Int) hz => hk z fun hc => ?_
      have := hz hc
      rw [hx] at this
      cases this
      rfl
    refine ⟨fun _ => by omega, hget fun x4 hx4 => letW ?_⟩
    have hx4' := hx4 rfl
    subst hx4'
    have ey3 : ((!true) || ((d9.getD ((i1.toNat + 1) % d9.length) 0) != (d9.getD ((i1.toNat + 1) % d9.length) 0))) = false := by simp
    rw [ey3]
    refine hgetI fun x5 hx5 => ?_
    have hx5' := hx5 rfl
    subst hx5'
    refine lookC_ok msw' fun x6 ok6 hx6 => letW ?_
    have hx6' : x6 = 1 := by
      rcases hx6 rfl with ⟨h7, _⟩ | ⟨h7, _⟩
      · rw [kget_set, if_pos rfl] at h7; cases h7
      · rw [kget_set, if_pos rfl] at h7; cases h7; rfl
    subst hx6'
    have ey4 : (false || decide ((1 : Int) > 1)) = false := by decide
    rw [ey4]
    refine hgetI fun x7 hx7 => ?_
    have hx7' := hx7 rfl
    subst hx7'
    refine Rs.getC r4k2 (0 : Int) (fun _ => rfl) (by omega) (fun _ => ⟨by omega, by omega⟩) fun (x8 : Int) hx8 => letW ?_
    have hx8' : d9.getD 0 0 = x8 := by
      have h7 := hx8 rfl
      have h7' : d9[0]? = some x8 := h7
      rw [List.getD_eq_getElem?_getD, h7']; rfl
    have hlow := hring.low x7 (List.mem_of_getElem? hx')
    rw [if_neg (by simp; omega)]
    refine ⟨⟨mv2, by omega, by omega, _, msw', fun a ha => ?_⟩, by omega⟩
    rw [show (i1 + 1).toNat = i1.toNat + 1 by omega, take_snoc hx'] at ha
    rw [kget_set, if_neg fun e => ha (by rw [e]; simp)]
    exact hW a fun hm => ha (List.mem_append_left _ hm)
  rw [if_neg fun hh => ei (of_decide_eq_true hh)]
  -- lists are their owner's
  have lk5 : h5 ≤ k1 := Hp.le_trans l510 lk1
  have o4k : OwnF k1 1 oI r4 d9 F4 := (o4.grow l5).grow lk5
  have k4 : ∀ b ∈ F4, h4 b ≠ none := o4.known
  have hF5n : ∀ b ∈ F5, b ∉ F4 := fun b hb hb' => k4 b hb' (hF5 b hb)
  have l14 : h2 ≤ k1 := Hp.le_trans l4 (Hp.le_trans l5 lk5)
  have d2 : h2 ≤ cutH k1 F4 := le_cut l14 hF4
  have r5d : Is (cutH k1 F4) r5 d9 := ((o5.grow lk5).cut hF5n).rw fun _ => rfl
  have r3d : Is (cutH k1 F4) r3 d9 := r3r.mono d2
  have hdk : cutH k1 F4 ≤ k1 := cut_le
  have hdn : ∀ b ∈ F4, cutH k1 F4 b = none := fun b hb => cut_none hb
  have hhd : h ≤ cutH k1 F4 := Hp.le_trans l1 (Hp.le_trans l2 d2)
  generalize cutH k1 F4 = d at d2 r5d r3d hdk hdn hhd
  refine fill_ok (enc := oI) (c := -9) (bound := r4.len) o4k (fun _ => rfl) (by omega) rfl (fun k2 o2 m2 => ?_) rfl
  obtain ⟨hdk2, _⟩ := m2.le hdk hdn
  refine LoopW2.intro (fun l i k => d ≤ k ∧ 0 ≤ i ∧ i ≤ 9 ∧ ∃ zs F, OwnF k 1 oI l zs F ∧ (∀ b ∈ F, d b = none) ∧ (zs.length : Int) ≤ 4000000 + i) (fun _ i _ => (9 - i).toNat)
    ⟨hdk2, by omega, by omega, _, F4, o2, hdn, by simp; omega⟩ ?_
  rintro l3 i3 k3 ⟨hdk3, hi30, hi31, zs, F3, o3, hF3, hzl⟩
  by_cases e3 : i3 < 9
  · rw [if_pos (decide_eq_true e3)]
    refine newF (xs := [(-9 : Int)]) (enc := oI) (sz := 1) rfl (fun _ => rfl) fun b5 h5' hb5 l5' m5 o5' => ?_
    refine appF (o3.grow l5') (o5'.rw fun _ => rfl) (fun _ => rfl) (fun _ => rfl) rfl (by simp; omega) fun l6' k6 F6 o6' m6' => ?_
    obtain ⟨hdk6, hF6⟩ := m6'.le (Hp.le_trans hdk3 l5') hF3
    rw [wrap64 (by omega) (by omega)]
    exact ⟨⟨hdk6, by omega, by omega, _, F6, o6', hF6, by simp; omega⟩, by omega⟩
  rw [if_neg fun hh => e3 (of_decide_eq_true hh)]
  refine firebreaklaw20_ints_call (ints_ok (r5d.mono hdk3) (r3d.mono hdk3) (by omega) ?_)
  refine effT (firebreaklaw20_fixed_call (fixed_ok fun h' hl => letW (hq h' (Hp.le_trans hhd (Hp.le_trans hdk3 hl)))))

end Lf

/-
  From a call's text to a law's statement.
-/
namespace Lf
open Go Go.ChangeShapes Go.WideShapes Go.ChangeAt Go.RowKit

/-- All that is in memory. -/
def whole (W : World) : Hp := fun b => W.heap[b]?

theorem whole_sub (W : World) : Sub (whole W) W := fun _ _ e => e

theorem hcell_whole (W : World) (a : Addr) : hcell (whole W) a = W.cell? a := rfl

theorem below_of_step {W W' : World} {h' : Hp} (hle : whole W ≤ h') (st : Step (whole W) h' W W') : Below W.heap.size W W' :=
  ⟨st.os, st.tape, st.output, st.size, fun k hk => by
    cases e : W.heap[k]? with
    | some o => exact st.sub _ _ (hle _ _ e)
    | none => simp at e; omega⟩

theorem trodAll_stays {H : Type} {enc : TypeId × Value → H} {P : Program} (hl : laidOutB P = true) {W W' : World} {sp : Nat → Bool} (hb : Below W.heap.size W W') : ∀ {ts : List TypeId} {vs : List Value} {ds : List (DataW H)} {ps : List MemPlace},
    (∀ t ∈ ts, P.readableRec t = true ∧ t < P.types.size) → DataW.TrodAll enc P W 0 (fun _ => true) true ts vs ds ps → (∀ x ∈ ps, x.block < W.heap.size) → (∀ x ∈ ps, sp x.block = true) → DataW.TrodAll enc P W' 0 sp true ts vs ds ps
  | [], _, _, _, _, h, _, _ => by
    obtain ⟨rfl, rfl, rfl⟩ := trodAll_nil h
    exact trodAll_mk0
  | t :: ts, _, _, _, hr, h, hlt, hs => by
    obtain ⟨v, vs, d, ds, p, q, rfl, rfl, rfl, h1, h2⟩ := trodAll_cons h
    obtain ⟨hr1, hr2⟩ := hr t (List.mem_cons_self ..)
    exact ⟨p, q, WideElems.Trod_stays hl hr1 hr2 h1 (fun x hx => hb.same (hlt x (List.mem_append_left _ hx))) (fun x hx => hs x (List.mem_append_left _ hx)),
      trodAll_stays hl hb (fun t ht => hr t (List.mem_cons_of_mem _ ht)) h2 (fun x hx => hlt x (List.mem_append_right _ hx)) (fun x hx => hs x (List.mem_append_right _ hx)), rfl⟩

theorem law_post {H : Type} {enc : TypeId × Value → H} {P : Program} {f : Func} {s : ChangeSpec} {W W' : World} {h' : Hp} {args : Array Value} {ds gs : List (DataW H)} {before : List MemPlace} {t : TypeId} (hl : laidOutB P = true)
    (hrd : ∀ t ∈ f.params.toList, P.readableRec t = true ∧ t < P.types.size) (hvars : s.vars = []) (hres : f.resultTypes = #[t]) (ht : P.underlying t = some .bool)
    (hfn : gs = [] → s.fn H (ds ++ gs) = { results := [.lit (.bool true)], args := ds }) (hW : DataW.Whole enc P f.params.toList s.vars false W args.toList ds gs before) (hle : whole W ≤ h') (st : Step (whole W) h' W W') :
    s.post enc P f false true false false W args (.bool true) W' := by
  have hb := below_of_step hle st
  have hlt : ∀ p ∈ before, p.block < W.heap.size := fun p hp => hW.lt p hp
  have hW' := hW
  obtain ⟨p, q, hA, hV, rfl, hfz, hnd⟩ := hW'
  rw [hvars] at hV
  obtain ⟨rfl, rfl⟩ := trodVars_none hV
  rw [List.append_nil] at hlt
  have hsp := hfn rfl
  refine ⟨ds, [], p ++ [], [], p, [], hW, ?_, ?_, ?_, Below.frame hb _, fun e => (by cases e)⟩
  · rw [hsp, hres]
    exact trodAll_mk1 (shut_bool ht true)
  · rw [hsp]
    exact trodAll_stays hl hb hrd hA hlt (fun x hx => by simpa using hlt x hx)
  · rw [hsp, hvars]
    exact rfl

theorem law_lifted {H : Type} {enc : TypeId × Value → H} {C : Checked} {os : Os} {f : FuncId} {fn : Func} {s : ChangeSpec} {t : TypeId} (own : ownKnob C.prog.godebug = none) (started : os.Started) (noInit : C.prog.inits.idxOf? f = none) (hf : C.prog.funcs[f]? = some fn)
    (witness : ∃ (w : World) (tape : Tape) (i : Input), w.os = os ∧ (w.forCall tape i).Shaped C.prog ∧ i.vars = [] ∧ Input.okWide C.prog (w.forCall tape i) .any w.heap.size f i ∧
      s.pre6 enc C.prog fn [] false (w.forCall tape i).memory i.args ∧ ({} : Assume).holds C.prog (lone (Frame.enter C.prog f i.args .normal) [] (w.forCall tape i)))
    (hl : laidOutB C.prog = true) (hrd : ∀ t ∈ fn.params.toList, C.prog.readableRec t = true ∧ t < C.prog.types.size) (hvars : s.vars = []) (hres : fn.resultTypes = #[t]) (ht : C.prog.underlying t = some .bool)
    (walk : ∀ (W : World) (base : Nat) (args : Array Value) (ds : List (DataW H)) (p : List MemPlace), (∀ (j : Nat) t v, fn.params[j]? = some t → args[j]? = some v → Value.okWide C.prog W .any base t v) → DataW.TrodAll enc C.prog W 0 (fun _ => true) true fn.params.toList args.toList ds p →
      s.fn H ds = { results := [.lit (.bool true)], args := ds } ∧ CallT C.prog f args.toList shBool (fun r h' => r = true ∧ whole W ≤ h') (whole W)) :
    ReturnsInHanded {} C os f .any (s.pre6 enc C.prog fn [] false) (s.post enc C.prog fn false true false false) := by
  refine returnsInHanded_of_change own started noInit hf witness ?_
  intro W base args ds gs before hval hW hcnd _
  have hW' := hW
  obtain ⟨p, q, hA, hV, _, hfz, hnd⟩ := hW'
  obtain ⟨hsp, hc⟩ := walk W base args ds p hval hA
  have hc' := hc W (whole_sub W)
  simp only [Array.toArray_toList] at hc'
  refine hc'.mono fun e W' hh => ?_
  obtain ⟨v, h', rfl, ⟨x, rfl, rfl, hle⟩, hst⟩ := hh
  exact ⟨_, rfl, law_post hl hrd hvars hres ht (fun e => by rw [e, List.append_nil]; exact hsp) hW hle hst⟩

/-- The same, of arguments whose sizes are known. -/
theorem law_liftedS {H : Type} {enc : TypeId × Value → H} {C : Checked} {os : Os} {f : FuncId} {fn : Func} {s : ChangeSpec} {t : TypeId} (own : ownKnob C.prog.godebug = none) (started : os.Started) (noInit : C.prog.inits.idxOf? f = none) (hf : C.prog.funcs[f]? = some fn)
    (witness : ∃ (w : World) (tape : Tape) (i : Input), w.os = os ∧ (w.forCall tape i).Shaped C.prog ∧ i.vars = [] ∧ Input.okWide C.prog (w.forCall tape i) .any w.heap.size f i ∧
      s.pre6 enc C.prog fn [] false (w.forCall tape i).memory i.args ∧ ({} : Assume).holds C.prog (lone (Frame.enter C.prog f i.args .normal) [] (w.forCall tape i)))
    (hl : laidOutB C.prog = true) (hrd : ∀ t ∈ fn.params.toList, C.prog.readableRec t = true ∧ t < C.prog.types.size) (hvars : s.vars = []) (hres : fn.resultTypes = #[t]) (ht : C.prog.underlying t = some .bool)
    (walk : ∀ (W : World) (base : Nat) (args : Array Value) (ds : List (DataW H)) (p : List MemPlace), (∀ (j : Nat) t v, fn.params[j]? = some t → args[j]? = some v → Value.okWide C.prog W .any base t v) → DataW.TrodAll enc C.prog W 0 (fun _ => true) true fn.params.toList args.toList ds p →
      (DataW.weightsEach C.prog fn.params.toList ds).all (· ≤ reachBytes) = true →
      s.fn H ds = { results := [.lit (.bool true)], args := ds } ∧ CallT C.prog f args.toList shBool (fun r h' => r = true ∧ whole W ≤ h') (whole W)) :
    ReturnsInHanded {} C os f .any (s.pre6 enc C.prog fn [] false) (s.post enc C.prog fn false true false false) := by
  refine returnsInHanded_of_change_sized own started noInit hf witness ?_
  intro W base args ds gs before hval hW hcnd hsz _
  have hW' := hW
  obtain ⟨p, q, hA, hV, _, hfz, hnd⟩ := hW'
  have hgs : gs = [] := by
    rw [hvars] at hV
    exact (trodVars_none hV).1
  subst hgs
  have hvt : s.plain.varTypes C.prog = [] := by
    unfold ChangeSpec.plain DataSpec.varTypes
    rw [hvars]
    rfl
  rw [hvt, List.append_nil, List.append_nil] at hsz
  obtain ⟨hsp, hc⟩ := walk W base args ds p hval hA hsz
  have hc' := hc W (whole_sub W)
  simp only [Array.toArray_toList] at hc'
  refine hc'.mono fun e W' hh => ?_
  obtain ⟨v, h', rfl, ⟨x, rfl, rfl, hle⟩, hst⟩ := hh
  exact ⟨_, rfl, law_post hl hrd hvars hres ht (fun e => by rw [e, List.append_nil]; exact hsp) hW hle hst⟩


/-- A slice that is handed in. -/
theorem slice_in {H : Type} {enc : TypeId × Value → H} {P : Program} {W : World} {base : Nat} {t e : TypeId} {v : Value} {d : DataW H} {ps : List MemPlace} {α : Type} (ht : P.underlying t = some (.slice e)) (en : α → List Value) (good : α → Prop)
    (hel : ∀ fuel cs y, cs.length = P.cellsOf e → DataW.trod enc P W 0 (fun _ => true) true fuel e cs = some y → ∃ x, cs = en x ∧ good x) (henc : ∀ x, (en x).length = P.cellsOf e) (hv : Value.okWide P W .any base t v)
    (h : DataW.Trod enc P W 0 (fun _ => true) true t v d ps) : ∃ (l : Sl) (xs : List α), v = l.v ∧ Rw (whole W) (P.cellsOf e) en l xs ∧ l.len ≤ l.cap ∧ l.cap ≤ 9223372036854775807 ∧ (∀ x ∈ xs, good x) ∧ (l.len = 0 ∨ ∃ el sp, d = .slice el sp ∧ el.length = l.len) := by
  obtain ⟨a0, len0, cap0, rfl⟩ := okWide_slice ht hv
  obtain ⟨fuel, hf⟩ := h
  rcases DataW.trod_slice ht hf with ⟨h0, _⟩ | ⟨a, len, cap, elems, rest, n, _, h0, hd0, hb, hl, hm, hlen, hel', _, _⟩
  · simp [Value.cells] at h0
    obtain ⟨rfl, rfl, rfl⟩ := h0
    exact ⟨⟨none, 0, 0⟩, [], rfl, ⟨rfl, (by simp), .inl (by simp)⟩, Nat.le_refl _, (by simp), fun x hx => (by cases hx), .inl rfl⟩
  · simp [Value.cells] at h0
    obtain ⟨rfl, rfl, rfl⟩ := h0
    have each : ∀ i, i < len0 → ∃ x, good x ∧ LdIs (whole W) (a.add (i * P.cellsOf e)) (en x) := by
      intro i hi
      have h1 := hel' i hi
      have h2 : elems[i]? = some elems[i] := List.getElem?_eq_getElem (by omega)
      rw [h2] at h1
      cases hc : W.cells? 0 (a.add (i * P.cellsOf e)) (P.cellsOf e) with
      | none => rw [hc] at h1; cases h1
      | some cs =>
        rw [hc] at h1
        obtain ⟨_, hcl, hcc⟩ := World.cells?_some hc
        obtain ⟨x, hx, hg⟩ := hel n cs _ hcl h1
        refine ⟨x, hg, fun j v hj => ?_⟩
        have hjl : j < (en x).length := (List.getElem?_eq_some_iff.1 hj).1
        rw [hcell_whole, hcc j (by rw [← henc x]; exact hjl), hx]
        exact hj
    have build : ∀ m, m ≤ len0 → ∃ xs : List α, xs.length = m ∧ (∀ x ∈ xs, good x) ∧ ∀ i x, xs[i]? = some x → LdIs (whole W) (a.add (i * P.cellsOf e)) (en x) := by
      intro m
      induction m with
      | zero => intro _; exact ⟨[], rfl, fun x hx => (by cases hx), fun i x hx => (by simp at hx)⟩
      | succ m ih =>
        intro hm'
        obtain ⟨xs, h1, h2, h3⟩ := ih (by omega)
        obtain ⟨x, hg, hx⟩ := each m (by omega)
        refine ⟨xs ++ [x], by simp [h1], fun y hy => ?_, fun i y hy => ?_⟩
        · rcases List.mem_append.1 hy with hy | hy
          · exact h2 y hy
          · rw [List.mem_singleton.1 hy]; exact hg
        · by_cases hi : i < xs.length
          · rw [List.getElem?_append_left hi] at hy
            exact h3 i y hy
          · rw [List.getElem?_append_right (by omega)] at hy
            have : i - xs.length = 0 := by
              have := (List.getElem?_eq_some_iff.1 hy).1
              simp at this
              omega
            rw [this] at hy
            simp at hy
            subst hy
            have : i = m := by omega
            rw [this]
            exact hx
    obtain ⟨xs, h1, h2, h3⟩ := build len0 (Nat.le_refl _)
    refine ⟨⟨some a, len0, cap0⟩, xs, rfl, ⟨h1.symm, flat_len henc xs, .inr ⟨a, rfl, fun i v hv => ?_⟩⟩, hl, hm, h2, .inr ⟨_, _, (Prod.mk.inj hd0).1, by simp [hlen]⟩⟩
    obtain ⟨q, x, j, hq, hj, e1⟩ := flat_at henc xs i v hv
    rw [e1]
    rw [← add_add]
    exact h3 q x hq j v hj

theorem ints_in {H : Type} {enc : TypeId × Value → H} {P : Program} {W : World} {base : Nat} {t e : TypeId} {k : IntKind} {v : Value} {d : DataW H} {ps : List MemPlace} (ht : P.underlying t = some (.slice e)) (he : P.underlying e = some (.int k)) (hc : P.cellsOf e = 1) (hv : Value.okWide P W .any base t v)
    (h : DataW.Trod enc P W 0 (fun _ => true) true t v d ps) : ∃ (l : Sl) (xs : List Int), v = l.v ∧ Rs (whole W) (shInt k) 1 l xs ∧ l.len ≤ l.cap ∧ l.cap ≤ 9223372036854775807 ∧ ∀ x ∈ xs, (Lit.int k x).wf = true := by
  have key := slice_in (α := Int) ht (fun x => cellsL ((shInt k).enc x)) (fun x => (Lit.int k x).wf = true) (fun fuel cs y _ hy => ?_) (fun _ => by rw [hc]; rfl) hv h
  · rw [hc] at key
    obtain ⟨l, xs, h1, h2, h3, h4, h5, _⟩ := key
    exact ⟨l, xs, h1, h2, h3, h4, h5⟩
  · obtain ⟨n, hcs, _, hw⟩ := DataW.trod_int he hy
    exact ⟨n, hcs, hw⟩

theorem ints_inS {H : Type} {enc : TypeId × Value → H} {P : Program} {W : World} {base : Nat} {t e : TypeId} {k : IntKind} {v : Value} {d : DataW H} {ps : List MemPlace} (ht : P.underlying t = some (.slice e)) (he : P.underlying e = some (.int k)) (hc : P.cellsOf e = 1) (hv : Value.okWide P W .any base t v)
    (h : DataW.Trod enc P W 0 (fun _ => true) true t v d ps) : ∃ (l : Sl) (xs : List Int), v = l.v ∧ Rs (whole W) (shInt k) 1 l xs ∧ l.len ≤ l.cap ∧ l.cap ≤ 9223372036854775807 ∧ (∀ x ∈ xs, (Lit.int k x).wf = true) ∧ (l.len = 0 ∨ ∃ el sp, d = .slice el sp ∧ el.length = l.len) := by
  have key := slice_in (α := Int) ht (fun x => cellsL ((shInt k).enc x)) (fun x => (Lit.int k x).wf = true) (fun fuel cs y _ hy => ?_) (fun _ => by rw [hc]; rfl) hv h
  · rw [hc] at key
    exact key
  · obtain ⟨n, hcs, _, hw⟩ := DataW.trod_int he hy
    exact ⟨n, hcs, hw⟩

theorem inU_wf {x : Int} (h : (Lit.int .u64 x).wf = true) : 0 ≤ x ∧ x < 18446744073709551616 := by
  simp [Lit.wf, IntKind.min, IntKind.max, IntKind.signed, IntKind.bits] at h
  omega

theorem trod_fieldInt {H : Type} {enc : TypeId × Value → H} {P : Program} {W : World} {t : TypeId} {fs : Array Field} {fuel : Nat} {cs : List Value} {x : DataW H × List MemPlace} (ht : P.underlying t = some (.struct fs)) (h : DataW.trod enc P W 0 (fun _ => true) true fuel t cs = some x)
    {i : Nat} {f : Field} {k : IntKind} (hf : fs[i]? = some f) (hk : P.underlying f.type = some (.int k)) (hc : P.cellsOf f.type = 1) : ∃ n, cs[f.offset]? = some (.int k n) ∧ (Lit.int k n).wf = true := by
  obtain ⟨xs, n, _, _, hl, hlen, hfs⟩ := DataW.trod_struct ht h
  have h1 := hfs i f hf
  have hil : i < xs.length := by rw [hlen]; exact (Array.getElem?_eq_some_iff.1 hf).1
  rw [List.getElem?_eq_getElem hil, hc] at h1
  obtain ⟨m, hm, _, hw⟩ := DataW.trod_int hk h1
  refine ⟨m, ?_, hw⟩
  have : ((cs.drop f.offset).take 1)[0]? = some (.int k m) := by rw [hm]; rfl
  rw [List.getElem?_take] at this
  simpa using this

theorem inI_wf {x : Int} (h : (Lit.int .i64 x).wf = true) : -9223372036854775808 ≤ x ∧ x ≤ 9223372036854775807 := by
  simp [Lit.wf, IntKind.min, IntKind.max, IntKind.signed, IntKind.bits] at h
  omega

/-- How long a slice of that type may be. -/
theorem slice_size {H : Type} {P : Program} {ts : List TypeId} {ds : List (DataW H)} {j : Nat} {t e : TypeId} {d : DataW H} {l : Sl} {b : Nat} (h : (DataW.weightsEach P ts ds).all (· ≤ reachBytes) = true) (ht : ts[j]? = some t) (hd : ds[j]? = some d) (hu : P.underlying t = some (.slice e)) (hb : P.bytesOf e = b)
    (hs : l.len = 0 ∨ ∃ el sp, d = .slice el sp ∧ el.length = l.len) : l.len * b ≤ 140737488355328 := by
  rcases hs with h0 | ⟨el, sp, rfl, hl⟩
  · rw [h0]; omega
  · have h1 := sized_slice h ht hd hu
    rw [hb] at h1
    have h2 : el.length * b ≤ (el.length + sp.length) * b := Nat.mul_le_mul_right _ (by omega)
    rw [← hl]
    have h3 : reachBytes ≤ 140737488355328 := by decide
    omega

end Lf

