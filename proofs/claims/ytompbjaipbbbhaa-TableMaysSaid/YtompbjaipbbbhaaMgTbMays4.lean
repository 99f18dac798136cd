/-
  Part 5 of the texts that the claim leans on.
-/
import Derived.Sort.LotD1
import Derived.ProofKit
import Derived.SizedLaws
import Derived.Test.YtompbjaipbbbhaaMgTbMays3
/-
  The library's sort: both partitions.
-/
namespace Lf.Souint64
open Go Go.Proofs Go.Sort

/-- In the middle of a partition: all ahead of i are less than the one at a, none behind j is. -/
structure Pt (a b : Nat) (d d' : Array Int) (i j : Int) : Prop where
  p : PermIn a b d d'
  i0 : (a : Int) < i
  ij : i ≤ j + 1
  jb : j < (b : Int)
  lo : ∀ x : Nat, a < x → (x : Int) < i → ltInt d'[x]! d'[a]! = true
  hi : ∀ x : Nat, j < (x : Int) → x < b → ltInt d'[x]! d'[a]! = false

set_option maxHeartbeats 1000000 in
/-- Both scans: up to one that is not less, down to one that is. -/
theorem scan_ok {k : Hp} {data : Sl} {d d' : Array Int} {F : List Nat} {a b : Nat} {i0 j0 : Int} {K : Int → Int → Hp → Prop} (o : DA k data d' F) (hb : b ≤ d'.size) (hs : d'.size ≤ 140737488355328) (v : Pt a b d d' i0 j0)
    (hk : ∀ i j, Pt a b d d' i j → i0 ≤ i → j ≤ j0 → (i ≤ j → ltInt d'[i.toNat]! d'[a]! = false ∧ ltInt d'[j.toNat]! d'[a]! = true) → K i j k) :
    LoopW1 (α1 := Int) (fun again i h3 =>
 (((decide (i ≤ j0)) = true → (InB data.base data.len i)) ∧ LdW (some (decide (i ≤ j0))) (shInt .u64) h3 (sat data.base 1 i) fun x2 =>
 (((decide (i ≤ j0)) = true → (InB data.base data.len (a : Int))) ∧ LdW (some (decide (i ≤ j0))) (shInt .u64) h3 (sat data.base 1 (a : Int)) fun x3 =>
 EffC (some (decide (i ≤ j0))) (CallT Try.prog n_cmp_Less_uint64 [(.int .u64 x2), (.int .u64 x3)] shBool) (fun r h4 =>
 LetW ((decide (i ≤ j0)) && r) fun y =>
 (if y = true then
 again (IntKind.wrap .i64 (i + (1 : Int))) h4
 else
 LoopW1 (α1 := Int) (fun again1 j h5 =>
 (((decide (i ≤ j)) = true → (InB data.base data.len j)) ∧ LdW (some (decide (i ≤ j))) (shInt .u64) h5 (sat data.base 1 j) fun x4 =>
 (((decide (i ≤ j)) = true → (InB data.base data.len (a : Int))) ∧ LdW (some (decide (i ≤ j))) (shInt .u64) h5 (sat data.base 1 (a : Int)) fun x5 =>
 EffC (some (decide (i ≤ j))) (CallT Try.prog n_cmp_Less_uint64 [(.int .u64 x4), (.int .u64 x5)] shBool) (fun r1 h6 =>
 LetW ((decide (i ≤ j)) && (!r1)) fun y1 =>
 (if y1 = true then
 again1 (IntKind.wrap .i64 (j - (1 : Int))) h6
 else K i j h6)) h5))) j0 h4)) h3))) i0 k := by
  have v0 := v
  obtain ⟨_, w1, w2, w3, _, _⟩ := v0
  refine LoopW1.intro (fun i k' => k' = k ∧ i0 ≤ i ∧ Pt a b d d' i j0) (fun i _ => (j0 + 1 - i).toNat) ⟨rfl, by omega, v⟩ ?_
  rintro i k' ⟨rfl, hi0, vi⟩
  obtain ⟨vp, v1, v2, v3, v4, v5⟩ := id vi
  have hat : ((a : Nat) : Int).toNat = a := by omega
  have inner : (i ≤ j0 → ltInt d'[i.toNat]! d'[a]! = false) → LoopW1 (α1 := Int) (fun again1 j h5 =>
 (((decide (i ≤ j)) = true → (InB data.base data.len j)) ∧ LdW (some (decide (i ≤ j))) (shInt .u64) h5 (sat data.base 1 j) fun x4 =>
 (((decide (i ≤ j)) = true → (InB data.base data.len (a : Int))) ∧ LdW (some (decide (i ≤ j))) (shInt .u64) h5 (sat data.base 1 (a : Int)) fun x5 =>
 EffC (some (decide (i ≤ j))) (CallT Try.prog n_cmp_Less_uint64 [(.int .u64 x4), (.int .u64 x5)] shBool) (fun r1 h6 =>
 LetW ((decide (i ≤ j)) && (!r1)) fun y1 =>
 (if y1 = true then
 again1 (IntKind.wrap .i64 (j - (1 : Int))) h6
 else K i j h6)) h5))) j0 k' := by
    intro hstop
    refine LoopW1.intro (fun j k2 => k2 = k' ∧ j ≤ j0 ∧ Pt a b d d' i j) (fun j _ => (j + 1 - i).toNat) ⟨rfl, by omega, vi⟩ ?_
    rintro j k2 ⟨rfl, hj0, vj⟩
    obtain ⟨_, u1, u2, u3, u4, u5⟩ := id vj
    refine da_getC o (fun hc => ?_) fun x hx => ?_
    · have : i ≤ j := by simpa using hc
      omega
    refine da_getC o (fun hc => ?_) fun x1 hx1 => ?_
    · omega
    rw [hat] at hx1
    by_cases hij : i ≤ j
    · have hc : decide (i ≤ j) = true := by simpa using hij
      refine ⟨fun _ => cmp_Less_uint64_call (less_ok ?_), fun e => (by rw [hc] at e; cases e)⟩
      refine letW ?_
      rw [hc, Bool.true_and, hx hc, hx1 hc]
      cases hl : ltInt d'[j.toNat]! d'[a]! with
      | false =>
        rw [if_pos (by rfl), wrap64 (by omega) (by omega)]
        refine ⟨⟨rfl, by omega, ⟨vp, u1, by omega, by omega, u4, fun x hx hxb => ?_⟩⟩, by omega⟩
        by_cases hxj : (x : Int) = j
        · have : x = j.toNat := by omega
          rw [this]; exact hl
        · exact u5 x (by omega) hxb
      | true =>
        rw [if_neg (by simp)]
        exact hk i j vj hi0 hj0 fun _ => ⟨hstop (by omega), hl⟩
    · have hc : decide (i ≤ j) = false := by simpa using hij
      refine ⟨fun e => (by rw [hc] at e; cases e), fun _ => ⟨false, letW ?_⟩⟩
      rw [hc, Bool.false_and, if_neg (by simp)]
      exact hk i j vj hi0 hj0 fun hh => absurd hh hij
  refine da_getC o (fun hc => ?_) fun x hx => ?_
  · have : i ≤ j0 := by simpa using hc
    omega
  refine da_getC o (fun hc => ?_) fun x1 hx1 => ?_
  · omega
  rw [hat] at hx1
  by_cases hij : i ≤ j0
  · have hc : decide (i ≤ j0) = true := by simpa using hij
    refine ⟨fun _ => cmp_Less_uint64_call (less_ok ?_), fun e => (by rw [hc] at e; cases e)⟩
    refine letW ?_
    rw [hc, Bool.true_and, hx hc, hx1 hc]
    cases hl : ltInt d'[i.toNat]! d'[a]! with
    | true =>
      rw [if_pos rfl, wrap64 (by omega) (by omega)]
      refine ⟨⟨rfl, by omega, ⟨vp, by omega, by omega, v3, fun x hx hxi => ?_, v5⟩⟩, by omega⟩
      by_cases hxj : (x : Int) = i
      · have : x = i.toNat := by omega
        rw [this]; exact hl
      · exact v4 x hx (by omega)
    | false =>
      rw [if_neg (by simp)]
      exact inner fun _ => hl
  · have hc : decide (i ≤ j0) = false := by simpa using hij
    refine ⟨fun e => (by rw [hc] at e; cases e), fun _ => ⟨false, letW ?_⟩⟩
    rw [hc, Bool.false_and, if_neg (by simp)]
    exact inner fun hh => absurd hh hij

/-- What a partition comes to. -/
def Parted (a b : Nat) (d d' : Array Int) (mid : Nat) : Prop :=
  a ≤ mid ∧ mid < b ∧ PermIn a b d d' ∧ (∀ x : Nat, a ≤ x → x < mid → ltInt d'[x]! d'[mid]! = true) ∧ (∀ x : Nat, mid < x → x < b → ltInt d'[x]! d'[mid]! = false)

theorem pt_end {a b : Nat} {d d' : Array Int} {i j : Int} (hb : b ≤ d'.size) (hab : a < b) (v : Pt a b d d' i j) (hij : i > j) : Parted a b d (swp d' j.toNat a) j.toNat := by
  obtain ⟨vp, v1, v2, v3, v4, v5⟩ := v
  have hj : j + 1 = i := by omega
  have hja : a ≤ j.toNat := by omega
  have hjb : j.toNat < b := by omega
  have hR : (swp d' j.toNat a)[j.toNat]! = d'[a]! := by
    by_cases e : j.toNat = a
    · rw [e]
      exact swp_right d' a a (by omega)
    · exact swp_left d' j.toNat a (by omega) e
  refine ⟨hja, hjb, permIn_trans _ _ _ _ _ vp (swp_permIn d' a b j.toNat a hja hjb (Nat.le_refl _) hab hb), fun x hx hxj => ?_, fun x hx hxb => ?_⟩
  · rw [hR]
    by_cases hxa : x = a
    · subst hxa
      have : (swp d' j.toNat x)[x]! = d'[j.toNat]! := swp_right d' j.toNat x (by omega)
      rw [this]
      exact v4 j.toNat (by omega) (by omega)
    · rw [swp_other d' j.toNat a x (by omega) hxa]
      exact v4 x (by omega) (by omega)
  · rw [hR, swp_other d' j.toNat a x (by omega) (by omega)]
    exact v5 x (by omega) hxb

theorem pt_swap {a b : Nat} {d d' : Array Int} {i j : Int} (hb : b ≤ d'.size) (v : Pt a b d d' i j) (hij : i ≤ j) (hl : ltInt d'[i.toNat]! d'[a]! = false ∧ ltInt d'[j.toNat]! d'[a]! = true) : Pt a b d (swp d' i.toNat j.toNat) (i + 1) (j - 1) := by
  obtain ⟨vp, v1, v2, v3, v4, v5⟩ := v
  have hne : i ≠ j := fun e => by
    rw [e] at hl
    rw [hl.1] at hl
    exact absurd hl.2 (by simp)
  have hnn : i.toNat ≠ j.toNat := by omega
  have ha : (swp d' i.toNat j.toNat)[a]! = d'[a]! := swp_other d' i.toNat j.toNat a (by omega) (by omega)
  refine ⟨permIn_trans _ _ _ _ _ vp (swp_permIn d' a b i.toNat j.toNat (by omega) (by omega) (by omega) (by omega) hb), by omega, by omega, by omega, fun x hx hxi => ?_, fun x hx hxb => ?_⟩
  · rw [ha]
    by_cases hxe : x = i.toNat
    · subst hxe
      rw [swp_left d' _ _ (by omega) hnn]
      exact hl.2
    · rw [swp_other d' _ _ x hxe (by omega)]
      exact v4 x hx (by omega)
  · rw [ha]
    by_cases hxe : x = j.toNat
    · subst hxe
      rw [swp_right d' _ _ (by omega)]
      exact hl.1
    · rw [swp_other d' _ _ x (by omega) hxe]
      exact v5 x (by omega) hxb

set_option maxHeartbeats 2000000 in
theorem partition_ok {k : Hp} {data : Sl} {d : Array Int} {F : List Nat} {a b pivot : Nat} {Q : Int → Bool → Hp → Prop} (o : DA k data d F) (hap : a ≤ pivot) (hpb : pivot < b) (hb : b ≤ d.size) (hs : d.size ≤ 140737488355328)
    (hq : ∀ (mid : Nat) ap k' d', DA k' data d' F → Mv F k F k' → Parted a b d d' mid → Q (mid : Int) ap k') : slices_partitionOrdered_uint64_w Try.prog data (a : Int) (b : Int) (pivot : Int) Q k := by
  unfold slices_partitionOrdered_uint64_w
  have hat : ((a : Nat) : Int).toNat = a := by omega
  have hpt : ((pivot : Nat) : Int).toNat = pivot := by omega
  refine da_swap o (A := (a : Int)) (B := (pivot : Int)) (by omega) (by omega) (by omega) (by omega) fun k1 o1 m1 => ?_
  rw [hat, hpt] at o1
  rw [wrap64 (n := (a : Int) + 1) (by omega) (by omega), wrap64 (n := (b : Int) - 1) (by omega) (by omega)]
  have hsz1 : (swp d a pivot).size = d.size := size_swp d a pivot
  have v1 : Pt a b d (swp d a pivot) ((a : Int) + 1) ((b : Int) - 1) := ⟨swp_permIn d a b a pivot (Nat.le_refl _) (by omega) hap hpb hb, by omega, by omega, by omega, fun x h1 h2 => by omega, fun x h1 h2 => by omega⟩
  have fin : ∀ {k' : Hp} {d' : Array Int} {i j : Int} (ap : Bool), DA k' data d' F → Mv F k F k' → d'.size = d.size → Pt a b d d' i j → i > j →
      (InB data.base data.len (a : Int) ∧ LdW none (shInt .u64) k' (sat data.base 1 (a : Int)) fun x6 => (InB data.base data.len j ∧ LdW none (shInt .u64) k' (sat data.base 1 j) fun x7 =>
        (InB data.base data.len j ∧ StW k' (sat data.base 1 j) [(.int .u64 x6)] fun h7 => (InB data.base data.len (a : Int) ∧ StW h7 (sat data.base 1 (a : Int)) [(.int .u64 x7)] fun h8 => Q j ap h8)))) := by
    intro k' d' i j ap o' m' hsz' v' hij
    have g1 := v'.i0
    have g2 := v'.ij
    have g3 := v'.jb
    have hjn : ((j.toNat : Nat) : Int) = j := by omega
    refine da_swap o' (A := j) (B := (a : Int)) (by omega) (by omega) (by omega) (by omega) fun k2 o2 m2 => ?_
    rw [hat] at o2
    have := hq j.toNat ap k2 _ o2 (m'.trans m2) (pt_end (by omega) (by omega) v' hij)
    rw [hjn] at this
    exact this
  refine scan_ok (d := d) o1 (by omega) (by omega) v1 fun i j v h1 h2 hst => ?_
  by_cases hij : i > j
  · rw [if_pos (by simpa using hij)]
    exact fin true o1 m1 hsz1 v hij
  · rw [if_neg (by simpa using hij)]
    have g1 := v.i0
    have g3 := v.jb
    refine da_swap o1 (A := i) (B := j) (by omega) (by omega) (by omega) (by omega) fun k2 o2 m2 => ?_
    rw [wrap64 (n := i + 1) (by omega) (by omega), wrap64 (n := j - 1) (by omega) (by omega)]
    refine LoopW2.intro (fun i j k' => ∃ d', DA k' data d' F ∧ Mv F k F k' ∧ d'.size = d.size ∧ Pt a b d d' i j) (fun i j _ => (j + 1 - i).toNat) ⟨_, o2, m1.trans m2, by rw [size_swp, hsz1], pt_swap (by omega) v (by omega) (hst (by omega))⟩ ?_
    clear o2 m2 k2 hst h1 h2 v g1 g3 hij i j
    rintro i1 j1 k3 ⟨d3, o3, m3, hsz3, v3⟩
    refine scan_ok (d := d) o3 (by omega) (by omega) v3 fun i j v h1 h2 hst => ?_
    by_cases hij : i > j
    · rw [if_pos (by simpa using hij)]
      exact fin false o3 m3 hsz3 v hij
    · rw [if_neg (by simpa using hij)]
      have g1 := v.i0
      have g3 := v.jb
      refine da_swap o3 (A := i) (B := j) (by omega) (by omega) (by omega) (by omega) fun k2 o2 m2 => ?_
      rw [wrap64 (n := i + 1) (by omega) (by omega), wrap64 (n := j - 1) (by omega) (by omega)]
      exact ⟨⟨_, o2, m3.trans m2, by rw [size_swp, hsz3], pt_swap (by omega) v (by omega) (hst (by omega))⟩, by omega⟩

/-- In the middle of the other partition: none ahead of i is greater than the one at a, all behind j are. -/
structure Pe (a b : Nat) (d d' : Array Int) (i j : Int) : Prop where
  p : PermIn a b d d'
  i0 : (a : Int) < i
  ij : i ≤ j + 1
  jb : j < (b : Int)
  lo : ∀ x : Nat, a < x → (x : Int) < i → ltInt d'[a]! d'[x]! = false
  hi : ∀ x : Nat, j < (x : Int) → x < b → ltInt d'[a]! d'[x]! = true

set_option maxHeartbeats 2000000 in
theorem partitionEqual_ok {k : Hp} {data : Sl} {d : Array Int} {F : List Nat} {a b pivot : Nat} {Q : Int → Hp → Prop} (o : DA k data d F) (hap : a ≤ pivot) (hpb : pivot < b) (hb : b ≤ d.size) (hs : d.size ≤ 140737488355328)
    (hq : ∀ (mid : Nat) k' d', DA k' data d' F → Mv F k F k' → a < mid → mid ≤ b → PermIn a b d d' → (∀ x : Nat, a ≤ x → x < mid → ltInt d[pivot]! d'[x]! = false) → (∀ x : Nat, mid ≤ x → x < b → ltInt d[pivot]! d'[x]! = true) → Q (mid : Int) k') :
    slices_partitionEqualOrdered_uint64_w Try.prog data (a : Int) (b : Int) (pivot : Int) Q k := by
  unfold slices_partitionEqualOrdered_uint64_w
  have hat : ((a : Nat) : Int).toNat = a := by omega
  have hpt : ((pivot : Nat) : Int).toNat = pivot := by omega
  refine da_swap o (A := (a : Int)) (B := (pivot : Int)) (by omega) (by omega) (by omega) (by omega) fun k1 o1 m1 => ?_
  rw [hat, hpt] at o1
  rw [wrap64 (n := (a : Int) + 1) (by omega) (by omega), wrap64 (n := (b : Int) - 1) (by omega) (by omega)]
  have hpv : (swp d a pivot)[a]! = d[pivot]! := by
    by_cases e : a = pivot
    · subst e
      exact swp_right d a a (by omega)
    · exact swp_left d a pivot (by omega) e
  refine LoopW2.intro (fun i j k' => ∃ d', DA k' data d' F ∧ Mv F k F k' ∧ d'.size = d.size ∧ d'[a]! = d[pivot]! ∧ Pe a b d d' i j) (fun i j _ => (j + 1 - i).toNat)
    ⟨_, o1, m1, size_swp d a pivot, hpv, ⟨swp_permIn d a b a pivot (Nat.le_refl _) (by omega) hap hpb hb, by omega, by omega, by omega, fun x h1 h2 => by omega, fun x h1 h2 => by omega⟩⟩ ?_
  rintro i0 j0 k3 ⟨d', o', m', hsz, hpa, v⟩
  obtain ⟨_, w1, w2, w3, _, _⟩ := id v
  refine LoopW1.intro (fun i k' => k' = k3 ∧ i0 ≤ i ∧ Pe a b d d' i j0) (fun i _ => (j0 + 1 - i).toNat) ⟨rfl, by omega, v⟩ ?_
  rintro i k' ⟨rfl, hi0, vi⟩
  obtain ⟨vp, v1, v2, v3, v4, v5⟩ := id vi
  refine da_getC o' (fun hc => ?_) fun x hx => ?_
  · omega
  refine da_getC o' (fun hc => ?_) fun x1 hx1 => ?_
  · have : i ≤ j0 := by simpa using hc
    omega
  rw [hat] at hx
  have hdec : ∀ (r : Bool), (decide (i ≤ j0) = true → r = ltInt d'[a]! d'[i.toNat]!) → (decide (i ≤ j0) && !r) = (decide (i ≤ j0) && !ltInt d'[a]! d'[i.toNat]!) := fun r hr => by
    cases hc : decide (i ≤ j0) with
    | false => rfl
    | true => rw [hr hc]
  have step : ∀ r : Bool, (decide (i ≤ j0) = true → r = ltInt d'[a]! d'[i.toNat]!) → LetW ((decide (i ≤ j0)) && (!r)) fun y =>
 (if y = true then
 ((k' = k' ∧ i0 ≤ IntKind.wrap .i64 (i + (1 : Int)) ∧ Pe a b d d' (IntKind.wrap .i64 (i + (1 : Int))) j0) ∧ (j0 + 1 - IntKind.wrap .i64 (i + (1 : Int))).toNat < (j0 + 1 - i).toNat)
 else
 LoopW1 (α1 := Int) (fun again2 j1 h6 =>
 (((decide (i ≤ j1)) = true → (InB data.base data.len (a : Int))) ∧ LdW (some (decide (i ≤ j1))) (shInt .u64) h6 (sat data.base 1 (a : Int)) fun x4 =>
 (((decide (i ≤ j1)) = true → (InB data.base data.len j1)) ∧ LdW (some (decide (i ≤ j1))) (shInt .u64) h6 (sat data.base 1 j1) fun x5 =>
 EffC (some (decide (i ≤ j1))) (CallT Try.prog n_cmp_Less_uint64 [(.int .u64 x4), (.int .u64 x5)] shBool) (fun r1 h7 =>
 LetW ((decide (i ≤ j1)) && r1) fun y1 =>
 (if y1 = true then
 again2 (IntKind.wrap .i64 (j1 - (1 : Int))) h7
 else
 (if (decide (i > j1)) = true then
 Q i h7
 else
 ((InB data.base data.len j1) ∧ LdW none (shInt .u64) h7 (sat data.base 1 j1) fun x6 =>
 ((InB data.base data.len i) ∧ LdW none (shInt .u64) h7 (sat data.base 1 i) fun x7 =>
 ((InB data.base data.len i) ∧ StW h7 (sat data.base 1 i) [(.int .u64 x6)] (fun h8 =>
 ((InB data.base data.len j1) ∧ StW h8 (sat data.base 1 j1) [(.int .u64 x7)] (fun h9 =>
 ((∃ d', DA h9 data d' F ∧ Mv F k F h9 ∧ d'.size = d.size ∧ d'[a]! = d[pivot]! ∧ Pe a b d d' (IntKind.wrap .i64 (i + (1 : Int))) (IntKind.wrap .i64 (j1 - (1 : Int)))) ∧ (IntKind.wrap .i64 (j1 - (1 : Int)) + 1 - IntKind.wrap .i64 (i + (1 : Int))).toNat < (j0 + 1 - i0).toNat)))))))))) h6))) j0 k') := by
    intro r hr
    refine letW ?_
    rw [hdec r hr, wrap64 (n := i + 1) (by omega) (by omega)]
    cases hc : (decide (i ≤ j0) && !ltInt d'[a]! d'[i.toNat]!) with
    | true =>
      rw [if_pos rfl]
      simp at hc
      refine ⟨⟨rfl, by omega, ⟨vp, by omega, by omega, v3, fun x hx hxi => ?_, v5⟩⟩, by omega⟩
      by_cases hxj : (x : Int) = i
      · have : x = i.toNat := by omega
        rw [this]; exact hc.2
      · exact v4 x hx (by omega)
    | false =>
      rw [if_neg (by simp)]
      have hstop : i ≤ j0 → ltInt d'[a]! d'[i.toNat]! = true := fun hh => by
        simp at hc
        exact hc hh
      refine LoopW1.intro (fun j k2 => k2 = k' ∧ j ≤ j0 ∧ Pe a b d d' i j) (fun j _ => (j + 1 - i).toNat) ⟨rfl, by omega, vi⟩ ?_
      rintro j k2 ⟨rfl, hj0, vj⟩
      obtain ⟨_, u1, u2, u3, u4, u5⟩ := id vj
      refine da_getC o' (fun hc => ?_) fun x hx => ?_
      · omega
      refine da_getC o' (fun hc => ?_) fun x1 hx1 => ?_
      · have : i ≤ j := by simpa using hc
        omega
      rw [hat] at hx
      rw [wrap64 (n := j - 1) (by omega) (by omega)]
      by_cases hij : i ≤ j
      · have hc : decide (i ≤ j) = true := by simpa using hij
        refine ⟨fun _ => cmp_Less_uint64_call (less_ok ?_), fun e => (by rw [hc] at e; cases e)⟩
        refine letW ?_
        rw [hc, Bool.true_and, hx hc, hx1 hc]
        cases hl : ltInt d'[a]! d'[j.toNat]! with
        | true =>
          rw [if_pos rfl]
          refine ⟨⟨rfl, by omega, ⟨vp, u1, by omega, by omega, u4, fun x hx hxb => ?_⟩⟩, by omega⟩
          by_cases hxj : (x : Int) = j
          · have : x = j.toNat := by omega
            rw [this]; exact hl
          · exact u5 x (by omega) hxb
        | false =>
          rw [if_neg (by simp), if_neg (by simp; omega)]
          have hli := hstop (by omega)
          have hne : i ≠ j := fun e => by rw [e, hl] at hli; cases hli
          have hnn : i.toNat ≠ j.toNat := by omega
          refine da_swap o' (A := i) (B := j) (by omega) (by omega) (by omega) (by omega) fun k4 o4 m4 => ?_
          have ha : (swp d' i.toNat j.toNat)[a]! = d'[a]! := swp_other d' i.toNat j.toNat a (by omega) (by omega)
          refine ⟨⟨_, o4, m'.trans m4, by rw [size_swp, hsz], by rw [ha]; exact hpa, ⟨permIn_trans _ _ _ _ _ vp (swp_permIn d' a b i.toNat j.toNat (by omega) (by omega) (by omega) (by omega) (by omega)), by omega, by omega, by omega, fun x hx hxi => ?_, fun x hx hxb => ?_⟩⟩, by omega⟩
          · rw [ha]
            by_cases hxe : x = i.toNat
            · subst hxe
              rw [swp_left d' _ _ (by omega) hnn]
              exact hl
            · rw [swp_other d' _ _ x hxe (by omega)]
              exact v4 x hx (by omega)
          · rw [ha]
            by_cases hxe : x = j.toNat
            · subst hxe
              rw [swp_right d' _ _ (by omega)]
              exact hli
            · rw [swp_other d' _ _ x (by omega) hxe]
              exact u5 x (by omega) hxb
      · have hc : decide (i ≤ j) = false := by simpa using hij
        refine ⟨fun e => (by rw [hc] at e; cases e), fun _ => ⟨false, letW ?_⟩⟩
        rw [hc, Bool.false_and, if_neg (by simp), if_pos (by simp; omega)]
        have hin : ((i.toNat : Nat) : Int) = i := by omega
        have := hq i.toNat k2 d' o' m' (by omega) (by omega) vp (fun x hx hxi => ?_) fun x hx hxb => ?_
        · rw [hin] at this
          exact this
        · rw [← hpa]
          by_cases hxa : x = a
          · subst hxa
            exact swo_ltInt.irrefl _
          · exact v4 x (by omega) (by omega)
        · rw [← hpa]
          exact u5 x (by omega) hxb
  by_cases hij : i ≤ j0
  · have hc : decide (i ≤ j0) = true := by simpa using hij
    refine ⟨fun _ => cmp_Less_uint64_call (less_ok ?_), fun e => (by rw [hc] at e; cases e)⟩
    refine step _ fun _ => ?_
    rw [hx hc, hx1 hc]
  · have hc : decide (i ≤ j0) = false := by simpa using hij
    exact ⟨fun e => (by rw [hc] at e; cases e), fun _ => ⟨false, step false fun e => by rw [hc] at e; cases e⟩⟩

end Lf.Souint64

/-
  The library's sort: the insertion that may give up.
-/
namespace Lf.Souint64
open Go Go.Proofs Go.Sort

set_option maxHeartbeats 2000000 in
theorem partial_ok {k : Hp} {data : Sl} {d : Array Int} {F : List Nat} {a b : Nat} {Q : Bool → Hp → Prop} (o : DA k data d F) (hab : a < b) (hb : b ≤ d.size) (hs : d.size ≤ 140737488355328) (hB : Below ltInt a b d)
    (hq : ∀ r k' d', DA k' data d' F → Mv F k F k' → PermIn a b d d' → (r = true → SortedIn ltInt a b d') → Q r k') : slices_partialInsertionSortOrdered_uint64_w Try.prog data (a : Int) (b : Int) Q k := by
  unfold slices_partialInsertionSortOrdered_uint64_w
  obtain ⟨hperm, hsort⟩ := partialInsertionSort_holds (lt := ltInt) swo_ltInt d a b hab hb hB
  rw [wrap64 (n := (a : Int) + 1) (by omega) (by omega), wrap64 (n := (b : Int) - (a : Int)) (by omega) (by omega)]
  have done : ∀ {k' : Hp} {d' : Array Int} (r : Bool), DA k' data d' F → Mv F k F k' → (d', r) = partialInsertionSort ltInt d a b → Q r k' := fun {k'} {d'} r o' m' he => by
    rw [← he] at hperm hsort
    exact hq r k' d' o' m' hperm hsort
  refine LoopW2.intro (fun i j k' => ∃ d', DA k' data d' F ∧ Mv F k F k' ∧ (a : Int) + 1 ≤ i ∧ i ≤ (b : Int) ∧ 0 ≤ j ∧ j ≤ 5 ∧ d'.size = d.size ∧ partialIns ltInt a b (5 - j).toNat i.toNat d' = partialInsertionSort ltInt d a b) (fun _ j _ => (5 - j).toNat)
    ⟨d, o, Mv.refl _ _, by omega, by omega, by omega, by omega, rfl, by
      have : ((a : Int) + 1).toNat = a + 1 := by omega
      rw [this]; rfl⟩ ?_
  rintro i j k' ⟨d', o', m', hi0, hi1, hj0, hj1, hsz, he⟩
  by_cases hj5 : 5 ≤ j
  · rw [if_neg (by simpa using hj5)]
    have : (5 - j).toNat = 0 := by omega
    rw [this] at he
    exact done false o' m' he
  rw [if_pos (by simpa using hj5)]
  obtain ⟨s, hsj⟩ : ∃ s, (5 - j).toNat = s + 1 := ⟨(5 - j).toNat - 1, by omega⟩
  rw [hsj] at he
  refine JoinW1.intro (fun i1 h2 => ∃ d2, DA h2 data d2 F ∧ Mv F k F h2 ∧ (a : Int) + 1 ≤ i1 ∧ i1 ≤ (b : Int) ∧ d2.size = d.size ∧ partialIns ltInt a b s i1.toNat d2 = partialInsertionSort ltInt d a b) ?_ ?_
  rotate_left
  · rintro i1 h2 ⟨d2, o2, m2, h3, h4, h5, h6⟩
    rw [wrap64 (by omega) (by omega)]
    have : (5 - (j + 1)).toNat = s := by omega
    exact ⟨⟨d2, o2, m2, h3, h4, by omega, by omega, h5, by rw [this]; exact h6⟩, by omega⟩
  refine LoopW1.intro (fun i1 h2 => h2 = k' ∧ i ≤ i1 ∧ i1 ≤ (b : Int) ∧ scanSorted ltInt d' b i1.toNat = scanSorted ltInt d' b i.toNat) (fun i1 _ => (b - i1).toNat) ⟨rfl, by omega, by omega, rfl⟩ ?_
  rintro i1 h2 ⟨rfl, hii, hib, hsc⟩
  rw [wrap64 (n := i1 - 1) (by omega) (by omega)]
  have hm1 : (i1 - 1).toNat = i1.toNat - 1 := by omega
  -- behind the scan
  have behind : scanSorted ltInt d' b i1.toNat = i1.toNat → (if (i1 == (b : Int)) = true then Q true h2 else
 (if (decide (((b : Int) - (a : Int)) < (50 : Int))) = true then Q false h2 else
 ((InB data.base data.len (i1 - (1 : Int))) ∧ LdW none (shInt .u64) h2 (sat data.base 1 (i1 - (1 : Int))) fun x2 =>
 ((InB data.base data.len i1) ∧ LdW none (shInt .u64) h2 (sat data.base 1 i1) fun x3 =>
 ((InB data.base data.len i1) ∧ StW h2 (sat data.base 1 i1) [(.int .u64 x2)] (fun h4 =>
 ((InB data.base data.len (i1 - (1 : Int))) ∧ StW h4 (sat data.base 1 (i1 - (1 : Int))) [(.int .u64 x3)] (fun h5 =>
 JoinW0 (fun k1 =>
 (if (decide ((IntKind.wrap .i64 (i1 - (a : Int))) ≥ (2 : Int))) = true then
 JoinW0 (fun k2 =>
 LoopW1 (α1 := Int) (fun again2 j1 h6 =>
 (if (decide (j1 ≥ (1 : Int))) = true then
 ((InB data.base data.len j1) ∧ LdW none (shInt .u64) h6 (sat data.base 1 j1) fun x4 =>
 ((InB data.base data.len (IntKind.wrap .i64 (j1 - (1 : Int)))) ∧ LdW none (shInt .u64) h6 (sat data.base 1 (IntKind.wrap .i64 (j1 - (1 : Int)))) fun x5 =>
 CallT Try.prog n_cmp_Less_uint64 [(.int .u64 x4), (.int .u64 x5)] shBool (fun r1 h7 =>
 (if (!r1) = true then
 k2 h7
 else
 ((InB data.base data.len (IntKind.wrap .i64 (j1 - (1 : Int)))) ∧ LdW none (shInt .u64) h7 (sat data.base 1 (IntKind.wrap .i64 (j1 - (1 : Int)))) fun x6 =>
 ((InB data.base data.len j1) ∧ LdW none (shInt .u64) h7 (sat data.base 1 j1) fun x7 =>
 ((InB data.base data.len j1) ∧ StW h7 (sat data.base 1 j1) [(.int .u64 x6)] (fun h8 =>
 ((InB data.base data.len (IntKind.wrap .i64 (j1 - (1 : Int)))) ∧ StW h8 (sat data.base 1 (IntKind.wrap .i64 (j1 - (1 : Int)))) [(.int .u64 x7)] (fun h9 =>
 again2 (IntKind.wrap .i64 (j1 - (1 : Int))) h9)))))))) h6))
 else
 k2 h6)) (i1 - (1 : Int)) h5)
 (fun h6 =>
 k1 h6)
 else
 k1 h5))
 (fun h6 =>
 (if (decide ((IntKind.wrap .i64 ((b : Int) - i1)) ≥ (2 : Int))) = true then
 JoinW0 (fun k1 =>
 LoopW1 (α1 := Int) (fun again2 j1 h7 =>
 (if (decide (j1 < (b : Int))) = true then
 ((InB data.base data.len j1) ∧ LdW none (shInt .u64) h7 (sat data.base 1 j1) fun x4 =>
 ((InB data.base data.len (IntKind.wrap .i64 (j1 - (1 : Int)))) ∧ LdW none (shInt .u64) h7 (sat data.base 1 (IntKind.wrap .i64 (j1 - (1 : Int)))) fun x5 =>
 CallT Try.prog n_cmp_Less_uint64 [(.int .u64 x4), (.int .u64 x5)] shBool (fun r1 h8 =>
 (if (!r1) = true then
 k1 h8
 else
 ((InB data.base data.len (IntKind.wrap .i64 (j1 - (1 : Int)))) ∧ LdW none (shInt .u64) h8 (sat data.base 1 (IntKind.wrap .i64 (j1 - (1 : Int)))) fun x6 =>
 ((InB data.base data.len j1) ∧ LdW none (shInt .u64) h8 (sat data.base 1 j1) fun x7 =>
 ((InB data.base data.len j1) ∧ StW h8 (sat data.base 1 j1) [(.int .u64 x6)] (fun h9 =>
 ((InB data.base data.len (IntKind.wrap .i64 (j1 - (1 : Int)))) ∧ StW h9 (sat data.base 1 (IntKind.wrap .i64 (j1 - (1 : Int)))) [(.int .u64 x7)] (fun h10 =>
 again2 (IntKind.wrap .i64 (j1 + (1 : Int))) h10)))))))) h7))
 else
 k1 h7)) (IntKind.wrap .i64 (i1 + (1 : Int))) h6)
 (fun h7 => (∃ d2, DA h7 data d2 F ∧ Mv F k F h7 ∧ (a : Int) + 1 ≤ i1 ∧ i1 ≤ (b : Int) ∧ d2.size = d.size ∧ partialIns ltInt a b s i1.toNat d2 = partialInsertionSort ltInt d a b))
 else (∃ d2, DA h6 data d2 F ∧ Mv F k F h6 ∧ (a : Int) + 1 ≤ i1 ∧ i1 ≤ (b : Int) ∧ d2.size = d.size ∧ partialIns ltInt a b s i1.toNat d2 = partialInsertionSort ltInt d a b))))))))))) := by
    intro hstop
    rw [hstop] at hsc
    rw [partialIns_succ, ← hsc] at he
    unfold fixUp fixDown at he
    by_cases hib2 : i1 = (b : Int)
    · rw [if_pos (by simpa using hib2)]
      rw [if_pos (by omega)] at he
      exact done true o' m' he
    rw [if_neg (by simpa using hib2)]
    rw [if_neg (by omega)] at he
    by_cases h50 : (b : Int) - (a : Int) < 50
    · rw [if_pos (by simpa using h50)]
      rw [if_pos (by omega)] at he
      exact done false o' m' he
    rw [if_neg (by simpa using h50)]
    rw [if_neg (by omega)] at he
    refine da_swap o' (A := i1) (B := i1 - 1) (by omega) (by omega) (by omega) (by omega) fun k5 o5 m5 => ?_
    rw [hm1] at o5
    rw [wrap64 (n := i1 - (a : Int)) (by omega) (by omega), wrap64 (n := (b : Int) - i1) (by omega) (by omega), wrap64 (n := i1 + 1) (by omega) (by omega)]
    have hsz5 : (swp d' i1.toNat (i1.toNat - 1)).size = d.size := by rw [size_swp, hsz]
    generalize swp d' i1.toNat (i1.toNat - 1) = d5 at o5 he hsz5
    refine JoinW0.intro (fun h6 => ∃ d6, DA h6 data d6 F ∧ Mv F k F h6 ∧ d6.size = d.size ∧ d6 = if i1.toNat - a ≥ 2 then shiftDown ltInt (i1.toNat - 1) d5 else d5) ?_ ?_
    · by_cases h2 : i1 - (a : Int) ≥ 2
      · rw [if_pos (by simpa using h2)]
        refine JoinW0.intro (fun h6 => ∃ d6, DA h6 data d6 F ∧ Mv F k F h6 ∧ d6.size = d.size ∧ d6 = shiftDown ltInt (i1.toNat - 1) d5) ?_ ?_
        · refine LoopW1.intro (fun j1 h6 => ∃ d6, DA h6 data d6 F ∧ Mv F k F h6 ∧ d6.size = d.size ∧ 0 ≤ j1 ∧ j1 < (d.size : Int) ∧ shiftDown ltInt j1.toNat d6 = shiftDown ltInt (i1.toNat - 1) d5) (fun j1 _ => j1.toNat)
            ⟨d5, o5, m'.trans m5, hsz5, by omega, by omega, by rw [hm1]⟩ ?_
          rintro j1 h6 ⟨d6, o6, m6, hsz6, q0, q1, he6⟩
          by_cases hj1 : j1 ≥ 1
          · rw [if_pos (by simpa using hj1), wrap64 (n := j1 - 1) (by omega) (by omega)]
            refine da_get o6 (by omega) (by omega) (da_get o6 (by omega) (by omega) ?_)
            obtain ⟨z, hz⟩ : ∃ z, j1.toNat = z + 1 := ⟨j1.toNat - 1, by omega⟩
            have hz1 : (j1 - 1).toNat = z := by omega
            rw [hz, hz1]
            rw [hz, shiftDown] at he6
            refine cmp_Less_uint64_call (less_ok ?_)
            cases hl : ltInt d6[z + 1]! d6[z]! with
            | false =>
              rw [if_pos (by rfl)]
              rw [hl, if_pos (by rfl)] at he6
              exact ⟨d6, o6, m6, hsz6, he6⟩
            | true =>
              rw [if_neg (by simp)]
              rw [hl, if_neg (by simp)] at he6
              refine da_swap o6 (A := j1) (B := j1 - 1) (by omega) (by omega) (by omega) (by omega) fun k7 o7 m7 => ?_
              rw [hz, hz1] at o7
              exact ⟨⟨_, o7, m6.trans m7, by rw [size_swp, hsz6], by omega, by omega, by rw [hz1]; exact he6⟩, by omega⟩
          · rw [if_neg (by simpa using hj1)]
            have : j1.toNat = 0 := by omega
            rw [this, shiftDown] at he6
            exact ⟨d6, o6, m6, hsz6, he6⟩
        · rintro h6 ⟨d6, o6, m6, hsz6, he6⟩
          exact ⟨d6, o6, m6, hsz6, by rw [if_pos (by omega)]; exact he6⟩
      · rw [if_neg (by simpa using h2)]
        exact ⟨d5, o5, m'.trans m5, hsz5, by rw [if_neg (by omega)]⟩
    · rintro h6 ⟨d6, o6, m6, hsz6, he6⟩
      rw [← he6] at he
      by_cases h2 : (b : Int) - i1 ≥ 2
      · rw [if_pos (by simpa using h2)]
        rw [if_pos (by omega)] at he
        refine JoinW0.intro (fun h7 => ∃ d7, DA h7 data d7 F ∧ Mv F k F h7 ∧ d7.size = d.size ∧ d7 = shiftUp ltInt b (i1.toNat + 1) d6) ?_ ?_
        · refine LoopW1.intro (fun j1 h7 => ∃ d7, DA h7 data d7 F ∧ Mv F k F h7 ∧ d7.size = d.size ∧ i1 + 1 ≤ j1 ∧ j1 ≤ (b : Int) ∧ shiftUp ltInt b j1.toNat d7 = shiftUp ltInt b (i1.toNat + 1) d6) (fun j1 _ => (b - j1).toNat)
            ⟨d6, o6, m6, hsz6, by omega, by omega, by
              have : (i1 + 1).toNat = i1.toNat + 1 := by omega
              rw [this]⟩ ?_
          rintro j1 h7 ⟨d7, o7, m7, hsz7, q0, q1, he7⟩
          rw [shiftUp] at he7
          by_cases hj1 : j1 < (b : Int)
          · rw [if_pos (by simpa using hj1), wrap64 (n := j1 - 1) (by omega) (by omega)]
            rw [if_pos (by omega)] at he7
            refine da_get o7 (by omega) (by omega) (da_get o7 (by omega) (by omega) ?_)
            have hz1 : (j1 - 1).toNat = j1.toNat - 1 := by omega
            rw [hz1]
            refine cmp_Less_uint64_call (less_ok ?_)
            cases hl : ltInt d7[j1.toNat]! d7[j1.toNat - 1]! with
            | false =>
              rw [if_pos (by rfl)]
              rw [hl, if_pos (by rfl)] at he7
              exact ⟨d7, o7, m7, hsz7, he7⟩
            | true =>
              rw [if_neg (by simp)]
              rw [hl, if_neg (by simp)] at he7
              refine da_swap o7 (A := j1) (B := j1 - 1) (by omega) (by omega) (by omega) (by omega) fun k8 o8 m8 => ?_
              rw [hz1] at o8
              rw [wrap64 (by omega) (by omega)]
              have hz2 : (j1 + 1).toNat = j1.toNat + 1 := by omega
              exact ⟨⟨_, o8, m7.trans m8, by rw [size_swp, hsz7], by omega, by omega, by rw [hz2]; exact he7⟩, by omega⟩
          · rw [if_neg (by simpa using hj1)]
            rw [if_neg (by omega)] at he7
            exact ⟨d7, o7, m7, hsz7, he7⟩
        · rintro h7 ⟨d7, o7, m7, hsz7, he7⟩
          exact ⟨d7, o7, m7, by omega, by omega, hsz7, by rw [he7]; exact he⟩
      · rw [if_neg (by simpa using h2)]
        rw [if_neg (by omega)] at he
        exact ⟨d6, o6, m6, by omega, by omega, hsz6, he⟩
  refine da_getC o' (fun hc => ?_) fun x hx => ?_
  · have : i1 < (b : Int) := by simpa using hc
    omega
  refine da_getC o' (fun hc => ?_) fun x1 hx1 => ?_
  · omega
  rw [hm1] at hx1
  by_cases hib3 : i1 < (b : Int)
  · have hc : decide (i1 < (b : Int)) = true := by simpa using hib3
    refine ⟨fun _ => cmp_Less_uint64_call (less_ok ?_), fun e => (by rw [hc] at e; cases e)⟩
    refine letW ?_
    rw [hc, Bool.true_and, hx hc, hx1 hc]
    cases hl : ltInt d'[i1.toNat]! d'[i1.toNat - 1]! with
    | false =>
      rw [if_pos (by rfl), wrap64 (by omega) (by omega)]
      have hsc2 := hsc
      rw [scanSorted, hl, if_pos (by simp; omega)] at hsc2
      have : (i1 + 1).toNat = i1.toNat + 1 := by omega
      exact ⟨⟨rfl, by omega, by omega, by rw [this]; exact hsc2⟩, by omega⟩
    | true =>
      rw [if_neg (by simp)]
      exact behind (by rw [scanSorted, hl, if_neg (by simp)])
  · have hc : decide (i1 < (b : Int)) = false := by simpa using hib3
    refine ⟨fun e => (by rw [hc] at e; cases e), fun _ => ⟨false, letW ?_⟩⟩
    rw [hc, Bool.false_and, if_neg (by simp)]
    exact behind (by rw [scanSorted, if_neg (by simp; omega)])

end Lf.Souint64

/-
  How many bits a number has.
-/
namespace Lf
open Go Go.Proofs Go.Sort

def len8 : List UInt8 := [⟨⟨⟨0, by decide⟩⟩⟩, ⟨⟨⟨1, by decide⟩⟩⟩, ⟨⟨⟨2, by decide⟩⟩⟩, ⟨⟨⟨2, by decide⟩⟩⟩, ⟨⟨⟨3, by decide⟩⟩⟩, ⟨⟨⟨3, by decide⟩⟩⟩, ⟨⟨⟨3, by decide⟩⟩⟩, ⟨⟨⟨3, by decide⟩⟩⟩, ⟨⟨⟨4, by decide⟩⟩⟩, ⟨⟨⟨4, by decide⟩⟩⟩, ⟨⟨⟨4, by decide⟩⟩⟩, ⟨⟨⟨4, by decide⟩⟩⟩, ⟨⟨⟨4, by decide⟩⟩⟩, ⟨⟨⟨4, by decide⟩⟩⟩, ⟨⟨⟨4, by decide⟩⟩⟩, ⟨⟨⟨4, by decide⟩⟩⟩, ⟨⟨⟨5, by decide⟩⟩⟩, ⟨⟨⟨5, by decide⟩⟩⟩, ⟨⟨⟨5, by decide⟩⟩⟩, ⟨⟨⟨5, by decide⟩⟩⟩, ⟨⟨⟨5, by decide⟩⟩⟩, ⟨⟨⟨5, by decide⟩⟩⟩, ⟨⟨⟨5, by decide⟩⟩⟩, ⟨⟨⟨5, by decide⟩⟩⟩, ⟨⟨⟨5, by decide⟩⟩⟩, ⟨⟨⟨5, by decide⟩⟩⟩, ⟨⟨⟨5, by decide⟩⟩⟩, ⟨⟨⟨5, by decide⟩⟩⟩, ⟨⟨⟨5, by decide⟩⟩⟩, ⟨⟨⟨5, by decide⟩⟩⟩, ⟨⟨⟨5, by decide⟩⟩⟩, ⟨⟨⟨5, by decide⟩⟩⟩, ⟨⟨⟨6, by decide⟩⟩⟩, ⟨⟨⟨6, by decide⟩⟩⟩, ⟨⟨⟨6, by decide⟩⟩⟩, ⟨⟨⟨6, by decide⟩⟩⟩, ⟨⟨⟨6, by decide⟩⟩⟩, ⟨⟨⟨6, by decide⟩⟩⟩, ⟨⟨⟨6, by decide⟩⟩⟩, ⟨⟨⟨6, by decide⟩⟩⟩, ⟨⟨⟨6, by decide⟩⟩⟩, ⟨⟨⟨6, by decide⟩⟩⟩, ⟨⟨⟨6, by decide⟩⟩⟩, ⟨⟨⟨6, by decide⟩⟩⟩, ⟨⟨⟨6, by decide⟩⟩⟩, ⟨⟨⟨6, by decide⟩⟩⟩, ⟨⟨⟨6, by decide⟩⟩⟩, ⟨⟨⟨6, by decide⟩⟩⟩, ⟨⟨⟨6, by decide⟩⟩⟩, ⟨⟨⟨6, by decide⟩⟩⟩, ⟨⟨⟨6, by decide⟩⟩⟩, ⟨⟨⟨6, by decide⟩⟩⟩, ⟨⟨⟨6, by decide⟩⟩⟩, ⟨⟨⟨6, by decide⟩⟩⟩, ⟨⟨⟨6, by decide⟩⟩⟩, ⟨⟨⟨6, by decide⟩⟩⟩, ⟨⟨⟨6, by decide⟩⟩⟩, ⟨⟨⟨6, by decide⟩⟩⟩, ⟨⟨⟨6, by decide⟩⟩⟩, ⟨⟨⟨6, by decide⟩⟩⟩, ⟨⟨⟨6, by decide⟩⟩⟩, ⟨⟨⟨6, by decide⟩⟩⟩, ⟨⟨⟨6, by decide⟩⟩⟩, ⟨⟨⟨6, by decide⟩⟩⟩, ⟨⟨⟨7, by decide⟩⟩⟩, ⟨⟨⟨7, by decide⟩⟩⟩, ⟨⟨⟨7, by decide⟩⟩⟩, ⟨⟨⟨7, by decide⟩⟩⟩, ⟨⟨⟨7, by decide⟩⟩⟩, ⟨⟨⟨7, by decide⟩⟩⟩, ⟨⟨⟨7, by decide⟩⟩⟩, ⟨⟨⟨7, by decide⟩⟩⟩, ⟨⟨⟨7, by decide⟩⟩⟩, ⟨⟨⟨7, by decide⟩⟩⟩, ⟨⟨⟨7, by decide⟩⟩⟩, ⟨⟨⟨7, by decide⟩⟩⟩, ⟨⟨⟨7, by decide⟩⟩⟩, ⟨⟨⟨7, by decide⟩⟩⟩, ⟨⟨⟨7, by decide⟩⟩⟩, ⟨⟨⟨7, by decide⟩⟩⟩, ⟨⟨⟨7, by decide⟩⟩⟩, ⟨⟨⟨7, by decide⟩⟩⟩, ⟨⟨⟨7, by decide⟩⟩⟩, ⟨⟨⟨7, by decide⟩⟩⟩, ⟨⟨⟨7, by decide⟩⟩⟩, ⟨⟨⟨7, by decide⟩⟩⟩, ⟨⟨⟨7, by decide⟩⟩⟩, ⟨⟨⟨7, by decide⟩⟩⟩, ⟨⟨⟨7, by decide⟩⟩⟩, ⟨⟨⟨7, by decide⟩⟩⟩, ⟨⟨⟨7, by decide⟩⟩⟩, ⟨⟨⟨7, by decide⟩⟩⟩, ⟨⟨⟨7, by decide⟩⟩⟩, ⟨⟨⟨7, by decide⟩⟩⟩, ⟨⟨⟨7, by decide⟩⟩⟩, ⟨⟨⟨7, by decide⟩⟩⟩, ⟨⟨⟨7, by decide⟩⟩⟩, ⟨⟨⟨7, by decide⟩⟩⟩, ⟨⟨⟨7, by decide⟩⟩⟩, ⟨⟨⟨7, by decide⟩⟩⟩, ⟨⟨⟨7, by decide⟩⟩⟩, ⟨⟨⟨7, by decide⟩⟩⟩, ⟨⟨⟨7, by decide⟩⟩⟩, ⟨⟨⟨7, by decide⟩⟩⟩, ⟨⟨⟨7, by decide⟩⟩⟩, ⟨⟨⟨7, by decide⟩⟩⟩, ⟨⟨⟨7, by decide⟩⟩⟩, ⟨⟨⟨7, by decide⟩⟩⟩, ⟨⟨⟨7, by decide⟩⟩⟩, ⟨⟨⟨7, by decide⟩⟩⟩, ⟨⟨⟨7, by decide⟩⟩⟩, ⟨⟨⟨7, by decide⟩⟩⟩, ⟨⟨⟨7, by decide⟩⟩⟩, ⟨⟨⟨7, by decide⟩⟩⟩, ⟨⟨⟨7, by decide⟩⟩⟩, ⟨⟨⟨7, by decide⟩⟩⟩, ⟨⟨⟨7, by decide⟩⟩⟩, ⟨⟨⟨7, by decide⟩⟩⟩, ⟨⟨⟨7, by decide⟩⟩⟩, ⟨⟨⟨7, by decide⟩⟩⟩, ⟨⟨⟨7, by decide⟩⟩⟩, ⟨⟨⟨7, by decide⟩⟩⟩, ⟨⟨⟨7, by decide⟩⟩⟩, ⟨⟨⟨7, by decide⟩⟩⟩, ⟨⟨⟨7, by decide⟩⟩⟩, ⟨⟨⟨7, by decide⟩⟩⟩, ⟨⟨⟨7, by decide⟩⟩⟩, ⟨⟨⟨7, by decide⟩⟩⟩, ⟨⟨⟨8, by decide⟩⟩⟩, ⟨⟨⟨8, by decide⟩⟩⟩, ⟨⟨⟨8, by decide⟩⟩⟩, ⟨⟨⟨8, by decide⟩⟩⟩, ⟨⟨⟨8, by decide⟩⟩⟩, ⟨⟨⟨8, by decide⟩⟩⟩, ⟨⟨⟨8, by decide⟩⟩⟩, ⟨⟨⟨8, by decide⟩⟩⟩, ⟨⟨⟨8, by decide⟩⟩⟩, ⟨⟨⟨8, by decide⟩⟩⟩, ⟨⟨⟨8, by decide⟩⟩⟩, ⟨⟨⟨8, by decide⟩⟩⟩, ⟨⟨⟨8, by decide⟩⟩⟩, ⟨⟨⟨8, by decide⟩⟩⟩, ⟨⟨⟨8, by decide⟩⟩⟩, ⟨⟨⟨8, by decide⟩⟩⟩, ⟨⟨⟨8, by decide⟩⟩⟩, ⟨⟨⟨8, by decide⟩⟩⟩, ⟨⟨⟨8, by decide⟩⟩⟩, ⟨⟨⟨8, by decide⟩⟩⟩, ⟨⟨⟨8, by decide⟩⟩⟩, ⟨⟨⟨8, by decide⟩⟩⟩, ⟨⟨⟨8, by decide⟩⟩⟩, ⟨⟨⟨8, by decide⟩⟩⟩, ⟨⟨⟨8, by decide⟩⟩⟩, ⟨⟨⟨8, by decide⟩⟩⟩, ⟨⟨⟨8, by decide⟩⟩⟩, ⟨⟨⟨8, by decide⟩⟩⟩, ⟨⟨⟨8, by decide⟩⟩⟩, ⟨⟨⟨8, by decide⟩⟩⟩, ⟨⟨⟨8, by decide⟩⟩⟩, ⟨⟨⟨8, by decide⟩⟩⟩, ⟨⟨⟨8, by decide⟩⟩⟩, ⟨⟨⟨8, by decide⟩⟩⟩, ⟨⟨⟨8, by decide⟩⟩⟩, ⟨⟨⟨8, by decide⟩⟩⟩, ⟨⟨⟨8, by decide⟩⟩⟩, ⟨⟨⟨8, by decide⟩⟩⟩, ⟨⟨⟨8, by decide⟩⟩⟩, ⟨⟨⟨8, by decide⟩⟩⟩, ⟨⟨⟨8, by decide⟩⟩⟩, ⟨⟨⟨8, by decide⟩⟩⟩, ⟨⟨⟨8, by decide⟩⟩⟩, ⟨⟨⟨8, by decide⟩⟩⟩, ⟨⟨⟨8, by decide⟩⟩⟩, ⟨⟨⟨8, by decide⟩⟩⟩, ⟨⟨⟨8, by decide⟩⟩⟩, ⟨⟨⟨8, by decide⟩⟩⟩, ⟨⟨⟨8, by decide⟩⟩⟩, ⟨⟨⟨8, by decide⟩⟩⟩, ⟨⟨⟨8, by decide⟩⟩⟩, ⟨⟨⟨8, by decide⟩⟩⟩, ⟨⟨⟨8, by decide⟩⟩⟩, ⟨⟨⟨8, by decide⟩⟩⟩, ⟨⟨⟨8, by decide⟩⟩⟩, ⟨⟨⟨8, by decide⟩⟩⟩, ⟨⟨⟨8, by decide⟩⟩⟩, ⟨⟨⟨8, by decide⟩⟩⟩, ⟨⟨⟨8, by decide⟩⟩⟩, ⟨⟨⟨8, by decide⟩⟩⟩, ⟨⟨⟨8, by decide⟩⟩⟩, ⟨⟨⟨8, by decide⟩⟩⟩, ⟨⟨⟨8, by decide⟩⟩⟩, ⟨⟨⟨8, by decide⟩⟩⟩, ⟨⟨⟨8, by decide⟩⟩⟩, ⟨⟨⟨8, by decide⟩⟩⟩, ⟨⟨⟨8, by decide⟩⟩⟩, ⟨⟨⟨8, by decide⟩⟩⟩, ⟨⟨⟨8, by decide⟩⟩⟩, ⟨⟨⟨8, by decide⟩⟩⟩, ⟨⟨⟨8, by decide⟩⟩⟩, ⟨⟨⟨8, by decide⟩⟩⟩, ⟨⟨⟨8, by decide⟩⟩⟩, ⟨⟨⟨8, by decide⟩⟩⟩, ⟨⟨⟨8, by decide⟩⟩⟩, ⟨⟨⟨8, by decide⟩⟩⟩, ⟨⟨⟨8, by decide⟩⟩⟩, ⟨⟨⟨8, by decide⟩⟩⟩, ⟨⟨⟨8, by decide⟩⟩⟩, ⟨⟨⟨8, by decide⟩⟩⟩, ⟨⟨⟨8, by decide⟩⟩⟩, ⟨⟨⟨8, by decide⟩⟩⟩, ⟨⟨⟨8, by decide⟩⟩⟩, ⟨⟨⟨8, by decide⟩⟩⟩, ⟨⟨⟨8, by decide⟩⟩⟩, ⟨⟨⟨8, by decide⟩⟩⟩, ⟨⟨⟨8, by decide⟩⟩⟩, ⟨⟨⟨8, by decide⟩⟩⟩, ⟨⟨⟨8, by decide⟩⟩⟩, ⟨⟨⟨8, by decide⟩⟩⟩, ⟨⟨⟨8, by decide⟩⟩⟩, ⟨⟨⟨8, by decide⟩⟩⟩, ⟨⟨⟨8, by decide⟩⟩⟩, ⟨⟨⟨8, by decide⟩⟩⟩, ⟨⟨⟨8, by decide⟩⟩⟩, ⟨⟨⟨8, by decide⟩⟩⟩, ⟨⟨⟨8, by decide⟩⟩⟩, ⟨⟨⟨8, by decide⟩⟩⟩, ⟨⟨⟨8, by decide⟩⟩⟩, ⟨⟨⟨8, by decide⟩⟩⟩, ⟨⟨⟨8, by decide⟩⟩⟩, ⟨⟨⟨8, by decide⟩⟩⟩, ⟨⟨⟨8, by decide⟩⟩⟩, ⟨⟨⟨8, by decide⟩⟩⟩, ⟨⟨⟨8, by decide⟩⟩⟩, ⟨⟨⟨8, by decide⟩⟩⟩, ⟨⟨⟨8, by decide⟩⟩⟩, ⟨⟨⟨8, by decide⟩⟩⟩, ⟨⟨⟨8, by decide⟩⟩⟩, ⟨⟨⟨8, by decide⟩⟩⟩, ⟨⟨⟨8, by decide⟩⟩⟩, ⟨⟨⟨8, by decide⟩⟩⟩, ⟨⟨⟨8, by decide⟩⟩⟩, ⟨⟨⟨8, by decide⟩⟩⟩, ⟨⟨⟨8, by decide⟩⟩⟩, ⟨⟨⟨8, by decide⟩⟩⟩, ⟨⟨⟨8, by decide⟩⟩⟩, ⟨⟨⟨8, by decide⟩⟩⟩, ⟨⟨⟨8, by decide⟩⟩⟩, ⟨⟨⟨8, by decide⟩⟩⟩, ⟨⟨⟨8, by decide⟩⟩⟩, ⟨⟨⟨8, by decide⟩⟩⟩, ⟨⟨⟨8, by decide⟩⟩⟩, ⟨⟨⟨8, by decide⟩⟩⟩, ⟨⟨⟨8, by decide⟩⟩⟩, ⟨⟨⟨8, by decide⟩⟩⟩, ⟨⟨⟨8, by decide⟩⟩⟩, ⟨⟨⟨8, by decide⟩⟩⟩]

theorem len8_get : ∀ n, n < 256 → (len8.getD n ⟨⟨⟨0, by decide⟩⟩⟩).toNat = bitsLen n := by decide +kernel

theorem bitsLen_shift {n k : Nat} (h : 2 ^ k ≤ n) : bitsLen n = k + bitsLen (n / 2 ^ k) := by
  have hp : 0 < 2 ^ k := Nat.pow_pos (by decide)
  have h1 : k < bitsLen n := by
    rcases Nat.lt_or_ge k (bitsLen n) with h1 | h1
    · exact h1
    · have := (bitsLen_le_iff n k).1 h1
      omega
  apply Nat.le_antisymm
  · refine (bitsLen_le_iff n _).2 ?_
    have := lt_two_pow_bitsLen (n / 2 ^ k)
    rw [Nat.div_lt_iff_lt_mul hp] at this
    rw [Nat.pow_add, Nat.mul_comm]
    exact this
  · have h2 : bitsLen (n / 2 ^ k) ≤ bitsLen n - k := by
      refine (bitsLen_le_iff _ _).2 ?_
      rw [Nat.div_lt_iff_lt_mul hp, ← Nat.pow_add]
      have := lt_two_pow_bitsLen n
      have e : bitsLen n - k + k = bitsLen n := by omega
      rw [e]
      exact this
    omega

theorem shr_nat {n k : Nat} (hk : k ≤ 64) : shrI .u64 (n : Int) (k : Int) = ((n / 2 ^ k : Nat) : Int) := by
  unfold shrI
  have : min (k : Int).toNat (IntKind.bits .u64) = k := by simp [IntKind.bits]; omega
  rw [this, Int.fdiv_eq_ediv_of_nonneg _ (Int.pow_nonneg (by decide))]
  norm_cast

theorem wrap8 {n : Int} (h0 : 0 ≤ n) (h1 : n < 256) : IntKind.wrap .u8 n = n := by
  unfold IntKind.wrap
  simp only [IntKind.signed, IntKind.bits]
  first | omega | (simp; omega)

theorem len64_ok {n : Nat} {Q : Int → Hp → Prop} {h : Hp} (hn : n < 18446744073709551616) (hq : Q (bitsLen n : Int) h) : math_bits_Len64_w Try.prog (n : Int) Q h := by
  have small : ∀ m, m < 256 → bitsLen m ≤ 8 := fun m hm => (bitsLen_le_iff m 8).2 (by simpa using hm)
  unfold math_bits_Len64_w
  refine JoinW2.intro (fun x1 n1 k => k = h ∧ ∃ (m c : Nat), x1 = (m : Int) ∧ n1 = (c : Int) ∧ m < 4294967296 ∧ c ≤ 32 ∧ bitsLen n = c + bitsLen m) ?_ ?_
  · by_cases hb : (n : Int) ≥ 4294967296
    · rw [if_pos (decide_eq_true hb)]
      refine ⟨by decide, rfl, n / 2 ^ 32, 32, shr_nat (k := 32) (by decide), rfl, ?_, by decide, bitsLen_shift (by omega)⟩
      rw [Nat.div_lt_iff_lt_mul (by decide)]
      omega
    · rw [if_neg fun hh => hb (of_decide_eq_true hh)]
      exact ⟨rfl, n, 0, rfl, rfl, by omega, by decide, by omega⟩
  · rintro x1 n1 k ⟨rfl, m, c, rfl, rfl, hm, hc, he⟩
    refine JoinW2.intro (fun x2 n2 k' => k' = k ∧ ∃ (m c : Nat), x2 = (m : Int) ∧ n2 = (c : Int) ∧ m < 65536 ∧ c ≤ 48 ∧ bitsLen n = c + bitsLen m) ?_ ?_
    · by_cases hb : (m : Int) ≥ 65536
      · rw [if_pos (decide_eq_true hb), wrap64 (by omega) (by omega)]
        refine ⟨by decide, rfl, m / 2 ^ 16, c + 16, shr_nat (k := 16) (by decide), by omega, ?_, by omega, ?_⟩
        · rw [Nat.div_lt_iff_lt_mul (by decide)]
          omega
        · rw [he, bitsLen_shift (n := m) (k := 16) (by omega)]
          omega
      · rw [if_neg fun hh => hb (of_decide_eq_true hh)]
        exact ⟨rfl, m, c, rfl, rfl, by omega, by omega, he⟩
    · clear he hc hm m c
      rintro x2 n2 k' ⟨rfl, m, c, rfl, rfl, hm, hc, he⟩
      by_cases hb : (m : Int) ≥ 256
      · rw [if_pos (decide_eq_true hb)]
        have e1 : shrI .u64 (m : Int) 8 = ((m / 2 ^ 8 : Nat) : Int) := shr_nat (k := 8) (by decide)
        have hlt : m / 2 ^ 8 < 256 := by
          rw [Nat.div_lt_iff_lt_mul (by decide)]
          omega
        rw [e1, wrap8 (n := ((m / 2 ^ 8 : Nat) : Int)) (by omega) (by omega)]
        have et : (((m / 2 ^ 8 : Nat) : Int)).toNat = m / 2 ^ 8 := by omega
        rw [et]
        refine ⟨by decide, by omega, ?_⟩
        have hg := len8_get (m / 2 ^ 8) hlt
        have hs := small (m / 2 ^ 8) hlt
        have hb2 := bitsLen_shift (n := m) (k := 8) (by omega)
        have hqq : Q (IntKind.wrap .i64 ((IntKind.wrap .i64 ((c : Int) + (8 : Int))) + (IntKind.wrap .i64 ((((len8.getD (m / 2 ^ 8) ⟨⟨⟨0, by decide⟩⟩⟩).toNat : Nat)) : Int)))) k' := by
          rw [hg, wrap64 (n := (c : Int) + 8) (by omega) (by omega), wrap64 (n := ((bitsLen (m / 2 ^ 8) : Nat) : Int)) (by omega) (by omega), wrap64 (by omega) (by omega)]
          have : (c : Int) + 8 + ((bitsLen (m / 2 ^ 8) : Nat) : Int) = (bitsLen n : Int) := by omega
          rw [this]
          exact hq
        exact hqq
      · rw [if_neg fun hh => hb (of_decide_eq_true hh)]
        have hlt : m < 256 := by omega
        rw [wrap8 (n := (m : Int)) (by omega) (by omega)]
        have et : ((m : Nat) : Int).toNat = m := by omega
        rw [et]
        refine ⟨by omega, ?_⟩
        have hg := len8_get m hlt
        have hs := small m hlt
        have hqq : Q (IntKind.wrap .i64 ((c : Int) + (IntKind.wrap .i64 ((((len8.getD m ⟨⟨⟨0, by decide⟩⟩⟩).toNat : Nat)) : Int)))) k' := by
          rw [hg, wrap64 (n := ((bitsLen m : Nat) : Int)) (by omega) (by omega), wrap64 (by omega) (by omega)]
          have : (c : Int) + ((bitsLen m : Nat) : Int) = (bitsLen n : Int) := by omega
          rw [this]
          exact hq
        exact hqq

theorem len_ok {n : Nat} {Q : Int → Hp → Prop} {h : Hp} (hn : n < 18446744073709551616) (hq : Q (bitsLen n : Int) h) : math_bits_Len_w Try.prog (n : Int) Q h := by
  unfold math_bits_Len_w
  exact math_bits_Len64_call (len64_ok hn hq)

theorem wrapU64 {n : Int} (h0 : 0 ≤ n) (h1 : n < 18446744073709551616) : IntKind.wrap .u64 n = n := wrapU ⟨h0, h1⟩

theorem nextPow_ok {n : Nat} {Q : Int → Hp → Prop} {h : Hp} (hn : n ≤ 140737488355328) (hq : Q ((2 ^ bitsLen n : Nat) : Int) h) : slices_nextPowerOfTwo_w Try.prog (n : Int) Q h := by
  unfold slices_nextPowerOfTwo_w
  rw [wrapU64 (by omega) (by omega)]
  refine math_bits_Len_call (len_ok (by omega) ⟨by omega, ?_⟩)
  have hb : bitsLen n ≤ 48 := (bitsLen_le_iff n 48).2 (by omega)
  have e : shlI .u64 1 (bitsLen n : Int) = ((2 ^ bitsLen n : Nat) : Int) := by
    unfold shlI
    have : min (bitsLen n : Int).toNat (IntKind.bits .u64) = bitsLen n := by simp [IntKind.bits]; omega
    rw [this]
    have hle : 2 ^ bitsLen n ≤ 2 ^ 48 := Nat.pow_le_pow_right (by decide) hb
    have e2 : (1 : Int) * 2 ^ bitsLen n = ((2 ^ bitsLen n : Nat) : Int) := by norm_cast; simp
    generalize 2 ^ bitsLen n = z at hle e2 ⊢
    rw [e2, wrapU64 (by omega) (by have : (2 : Nat) ^ 48 = 281474976710656 := by decide
                                   omega)]
  rw [e]
  exact hq

end Lf

/-
  The library's sort: the pivot, the patterns, the whole.
-/
namespace Lf.Souint64
open Go Go.Proofs Go.Sort

theorem blk_at {h : Hp} {b : Nat} {sh : Shape} {x : sh.T} {K : sh.T → Prop} (k : Blk h b (cellsL (sh.enc x))) (hk : K x) : LdW none sh h ⟨b, 0, none⟩ K :=
  ⟨x, k.ldIs (by rw [List.drop_zero, List.take_length]), hk⟩

theorem order2_ok {k : Hp} {data : Sl} {d : Array Int} {F : List Nat} {blk : Nat} {s a b : Int} {Q : Int → Int → Hp → Prop} (o : DA k data d F) (hF : blk ∉ F) (kb : Blk k blk [.int .i64 s]) (ha0 : 0 ≤ a) (ha : a < (d.size : Int)) (hb0 : 0 ≤ b) (hb : b < (d.size : Int))
    (hq : ∀ r r1 s' k', ((r = a ∧ r1 = b) ∨ (r = b ∧ r1 = a)) → DA k' data d F → Blk k' blk [.int .i64 s'] → Mv [blk] k [blk] k' → Q r r1 k') : slices_order2Ordered_uint64_w Try.prog data a b (some ⟨blk, 0, none⟩) Q k := by
  unfold slices_order2Ordered_uint64_w
  refine da_get o hb0 hb (da_get o ha0 ha ?_)
  refine cmp_Less_uint64_call (less_ok ?_)
  cases hl : ltInt d[b.toNat]! d[a.toNat]! with
  | true =>
    rw [if_pos rfl]
    refine notNil (blk_at (sh := shInt .i64) (x := s) kb (notNil ?_))
    refine stW_blk (b := blk) (off := 0) kb (by simp) fun k' m' kb' => ?_
    exact hq b a _ k' (.inr ⟨rfl, rfl⟩) (o.mv m' fun c hc => by simp; exact fun e => hF (e ▸ hc)) (by simpa using kb') m'
  | false =>
    rw [if_neg (by simp)]
    exact hq a b s k (.inl ⟨rfl, rfl⟩) o kb (Mv.refl _ _)

theorem median_ok {k : Hp} {data : Sl} {d : Array Int} {F : List Nat} {blk : Nat} {s a b c : Int} {Q : Int → Hp → Prop} (o : DA k data d F) (hF : blk ∉ F) (kb : Blk k blk [.int .i64 s]) (ha0 : 0 ≤ a) (ha : a < (d.size : Int)) (hb0 : 0 ≤ b) (hb : b < (d.size : Int)) (hc0 : 0 ≤ c) (hc : c < (d.size : Int))
    (hq : ∀ r s' k', (r = a ∨ r = b ∨ r = c) → DA k' data d F → Blk k' blk [.int .i64 s'] → Mv [blk] k [blk] k' → Q r k') : slices_medianOrdered_uint64_w Try.prog data a b c (some ⟨blk, 0, none⟩) Q k := by
  unfold slices_medianOrdered_uint64_w
  refine slices_order2Ordered_uint64_call (order2_ok o hF kb ha0 ha hb0 hb fun r r1 s1 k1 h1 o1 kb1 m1 => ?_)
  refine slices_order2Ordered_uint64_call (order2_ok o1 hF kb1 (by omega) (by omega) hc0 hc fun r2 r3 s2 k2 h2 o2 kb2 m2 => ?_)
  refine slices_order2Ordered_uint64_call (order2_ok o2 hF kb2 (by omega) (by omega) (by omega) (by omega) fun r4 r5 s3 k3 h3 o3 kb3 m3 => ?_)
  exact hq r5 s3 k3 (by omega) o3 kb3 (m1.trans (m2.trans m3))

theorem medianAdj_ok {k : Hp} {data : Sl} {d : Array Int} {F : List Nat} {blk : Nat} {s a : Int} {Q : Int → Hp → Prop} (o : DA k data d F) (hF : blk ∉ F) (kb : Blk k blk [.int .i64 s]) (ha0 : 1 ≤ a) (ha : a + 1 < (d.size : Int)) (hs : d.size ≤ 140737488355328)
    (hq : ∀ r s' k', a - 1 ≤ r → r ≤ a + 1 → DA k' data d F → Blk k' blk [.int .i64 s'] → Mv [blk] k [blk] k' → Q r k') : slices_medianAdjacentOrdered_uint64_w Try.prog data a (some ⟨blk, 0, none⟩) Q k := by
  unfold slices_medianAdjacentOrdered_uint64_w
  rw [wrap64 (n := a - 1) (by omega) (by omega), wrap64 (n := a + 1) (by omega) (by omega)]
  exact slices_medianOrdered_uint64_call (median_ok o hF kb (by omega) (by omega) (by omega) (by omega) (by omega) (by omega) fun r s' k' h1 o1 kb1 m1 => hq r s' k' (by omega) (by omega) o1 kb1 m1)

set_option maxHeartbeats 1000000 in
theorem choosePivot_ok {k : Hp} {data : Sl} {d : Array Int} {F : List Nat} {a b : Nat} {Q : Int → Int → Hp → Prop} (o : DA k data d F) (hab : a < b) (hb : b ≤ d.size) (hs : d.size ≤ 140737488355328)
    (hq : ∀ (r : Nat) hint k', a ≤ r → r < b → DA k' data d F → Mv F k F k' → Q (r : Int) hint k') : slices_choosePivotOrdered_uint64_w Try.prog data (a : Int) (b : Int) Q k := by
  unfold slices_choosePivotOrdered_uint64_w
  have hba : (b : Int) - (a : Int) = ((b - a : Nat) : Int) := by omega
  have htd : ((b - a : Nat) : Int).tdiv 4 = (((b - a) / 4 : Nat) : Int) := rfl
  rw [wrap64 (n := (b : Int) - (a : Int)) (by omega) (by omega), hba, htd]
  rw [wrap64 (n := (((b - a) / 4 : Nat) : Int)) (by omega) (by omega), wrap64 (n := (((b - a) / 4 : Nat) : Int) * 1) (by omega) (by omega), wrap64 (n := (((b - a) / 4 : Nat) : Int) * 2) (by omega) (by omega), wrap64 (n := (((b - a) / 4 : Nat) : Int) * 3) (by omega) (by omega),
    wrap64 (n := (a : Int) + (((b - a) / 4 : Nat) : Int) * 1) (by omega) (by omega), wrap64 (n := (a : Int) + (((b - a) / 4 : Nat) : Int) * 2) (by omega) (by omega), wrap64 (n := (a : Int) + (((b - a) / 4 : Nat) : Int) * 3) (by omega) (by omega)]
  have hl4 : 4 * ((b - a) / 4) ≤ b - a := Nat.mul_div_le _ _
  intro blk t hblk
  have l1 := set_new (o := .cells (([.int .i64 0] : List Value).toArray) t (0, 0)) hblk
  have kb1 : Blk (k.set blk (.cells (([.int .i64 0] : List Value).toArray) t (0, 0))) blk [.int .i64 0] := ⟨t, set_self⟩
  have hF : blk ∉ F := fun hc => o.known blk hc hblk
  have m0 : Mv [] k [blk] (k.set blk (.cells (([.int .i64 0] : List Value).toArray) t (0, 0))) := Mv.new hblk
  generalize k.set blk (.cells (([.int .i64 0] : List Value).toArray) t (0, 0)) = k1 at l1 kb1 m0
  have o1 : DA k1 data d F := o.mv (Mv.of_le [] l1) (by simp)
  have out : ∀ {k' : Hp}, Mv [blk] k1 [blk] k' → Mv F k F k' := fun m => (m0.trans m).sub (fun c hc => by cases hc) fun c hc => .inr (.inl hc)
  have give : ∀ (r : Int) (s : Int) (k' : Hp), (a : Int) ≤ r → r < (b : Int) → DA k' data d F → Blk k' blk [.int .i64 s] → Mv [blk] k1 [blk] k' →
      LdW none (shInt .i64) k' ⟨blk, 0, none⟩ fun x => (if (x == (0 : Int)) = true then Q r (1 : Int) k' else (if (x == (12 : Int)) = true then Q r (2 : Int) k' else Q r (0 : Int) k')) := by
    intro r s k' h0 h1 o' kb' m'
    have hr : ((r.toNat : Nat) : Int) = r := by omega
    refine blk_at (sh := shInt .i64) (x := s) kb' ?_
    have key : ∀ hint, Q r hint k' := fun hint => by
      have := hq r.toNat hint k' (by omega) (by omega) o' (out m')
      rw [hr] at this
      exact this
    split
    · exact key _
    · split
      · exact key _
      · exact key _
  refine ⟨by decide, by decide, by decide, ?_⟩
  by_cases h8 : ((b - a : Nat) : Int) ≥ 8
  · rw [if_pos (by simpa using h8)]
    refine JoinW3.intro (fun i j q k' => ∃ s, (a : Int) ≤ i ∧ i < (b : Int) ∧ (a : Int) ≤ j ∧ j < (b : Int) ∧ (a : Int) ≤ q ∧ q < (b : Int) ∧ DA k' data d F ∧ Blk k' blk [.int .i64 s] ∧ Mv [blk] k1 [blk] k') ?_ ?_
    · by_cases h50 : ((b - a : Nat) : Int) ≥ 50
      · rw [if_pos (by simpa using h50)]
        refine slices_medianAdjacentOrdered_uint64_call (medianAdj_ok o1 hF kb1 (by omega) (by omega) hs fun r2 s2 k2 a2 b2 o2 kb2 m2 => ?_)
        refine slices_medianAdjacentOrdered_uint64_call (medianAdj_ok o2 hF kb2 (by omega) (by omega) hs fun r3 s3 k3 a3 b3 o3 kb3 m3 => ?_)
        refine slices_medianAdjacentOrdered_uint64_call (medianAdj_ok o3 hF kb3 (by omega) (by omega) hs fun r4 s4 k4 a4 b4 o4 kb4 m4 => ?_)
        exact ⟨s4, by omega, by omega, by omega, by omega, by omega, by omega, o4, kb4, m2.trans (m3.trans m4)⟩
      · rw [if_neg (by simpa using h50)]
        exact ⟨0, by omega, by omega, by omega, by omega, by omega, by omega, o1, kb1, Mv.refl _ _⟩
    · rintro i j q k' ⟨s, h1, h2, h3, h4, h5, h6, o', kb', m'⟩
      refine slices_medianOrdered_uint64_call (median_ok o' hF kb' (by omega) (by omega) (by omega) (by omega) (by omega) (by omega) fun r s2 k2 hr o2 kb2 m2 => ?_)
      exact give r s2 k2 (by omega) (by omega) o2 kb2 (m'.trans m2)
  · rw [if_neg (by simpa using h8)]
    exact give _ 0 k1 (by omega) (by omega) o1 kb1 (Mv.refl _ _)

theorem next_ok {k : Hp} {blk : Nat} {v : Int} {Q : Int → Hp → Prop} (kb : Blk k blk [.int .u64 v]) (hq : ∀ r k', Blk k' blk [.int .u64 r] → Mv [blk] k [blk] k' → Q r k') : slices_xorshift_Next_w Try.prog (some ⟨blk, 0, none⟩) Q k := by
  unfold slices_xorshift_Next_w
  refine notNil (blk_at (sh := shInt .u64) (x := v) kb (notNil (blk_at (sh := shInt .u64) (x := v) kb ⟨by decide, notNil ?_⟩)))
  refine stW_blk (b := blk) (off := 0) kb (by simp) fun k1 m1 kb1 => ?_
  have kb1' : Blk k1 blk [.int .u64 (bitsI .xor .u64 v (shlI .u64 v 13))] := by simpa using kb1
  generalize bitsI .xor .u64 v (shlI .u64 v 13) = v1 at kb1'
  refine notNil (blk_at (sh := shInt .u64) (x := v1) kb1' (notNil (blk_at (sh := shInt .u64) (x := v1) kb1' ⟨by decide, notNil ?_⟩)))
  refine stW_blk (b := blk) (off := 0) kb1' (by simp) fun k2 m2 kb2 => ?_
  have kb2' : Blk k2 blk [.int .u64 (bitsI .xor .u64 v1 (shrI .u64 v1 7))] := by simpa using kb2
  generalize bitsI .xor .u64 v1 (shrI .u64 v1 7) = v2 at kb2'
  refine notNil (blk_at (sh := shInt .u64) (x := v2) kb2' (notNil (blk_at (sh := shInt .u64) (x := v2) kb2' ⟨by decide, notNil ?_⟩)))
  refine stW_blk (b := blk) (off := 0) kb2' (by simp) fun k3 m3 kb3 => ?_
  have kb3' : Blk k3 blk [.int .u64 (bitsI .xor .u64 v2 (shlI .u64 v2 17))] := by simpa using kb3
  generalize bitsI .xor .u64 v2 (shlI .u64 v2 17) = v3 at kb3'
  exact notNil (blk_at (sh := shInt .u64) (x := v3) kb3' (hq v3 k3 kb3' (m1.trans (m2.trans m3))))

theorem and_low {x : Int} {L : Nat} (hL : L ≤ 48) : 0 ≤ bitsI .and .u64 x (IntKind.wrap .u64 (((2 ^ L : Nat) : Int) - 1)) ∧ bitsI .and .u64 x (IntKind.wrap .u64 (((2 ^ L : Nat) : Int) - 1)) < ((2 ^ L : Nat) : Int) := by
  have hle : 2 ^ L ≤ 2 ^ 48 := Nat.pow_le_pow_right (by decide) hL
  have hpos : 0 < 2 ^ L := Nat.pow_pos (by decide)
  have h48 : (2 : Nat) ^ 48 = 281474976710656 := by decide
  generalize 2 ^ L = z at hle hpos ⊢
  have e : ((z : Int) - 1) = ((z - 1 : Nat) : Int) := by omega
  rw [e, wrapU64 (by omega) (by omega)]
  have hb : (BitVec.ofInt 64 x &&& BitVec.ofInt 64 ((z - 1 : Nat) : Int)).toNat ≤ z - 1 := by
    rw [BitVec.toNat_and]
    refine Nat.le_trans Nat.and_le_right ?_
    show (BitVec.ofNat 64 (z - 1)).toNat ≤ z - 1
    rw [BitVec.toNat_ofNat]
    exact Nat.mod_le _ _
  show 0 ≤ IntKind.wrap .u64 (((BitVec.ofInt 64 x &&& BitVec.ofInt 64 ((z - 1 : Nat) : Int)).toNat : Nat) : Int) ∧ IntKind.wrap .u64 (((BitVec.ofInt 64 x &&& BitVec.ofInt 64 ((z - 1 : Nat) : Int)).toNat : Nat) : Int) < (z : Int)
  rw [wrapU64 (by omega) (by omega)]
  omega

set_option maxHeartbeats 1000000 in
theorem breakPatterns_ok {k : Hp} {data : Sl} {d : Array Int} {F : List Nat} {a b : Nat} {Q : Hp → Prop} (o : DA k data d F) (hab : a ≤ b) (hb : b ≤ d.size) (hs : d.size ≤ 140737488355328)
    (hq : ∀ k' d', DA k' data d' F → Mv F k F k' → PermIn a b d d' → Q k') : slices_breakPatternsOrdered_uint64_w Try.prog data (a : Int) (b : Int) Q k := by
  unfold slices_breakPatternsOrdered_uint64_w
  have hba : (b : Int) - (a : Int) = ((b - a : Nat) : Int) := by omega
  have htd : ((b - a : Nat) : Int).tdiv 4 = (((b - a) / 4 : Nat) : Int) := rfl
  have hl4 : 4 * ((b - a) / 4) ≤ b - a := Nat.mul_div_le _ _
  rw [wrap64 (n := (b : Int) - (a : Int)) (by omega) (by omega), hba, htd]
  rw [wrap64 (n := (((b - a) / 4 : Nat) : Int)) (by omega) (by omega), wrap64 (n := (((b - a) / 4 : Nat) : Int) * 2) (by omega) (by omega), wrap64 (n := (a : Int) + (((b - a) / 4 : Nat) : Int) * 2) (by omega) (by omega),
    wrap64 (n := (a : Int) + (((b - a) / 4 : Nat) : Int) * 2 + 1) (by omega) (by omega), wrap64 (n := (a : Int) + (((b - a) / 4 : Nat) : Int) * 2 - 1) (by omega) (by omega)]
  by_cases h8 : ((b - a : Nat) : Int) ≥ 8
  · rw [if_pos (by simpa using h8)]
    intro blk t hblk
    have l1 := set_new (o := .cells (([.int .u64 0] : List Value).toArray) t (0, 0)) hblk
    have kb1 : Blk (k.set blk (.cells (([.int .u64 0] : List Value).toArray) t (0, 0))) blk [.int .u64 0] := ⟨t, set_self⟩
    have hF : blk ∉ F := fun hc => o.known blk hc hblk
    have m0 : Mv [] k [blk] (k.set blk (.cells (([.int .u64 0] : List Value).toArray) t (0, 0))) := Mv.new hblk
    generalize k.set blk (.cells (([.int .u64 0] : List Value).toArray) t (0, 0)) = k1 at l1 kb1 m0
    have o1 : DA k1 data d F := o.mv (Mv.of_le [] l1) (by simp)
    refine stW_blk (b := blk) (off := 0) kb1 (by simp) fun k2 m2 kb2 => ?_
    have o2 : DA k2 data d F := o1.mv m2 fun c hc => by simp; exact fun e => hF (e ▸ hc)
    refine slices_nextPowerOfTwo_call (nextPow_ok (by omega) ?_)
    have hb48 : bitsLen (b - a) ≤ 48 := (bitsLen_le_iff _ 48).2 (by omega)
    have hpow := two_pow_bitsLen_le (n := b - a) (by omega)
    refine ⟨by decide, ?_⟩
    have mF : Mv (F ++ [blk]) k (F ++ [blk]) k2 := (m0.trans m2).sub (fun c hc => by cases hc) fun c hc => by
      rcases List.mem_append.1 hc with hc | hc
      · exact .inr (.inl (List.mem_append_left _ hc))
      · exact .inl hc
    have fin : ∀ {k'}, Mv (F ++ [blk]) k (F ++ [blk]) k' → Mv F k F k' := fun m => ⟨fun c ob e hn => m.keep c ob e (fun hc => by
      rcases List.mem_append.1 hc with hc | hc
      · exact hn hc
      · rw [List.mem_singleton.1 hc, hblk] at e; cases e), fun c hc => .inl hc⟩
    refine LoopW1.intro (fun idx k' => ∃ d' v, DA k' data d' F ∧ Blk k' blk [.int .u64 v] ∧ Mv (F ++ [blk]) k (F ++ [blk]) k' ∧ PermIn a b d d' ∧ (a : Int) ≤ idx) (fun idx _ => ((b : Int) + 8 - idx).toNat) ⟨d, _, o2, by simpa using kb2, mF, permIn_refl d a b, by omega⟩ ?_
    rintro idx k' ⟨d', v, o', kb', m', hp, hi0⟩
    have hsz := hp.1
    refine ⟨by decide, ?_⟩
    by_cases hidx : idx ≤ (a : Int) + (((b - a) / 4 : Nat) : Int) * 2 + 1
    · rw [if_pos (decide_eq_true hidx)]
      refine slices_xorshift_Next_call (next_ok kb' fun r1 k5 kb5 m5 => ?_)
      have o5 : DA k5 data d' F := o'.mv m5 fun c hc => by simp; exact fun e => hF (e ▸ hc)
      obtain ⟨g0, g1⟩ := and_low (x := r1) hb48
      generalize bitsI .and .u64 r1 (IntKind.wrap .u64 (((2 ^ bitsLen (b - a) : Nat) : Int) - 1)) = w at g0 g1
      have hw : w < 2 * ((b - a : Nat) : Int) := by
        have : ((2 ^ bitsLen (b - a) : Nat) : Int) ≤ ((2 * (b - a) : Nat) : Int) := by exact_mod_cast hpow
        omega
      rw [wrap64 (n := w) (by omega) (by omega)]
      refine JoinW1.intro (fun other k6 => k6 = k5 ∧ 0 ≤ other ∧ other < ((b - a : Nat) : Int)) ?_ ?_
      · by_cases hwl : w ≥ ((b - a : Nat) : Int)
        · rw [if_pos (decide_eq_true hwl), wrap64 (by omega) (by omega)]
          exact ⟨rfl, by omega, by omega⟩
        · rw [if_neg fun hh => hwl (of_decide_eq_true hh)]
          exact ⟨rfl, by omega, by omega⟩
      · rintro other k6 ⟨rfl, q0, q1⟩
        rw [wrap64 (n := (a : Int) + other) (by omega) (by omega)]
        refine da_swap o5 (A := idx) (B := (a : Int) + other) (by omega) (by omega) (by omega) (by omega) fun k7 o7 m7 => ?_
        rw [wrap64 (n := idx + 1) (by omega) (by omega)]
        have kb7 : Blk k7 blk [.int .u64 r1] := kb5.mv m7 hF
        have m57 : Mv (F ++ [blk]) k' (F ++ [blk]) k7 := by
          have a1 : Mv (F ++ [blk]) k' (F ++ [blk]) k6 := m5.sub (fun c hc => List.mem_append_right _ hc) fun c hc => .inr (.inl hc)
          have a2 : Mv (F ++ [blk]) k6 (F ++ [blk]) k7 := m7.sub (fun c hc => List.mem_append_left _ hc) fun c hc => .inr (.inl hc)
          exact a1.trans a2
        exact ⟨⟨_, r1, o7, kb7, m'.trans m57, permIn_trans _ _ _ _ _ hp (swp_permIn d' a b idx.toNat ((a : Int) + other).toNat (by omega) (by omega) (by omega) (by omega) (by omega)), by omega⟩, by omega⟩
    · rw [if_neg fun hh => hidx (of_decide_eq_true hh)]
      exact hq k' d' o' (fin m') hp
  · rw [if_neg (by simpa using h8)]
    exact hq k d o (Mv.refl _ _) (permIn_refl d a b)

end Lf.Souint64

/-
  The library's sort, whole.
-/
namespace Lf.Souint64
open Go Go.Proofs Go.Sort

/-- What is left to be sorted makes the whole sorted. -/
def Rest (a b : Nat) (d : Array Int) (a1 b1 : Nat) (d1 : Array Int) : Prop := ∀ R, PermIn a1 b1 d1 R → SortedIn ltInt a1 b1 R → PermIn a b d R ∧ SortedIn ltInt a b R

theorem rest_perm {a b : Nat} {d : Array Int} {a1 b1 : Nat} {d1 d2 : Array Int} (r : Rest a b d a1 b1 d1) (hp : PermIn a1 b1 d1 d2) : Rest a b d a1 b1 d2 := fun R h1 h2 => r R (permIn_trans _ _ _ _ _ hp h1) h2

theorem rest_eq {a b : Nat} {d : Array Int} {a1 b1 pivot mid : Nat} {d3 d4 : Array Int} (r : Rest a b d a1 b1 d3) (ha : 0 < a1) (hp2 : pivot < b1) (hp1 : a1 ≤ pivot) (hb : b1 ≤ d3.size) (hB : Below ltInt a1 b1 d3) (hnl : ltInt d3[a1 - 1]! d3[pivot]! = false)
    (h1 : a1 < mid) (h2 : mid ≤ b1) (hperm : PermIn a1 b1 d3 d4) (hle : ∀ x : Nat, a1 ≤ x → x < mid → ltInt d3[pivot]! d4[x]! = false) (hgt : ∀ x : Nat, mid ≤ x → x < b1 → ltInt d3[pivot]! d4[x]! = true) :
    Rest a b d mid b1 d4 ∧ Below ltInt mid b1 d4 := by
  have h := swo_ltInt
  have hb4 : b1 ≤ d4.size := by rw [hperm.1]; exact hb
  have hge : ∀ x : Nat, a1 ≤ x → x < b1 → ltInt d3[x]! d3[pivot]! = false := fun x hx hx' => by
    rcases hB with h0 | hB
    · omega
    · exact h.ntrans _ _ _ (hB x hx hx') hnl
  have hge4 := permIn_all d3 d4 a1 b1 (fun x => ltInt x d3[pivot]! = false) hb hperm hge
  refine ⟨fun R hR hs => ?_, Or.inr fun x hx hx' => ?_⟩
  · refine r R (permIn_trans _ _ _ a1 b1 hperm (permIn_mono _ _ mid b1 a1 b1 (by omega) (Nat.le_refl _) hb4 hR)) ?_
    refine sorted_glue_eq h d3[pivot]! hs (fun x hx hx' => ?_) (fun x hx hx' => ?_) (permIn_all d4 R mid b1 (fun x => ltInt d3[pivot]! x = true) hb4 hR hgt)
    · rw [hR.2.1 x (Or.inl hx')]; exact hle x hx hx'
    · rw [hR.2.1 x (Or.inl hx')]; exact hge4 x hx (by omega)
  · cases hc : ltInt d4[x]! d4[mid - 1]! with
    | false => rfl
    | true =>
      have := h.trans _ _ _ (hgt x hx hx') hc
      rw [hle (mid - 1) (by omega) (by omega)] at this
      cases this

theorem rest_left {a b : Nat} {d : Array Int} {a1 b1 mid : Nat} {d3 d4 L : Array Int} (r : Rest a b d a1 b1 d3) (hb : b1 ≤ d3.size) (hp : Parted a1 b1 d3 d4 mid) (hL : PermIn a1 mid d4 L) (hsL : SortedIn ltInt a1 mid L) :
    Rest a b d (mid + 1) b1 L ∧ Below ltInt (mid + 1) b1 L := by
  obtain ⟨h1, h2, hperm, hlo, hhi⟩ := hp
  have hb4 : b1 ≤ d4.size := by rw [hperm.1]; exact hb
  have hbL : b1 ≤ L.size := by rw [hL.1]; exact hb4
  have eL : ∀ i, mid ≤ i → L[i]! = d4[i]! := fun i hi => hL.2.1 i (Or.inr hi)
  refine ⟨fun R hR hsR => ?_, Or.inr fun i hi hi' => by rw [Nat.add_sub_cancel, eL i (by omega), eL mid (Nat.le_refl _)]; exact hhi i (by omega) hi'⟩
  have eR : ∀ i, i ≤ mid → R[i]! = L[i]! := fun i hi => hR.2.1 i (Or.inl (by omega))
  refine r R (permIn_trans _ _ _ _ _ hperm (permIn_trans _ _ _ _ _ (permIn_mono _ _ a1 mid a1 b1 (Nat.le_refl _) (by omega) hb4 hL) (permIn_mono _ _ (mid + 1) b1 a1 b1 (by omega) (Nat.le_refl _) hbL hR))) ?_
  refine sorted_glue swo_ltInt (hsL.congr fun i _ hi' => eR i (by omega)) hsR (fun i hi hi' => ?_) (fun i hi hi' => ?_)
  · rw [eR i (by omega), eR mid (Nat.le_refl _), eL mid (Nat.le_refl _)]
    exact permIn_all d4 L a1 mid (fun x => ltInt x d4[mid]! = true) (by omega) hL hlo i hi hi'
  · rw [eR mid (Nat.le_refl _), eL mid (Nat.le_refl _)]
    exact permIn_all L R (mid + 1) b1 (fun x => ltInt x d4[mid]! = false) hbL hR (fun q hq hq' => by rw [eL q (by omega)]; exact hhi q (by omega) hq') i (by omega) hi'

theorem rest_right {a b : Nat} {d : Array Int} {a1 b1 mid : Nat} {d3 d4 L : Array Int} (r : Rest a b d a1 b1 d3) (hb : b1 ≤ d3.size) (hB : Below ltInt a1 b1 d3) (hp : Parted a1 b1 d3 d4 mid) (hL : PermIn (mid + 1) b1 d4 L) (hsL : SortedIn ltInt (mid + 1) b1 L) :
    Rest a b d a1 mid L ∧ Below ltInt a1 mid L := by
  obtain ⟨h1, h2, hperm, hlo, hhi⟩ := hp
  have hb4 : b1 ≤ d4.size := by rw [hperm.1]; exact hb
  have hbL : b1 ≤ L.size := by rw [hL.1]; exact hb4
  have eL : ∀ i, i ≤ mid → L[i]! = d4[i]! := fun i hi => hL.2.1 i (Or.inl (by omega))
  have hBa : Below ltInt a1 mid d4 := (hB.perm hb hperm).mono (by omega)
  refine ⟨fun R hR hsR => ?_, ?_⟩
  · have eR : ∀ i, mid ≤ i → R[i]! = L[i]! := fun i hi => hR.2.1 i (Or.inr hi)
    refine r R (permIn_trans _ _ _ _ _ hperm (permIn_trans _ _ _ _ _ (permIn_mono _ _ (mid + 1) b1 a1 b1 (by omega) (Nat.le_refl _) hb4 hL) (permIn_mono _ _ a1 mid a1 b1 (Nat.le_refl _) (by omega) hbL hR))) ?_
    refine sorted_glue swo_ltInt hsR (hsL.congr fun i hi _ => eR i (by omega)) (fun i hi hi' => ?_) (fun i hi hi' => ?_)
    · rw [eR mid (Nat.le_refl _), eL mid (Nat.le_refl _)]
      exact permIn_all L R a1 mid (fun x => ltInt x d4[mid]! = true) (by omega) hR (fun q hq hq' => by rw [eL q (by omega)]; exact hlo q hq hq') i hi hi'
    · rw [eR i (by omega), eR mid (Nat.le_refl _), eL mid (Nat.le_refl _)]
      exact permIn_all d4 L (mid + 1) b1 (fun x => ltInt x d4[mid]! = false) hb4 hL (fun q hq hq' => hhi q (by omega) hq') i (by omega) hi'
  · rcases hBa with h0 | hBa
    · exact Or.inl h0
    · exact Or.inr fun i hi hi' => by rw [eL i (by omega), eL (a1 - 1) (by omega)]; exact hBa i hi hi'

set_option maxHeartbeats 4000000 in
theorem pdq_ok : ∀ (n : Nat) {k : Hp} {data : Sl} {d : Array Int} {F : List Nat} {a b : Nat} {limit : Int} {Q : Hp → Prop} (_ : b - a ≤ n) (_ : DA k data d F) (_ : a ≤ b) (_ : b ≤ d.size) (_ : d.size ≤ 140737488355328) (_ : Below ltInt a b d)
    (_ : ∀ k' d', DA k' data d' F → Mv F k F k' → PermIn a b d d' → SortedIn ltInt a b d' → Q k'), slices_pdqsortOrdered_uint64_w Try.prog data (a : Int) (b : Int) limit Q k := by
  intro n
  induction n with
  | zero =>
    intro k data d F a b limit Q hn o hab hb hs hB hq
    unfold slices_pdqsortOrdered_uint64_w
    refine LoopW5.intro (fun a1 b1 _ _ _ k1 => a1 = (a : Int) ∧ b1 = (b : Int) ∧ k1 = k) (fun _ _ _ _ _ _ => 0) ⟨rfl, rfl, rfl⟩ ?_
    rintro a1 b1 l wb wp k1 ⟨rfl, rfl, rfl⟩
    refine JoinW5.intro (fun _ _ _ _ _ _ => False) ?_ (fun _ _ _ _ _ _ h => h.elim)
    rw [wrap64 (n := (b : Int) - (a : Int)) (by omega) (by omega), if_pos (by simp; omega)]
    exact slices_insertionSortOrdered_uint64_call (insertionSort_ok o hab hb hs hq)
  | succ n ih =>
    intro k data d F a b limit Q hn o hab hb hs hB hq
    unfold slices_pdqsortOrdered_uint64_w
    refine LoopW5.intro (fun a1 b1 _ _ _ k1 => ∃ (A B : Nat) (d1 : Array Int), a1 = (A : Int) ∧ b1 = (B : Int) ∧ DA k1 data d1 F ∧ Mv F k F k1 ∧ d1.size = d.size ∧ a ≤ A ∧ A ≤ B ∧ B ≤ b ∧ Below ltInt A B d1 ∧ Rest a b d A B d1) (fun a1 b1 _ _ _ _ => (b1 - a1).toNat)
      ⟨a, b, d, rfl, rfl, o, Mv.refl _ _, rfl, Nat.le_refl _, hab, Nat.le_refl _, hB, fun R h1 h2 => ⟨h1, h2⟩⟩ ?_
    rintro a1 b1 l wb wp k1 ⟨A, B, d1, rfl, rfl, o1, m1, hsz1, hA, hAB, hBb, hB1, hr⟩
    refine JoinW5.intro (fun a2 b2 _ _ _ k2 => (∃ (A' B' : Nat) (d2 : Array Int), a2 = (A' : Int) ∧ b2 = (B' : Int) ∧ DA k2 data d2 F ∧ Mv F k F k2 ∧ d2.size = d.size ∧ a ≤ A' ∧ A' ≤ B' ∧ B' ≤ b ∧ Below ltInt A' B' d2 ∧ Rest a b d A' B' d2) ∧ (b2 - a2).toNat < ((B : Int) - (A : Int)).toNat) ?_ (fun _ _ _ _ _ _ h => h)
    rw [wrap64 (n := (B : Int) - (A : Int)) (by omega) (by omega)]
    have whole : ∀ {k' : Hp} {d' : Array Int}, DA k' data d' F → Mv F k1 F k' → PermIn A B d1 d' → SortedIn ltInt A B d' → Q k' := fun o' m' h1 h2 => by
      obtain ⟨h3, h4⟩ := hr _ h1 h2
      exact hq _ _ o' (m1.trans m') h3 h4
    by_cases h12 : (B : Int) - (A : Int) ≤ 12
    · rw [if_pos (decide_eq_true h12)]
      exact slices_insertionSortOrdered_uint64_call (insertionSort_ok o1 hAB (by omega) (by omega) fun k' d' o' m' h1 h2 => whole o' m' h1 h2)
    rw [if_neg fun hh => h12 (of_decide_eq_true hh)]
    by_cases hl : l = 0
    · rw [if_pos (by simpa using hl)]
      exact slices_heapSortOrdered_uint64_call (heapSort_ok o1 hAB (by omega) (by omega) fun k' d' o' m' h1 h2 => whole o' m' h1 h2)
    rw [if_neg (by simpa using hl)]
    refine JoinW1.intro (fun _ k2 => ∃ d2, DA k2 data d2 F ∧ Mv F k1 F k2 ∧ PermIn A B d1 d2) ?_ ?_
    · split
      · exact slices_breakPatternsOrdered_uint64_call (breakPatterns_ok o1 hAB (by omega) (by omega) fun k' d' o' m' h1 => ⟨d', o', m', h1⟩)
      · exact ⟨d1, o1, Mv.refl _ _, permIn_refl _ _ _⟩
    · rintro l2 k2 ⟨d2, o2, m2, hp2⟩
      have hsz2 : d2.size = d.size := hp2.1.trans hsz1
      refine slices_choosePivotOrdered_uint64_call (choosePivot_ok o2 (by omega) (by omega) (by omega) fun r hint k3 hr0 hr1 o3 m3 => ?_)
      refine JoinW2.intro (fun pivot _ k4 => ∃ (p : Nat) (d4 : Array Int), pivot = (p : Int) ∧ A ≤ p ∧ p < B ∧ DA k4 data d4 F ∧ Mv F k1 F k4 ∧ PermIn A B d1 d4) ?_ ?_
      · split
        · refine slices_reverseRangeOrdered_uint64_call (reverse_ok o3 (by omega) (by omega) (by omega) fun k' d' o' m' h1 => ?_)
          rw [wrap64 (n := (B : Int) - 1) (by omega) (by omega), wrap64 (n := (r : Int) - (A : Int)) (by omega) (by omega), wrap64 (by omega) (by omega)]
          exact ⟨B - 1 - (r - A), d', by omega, by omega, by omega, o', m2.trans (m3.trans m'), permIn_trans _ _ _ _ _ hp2 h1⟩
        · exact ⟨r, d2, rfl, hr0, hr1, o3, m2.trans m3, hp2⟩
      · rintro pivot hint4 k4 ⟨p, d4, rfl, hp0, hp1, o4, m4, hp4⟩
        have hsz4 : d4.size = d.size := hp4.1.trans hsz1
        have hB4 : Below ltInt A B d4 := hB1.perm (by omega) hp4
        refine JoinW0.intro (fun k5 => ∃ d5, DA k5 data d5 F ∧ Mv F k1 F k5 ∧ PermIn A B d1 d5) ?_ ?_
        · refine letW (letW ?_)
          split
          · refine slices_partialInsertionSortOrdered_uint64_call (partial_ok o4 (by omega) (by omega) (by omega) hB4 fun r2 k' d' o' m' h1 h2 => ?_)
            cases r2 with
            | true =>
              rw [if_pos rfl]
              exact whole o' (m4.trans m') (permIn_trans _ _ _ _ _ hp4 h1) (h2 rfl)
            | false =>
              rw [if_neg (by simp)]
              exact ⟨d', o', m4.trans m', permIn_trans _ _ _ _ _ hp4 h1⟩
          · exact ⟨d4, o4, m4, hp4⟩
        · rintro k5 ⟨d5, o5, m5, hp5⟩
          have hsz5 : d5.size = d.size := hp5.1.trans hsz1
          have hB5 : Below ltInt A B d5 := hB1.perm (by omega) hp5
          have hr5 : Rest a b d A B d5 := rest_perm hr hp5
          rw [wrap64 (n := (A : Int) - 1) (by omega) (by omega)]
          have e1 : ((A : Int) - 1).toNat = A - 1 := by omega
          have e2 : ((p : Nat) : Int).toNat = p := by omega
          refine da_getC o5 (fun hc => ?_) fun x hx => ?_
          · have : (A : Int) > 0 := by simpa using hc
            omega
          refine da_getC o5 (fun hc => by omega) fun x1 hx1 => ?_
          rw [e1] at hx
          rw [e2] at hx1
          have cont : ∀ (r2 : Bool), (decide ((A : Int) > 0) = true → r2 = ltInt d5[A - 1]! d5[p]!) → LetW ((decide ((A : Int) > (0 : Int))) && (!r2)) fun y =>
 (if y = true then
 CallT Try.prog n_slices_partitionEqualOrdered_uint64 [data.v, (.int .i64 (A : Int)), (.int .i64 (B : Int)), (.int .i64 (p : Int))] (shInt .i64) (fun r3 h7 =>
 (∃ (A' B' : Nat) (d2 : Array Int), r3 = (A' : Int) ∧ (B : Int) = (B' : Int) ∧ DA h7 data d2 F ∧ Mv F k F h7 ∧ d2.size = d.size ∧ a ≤ A' ∧ A' ≤ B' ∧ B' ≤ b ∧ Below ltInt A' B' d2 ∧ Rest a b d A' B' d2) ∧ ((B : Int) - r3).toNat < ((B : Int) - (A : Int)).toNat) k5
 else
 Call2 Try.prog n_slices_partitionOrdered_uint64 [data.v, (.int .i64 (A : Int)), (.int .i64 (B : Int)), (.int .i64 (p : Int))] (shInt .i64) shBool (fun r3 r4 h7 =>
 ((8 : Int) ≠ (0 : Int) ∧ (if (decide ((IntKind.wrap .i64 (r3 - (A : Int))) < (IntKind.wrap .i64 ((B : Int) - r3)))) = true then
 Call0 Try.prog n_slices_pdqsortOrdered_uint64 [data.v, (.int .i64 (A : Int)), (.int .i64 r3), (.int .i64 l2)] (fun h8 =>
 (∃ (A' B' : Nat) (d2 : Array Int), IntKind.wrap .i64 (r3 + (1 : Int)) = (A' : Int) ∧ (B : Int) = (B' : Int) ∧ DA h8 data d2 F ∧ Mv F k F h8 ∧ d2.size = d.size ∧ a ≤ A' ∧ A' ≤ B' ∧ B' ≤ b ∧ Below ltInt A' B' d2 ∧ Rest a b d A' B' d2) ∧ ((B : Int) - IntKind.wrap .i64 (r3 + (1 : Int))).toNat < ((B : Int) - (A : Int)).toNat) h7
 else
 Call0 Try.prog n_slices_pdqsortOrdered_uint64 [data.v, (.int .i64 (IntKind.wrap .i64 (r3 + (1 : Int)))), (.int .i64 (B : Int)), (.int .i64 l2)] (fun h8 =>
 (∃ (A' B' : Nat) (d2 : Array Int), (A : Int) = (A' : Int) ∧ r3 = (B' : Int) ∧ DA h8 data d2 F ∧ Mv F k F h8 ∧ d2.size = d.size ∧ a ≤ A' ∧ A' ≤ B' ∧ B' ≤ b ∧ Below ltInt A' B' d2 ∧ Rest a b d A' B' d2) ∧ (r3 - (A : Int)).toNat < ((B : Int) - (A : Int)).toNat) h7))) k5) := by
            intro r2 hr2
            refine letW ?_
            cases hy : (decide ((A : Int) > (0 : Int)) && !r2) with
            | true =>
              rw [if_pos rfl]
              simp only [Bool.and_eq_true, Bool.not_eq_true'] at hy
              have hA0 : (A : Int) > 0 := of_decide_eq_true hy.1
              have hnl := hr2 hy.1
              rw [hy.2] at hnl
              refine slices_partitionEqualOrdered_uint64_call (partitionEqual_ok o5 hp0 hp1 (by omega) (by omega) fun mid k6 d6 o6 m6 g1 g2 g3 g4 g5 => ?_)
              obtain ⟨h1, h2⟩ := rest_eq hr5 (by omega) hp1 hp0 (by omega) hB5 hnl.symm g1 g2 g3 g4 g5
              exact ⟨⟨mid, B, d6, rfl, rfl, o6, m1.trans (m5.trans m6), g3.1.trans hsz5, by omega, g2, hBb, h2, h1⟩, by omega⟩
            | false =>
              rw [if_neg (by simp)]
              refine slices_partitionOrdered_uint64_call (partition_ok o5 hp0 hp1 (by omega) (by omega) fun mid ap k6 d6 o6 m6 hpt => ?_)
              refine ⟨by decide, ?_⟩
              have hpt0 := hpt
              obtain ⟨g1, g2, g3, g4, g5⟩ := hpt
              have hsz6 : d6.size = d.size := g3.1.trans hsz5
              rw [wrap64 (n := (mid : Int) - (A : Int)) (by omega) (by omega), wrap64 (n := (B : Int) - (mid : Int)) (by omega) (by omega), wrap64 (n := (mid : Int) + 1) (by omega) (by omega)]
              have em : (mid : Int) + 1 = ((mid + 1 : Nat) : Int) := by omega
              rw [em]
              have hB6 : Below ltInt A B d6 := hB5.perm (by omega) g3
              by_cases hside : (mid : Int) - (A : Int) < (B : Int) - (mid : Int)
              · rw [if_pos (decide_eq_true hside)]
                refine slices_pdqsortOrdered_uint64_call (ih (by omega) o6 g1 (by omega) (by omega) (hB6.mono (by omega)) fun k7 d7 o7 m7 hL hsL => ?_)
                obtain ⟨h1, h2⟩ := rest_left hr5 (by omega) hpt0 hL hsL
                exact ⟨⟨mid + 1, B, d7, rfl, rfl, o7, m1.trans (m5.trans (m6.trans m7)), hL.1.trans hsz6, by omega, by omega, hBb, h2, h1⟩, by omega⟩
              · rw [if_neg fun hh => hside (of_decide_eq_true hh)]
                have hBr : Below ltInt (mid + 1) B d6 := Or.inr fun i hi hi' => by rw [Nat.add_sub_cancel]; exact g5 i (by omega) hi'
                refine slices_pdqsortOrdered_uint64_call (ih (by omega) o6 (by omega) (by omega) (by omega) hBr fun k7 d7 o7 m7 hL hsL => ?_)
                obtain ⟨h1, h2⟩ := rest_right hr5 (by omega) hB5 hpt0 hL hsL
                exact ⟨⟨A, mid, d7, rfl, rfl, o7, m1.trans (m5.trans (m6.trans m7)), hL.1.trans hsz6, by omega, by omega, by omega, h2, h1⟩, by omega⟩
          by_cases hA0 : (A : Int) > 0
          · have hc : decide ((A : Int) > 0) = true := decide_eq_true hA0
            refine ⟨fun _ => cmp_Less_uint64_call (less_ok (cont _ fun _ => ?_)), fun e => (by rw [hc] at e; cases e)⟩
            rw [hx hc, hx1 hc]
          · have hc : decide ((A : Int) > 0) = false := decide_eq_false hA0
            exact ⟨fun e => (by rw [hc] at e; cases e), fun _ => ⟨false, cont false fun e => by rw [hc] at e; cases e⟩⟩

/-- slices.Sort. -/
theorem sort_ok {k : Hp} {data : Sl} {xs : List Int} {F : List Nat} {Q : Hp → Prop} (o : OwnF k 1 eK data xs F) (hs : xs.length ≤ 140737488355328)
    (hq : ∀ k' ys, OwnF k' 1 eK data ys F → Mv F k F k' → ys.Perm xs → ys.Pairwise (· ≤ ·) → Q k') : slices_Sort_uint64_uint64_w Try.prog data Q k := by
  unfold slices_Sort_uint64_uint64_w
  have hl := o.1
  have e : (data.len : Int) = (xs.toArray.size : Int) := by simp [hl]
  rw [wrapU64 (n := (data.len : Int)) (by omega) (by omega)]
  refine math_bits_Len_call (len_ok (by omega) ?_)
  rw [e]
  have o' : DA k data xs.toArray F := o
  refine slices_pdqsortOrdered_uint64_call (a := ((0 : Nat) : Int)) (pdq_ok xs.toArray.size (by omega) o' (by omega) (by omega) (by simpa using hs) (Or.inl rfl) fun k' d' o2 m2 hp hsd => ?_)
  refine hq k' d'.toList o2 m2 ?_ ?_
  · have h3 := hp.2.2
    have h1 : d'.extract 0 xs.toArray.size = d' := by rw [← hp.1]; simp
    have h2 : xs.toArray.extract 0 xs.toArray.size = xs.toArray := by simp
    rw [h1, h2] at h3
    simpa using h3
  · refine List.pairwise_iff_getElem.2 fun i j hi hj hij => ?_
    have hi' : i < d'.size := by simpa using hi
    have hj' : j < d'.size := by simpa using hj
    have := hsd i j (by omega) hij (by rw [← hp.1]; exact hj')
    rw [getElem!_pos d' j hj', getElem!_pos d' i hi'] at this
    have h4 : ¬ d'[j] < d'[i] := by simpa [ltInt] using this
    have e1 : d'.toList[i] = d'[i] := by simp
    have e2 : d'.toList[j] = d'[j] := by simp
    rw [e1, e2]
    omega

end Lf.Souint64

/-
  Labels, rising, each once.
-/
namespace Lf
open Go Go.Proofs

/-- The reference's labels, rising. -/
theorem refCanon_ok {P : Program} {l : Sl} {xs : List Int} {Q : Sl → Hp → Prop} {h : Hp} (r : Us h l xs) (hl : xs.length ≤ 1000000)
    (hq : ∀ out ys h', h ≤ h' → OwnU h h' out ys → ys.Pairwise (· < ·) → (∀ y, y ∈ ys ↔ y ∈ xs) → Q out h') : firebreakref02_Canon_w P l Q h := by
  unfold firebreakref02_Canon_w
  refine new_row (xs := ([] : List Int)) (enc := fun x => cellsL ((shInt .u64).enc x)) (sz := 1) (Hp.le_refl h) rfl (fun _ => rfl) fun a h1 hle1 ho1 => ?_
  refine LoopW1.intro (fun out k => h ≤ k ∧ ∃ ys, OwnU h k out ys ∧ ys.Pairwise (· < ·) ∧ (∀ y ∈ ys, y ∈ xs) ∧ ∀ x ∈ xs, ∀ z, ys.getLast? = some z → x ≤ z → x ∈ ys) (fun out _ => xs.length + 1 - out.len)
    ⟨hle1, [], ho1, List.Pairwise.nil, fun y hy => (by cases hy), fun x _ z hz => by cases hz⟩ ?_
  rintro out k ⟨hle, ys, ho, hasc, hmem, hall⟩
  have hlx := r.1
  have hly := ho.1
  have hyx : ys.length ≤ xs.length := nodup_len ys xs (asc_nodup hasc) hmem
  have rk : Us k l xs := r.mono hle
  have ro : Us k out ys := ho.rw fun _ => rfl
  refine LoopW3.intro (fun found least i k' => k' = k ∧ 0 ≤ i ∧ i ≤ (xs.length : Int) ∧ (found = true → least ∈ xs ∧ ∀ z, ys.getLast? = some z → z < least) ∧
      ∀ x ∈ xs.take i.toNat, (∀ z, ys.getLast? = some z → z < x) → found = true ∧ least ≤ x) (fun _ _ i _ => (xs.length - i).toNat)
    ⟨rfl, by omega, by omega, fun e => (by cases e), fun x hx => by simp at hx⟩ ?_
  rintro found least i k' ⟨rfl, hi0, hi1, hf, hlow⟩
  split
  · rename_i e
    have e : i < (l.len : Int) := by simpa using e
    refine JoinW2.intro (fun found least k2 => k2 = k' ∧ (found = true → least ∈ xs ∧ ∀ z, ys.getLast? = some z → z < least) ∧ ∀ x ∈ xs.take (i.toNat + 1), (∀ z, ys.getLast? = some z → z < x) → found = true ∧ least ≤ x) ?_ ?_
    · have hwl : IntKind.wrap .i64 ((out.len : Int) - 1) = (out.len : Int) - 1 := wrap64 (by omega) (by omega)
      rw [hwl]
      have hxi : ∃ x, xs[i.toNat]? = some x := ⟨xs[i.toNat]'(by omega), List.getElem?_eq_getElem (by omega)⟩
      obtain ⟨xi, hxi⟩ := hxi
      have htk : xs.take (i.toNat + 1) = xs.take i.toNat ++ [xi] := by rw [List.take_add_one, hxi]; rfl
      refine Rs.getC rk (0 : Int) (fun _ => rfl) (by omega) (fun _ => ⟨hi0, by omega⟩) fun (x : Int) hx => ?_
      refine Rs.getC ro (0 : Int) (fun _ => rfl) (by omega) (fun hc => ?_) fun (x1 : Int) hx1 => ?_
      · have : ¬ (out.len : Int) = 0 := by simpa using hc
        omega
      refine letW ?_
      -- is it above the last one?
      have habove : ((((out.len : Nat) : Int) == (0 : Int)) || (decide (x > x1))) = true ↔ ∀ z, ys.getLast? = some z → z < xi := by
        by_cases h0 : (out.len : Int) = 0
        · have hy0 : ys = [] := List.length_eq_zero_iff.1 (by omega)
          rw [hy0]
          simp [h0]
        · have hc : (!((out.len : Int) == 0)) = true := by simp; omega
          have hx' := hx hc
          have hx1' := hx1 hc
          rw [hxi] at hx'; cases hx'
          have hyl : ((out.len : Int) - 1).toNat = ys.length - 1 := by omega
          rw [hyl, ← List.getLast?_eq_getElem?] at hx1'
          rw [hx1']
          have : ((out.len : Int) == 0) = false := by simpa using h0
          rw [this, Bool.false_or]
          simp
      refine Rs.getC rk (0 : Int) (fun _ => rfl) (by omega) (fun _ => ⟨hi0, by omega⟩) fun (x2 : Int) hx2 => ?_
      refine letW (letW ?_)
      split
      · rename_i hy
        obtain ⟨hy1, hy2⟩ := Bool.and_eq_true_iff.1 hy
        have hab := habove.1 hy1
        refine Rs.get rk (fun _ => rfl) (by omega) hi0 (by omega) fun (x3 : Int) hx3 => ?_
        rw [hxi] at hx3; cases hx3
        refine ⟨rfl, fun _ => ⟨List.mem_of_getElem? hxi, hab⟩, fun x hx hz => ⟨rfl, ?_⟩⟩
        rw [htk] at hx
        rcases List.mem_append.1 hx with hx | hx
        · obtain ⟨g1, g2⟩ := hlow x hx hz
          rw [g1] at hy2
          have hx2' := hx2 (by rw [hy1, g1]; rfl)
          rw [hxi] at hx2'; cases hx2'
          have : xi < least := by simpa using hy2
          omega
        · rw [List.mem_singleton.1 hx]; omega
      · rename_i hy
        refine ⟨rfl, hf, fun x hx hz => ?_⟩
        rw [htk] at hx
        rcases List.mem_append.1 hx with hx | hx
        · exact hlow x hx hz
        · rw [List.mem_singleton.1 hx] at hz ⊢
          have hy1 := habove.2 hz
          rw [hy1, Bool.true_and] at hy
          have hfd : found = true := by
            cases found with
            | true => rfl
            | false => simp at hy
          have hx2' := hx2 (by rw [hy1, hfd]; rfl)
          rw [hxi] at hx2'; cases hx2'
          rw [hfd] at hy
          have : ¬ xi < least := by simpa using hy
          exact ⟨hfd, by omega⟩
    · rintro found1 least1 k1 ⟨rfl, hf1, hlow1⟩
      have hw : IntKind.wrap .i64 (i + 1) = i + 1 := wrap64 (by omega) (by omega)
      rw [hw]
      have e1 : (i + 1).toNat = i.toNat + 1 := by omega
      exact ⟨⟨rfl, by omega, by omega, hf1, by rw [e1]; exact hlow1⟩, by omega⟩
  · rename_i e
    have e : ¬ i < (l.len : Int) := by simpa using e
    rw [List.take_of_length_le (by omega)] at hlow
    split
    · rename_i e2
      have hfd : found = false := by simpa using e2
      refine hq out ys _ hle ho hasc fun y => ⟨hmem y, fun hy => ?_⟩
      refine Classical.byContradiction fun hn => ?_
      have := hlow y hy fun z hz => by
        refine Classical.byContradiction fun hzy => hn (hall y hy z hz (by omega))
      rw [hfd] at this
      cases this.1
    · rename_i e2
      have hfd : found = true := by simpa using e2
      obtain ⟨h5, h6⟩ := hf hfd
      refine new_row (xs := [least]) (enc := fun x => cellsL ((shInt .u64).enc x)) (sz := 1) (h0 := h) hle rfl (fun _ => rfl) fun a1 h4 hle4 ho4 => ?_
      have ho' : OwnU h h4 out ys := ho.mono hle4
      refine app_own (Hp.le_trans hle hle4) ho' (ho4.rw fun _ => rfl) (fun _ => rfl) (fun _ => rfl) rfl ?_ fun l' h' hle' hown _ => ?_
      · simp; omega
      · have hsn := asc_snoc hasc h6
        have hm : ∀ y ∈ ys ++ [least], y ∈ xs := fun y hy => by
          rcases List.mem_append.1 hy with hy | hy
          · exact hmem y hy
          · rw [List.mem_singleton.1 hy]; exact h5
        have hlen := nodup_len _ xs (asc_nodup hsn) hm
        have hl' := hown.1
        simp at hlen hl'
        refine ⟨⟨hle', _, hown, hsn, hm, fun x hx z hz hxz => ?_⟩, by omega⟩
        rw [List.getLast?_concat] at hz
        cases hz
        by_cases hab : ∀ z, ys.getLast? = some z → z < x
        · have := (hlow x hx hab).2
          have : x = least := by omega
          rw [this]; simp
        · have : ∃ z, ys.getLast? = some z ∧ ¬ z < x := Classical.byContradiction fun hne => hab fun z hz => Classical.byContradiction fun hzx => hne ⟨z, hz, hzx⟩
          obtain ⟨z, hz, hzx⟩ := this
          exact List.mem_append_left _ (hall x hx z hz (by omega))

abbrev eU : Int → List Value := fun x => cellsL ((shInt .u64).enc x)

theorem cloneF_ok {s : Sl} {xs : List Int} {Q : Sl → Hp → Prop} {h : Hp} (r : Us h s xs) (hl : xs.length ≤ 1000000) (hq : ∀ out h' F, OwnF h' 1 eU out xs F → Mv [] h F h' → Q out h') : slices_Clone_uint64_uint64_w Try.prog s Q h := by
  unfold slices_Clone_uint64_uint64_w
  refine ⟨s.base.isNone, semIs_nilSl (tb_ok.und 33 ty33 rfl) s, ?_⟩
  cases hb : s.base with
  | none =>
    rw [if_pos (show (none : Option Addr).isNone = true from rfl)]
    have : xs = [] := by
      rcases r.2.2 with e | ⟨a, ha, _⟩
      · exact List.length_eq_zero_iff.1 (by omega)
      · rw [hb] at ha; cases ha
    subst this
    exact hq _ h [] ⟨rfl, Nat.le_refl _, .inl ⟨rfl, rfl, rfl⟩⟩ (Mv.refl _ _)
  | some a =>
    rw [if_neg (by simp)]
    refine newF (xs := ([] : List Int)) (enc := eU) (sz := 1) rfl (fun _ => rfl) fun b h1 hb1 hle1 m1 o1 => ?_
    refine appF (F := [b]) (l := ⟨some ⟨b, 0, none⟩, 0, 0⟩) o1 (Rw.mono hle1 r) (fun _ => rfl) (fun _ => rfl) rfl (by simp; omega) fun l' h' F' o' m' => ?_
    exact hq l' h' F' o' (m1.trans m')

end Lf

/-
  Neighbours that are the same: one of them.
-/
namespace Lf
open Go Go.Proofs

set_option maxRecDepth 20000 in
theorem clearTail {s : Sl} {zs : List Int} {F : List Nat} {n : Nat} {K : Hp → Prop} {h : Hp} (o : OwnF h 1 eU s zs F) (hn : n < zs.length)
    (hk : ∀ h', OwnF h' 1 eU ⟨sbase s.base 1 0 s.cap, n - 0, s.cap - 0⟩ (zs.take n) F → Mv F h F h' → K h') :
    SemE0 Try.prog (Builtin.clear_ #[33] 0 #[(⟨sbase s.base 1 n s.cap, s.len - n, s.cap - n⟩ : Sl).v]) shUnit K h := by
  obtain ⟨o1, o2, o3⟩ := o
  rcases o3 with ⟨_, e2, _⟩ | ⟨b, cs, e1, rfl, kb, e4, e5⟩
  · omega
  have eb : sbase s.base 1 n s.cap = some ⟨b, n, none⟩ := by
    rw [e1, sbase_at (by omega), Nat.zero_add, Nat.mul_one]
  have eb0 : sbase s.base 1 0 s.cap = some ⟨b, 0, none⟩ := by
    rw [e1, sbase_at (by omega)]
  rw [eb]
  rw [eb0] at hk
  rw [Nat.mul_one] at e4 e5
  refine clear_blk (off := n) (n := s.len - n) (z := .int .u64 0) (tb_ok.und 33 ty33 rfl) (fun hk => semW_zero tb_ok (t := 43) (e := ty43) rfl hk) (fun m => by
    induction m with
    | zero => rfl
    | succ m ih => exact ih) kb (by show n + (s.len - n) * 1 ≤ _; omega) fun h' m' k' => ?_
  have hz : (zerosL (cellsL (Value.int .u64 0)) (s.len - n)).length = s.len - n := by rw [zerosL_len]; exact Nat.mul_one _
  have hl1 : (cellsL (Value.int .u64 0)).length = 1 := rfl
  rw [hl1, Nat.mul_one] at k'
  refine hk h' ⟨?_, ?_, .inr ⟨b, _, rfl, rfl, k', ?_, ?_⟩⟩ m'
  · show n - 0 = _
    rw [List.length_take]; omega
  · show n - 0 ≤ s.cap - 0
    omega
  · show _ = (s.cap - 0) * 1
    simp only [List.length_append, List.length_take, List.length_drop, hz]
    omega
  · show List.take ((n - 0) * 1) _ = _
    rw [List.append_assoc, Nat.sub_zero, Nat.mul_one, List.take_append_of_le_length (by rw [List.length_take]; omega), List.take_take, Nat.min_self]
    rw [flat_take (enc := eU) (sz := 1) (fun _ => rfl), ← e5, List.take_take, Nat.mul_one]
    congr 1
    omega

set_option maxRecDepth 20000 in
theorem compact_ok {s : Sl} {xs : List Int} {F : List Nat} {Q : Sl → Hp → Prop} {h : Hp} (o : OwnF h 1 eU s xs F) (hl : xs.length ≤ 1000000) (hq : ∀ out h', OwnF h' 1 eU out (cmpP xs) F → Mv F h F h' → Q out h') : slices_Compact_uint64_uint64_w Try.prog s Q h := by
  unfold slices_Compact_uint64_uint64_w
  have hs := o.1
  have rs : Us h s xs := o.rw fun _ => rfl
  by_cases h2 : (s.len : Int) < 2
  · rw [if_pos (decide_eq_true h2)]
    refine hq s h ?_ (Mv.refl _ _)
    rw [cmpP_short (by omega)]
    exact o
  rw [if_neg fun hh => h2 (of_decide_eq_true hh)]
  refine LoopW1.intro (fun k k' => k' = h ∧ 1 ≤ k ∧ k ≤ (xs.length : Int) ∧ ∃ p, xs[(k - 1).toNat]? = some p ∧ cmpP xs = xs.take k.toNat ++ cmpR p (xs.drop k.toNat)) (fun k _ => (xs.length - k).toNat) ⟨rfl, by omega, by omega, ?_⟩ ?_
  · cases xs with
    | nil => simp at hs; omega
    | cons x r => exact ⟨x, rfl, rfl⟩
  rintro k kh ⟨ekh, hk1, hk2, p, hp, hc⟩
  subst kh
  split
  · rename_i e
    have e : k < (s.len : Int) := by simpa using e
    rw [wrap64 (n := k - 1) (by omega) (by omega)]
    refine Rs.get rs (fun _ => rfl) (by omega) (by omega) (by omega) fun (x : Int) hx => ?_
    refine Rs.get rs (fun _ => rfl) (by omega) (by omega) (by omega) fun (x1 : Int) hx1 => ?_
    rw [hp] at hx1; cases hx1
    have hd : xs.drop k.toNat = x :: xs.drop (k.toNat + 1) := by
      obtain ⟨h3, h4⟩ := List.getElem?_eq_some_iff.1 hx
      rw [List.drop_eq_getElem_cons h3, h4]
    rw [hd] at hc
    simp only [cmpR] at hc
    have e1 : (k + 1).toNat = k.toNat + 1 := by omega
    by_cases hxp : x = p
    · rw [if_pos (by simpa using hxp)]
      rw [if_pos hxp] at hc
      refine ⟨by omega, letW ?_⟩
      subst hxp
      -- the second loop
      have hkn : ((k.toNat : Nat) : Int) = k := by omega
      have hyl : ((s.len - k.toNat : Nat) : Int) = (xs.length : Int) - k := by omega
      refine LoopW2.intro (fun k1 k2 k' => ∃ zs, OwnF k' 1 eU s zs F ∧ Mv F h F k' ∧ zs.length = xs.length ∧ 1 ≤ k2 ∧ k ≤ k1 ∧ k1 ≤ k + k2 - 1 ∧ k + k2 ≤ (xs.length : Int) ∧ zs.drop (k + k2 - 1).toNat = xs.drop (k + k2 - 1).toNat ∧
          ∃ p, xs[(k + k2 - 1).toNat]? = some p ∧ cmpP xs = zs.take k1.toNat ++ cmpR p (xs.drop (k + k2).toNat)) (fun _ k2 _ => (xs.length - k2).toNat)
        ⟨xs, o, Mv.refl _ _, rfl, by omega, by omega, by omega, by omega, rfl, x, by rw [show (k + 1 - 1).toNat = k.toNat by omega]; exact hx, by rw [e1]; exact hc⟩ ?_
      rintro k1 k2 k' ⟨zs, oz, mz, hzl, hk21, hk11, hk12, hk22, hdr, q, hq1, hcq⟩
      have rz : Us k' ⟨sbase s.base 1 k.toNat s.cap, s.len - k.toNat, s.cap - k.toNat⟩ (zs.drop k.toNat) := by
        have := Rw.cut (a := k.toNat) (b := zs.length) (c := s.cap) (n := s.len - k.toNat) (m := s.cap - k.toNat) (oz.rw (enc := eU) fun _ => rfl) (fun _ => rfl) (by omega) (Nat.le_refl _) (by have := o.2.1; omega) (by omega)
        rw [List.take_of_length_le (by rw [List.length_drop]; omega)] at this
        exact this
      have hzd : (zs.drop k.toNat).length = xs.length - k.toNat := by rw [List.length_drop, hzl]
      have hat : ∀ j : Int, k + k2 - 1 ≤ j → zs[j.toNat]? = xs[j.toNat]? := fun j hj => by
        have h1 := congrArg (fun l : List Int => l[j.toNat - (k + k2 - 1).toNat]?) hdr
        simp only [List.getElem?_drop] at h1
        rw [show (k + k2 - 1).toNat + (j.toNat - (k + k2 - 1).toNat) = j.toNat by omega] at h1
        exact h1
      dsimp only
      split
      · rename_i e
        have e : k2 < ((s.len - k.toNat : Nat) : Int) := by simpa using e
        rw [wrap64 (n := k2 - 1) (by omega) (by omega)]
        refine JoinW1.intro (fun k1 k' => ∃ zs, OwnF k' 1 eU s zs F ∧ Mv F h F k' ∧ zs.length = xs.length ∧ k ≤ k1 ∧ k1 ≤ k + k2 ∧ zs.drop (k + k2).toNat = xs.drop (k + k2).toNat ∧
          ∃ p, xs[(k + k2).toNat]? = some p ∧ cmpP xs = zs.take k1.toNat ++ cmpR p (xs.drop (k + k2 + 1).toNat)) ?_ ?_
        · refine Rs.get rz (fun _ => rfl) (by omega) (by omega) (by omega) fun (y : Int) hy => ?_
          refine Rs.get rz (fun _ => rfl) (by omega) (by omega) (by omega) fun (y1 : Int) hy1 => ?_
          rw [List.getElem?_drop, show k.toNat + k2.toNat = (k + k2).toNat by omega, hat _ (by omega)] at hy
          rw [List.getElem?_drop, show k.toNat + (k2 - 1).toNat = (k + k2 - 1).toNat by omega, hat _ (by omega), hq1] at hy1
          cases hy1
          have hd2 : xs.drop (k + k2).toNat = y :: xs.drop (k + k2 + 1).toNat := by
            obtain ⟨h3, h4⟩ := List.getElem?_eq_some_iff.1 hy
            rw [List.drop_eq_getElem_cons h3, h4, show (k + k2 + 1).toNat = (k + k2).toNat + 1 by omega]
          have hdr' : zs.drop (k + k2).toNat = xs.drop (k + k2).toNat := by
            have := congrArg (List.drop 1) hdr
            rw [List.drop_drop, List.drop_drop, show (k + k2 - 1).toNat + 1 = (k + k2).toNat by omega] at this
            exact this
          rw [hd2] at hcq
          simp only [cmpR] at hcq
          by_cases hyq : y = q
          · rw [if_neg (by simpa using hyq)]
            rw [if_pos hyq] at hcq
            exact ⟨zs, oz, mz, hzl, hk11, by omega, hdr', y, hy, by rw [hyq]; exact hcq⟩
          · rw [if_pos (by simpa using hyq)]
            rw [if_neg hyq] at hcq
            refine Rs.get rz (fun _ => rfl) (by omega) (by omega) (by omega) fun (y2 : Int) hy2 => ?_
            rw [List.getElem?_drop, show k.toNat + k2.toNat = (k + k2).toNat by omega, hat _ (by omega), hy] at hy2
            cases hy2
            refine oz.store (fun _ => rfl) (by omega) (by omega) y fun h3 o3 m3 => ?_
            rw [wrap64 (n := k1 + 1) (by omega) (by omega)]
            refine ⟨_, o3, mz.trans m3, by rw [List.length_set]; exact hzl, by omega, by omega, ?_, y, hy, ?_⟩
            · rw [List.drop_set_of_lt (by omega)]
              exact hdr'
            · rw [hcq, show (k1 + 1).toNat = k1.toNat + 1 by omega, List.take_add_one, List.take_set_of_le (Nat.le_refl _), List.getElem?_set_self (by omega)]
              simp
        · rintro k3 h3 ⟨zs3, o3, m3, hz3, g1, g2, g3, g4⟩
          rw [wrap64 (n := k2 + 1) (by omega) (by omega)]
          rw [show k + (k2 + 1) - 1 = k + k2 by omega, show k + (k2 + 1) = k + k2 + 1 by omega]
          exact ⟨⟨zs3, o3, m3, hz3, by omega, g1, g2, by omega, g3, g4⟩, by omega⟩
      · rename_i e
        have e : ¬ k2 < ((s.len - k.toNat : Nat) : Int) := by simpa using e
        rw [List.drop_eq_nil_of_le (by omega)] at hcq
        simp only [cmpR, List.append_nil] at hcq
        refine ⟨by omega, letW ?_⟩
        refine clearTail oz (n := k1.toNat) (by omega) fun h3 o3 m3 => ?_
        refine ⟨by have := o.2.1; omega, letW ?_⟩
        rw [← hcq] at o3
        exact hq _ _ o3 (mz.trans m3)
    · rw [if_neg (by simpa using hxp)]
      rw [if_neg hxp] at hc
      rw [wrap64 (by omega) (by omega)]
      exact ⟨⟨rfl, by omega, by omega, x, by rw [show (k + 1 - 1).toNat = k.toNat by omega]; exact hx, by
        rw [e1, List.take_add_one, hx, hc]
        simp⟩, by omega⟩
  · rename_i e
    have e : ¬ k < (s.len : Int) := by simpa using e
    rw [List.drop_eq_nil_of_le (by omega), List.take_of_length_le (by omega)] at hc
    simp only [cmpR, List.append_nil] at hc
    refine hq s _ ?_ (Mv.refl _ _)
    rw [hc]
    exact o

/-- table.Canon. -/
theorem tabCanon_ok {l : Sl} {xs : List Int} {Q : Sl → Hp → Prop} {h : Hp} (r : Us h l xs) (hl : xs.length ≤ 1000000)
    (hq : ∀ out ys h' F, OwnF h' 1 eU out ys F → Mv [] h F h' → ys.Pairwise (· < ·) → (∀ y, y ∈ ys ↔ y ∈ xs) → Q out h') : table_Canon_w Try.prog l Q h := by
  unfold table_Canon_w
  refine slices_Clone_uint64_uint64_call (cloneF_ok r hl fun out h1 F o1 m1 => ?_)
  refine slices_Sort_uint64_uint64_call (Souint64.sort_ok o1 (by omega) fun h2 ys o2 m2 hp hasc => ?_)
  have hlen : ys.length = xs.length := hp.length_eq
  refine slices_Compact_uint64_uint64_call (compact_ok o2 (by omega) fun out' h3 o3 m3 => ?_)
  exact hq _ _ _ _ o3 (m1.trans (m2.trans m3)) (cmpP_asc hasc) fun y => cmpP_mem.trans hp.mem_iff

end Lf

/-
  TableMays.
-/
namespace Lf
open Go Go.Proofs

theorem few_ok {l : Sl} {xs : List Int} {h : Hp} (r : Us h l xs) (cl : l.len ≤ l.cap) :
    ((0 : Int) ≤ min2I (l.len : Int) 300 ∧ (min2I (l.len : Int) 300 ≤ min2I (l.len : Int) 300 ∧ min2I (l.len : Int) 300 ≤ (l.cap : Int))) ∧
      Us h ⟨sbase l.base 1 0 (Int.toNat (min2I (l.len : Int) 300)), Int.toNat (min2I (l.len : Int) 300) - 0, Int.toNat (min2I (l.len : Int) 300) - 0⟩ (xs.take 300) := by
  have hll := r.1
  have m1 := @min2_le (l.len : Int) 300
  refine ⟨by omega, ?_⟩
  have e : xs.take 300 = xs.take (min2I (l.len : Int) 300).toNat := by
    rcases m1.2.2 with e | e
    · rw [List.take_of_length_le (by omega), List.take_of_length_le (by omega)]
    · rw [e]; rfl
  rw [e]
  exact Rw.head r (fun _ => rfl) (by omega) (by omega) (by omega)

theorem tableMays_ok {l : Sl} {xs : List Int} {Q : Bool → Hp → Prop} {h : Hp} (r : Us h l xs) (cl : l.len ≤ l.cap) (hq : ∀ h', h ≤ h' → Q true h') : firebreaklaw02_TableMays_w Try.prog l Q h := by
  unfold firebreaklaw02_TableMays_w
  refine firebreaklaw02_awake_call (awake_ok fun h1 l1 => ?_)
  rw [if_neg (by simp)]
  refine firebreaklaw02_short_call (short_ok (r.mono l1) cl fun o ro co _ => ?_)
  refine table_May_call (mayG_ok ro (firebreakref02_May_call (refMay_ok ro ?_)))
  have rest : ∀ h2, h1 ≤ h2 → (((0 : Int) ≤ (min2I ((o.len : Nat) : Int) (300 : Int)) ∧ ((min2I ((o.len : Nat) : Int) (300 : Int)) ≤ (min2I ((o.len : Nat) : Int) (300 : Int)) ∧ (min2I ((o.len : Nat) : Int) (300 : Int)) ≤ ((o.cap : Nat) : Int))) ∧ LetW (α := Sl) ⟨(sbase o.base 1 0 (Int.toNat (min2I ((o.len : Nat) : Int) (300 : Int)))), ((Int.toNat (min2I ((o.len : Nat) : Int) (300 : Int))) - 0), ((Int.toNat (min2I ((o.len : Nat) : Int) (300 : Int))) - 0)⟩ fun y4 =>
 CallT Try.prog n_table_Canon [y4.v] shSl (fun r9 h6 =>
 CallT Try.prog n_firebreakref02_Canon [y4.v] shSl (fun r10 h7 =>
 CallT Try.prog n_firebreakref02_SameLabels [r9.v, r10.v] shBool (fun r11 h8 =>
 Q r11 h8) h7) h6) h2) := fun h2 l2 => by
    obtain ⟨g1, g2⟩ := few_ok (ro.mono l2) co
    refine ⟨g1, letW ?_⟩
    have hlt : ((xs.take 1048576).take 300).length ≤ 300 := by rw [List.length_take]; omega
    refine table_Canon_call (tabCanon_ok g2 (by omega) fun out ys h3 F o3 m3 asc3 mem3 => ?_)
    have l3 := (m3.le (Hp.le_refl h2) fun b hb => by cases hb).1
    refine firebreakref02_Canon_call (refCanon_ok (g2.mono l3) (by omega) fun out2 zs h4 l4 o4 asc4 mem4 => ?_)
    have e : ys = zs := asc_eq asc3 asc4 fun z => (mem3 z).trans (mem4 z).symm
    subst e
    have hy : ys.length ≤ ((xs.take 1048576).take 300).length := nodup_len ys _ (asc_nodup asc3) fun y hy => (mem3 y).1 hy
    exact firebreakref02_SameLabels_call (sameLabels_ok (Rw.mono l4 (o3.rw fun _ => rfl)) (o4.rw fun _ => rfl) (by omega) (hq _ (Hp.le_trans l1 (Hp.le_trans l2 (Hp.le_trans l3 l4)))))
  refine table_New_call (newG_ok ro (fun hne => ?_) fun he p h2 l2 t2 => ?_)
  · have e1 : (mayP (List.take 1048576 xs)).1 ≠ 0 := hne
    refine letW (letW (letW (letW ?_)))
    rw [if_neg (by simp [e1])]
    exact rest h1 (Hp.le_refl _)
  · refine letW (letW (letW (letW ?_)))
    rw [if_neg (by simp [he, mayP_place0 he])]
    exact rest h2 l2

end Lf

/-
  From a call's text to a law's statement.
-/
namespace Lf
open Go Go.ChangeShapes Go.WideShapes Go.ChangeAt Go.RowKit

/-- All that is in memory. -/
def whole (W : World) : Hp := fun b => W.heap[b]?

theorem whole_sub (W : World) : Sub (whole W) W := fun _ _ e => e

theorem hcell_whole (W : World) (a : Addr) : hcell (whole W) a = W.cell? a := rfl

theorem below_of_step {W W' : World} {h' : Hp} (hle : whole W ≤ h') (st : Step (whole W) h' W W') : Below W.heap.size W W' :=
  ⟨st.os, st.tape, st.output, st.size, fun k hk => by
    cases e : W.heap[k]? with
    | some o => exact st.sub _ _ (hle _ _ e)
    | none => simp at e; omega⟩

theorem trodAll_stays {H : Type} {enc : TypeId × Value → H} {P : Program} (hl : laidOutB P = true) {W W' : World} {sp : Nat → Bool} (hb : Below W.heap.size W W') : ∀ {ts : List TypeId} {vs : List Value} {ds : List (DataW H)} {ps : List MemPlace},
    (∀ t ∈ ts, P.readableRec t = true ∧ t < P.types.size) → DataW.TrodAll enc P W 0 (fun _ => true) true ts vs ds ps → (∀ x ∈ ps, x.block < W.heap.size) → (∀ x ∈ ps, sp x.block = true) → DataW.TrodAll enc P W' 0 sp true ts vs ds ps
  | [], _, _, _, _, h, _, _ => by
    obtain ⟨rfl, rfl, rfl⟩ := trodAll_nil h
    exact trodAll_mk0
  | t :: ts, _, _, _, hr, h, hlt, hs => by
    obtain ⟨v, vs, d, ds, p, q, rfl, rfl, rfl, h1, h2⟩ := trodAll_cons h
    obtain ⟨hr1, hr2⟩ := hr t (List.mem_cons_self ..)
    exact ⟨p, q, WideElems.Trod_stays hl hr1 hr2 h1 (fun x hx => hb.same (hlt x (List.mem_append_left _ hx))) (fun x hx => hs x (List.mem_append_left _ hx)),
      trodAll_stays hl hb (fun t ht => hr t (List.mem_cons_of_mem _ ht)) h2 (fun x hx => hlt x (List.mem_append_right _ hx)) (fun x hx => hs x (List.mem_append_right _ hx)), rfl⟩

theorem law_post {H : Type} {enc : TypeId × Value → H} {P : Program} {f : Func} {s : ChangeSpec} {W W' : World} {h' : Hp} {args : Array Value} {ds gs : List (DataW H)} {before : List MemPlace} {t : TypeId} (hl : laidOutB P = true)
    (hrd : ∀ t ∈ f.params.toList, P.readableRec t = true ∧ t < P.types.size) (hvars : s.vars = []) (hres : f.resultTypes = #[t]) (ht : P.underlying t = some .bool)
    (hfn : gs = [] → s.fn H (ds ++ gs) = { results := [.lit (.bool true)], args := ds }) (hW : DataW.Whole enc P f.params.toList s.vars false W args.toList ds gs before) (hle : whole W ≤ h') (st : Step (whole W) h' W W') :
    s.post enc P f false true false false W args (.bool true) W' := by
  have hb := below_of_step hle st
  have hlt : ∀ p ∈ before, p.block < W.heap.size := fun p hp => hW.lt p hp
  have hW' := hW
  obtain ⟨p, q, hA, hV, rfl, hfz, hnd⟩ := hW'
  rw [hvars] at hV
  obtain ⟨rfl, rfl⟩ := trodVars_none hV
  rw [List.append_nil] at hlt
  have hsp := hfn rfl
  refine ⟨ds, [], p ++ [], [], p, [], hW, ?_, ?_, ?_, Below.frame hb _, fun e => (by cases e)⟩
  · rw [hsp, hres]
    exact trodAll_mk1 (shut_bool ht true)
  · rw [hsp]
    exact trodAll_stays hl hb hrd hA hlt (fun x hx => by simpa using hlt x hx)
  · rw [hsp, hvars]
    exact rfl

theorem law_lifted {H : Type} {enc : TypeId × Value → H} {C : Checked} {os : Os} {f : FuncId} {fn : Func} {s : ChangeSpec} {t : TypeId} (own : ownKnob C.prog.godebug = none) (started : os.Started) (noInit : C.prog.inits.idxOf? f = none) (hf : C.prog.funcs[f]? = some fn)
    (witness : ∃ (w : World) (tape : Tape) (i : Input), w.os = os ∧ (w.forCall tape i).Shaped C.prog ∧ i.vars = [] ∧ Input.okWide C.prog (w.forCall tape i) .any w.heap.size f i ∧
      s.pre6 enc C.prog fn [] false (w.forCall tape i).memory i.args ∧ ({} : Assume).holds C.prog (lone (Frame.enter C.prog f i.args .normal) [] (w.forCall tape i)))
    (hl : laidOutB C.prog = true) (hrd : ∀ t ∈ fn.params.toList, C.prog.readableRec t = true ∧ t < C.prog.types.size) (hvars : s.vars = []) (hres : fn.resultTypes = #[t]) (ht : C.prog.underlying t = some .bool)
    (walk : ∀ (W : World) (base : Nat) (args : Array Value) (ds : List (DataW H)) (p : List MemPlace), (∀ (j : Nat) t v, fn.params[j]? = some t → args[j]? = some v → Value.okWide C.prog W .any base t v) → DataW.TrodAll enc C.prog W 0 (fun _ => true) true fn.params.toList args.toList ds p →
      s.fn H ds = { results := [.lit (.bool true)], args := ds } ∧ CallT C.prog f args.toList shBool (fun r h' => r = true ∧ whole W ≤ h') (whole W)) :
    ReturnsInHanded {} C os f .any (s.pre6 enc C.prog fn [] false) (s.post enc C.prog fn false true false false) := by
  refine returnsInHanded_of_change own started noInit hf witness ?_
  intro W base args ds gs before hval hW hcnd _
  have hW' := hW
  obtain ⟨p, q, hA, hV, _, hfz, hnd⟩ := hW'
  obtain ⟨hsp, hc⟩ := walk W base args ds p hval hA
  have hc' := hc W (whole_sub W)
  simp only [Array.toArray_toList] at hc'
  refine hc'.mono fun e W' hh => ?_
  obtain ⟨v, h', rfl, ⟨x, rfl, rfl, hle⟩, hst⟩ := hh
  exact ⟨_, rfl, law_post hl hrd hvars hres ht (fun e => by rw [e, List.append_nil]; exact hsp) hW hle hst⟩

/-- The same, of arguments whose sizes are known. -/
theorem law_liftedS {H : Type} {enc : TypeId × Value → H} {C : Checked} {os : Os} {f : FuncId} {fn : Func} {s : ChangeSpec} {t : TypeId} (own : ownKnob C.prog.godebug = none) (started : os.Started) (noInit : C.prog.inits.idxOf? f = none) (hf : C.prog.funcs[f]? = some fn)
    (witness : ∃ (w : World) (tape : Tape) (i : Input), w.os = os ∧ (w.forCall tape i).Shaped C.prog ∧ i.vars = [] ∧ Input.okWide C.prog (w.forCall tape i) .any w.heap.size f i ∧
      s.pre6 enc C.prog fn [] false (w.forCall tape i).memory i.args ∧ ({} : Assume).holds C.prog (lone (Frame.enter C.prog f i.args .normal) [] (w.forCall tape i)))
    (hl : laidOutB C.prog = true) (hrd : ∀ t ∈ fn.params.toList, C.prog.readableRec t = true ∧ t < C.prog.types.size) (hvars : s.vars = []) (hres : fn.resultTypes = #[t]) (ht : C.prog.underlying t = some .bool)
    (walk : ∀ (W : World) (base : Nat) (args : Array Value) (ds : List (DataW H)) (p : List MemPlace), (∀ (j : Nat) t v, fn.params[j]? = some t → args[j]? = some v → Value.okWide C.prog W .any base t v) → DataW.TrodAll enc C.prog W 0 (fun _ => true) true fn.params.toList args.toList ds p →
      (DataW.weightsEach C.prog fn.params.toList ds).all (· ≤ reachBytes) = true →
      s.fn H ds = { results := [.lit (.bool true)], args := ds } ∧ CallT C.prog f args.toList shBool (fun r h' => r = true ∧ whole W ≤ h') (whole W)) :
    ReturnsInHanded {} C os f .any (s.pre6 enc C.prog fn [] false) (s.post enc C.prog fn false true false false) := by
  refine returnsInHanded_of_change_sized own started noInit hf witness ?_
  intro W base args ds gs before hval hW hcnd hsz _
  have hW' := hW
  obtain ⟨p, q, hA, hV, _, hfz, hnd⟩ := hW'
  have hgs : gs = [] := by
    rw [hvars] at hV
    exact (trodVars_none hV).1
  subst hgs
  have hvt : s.plain.varTypes C.prog = [] := by
    unfold ChangeSpec.plain DataSpec.varTypes
    rw [hvars]
    rfl
  rw [hvt, List.append_nil, List.append_nil] at hsz
  obtain ⟨hsp, hc⟩ := walk W base args ds p hval hA hsz
  have hc' := hc W (whole_sub W)
  simp only [Array.toArray_toList] at hc'
  refine hc'.mono fun e W' hh => ?_
  obtain ⟨v, h', rfl, ⟨x, rfl, rfl, hle⟩, hst⟩ := hh
  exact ⟨_, rfl, law_post hl hrd hvars hres ht (fun e => by rw [e, List.append_nil]; exact hsp) hW hle hst⟩


/-- A slice that is handed in. -/
theorem slice_in {H : Type} {enc : TypeId × Value → H} {P : Program} {W : World} {base : Nat} {t e : TypeId} {v : Value} {d : DataW H} {ps : List MemPlace} {α : Type} (ht : P.underlying t = some (.slice e)) (en : α → List Value) (good : α → Prop)
    (hel : ∀ fuel cs y, cs.length = P.cellsOf e → DataW.trod enc P W 0 (fun _ => true) true fuel e cs = some y → ∃ x, cs = en x ∧ good x) (henc : ∀ x, (en x).length = P.cellsOf e) (hv : Value.okWide P W .any base t v)
    (h : DataW.Trod enc P W 0 (fun _ => true) true t v d ps) : ∃ (l : Sl) (xs : List α), v = l.v ∧ Rw (whole W) (P.cellsOf e) en l xs ∧ l.len ≤ l.cap ∧ l.cap ≤ 9223372036854775807 ∧ (∀ x ∈ xs, good x) ∧ (l.len = 0 ∨ ∃ el sp, d = .slice el sp ∧ el.length = l.len) := by
  obtain ⟨a0, len0, cap0, rfl⟩ := okWide_slice ht hv
  obtain ⟨fuel, hf⟩ := h
  rcases DataW.trod_slice ht hf with ⟨h0, _⟩ | ⟨a, len, cap, elems, rest, n, _, h0, hd0, hb, hl, hm, hlen, hel', _, _⟩
  · simp [Value.cells] at h0
    obtain ⟨rfl, rfl, rfl⟩ := h0
    exact ⟨⟨none, 0, 0⟩, [], rfl, ⟨rfl, (by simp), .inl (by simp)⟩, Nat.le_refl _, (by simp), fun x hx => (by cases hx), .inl rfl⟩
  · simp [Value.cells] at h0
    obtain ⟨rfl, rfl, rfl⟩ := h0
    have each : ∀ i, i < len0 → ∃ x, good x ∧ LdIs (whole W) (a.add (i * P.cellsOf e)) (en x) := by
      intro i hi
      have h1 := hel' i hi
      have h2 : elems[i]? = some elems[i] := List.getElem?_eq_getElem (by omega)
      rw [h2] at h1
      cases hc : W.cells? 0 (a.add (i * P.cellsOf e)) (P.cellsOf e) with
      | none => rw [hc] at h1; cases h1
      | some cs =>
        rw [hc] at h1
        obtain ⟨_, hcl, hcc⟩ := World.cells?_some hc
        obtain ⟨x, hx, hg⟩ := hel n cs _ hcl h1
        refine ⟨x, hg, fun j v hj => ?_⟩
        have hjl : j < (en x).length := (List.getElem?_eq_some_iff.1 hj).1
        rw [hcell_whole, hcc j (by rw [← henc x]; exact hjl), hx]
        exact hj
    have build : ∀ m, m ≤ len0 → ∃ xs : List α, xs.length = m ∧ (∀ x ∈ xs, good x) ∧ ∀ i x, xs[i]? = some x → LdIs (whole W) (a.add (i * P.cellsOf e)) (en x) := by
      intro m
      induction m with
      | zero => intro _; exact ⟨[], rfl, fun x hx => (by cases hx), fun i x hx => (by simp at hx)⟩
      | succ m ih =>
        intro hm'
        obtain ⟨xs, h1, h2, h3⟩ := ih (by omega)
        obtain ⟨x, hg, hx⟩ := each m (by omega)
        refine ⟨xs ++ [x], by simp [h1], fun y hy => ?_, fun i y hy => ?_⟩
        · rcases List.mem_append.1 hy with hy | hy
          · exact h2 y hy
          · rw [List.mem_singleton.1 hy]; exact hg
        · by_cases hi : i < xs.length
          · rw [List.getElem?_append_left hi] at hy
            exact h3 i y hy
          · rw [List.getElem?_append_right (by omega)] at hy
            have : i - xs.length = 0 := by
              have := (List.getElem?_eq_some_iff.1 hy).1
              simp at this
              omega
            rw [this] at hy
            simp at hy
            subst hy
            have : i = m := by omega
            rw [this]
            exact hx
    obtain ⟨xs, h1, h2, h3⟩ := build len0 (Nat.le_refl _)
    refine ⟨⟨some a, len0, cap0⟩, xs, rfl, ⟨h1.symm, flat_len henc xs, .inr ⟨a, rfl, fun i v hv => ?_⟩⟩, hl, hm, h2, .inr ⟨_, _, (Prod.mk.inj hd0).1, by simp [hlen]⟩⟩
    obtain ⟨q, x, j, hq, hj, e1⟩ := flat_at henc xs i v hv
    rw [e1]
    rw [← add_add]
    exact h3 q x hq j v hj

theorem ints_in {H : Type} {enc : TypeId × Value → H} {P : Program} {W : World} {base : Nat} {t e : TypeId} {k : IntKind} {v : Value} {d : DataW H} {ps : List MemPlace} (ht : P.underlying t = some (.slice e)) (he : P.underlying e = some (.int k)) (hc : P.cellsOf e = 1) (hv : Value.okWide P W .any base t v)
    (h : DataW.Trod enc P W 0 (fun _ => true) true t v d ps) : ∃ (l : Sl) (xs : List Int), v = l.v ∧ Rs (whole W) (shInt k) 1 l xs ∧ l.len ≤ l.cap ∧ l.cap ≤ 9223372036854775807 ∧ ∀ x ∈ xs, (Lit.int k x).wf = true := by
  have key := slice_in (α := Int) ht (fun x => cellsL ((shInt k).enc x)) (fun x => (Lit.int k x).wf = true) (fun fuel cs y _ hy => ?_) (fun _ => by rw [hc]; rfl) hv h
  · rw [hc] at key
    obtain ⟨l, xs, h1, h2, h3, h4, h5, _⟩ := key
    exact ⟨l, xs, h1, h2, h3, h4, h5⟩
  · obtain ⟨n, hcs, _, hw⟩ := DataW.trod_int he hy
    exact ⟨n, hcs, hw⟩

theorem ints_inS {H : Type} {enc : TypeId × Value → H} {P : Program} {W : World} {base : Nat} {t e : TypeId} {k : IntKind} {v : Value} {d : DataW H} {ps : List MemPlace} (ht : P.underlying t = some (.slice e)) (he : P.underlying e = some (.int k)) (hc : P.cellsOf e = 1) (hv : Value.okWide P W .any base t v)
    (h : DataW.Trod enc P W 0 (fun _ => true) true t v d ps) : ∃ (l : Sl) (xs : List Int), v = l.v ∧ Rs (whole W) (shInt k) 1 l xs ∧ l.len ≤ l.cap ∧ l.cap ≤ 9223372036854775807 ∧ (∀ x ∈ xs, (Lit.int k x).wf = true) ∧ (l.len = 0 ∨ ∃ el sp, d = .slice el sp ∧ el.length = l.len) := by
  have key := slice_in (α := Int) ht (fun x => cellsL ((shInt k).enc x)) (fun x => (Lit.int k x).wf = true) (fun fuel cs y _ hy => ?_) (fun _ => by rw [hc]; rfl) hv h
  · rw [hc] at key
    exact key
  · obtain ⟨n, hcs, _, hw⟩ := DataW.trod_int he hy
    exact ⟨n, hcs, hw⟩

theorem inU_wf {x : Int} (h : (Lit.int .u64 x).wf = true) : 0 ≤ x ∧ x < 18446744073709551616 := by
  simp [Lit.wf, IntKind.min, IntKind.max, IntKind.signed, IntKind.bits] at h
  omega

theorem trod_fieldInt {H : Type} {enc : TypeId × Value → H} {P : Program} {W : World} {t : TypeId} {fs : Array Field} {fuel : Nat} {cs : List Value} {x : DataW H × List MemPlace} (ht : P.underlying t = some (.struct fs)) (h : DataW.trod enc P W 0 (fun _ => true) true fuel t cs = some x)
    {i : Nat} {f : Field} {k : IntKind} (hf : fs[i]? = some f) (hk : P.underlying f.type = some (.int k)) (hc : P.cellsOf f.type = 1) : ∃ n, cs[f.offset]? = some (.int k n) ∧ (Lit.int k n).wf = true := by
  obtain ⟨xs, n, _, _, hl, hlen, hfs⟩ := DataW.trod_struct ht h
  have h1 := hfs i f hf
  have hil : i < xs.length := by rw [hlen]; exact (Array.getElem?_eq_some_iff.1 hf).1
  rw [List.getElem?_eq_getElem hil, hc] at h1
  obtain ⟨m, hm, _, hw⟩ := DataW.trod_int hk h1
  refine ⟨m, ?_, hw⟩
  have : ((cs.drop f.offset).take 1)[0]? = some (.int k m) := by rw [hm]; rfl
  rw [List.getElem?_take] at this
  simpa using this

theorem inI_wf {x : Int} (h : (Lit.int .i64 x).wf = true) : -9223372036854775808 ≤ x ∧ x ≤ 9223372036854775807 := by
  simp [Lit.wf, IntKind.min, IntKind.max, IntKind.signed, IntKind.bits] at h
  omega

/-- How long a slice of that type may be. -/
theorem slice_size {H : Type} {P : Program} {ts : List TypeId} {ds : List (DataW H)} {j : Nat} {t e : TypeId} {d : DataW H} {l : Sl} {b : Nat} (h : (DataW.weightsEach P ts ds).all (· ≤ reachBytes) = true) (ht : ts[j]? = some t) (hd : ds[j]? = some d) (hu : P.underlying t = some (.slice e)) (hb : P.bytesOf e = b)
    (hs : l.len = 0 ∨ ∃ el sp, d = .slice el sp ∧ el.length = l.len) : l.len * b ≤ 140737488355328 := by
  rcases hs with h0 | ⟨el, sp, rfl, hl⟩
  · rw [h0]; omega
  · have h1 := sized_slice h ht hd hu
    rw [hb] at h1
    have h2 : el.length * b ≤ (el.length + sp.length) * b := Nat.mul_le_mul_right _ (by omega)
    rw [← hl]
    have h3 : reachBytes ≤ 140737488355328 := by decide
    omega

end Lf

