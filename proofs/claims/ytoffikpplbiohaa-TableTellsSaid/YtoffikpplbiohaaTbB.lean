/-
  The plain order of a list.
-/
import Derived.Test.YtoffikpplbiohaaTbA
namespace Lf
open Go

abbrev OwnU (h0 h : Hp) (l : Sl) (xs : List Int) : Prop := Own h0 h 1 (fun x => cellsL ((shInt .u64).enc x)) l xs
abbrev OwnI (h0 h : Hp) (l : Sl) (xs : List Int) : Prop := Own h0 h 1 (fun x => cellsL ((shInt .i64).enc x)) l xs

theorem canon_ok {P : Program} {l : Sl} {xs : List Int} {Q : Sl → Hp → Prop} {h : Hp} (r : Us h l xs) (hl : xs.length ≤ 1000000)
    (hq : ∀ out ys h', h ≤ h' → OwnU h h' out ys → ys.Pairwise (· < ·) → (∀ y ∈ ys, y ∈ xs) → Q out h') : firebreakref02_Canon_w P l Q h := by
  unfold firebreakref02_Canon_w
  refine new_row (xs := ([] : List Int)) (enc := fun x => cellsL ((shInt .u64).enc x)) (sz := 1) (Hp.le_refl h) rfl (fun _ => rfl) fun a h1 hle1 ho1 => ?_
  refine LoopW1.intro (fun out k => h ≤ k ∧ ∃ ys, OwnU h k out ys ∧ ys.Pairwise (· < ·) ∧ ∀ y ∈ ys, y ∈ xs) (fun out _ => xs.length + 1 - out.len) ⟨hle1, [], ho1, List.Pairwise.nil, fun y hy => by cases hy⟩ ?_
  rintro out k ⟨hle, ys, ho, hasc, hmem⟩
  have hlx := r.1
  have hly := ho.1
  have hyx : ys.length ≤ xs.length := nodup_len ys xs (asc_nodup hasc) hmem
  have rk : Us k l xs := r.mono hle
  have ro : Us k out ys := ho.rw fun _ => rfl
  refine LoopW3.intro (fun found least i k' => k' = k ∧ 0 ≤ i ∧ i ≤ (xs.length : Int) ∧ (found = true → least ∈ xs ∧ ∀ z, ys.getLast? = some z → z < least)) (fun _ _ i _ => (xs.length - i).toNat)
    ⟨rfl, by omega, by omega, fun e => by cases e⟩ ?_
  rintro found least i k' ⟨rfl, hi0, hi1, hf⟩
  split
  · rename_i e
    have e : i < (l.len : Int) := by simpa using e
    refine JoinW2.intro (fun found least k2 => k2 = k' ∧ (found = true → least ∈ xs ∧ ∀ z, ys.getLast? = some z → z < least)) ?_ ?_
    · have hwl : IntKind.wrap .i64 ((out.len : Int) - 1) = (out.len : Int) - 1 := wrap64 (by omega) (by omega)
      rw [hwl]
      refine Rs.getC rk (0 : Int) (fun _ => rfl) (by omega) (fun _ => ⟨hi0, by omega⟩) fun (x : Int) hx => ?_
      refine Rs.getC ro (0 : Int) (fun _ => rfl) (by omega) (fun hc => ?_) fun (x1 : Int) hx1 => ?_
      · have : ¬ (out.len : Int) = 0 := by simpa using hc
        omega
      refine letW ?_
      refine Rs.getC rk (0 : Int) (fun _ => rfl) (by omega) (fun _ => ⟨hi0, by omega⟩) fun (x2 : Int) hx2 => ?_
      refine letW (letW ?_)
      split
      · rename_i hy
        refine Rs.get rk (fun _ => rfl) (by omega) hi0 (by omega) fun (x3 : Int) hx3 => ?_
        refine ⟨rfl, fun _ => ⟨List.mem_of_getElem? hx3, fun z hz => ?_⟩⟩
        have hne : ¬ (out.len : Int) = 0 := fun e0 => by
          have : ys = [] := List.length_eq_zero_iff.1 (by omega)
          rw [this] at hz; cases hz
        have hc : (!((out.len : Int) == 0)) = true := by simp; omega
        have hx' := hx hc
        have hx1' := hx1 hc
        rw [hx3] at hx'; cases hx'
        have hyl : ((out.len : Int) - 1).toNat = ys.length - 1 := by omega
        rw [hyl, ← List.getLast?_eq_getElem?, hz] at hx1'
        cases hx1'
        simp at hy
        have := hy.1
        omega
      · exact ⟨rfl, hf⟩
    · rintro found1 least1 k1 ⟨rfl, hf1⟩
      have hw : IntKind.wrap .i64 (i + 1) = i + 1 := wrap64 (by omega) (by omega)
      rw [hw]
      exact ⟨⟨rfl, by omega, by omega, hf1⟩, by omega⟩
  · split
    · exact hq out ys _ hle ho hasc hmem
    · rename_i e2
      have hfd : found = true := by simpa using e2
      obtain ⟨h5, h6⟩ := hf hfd
      refine new_row (xs := [least]) (enc := fun x => cellsL ((shInt .u64).enc x)) (sz := 1) (h0 := h) hle rfl (fun _ => rfl) fun a1 h4 hle4 ho4 => ?_
      have ho' : OwnU h h4 out ys := ho.mono hle4
      refine app_own (Hp.le_trans hle hle4) ho' (ho4.rw fun _ => rfl) (fun _ => rfl) (fun _ => rfl) rfl ?_ fun l' h' hle' hown _ => ?_
      · simp; omega
      · have hsn := asc_snoc hasc h6
        have hm : ∀ y ∈ ys ++ [least], y ∈ xs := fun y hy => by
          rcases List.mem_append.1 hy with hy | hy
          · exact hmem y hy
          · rw [List.mem_singleton.1 hy]; exact h5
        have hlen := nodup_len _ xs (asc_nodup hsn) hm
        have hl' := hown.1
        simp at hlen hl'
        exact ⟨⟨hle', _, hown, hsn, hm⟩, by omega⟩

end Lf
