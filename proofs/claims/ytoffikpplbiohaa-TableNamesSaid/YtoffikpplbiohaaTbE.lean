/-
  The reference's lists, both ways.
-/
import Derived.Test.YtoffikpplbiohaaTbD
namespace Lf
open Go Go.Proofs

theorem push_ok {h0 h : Hp} {out : Sl} {ys : List Int} {n : Int} {K : Sl → Hp → Prop} (hle : h0 ≤ h) (ho : OwnI h0 h out ys) (hl : ys.length ≤ 1000000)
    (hk : ∀ out' h', h0 ≤ h' → OwnI h0 h' out' (ys ++ [n]) → (∀ b ob, h b = some ob → (∀ a, out.base = some a → a.block ≠ b) → h' b = some ob) → K out' h') :
    NewW [.int .i64 n] (fun a h4 => AppendW 1 8 [.int .i64 0] out ⟨some a, 1, 1⟩ (fun r h5 => K r h5) h4) h := by
  refine new_row (xs := [n]) (enc := fun x => cellsL ((shInt .i64).enc x)) (sz := 1) (h0 := h0) hle rfl (fun _ => rfl) fun a1 h4 hle4 ho4 => ?_
  refine app_own (Hp.le_trans hle hle4) (ho.mono hle4) (ho4.rw fun _ => rfl) (fun _ => rfl) (fun _ => rfl) rfl ?_ fun l' h' hle' hown hoth => ?_
  · simp; omega
  · exact hk l' h' hle' hown fun b ob e hne => hoth b ob (hle4 b ob e) hne

theorem refUp_ok {l : Sl} {xs : List Int} {i : Int} {Q : Sl → Hp → Prop} {h : Hp} (r : Us h l xs) (hu : ∀ x ∈ xs, InU x) (hl : xs.length ≤ 100000)
    (hq : ∀ out h', h ≤ h' → OwnI h h' out (those (fun j => fl xs i j) xs.length) → Q out h') : firebreakref02_Up_w Try.prog l i Q h := by
  unfold firebreakref02_Up_w
  have hlen := r.1
  refine new_row (xs := ([] : List Int)) (enc := fun x => cellsL ((shInt .i64).enc x)) (sz := 1) (Hp.le_refl h) rfl (fun _ => rfl) fun a h1 hle1 ho1 => ?_
  refine LoopW2.intro (fun out j k => h ≤ k ∧ 0 ≤ j ∧ j ≤ (xs.length : Int) ∧ OwnI h k out (those (fun j => fl xs i j) j.toNat)) (fun _ j _ => (xs.length - j).toNat) ⟨hle1, by omega, by omega, ho1⟩ ?_
  rintro out j k ⟨hle, hj0, hj1, ho⟩
  split
  · rename_i e
    have e : j < (l.len : Int) := by simpa using e
    have hjn : (j.toNat : Int) = j := by omega
    have hw : IntKind.wrap .i64 (j + 1) = j + 1 := wrap64 (by omega) (by omega)
    have hs : (j + 1).toNat = j.toNat + 1 := by omega
    have hlt := those_len (fun j => fl xs i j) j.toNat
    refine JoinW1.intro (fun out k => h ≤ k ∧ OwnI h k out (those (fun j => fl xs i j) (j.toNat + 1))) ?_ ?_
    · refine firebreakref02_Flows_call (refFlows2_ok (r.mono hle) hu ?_)
      have hth := those_succ (fun j => fl xs i j) j.toNat
      rw [hjn] at hth
      cases hf : fl xs i j with
      | true =>
        rw [if_pos rfl]
        rw [hf, if_pos rfl] at hth
        refine push_ok hle ho (by omega) fun out' h' hle' ho' _ => ?_
        rw [hth]
        exact ⟨hle', ho'⟩
      | false =>
        rw [if_neg (by simp)]
        rw [hf, if_neg (by simp), List.append_nil] at hth
        rw [hth]
        exact ⟨hle, ho⟩
    · rintro out' k' ⟨hle', ho'⟩
      rw [hw]
      exact ⟨⟨hle', by omega, by omega, by rw [hs]; exact ho'⟩, by omega⟩
  · rename_i e
    have e : ¬ j < (l.len : Int) := by simpa using e
    refine hq _ _ hle ?_
    have : j.toNat = xs.length := by omega
    rw [← this]
    exact ho

theorem refDown_ok {l : Sl} {xs : List Int} {a : Int} {Q : Sl → Hp → Prop} {h : Hp} (r : Us h l xs) (hu : ∀ x ∈ xs, InU x) (ha : InU a) (hl : xs.length ≤ 100000)
    (hq : ∀ out h', h ≤ h' → OwnI h h' out (those (fun j => flows (xs.getD j 0) a) xs.length) → Q out h') : firebreakref02_Down_w Try.prog l a Q h := by
  unfold firebreakref02_Down_w
  have hlen := r.1
  refine new_row (xs := ([] : List Int)) (enc := fun x => cellsL ((shInt .i64).enc x)) (sz := 1) (Hp.le_refl h) rfl (fun _ => rfl) fun a1 h1 hle1 ho1 => ?_
  refine LoopW2.intro (fun out j k => h ≤ k ∧ 0 ≤ j ∧ j ≤ (xs.length : Int) ∧ OwnI h k out (those (fun j => flows (xs.getD j 0) a) j.toNat)) (fun _ j _ => (xs.length - j).toNat) ⟨hle1, by omega, by omega, ho1⟩ ?_
  rintro out j k ⟨hle, hj0, hj1, ho⟩
  split
  · rename_i e
    have e : j < (l.len : Int) := by simpa using e
    have hjn : (j.toNat : Int) = j := by omega
    have hw : IntKind.wrap .i64 (j + 1) = j + 1 := wrap64 (by omega) (by omega)
    have hs : (j + 1).toNat = j.toNat + 1 := by omega
    have hlt := those_len (fun j => flows (xs.getD j 0) a) j.toNat
    have rk : Us k l xs := r.mono hle
    refine JoinW1.intro (fun out k => h ≤ k ∧ OwnI h k out (those (fun j => flows (xs.getD j 0) a) (j.toNat + 1))) ?_ ?_
    · refine Rs.get rk (fun _ => rfl) (by omega) hj0 (by omega) fun (x : Int) hx => ?_
      refine firebreakref01_Flows_call (refFlows1_ok (hu x (List.mem_of_getElem? hx)) ha ?_)
      have hth := those_succ (fun j => flows (xs.getD j 0) a) j.toNat
      have hg : xs.getD j.toNat 0 = x := by rw [List.getD_eq_getElem?_getD, hx]; rfl
      rw [hjn] at hth
      simp only [hg] at hth
      cases hf : flows x a with
      | true =>
        rw [if_pos rfl]
        rw [hf, if_pos rfl] at hth
        refine push_ok hle ho (by omega) fun out' h' hle' ho' _ => ?_
        rw [hth]
        exact ⟨hle', ho'⟩
      | false =>
        rw [if_neg (by simp)]
        rw [hf, if_neg (by simp), List.append_nil] at hth
        rw [hth]
        exact ⟨hle, ho⟩
    · rintro out' k' ⟨hle', ho'⟩
      rw [hw]
      exact ⟨⟨hle', by omega, by omega, by rw [hs]; exact ho'⟩, by omega⟩
  · rename_i e
    have e : ¬ j < (l.len : Int) := by simpa using e
    refine hq _ _ hle ?_
    have : j.toNat = xs.length := by omega
    rw [← this]
    exact ho

end Lf
