/-
  Lists that a table gives.
-/
import Derived.Test.YtoffikpplbiohaaTbH
namespace Lf
open Go Go.Proofs

theorem those_ok {p : Addr} {ls : List Int} {is : Leaf} {f : Nat → Bool} {Q : Sl → Hp → Prop} {h : Hp} (t : Tab h p ls) (hl : ls.length ≤ 100000)
    (hc : ∀ (j : Nat) (Q : Bool → Hp → Prop) (k : Hp), h ≤ k → j < ls.length → Q (f j) k → CallV Try.prog tb is.v [.int .i64 (j : Int)] shBool Q k)
    (hq : ∀ out h', h ≤ h' → OwnI h h' out (those f ls.length) → Q out h') : table_Table_those_w Try.prog (some p) is Q h := by
  unfold table_Table_those_w
  refine notNil (t.sl fun sl hs => ?_)
  have hlen := hs.1
  refine LoopW2.intro (fun out j k => h ≤ k ∧ 0 ≤ j ∧ j ≤ (ls.length : Int) ∧ OwnI h k out (those f j.toNat)) (fun _ j _ => (ls.length - j).toNat) ⟨Hp.le_refl h, by omega, by omega, rfl, Nat.le_refl _, .inl ⟨rfl, rfl⟩⟩ ?_
  rintro out j k ⟨hle, hj0, hj1, ho⟩
  split
  · rename_i e
    have e : j < (sl.len : Int) := by simpa using e
    have hjn : (j.toNat : Int) = j := by omega
    have hs' : (j + 1).toNat = j.toNat + 1 := by omega
    have hlt := those_len f j.toNat
    refine JoinW1.intro (fun out k => h ≤ k ∧ OwnI h k out (those f (j.toNat + 1))) ?_ ?_
    · have hcc := hc j.toNat
      rw [hjn] at hcc
      refine hcc _ k hle (by omega) ?_
      have hth := those_succ f j.toNat
      rw [hjn] at hth
      cases hf : f j.toNat with
      | true =>
        rw [if_pos rfl]
        rw [hf, if_pos rfl] at hth
        refine push_ok hle ho (by omega) fun out' h' hle' ho' _ => ?_
        rw [hth]
        exact ⟨hle', ho'⟩
      | false =>
        rw [if_neg (by simp)]
        rw [hf, if_neg (by simp), List.append_nil] at hth
        rw [hth]
        exact ⟨hle, ho⟩
    · rintro out' k' ⟨hle', ho'⟩
      rw [wrap64 (by omega) (by omega)]
      exact ⟨⟨hle', by omega, by omega, by rw [hs']; exact ho'⟩, by omega⟩
  · rename_i e
    have e : ¬ j < (sl.len : Int) := by simpa using e
    refine hq _ _ hle ?_
    have : j.toNat = ls.length := by omega
    rw [← this]
    exact ho

theorem ld_new {h : Hp} {b t : Nat} {sh : Shape} {x : sh.T} {K : sh.T → Prop} {h' : Hp} (hl : h.set b (.cells (cellsL (sh.enc x)).toArray t (0, 0)) ≤ h') (hk : K x) : LdW none sh h' ⟨b, 0, none⟩ K :=
  ⟨x, ldIs_mono hl ldIs_new, hk⟩

theorem own_start {α : Type} {h0 h1 h : Hp} {sz : Nat} {enc : α → List Value} {l : Sl} {xs : List α} (hle : h0 ≤ h1) (o : Own h1 h sz enc l xs) : Own h0 h sz enc l xs := by
  obtain ⟨h1, h2, h3⟩ := o
  refine ⟨h1, h2, h3.imp id ?_⟩
  rintro ⟨b, cs, t, e1, e2, e3, e4, e5⟩
  exact ⟨b, cs, t, e1, e2, e3, e4, none_of_le hle e5⟩

theorem tabUp_ok {p : Addr} {ls : List Int} {i : Int} {Q : Sl → Hp → Prop} {h : Hp} (t : Tab h p ls) (hu : ∀ x ∈ ls, InU x) (hl : ls.length ≤ 100000)
    (hq : ∀ out h', h ≤ h' → OwnI h h' out (those (fun j => fl ls i j) ls.length) → Q out h') : table_Table_Up_w Try.prog (some p) i Q h := by
  unfold table_Table_Up_w
  intro b1 t1 hb1
  have l1 := set_new (o := .cells (([.pointer (some p)] : List Value).toArray) t1 (0, 0)) hb1
  intro b2 t2 hb2
  have l2 := set_new (o := .cells (([.int .i64 i] : List Value).toArray) t2 (0, 0)) hb2
  refine ld_new (sh := shPtr) (x := some p) l2 ?_
  refine table_Table_those_call (is := ⟨.func (.func 39) #[] #[.pointer (some ⟨b1, 0, none⟩), .pointer (some ⟨b2, 0, none⟩)], rfl⟩) (those_ok (f := fun j => fl ls i j) (t.mono (Hp.le_trans l1 l2)) hl (fun j Q k hk hj hQ => ?_) fun out h' hle ho => hq out h' (Hp.le_trans (Hp.le_trans l1 l2) hle) (own_start (Hp.le_trans l1 l2) ho))
  refine ⟨39, #[], _, rfl, rfl, table_Table_Up_1_call (j := (j : Int)) (a1 := ⟨b1, 0, none⟩) (a2 := ⟨b2, 0, none⟩) ?_⟩
  unfold table_Table_Up_1_w
  refine ld_new (sh := shPtr) (x := some p) (Hp.le_trans l2 hk) (ld_new (sh := shInt .i64) (x := i) hk ?_)
  exact table_Table_Flows_call (tabFlows_ok (t.mono (Hp.le_trans (Hp.le_trans l1 l2) hk)) hu hQ)

theorem tabDown_ok {p : Addr} {ls : List Int} {a : Int} {Q : Sl → Hp → Prop} {h : Hp} (t : Tab h p ls) (hu : ∀ x ∈ ls, InU x) (ha : InU a) (hl : ls.length ≤ 100000)
    (hq : ∀ out h', h ≤ h' → OwnI h h' out (those (fun j => flows (ls.getD j 0) a) ls.length) → Q out h') : table_Table_Down_w Try.prog (some p) a Q h := by
  unfold table_Table_Down_w
  intro b1 t1 hb1
  have l1 := set_new (o := .cells (([.pointer (some p)] : List Value).toArray) t1 (0, 0)) hb1
  intro b2 t2 hb2
  have l2 := set_new (o := .cells (([.int .u64 a] : List Value).toArray) t2 (0, 0)) hb2
  refine ld_new (sh := shPtr) (x := some p) l2 ?_
  refine table_Table_those_call (is := ⟨.func (.func 42) #[] #[.pointer (some ⟨b1, 0, none⟩), .pointer (some ⟨b2, 0, none⟩)], rfl⟩) (those_ok (f := fun j => flows (ls.getD j 0) a) (t.mono (Hp.le_trans l1 l2)) hl (fun j Q k hk hj hQ => ?_) fun out h' hle ho => hq out h' (Hp.le_trans (Hp.le_trans l1 l2) hle) (own_start (Hp.le_trans l1 l2) ho))
  refine ⟨42, #[], _, rfl, rfl, table_Table_Down_1_call (i := (j : Int)) (a1 := ⟨b1, 0, none⟩) (a2 := ⟨b2, 0, none⟩) ?_⟩
  unfold table_Table_Down_1_w
  refine ld_new (sh := shPtr) (x := some p) (Hp.le_trans l2 hk) (notNil ((t.mono (Hp.le_trans (Hp.le_trans l1 l2) hk)).sl fun sl hs => ?_))
  refine Rs.get hs (fun _ => rfl) (by omega) (by omega) (by omega) fun (x : Int) hx => ?_
  refine ld_new (sh := shInt .u64) (x := a) hk ?_
  have hx' : ls[j]? = some x := hx
  have hg : ls.getD j 0 = x := by rw [List.getD_eq_getElem?_getD, hx']; rfl
  refine label_Flows_call (labelFlows_ok (hu x (List.mem_of_getElem? hx)) ha ?_)
  rw [← hg]
  exact hQ

theorem refIndex_ok {l : Sl} {xs : List Int} {a : Int} {Q : Int → Bool → Hp → Prop} {h : Hp} (r : Us h l xs) (hl : xs.length ≤ 100000) (h0 : place a xs 0 = none → Q 0 false h) (h1 : ∀ k, place a xs 0 = some k → Q (k : Int) true h) :
    firebreakref02_Index_w Try.prog l a Q h := by
  unfold firebreakref02_Index_w
  have hlen := r.1
  refine LoopW1.intro (fun i k => k = h ∧ 0 ≤ i ∧ i ≤ (xs.length : Int) ∧ place a xs 0 = place a (xs.drop i.toNat) i.toNat) (fun i _ => (xs.length - i).toNat) ⟨rfl, by omega, by omega, rfl⟩ ?_
  rintro i k ⟨rfl, hi0, hi1, hp⟩
  split
  · rename_i e
    have e : i < (l.len : Int) := by simpa using e
    refine Rs.get r (fun _ => rfl) (by omega) hi0 (by omega) fun (x : Int) hx => ?_
    have hd : xs.drop i.toNat = x :: xs.drop (i.toNat + 1) := by
      obtain ⟨h3, h4⟩ := List.getElem?_eq_some_iff.1 hx
      rw [List.drop_eq_getElem_cons h3, h4]
    rw [hd] at hp
    simp only [place] at hp
    by_cases hxa : x = a
    · rw [if_pos (by simpa using hxa)]
      rw [if_pos hxa.symm] at hp
      have := h1 _ hp
      have e2 : (i.toNat : Int) = i := by omega
      rw [e2] at this
      exact this
    · rw [if_neg (by simpa using hxa), wrap64 (by omega) (by omega)]
      rw [if_neg fun e => hxa e.symm] at hp
      have e1 : (i + 1).toNat = i.toNat + 1 := by omega
      exact ⟨⟨rfl, by omega, by omega, by rw [e1]; exact hp⟩, by omega⟩
  · rename_i e
    have e : ¬ i < (l.len : Int) := by simpa using e
    rw [List.drop_eq_nil_of_le (by omega)] at hp
    exact h0 hp

theorem wide_ok {l : Sl} {xs : List Int} {Q : Sl → Hp → Prop} {h : Hp} (r : Us h l xs) (hl : xs.length ≤ 100000) (hq : ∀ out h', h ≤ h' → Us h' out xs → Q out h') : firebreaklaw02_wide_w Try.prog l Q h := by
  unfold firebreaklaw02_wide_w
  have hlen := r.1
  have hw : IntKind.wrap .i64 ((l.len : Int) + 3) = (l.len : Int) + 3 := wrap64 (by omega) (by omega)
  rw [hw]
  refine ⟨by omega, fun b t hb => ?_⟩
  have hle := set_new (o := .cells (zerosL [Value.int .u64 0] ((l.len : Int) + 3).toNat).toArray t (0, 0)) hb
  have ho : OwnU h (h.set b (.cells (zerosL [Value.int .u64 0] ((l.len : Int) + 3).toNat).toArray t (0, 0))) ⟨some ⟨b, 0, none⟩, (0 : Int).toNat, ((l.len : Int) + 3).toNat⟩ [] := by
    refine ⟨rfl, Nat.zero_le _, .inr ⟨b, _, t, rfl, set_self, ?_, by simp, hb⟩⟩
    simp [zerosL]
  refine app_own hle ho (Rw.mono hle r) (fun _ => rfl) (fun _ => rfl) rfl (by simp; omega) fun l1 h1 hle1 ho1 _ => ?_
  refine new_row (xs := ([161, 162, 163] : List Int)) (enc := fun x => cellsL ((shInt .u64).enc x)) (sz := 1) (h0 := h) hle1 rfl (fun _ => rfl) fun a2 h2 hle2 ho2 => ?_
  refine app_own (Hp.le_trans hle1 hle2) (ho1.mono hle2) (ho2.rw fun _ => rfl) (fun _ => rfl) (fun _ => rfl) rfl (by simp; omega) fun l3 h3 hle3 ho3 _ => ?_
  have h3l := ho3.1
  have h3c := ho3.2.1
  simp at h3l
  refine ⟨by omega, letW (hq _ _ hle3 ?_)⟩
  have r3 : Us h3 l3 (xs ++ [161, 162, 163]) := by simpa using ho3.rw fun _ => rfl
  refine ⟨by show (l.len : Int).toNat - 0 = _; omega, ?_⟩
  obtain ⟨_, r4, r5⟩ := r3
  refine ⟨flat_len (enc := fun x => cellsL ((shInt .u64).enc x)) (fun _ => rfl) xs, .inr ?_⟩
  rcases r5 with e | ⟨a, ha, hr⟩
  · simp at e
  · have hb : sbase l3.base 1 0 l3.cap = some a := by
      unfold sbase
      rw [if_neg (by omega), ha]
      rfl
    refine ⟨a, hb, fun i v hv => hr i v ?_⟩
    rw [List.flatMap_append, List.getElem?_append_left]
    · exact hv
    · exact (List.getElem?_eq_some_iff.1 hv).1

end Lf
