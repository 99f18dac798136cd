/-
  A table is made.
-/
import Derived.Test.YtoffikpplbiohaaTbG
import Derived.Test.YtoffikpplbiohaaLfMem
namespace Lf
open Go Go.Proofs

theorem clone_ok {s : Sl} {xs : List Int} {Q : Sl → Hp → Prop} {h : Hp} (r : Us h s xs) (hl : xs.length ≤ 1000000) (hq : ∀ out h', h ≤ h' → OwnU h h' out xs → Q out h') : slices_Clone_uint64_uint64_w Try.prog s Q h := by
  unfold slices_Clone_uint64_uint64_w
  refine ⟨s.base.isNone, semIs_nilSl (tb_ok.und 23 ty23 rfl) s, ?_⟩
  cases hb : s.base with
  | none =>
    rw [if_pos (show (none : Option Addr).isNone = true from rfl)]
    have : xs = [] := by
      rcases r.2.2 with e | ⟨a, ha, _⟩
      · exact List.length_eq_zero_iff.1 (by omega)
      · rw [hb] at ha; cases ha
    subst this
    exact hq _ h (Hp.le_refl h) ⟨rfl, Nat.le_refl _, .inl ⟨rfl, rfl⟩⟩
  | some a =>
    rw [if_neg (by simp)]
    refine new_row (xs := ([] : List Int)) (enc := fun x => cellsL ((shInt .u64).enc x)) (sz := 1) (Hp.le_refl h) rfl (fun _ => rfl) fun a h1 hle1 ho1 => ?_
    refine app_own hle1 ho1 (Rw.mono hle1 r) (fun _ => rfl) (fun _ => rfl) rfl ?_ fun l' h' hle' hown _ => ?_
    · simp; omega
    · exact hq l' h' hle' hown

theorem place_take {ls : List Int} (hn : ls.Pairwise (· < ·)) {t : Nat} {x : Int} (hx : ls[t]? = some x) : x ∉ ls.take t := by
  intro hm
  obtain ⟨i, hi⟩ := List.mem_iff_getElem?.1 hm
  rw [List.getElem?_take] at hi
  split at hi
  · rename_i hlt
    obtain ⟨h1, e1⟩ := List.getElem?_eq_some_iff.1 hi
    obtain ⟨h2, e2⟩ := List.getElem?_eq_some_iff.1 hx
    have := List.pairwise_iff_getElem.1 hn i t h1 h2 hlt
    omega
  · cases hi

theorem new_ok {l : Sl} {ls : List Int} {Q : Option Addr → Int → Int → Hp → Prop} {h : Hp} (r : Us h l ls) (hl : ls.length ≤ 8) (asc : ls.Pairwise (· < ·)) (h0 : ls = [] → Q none 1 0 h)
    (h1 : ls ≠ [] → ∀ p h', h ≤ h' → Tab h' p ls → Q (some p) 0 0 h') : table_New_w Try.prog l Q h := by
  unfold table_New_w
  refine table_May_call (may_ok r hl asc (fun e => ?_) (fun e => ?_))
  · rw [if_pos (by simp)]
    exact h0 e
  rw [if_neg (by simp)]
  refine slices_Clone_uint64_uint64_call (clone_ok r (by omega) fun out k1 hle1 ho1 => ?_)
  intro m hm
  have hle2 : k1 ≤ k1.set m (.map #[] 0) := set_new hm
  intro b t hb
  have hle3 := set_new (o := .cells (([out.v, .map (some m)] : List Value).toArray) t (0, 0)) hb
  have hm0 : h m = none := none_of_le hle1 hm
  have hbm : b ≠ m := fun e => by rw [e, set_self] at hb; cases hb
  have rout : Us k1 out ls := ho1.rw fun _ => rfl
  refine ⟨_, rfl, out, ?_, ?_⟩
  · intro i v hv
    cases i with
    | zero =>
      rw [add_add]
      exact ldIs_new 0 v (by simpa [cellsL, Sl.v] using hv)
    | succ i => simp [cellsL] at hv
  refine LoopW1.intro (fun i k => h ≤ k ∧ 0 ≤ i ∧ i ≤ (ls.length : Int) ∧ Us k out ls ∧ LdIs k ⟨b, 0, none⟩ [out.v, .map (some m)] ∧ k m = some (.map (ents (ls.take i.toNat) 0).toArray i.toNat)) (fun i _ => (ls.length - i).toNat)
    ⟨Hp.le_trans hle1 (Hp.le_trans hle2 hle3), by omega, by omega, Rw.mono (Hp.le_trans hle2 hle3) rout, ldIs_new, hle3 _ _ set_self⟩ ?_
  rintro i k ⟨hk, hi0, hi1, hr, hp, hmk⟩
  have hlen := hr.1
  split
  · rename_i e
    have e : i < (out.len : Int) := by simpa using e
    refine Rs.get hr (fun _ => rfl) (by omega) hi0 (by omega) fun (x : Int) hx => ?_
    refine ⟨_, rfl, some m, ?_, ?_⟩
    · intro j v hv
      cases j with
      | zero =>
        have := hp 1 v (by simpa [cellsL] using hv)
        rw [add_add]
        exact this
      | succ j => simp [cellsL] at hv
    have hlt : (ls.take i.toNat).length = i.toNat := by rw [List.length_take]; omega
    refine ⟨m, _, _, rfl, hmk, .inl ⟨?_, ?_⟩⟩
    · have := find_ents x (ls.take i.toNat) 0
      rw [place_none (place_take asc hx)] at this
      exact this
    · have hck : ∀ o, CKeep k (k.set m o) := fun o => ck_set hmk rfl
      rw [wrap64 (by omega) (by omega)]
      refine ⟨⟨set_over hk hm0, by omega, by omega, Rw.ck (hck _) hr, ldIs_ck (hck _) hp, ?_⟩, by omega⟩
      rw [set_self]
      have e1 : (i + 1).toNat = i.toNat + 1 := by omega
      have e2 : ls.take (i.toNat + 1) = ls.take i.toNat ++ [x] := by rw [List.take_add_one, hx]; rfl
      rw [e1, e2, ents_snoc, hlt]
      have e3 : ((0 + i.toNat : Nat) : Int) = i := by omega
      rw [e3, Nat.zero_add, List.push_toArray]
  · rename_i e2
    have e2 : ¬ i < (out.len : Int) := by simpa using e2
    have e3 : i.toNat = ls.length := by omega
    rw [e3, List.take_length] at hmk
    exact h1 e _ _ hk ⟨out, m, hp, hr, hmk⟩

end Lf
