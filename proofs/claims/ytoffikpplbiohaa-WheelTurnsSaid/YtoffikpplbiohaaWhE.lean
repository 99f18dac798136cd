/-
  The reference's wheel.
-/
import Derived.Test.YtoffikpplbiohaaWhD
namespace Lf
open Go Go.Proofs

theorem own_ok {l : Sl} {xs : List Int} {G : List Nat} {Q : Hp → Prop} {h : Hp} (o : OwnF h 1 eI l xs G) (hl : xs.length ≤ 4398046511105) (hq : ∀ G' h', Mv G h G' h' → Q h') : firebreaklaw11_own_w Try.prog l Q h := by
  unfold firebreaklaw11_own_w
  have hlen := o.1
  refine LoopW1.intro (fun i k => ∃ ys, ys.length = xs.length ∧ OwnF k 1 eI l ys G ∧ Mv G h G k ∧ 0 ≤ i ∧ i ≤ (xs.length : Int)) (fun i _ => (xs.length - i).toNat) ⟨xs, rfl, o, Mv.refl _ _, by omega, by omega⟩ ?_
  rintro i k ⟨ys, hy, hk, hm, hi0, hi1⟩
  split
  · rename_i e
    have e : i < (l.len : Int) := by simpa using e
    refine hk.store (fun _ => rfl) hi0 (by omega) (-3 : Int) fun h' o' m' => ?_
    rw [wrap64 (by omega) (by omega)]
    exact ⟨⟨_, by simp [hy], o', hm.trans m', by omega, by omega⟩, by omega⟩
  · refine LoopW2.intro (fun l1 j k' => ∃ ys' G', OwnF k' 1 eI l1 ys' G' ∧ Mv G h G' k' ∧ 0 ≤ j ∧ j ≤ 20 ∧ (ys'.length : Int) = xs.length + j) (fun _ j _ => (20 - j).toNat) ⟨ys, G, hk, hm, by omega, by omega, by omega⟩ ?_
    rintro l1 j k' ⟨ys', G', ok, mk, hj0, hj1, hyl⟩
    split
    · rename_i e
      have e : j < 20 := by simpa using e
      refine newF (xs := [(-4 : Int)]) (enc := eI) (sz := 1) rfl (fun _ => rfl) fun bv h1 hbv l1' m1 o1 => ?_
      refine appF (ok.mv (Mv.of_le [] l1') (by simp)) (o1.rw fun _ => rfl) (fun _ => rfl) (fun _ => rfl) rfl (by simp; omega) fun l' h2 G2 o2 m2 => ?_
      rw [wrap64 (by omega) (by omega)]
      exact ⟨⟨_, G2, o2, mk.trans ((Mv.of_le _ l1').trans m2), by omega, by omega, by simp; omega⟩, by omega⟩
    · exact hq _ _ mk

abbrev eO : S_firebreakref11_One → List Value := fun x => cellsL (sh_firebreakref11_One.enc x)

/-- The reference's wheel in memory. -/
def RefW (h : Hp) (p : Addr) (L : List S_firebreakref11_One) (F : List Nat) : Prop :=
  ∃ (b : Nat) (sl : Sl) (G : List Nat), p = ⟨b, 0, none⟩ ∧ F = b :: G ∧ Blk h b [sl.v] ∧ OwnF h 2 eO sl L G ∧ b ∉ G

theorem RefW.same {h h' : Hp} {p : Addr} {L : List S_firebreakref11_One} {F : List Nat} (w : RefW h p L F) (hs : ∀ b ∈ F, h' b = h b) : RefW h' p L F := by
  obtain ⟨b, sl, G, h1, rfl, h3, h4, h5⟩ := w
  exact ⟨b, sl, G, h1, rfl, h3.same (hs b (by simp)), h4.same (fun c hc => hs c (by simp [hc])), h5⟩

theorem RefW.known {h : Hp} {p : Addr} {L : List S_firebreakref11_One} {F : List Nat} (w : RefW h p L F) : ∀ b ∈ F, h b ≠ none := by
  obtain ⟨b, sl, G, h1, rfl, h3, h4, h5⟩ := w
  intro c hc
  simp only [List.mem_cons] at hc
  rcases hc with rfl | hc
  · exact h3.known
  · exact h4.known c hc

theorem place_ok {p : Addr} {L : List S_firebreakref11_One} {F : List Nat} {id : Int} {Q : Int → Hp → Prop} {h : Hp} (w : RefW h p L F) (hl : L.length ≤ 4398046511105) (h0 : (∀ x ∈ L, x.ID ≠ id) → Q (-1) h)
    (h1 : ∀ (i : Nat) x, L[i]? = some x → x.ID = id → Q (i : Int) h) : firebreakref11_Wheel_place_w Try.prog (some p) id Q h := by
  obtain ⟨b, sl, G, rfl, rfl, h3, h4, h5⟩ := w
  unfold firebreakref11_Wheel_place_w
  have hlen := h4.1
  have rs : Rw h 2 eO sl L := h4.rw fun _ => rfl
  refine LoopW1.intro (fun i k => k = h ∧ 0 ≤ i ∧ i ≤ (L.length : Int) ∧ ∀ x ∈ L.take i.toNat, x.ID ≠ id) (fun i _ => (L.length - i).toNat) ⟨rfl, by omega, by omega, by simp⟩ ?_
  rintro i k ⟨rfl, hi0, hi1, hn⟩
  refine notNil (blk_ld h3 (sh := shSl) sl rfl ?_)
  split
  · rename_i e
    have e : i < (sl.len : Int) := by simpa using e
    refine notNil (blk_ld h3 (sh := shSl) sl rfl ?_)
    refine rs.fld (fun _ => rfl) (by omega) (sh := shInt .i64) (fun x => x.ID) (j := 0) (fun _ => rfl) hi0 (by omega) fun x hx => ?_
    by_cases hid : x.ID = id
    · rw [if_pos (by simpa using hid)]
      have := h1 i.toNat x hx hid
      have e2 : ((i.toNat : Nat) : Int) = i := by omega
      rw [e2] at this
      exact this
    · rw [if_neg (by simpa using hid), wrap64 (by omega) (by omega)]
      refine ⟨⟨rfl, by omega, by omega, fun y hy => ?_⟩, by omega⟩
      have : (i + 1).toNat = i.toNat + 1 := by omega
      rw [this, List.take_add_one, hx] at hy
      rcases List.mem_append.1 hy with hy | hy
      · exact hn y hy
      · have : y = x := by simpa using hy
        rw [this]; exact hid
  · rename_i e
    have e : ¬ i < (sl.len : Int) := by simpa using e
    have : i.toNat = L.length := by omega
    rw [this, List.take_length] at hn
    exact h0 hn

theorem refClear_ok {p : Addr} {L : List S_firebreakref11_One} {F : List Nat} {id : Int} {Q : Bool → Hp → Prop} {h : Hp} (w : RefW h p L F) (hl : L.length ≤ 4398046511105) (h0 : (∀ x ∈ L, x.ID ≠ id) → Q false h)
    (h1 : ∀ (i : Nat) x F' h', L[i]? = some x → x.ID = id → Mv F h F' h' → RefW h' p (L.take i ++ L.drop (i + 1)) F' → Q true h') : firebreakref11_Wheel_Clear_w Try.prog (some p) id Q h := by
  unfold firebreakref11_Wheel_Clear_w
  refine firebreakref11_Wheel_place_call (place_ok w hl (fun hn => ?_) fun i x hi hid => ?_)
  · rw [if_pos (by simp)]
    exact h0 hn
  rw [if_neg (by simp <;> omega)]
  obtain ⟨b, sl, G, rfl, rfl, h3, h4, h5⟩ := w
  have hlen := h4.1
  have hcap := h4.2.1
  have hil := (List.getElem?_eq_some_iff.1 hi).1
  have w1 : IntKind.wrap .i64 ((i : Int) + 1) = ((i + 1 : Nat) : Int) := by rw [wrap64 (by omega) (by omega)]; omega
  have it : (i : Int).toNat = i := by omega
  have it1 : ((i + 1 : Nat) : Int).toNat = i + 1 := by omega
  rw [w1, it, it1]
  refine newF (xs := ([] : List S_firebreakref11_One)) (enc := eO) (sz := 2) rfl (fun _ => rfl) fun ba k1 hba l1 m1 o1 => ?_
  have hbG : ∀ c ∈ b :: G, c ≠ ba := fun c hc e => by
    have : h c ≠ none := by
      simp only [List.mem_cons] at hc
      rcases hc with rfl | hc
      · exact h3.known
      · exact h4.known c hc
    rw [e] at this
    exact this hba
  refine notNil (blk_ld (h3.le l1) (sh := shSl) sl rfl ?_)
  refine ⟨(show (0 : Int) ≤ (i : Int) ∧ (i : Int) ≤ (sl.cap : Int) by omega), letW ?_⟩
  have rs1 : Rw k1 2 eO sl L := (h4.rw fun _ => rfl).mono l1
  refine appF o1 (rs1.head (fun _ => rfl) (b := i) (by omega) (by omega) (by omega)) (fun _ => rfl) (fun _ => rfl) rfl (by simp; omega) fun l2 k2 G2 o2 m2 => ?_
  have hG2 : ∀ c ∈ b :: G, c ∉ G2 := fun c hc hc2 => by
    rcases m2.from_ c hc2 with q | q
    · simp at q
      exact hbG c hc q
    · have : k1 c ≠ none := by
        simp only [List.mem_cons] at hc
        rcases hc with rfl | hc
        · exact (h3.le l1).known
        · exact (h4.mv (Mv.of_le [] l1) (by simp)).known c hc
      exact this q
  have kb2 : Blk k2 b [sl.v] := (h3.le l1).mv m2 (by simp; exact hbG b (by simp))
  have o4 : OwnF k2 2 eO sl L G := (h4.mv (Mv.of_le [] l1) (by simp)).mv m2 (fun c hc => by simp; exact hbG c (by simp [hc]))
  refine notNil (blk_ld kb2 (sh := shSl) sl rfl ?_)
  refine ⟨by omega, letW ?_⟩
  have rt : Rw k2 2 eO ⟨sbase sl.base 2 (i + 1) sl.cap, sl.len - (i + 1), sl.cap - (i + 1)⟩ (L.drop (i + 1)) := by
    have := (o4.rw fun _ => rfl).cut (fun _ => rfl) (a := i + 1) (b := L.length) (c := sl.cap) (n := sl.len - (i + 1)) (m := sl.cap - (i + 1)) (by omega) (Nat.le_refl _) (by omega) (by omega)
    rw [List.take_of_length_le (by simp)] at this
    exact this
  refine appF o2 rt (fun _ => rfl) (fun _ => rfl) rfl (by simp; omega) fun l5 k5 G5 o5 m5 => ?_
  have hG5 : ∀ c ∈ b :: G, c ∉ G5 := fun c hc hc2 => by
    rcases m5.from_ c hc2 with q | q
    · exact hG2 c hc q
    · have : k2 c ≠ none := by
        simp only [List.mem_cons] at hc
        rcases hc with rfl | hc
        · exact kb2.known
        · exact o4.known c hc
      exact this q
  have kb5 : Blk k5 b [sl.v] := kb2.mv m5 (hG2 b (by simp))
  refine notNil ?_
  refine stW_blk (b := b) (off := 0) kb5 (by simp) fun k6 m6 kb6 => ?_
  have kb6' : Blk k6 b [l5.v] := by simpa using kb6
  have o6 : OwnF k6 2 eO l5 (L.take i ++ L.drop (i + 1)) G5 := by
    have := o5.mv m6 (fun c hc => by simp; exact fun e => hG5 b (by simp) (e ▸ hc))
    simpa using this
  refine h1 i x (b :: G5) k6 hi hid ?_ ⟨b, l5, G5, rfl, rfl, kb6', o6, hG5 b (by simp)⟩
  have q1 : Mv (b :: G) h (b :: (G ++ [ba])) k1 := m1.sub (fun c hc => by cases hc) fun c hc => by
    simp only [List.mem_cons, List.mem_append] at hc ⊢
    rcases hc with h | h | h
    · exact .inr (.inl (.inl h))
    · exact .inr (.inl (.inr h))
    · exact .inl h
  have q2 : Mv (b :: (G ++ [ba])) k1 (b :: (G ++ G2)) k2 := m2.sub (fun c hc => by simp at hc; simp [hc]) fun c hc => by
    simp only [List.mem_cons, List.mem_append] at hc ⊢
    rcases hc with h | h | h
    · exact .inr (.inl (.inl h))
    · exact .inr (.inl (.inr (.inl h)))
    · exact .inl h
  have q3 : Mv (b :: (G ++ G2)) k2 (b :: (G ++ G5)) k5 := m5.sub (fun c hc => by simp [hc]) fun c hc => by
    simp only [List.mem_cons, List.mem_append] at hc ⊢
    rcases hc with h | h | h
    · exact .inr (.inl (.inl h))
    · exact .inr (.inl (.inr (.inl h)))
    · exact .inl h
  have q4 : Mv (b :: (G ++ G5)) k5 (b :: G5) k6 := m6.sub (fun c hc => by simp at hc; simp [hc]) fun c hc => by
    simp only [List.mem_cons, List.mem_append] at hc ⊢
    rcases hc with h | h
    · exact .inr (.inl (.inl h))
    · exact .inr (.inl (.inr (.inr h)))
  exact q1.trans (q2.trans (q3.trans q4))

end Lf
