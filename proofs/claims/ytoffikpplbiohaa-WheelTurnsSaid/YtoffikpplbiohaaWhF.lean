/-
  The reference's wheel: Set, Due, Next, Pop.
-/
import Derived.Test.YtoffikpplbiohaaWhE
namespace Lf
open Go Go.Proofs

theorem split_at {α : Type} {L : List α} {i : Nat} {x : α} (h : L[i]? = some x) : L = L.take i ++ x :: L.drop (i + 1) := by
  have hd : L.drop i = x :: L.drop (i + 1) := by
    obtain ⟨q1, q2⟩ := List.getElem?_eq_some_iff.1 h
    rw [List.drop_eq_getElem_cons q1, q2]
  rw [← hd, List.take_append_drop]

theorem rest_mem {L : List S_firebreakref11_One} (hn : (L.map (·.ID)).Nodup) {i : Nat} {x : S_firebreakref11_One} (h : L[i]? = some x) (y : S_firebreakref11_One) : y ∈ L.take i ++ L.drop (i + 1) ↔ y ∈ L ∧ y.ID ≠ x.ID := by
  have hs := split_at h
  have hn' := hn
  rw [hs, List.map_append, List.map_cons] at hn'
  obtain ⟨n1, n2, n3⟩ := List.nodup_append.1 hn'
  obtain ⟨n4, n5⟩ := List.nodup_cons.1 n2
  constructor
  · intro hy
    refine ⟨by rw [hs]; rcases List.mem_append.1 hy with hy | hy <;> simp [hy], fun e => ?_⟩
    rcases List.mem_append.1 hy with hy | hy
    · exact n3 y.ID (List.mem_map_of_mem (f := (·.ID)) hy) x.ID (List.mem_cons_self ..) e
    · exact n4 (e ▸ List.mem_map_of_mem (f := (·.ID)) hy)
  · rintro ⟨hy, hne⟩
    rw [hs] at hy
    rcases List.mem_append.1 hy with hy | hy
    · exact List.mem_append_left _ hy
    · rcases List.mem_cons.1 hy with rfl | hy
      · exact absurd rfl hne
      · exact List.mem_append_right _ hy

theorem rest_nodup {L : List S_firebreakref11_One} (hn : (L.map (·.ID)).Nodup) (i : Nat) : ((L.take i ++ L.drop (i + 1)).map (·.ID)).Nodup := by
  refine hn.sublist ?_
  have : (L.take i ++ L.drop (i + 1)).Sublist (L.take i ++ L.drop i) := by
    refine List.Sublist.append (List.Sublist.refl _) ?_
    rw [← List.drop_drop]
    exact List.drop_sublist 1 _
  rw [List.take_append_drop] at this
  exact this.map _

theorem refDue_ok {p : Addr} {L : List S_firebreakref11_One} {F : List Nat} {id : Int} {Q : Int → Bool → Hp → Prop} {h : Hp} (w : RefW h p L F) (hl : L.length ≤ 4398046511105) (h0 : (∀ x ∈ L, x.ID ≠ id) → Q 0 false h) (h1 : ∀ x ∈ L, x.ID = id → Q x.Due true h) :
    firebreakref11_Wheel_Due_w Try.prog (some p) id Q h := by
  unfold firebreakref11_Wheel_Due_w
  refine firebreakref11_Wheel_place_call (place_ok w hl (fun hn => ?_) fun i x hi hid => ?_)
  · rw [if_pos (by simp)]
    exact h0 hn
  rw [if_neg (by simp <;> omega)]
  obtain ⟨b, sl, G, rfl, rfl, h3, h4, h5⟩ := w
  have hil := (List.getElem?_eq_some_iff.1 hi).1
  refine notNil (blk_ld h3 (sh := shSl) sl rfl ?_)
  refine (h4.rw fun _ => rfl).fld (fun _ => rfl) (by omega) (sh := shInt .i64) (fun x => x.Due) (j := 1) (fun _ => rfl) (show (0 : Int) ≤ (i : Int) by omega) (show (i : Int) < (L.length : Int) by omega) fun y hy => ?_
  have : x = y := by
    have e : ((i : Nat) : Int).toNat = i := by omega
    have hy' : L[((i : Nat) : Int).toNat]? = some y := hy
    rw [e, hi] at hy'
    exact Option.some.inj hy'
  subst this
  exact h1 x (List.mem_of_getElem? hi) hid

theorem refSet_ok {p : Addr} {L : List S_firebreakref11_One} {F : List Nat} {id due : Int} {Q : Int → Hp → Prop} {h : Hp} (w : RefW h p L F) (hl : L.length ≤ 4398046511104) (hn : (L.map (·.ID)).Nodup) (h0 : id < 0 ∨ due < 0 → Q 1 h)
    (h1 : 0 ≤ id → 0 ≤ due → ∀ L' F' h', Mv F h F' h' → RefW h' p L' F' → (L'.map (·.ID)).Nodup → (∀ x, x ∈ L' ↔ x = ⟨id, due⟩ ∨ (x ∈ L ∧ x.ID ≠ id)) → Q 0 h') : firebreakref11_Wheel_Set_w Try.prog (some p) id due Q h := by
  unfold firebreakref11_Wheel_Set_w
  refine letW ?_
  by_cases hneg : id < 0 ∨ due < 0
  · rw [if_pos (by simpa using hneg)]
    exact h0 hneg
  rw [if_neg (by simp; omega)]
  have core : ∀ (L1 : List S_firebreakref11_One) (F1 : List Nat) (k : Hp), Mv F h F1 k → RefW k p L1 F1 → (L1.map (·.ID)).Nodup → (∀ x, x ∈ L1 ↔ (x ∈ L ∧ x.ID ≠ id)) → L1.length ≤ L.length →
      NilW none (some p) fun p0 => LdW none shSl k (Addr.add p0 0) fun x =>
      NewW [(.int .i64 id), (.int .i64 due)] (fun a h2 =>
      AppendW 2 16 [(.int .i64 (0 : Int)), (.int .i64 (0 : Int))] x ⟨(some a), 1, 1⟩ (fun r1 h3 =>
      NilW none (some p) fun p1 => StW h3 (Addr.add p1 0) [r1.v] (fun h4 => Q (0 : Int) h4)) h2) k := by
    intro L1 F1 k mk wk hn1 hmem hel
    obtain ⟨b, sl, G, rfl, rfl, k3, k4, k5⟩ := wk
    refine notNil (blk_ld k3 (sh := shSl) sl rfl ?_)
    refine newF (xs := [(⟨id, due⟩ : S_firebreakref11_One)]) (enc := eO) (sz := 2) rfl (fun _ => rfl) fun bv h2 hbv l2 m2 o2 => ?_
    refine appF (k4.mv (Mv.of_le [] l2) (by simp)) (o2.rw fun _ => rfl) (fun _ => rfl) (fun _ => rfl) rfl (by simp; omega) fun l' h3 G' o3 m3 => ?_
    have hbG : b ∉ G' := fun hc => by
      rcases m3.from_ b hc with q | q
      · exact k5 q
      · exact (k3.le l2).known q
    have kb3 : Blk h3 b [sl.v] := (k3.le l2).mv m3 k5
    refine notNil ?_
    refine stW_blk (b := b) (off := 0) kb3 (by simp) fun h4 m4 kb4 => ?_
    have kb4' : Blk h4 b [l'.v] := by simpa using kb4
    refine h1 (by omega) (by omega) (L1 ++ [⟨id, due⟩]) (b :: G') h4 ?_ ⟨b, l', G', rfl, rfl, kb4', o3.mv m4 (fun c hc => by simp; exact fun e => hbG (e ▸ hc)), hbG⟩ ?_ ?_
    · have q1 : Mv (b :: G) k (b :: G) h2 := Mv.of_le _ l2
      have q2 : Mv (b :: G) h2 (b :: G') h3 := m3.sub (fun c hc => by simp [hc]) fun c hc => by
        simp only [List.mem_cons] at hc
        rcases hc with rfl | hc
        · exact .inr (.inl (by simp))
        · exact .inl hc
      have q3 : Mv (b :: G') h3 (b :: G') h4 := m4.sub (fun c hc => by simp at hc; simp [hc]) fun c hc => .inr (.inl hc)
      exact mk.trans (q1.trans (q2.trans q3))
    · rw [List.map_append]
      refine List.nodup_append.2 ⟨hn1, by simp, fun a ha c hc e => ?_⟩
      simp at hc
      subst hc
      subst e
      obtain ⟨x, hx, hxa⟩ := List.mem_map.1 ha
      exact ((hmem x).1 hx).2 hxa
    · intro x
      rw [List.mem_append, hmem x, List.mem_singleton]
      exact Or.comm
  refine firebreakref11_Wheel_Clear_call (refClear_ok w (by omega) (fun hno => ?_) fun i x F' h' hi hid m' w' => ?_)
  · exact core L F h (Mv.refl _ _) w hn (fun x => ⟨fun hx => ⟨hx, hno x hx⟩, fun hx => hx.1⟩) (Nat.le_refl _)
  · have hil := (List.getElem?_eq_some_iff.1 hi).1
    refine core _ F' h' m' w' (rest_nodup hn i) (fun y => ?_) (by simp; omega)
    rw [rest_mem hn hi y, hid]

def ltO (a b : S_firebreakref11_One) : Prop := a.Due < b.Due ∨ a.Due = b.Due ∧ a.ID < b.ID

set_option maxHeartbeats 1000000 in
theorem first_ok {p : Addr} {L : List S_firebreakref11_One} {F : List Nat} {Q : Int → Hp → Prop} {h : Hp} (w : RefW h p L F) (hl : L.length ≤ 4398046511105) (hne : L ≠ [])
    (hq : ∀ (k : Nat) x, L[k]? = some x → (∀ y ∈ L, ¬ ltO y x) → Q (k : Int) h) : firebreakref11_Wheel_first_w Try.prog (some p) Q h := by
  obtain ⟨b, sl, G, rfl, rfl, h3, h4, h5⟩ := w
  unfold firebreakref11_Wheel_first_w
  have hlen := h4.1
  have rs : Rw h 2 eO sl L := h4.rw fun _ => rfl
  have hpos : 0 < L.length := List.length_pos_iff.2 hne
  refine LoopW2.intro (fun k i h' => h' = h ∧ 0 ≤ i ∧ i ≤ (L.length : Int) ∧ 0 ≤ k ∧ k < (L.length : Int) ∧ ∀ x, L[k.toNat]? = some x → ∀ y ∈ L.take i.toNat, ¬ ltO y x) (fun _ i _ => (L.length - i).toNat) ⟨rfl, by omega, by omega, by omega, by omega, by simp⟩ ?_
  rintro k i h' ⟨rfl, hi0, hi1, hk0, hk1, hmin⟩
  refine notNil (blk_ld h3 (sh := shSl) sl rfl ?_)
  split
  · rename_i e
    have e : i < (sl.len : Int) := by simpa using e
    refine JoinW1.intro (fun k' h2 => h2 = h' ∧ 0 ≤ k' ∧ k' < (L.length : Int) ∧ ∀ x, L[k'.toNat]? = some x → ∀ y ∈ L.take (i.toNat + 1), ¬ ltO y x) ?_ ?_
    · refine notNil (blk_ld h3 (sh := shSl) sl rfl ?_)
      refine rs.fld (fun _ => rfl) (by omega) (sh := shInt .i64) (fun x => x.Due) (j := 1) (fun _ => rfl) hi0 (by omega) fun xi hxi => ?_
      refine notNil (blk_ld h3 (sh := shSl) sl rfl ?_)
      refine rs.fld (fun _ => rfl) (by omega) (sh := shInt .i64) (fun x => x.Due) (j := 1) (fun _ => rfl) hk0 hk1 fun xk hxk => ?_
      refine ⟨_, fun _ => rfl, blk_ldC h3 (sh := shSl) sl rfl ?_⟩
      refine rs.fldC (fun _ => rfl) (by omega) (sh := shInt .i64) (fun x => x.Due) (j := 1) (fun _ => rfl) (0 : Int) (fun _ => ⟨hi0, by omega⟩) fun (x6 : Int) h6 => ?_
      refine ⟨_, fun _ => rfl, blk_ldC h3 (sh := shSl) sl rfl ?_⟩
      refine rs.fldC (fun _ => rfl) (by omega) (sh := shInt .i64) (fun x => x.Due) (j := 1) (fun _ => rfl) (0 : Int) (fun _ => ⟨hk0, hk1⟩) fun (x8 : Int) h8 => ?_
      refine ⟨_, fun _ => rfl, blk_ldC h3 (sh := shSl) sl rfl ?_⟩
      refine rs.fldC (fun _ => rfl) (by omega) (sh := shInt .i64) (fun x => x.ID) (j := 0) (fun _ => rfl) (0 : Int) (fun _ => ⟨hi0, by omega⟩) fun (x10 : Int) h10 => ?_
      refine ⟨_, fun _ => rfl, blk_ldC h3 (sh := shSl) sl rfl ?_⟩
      refine rs.fldC (fun _ => rfl) (by omega) (sh := shInt .i64) (fun x => x.ID) (j := 0) (fun _ => rfl) (0 : Int) (fun _ => ⟨hk0, hk1⟩) fun (x12 : Int) h12 => ?_
      refine letW (letW ?_)
      have hcond : (decide (xi.Due < xk.Due) || ((x6 == x8) && decide (x10 < x12))) = true ↔ ltO xi xk := by
        unfold ltO
        cases hlt : decide (xi.Due < xk.Due) with
        | true =>
          have : xi.Due < xk.Due := by simpa using hlt
          simp [this]
        | false =>
          have hnl : ¬ xi.Due < xk.Due := by simpa using hlt
          obtain ⟨xa, hxa, e6⟩ := h6 (by rw [hlt]; rfl)
          obtain ⟨xb, hxb, e8⟩ := h8 (by rw [hlt]; rfl)
          rw [hxi] at hxa
          rw [hxk] at hxb
          cases hxa
          cases hxb
          subst e6
          subst e8
          by_cases heq : xi.Due = xk.Due
          · obtain ⟨xa, hxa, e10⟩ := h10 (by rw [hlt]; simpa using heq)
            obtain ⟨xb, hxb, e12⟩ := h12 (by rw [hlt]; simpa using heq)
            rw [hxi] at hxa
            rw [hxk] at hxb
            cases hxa
            cases hxb
            subst e10
            subst e12
            simp [heq]
          · simp [heq, hnl]
      by_cases hb : ltO xi xk
      · rw [if_pos (hcond.2 hb)]
        refine ⟨rfl, hi0, by omega, fun x hx y hy => ?_⟩
        rw [hxi] at hx
        cases hx
        rw [List.take_add_one, hxi] at hy
        rcases List.mem_append.1 hy with hy | hy
        · have := hmin xk hxk y hy
          unfold ltO at *
          omega
        · have : y = xi := by simpa using hy
          subst this
          unfold ltO
          omega
      · rw [if_neg fun hh => hb (hcond.1 hh)]
        refine ⟨rfl, hk0, hk1, fun x hx y hy => ?_⟩
        rw [hxk] at hx
        cases hx
        rw [List.take_add_one, hxi] at hy
        rcases List.mem_append.1 hy with hy | hy
        · exact hmin xk hxk y hy
        · have : y = xi := by simpa using hy
          subst this
          exact hb
    · rintro k' h2 ⟨rfl, h10, h11, h12⟩
      rw [wrap64 (by omega) (by omega)]
      have : (i + 1).toNat = i.toNat + 1 := by omega
      exact ⟨⟨rfl, by omega, by omega, h10, h11, by rw [this]; exact h12⟩, by omega⟩
  · rename_i e
    have e : ¬ i < (sl.len : Int) := by simpa using e
    have hit : i.toNat = L.length := by omega
    rw [hit, List.take_length] at hmin
    have hkl : k.toNat < L.length := by omega
    have := hq k.toNat L[k.toNat] (List.getElem?_eq_getElem hkl) (hmin _ (List.getElem?_eq_getElem hkl))
    have e2 : ((k.toNat : Nat) : Int) = k := by omega
    rw [e2] at this
    exact this

end Lf
