/-
  What a wheel does: Pop, Next; lists that are the same; a list that is written over.
-/
import Derived.Test.YtoffikpplbiohaaWhC
namespace Lf
open Go Go.Proofs

abbrev eI : Int → List Value := fun x => cellsL ((shInt .i64).enc x)

theorem whNext_ok {p : Addr} {es : List S_wheel_entry} {F : List Nat} {Q : Int → Bool → Hp → Prop} {h : Hp} (w : Wh h p es F) (h0 : es = [] → Q 0 false h) (h1 : ∀ e r, es = e :: r → Q e.due true h) : wheel_Wheel_Next_w Try.prog (some p) Q h := by
  obtain ⟨b, m, sl, G, kvs, rfl, rfl, h3, h4, h5, h6⟩ := w
  unfold wheel_Wheel_Next_w
  have hlen := h4.1
  refine notNil (blk_ld h3 (sh := shSl) sl rfl ?_)
  cases es with
  | nil =>
    rw [if_pos (by simp [hlen])]
    exact h0 rfl
  | cons e r =>
    rw [if_neg (by simp [hlen]; omega)]
    refine notNil (blk_ld h3 (sh := shSl) sl rfl ?_)
    refine (h4.rw fun _ => rfl).fld (fun _ => rfl) (by omega) (sh := shInt .i64) (fun x => x.due) (j := 0) (fun _ => rfl) (by omega) (by simp <;> omega) fun x hx => ?_
    have : e = x := by simpa using hx
    rw [← this]
    exact h1 e r rfl

set_option maxHeartbeats 1000000 in
theorem whPop_ok {p : Addr} {es : List S_wheel_entry} {F : List Nat} {now : Int} {Q : Sl → Hp → Prop} {h : Hp} (w : Wh h p es F) (hl : es.length ≤ 4398046511104)
    (hq : ∀ out h' done rest G F', es = done ++ rest → (∀ x ∈ done, x.due ≤ now) → (∀ x r, rest = x :: r → now < x.due) → OwnF h' 1 eI out (done.map (·.id_)) G → Wh h' p rest F' → (∀ c ∈ G, c ∉ F') → Mv F h (F' ++ G) h' → Q out h') :
    wheel_Wheel_Pop_w Try.prog (some p) now Q h := by
  unfold wheel_Wheel_Pop_w
  refine LoopW1.intro (fun out k => ∃ done rest G F', es = done ++ rest ∧ (∀ x ∈ done, x.due ≤ now) ∧ OwnF k 1 eI out (done.map (·.id_)) G ∧ Wh k p rest F' ∧ (∀ c ∈ G, c ∉ F') ∧ Mv F h (F' ++ G) k) (fun out _ => es.length - out.len)
    ⟨[], es, [], F, rfl, by simp, ⟨rfl, Nat.le_refl _, .inl ⟨rfl, rfl, rfl⟩⟩, w, by simp, by simpa using Mv.refl F h⟩ ?_
  rintro out k ⟨done, rest, G, F', hsp, hdn, ho, wk, hdis, hm⟩
  have hol := ho.1
  have wk0 := wk
  obtain ⟨b, m, sl, G1, kvs, rfl, rfl, h3, h4, h5, h6⟩ := wk
  have hlen := h4.1
  refine notNil (blk_ld h3 (sh := shSl) sl rfl ?_)
  have rs : Rw k 2 eE sl rest := h4.rw fun _ => rfl
  refine ⟨_, fun _ => rfl, ?_⟩
  refine blk_ldC h3 (sh := shSl) sl rfl ?_
  refine rs.fldC (fun _ => rfl) (by omega) (sh := shInt .i64) (fun x => x.due) (j := 0) (fun _ => rfl) (0 : Int) (fun hc => by simp at hc; omega) fun (y : Int) hy => ?_
  refine letW ?_
  cases rest with
  | nil =>
    have e0 : sl.len = 0 := by simpa using hlen
    rw [if_neg (by simp [e0])]
    exact hq out k done [] G _ hsp hdn (fun x r e => by cases e) ho wk0 hdis hm
  | cons e r =>
    simp at hlen
    have hpos : decide ((sl.len : Int) > 0) = true := by simp; omega
    obtain ⟨x, hx, hyx⟩ := hy hpos
    have hex : e = x := by simpa using hx
    subst hex
    subst hyx
    rw [hpos, Bool.true_and]
    by_cases hd : e.due ≤ now
    · rw [if_pos (by simpa using hd)]
      refine notNil (blk_ld h3 (sh := shSl) sl rfl ?_)
      refine rs.fld (fun _ => rfl) (by omega) (sh := shInt .i64) (fun x => x.id_) (j := 1) (fun _ => rfl) (by omega) (by simp <;> omega) fun x' hx' => ?_
      have : e = x' := by simpa using hx'
      subst this
      have hle : done.length + (r.length + 1) = es.length := by rw [hsp]; simp
      refine newF (xs := [e.id_]) (enc := eI) (sz := 1) rfl (fun _ => rfl) fun bv h1 hbv l1 m1 o1 => ?_
      have hGv : ∀ c ∈ G, c ≠ bv := fun c hc e' => ho.known c hc (by rw [e']; exact hbv)
      have ho1 : OwnF h1 1 eI out (done.map (·.id_)) G := ho.mv (Mv.of_le [] l1) (by simp)
      have wk1 : Wh h1 ⟨b, 0, none⟩ (e :: r) (b :: m :: G1) := by
        refine wk0.same fun c hc => ?_
        cases hk : k c with
        | none => exact absurd hk (wk0.known c hc)
        | some o => exact l1 c o hk
      refine appF ho1 (o1.rw fun _ => rfl) (fun _ => rfl) (fun _ => rfl) rfl (by simp; omega) fun l' h2 G' o2 m2 => ?_
      have wk2 : Wh h2 ⟨b, 0, none⟩ (e :: r) (b :: m :: G1) := by
        refine wk1.same fun c hc => ?_
        cases hk : h1 c with
        | none => exact absurd hk (wk1.known c hc)
        | some o => exact m2.keep c o hk fun hcG => hdis c hcG hc
      have hdis2 : ∀ c ∈ G', c ∉ b :: m :: G1 := fun c hc hcF => by
        rcases m2.from_ c hc with q | q
        · exact hdis c q hcF
        · exact wk1.known c hcF q
      refine wheel_Wheel_Clear_call (whClear_ok wk2 (by simp; omega) (fun hn => absurd rfl (hn e (List.mem_cons_self ..))) fun i e2 h3' hi hei m3 w3 => ?_)
      have he2 : e2 = e := wk2.ids (List.mem_of_getElem? hi) (List.mem_cons_self ..) hei
      subst he2
      have hi0 : i = 0 := by
        have hnd := sorted_nodup wk2.sorted
        obtain ⟨hil, hie⟩ := List.getElem?_eq_some_iff.1 hi
        have := (List.getElem_inj (i := i) (j := 0) (h₀ := hil) (h₁ := by simp) hnd).1 (by rw [hie]; rfl)
        exact this
      subst hi0
      have w3' : Wh h3' ⟨b, 0, none⟩ r (b :: m :: G1) := by simpa using w3
      have o3 : OwnF h3' 1 eI l' (done.map (·.id_) ++ [e2.id_]) G' := o2.mv m3 hdis2
      refine ⟨⟨done ++ [e2], r, G', b :: m :: G1, by rw [hsp]; simp, fun x hx => ?_, by simpa using o3, w3', hdis2, ?_⟩, ?_⟩
      · rcases List.mem_append.1 hx with hx | hx
        · exact hdn x hx
        · rw [List.mem_singleton.1 hx]; exact hd
      · have q1 : Mv (b :: m :: G1 ++ G) k (b :: m :: G1 ++ G) h1 := Mv.of_le _ l1
        have q2 : Mv (b :: m :: G1 ++ G) h1 (b :: m :: G1 ++ G') h2 := m2.sub (fun c hc => List.mem_append_right _ hc) fun c hc => by
          rcases List.mem_append.1 hc with hc | hc
          · exact .inr (.inl (List.mem_append_left _ hc))
          · exact .inl hc
        have q3 : Mv (b :: m :: G1 ++ G') h2 (b :: m :: G1 ++ G') h3' := m3.wide G'
        exact hm.trans (q1.trans (q2.trans q3))
      · have := o2.1
        simp at this hol
        omega
    · rw [if_neg (by simpa using hd)]
      refine hq out k done (e :: r) G _ hsp hdn (fun x r' e' => ?_) ho wk0 hdis hm
      cases e'
      omega

theorem same_ok {a b : Sl} {xs : List Int} {Q : Bool → Hp → Prop} {h : Hp} (ra : Rs h (shInt .i64) 1 a xs) (rb : Rs h (shInt .i64) 1 b xs) (hl : xs.length ≤ 4398046511105) (hq : Q true h) : firebreaklaw11_same_w Try.prog a b Q h := by
  unfold firebreaklaw11_same_w
  have h1 := ra.1
  have h2 := rb.1
  rw [if_neg (show ¬ (((a.len : Int) != (b.len : Int)) = true) by simp; omega)]
  refine LoopW1.intro (fun i k => k = h ∧ 0 ≤ i ∧ i ≤ (xs.length : Int)) (fun i _ => (xs.length - i).toNat) ⟨rfl, by omega, by omega⟩ ?_
  rintro i k ⟨rfl, hi0, hi1⟩
  split
  · rename_i e
    have e : i < (a.len : Int) := by simpa using e
    refine Rs.get ra (fun _ => rfl) (by omega) hi0 (by omega) fun (x : Int) hx => ?_
    refine Rs.get rb (fun _ => rfl) (by omega) hi0 (by omega) fun (y : Int) hy => ?_
    rw [hx] at hy; cases hy
    rw [if_neg (show ¬ ((x != x) = true) by simp), wrap64 (by omega) (by omega)]
    exact ⟨⟨rfl, by omega, by omega⟩, by omega⟩
  · exact hq

end Lf
