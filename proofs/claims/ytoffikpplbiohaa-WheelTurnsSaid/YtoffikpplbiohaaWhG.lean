/-
  The wheel and the reference's wheel, beside one another.
-/
import Derived.Test.YtoffikpplbiohaaWhF
namespace Lf
open Go Go.Proofs

def conv (e : S_wheel_entry) : S_firebreakref11_One := ⟨e.id_, e.due⟩

/-- Both hold the same. -/
def RelW (es : List S_wheel_entry) (L : List S_firebreakref11_One) : Prop := (es.map conv).Perm L

theorem Wh.nodup {h : Hp} {p : Addr} {es : List S_wheel_entry} {F : List Nat} (w : Wh h p es F) : (es.map (·.id_)).Nodup := by
  have hn := sorted_nodup w.sorted
  refine List.pairwise_map.2 (hn.imp_of_mem fun {a b} ha hb hne e => hne (w.ids ha hb e))

theorem RelW.ids {es : List S_wheel_entry} {L : List S_firebreakref11_One} (r : RelW es L) (hn : (es.map (·.id_)).Nodup) : (L.map (·.ID)).Nodup := by
  have := (r.map (·.ID)).nodup_iff.1 (by rw [List.map_map]; exact hn)
  exact this

theorem RelW.mem {es : List S_wheel_entry} {L : List S_firebreakref11_One} (r : RelW es L) (x : S_firebreakref11_One) : x ∈ L ↔ ∃ e ∈ es, conv e = x := by
  rw [← r.mem_iff, List.mem_map]

theorem RelW.len {es : List S_wheel_entry} {L : List S_firebreakref11_One} (r : RelW es L) : L.length = es.length := by
  have := r.length_eq
  simpa using this.symm

theorem conv_inj {a b : S_wheel_entry} (h : conv a = conv b) : a = b := by
  cases a; cases b
  simp [conv] at h
  simp [h]

theorem head_min {e : S_wheel_entry} {r : List S_wheel_entry} {L : List S_firebreakref11_One} (hr : RelW (e :: r) L) (hs : (e :: r).Pairwise ltE) {x : S_firebreakref11_One} (hx : x ∈ L) (hm : ∀ y ∈ L, ¬ ltO y x) : x = conv e := by
  obtain ⟨e', he', rfl⟩ := (hr.mem x).1 hx
  rcases List.mem_cons.1 he' with rfl | he'
  · rfl
  · have := (List.pairwise_cons.1 hs).1 e' he'
    exact absurd (show ltO (conv e) (conv e') from this) (hm _ ((hr.mem _).2 ⟨e, List.mem_cons_self .., rfl⟩))

theorem refNext_ok {p : Addr} {es : List S_wheel_entry} {L : List S_firebreakref11_One} {F : List Nat} {Q : Int → Bool → Hp → Prop} {h : Hp} (w : RefW h p L F) (hl : L.length ≤ 4398046511105) (hr : RelW es L) (hs : es.Pairwise ltE)
    (h0 : es = [] → Q 0 false h) (h1 : ∀ e r, es = e :: r → Q e.due true h) : firebreakref11_Wheel_Next_w Try.prog (some p) Q h := by
  have w0 := w
  obtain ⟨b, sl, G, rfl, rfl, h3, h4, h5⟩ := w
  unfold firebreakref11_Wheel_Next_w
  have hlen := h4.1
  have hll := hr.len
  refine notNil (blk_ld h3 (sh := shSl) sl rfl ?_)
  cases es with
  | nil =>
    simp at hll
    rw [if_pos (by simp [hlen, hll])]
    exact h0 rfl
  | cons e r =>
    simp at hll
    have hne : L ≠ [] := fun e' => by rw [e'] at hll; simp at hll
    rw [if_neg (show ¬ (((sl.len : Int) == 0) = true) by simp; omega)]
    refine notNil (blk_ld h3 (sh := shSl) sl rfl ?_)
    refine firebreakref11_Wheel_first_call (first_ok w0 hl hne fun k x hk hm => ?_)
    refine ⟨⟨?_, trivial⟩, ?_⟩
    · obtain ⟨y, hy, hy'⟩ := blk_ld h3 (sh := shSl) sl (j := 0) rfl (K := fun y => y = sl) rfl
      subst hy'
      exact hy
    · have hkl := (List.getElem?_eq_some_iff.1 hk).1
      refine (h4.rw fun _ => rfl).fld (fun _ => rfl) (by omega) (sh := shInt .i64) (fun x => x.Due) (j := 1) (fun _ => rfl) (show (0 : Int) ≤ (k : Int) by omega) (show (k : Int) < (L.length : Int) by omega) fun y hy => ?_
      have hyx : y = x := by
        have e2 : ((k : Nat) : Int).toNat = k := by omega
        have hy' : L[((k : Nat) : Int).toNat]? = some y := hy
        rw [e2, hk] at hy'
        exact (Option.some.inj hy').symm
      rw [hyx, head_min hr hs (List.mem_of_getElem? hk) hm]
      exact h1 e r rfl

theorem rel_rest {e : S_wheel_entry} {r : List S_wheel_entry} {L : List S_firebreakref11_One} (hr : RelW (e :: r) L) {i : Nat} (hi : L[i]? = some (conv e)) : RelW r (L.take i ++ L.drop (i + 1)) := by
  unfold RelW at *
  have h1 : (conv e :: r.map conv).Perm (conv e :: (L.take i ++ L.drop (i + 1))) := by
    have h2 : (L.take i ++ conv e :: L.drop (i + 1)).Perm (conv e :: (L.take i ++ L.drop (i + 1))) := List.perm_middle
    rw [← split_at hi] at h2
    exact hr.trans h2
  exact h1.cons_inv

set_option maxHeartbeats 1000000 in
theorem refPop_ok {p : Addr} {es : List S_wheel_entry} {L : List S_firebreakref11_One} {F : List Nat} {now : Int} {Q : Sl → Hp → Prop} {h : Hp} (w : RefW h p L F) (hl : L.length ≤ 4398046511104) (hr : RelW es L) (hs : es.Pairwise ltE) (hn : (es.map (·.id_)).Nodup)
    (hq : ∀ out h' done rest L' G F', es = done ++ rest → (∀ x ∈ done, x.due ≤ now) → (∀ x r, rest = x :: r → now < x.due) → OwnF h' 1 eI out (done.map (·.id_)) G → RefW h' p L' F' → RelW rest L' → (∀ c ∈ G, c ∉ F') → Mv F h (F' ++ G) h' → Q out h') :
    firebreakref11_Wheel_Pop_w Try.prog (some p) now Q h := by
  unfold firebreakref11_Wheel_Pop_w
  have hll0 := hr.len
  refine newF (xs := ([] : List Int)) (enc := eI) (sz := 1) rfl (fun _ => rfl) fun b0 h1 hb0 l1 m1 o1 => ?_
  have hb0F : ∀ c ∈ [b0], c ∉ F := fun c hc hF => by
    rw [List.mem_singleton.1 hc] at hF
    exact w.known b0 hF hb0
  have w1 : RefW h1 p L F := w.same fun c hc => by
    cases hk : h c with
    | none => exact absurd hk (w.known c hc)
    | some o => exact l1 c o hk
  refine LoopW1.intro (fun out k => ∃ done rest L' G F', es = done ++ rest ∧ (∀ x ∈ done, x.due ≤ now) ∧ OwnF k 1 eI out (done.map (·.id_)) G ∧ RefW k p L' F' ∧ RelW rest L' ∧ (∀ c ∈ G, c ∉ F') ∧ Mv F h (F' ++ G) k) (fun out _ => es.length - out.len)
    ⟨[], es, L, [b0], F, rfl, by simp, o1, w1, hr, hb0F, m1.sub (fun c hc => by cases hc) fun c hc => by
      rcases List.mem_append.1 hc with hc | hc
      · exact .inr (.inl hc)
      · exact .inl hc⟩ ?_
  rintro out k ⟨done, rest, L', G, F', hsp, hdn, ho, wk, hrk, hdis, hm⟩
  have hol := ho.1
  have wk0 := wk
  obtain ⟨b, sl, G1, rfl, rfl, h3, h4, h5⟩ := wk
  have hlen := h4.1
  have hll := hrk.len
  have hsr : rest.Pairwise ltE := by rw [hsp] at hs; exact (List.pairwise_append.1 hs).2.1
  have hnr : (rest.map (·.id_)).Nodup := by rw [hsp, List.map_append] at hn; exact (List.nodup_append.1 hn).2.1
  have hle : done.length + rest.length = es.length := by rw [hsp]; simp
  refine notNil (blk_ld h3 (sh := shSl) sl rfl ?_)
  cases rest with
  | nil =>
    simp at hll
    have e0 : sl.len = 0 := by simpa [hll] using hlen
    rw [if_neg (by simp [e0])]
    exact hq out k done [] L' G _ hsp hdn (fun x r e => by cases e) ho wk0 hrk hdis hm
  | cons e r =>
    simp at hll hle
    rw [if_pos (show decide ((sl.len : Int) > 0) = true by simp; omega)]
    refine notNil (blk_ld h3 (sh := shSl) sl rfl ?_)
    have hne : L' ≠ [] := fun e' => by rw [e'] at hll; simp at hll
    refine firebreakref11_Wheel_first_call (first_ok wk0 (by omega) hne fun q x hq' hmin => ?_)
    have hxe := head_min hrk hsr (List.mem_of_getElem? hq') hmin
    subst hxe
    have hql := (List.getElem?_eq_some_iff.1 hq').1
    refine ⟨⟨?_, trivial⟩, ?_⟩
    · obtain ⟨y, hy, hy'⟩ := blk_ld h3 (sh := shSl) sl (j := 0) rfl (K := fun y => y = sl) rfl
      subst hy'
      exact hy
    refine Rs.get (sh := sh_firebreakref11_One) (h4.rw fun _ => rfl) (fun _ => rfl) (by omega) (show (0 : Int) ≤ (q : Int) by omega) (show (q : Int) < (L'.length : Int) by omega) fun (y : S_firebreakref11_One) hy => ?_
    have hyx : y = conv e := by
      have e2 : ((q : Nat) : Int).toNat = q := by omega
      have hy' : L'[((q : Nat) : Int).toNat]? = some y := hy
      rw [e2, hq'] at hy'
      exact (Option.some.inj hy').symm
    subst hyx
    by_cases hd : e.due > now
    · rw [if_pos (by simpa [conv] using hd)]
      refine hq out k done (e :: r) L' G _ hsp hdn (fun x r' e' => ?_) ho wk0 hrk hdis hm
      cases e'
      omega
    · rw [if_neg (by simpa [conv] using hd)]
      refine newF (xs := [e.id_]) (enc := eI) (sz := 1) rfl (fun _ => rfl) fun bv k1 hbv kl1 km1 ko1 => ?_
      have ho1 : OwnF k1 1 eI out (done.map (·.id_)) G := ho.mv (Mv.of_le [] kl1) (by simp)
      have wk1 : RefW k1 ⟨b, 0, none⟩ L' (b :: G1) := wk0.same fun c hc => by
        cases hk : k c with
        | none => exact absurd hk (wk0.known c hc)
        | some o => exact kl1 c o hk
      refine appF ho1 (ko1.rw fun _ => rfl) (fun _ => rfl) (fun _ => rfl) rfl (by simp; omega) fun l' k2 G' o2 m2 => ?_
      have wk2 : RefW k2 ⟨b, 0, none⟩ L' (b :: G1) := wk1.same fun c hc => by
        cases hk : k1 c with
        | none => exact absurd hk (wk1.known c hc)
        | some o => exact m2.keep c o hk fun hcG => hdis c hcG hc
      have hdis2 : ∀ c ∈ G', c ∉ b :: G1 := fun c hc hcF => by
        rcases m2.from_ c hc with q | q
        · exact hdis c q hcF
        · exact wk1.known c hcF q
      have hnL := hrk.ids hnr
      refine firebreakref11_Wheel_Clear_call (refClear_ok wk2 (by omega) (fun hno => absurd rfl (hno (conv e) (List.mem_of_getElem? hq'))) fun i x2 F3 k3 hi hid m3 w3 => ?_)
      have hx2 : x2 = conv e := by
        have hx2m := List.mem_of_getElem? hi
        obtain ⟨e2, he2, rfl⟩ := (hrk.mem x2).1 hx2m
        have hid' : e2.id_ = e.id_ := hid
        rcases List.mem_cons.1 he2 with rfl | he2
        · rfl
        · simp only [List.map_cons, List.nodup_cons] at hnr
          exact absurd (hid' ▸ List.mem_map_of_mem (f := (·.id_)) he2) hnr.1
      subst hx2
      have o3 : OwnF k3 1 eI l' (done.map (·.id_) ++ [e.id_]) G' := o2.mv m3 hdis2
      have hdis3 : ∀ c ∈ G', c ∉ F3 := fun c hc hcF => by
        rcases m3.from_ c hcF with q | q
        · exact hdis2 c hc q
        · exact o2.known c hc q
      refine ⟨⟨done ++ [e], r, _, G', F3, by rw [hsp]; simp, fun x hx => ?_, by simpa using o3, w3, rel_rest hrk hi, hdis3, ?_⟩, ?_⟩
      · rcases List.mem_append.1 hx with hx | hx
        · exact hdn x hx
        · rw [List.mem_singleton.1 hx]; omega
      · have q1 : Mv (b :: G1 ++ G) k (b :: G1 ++ G) k1 := Mv.of_le _ kl1
        have q2 : Mv (b :: G1 ++ G) k1 (b :: G1 ++ G') k2 := m2.sub (fun c hc => List.mem_append_right _ hc) fun c hc => by
          rcases List.mem_append.1 hc with hc | hc
          · exact .inr (.inl (List.mem_append_left _ hc))
          · exact .inl hc
        have q3 : Mv (b :: G1 ++ G') k2 (F3 ++ G') k3 := m3.wide G'
        exact hm.trans (q1.trans (q2.trans q3))
      · have := o2.1
        simp at this hol
        omega

end Lf
