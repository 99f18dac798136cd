/-
  One step on a wheel and on the reference's wheel.
-/
import Derived.Test.YtoffikpplbiohaaWhH
import Derived.Test.YtoffikpplbiohaaLfRegs
namespace Lf
open Go Go.Proofs

/-- A wheel, and the reference's one. -/
structure Two where
  p : Addr
  es : List S_wheel_entry
  F : List Nat
  q : Addr
  L : List S_firebreakref11_One
  R : List Nat

structure GoodT (k : Hp) (t : Two) : Prop where
  w : Wh k t.p t.es t.F
  x : RefW k t.q t.L t.R
  r : RelW t.es t.L
  d : ∀ c ∈ t.F, c ∉ t.R

theorem pop_uniq {now : Int} {es d1 r1 d2 r2 : List S_wheel_entry} (h1 : es = d1 ++ r1) (h2 : es = d2 ++ r2) (a1 : ∀ x ∈ d1, x.due ≤ now) (a2 : ∀ x ∈ d2, x.due ≤ now) (b1 : ∀ x r, r1 = x :: r → now < x.due) (b2 : ∀ x r, r2 = x :: r → now < x.due) : d1 = d2 ∧ r1 = r2 := by
  induction d1 generalizing d2 es with
  | nil =>
    cases d2 with
    | nil => simp at h1 h2; exact ⟨rfl, by rw [← h1, h2]⟩
    | cons y d2 =>
      rw [List.nil_append] at h1
      have := b1 y (d2 ++ r2) (by rw [← h1, h2]; rfl)
      have := a2 y (List.mem_cons_self ..)
      omega
  | cons x d1 ih =>
    cases d2 with
    | nil =>
      rw [List.nil_append] at h2
      have := b2 x (d1 ++ r1) (by rw [← h2, h1]; rfl)
      have := a1 x (List.mem_cons_self ..)
      omega
    | cons y d2 =>
      subst h1
      simp only [List.cons_append, List.cons.injEq] at h2
      obtain ⟨rfl, h2⟩ := h2
      obtain ⟨e1, e2⟩ := ih (es := d1 ++ r1) rfl h2 (fun z hz => a1 z (List.mem_cons_of_mem _ hz)) (fun z hz => a2 z (List.mem_cons_of_mem _ hz))
      exact ⟨by rw [e1], e2⟩

/-- Both take the same number. -/
theorem rel_set {es es' : List S_wheel_entry} {L L' : List S_firebreakref11_One} {id due : Int} (hr : RelW es L) (hs' : es'.Pairwise ltE) (hn' : (L'.map (·.ID)).Nodup) (he : ∀ x, x ∈ es' ↔ x = ⟨due, id⟩ ∨ (x ∈ es ∧ x.id_ ≠ id)) (hL : ∀ x, x ∈ L' ↔ x = ⟨id, due⟩ ∨ (x ∈ L ∧ x.ID ≠ id)) : RelW es' L' := by
  refine (List.perm_ext_iff_of_nodup ?_ ?_).2 fun x => ?_
  · exact List.pairwise_map.2 ((sorted_nodup hs').imp fun hne e => hne (conv_inj e))
  · exact (List.pairwise_map.1 hn').imp fun hne e => hne (by rw [e])
  · rw [List.mem_map, hL x]
    constructor
    · rintro ⟨e, hm, rfl⟩
      rcases (he e).1 hm with rfl | ⟨h1, h2⟩
      · exact .inl rfl
      · exact .inr ⟨(hr.mem _).2 ⟨e, h1, rfl⟩, h2⟩
    · rintro (rfl | ⟨h1, h2⟩)
      · exact ⟨⟨due, id⟩, (he _).2 (.inl rfl), rfl⟩
      · obtain ⟨e, hm, rfl⟩ := (hr.mem x).1 h1
        exact ⟨e, (he e).2 (.inr ⟨hm, h2⟩), rfl⟩

theorem GoodT.parts {k : Hp} {t : Two} (g : GoodT k t) : (∀ c ∈ t.F ++ t.R, k c ≠ none) := fun c hc => by
  rcases List.mem_append.1 hc with hc | hc
  · exact g.w.known c hc
  · exact g.x.known c hc

theorem GoodT.same {k k' : Hp} {t : Two} (g : GoodT k t) (hs : ∀ c ∈ t.F ++ t.R, k' c = k c) : GoodT k' t :=
  ⟨g.w.same fun c hc => hs c (List.mem_append_left _ hc), g.x.same fun c hc => hs c (List.mem_append_right _ hc), g.r, g.d⟩

abbrev StepTo (at_ : Int) (k : Hp) (t : Two) (k' : Hp) (t' : Two) : Prop := GoodT k' t' ∧ t'.p = t.p ∧ t'.q = t.q ∧ t'.es.length ≤ t.es.length + 1 ∧ (∀ e ∈ t'.es, e ∈ t.es ∨ e.due = at_) ∧ Mv (t.F ++ t.R) k (t'.F ++ t'.R) k'

theorem StepTo.refl {at_ : Int} {k : Hp} {t : Two} (g : GoodT k t) : StepTo at_ k t k t := ⟨g, rfl, rfl, by omega, fun _ he => .inl he, Mv.refl _ _⟩

set_option maxHeartbeats 2000000 in
theorem step_ok {t : Two} {o : S_firebreaklaw11_Op} {Q : Bool → Hp → Prop} {k : Hp} (g : GoodT k t) (hl : t.es.length ≤ 4398046511104) (hq : ∀ t' k', StepTo o.At k t k' t' → Q true k') : firebreaklaw11_step_w Try.prog (some t.p) (some t.q) o Q k := by
  unfold firebreaklaw11_step_w
  have hnod := g.w.nodup
  have hnL := g.r.ids hnod
  have hll := g.r.len
  have hdR : ∀ c ∈ t.R, c ∉ t.F := fun c hc hf => g.d c hf hc
  by_cases h2 : o.Kind = 2
  · rw [if_pos (by simpa using h2)]
    refine wheel_Wheel_Set_call (whSet_ok g.w hl (fun hneg => ?_) fun p1 p2 es' F' k1 m1 w1 he1 hle1 => ?_)
    · refine ⟨⟨trivial, trivial, trivial⟩, ?_⟩
      refine firebreakref11_Wheel_Set_call (refSet_ok g.x (by omega) hnL (fun _ => ?_) fun q1 q2 => by omega)
      exact hq t k (StepTo.refl g)
    · refine ⟨⟨trivial, trivial, trivial⟩, ?_⟩
      have x1 : RefW k1 t.q t.L t.R := g.x.same (mv_same m1 g.x.known hdR)
      refine firebreakref11_Wheel_Set_call (refSet_ok x1 (by omega) hnL (fun hneg => by omega) fun _ _ L' R' k2 m2 x2 hn2 hL2 => ?_)
      have hdF' : ∀ c ∈ F', c ∉ t.R := fun c hc hr => mv_disj m1 g.x.known hdR c hr hc
      have w2 : Wh k2 t.p es' F' := w1.same (mv_same m2 w1.known hdF')
      exact hq ⟨t.p, es', F', t.q, L', R'⟩ k2 ⟨⟨w2, x2, rel_set g.r w1.sorted hn2 he1 hL2, mv_disj m2 w1.known hdF'⟩, rfl, rfl, hle1, (fun e he => by
        rcases (he1 e).1 he with rfl | h
        · exact .inr rfl
        · exact .inl h.1), mv_two m1 m2⟩
  rw [if_neg (by simpa using h2)]
  by_cases h3 : o.Kind = 3
  · rw [if_pos (by simpa using h3)]
    refine wheel_Wheel_Clear_call (whClear_ok g.w hl (fun hno => ?_) fun i e k1 hi hei m1 w1 => ?_)
    · refine ⟨⟨trivial, trivial⟩, ?_⟩
      refine firebreakref11_Wheel_Clear_call (refClear_ok g.x (by omega) (fun _ => ?_) fun j x R' k2 hj hid m2 x2 => ?_)
      · exact hq t k (StepTo.refl g)
      · obtain ⟨e, he, rfl⟩ := (g.r.mem x).1 (List.mem_of_getElem? hj)
        exact absurd hid (hno e he)
    · refine ⟨⟨trivial, trivial⟩, ?_⟩
      have x1 : RefW k1 t.q t.L t.R := g.x.same (mv_same m1 g.x.known hdR)
      refine firebreakref11_Wheel_Clear_call (refClear_ok x1 (by omega) (fun hno => ?_) fun j x R' k2 hj hid m2 x2 => ?_)
      · exact absurd hei (hno (conv e) ((g.r.mem _).2 ⟨e, List.mem_of_getElem? hi, rfl⟩))
      · have hx : x = conv e := by
          obtain ⟨e', he', rfl⟩ := (g.r.mem x).1 (List.mem_of_getElem? hj)
          have hid' : e'.id_ = o.ID := hid
          rw [g.w.ids he' (List.mem_of_getElem? hi) (hid'.trans hei.symm)]
        subst hx
        have hrel : RelW (t.es.take i ++ t.es.drop (i + 1)) (t.L.take j ++ t.L.drop (j + 1)) := by
          have hp : RelW (e :: (t.es.take i ++ t.es.drop (i + 1))) t.L := by
            unfold RelW
            have h1 : t.es.Perm (e :: (t.es.take i ++ t.es.drop (i + 1))) := by
              have h2 : (t.es.take i ++ e :: t.es.drop (i + 1)).Perm (e :: (t.es.take i ++ t.es.drop (i + 1))) := List.perm_middle
              rw [← split_at hi] at h2
              exact h2
            exact (h1.map conv).symm.trans g.r
          exact rel_rest hp hj
        have hdF' : ∀ c ∈ t.F, c ∉ t.R := g.d
        have w2 : Wh k2 t.p (t.es.take i ++ t.es.drop (i + 1)) t.F := w1.same (mv_same m2 w1.known hdF')
        have hil := (List.getElem?_eq_some_iff.1 hi).1
        exact hq ⟨t.p, _, t.F, t.q, _, R'⟩ k2 ⟨⟨w2, x2, hrel, mv_disj m2 w1.known hdF'⟩, rfl, rfl, (by simp; omega), (fun e he => by
          rcases List.mem_append.1 he with he | he
          · exact .inl (List.mem_of_mem_take he)
          · exact .inl (List.mem_of_mem_drop he)), mv_two m1 m2⟩
  rw [if_neg (by simpa using h3)]
  by_cases h4 : o.Kind = 4
  · rw [if_pos (by simpa using h4)]
    refine wheel_Wheel_Due_call (whDue_ok g.w (fun hno => ?_) fun e he hid => ?_)
    · refine firebreakref11_Wheel_Due_call (refDue_ok g.x (by omega) (fun _ => ?_) fun x hx hid => ?_)
      · exact letW (hq t k (StepTo.refl g))
      · obtain ⟨e, he, rfl⟩ := (g.r.mem x).1 hx
        exact absurd hid (hno e he)
    · refine firebreakref11_Wheel_Due_call (refDue_ok g.x (by omega) (fun hno => ?_) fun x hx hid' => ?_)
      · exact absurd hid (hno (conv e) ((g.r.mem _).2 ⟨e, he, rfl⟩))
      · obtain ⟨e', he', rfl⟩ := (g.r.mem x).1 hx
        have hid2 : e'.id_ = o.ID := hid'
        have := g.w.ids he' he (hid2.trans hid.symm)
        subst this
        refine letW ?_
        have : ((e'.due == (conv e').Due) && (true == true)) = true := by simp [conv]
        rw [this]
        exact hq t k (StepTo.refl g)
  rw [if_neg (by simpa using h4)]
  by_cases h5 : o.Kind = 5
  · rw [if_pos (by simpa using h5)]
    refine wheel_Wheel_Pop_call (whPop_ok g.w hl fun out k1 done rest G F' hsp hdn hrest ho w1 hdis m1 => ?_)
    have x1 : RefW k1 t.q t.L t.R := g.x.same (mv_same m1 g.x.known hdR)
    refine firebreakref11_Wheel_Pop_call (refPop_ok x1 (by omega) g.r g.w.sorted hnod fun out2 k2 done2 rest2 L' G2 R' hsp2 hdn2 hrest2 ho2 x2 hr2 hdis2 m2 => ?_)
    obtain ⟨e1, e2⟩ := pop_uniq hsp hsp2 hdn hdn2 hrest hrest2
    subst e1
    subst e2
    have hFG : ∀ c ∈ F' ++ G, c ∉ t.R := fun c hc hr => mv_disj m1 g.x.known hdR c hr hc
    have kF : ∀ c ∈ F' ++ G, k1 c ≠ none := fun c hc => by
      rcases List.mem_append.1 hc with hc | hc
      · exact w1.known c hc
      · exact ho.known c hc
    have sFG := mv_same m2 kF hFG
    have dFG := mv_disj m2 kF hFG
    have w2 : Wh k2 t.p rest F' := w1.same fun c hc => sFG c (List.mem_append_left _ hc)
    have ho1 : OwnF k2 1 eI out (done.map (·.id_)) G := ho.same fun c hc => sFG c (List.mem_append_right _ hc)
    have hlen : done.length + rest.length = t.es.length := by rw [hsp]; simp
    refine firebreaklaw11_same_call (same_ok (ho1.rw fun _ => rfl) (ho2.rw fun _ => rfl) (by simp; omega) ?_)
    refine firebreaklaw11_own_call (own_ok ho1 (by simp; omega) fun G' k3 m3 => ?_)
    have hGF : ∀ c ∈ F', c ∉ G := fun c hc hg => hdis c hg hc
    have hGR : ∀ c ∈ R', c ∉ G := fun c hc hg => dFG c (List.mem_append_right _ hg) (List.mem_append_left _ hc)
    have w3 : Wh k3 t.p rest F' := w2.same (mv_same m3 w2.known hGF)
    have x3 : RefW k3 t.q L' R' := x2.same (mv_same m3 x2.known hGR)
    refine hq ⟨t.p, rest, F', t.q, L', R'⟩ k3 ⟨⟨w3, x3, hr2, fun c hc hr => dFG c (List.mem_append_left _ hc) (List.mem_append_left _ hr)⟩, rfl, rfl, (by show rest.length ≤ _; omega), fun e he => .inl (by rw [hsp]; exact List.mem_append_right _ he), ?_⟩
    have q12 := mv_two m1 m2
    have q3 : Mv (F' ++ G ++ (R' ++ G2)) k2 (F' ++ R') k3 := m3.sub (fun c hc => by simp [hc]) fun c hc => by
      rcases List.mem_append.1 hc with hc | hc
      · exact .inr (.inl (by simp [hc]))
      · exact .inr (.inl (by simp [hc]))
    exact q12.trans q3
  rw [if_neg (by simpa using h5)]
  have fin : ∀ (r : Int) (b : Bool), LetW ((r == r) && (b == b)) fun y => NilW (some y) (some t.q) fun p =>
      LdW (some y) shSl k (Addr.add p 0) fun x1 => EffC (some y) (CallT Try.prog n_wheel_Wheel_Len [(.pointer (some t.p))] (shInt .i64)) (fun r4 h3 =>
      (((y = true → (LdIs h3 (Addr.add p 0) [x1.v])) ∧ True) ∧ LetW (y && (r4 == ((x1.len : Nat) : Int))) fun y1 => Q y1 h3)) k := by
    intro r b
    refine letW ?_
    have : ((r == r) && (b == b)) = true := by simp
    rw [this]
    obtain ⟨bx, sl, G, hq', hF, k3, k4, k5⟩ := g.x
    rw [hq']
    refine ⟨⟨bx, 0, none⟩, fun _ => rfl, blk_ldC k3 (sh := shSl) sl rfl ?_⟩
    refine effT (wheel_Wheel_Len_call (whLen_ok g.w ⟨⟨fun _ => ?_, trivial⟩, letW ?_⟩))
    · obtain ⟨y, hy, hy'⟩ := blk_ld k3 (sh := shSl) sl (j := 0) rfl (K := fun y => y = sl) rfl
      subst hy'
      exact hy
    · have : (true && ((t.es.length : Int) == (sl.len : Int))) = true := by
        have := k4.1
        simp
        omega
      rw [this]
      exact hq t k (StepTo.refl g)
  refine wheel_Wheel_Next_call (whNext_ok g.w (fun he => ?_) fun e r he => ?_)
  · refine firebreakref11_Wheel_Next_call (refNext_ok g.x (by omega) g.r g.w.sorted (fun _ => ?_) fun e r he' => ?_)
    · exact fin 0 false
    · rw [he] at he'; cases he'
  · refine firebreakref11_Wheel_Next_call (refNext_ok g.x (by omega) g.r g.w.sorted (fun he' => ?_) fun e' r' he' => ?_)
    · rw [he] at he'; cases he'
    · rw [he] at he'
      cases he'
      exact fin e.due true

end Lf
