/-
  What a wheel does: Set, Pop, Next.
-/
import Derived.Test.YtoffikpplbiohaaWhB
namespace Lf
open Go Go.Proofs

theorem sorted_ins {l : List S_wheel_entry} {e : S_wheel_entry} {i : Nat} (hs : l.Pairwise ltE) (h1 : ∀ x ∈ l.take i, ltE x e) (h2 : ∀ x ∈ l.drop i, ltE e x) : (l.take i ++ e :: l.drop i).Pairwise ltE := by
  have hs' := hs
  rw [← List.take_append_drop i l] at hs'
  obtain ⟨a1, a2, a3⟩ := List.pairwise_append.1 hs'
  refine List.pairwise_append.2 ⟨a1, List.pairwise_cons.2 ⟨h2, a2⟩, fun x hx y hy => ?_⟩
  rcases List.mem_cons.1 hy with rfl | hy
  · exact h1 x hx
  · exact a3 x hx y hy

set_option maxHeartbeats 1000000 in
set_option maxRecDepth 20000 in
theorem whSet_ok {p : Addr} {es : List S_wheel_entry} {F : List Nat} {id due : Int} {Q : Int → Hp → Prop} {h : Hp} (w : Wh h p es F) (hl : es.length ≤ 4398046511104) (h0 : id < 0 ∨ due < 0 → Q 1 h)
    (h1 : 0 ≤ id → 0 ≤ due → ∀ es' F' h', Mv F h F' h' → Wh h' p es' F' → (∀ x, x ∈ es' ↔ x = ⟨due, id⟩ ∨ (x ∈ es ∧ x.id_ ≠ id)) → es'.length ≤ es.length + 1 → Q 0 h') : wheel_Wheel_Set_w Try.prog (some p) id due Q h := by
  unfold wheel_Wheel_Set_w
  refine letW ?_
  by_cases hneg : id < 0 ∨ due < 0
  · rw [if_pos (by simpa using hneg)]
    exact h0 hneg
  rw [if_neg (by simp; omega)]
  have hid : 0 ≤ id := by omega
  have hdue : 0 ≤ due := by omega
  have core : ∀ (es1 : List S_wheel_entry) (k : Hp), Mv F h F k → Wh k p es1 F → (∀ x, x ∈ es1 ↔ (x ∈ es ∧ x.id_ ≠ id)) → es1.length ≤ es.length →
      NilW none (some p) fun p0 => LdW none shSl k (Addr.add p0 0) fun x =>
      Call2 Try.prog n_slices_BinarySearchFunc_wheel_entry_wheel_entry_wheel_entry [x.v, (.agg #[(.int .i64 due), (.int .i64 id)]), (.func (.func 51) #[] #[])] (shInt .i64) shBool (fun r1 r2 h2 =>
        NilW none (some p) fun p1 => LdW none shSl h2 (Addr.add p1 0) fun x1 =>
        NewW [(.int .i64 due), (.int .i64 id)] (fun a h3 =>
        (((LdIs h3 (Addr.add p1 0) [x1.v]) ∧ True) ∧ CallT Try.prog n_slices_Insert_wheel_entry_wheel_entry [x1.v, (.int .i64 r1), (.slice (some a) 1 1)] shSl (fun r3 h4 =>
        NilW none (some p) fun p2 => StW h4 (Addr.add p2 0) [r3.v] (fun h5 =>
        NilW none (some p) fun p3 => LdW none shMap h5 (Addr.add p3 1) fun x2 =>
        MapSetW (.int .i64) x2 (.int .i64 id) (.agg #[(.int .i64 due), (.int .i64 id)]) (fun h6 => Q 0 h6) h5)) h3)) h2) k := by
    intro es1 k mk wk hes hel
    obtain ⟨b, m, sl, G, kvs, rfl, rfl, k3, k4, k5, k6, k7, k8, k9, k10, k11⟩ := wk
    refine notNil (blk_ld k3 (sh := shSl) sl rfl ?_)
    have hE : (⟨due, id⟩ : S_wheel_entry) ∉ es1 := fun hm => ((hes _).1 hm).2 rfl
    refine slices_BinarySearchFunc_wheel_entry_wheel_entry_wheel_entry_call (x := sl) (target := ⟨due, id⟩) (cmp := ⟨.func (.func 51) #[] #[], rfl⟩) (search_ok (k4.rw fun _ => rfl) (by omega) k11 fun i _ h2 l2 hi hlo hhi => ?_)
    refine notNil (blk_ld (k3.le l2) (sh := shSl) sl rfl ?_)
    refine newF (xs := [(⟨due, id⟩ : S_wheel_entry)]) (enc := eE) (sz := 2) rfl (fun _ => rfl) fun bv h3 hbv l3 m3 o3 => ?_
    have l23 := Hp.le_trans l2 l3
    refine ⟨⟨?_, trivial⟩, ?_⟩
    · obtain ⟨y, hy, hy'⟩ := blk_ld (k3.le l23) (sh := shSl) sl (j := 0) rfl (K := fun y => y = sl) rfl
      subst hy'
      exact hy
    have hG : ∀ c ∈ G, c ≠ bv := fun c hc e => by
      have := k4.known c hc
      rw [e] at this
      exact this (none_of_le l2 hbv)
    have o4 : OwnF h3 2 eE sl es1 G := by
      refine k4.mv (Mv.of_le [] l23) fun c _ => by simp
    have kv : ∃ csv, Blk h3 bv csv := by
      obtain ⟨_, _, o3'⟩ := o3
      rcases o3' with ⟨e1, _⟩ | ⟨b', cs, e1, e2, e3, _⟩
      · cases e1
      · cases e1
        exact ⟨cs, e3⟩
    obtain ⟨csv, kv⟩ := kv
    have hins : ∀ (Q' : Sl → Hp → Prop), (∀ l' h' F', OwnF h' 2 eE l' (es1.take i ++ ⟨due, id⟩ :: es1.drop i) F' → Mv G h3 F' h' → Q' l' h') → slices_Insert_wheel_entry_wheel_entry_w Try.prog sl (i : Int) ⟨some ⟨bv, 0, none⟩, 1, 1⟩ Q' h3 := by
      intro Q' hQ
      obtain ⟨ti, e1, _⟩ := tb_ok.info 84 ty84 rfl
      exact ins_ok (P := Try.prog) (h := h3) (sz := 2) (enc := eE) (bytes := 16) (tS := 79) (tR := 4) (tE := 84) (zero := [.int .i64 0, .int .i64 0]) (R := fun y K h => Call0 Try.prog n_slices_rotateRight_wheel_entry [y.v, .int .i64 1] K h) (i := i) (Q := Q')
        (tb_ok.und 79 ty79 rfl) e1 (fun _ => rfl) (by omega) (fun _ => rfl) rfl (fun n => by
          induction n with
          | zero => rfl
          | succ n ih => exact ih) o4 (o3.rw fun _ => rfl) rfl kv (fun hc => hG bv hc rfl) hi (by omega) hQ
    refine slices_Insert_wheel_entry_wheel_entry_call (s := sl) (i := (i : Int)) (v := ⟨some ⟨bv, 0, none⟩, 1, 1⟩) (hins _ fun l' h4 G' o5 m5 => ?_)
    have kb4 : Blk h4 b [sl.v, .map (some m)] := (k3.le l23).mv m5 k6
    have hbG : b ∉ G' := fun hc => by
      rcases m5.from_ b hc with q | q
      · exact k6 q
      · exact (k3.le l23).known q
    have km3 : MapKv h3 m .i64 sh_wheel_entry.enc kvs := k5.mv (Mv.of_le [] l23) (by simp)
    have hmG : m ∉ G' := fun hc => by
      rcases m5.from_ m hc with q | q
      · exact k8 q
      · exact km3.known q
    refine notNil ?_
    refine stW_blk (b := b) (off := 0) kb4 (by simp) fun h5 m6 k6' => ?_
    have kb5 : Blk h5 b [l'.v, .map (some m)] := by simpa using k6'
    refine notNil (blk_ld kb5 (sh := shMap) (some m) rfl ?_)
    have mp5 : MapKv h5 m .i64 sh_wheel_entry.enc kvs := (km3.mv m5 k8).mv m6 (by simp; exact k7.symm)
    have o6 : OwnF h5 2 eE l' (es1.take i ++ ⟨due, id⟩ :: es1.drop i) G' := o5.mv m6 (fun c hc => by simp; exact fun e => hbG (e ▸ hc))
    refine mapSet_kv (v := (⟨due, id⟩ : S_wheel_entry)) mp5 fun o ho mp6 => ?_
    have hset : Mv [m] h5 [m] (h5.set m o) := Mv.set
    have hmemI : ∀ x, x ∈ es1.take i ++ (⟨due, id⟩ : S_wheel_entry) :: es1.drop i ↔ x = ⟨due, id⟩ ∨ x ∈ es1 := by
      intro x
      constructor
      · intro hx
        rcases List.mem_append.1 hx with hx | hx
        · exact .inr (List.mem_of_mem_take hx)
        · rcases List.mem_cons.1 hx with hx | hx
          · exact .inl hx
          · exact .inr (List.mem_of_mem_drop hx)
      · rintro (rfl | hx)
        · exact List.mem_append_right _ (List.mem_cons_self ..)
        · rw [← List.take_append_drop i es1] at hx
          rcases List.mem_append.1 hx with hx | hx
          · exact List.mem_append_left _ hx
          · exact List.mem_append_right _ (List.mem_cons_of_mem _ hx)
    refine h1 hid hdue _ (b :: m :: G') _ ?_ ⟨b, m, l', G', kset id ⟨due, id⟩ kvs, rfl, rfl, kb5.mv hset (by simp; exact k7), o6.mv hset (fun c hc => by simp; exact fun e => hmG (e ▸ hc)), mp6, hbG, k7, hmG, kset_nodup id _ k9, ?_, ?_⟩ ?_ ?_
    · have q1 : Mv (b :: m :: G) h (b :: m :: G) h3 := mk.trans (Mv.of_le _ l23)
      have q2 : Mv (b :: m :: G) h3 (b :: m :: G') h4 := m5.sub (fun c hc => by simp [hc]) fun c hc => by
        simp only [List.mem_cons] at hc
        rcases hc with rfl | rfl | hc
        · exact .inr (.inl (by simp))
        · exact .inr (.inl (by simp))
        · exact .inl hc
      have q3 : Mv (b :: m :: G') h4 (b :: m :: G') h5 := m6.sub (fun c hc => by simp at hc; simp [hc]) fun c hc => .inr (.inl hc)
      have q4 : Mv (b :: m :: G') h5 (b :: m :: G') (h5.set m o) := hset.sub (fun c hc => by simp at hc; simp [hc]) fun c hc => .inr (.inl hc)
      exact q1.trans (q2.trans (q3.trans q4))
    · intro id' e'
      rw [kget_set]
      split
      · rename_i hii
        subst hii
        constructor
        · intro hh
          cases hh
          exact ⟨(hmemI _).2 (.inl rfl), rfl⟩
        · rintro ⟨hy, hyid⟩
          rcases (hmemI e').1 hy with rfl | hy
          · rfl
          · exact absurd hyid ((hes e').1 hy).2
      · rename_i hii
        rw [k10 id' e']
        constructor
        · rintro ⟨hy, hyid⟩
          exact ⟨(hmemI e').2 (.inr hy), hyid⟩
        · rintro ⟨hy, hyid⟩
          rcases (hmemI e').1 hy with rfl | hy
          · exact absurd hyid.symm hii
          · exact ⟨hy, hyid⟩
    · refine sorted_ins k11 hlo fun x hx => ltE_tot (hhi x hx) fun e => ?_
      exact hE (e ▸ List.mem_of_mem_drop hx)
    · intro x
      rw [hmemI x, hes x]
    · simp; omega
  refine wheel_Wheel_Clear_call (whClear_ok w hl (fun hn => ?_) fun i e h' hi hei m' w' => ?_)
  · exact core es h (Mv.refl _ _) w (fun x => ⟨fun hx => ⟨hx, hn x hx⟩, fun hx => hx.1⟩) (Nat.le_refl _)
  · have hil := (List.getElem?_eq_some_iff.1 hi).1
    refine core _ h' m' w' (fun x => ?_) (by simp; omega)
    have hd : es.drop i = e :: es.drop (i + 1) := by
      obtain ⟨q1, q2⟩ := List.getElem?_eq_some_iff.1 hi
      rw [List.drop_eq_getElem_cons q1, q2]
    have hsplit : es = es.take i ++ e :: es.drop (i + 1) := by rw [← hd, List.take_append_drop]
    have hnd := sorted_nodup w.sorted
    rw [hsplit] at hnd
    have hnd' := List.nodup_append.1 hnd
    constructor
    · intro hx
      have hxe : x ∈ es := by
        rcases List.mem_append.1 hx with hx | hx
        · exact List.mem_of_mem_take hx
        · exact List.mem_of_mem_drop hx
      refine ⟨hxe, fun e' => ?_⟩
      have : x = e := w.ids hxe (List.mem_of_getElem? hi) (e'.trans hei.symm)
      subst this
      rcases List.mem_append.1 hx with hx | hx
      · exact hnd'.2.2 x hx x (List.mem_cons_self ..) rfl
      · exact (List.nodup_cons.1 hnd'.2.1).1 hx
    · rintro ⟨hx, hne⟩
      rw [hsplit] at hx
      rcases List.mem_append.1 hx with hx | hx
      · exact List.mem_append_left _ hx
      · rcases List.mem_cons.1 hx with rfl | hx
        · exact absurd hei hne
        · exact List.mem_append_right _ hx

end Lf
