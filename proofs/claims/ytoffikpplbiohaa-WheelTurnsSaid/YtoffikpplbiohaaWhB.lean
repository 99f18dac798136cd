/-
  A wheel in memory, and what its functions do.
-/
import Derived.Test.YtoffikpplbiohaaWhA
import Derived.Test.YtoffikpplbiohaaLfEq
namespace Lf
open Go Go.Proofs

/-- A wheel: its entries in their order, and their map. -/
def Wh (h : Hp) (p : Addr) (es : List S_wheel_entry) (F : List Nat) : Prop :=
  ∃ (b m : Nat) (sl : Sl) (G : List Nat) (kvs : List (Int × S_wheel_entry)), p = ⟨b, 0, none⟩ ∧ F = b :: m :: G ∧ Blk h b [sl.v, .map (some m)] ∧ OwnF h 2 eE sl es G ∧ MapKv h m .i64 sh_wheel_entry.enc kvs ∧ b ∉ G ∧ b ≠ m ∧ m ∉ G ∧
    (kvs.map (·.1)).Nodup ∧ (∀ id e, kget id kvs = some e ↔ e ∈ es ∧ e.id_ = id) ∧ es.Pairwise ltE

theorem MapKv.same {V : Type} {h h' : Hp} {m : Nat} {k : IntKind} {ev : V → Value} {kvs : List (Int × V)} (hm : MapKv h m k ev kvs) (e : h' m = h m) : MapKv h' m k ev kvs := by
  obtain ⟨mes, ck, e1, e2⟩ := hm
  exact ⟨mes, ck, by rw [e]; exact e1, e2⟩

theorem MapKv.known {V : Type} {h : Hp} {m : Nat} {k : IntKind} {ev : V → Value} {kvs : List (Int × V)} (hm : MapKv h m k ev kvs) : h m ≠ none := by
  obtain ⟨mes, ck, e1, e2⟩ := hm
  rw [e1]; simp

theorem MapKv.mv {V : Type} {h h' : Hp} {m : Nat} {k : IntKind} {ev : V → Value} {kvs : List (Int × V)} {F F' : List Nat} (hm : MapKv h m k ev kvs) (a : Mv F h F' h') (hn : m ∉ F) : MapKv h' m k ev kvs := by
  obtain ⟨mes, ck, e1, e2⟩ := hm
  exact ⟨mes, ck, a.keep m _ e1 hn, e2⟩

theorem Blk.same {h h' : Hp} {b : Nat} {cs : List Value} (k : Blk h b cs) (e : h' b = h b) : Blk h' b cs := by
  obtain ⟨t, e1⟩ := k
  exact ⟨t, by rw [e]; exact e1⟩

theorem Wh.same {h h' : Hp} {p : Addr} {es : List S_wheel_entry} {F : List Nat} (w : Wh h p es F) (hs : ∀ b ∈ F, h' b = h b) : Wh h' p es F := by
  obtain ⟨b, m, sl, G, kvs, h1, h2, h3, h4, h5, h6⟩ := w
  subst h2
  exact ⟨b, m, sl, G, kvs, h1, rfl, h3.same (hs b (by simp)), h4.same (fun c hc => hs c (by simp [hc])), h5.same (hs m (by simp)), h6⟩

theorem Wh.known {h : Hp} {p : Addr} {es : List S_wheel_entry} {F : List Nat} (w : Wh h p es F) : ∀ b ∈ F, h b ≠ none := by
  obtain ⟨b, m, sl, G, kvs, h1, h2, h3, h4, h5, h6⟩ := w
  subst h2
  intro c hc
  simp only [List.mem_cons] at hc
  rcases hc with rfl | rfl | hc
  · exact h3.known
  · exact h5.known
  · exact h4.known c hc

theorem Wh.sorted {h : Hp} {p : Addr} {es : List S_wheel_entry} {F : List Nat} (w : Wh h p es F) : es.Pairwise ltE := by
  obtain ⟨b, m, sl, G, kvs, h1, h2, h3, h4, h5, h6, h7, h8, h9, h10, h11⟩ := w
  exact h11

theorem Wh.ids {h : Hp} {p : Addr} {es : List S_wheel_entry} {F : List Nat} (w : Wh h p es F) {x y : S_wheel_entry} (hx : x ∈ es) (hy : y ∈ es) (e : x.id_ = y.id_) : x = y := by
  obtain ⟨b, m, sl, G, kvs, h1, h2, h3, h4, h5, h6, h7, h8, h9, h10, h11⟩ := w
  have e1 := (h10 x.id_ x).2 ⟨hx, rfl⟩
  have e2 := (h10 x.id_ y).2 ⟨hy, e.symm⟩
  rw [e1] at e2
  cases e2
  rfl

theorem blk_ld {h : Hp} {b : Nat} {cs : List Value} (k : Blk h b cs) {sh : Shape} (x : sh.T) {j : Nat} (hj : (cs.drop j).take (cellsL (sh.enc x)).length = cellsL (sh.enc x)) {K : sh.T → Prop} (hk : K x) : LdW none sh h ((⟨b, 0, none⟩ : Addr).add j) K := by
  refine ⟨x, ?_, hk⟩
  show LdIs h ((⟨b, 0, none⟩ : Addr).add j) _
  rw [box_add, Nat.zero_add]
  exact k.ldIs hj

theorem blk_ldC {h : Hp} {b : Nat} {cs : List Value} (k : Blk h b cs) {sh : Shape} (x : sh.T) {j : Nat} {c : Bool} (hj : (cs.drop j).take (cellsL (sh.enc x)).length = cellsL (sh.enc x)) {K : sh.T → Prop} (hk : K x) : LdW (some c) sh h ((⟨b, 0, none⟩ : Addr).add j) K := by
  obtain ⟨y, h1, h2⟩ := blk_ld k (sh := sh) x hj (K := fun y => y = x) rfl
  exact ⟨y, fun _ => h1, h2 ▸ hk⟩

theorem whNew_ok {Q : Option Addr → Hp → Prop} {h : Hp} (hq : ∀ p F h', h ≤ h' → (∀ b ∈ F, h b = none) → Wh h' p [] F → Q (some p) h') : wheel_New_w Try.prog Q h := by
  unfold wheel_New_w
  intro m hm
  have l1 := set_new (o := .map #[] 0) hm
  intro b t hb
  have l2 := set_new (o := .cells (([.slice none 0 0, .map (some m)] : List Value).toArray) t (0, 0)) hb
  have hbm : b ≠ m := fun e => by rw [e, set_self] at hb; cases hb
  refine hq ⟨b, 0, none⟩ [b, m] _ (Hp.le_trans l1 l2) (fun c hc => ?_) ⟨b, m, ⟨none, 0, 0⟩, [], [], rfl, rfl, ⟨t, set_self⟩, ⟨rfl, Nat.le_refl _, .inl ⟨rfl, rfl, rfl⟩⟩, ⟨[], 0, l2 _ _ set_self, rfl⟩, by simp, hbm, by simp, by simp, fun id e => by simp [kget], List.Pairwise.nil⟩
  simp only [List.mem_cons, List.not_mem_nil, or_false] at hc
  rcases hc with rfl | rfl
  · exact none_of_le l1 hb
  · exact hm

theorem whLen_ok {p : Addr} {es : List S_wheel_entry} {F : List Nat} {Q : Int → Hp → Prop} {h : Hp} (w : Wh h p es F) (hq : Q (es.length : Int) h) : wheel_Wheel_Len_w Try.prog (some p) Q h := by
  obtain ⟨b, m, sl, G, kvs, rfl, rfl, h3, h4, h5, h6⟩ := w
  unfold wheel_Wheel_Len_w
  refine notNil (blk_ld h3 (sh := shSl) sl rfl ?_)
  rw [h4.1]
  exact hq

theorem whDue_ok {p : Addr} {es : List S_wheel_entry} {F : List Nat} {id : Int} {Q : Int → Bool → Hp → Prop} {h : Hp} (w : Wh h p es F) (h0 : (∀ e ∈ es, e.id_ ≠ id) → Q 0 false h) (h1 : ∀ e ∈ es, e.id_ = id → Q e.due true h) :
    wheel_Wheel_Due_w Try.prog (some p) id Q h := by
  obtain ⟨b, m, sl, G, kvs, rfl, rfl, h3, h4, h5, h6, h7, h8, h9, h10, h11⟩ := w
  unfold wheel_Wheel_Due_w
  refine notNil (blk_ld h3 (sh := shMap) (some m) rfl ?_)
  refine lookW_kv (sh := sh_wheel_entry) (z := ⟨0, 0⟩) h5 rfl (fun hn => h0 fun e he hid => ?_) fun e he => ?_
  · have := (h10 id e).2 ⟨he, hid⟩
    rw [hn] at this; cases this
  · obtain ⟨h12, h13⟩ := (h10 id e).1 he
    exact h1 e h12 h13

theorem pair_sub {es es' : List S_wheel_entry} (hs : es.Pairwise ltE) (h : es'.Sublist es) : es'.Pairwise ltE := hs.sublist h

theorem sorted_nodup {es : List S_wheel_entry} (hs : es.Pairwise ltE) : es.Nodup := hs.imp fun h e => by subst e; exact ltE_irr _ h

set_option maxHeartbeats 1000000 in
set_option maxRecDepth 20000 in
theorem whClear_ok {p : Addr} {es : List S_wheel_entry} {F : List Nat} {id : Int} {Q : Bool → Hp → Prop} {h : Hp} (w : Wh h p es F) (hl : es.length ≤ 4398046511104) (h0 : (∀ e ∈ es, e.id_ ≠ id) → Q false h)
    (h1 : ∀ (i : Nat) e h', es[i]? = some e → e.id_ = id → Mv F h F h' → Wh h' p (es.take i ++ es.drop (i + 1)) F → Q true h') : wheel_Wheel_Clear_w Try.prog (some p) id Q h := by
  obtain ⟨b, m, sl, G, kvs, rfl, rfl, h3, h4, h5, h6, h7, h8, h9, h10, h11⟩ := w
  unfold wheel_Wheel_Clear_w
  refine notNil (blk_ld h3 (sh := shMap) (some m) rfl ?_)
  refine lookW_kv (sh := sh_wheel_entry) (z := ⟨0, 0⟩) h5 rfl (fun hn => ?_) fun e he => ?_
  · rw [if_pos (by rfl)]
    refine h0 fun e he hid => ?_
    have := (h10 id e).2 ⟨he, hid⟩
    rw [hn] at this; cases this
  rw [if_neg (by simp)]
  obtain ⟨hmem, hid⟩ := (h10 id e).1 he
  refine notNil (blk_ld h3 (sh := shSl) sl rfl ?_)
  have hlen := h4.1
  have rs : Rw h 2 eE sl es := h4.rw fun _ => rfl
  refine LoopW1.intro (fun i k => k = h ∧ 0 ≤ i ∧ i ≤ (es.length : Int) ∧ e ∉ es.take i.toNat) (fun i _ => (es.length - i).toNat) ⟨rfl, by omega, by omega, by simp⟩ ?_
  rintro i k ⟨rfl, hi0, hi1, hni⟩
  split
  · rename_i ei
    have ei : i < (sl.len : Int) := by simpa using ei
    refine Rs.get (sh := sh_wheel_entry) rs (fun _ => rfl) (by omega) hi0 (by omega) fun (x : S_wheel_entry) hx => ?_
    refine ⟨_, semIs_eqS [(⟨ "due", 2, 0, false, "", "firebreak/wheel", 0⟩, .i64, x.due, e.due), (⟨ "id", 3, 1, false, "", "firebreak/wheel", 8⟩, .i64, x.id_, e.id_)] (tb_ok.und 84 ty84 rfl) (by kernel_rfl) (by kernel_rfl) (fun q hq => ?_), ?_⟩
    · simp only [List.mem_cons, List.not_mem_nil, or_false] at hq
      rcases hq with rfl | rfl
      · exact ⟨by simp, tb_ok.und 2 ty2 rfl, rfl, rfl⟩
      · exact ⟨by simp, tb_ok.und 3 ty3 rfl, rfl, rfl⟩
    · dsimp only
      by_cases hxe : x = e
      · subst hxe
        rw [if_pos (by simp)]
        refine notNil (blk_ld h3 (sh := shSl) sl rfl ?_)
        have hil : i.toNat < es.length := (List.getElem?_eq_some_iff.1 hx).1
        have hin : ((i.toNat : Nat) : Int) = i := by omega
        have hin1 : ((i.toNat + 1 : Nat) : Int) = i + 1 := by omega
        rw [wrap64 (by omega) (by omega)]
        have hdel : ∀ (Q' : Sl → Hp → Prop), (∀ l' h', OwnF h' 2 eE l' (es.take i.toNat ++ es.drop (i.toNat + 1)) G → Mv G k G h' → Q' l' h') → slices_Delete_wheel_entry_wheel_entry_w Try.prog sl i (i + 1) Q' k := by
          intro Q' hQ
          have := del_ok (P := Try.prog) (h := k) (sz := 2) (enc := eE) (bytes := 16) (tS := 79) (tE := 84) (z := .agg #[.int .i64 0, .int .i64 0]) (i := i.toNat) (j := i.toNat + 1) (Q := Q') (tb_ok.und 79 ty79 rfl)
            (fun hk => semW_zero tb_ok (t := 84) (e := ty84) rfl hk)
            (fun _ => rfl) (fun _ => rfl) rfl (fun n => by
              induction n with
              | zero => rfl
              | succ n ih => exact ih) h4 (by omega) (by omega) (by omega) hQ
          rw [hin, hin1] at this
          exact this
        refine slices_Delete_wheel_entry_wheel_entry_call (hdel _ fun l' h' o' m' => ?_)
        have k3 : Blk h' b [sl.v, .map (some m)] := h3.mv m' h6
        refine notNil ?_
        refine stW_blk (b := b) (off := 0) k3 (by simp) fun h2 m2 k2 => ?_
        have o2 : OwnF h2 2 eE l' (es.take i.toNat ++ es.drop (i.toNat + 1)) G := o'.mv m2 (fun c hc => by simp; exact fun e => h6 (e ▸ hc))
        have k2' : Blk h2 b [l'.v, .map (some m)] := by simpa using k2
        refine notNil (blk_ld k2' (sh := shMap) (some m) rfl ?_)
        have mp2 : MapKv h2 m .i64 sh_wheel_entry.enc kvs := (h5.mv m' h8).mv m2 (by simp; exact h7.symm)
        refine mapDel_kv mp2 fun o ho mp3 => ?_
        have hset : Mv [m] h2 [m] (h2.set m o) := Mv.set
        refine h1 i.toNat x _ hx hid ?_ ⟨b, m, l', G, kdel id kvs, rfl, rfl, k2'.mv hset (by simp; exact h7), o2.mv hset (fun c hc => by simp; exact fun e => h8 (e ▸ hc)), mp3, h6, h7, h8, kdel_nodup id h9, ?_, ?_⟩
        · have q1 : Mv (b :: m :: G) k (b :: m :: G) h' := m'.sub (fun c hc => by simp [hc]) fun c hc => .inr (.inl hc)
          have q2 : Mv (b :: m :: G) h' (b :: m :: G) h2 := m2.sub (fun c hc => by simp at hc; simp [hc]) fun c hc => .inr (.inl hc)
          have q3 : Mv (b :: m :: G) h2 (b :: m :: G) (h2.set m o) := hset.sub (fun c hc => by simp at hc; simp [hc]) fun c hc => .inr (.inl hc)
          exact q1.trans (q2.trans q3)
        · intro id' e'
          rw [kget_del id' id kvs h9]
          have hnd := sorted_nodup h11
          have hsplit : es = es.take i.toNat ++ x :: es.drop (i.toNat + 1) := by
            have hd : es.drop i.toNat = x :: es.drop (i.toNat + 1) := by
              obtain ⟨q1, q2⟩ := List.getElem?_eq_some_iff.1 hx
              rw [List.drop_eq_getElem_cons q1, q2]
            rw [← hd, List.take_append_drop]
          have hxn : x ∉ es.take i.toNat ++ es.drop (i.toNat + 1) := by
            rw [hsplit] at hnd
            have := List.nodup_append.1 hnd
            intro hm
            rcases List.mem_append.1 hm with hm | hm
            · exact this.2.2 x hm x (List.mem_cons_self ..) rfl
            · exact (List.nodup_cons.1 this.2.1).1 hm
          have hmemx : ∀ y, y ∈ es ↔ y = x ∨ y ∈ es.take i.toNat ++ es.drop (i.toNat + 1) := by
            intro y
            constructor
            · intro hy
              rw [hsplit] at hy
              rcases List.mem_append.1 hy with hy | hy
              · exact .inr (List.mem_append_left _ hy)
              · rcases List.mem_cons.1 hy with hy | hy
                · exact .inl hy
                · exact .inr (List.mem_append_right _ hy)
            · intro hy
              rw [hsplit]
              rcases hy with rfl | hy
              · exact List.mem_append_right _ (List.mem_cons_self ..)
              · rcases List.mem_append.1 hy with hy | hy
                · exact List.mem_append_left _ hy
                · exact List.mem_append_right _ (List.mem_cons_of_mem _ hy)
          split
          · rename_i hii
            subst hii
            constructor
            · intro hh; cases hh
            · rintro ⟨hy, hyid⟩
              have := (h10 id' e').2 ⟨(hmemx e').2 (.inr hy), hyid⟩
              rw [he] at this
              cases this
              exact absurd hy hxn
          · rename_i hii
            rw [h10 id' e']
            constructor
            · rintro ⟨hy, hyid⟩
              rcases (hmemx e').1 hy with rfl | hy
              · exact absurd (hyid.symm.trans hid) hii
              · exact ⟨hy, hyid⟩
            · rintro ⟨hy, hyid⟩
              exact ⟨(hmemx e').2 (.inr hy), hyid⟩
        · refine pair_sub h11 ?_
          have : (es.take i.toNat ++ es.drop (i.toNat + 1)).Sublist (es.take i.toNat ++ es.drop i.toNat) := by
            refine List.Sublist.append (List.Sublist.refl _) ?_
            rw [← List.drop_drop]
            exact List.drop_sublist 1 _
          rw [List.take_append_drop] at this
          exact this
      · rw [if_neg (by
          simp
          intro h1 h2
          exact hxe (by cases x; cases e; simp at h1 h2; simp [h1, h2])), wrap64 (by omega) (by omega)]
        refine ⟨⟨rfl, by omega, by omega, ?_⟩, by omega⟩
        have : (i + 1).toNat = i.toNat + 1 := by omega
        rw [this, List.take_add_one, hx]
        simp only [Option.toList, List.mem_append, List.mem_singleton, not_or]
        exact ⟨hni, fun e' => hxe e'.symm⟩
  · rename_i ei
    have ei : ¬ i < (sl.len : Int) := by simpa using ei
    have : i.toNat = es.length := by omega
    rw [this, List.take_length] at hni
    exact absurd hmem hni

end Lf
