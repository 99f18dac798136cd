/-
  What is set, in a map beside the wheel.
-/
import Derived.Test.YtoffikpplbiohaaWhI
namespace Lf
open Go Go.Proofs

theorem semIs_lenMap {V : Type} {P : Program} {t a b rt m : Nat} {h : Hp} {kd : IntKind} {ev : V → Value} {kvs : List (Int × V)} (ht : P.underlying t = some (.map a b)) (hm : MapKv h m kd ev kvs) :
    SemIs P (Builtin.len_ #[t] rt #[.map (some m)]) h (.int .i64 (kvs.length : Int)) := by
  obtain ⟨mes, ck, e1, e2⟩ := hm
  refine semIs_of_semW ?_
  show semW P (underlying t >>= fun d => _) _ h
  refine (semW_bind' _ _).2 (semW_und ht ?_)
  refine ⟨_, e1, rfl, ?_⟩
  have hl : mes.length = kvs.length := by
    have := congrArg List.length e2
    simpa using this
  refine ⟨?_, rfl⟩
  show Value.int .i64 ((mes.toArray.size : Nat) : Int) = _
  rw [← hl]
  rfl

/-- The map holds what the wheel holds. -/
def RelK (es : List S_wheel_entry) (kvs : List (Int × Int)) : Prop := (kvs.map (·.1)).Nodup ∧ ∀ id d, kget id kvs = some d ↔ (⟨d, id⟩ : S_wheel_entry) ∈ es

theorem relK_len {es : List S_wheel_entry} {kvs : List (Int × Int)} (r : RelK es kvs) (hs : es.Pairwise ltE) : kvs.length = es.length := by
  have hp : (es.map fun e => (e.id_, e.due)).Perm kvs := by
    refine (List.perm_ext_iff_of_nodup ?_ ?_).2 fun p => ?_
    · exact List.pairwise_map.2 ((sorted_nodup hs).imp fun {a b} hne e => hne (by cases a; cases b; simp at e; simp [e]))
    · exact (List.pairwise_map.1 r.1).imp fun hne e => hne (by rw [e])
    · rw [List.mem_map]
      constructor
      · rintro ⟨e, he, rfl⟩
        exact kget_mem ((r.2 e.id_ e.due).2 he)
      · intro hp
        exact ⟨⟨p.2, p.1⟩, (r.2 p.1 p.2).1 (kget_of_mem r.1 hp), rfl⟩
  have := hp.length_eq
  simpa using this.symm

theorem relK_set {es es' : List S_wheel_entry} {kvs : List (Int × Int)} {id due : Int} (r : RelK es kvs) (he : ∀ x, x ∈ es' ↔ x = ⟨due, id⟩ ∨ (x ∈ es ∧ x.id_ ≠ id)) : RelK es' (kset id due kvs) := by
  refine ⟨kset_nodup id due r.1, fun id' d' => ?_⟩
  rw [kget_set, he]
  by_cases h : id' = id
  · subst h
    rw [if_pos rfl]
    constructor
    · intro e; cases e; exact .inl rfl
    · rintro (e | ⟨_, e⟩)
      · cases e; rfl
      · exact absurd rfl e
  · rw [if_neg h, r.2 id' d']
    constructor
    · intro e; exact .inr ⟨e, h⟩
    · rintro (e | ⟨e, _⟩)
      · cases e; exact absurd rfl h
      · exact e

theorem relK_del {es es' : List S_wheel_entry} {kvs : List (Int × Int)} {id : Int} (r : RelK es kvs) (he : ∀ x, x ∈ es' ↔ (x ∈ es ∧ x.id_ ≠ id)) : RelK es' (kdel id kvs) := by
  refine ⟨kdel_nodup id r.1, fun id' d' => ?_⟩
  rw [kget_del id' id kvs r.1, he]
  by_cases h : id' = id
  · subst h
    rw [if_pos rfl]
    constructor
    · intro e; cases e
    · rintro ⟨_, e⟩; exact absurd rfl e
  · rw [if_neg h, r.2 id' d']
    exact ⟨fun e => ⟨e, h⟩, fun e => e.1⟩

theorem clear_mem {h : Hp} {p : Addr} {es : List S_wheel_entry} {F : List Nat} (w : Wh h p es F) {i : Nat} {e : S_wheel_entry} (hi : es[i]? = some e) (x : S_wheel_entry) : x ∈ es.take i ++ es.drop (i + 1) ↔ (x ∈ es ∧ x.id_ ≠ e.id_) := by
  have hsplit := split_at hi
  have hnd := sorted_nodup w.sorted
  rw [hsplit] at hnd
  have hnd' := List.nodup_append.1 hnd
  constructor
  · intro hx
    have hxe : x ∈ es := by
      rcases List.mem_append.1 hx with hx | hx
      · exact List.mem_of_mem_take hx
      · exact List.mem_of_mem_drop hx
    refine ⟨hxe, fun e' => ?_⟩
    have : x = e := w.ids hxe (List.mem_of_getElem? hi) e'
    subst this
    rcases List.mem_append.1 hx with hx | hx
    · exact hnd'.2.2 x hx x (List.mem_cons_self ..) rfl
    · exact (List.nodup_cons.1 hnd'.2.1).1 hx
  · rintro ⟨hx, hne⟩
    rw [hsplit] at hx
    rcases List.mem_append.1 hx with hx | hx
    · exact List.mem_append_left _ hx
    · rcases List.mem_cons.1 hx with rfl | hx
      · exact absurd rfl hne
      · exact List.mem_append_right _ hx

abbrev eS : S_firebreaklaw11_Set → List Value := fun x => cellsL (sh_firebreaklaw11_Set.enc x)

def pastF (id : Int) (xs : List S_firebreaklaw11_Set) : Int := xs.foldl (fun acc x => if x.ID = id ∧ 0 ≤ x.Due then x.Due else acc) (-1)

theorem pastF_snoc (id : Int) (xs : List S_firebreaklaw11_Set) (x : S_firebreaklaw11_Set) : pastF id (xs ++ [x]) = if x.ID = id ∧ 0 ≤ x.Due then x.Due else pastF id xs := by
  unfold pastF
  rw [List.foldl_append]
  rfl

theorem past_ok {l : Sl} {xs : List S_firebreaklaw11_Set} {id : Int} {Q : Int → Hp → Prop} {h : Hp} (r : Rw h 2 eS l xs) (hl : xs.length ≤ 4398046511104) (hq : Q (pastF id xs) h) : firebreaklaw11_past_w Try.prog l id Q h := by
  unfold firebreaklaw11_past_w
  have hlen := r.1
  rw [wrap64 (by omega) (by omega)]
  refine LoopW1.intro (fun i k => k = h ∧ -1 ≤ i ∧ i < (xs.length : Int) ∧ pastF id xs = pastF id (xs.take (i + 1).toNat)) (fun i _ => (i + 1).toNat) ⟨rfl, by omega, by omega, ?_⟩ ?_
  · have : ((l.len : Int) - 1 + 1).toNat = xs.length := by omega
    rw [this, List.take_length]
  rintro i k ⟨rfl, hi0, hi1, hp⟩
  split
  · rename_i e
    have e : 0 ≤ i := by simpa using e
    refine r.fld (fun _ => rfl) (by omega) (sh := shInt .i64) (fun x => x.ID) (j := 0) (fun _ => rfl) e hi1 fun x hx => ?_
    have hsn : xs.take (i + 1).toNat = xs.take i.toNat ++ [x] := by
      have : (i + 1).toNat = i.toNat + 1 := by omega
      rw [this, List.take_add_one, hx]
      rfl
    rw [hsn, pastF_snoc] at hp
    refine r.fldC (fun _ => rfl) (by omega) (sh := shInt .i64) (fun x => x.Due) (j := 1) (fun _ => rfl) (0 : Int) (fun _ => ⟨e, hi1⟩) fun (y : Int) hy => ?_
    refine letW ?_
    by_cases hid : x.ID = id
    · obtain ⟨x', hx', rfl⟩ := hy (by simpa using hid)
      rw [hx] at hx'
      cases hx'
      by_cases hd : 0 ≤ x.Due
      · rw [if_pos (by simp [hid]; omega)]
        refine r.fld (fun _ => rfl) (by omega) (sh := shInt .i64) (fun x => x.Due) (j := 1) (fun _ => rfl) e hi1 fun x2 hx2 => ?_
        rw [hx] at hx2
        cases hx2
        rw [if_pos ⟨hid, hd⟩] at hp
        rw [← hp]
        exact hq
      · rw [if_neg (by simp; omega), wrap64 (by omega) (by omega)]
        rw [if_neg fun hh => hd hh.2] at hp
        have : (i - 1 + 1).toNat = i.toNat := by omega
        exact ⟨⟨rfl, by omega, by omega, by rw [this]; exact hp⟩, by omega⟩
    · rw [if_neg (by simp [hid]), wrap64 (by omega) (by omega)]
      rw [if_neg fun hh => hid hh.1] at hp
      have : (i - 1 + 1).toNat = i.toNat := by omega
      exact ⟨⟨rfl, by omega, by omega, by rw [this]; exact hp⟩, by omega⟩
  · rename_i e
    have e : ¬ 0 ≤ i := by simpa using e
    have : (i + 1).toNat = 0 := by omega
    rw [this] at hp
    have e2 : pastF id (xs.take 0) = -1 := rfl
    rw [e2] at hp
    rw [← hp]
    exact hq

end Lf
