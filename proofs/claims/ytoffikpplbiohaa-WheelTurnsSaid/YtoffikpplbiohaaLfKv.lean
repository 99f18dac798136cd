/-
  Maps whose keys are whole numbers.
-/
import Derived.Test.YtoffikpplbiohaaLfMem
namespace Lf
open Go

section
variable {V : Type}

/-- The place of a key. -/
def kidx (a : Int) : List (Int × V) → Option (Nat × V)
  | [] => none
  | (k, v) :: r => if a = k then some (0, v) else (kidx a r).map fun p => (p.1 + 1, p.2)

def kget (a : Int) : List (Int × V) → Option V
  | [] => none
  | (k, v) :: r => if a = k then some v else kget a r

def kset (a : Int) (v : V) : List (Int × V) → List (Int × V)
  | [] => [(a, v)]
  | (k, u) :: r => if a = k then (a, v) :: r else (k, u) :: kset a v r

def kdel (a : Int) : List (Int × V) → List (Int × V)
  | [] => []
  | (k, u) :: r => if a = k then r else (k, u) :: kdel a r

theorem kget_set (a b : Int) (v : V) : ∀ l : List (Int × V), kget a (kset b v l) = if a = b then some v else kget a l
  | [] => by simp [kset, kget]
  | (k, u) :: r => by
    simp only [kset]
    by_cases h : b = k
    · rw [if_pos h]
      subst h
      simp only [kget]
      split <;> rfl
    · rw [if_neg h]
      simp only [kget, kget_set a b v r]
      by_cases h2 : a = k
      · subst h2
        rw [if_pos rfl, if_neg fun e => h e.symm, if_pos rfl]
      · rw [if_neg h2, if_neg h2]

theorem kget_none {a : Int} : ∀ {l : List (Int × V)}, a ∉ l.map (·.1) → kget a l = none
  | [], _ => rfl
  | (k, u) :: r, h => by
    simp only [List.map_cons, List.mem_cons, not_or] at h
    simp only [kget]
    rw [if_neg h.1]
    exact kget_none h.2

theorem kget_mem {a : Int} {v : V} : ∀ {l : List (Int × V)}, kget a l = some v → (a, v) ∈ l
  | (k, u) :: r, h => by
    simp only [kget] at h
    split at h
    · rename_i e
      cases h
      subst e
      exact List.mem_cons_self ..
    · exact List.mem_cons_of_mem _ (kget_mem h)

theorem kget_of_mem {a : Int} {v : V} : ∀ {l : List (Int × V)}, (l.map (·.1)).Nodup → (a, v) ∈ l → kget a l = some v
  | (k, u) :: r, hn, h => by
    simp only [List.map_cons, List.nodup_cons] at hn
    simp only [kget]
    rcases List.mem_cons.1 h with e | h
    · cases e
      rw [if_pos rfl]
    · have : a ≠ k := fun e => hn.1 (by rw [← e]; exact List.mem_map_of_mem (f := (·.1)) h)
      rw [if_neg this]
      exact kget_of_mem hn.2 h

theorem kget_del (a b : Int) : ∀ l : List (Int × V), (l.map (·.1)).Nodup → kget a (kdel b l) = if a = b then none else kget a l
  | [], _ => by simp [kdel, kget]
  | (k, u) :: r, hn => by
    simp only [List.map_cons, List.nodup_cons] at hn
    simp only [kdel]
    by_cases h : b = k
    · rw [if_pos h]
      subst h
      simp only [kget]
      by_cases h2 : a = b
      · subst h2
        rw [if_pos rfl]
        exact kget_none hn.1
      · rw [if_neg h2, if_neg h2]
    · rw [if_neg h]
      simp only [kget, kget_del a b r hn.2]
      by_cases h2 : a = k
      · subst h2
        rw [if_pos rfl, if_neg fun e => h e.symm, if_pos rfl]
      · rw [if_neg h2, if_neg h2]

theorem kset_keys (b : Int) (v : V) : ∀ (l : List (Int × V)) (a : Int), a ∈ (kset b v l).map (·.1) ↔ a = b ∨ a ∈ l.map (·.1)
  | [], a => by simp [kset]
  | (k, u) :: r, a => by
    simp only [kset]
    by_cases h : b = k
    · subst h
      simp
    · rw [if_neg h]
      simp only [List.map_cons, List.mem_cons, kset_keys b v r a]
      constructor
      · rintro (e | e | e)
        · exact .inr (.inl e)
        · exact .inl e
        · exact .inr (.inr e)
      · rintro (e | e | e)
        · exact .inr (.inl e)
        · exact .inl e
        · exact .inr (.inr e)

theorem kset_nodup (b : Int) (v : V) : ∀ {l : List (Int × V)}, (l.map (·.1)).Nodup → ((kset b v l).map (·.1)).Nodup
  | [], _ => by simp [kset]
  | (k, u) :: r, hn => by
    simp only [List.map_cons, List.nodup_cons] at hn
    simp only [kset]
    by_cases h : b = k
    · subst h
      simp only [if_true, List.map_cons, List.nodup_cons]
      exact hn
    · rw [if_neg h]
      simp only [List.map_cons, List.nodup_cons]
      refine ⟨fun e => ?_, kset_nodup b v hn.2⟩
      rcases (kset_keys b v r k).1 e with e | e
      · exact h e.symm
      · exact hn.1 e

theorem kdel_sub (b : Int) : ∀ (l : List (Int × V)), (kdel b l).Sublist l
  | [] => .slnil
  | (k, u) :: r => by
    simp only [kdel]
    split
    · exact .cons _ (List.Sublist.refl r)
    · exact .cons_cons _ (kdel_sub b r)

theorem kdel_nodup (b : Int) {l : List (Int × V)} (h : (l.map (·.1)).Nodup) : ((kdel b l).map (·.1)).Nodup := h.sublist ((kdel_sub b l).map _)

theorem kdel_none {b : Int} : ∀ {l : List (Int × V)}, kget b l = none → kdel b l = l
  | [], _ => rfl
  | (k, u) :: r, h => by
    simp only [kget] at h
    simp only [kdel]
    split at h
    · cases h
    · rename_i e
      rw [if_neg e, kdel_none h]

theorem kidx_get (a : Int) : ∀ l : List (Int × V), kget a l = (kidx a l).map (·.2)
  | [] => rfl
  | (k, v) :: r => by
    simp only [kget, kidx]
    split
    · rfl
    · rw [kidx_get a r]
      simp [Function.comp_def]

/-- The map holds the pairs. -/
def MapKv (h : Hp) (m : Nat) (k : IntKind) (ev : V → Value) (kvs : List (Int × V)) : Prop :=
  ∃ (mes : List MapEntry) (ck : Nat), h m = some (.map mes.toArray ck) ∧ mes.map (fun e => (e.key, e.val)) = kvs.map fun p => (Value.int k p.1, ev p.2)

variable {h : Hp} {m : Nat} {k : IntKind} {ev : V → Value} {kvs : List (Int × V)}

theorem find_kv (a : Int) : ∀ (mes : List MapEntry) (kvs : List (Int × V)) (j : Nat), mes.map (fun e => (e.key, e.val)) = kvs.map (fun p => (Value.int k p.1, ev p.2)) →
    Instr.findNow (.int k) (.int k a) mes j = some ((kidx a kvs).map fun p => (p.1 + j, ev p.2))
  | [], [], j, _ => rfl
  | [], _ :: _, j, h => by simp at h
  | _ :: _, [], j, h => by simp at h
  | e :: mes, (b, v) :: r, j, h => by
    simp only [List.map_cons, List.cons.injEq, Prod.mk.injEq] at h
    obtain ⟨⟨h1, h2⟩, h3⟩ := h
    simp only [Instr.findNow, h1, Instr.sameNow, if_true, kidx]
    by_cases hab : a = b
    · simp [hab, h2]
    · have hf : (a == b) = false := by simpa using hab
      rw [hf, if_neg hab]
      simp only
      rw [find_kv a mes r (j + 1) h3]
      cases kidx a r with
      | none => rfl
      | some p => simp; omega

theorem lookW_kv {kd : IntKind} {sh : Shape} {kvs : List (Int × sh.T)} {a : Int} {z : sh.T} {zero : Value} {K : sh.T → Bool → Prop} (hm : MapKv h m kd sh.enc kvs) (hz : sh.enc z = zero) (h0 : kget a kvs = none → K z false)
    (h1 : ∀ v, kget a kvs = some v → K v true) : LookW none (.int kd) sh zero (some m) (.int kd a) h K := by
  obtain ⟨mes, ck, e1, e2⟩ := hm
  have hf := find_kv (ev := sh.enc) a mes kvs 0 e2
  have hg := kidx_get a kvs
  cases hi : kidx a kvs with
  | none =>
    rw [hi] at hf hg
    exact ⟨z, false, ⟨mes, .inr ⟨m, ck, rfl, e1⟩, .inl ⟨hf, hz, rfl⟩⟩, h0 hg⟩
  | some p =>
    rw [hi] at hf hg
    exact ⟨p.2, true, ⟨mes, .inr ⟨m, ck, rfl, e1⟩, .inr ⟨_, hf, rfl⟩⟩, h1 p.2 hg⟩

theorem kset_none {a : Int} {v : V} : ∀ {l : List (Int × V)}, kidx a l = none → kset a v l = l ++ [(a, v)]
  | [], _ => rfl
  | (k, u) :: r, h => by
    simp only [kidx] at h
    split at h
    · cases h
    · rename_i e
      simp only [kset]
      rw [if_neg e, kset_none (by simpa using h)]
      rfl

theorem kset_mod {a : Int} {v u : V} {ev : V → Value} : ∀ {mes : List MapEntry} {l : List (Int × V)} {i : Nat}, mes.map (fun e => (e.key, e.val)) = l.map (fun p => (Value.int k p.1, ev p.2)) → kidx a l = some (i, u) →
    (mes.modify i fun e => { e with key := .int k a, val := ev v }).map (fun e => (e.key, e.val)) = (kset a v l).map fun p => (Value.int k p.1, ev p.2)
  | _, [], _, _, h => by simp [kidx] at h
  | [], _ :: _, _, h, _ => by simp at h
  | e :: mes, (b, w) :: r, i, h, hi => by
    simp only [List.map_cons, List.cons.injEq] at h
    simp only [kidx] at hi
    simp only [kset]
    split at hi
    · rename_i hab
      cases hi
      rw [if_pos hab]
      simp [h.2]
    · rename_i hab
      rw [if_neg hab]
      cases hr : kidx a r with
      | none => rw [hr] at hi; simp at hi
      | some p =>
        rw [hr] at hi
        simp at hi
        obtain ⟨rfl, rfl⟩ := hi
        simp only [List.modify_succ_cons, List.map_cons, h.1]
        rw [kset_mod h.2 hr]

theorem kdel_erase {a : Int} {u : V} {ev : V → Value} : ∀ {mes : List MapEntry} {l : List (Int × V)} {i : Nat}, mes.map (fun e => (e.key, e.val)) = l.map (fun p => (Value.int k p.1, ev p.2)) → kidx a l = some (i, u) →
    (mes.eraseIdx i).map (fun e => (e.key, e.val)) = (kdel a l).map fun p => (Value.int k p.1, ev p.2)
  | _, [], _, _, h => by simp [kidx] at h
  | [], _ :: _, _, h, _ => by simp at h
  | e :: mes, (b, w) :: r, i, h, hi => by
    simp only [List.map_cons, List.cons.injEq] at h
    simp only [kidx] at hi
    simp only [kdel]
    split at hi
    · rename_i hab
      cases hi
      rw [if_pos hab]
      simp [h.2]
    · rename_i hab
      rw [if_neg hab]
      cases hr : kidx a r with
      | none => rw [hr] at hi; simp at hi
      | some p =>
        rw [hr] at hi
        simp at hi
        obtain ⟨rfl, rfl⟩ := hi
        simp only [List.eraseIdx_cons_succ, List.map_cons, h.1]
        rw [kdel_erase h.2 hr]

theorem mapSet_kv {a : Int} {v : V} {K : Hp → Prop} (hm : MapKv h m k ev kvs) (hk : ∀ o, isCells o = false → MapKv (h.set m o) m k ev (kset a v kvs) → K (h.set m o)) : MapSetW (.int k) (some m) (.int k a) (ev v) K h := by
  obtain ⟨mes, ck, e1, e2⟩ := hm
  have hf := find_kv (ev := ev) a mes kvs 0 e2
  refine ⟨m, mes.toArray, ck, rfl, e1, ?_⟩
  cases hi : kidx a kvs with
  | none =>
    rw [hi] at hf
    refine .inl ⟨hf, hk _ rfl ⟨mes ++ [{ key := .int k a, val := ev v, born := ck }], ck + 1, ?_, ?_⟩⟩
    · rw [set_self]; simp
    · rw [kset_none hi]; simp [e2]
  | some p =>
    rw [hi] at hf
    refine .inr ⟨p.1, ev p.2, hf, hk _ rfl ⟨mes.modify p.1 fun e => { e with key := .int k a, val := ev v }, ck, ?_, kset_mod (u := p.2) e2 hi⟩⟩
    rw [set_self]; simp

theorem mapDel_kv {a : Int} {K : Hp → Prop} (hm : MapKv h m k ev kvs) (hk : ∀ o, isCells o = false → MapKv (h.set m o) m k ev (kdel a kvs) → K (h.set m o)) : MapDelW (.int k) (some m) (.int k a) K h := by
  obtain ⟨mes, ck, e1, e2⟩ := hm
  have hf := find_kv (ev := ev) a mes kvs 0 e2
  refine .inr ⟨m, mes.toArray, ck, rfl, e1, ?_⟩
  cases hi : kidx a kvs with
  | none =>
    rw [hi] at hf
    refine .inl ⟨hf, hk _ rfl ⟨mes, ck, set_self, ?_⟩⟩
    rw [kdel_none (by rw [kidx_get, hi]; rfl)]
    exact e2
  | some p =>
    rw [hi] at hf
    refine .inr ⟨p.1, ev p.2, hf, hk _ rfl ⟨mes.eraseIdx p.1, ck, ?_, kdel_erase (u := p.2) e2 hi⟩⟩
    rw [set_self]; simp

end
end Lf
