/-
  A table in memory.
-/
import Derived.Test.YtoffikpplbiohaaTbE
namespace Lf
open Go Go.Proofs

/-- The entries of a table's map. -/
def ents : List Int → Nat → List MapEntry
  | [], _ => []
  | x :: r, j => { key := .int .u64 x, val := .int .i64 (j : Int), born := j } :: ents r (j + 1)

/-- The place of a number in a list. -/
def place (a : Int) : List Int → Nat → Option Nat
  | [], _ => none
  | x :: r, j => if a = x then some j else place a r (j + 1)

theorem find_ents (a : Int) : ∀ (ls : List Int) (j : Nat), Instr.findNow (.int .u64) (.int .u64 a) (ents ls j) j = some ((place a ls j).map fun (k : Nat) => (k, Value.int .i64 (k : Int)))
  | [], j => rfl
  | x :: r, j => by
    simp only [ents, Instr.findNow, Instr.sameNow, if_true, place]
    by_cases h : a = x
    · simp [h]
    · have : (a == x) = false := by simpa using h
      rw [this]
      simp only [if_neg h]
      exact find_ents a r (j + 1)

theorem ents_snoc : ∀ (ls : List Int) (x : Int) (j : Nat), ents (ls ++ [x]) j = ents ls j ++ [{ key := .int .u64 x, val := .int .i64 ((j + ls.length : Nat) : Int), born := j + ls.length }]
  | [], x, j => by simp [ents]
  | y :: r, x, j => by
    simp only [List.cons_append, ents, ents_snoc r x (j + 1), List.length_cons]
    have : j + 1 + r.length = j + (r.length + 1) := by omega
    rw [this]

theorem place_none {a : Int} : ∀ {ls : List Int} {j : Nat}, a ∉ ls → place a ls j = none
  | [], _, _ => rfl
  | x :: r, j, h => by
    simp only [place]
    rw [if_neg fun e => h (by rw [e]; exact List.mem_cons_self ..)]
    exact place_none fun e => h (List.mem_cons_of_mem _ e)

theorem place_get {a : Int} : ∀ {ls : List Int} {j k : Nat}, place a ls j = some k → j ≤ k ∧ ls[k - j]? = some a
  | [], _, _, h => by cases h
  | x :: r, j, k, h => by
    simp only [place] at h
    split at h
    · rename_i e
      cases h
      simp [e]
    · obtain ⟨h1, h2⟩ := place_get h
      refine ⟨by omega, ?_⟩
      rw [show k - j = (k - (j + 1)) + 1 from by omega]
      simpa using h2

/-- A table. -/
structure Tab (h : Hp) (p : Addr) (ls : List Int) : Prop where
  ex : ∃ (sl : Sl) (m : Nat), LdIs h p [sl.v, .map (some m)] ∧ Us h sl ls ∧ h m = some (.map (ents ls 0).toArray ls.length)

theorem Tab.mono {h h' : Hp} {p : Addr} {ls : List Int} (hl : h ≤ h') (t : Tab h p ls) : Tab h' p ls := by
  obtain ⟨sl, m, h1, h2, h3⟩ := t.ex
  exact ⟨sl, m, ldIs_mono hl h1, h2.mono hl, hl _ _ h3⟩

theorem Tab.sl {h : Hp} {p : Addr} {ls : List Int} (t : Tab h p ls) {K : Sl → Prop} (hk : ∀ sl, Us h sl ls → K sl) : LdW none shSl h (p.add 0) K := by
  obtain ⟨sl, m, h1, h2, h3⟩ := t.ex
  refine ⟨sl, fun i v hv => ?_, hk sl h2⟩
  cases i with
  | zero =>
    have := h1 0 v (by simpa [cellsL, Sl.v] using hv)
    rw [add_add]
    exact this
  | succ i => simp [cellsL] at hv

theorem Tab.slC {h : Hp} {p : Addr} {ls : List Int} (t : Tab h p ls) {c : Bool} {K : Sl → Prop} (hk : ∀ sl, Us h sl ls → K sl) : LdW (some c) shSl h (p.add 0) K := by
  obtain ⟨sl, h1, h2⟩ := t.sl hk
  exact ⟨sl, fun _ => h1, h2⟩

theorem Tab.map {h : Hp} {p : Addr} {ls : List Int} (t : Tab h p ls) {K : Option Nat → Prop} (hk : ∀ m, h m = some (.map (ents ls 0).toArray ls.length) → K (some m)) : LdW none shMap h (p.add 1) K := by
  obtain ⟨sl, m, h1, h2, h3⟩ := t.ex
  refine ⟨some m, fun i v hv => ?_, hk m h3⟩
  cases i with
  | zero =>
    have := h1 1 v (by simpa [cellsL] using hv)
    rw [add_add]
    exact this
  | succ i => simp [cellsL] at hv

theorem notNil {p : Addr} {c : Option Bool} {K : Addr → Prop} (hk : K p) : NilW c (some p) K := by
  refine ⟨p, ?_, hk⟩
  cases c with
  | none => rfl
  | some b => exact fun _ => rfl

theorem tabLen_ok {p : Addr} {ls : List Int} {Q : Int → Hp → Prop} {h : Hp} (t : Tab h p ls) (hq : Q (ls.length : Int) h) : table_Table_Len_w Try.prog (some p) Q h := by
  unfold table_Table_Len_w
  refine notNil (t.sl fun sl hs => ?_)
  rw [hs.1]
  exact hq

theorem tabIs_ok {p : Addr} {ls : List Int} {i : Int} {Q : Bool → Hp → Prop} {h : Hp} (t : Tab h p ls) (hq : Q (decide (0 ≤ i) && decide (i < (ls.length : Int))) h) : table_Table_is_w Try.prog (some p) i Q h := by
  unfold table_Table_is_w
  refine notNil (t.slC fun sl hs => letW ?_)
  rw [hs.1]
  exact hq

theorem tabIndex_ok {p : Addr} {ls : List Int} {a : Int} {Q : Int → Bool → Hp → Prop} {h : Hp} (t : Tab h p ls) (h0 : place a ls 0 = none → Q 0 false h) (h1 : ∀ k, place a ls 0 = some k → Q (k : Int) true h) : table_Table_Index_w Try.prog (some p) a Q h := by
  unfold table_Table_Index_w
  refine notNil (t.map fun m hm => ?_)
  have hf := find_ents a ls 0
  cases hp : place a ls 0 with
  | none =>
    rw [hp] at hf
    exact ⟨0, false, ⟨_, .inr ⟨m, _, rfl, hm⟩, .inl ⟨hf, rfl, rfl⟩⟩, h0 hp⟩
  | some k =>
    rw [hp] at hf
    exact ⟨(k : Int), true, ⟨_, .inr ⟨m, _, rfl, hm⟩, .inr ⟨k, hf, rfl⟩⟩, h1 k hp⟩

end Lf
