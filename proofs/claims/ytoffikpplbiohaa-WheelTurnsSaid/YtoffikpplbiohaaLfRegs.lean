/-
  Regions of memory that do not meet.
-/
import Derived.Test.YtoffikpplbiohaaLfBlk
namespace Lf
open Go

theorem mv_same {F F' E : List Nat} {k k' : Hp} (m : Mv F k F' k') (hE : ∀ c ∈ E, k c ≠ none) (hd : ∀ c ∈ E, c ∉ F) : ∀ c ∈ E, k' c = k c := fun c hc => by
  cases hk : k c with
  | none => exact absurd hk (hE c hc)
  | some o => exact m.keep c o hk (hd c hc)

theorem mv_disj {F F' E : List Nat} {k k' : Hp} (m : Mv F k F' k') (hE : ∀ c ∈ E, k c ≠ none) (hd : ∀ c ∈ E, c ∉ F) : ∀ c ∈ E, c ∉ F' := fun c hc hf => by
  rcases m.from_ c hf with h | h
  · exact hd c hc h
  · exact hE c hc h

/-- First the one region, then the other one. -/
theorem mv_two {F F' R R' : List Nat} {k k1 k2 : Hp} (m1 : Mv F k F' k1) (m2 : Mv R k1 R' k2) : Mv (F ++ R) k (F' ++ R') k2 := by
  have q1 := m1.wide R
  have q2 : Mv (F' ++ R) k1 (F' ++ R') k2 := m2.sub (fun c hc => List.mem_append_right _ hc) fun c hc => by
    rcases List.mem_append.1 hc with hc | hc
    · exact .inr (.inl (List.mem_append_left _ hc))
    · exact .inl hc
  exact q1.trans q2

/-- Of what is made, some is let go. -/
theorem Mv.less {F F' E : List Nat} {h h' : Hp} (a : Mv F h F' h') (hs : ∀ c ∈ E, c ∈ F') : Mv F h E h' := ⟨a.keep, fun b hb => a.from_ b (hs b hb)⟩

/-- Regions that do not meet, all known, none of them known at first. -/
structure Regs (h k : Hp) (Rg : List (List Nat)) : Prop where
  sep : ∀ (a b : Nat) E G, Rg[a]? = some E → Rg[b]? = some G → a ≠ b → ∀ c ∈ E, c ∉ G
  known : ∀ (a : Nat) E, Rg[a]? = some E → ∀ c ∈ E, k c ≠ none
  fresh : ∀ (a : Nat) E, Rg[a]? = some E → ∀ c ∈ E, h c = none
  le : h ≤ k

theorem Regs.grow {h k k' : Hp} {Rg : List (List Nat)} (r : Regs h k Rg) (hl : k ≤ k') : Regs h k' Rg :=
  ⟨r.sep, fun a E hE c hc e => r.known a E hE c hc (none_of_le hl e), r.fresh, Hp.le_trans r.le hl⟩

theorem Regs.step {h k k' : Hp} {Rg : List (List Nat)} {j : Nat} {F F' : List Nat} (r : Regs h k Rg) (hj : Rg[j]? = some F) (m : Mv F k F' k') (kn : ∀ c ∈ F', k' c ≠ none) : Regs h k' (Rg.set j F') := by
  have hjl : j < Rg.length := (List.getElem?_eq_some_iff.1 hj).1
  have hget : ∀ a E, (Rg.set j F')[a]? = some E → (a = j ∧ E = F') ∨ (a ≠ j ∧ Rg[a]? = some E) := by
    intro a E hE
    rw [List.getElem?_set, if_pos hjl] at hE
    split at hE
    · rename_i e
      exact .inl ⟨e.symm, (Option.some.inj hE).symm⟩
    · rename_i e
      exact .inr ⟨fun e' => e e'.symm, hE⟩
  have hdis : ∀ a E, a ≠ j → Rg[a]? = some E → ∀ c ∈ E, c ∉ F' := fun a E hne hE => mv_disj m (r.known a E hE) (r.sep a j E F hE hj hne)
  have hfr : ∀ c ∈ F', h c = none := (m.le r.le (r.fresh j F hj)).2
  refine ⟨fun a b E G hE hG hab c hc hc' => ?_, fun a E hE c hc => ?_, fun a E hE c hc => ?_, (m.le r.le (r.fresh j F hj)).1⟩
  · rcases hget a E hE with ⟨rfl, rfl⟩ | ⟨h1, h2⟩
    · rcases hget b G hG with ⟨rfl, rfl⟩ | ⟨h3, h4⟩
      · exact hab rfl
      · exact hdis b G h3 h4 c hc' hc
    · rcases hget b G hG with ⟨rfl, rfl⟩ | ⟨h3, h4⟩
      · exact hdis a E h1 h2 c hc hc'
      · exact r.sep a b E G h2 h4 hab c hc hc'
  · rcases hget a E hE with ⟨rfl, rfl⟩ | ⟨h1, h2⟩
    · exact kn c hc
    · have := mv_same m (r.known a E h2) (r.sep a j E F h2 hj h1) c hc
      rw [this]
      exact r.known a E h2 c hc
  · rcases hget a E hE with ⟨rfl, rfl⟩ | ⟨h1, h2⟩
    · exact hfr c hc
    · exact r.fresh a E h2 c hc

theorem Regs.other {h k k' : Hp} {Rg : List (List Nat)} {j a : Nat} {F F' E : List Nat} (r : Regs h k Rg) (hj : Rg[j]? = some F) (m : Mv F k F' k') (ha : Rg[a]? = some E) (hne : a ≠ j) : ∀ c ∈ E, k' c = k c :=
  mv_same m (r.known a E ha) (r.sep a j E F ha hj hne)

theorem Regs.push {h k k' : Hp} {Rg : List (List Nat)} {E : List Nat} (r : Regs h k Rg) (hl : k ≤ k') (hn : ∀ c ∈ E, k c = none) (kn : ∀ c ∈ E, k' c ≠ none) : Regs h k' (Rg ++ [E]) := by
  have hget : ∀ a G, (Rg ++ [E])[a]? = some G → (a = Rg.length ∧ G = E) ∨ (a < Rg.length ∧ Rg[a]? = some G) := by
    intro a G hG
    by_cases h1 : a < Rg.length
    · rw [List.getElem?_append_left h1] at hG
      exact .inr ⟨h1, hG⟩
    · rw [List.getElem?_append_right (by omega)] at hG
      have h2 : a - Rg.length = 0 := by
        have := (List.getElem?_eq_some_iff.1 hG).1
        simp at this
        omega
      rw [h2] at hG
      exact .inl ⟨by omega, (Option.some.inj hG).symm⟩
  refine ⟨fun a b A B hA hB hab c hc hc' => ?_, fun a A hA c hc => ?_, fun a A hA c hc => ?_, Hp.le_trans r.le hl⟩
  · rcases hget a A hA with ⟨rfl, rfl⟩ | ⟨h1, h2⟩
    · rcases hget b B hB with ⟨rfl, rfl⟩ | ⟨h3, h4⟩
      · exact hab rfl
      · exact r.known b B h4 c hc' (hn c hc)
    · rcases hget b B hB with ⟨rfl, rfl⟩ | ⟨h3, h4⟩
      · exact r.known a A h2 c hc (hn c hc')
      · exact r.sep a b A B h2 h4 hab c hc hc'
  · rcases hget a A hA with ⟨rfl, rfl⟩ | ⟨h1, h2⟩
    · exact kn c hc
    · exact fun e => r.known a A h2 c hc (none_of_le hl e)
  · rcases hget a A hA with ⟨rfl, rfl⟩ | ⟨h1, h2⟩
    · exact none_of_le r.le (hn c hc)
    · exact r.fresh a A h2 c hc

end Lf
