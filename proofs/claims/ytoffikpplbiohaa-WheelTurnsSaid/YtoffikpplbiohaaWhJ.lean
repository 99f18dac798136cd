/-
  Every call, of several wheels beside one another.
-/
import Derived.Test.YtoffikpplbiohaaWhI
namespace Lf
open Go Go.Proofs

abbrev eP : Option Addr → List Value := fun x => cellsL (shPtr.enc x)

def allOf (t : Two) : List Nat := t.F ++ t.R

/-- Wheels and the reference's ones, in two lists. -/
structure Inv (h k : Hp) (l all : Sl) (st : List Two) (Gl Ga : List Nat) : Prop where
  l : OwnF k 1 eP l (st.map fun t => some t.p) Gl
  a : OwnF k 1 eP all (st.map fun t => some t.q) Ga
  g : ∀ t ∈ st, GoodT k t
  r : Regs h k (Gl :: Ga :: st.map allOf)

theorem map_set_same {α β : Type} (f : α → β) {l : List α} {j : Nat} {t t' : α} (ht : l[j]? = some t) (hf : f t' = f t) : (l.set j t').map f = l.map f := by
  apply List.ext_getElem?
  intro i
  rw [List.getElem?_map, List.getElem?_map, List.getElem?_set]
  split
  · rename_i e
    subst e
    have hjl := (List.getElem?_eq_some_iff.1 ht).1
    rw [if_pos hjl, ht]
    simp [hf]
  · rfl

theorem Inv.step {h k k' : Hp} {l all : Sl} {st : List Two} {Gl Ga : List Nat} {j : Nat} {t t' : Two} (v : Inv h k l all st Gl Ga) (ht : st[j]? = some t) (g : GoodT k' t') (hp : t'.p = t.p) (hq : t'.q = t.q) (m : Mv (allOf t) k (allOf t') k') :
    Inv h k' l all (st.set j t') Gl Ga := by
  have hj : (Gl :: Ga :: st.map allOf)[j + 2]? = some (allOf t) := by simp [ht]
  have o0 := v.r.other hj m (a := 0) (E := Gl) rfl (by omega)
  have o1 := v.r.other hj m (a := 1) (E := Ga) rfl (by omega)
  refine ⟨?_, ?_, fun u hu => ?_, ?_⟩
  · rw [map_set_same (fun t => some t.p) ht (by rw [hp])]
    exact v.l.same o0
  · rw [map_set_same (fun t => some t.q) ht (by rw [hq])]
    exact v.a.same o1
  · obtain ⟨i, hi⟩ := List.mem_iff_getElem?.1 hu
    rw [List.getElem?_set] at hi
    split at hi
    · rename_i e
      split at hi
      · cases hi; exact g
      · cases hi
    · rename_i e
      have hi2 : (Gl :: Ga :: st.map allOf)[i + 2]? = some (allOf u) := by simp [hi]
      exact (v.g u (List.mem_of_getElem? hi)).same (v.r.other hj m hi2 (by omega))
  · have := v.r.step hj m g.parts
    have e : (Gl :: Ga :: st.map allOf).set (j + 2) (allOf t') = Gl :: Ga :: (st.set j t').map allOf := by
      simp [List.map_set]
    rw [e] at this
    exact this

theorem Inv.grow {h k k' : Hp} {l all : Sl} {st : List Two} {Gl Ga : List Nat} (v : Inv h k l all st Gl Ga) (hl : k ≤ k') : Inv h k' l all st Gl Ga := by
  have hs : ∀ (a : Nat) E, (Gl :: Ga :: st.map allOf)[a]? = some E → ∀ c ∈ E, k' c = k c := fun a E hE c hc => by
    cases hk : k c with
    | none => exact absurd hk (v.r.known a E hE c hc)
    | some o => exact hl c o hk
  refine ⟨v.l.same (hs 0 Gl rfl), v.a.same (hs 1 Ga rfl), fun t ht => ?_, v.r.grow hl⟩
  obtain ⟨i, hi⟩ := List.mem_iff_getElem?.1 ht
  exact (v.g t ht).same (hs (i + 2) (allOf t) (by simp [hi]))

/-- Another pair. -/
theorem push_ok2 {h k : Hp} {l all : Sl} {st : List Two} {Gl Ga : List Nat} {p : Addr} {F : List Nat} {K : Sl → Sl → Hp → Prop} {k0 : Hp} (v : Inv h k0 l all st Gl Ga) (h0 : k0 ≤ k) (hF : ∀ b ∈ F, k0 b = none) (w : Wh k p [] F) (hl : st.length ≤ 1000)
    (hk : ∀ r3 r4 h13 q R Gl' Ga', Inv h h13 r3 r4 (st ++ [⟨p, [], F, q, [], R⟩]) Gl' Ga' → K r3 r4 h13) :
    NewW [(.pointer (some p))] (fun a3 h9 => AppendW 1 8 [(.pointer none)] l ⟨(some a3), 1, 1⟩ (fun r3 h10 =>
      NewW [(.slice none 0 0)] (fun a4 h11 => NewW [(.pointer (some a4))] (fun a5 h12 =>
      AppendW 1 8 [(.pointer none)] all ⟨(some a5), 1, 1⟩ (fun r4 h13 => K r3 r4 h13) h12) h11) h10) h9) k := by
  have v1 := v.grow h0
  have r1 : Regs h k ((Gl :: Ga :: st.map allOf) ++ [F]) := v.r.push h0 hF w.known
  refine newF (xs := [some p]) (enc := eP) (sz := 1) rfl (fun _ => rfl) fun b3 h9 hb3 l9 m9 o9 => ?_
  have v9 := v1.grow l9
  have r9 := r1.grow l9
  have w9 : Wh h9 p [] F := w.same fun c hc => by
    cases hk : k c with
    | none => exact absurd hk (w.known c hc)
    | some o => exact l9 c o hk
  have len1 : (Gl :: Ga :: st.map allOf).length = st.length + 2 := by simp
  have fAt : ∀ (A B : List Nat), (A :: B :: st.map allOf ++ [F])[st.length + 2]? = some F := fun A B => by
    rw [List.getElem?_append_right (by simp)]
    simp
  have tAt : ∀ (A B : List Nat) (i : Nat) t, st[i]? = some t → (A :: B :: st.map allOf ++ [F])[i + 2]? = some (allOf t) := fun A B i t hi => by
    have hil := (List.getElem?_eq_some_iff.1 hi).1
    rw [List.getElem?_append_left (by simp; omega)]
    simp [hi]
  refine appF v9.l (o9.rw fun _ => rfl) (fun _ => rfl) (fun _ => rfl) rfl (by simp; omega) fun r3 h10 Gl' o10 m10 => ?_
  have r10 : Regs h h10 (Gl' :: Ga :: st.map allOf ++ [F]) := r9.step (j := 0) (F := Gl) rfl m10 o10.known
  have s10 : ∀ (a : Nat) E, (Gl :: Ga :: st.map allOf ++ [F])[a]? = some E → a ≠ 0 → ∀ c ∈ E, h10 c = h9 c := fun a E hE hne => r9.other (j := 0) (F := Gl) rfl m10 hE hne
  have a10 : OwnF h10 1 eP all (st.map fun t => some t.q) Ga := v9.a.same (s10 1 Ga rfl (by omega))
  have w10 : Wh h10 p [] F := w9.same (s10 (st.length + 2) F (fAt _ _) (by omega))
  have g10 : ∀ t ∈ st, GoodT h10 t := fun t ht => by
    obtain ⟨i, hi⟩ := List.mem_iff_getElem?.1 ht
    exact (v9.g t ht).same (s10 (i + 2) _ (tAt _ _ i t hi) (by omega))
  intro b4 t4 hb4
  have l11 := set_new (o := .cells (([.slice none 0 0] : List Value).toArray) t4 (0, 0)) hb4
  have x11 : RefW (h10.set b4 (.cells (([.slice none 0 0] : List Value).toArray) t4 (0, 0))) ⟨b4, 0, none⟩ [] [b4] := ⟨b4, ⟨none, 0, 0⟩, [], rfl, rfl, ⟨t4, set_self⟩, ⟨rfl, Nat.le_refl _, .inl ⟨rfl, rfl, rfl⟩⟩, by simp⟩
  generalize h10.set b4 (.cells (([.slice none 0 0] : List Value).toArray) t4 (0, 0)) = h11 at l11 x11
  have r11 : Regs h h11 ((Gl' :: Ga :: st.map allOf ++ [F]) ++ [[b4]]) := r10.push l11 (fun c hc => by rw [List.mem_singleton.1 hc]; exact hb4) x11.known
  refine newF (xs := [some (⟨b4, 0, none⟩ : Addr)]) (enc := eP) (sz := 1) rfl (fun _ => rfl) fun b5 h12 hb5 l12 m12 o12 => ?_
  have r12 := r11.grow l12
  have l1012 := Hp.le_trans l11 l12
  have s12 : ∀ (a : Nat) E, ((Gl' :: Ga :: st.map allOf ++ [F]) ++ [[b4]])[a]? = some E → ∀ c ∈ E, h11 c ≠ none → h12 c = h11 c := fun a E hE c hc hk => by
    cases hk' : h11 c with
    | none => exact absurd hk' hk
    | some o => exact l12 c o hk'
  have le_same : ∀ {E : List Nat} {x y : Hp}, x ≤ y → (∀ c ∈ E, x c ≠ none) → ∀ c ∈ E, y c = x c := fun hl hE c hc => by
    rename_i x y
    cases hk' : x c with
    | none => exact absurd hk' (hE c hc)
    | some o => exact hl c o hk'
  have a12 : OwnF h12 1 eP all (st.map fun t => some t.q) Ga := a10.same (le_same l1012 a10.known)
  have w12 : Wh h12 p [] F := w10.same (le_same l1012 w10.known)
  have x12 : RefW h12 ⟨b4, 0, none⟩ [] [b4] := x11.same (le_same l12 x11.known)
  have g12 : ∀ t ∈ st, GoodT h12 t := fun t ht => (g10 t ht).same (le_same l1012 (g10 t ht).parts)
  have lo12 : OwnF h12 1 eP r3 (st.map (fun t => some t.p) ++ [some p]) Gl' := o10.same (le_same l1012 o10.known)
  refine appF a12 (o12.rw fun _ => rfl) (fun _ => rfl) (fun _ => rfl) rfl (by simp; omega) fun r4 h13 Ga' o13 m13 => ?_
  have r13 : Regs h h13 (Gl' :: Ga' :: st.map allOf ++ [F] ++ [[b4]]) := r12.step (j := 1) (F := Ga) rfl m13 o13.known
  have s13 : ∀ (a : Nat) E, ((Gl' :: Ga :: st.map allOf ++ [F]) ++ [[b4]])[a]? = some E → a ≠ 1 → ∀ c ∈ E, h13 c = h12 c := fun a E hE hne => r12.other (j := 1) (F := Ga) rfl m13 hE hne
  have fAt2 : ((Gl' :: Ga :: st.map allOf ++ [F]) ++ [[b4]])[st.length + 2]? = some F := by
    rw [List.getElem?_append_left (by simp)]
    exact fAt _ _
  have xAt2 : ((Gl' :: Ga :: st.map allOf ++ [F]) ++ [[b4]])[st.length + 3]? = some [b4] := by
    rw [List.getElem?_append_right (by simp)]
    simp
  have w13 : Wh h13 p [] F := w12.same (s13 _ F fAt2 (by omega))
  have x13 : RefW h13 ⟨b4, 0, none⟩ [] [b4] := x12.same (s13 _ [b4] xAt2 (by omega))
  have g13 : ∀ t ∈ st, GoodT h13 t := fun t ht => by
    obtain ⟨i, hi⟩ := List.mem_iff_getElem?.1 ht
    have hil := (List.getElem?_eq_some_iff.1 hi).1
    refine (g12 t ht).same (s13 (i + 2) _ ?_ (by omega))
    rw [List.getElem?_append_left (by simp; omega)]
    exact tAt _ _ i t hi
  have lo13 : OwnF h13 1 eP r3 (st.map (fun t => some t.p) ++ [some p]) Gl' := lo12.same (s13 0 Gl' rfl (by omega))
  have hFb : ∀ c ∈ F, c ∉ [b4] := r13.sep (st.length + 2) (st.length + 3) F [b4] (by
      rw [List.getElem?_append_left (by simp), List.getElem?_append_right (by simp)]
      simp) (by
      rw [List.getElem?_append_right (by simp)]
      simp) (by omega)
  refine hk r3 r4 h13 ⟨b4, 0, none⟩ [b4] Gl' Ga' ⟨by simpa using lo13, by simpa using o13, fun t ht => ?_, ?_⟩
  · rcases List.mem_append.1 ht with ht | ht
    · exact g13 t ht
    · rw [List.mem_singleton.1 ht]
      exact ⟨w13, x13, List.Perm.refl _, hFb⟩
  · have e1 : (Gl' :: Ga' :: (st ++ [(⟨p, [], F, ⟨b4, 0, none⟩, [], [b4]⟩ : Two)]).map allOf) = (Gl' :: Ga' :: st.map allOf) ++ [F ++ [b4]] := by simp [allOf]
    rw [e1]
    -- two regions taken together
    have hget : ∀ a E, ((Gl' :: Ga' :: st.map allOf) ++ [F ++ [b4]])[a]? = some E → (a = st.length + 2 ∧ E = F ++ [b4]) ∨ (a < st.length + 2 ∧ (Gl' :: Ga' :: st.map allOf ++ [F] ++ [[b4]])[a]? = some E) := by
      intro a E hE
      by_cases h1 : a < st.length + 2
      · rw [List.getElem?_append_left (by simp; omega)] at hE
        refine .inr ⟨h1, ?_⟩
        rw [List.getElem?_append_left (by simp; omega), List.getElem?_append_left (by simp; omega)]
        exact hE
      · rw [List.getElem?_append_right (by simp; omega)] at hE
        have h2 := (List.getElem?_eq_some_iff.1 hE).1
        simp at h2
        have h3 : a = st.length + 2 := by omega
        subst h3
        simp at hE
        exact .inl ⟨rfl, hE.symm⟩
    have cF : (Gl' :: Ga' :: st.map allOf ++ [F] ++ [[b4]])[st.length + 2]? = some F := by
      rw [List.getElem?_append_left (by simp), List.getElem?_append_right (by simp)]
      simp
    have cB : (Gl' :: Ga' :: st.map allOf ++ [F] ++ [[b4]])[st.length + 3]? = some [b4] := by
      rw [List.getElem?_append_right (by simp)]
      simp
    refine ⟨fun a b A B hA hB hab c hc hc' => ?_, fun a A hA c hc => ?_, fun a A hA c hc => ?_, r13.le⟩
    · rcases hget a A hA with ⟨rfl, rfl⟩ | ⟨h1, h2⟩
      · rcases hget b B hB with ⟨rfl, rfl⟩ | ⟨h3, h4⟩
        · exact hab rfl
        · rcases List.mem_append.1 hc with hc | hc
          · exact r13.sep _ _ _ _ cF h4 (by omega) c hc hc'
          · exact r13.sep _ _ _ _ cB h4 (by omega) c hc hc'
      · rcases hget b B hB with ⟨rfl, rfl⟩ | ⟨h3, h4⟩
        · rcases List.mem_append.1 hc' with hc' | hc'
          · exact r13.sep _ _ _ _ h2 cF (by omega) c hc hc'
          · exact r13.sep _ _ _ _ h2 cB (by omega) c hc hc'
        · exact r13.sep _ _ _ _ h2 h4 hab c hc hc'
    · rcases hget a A hA with ⟨rfl, rfl⟩ | ⟨h1, h2⟩
      · rcases List.mem_append.1 hc with hc | hc
        · exact r13.known _ _ cF c hc
        · exact r13.known _ _ cB c hc
      · exact r13.known _ _ h2 c hc
    · rcases hget a A hA with ⟨rfl, rfl⟩ | ⟨h1, h2⟩
      · rcases List.mem_append.1 hc with hc | hc
        · exact r13.fresh _ _ cF c hc
        · exact r13.fresh _ _ cB c hc
      · exact r13.fresh _ _ h2 c hc

end Lf
