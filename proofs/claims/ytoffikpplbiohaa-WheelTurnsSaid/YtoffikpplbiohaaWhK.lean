/-
  The law's own walk.
-/
import Derived.Test.YtoffikpplbiohaaWhJ
namespace Lf
open Go Go.Proofs

abbrev eOp : S_firebreaklaw11_Op → List Value := fun x => cellsL (sh_firebreaklaw11_Op.enc x)

theorem mod_in {a n : Int} (hn : 0 < n) : (if a.tmod n < 0 then a.tmod n + n else a.tmod n) ≥ 0 ∧ (if a.tmod n < 0 then a.tmod n + n else a.tmod n) < n := by
  have h1 : a.tmod n < n := Int.tmod_lt_of_pos a hn
  have h2 : -n < a.tmod n := by
    have := Int.lt_tmod_of_pos a hn
    omega
  split <;> omega

set_option maxHeartbeats 2000000 in
set_option maxRecDepth 20000 in
theorem wheelTurns_ok {script : Sl} {os : List S_firebreaklaw11_Op} {Q : Bool → Hp → Prop} {h : Hp} (rs : Rw h 4 eOp script os) (hl : os.length ≤ 4398046511104) (hat : ∀ o ∈ os, o.At ≤ 9223372036854775807) (hq : ∀ h', h ≤ h' → Q true h') :
    firebreaklaw11_WheelTurns_w Try.prog script Q h := by
  unfold firebreaklaw11_WheelTurns_w
  have hsl := rs.1
  refine firebreaklaw11_cleared_call (cleared_ok fun h1 l1 => ?_)
  rw [if_neg (by simp)]
  refine wheel_New_call (whNew_ok fun p F h2 l2 f2 w2 => ?_)
  have l02 := Hp.le_trans l1 l2
  -- the first pair
  refine newF (xs := [some p]) (enc := eP) (sz := 1) rfl (fun _ => rfl) fun b3 h3 hb3 l3 m3 o3 => ?_
  intro b4 t4 hb4
  have l4 := set_new (o := .cells (([.slice none 0 0] : List Value).toArray) t4 (0, 0)) hb4
  have x4 : RefW (h3.set b4 (.cells (([.slice none 0 0] : List Value).toArray) t4 (0, 0))) ⟨b4, 0, none⟩ [] [b4] := ⟨b4, ⟨none, 0, 0⟩, [], rfl, rfl, ⟨t4, set_self⟩, ⟨rfl, Nat.le_refl _, .inl ⟨rfl, rfl, rfl⟩⟩, by simp⟩
  generalize h3.set b4 (.cells (([.slice none 0 0] : List Value).toArray) t4 (0, 0)) = h4 at l4 x4
  refine newF (xs := [some (⟨b4, 0, none⟩ : Addr)]) (enc := eP) (sz := 1) rfl (fun _ => rfl) fun b5 h5 hb5 l5 m5 o5 => ?_
  have le_same : ∀ {E : List Nat} {x y : Hp}, x ≤ y → (∀ c ∈ E, x c ≠ none) → ∀ c ∈ E, y c = x c := fun hl hE c hc => by
    rename_i x y
    cases hk' : x c with
    | none => exact absurd hk' (hE c hc)
    | some o => exact hl c o hk'
  have l35 := Hp.le_trans l4 l5
  have l25 := Hp.le_trans l3 l35
  have w5 : Wh h5 p [] F := w2.same (le_same l25 w2.known)
  have x5 : RefW h5 ⟨b4, 0, none⟩ [] [b4] := x4.same (le_same l5 x4.known)
  have ol5 : OwnF h5 1 eP ⟨some ⟨b3, 0, none⟩, 1, 1⟩ [some p] [b3] := o3.same (le_same l35 o3.known)
  have inv0 : Inv h h5 ⟨some ⟨b3, 0, none⟩, 1, 1⟩ ⟨some ⟨b5, 0, none⟩, 1, 1⟩ [⟨p, [], F, ⟨b4, 0, none⟩, [], [b4]⟩] [b3] [b5] := by
    have n1 : ∀ c ∈ F, h c = none := fun c hc => none_of_le l1 (f2 c hc)
    have n3 : h b3 = none := none_of_le l02 hb3
    have n4 : h b4 = none := none_of_le (Hp.le_trans l02 l3) hb4
    have n5 : h b5 = none := none_of_le (Hp.le_trans l02 (Hp.le_trans l3 l4)) hb5
    have d3 : ∀ c ∈ F, c ≠ b3 := fun c hc e => w2.known c hc (by rw [e]; exact hb3)
    have d4 : ∀ c ∈ F, c ≠ b4 := fun c hc e => w2.known c hc (by rw [e]; exact none_of_le l3 hb4)
    have d5 : ∀ c ∈ F, c ≠ b5 := fun c hc e => w2.known c hc (by rw [e]; exact none_of_le (Hp.le_trans l3 l4) hb5)
    have d34 : b3 ≠ b4 := fun e => o3.known b3 (by simp) (by rw [e]; exact hb4)
    have d35 : b3 ≠ b5 := fun e => o3.known b3 (by simp) (by rw [e]; exact none_of_le l4 hb5)
    have d45 : b4 ≠ b5 := fun e => x4.known b4 (by simp) (by rw [e]; exact hb5)
    refine ⟨ol5, o5, fun t ht => ?_, ⟨fun a b E G hE hG hab c hc hc' => ?_, fun a E hE c hc => ?_, fun a E hE c hc => ?_, Hp.le_trans l02 l25⟩⟩
    · rw [List.mem_singleton.1 ht]
      exact ⟨w5, x5, List.Perm.refl _, fun c hc => by simpa using d4 c hc⟩
    · match a, b, hE, hG with
      | 0, 0, _, _ => exact hab rfl
      | 1, 1, _, _ => exact hab rfl
      | 2, 2, _, _ => exact hab rfl
      | 0, 1, hE, hG => cases hE; cases hG; simp at hc hc'; exact d35 (hc.symm.trans hc')
      | 1, 0, hE, hG => cases hE; cases hG; simp at hc hc'; exact d35 (hc'.symm.trans hc)
      | 0, 2, hE, hG =>
        cases hE; cases hG; simp [allOf] at hc hc'
        rcases hc' with hc' | hc'
        · exact d3 c hc' hc
        · exact d34 (hc.symm.trans hc')
      | 2, 0, hE, hG =>
        cases hE; cases hG; simp [allOf] at hc hc'
        rcases hc with hc | hc
        · exact d3 c hc hc'
        · exact d34 (hc'.symm.trans hc)
      | 1, 2, hE, hG =>
        cases hE; cases hG; simp [allOf] at hc hc'
        rcases hc' with hc' | hc'
        · exact d5 c hc' hc
        · exact d45 (hc'.symm.trans hc)
      | 2, 1, hE, hG =>
        cases hE; cases hG; simp [allOf] at hc hc'
        rcases hc with hc | hc
        · exact d5 c hc hc'
        · exact d45 (hc.symm.trans hc')
      | a + 3, _, hE, _ => simp at hE
      | 0, b + 3, _, hG => simp at hG
      | 1, b + 3, _, hG => simp at hG
      | 2, b + 3, _, hG => simp at hG
    · match a, hE with
      | 0, hE => cases hE; exact ol5.known c hc
      | 1, hE => cases hE; exact o5.known c hc
      | 2, hE =>
        cases hE
        rcases List.mem_append.1 hc with hc | hc
        · exact w5.known c hc
        · exact x5.known c hc
      | a + 3, hE => simp at hE
    · match a, hE with
      | 0, hE => cases hE; simp at hc; rw [hc]; exact n3
      | 1, hE => cases hE; simp at hc; rw [hc]; exact n5
      | 2, hE =>
        cases hE
        simp [allOf] at hc
        rcases hc with hc | hc
        · exact n1 c hc
        · rw [hc]; exact n4
      | a + 3, hE => simp at hE
  -- behind the script
  refine JoinW2.intro (fun l all k => ∃ st Gl Ga, Inv h k l all st Gl Ga ∧ st.length ≤ 1000 ∧ ∀ t ∈ st, t.es.length ≤ 4398046511104 ∧ ∀ e ∈ t.es, e.due ≤ 9223372036854775807) ?_ ?_
  · refine LoopW3.intro (fun l all i k => ∃ st Gl Ga, Inv h k l all st Gl Ga ∧ 1 ≤ st.length ∧ st.length ≤ 1000 ∧ 0 ≤ i ∧ i ≤ (os.length : Int) ∧ ∀ t ∈ st, (t.es.length : Int) ≤ i ∧ ∀ e ∈ t.es, e.due ≤ 9223372036854775807) (fun _ _ i _ => (os.length - i).toNat)
      ⟨_, _, _, inv0, by simp, by simp, by omega, by omega, fun t ht => by rw [List.mem_singleton.1 ht]; simp⟩ ?_
    rintro l all i k ⟨st, Gl, Ga, v, hs1, hs2, hi0, hi1, hes⟩
    have hll := v.l.1
    have hal := v.a.1
    simp at hll hal
    have rl : Rs k shPtr 1 l (st.map fun t => some t.p) := v.l.rw fun _ => rfl
    have ra : Rs k shPtr 1 all (st.map fun t => some t.q) := v.a.rw fun _ => rfl
    rw [if_pos (show decide (i ≤ (script.len : Int)) = true by simp; omega)]
    refine JoinW2.intro (fun l all k => ∃ st Gl Ga, Inv h k l all st Gl Ga ∧ 1 ≤ st.length ∧ st.length ≤ 1000 ∧ i < (os.length : Int) ∧ ∀ t ∈ st, (t.es.length : Int) ≤ i + 1 ∧ ∀ e ∈ t.es, e.due ≤ 9223372036854775807) ?_ ?_
    · rw [wrap64 (by omega) (by omega)]
      refine Rs.get rl (fun _ => rfl) (by omega) (by omega) (by simp; omega) fun (x : Option Addr) hx => ?_
      have hxs : Option.isNone x = false := by
        rw [List.getElem?_map] at hx
        cases hst : st[((l.len : Int) - 1).toNat]? with
        | none => rw [hst] at hx; cases hx
        | some t => rw [hst] at hx; cases hx; rfl
      rw [hxs, if_neg (by simp)]
      by_cases hend : i = (os.length : Int)
      · rw [if_pos (show ((i == (script.len : Int)) = true) by simp; omega)]
        exact ⟨st, Gl, Ga, v, hs2, fun t ht => ⟨by have := (hes t ht).1; omega, (hes t ht).2⟩⟩
      · rw [if_neg (show ¬ ((i == (script.len : Int)) = true) by simp; omega)]
        refine Rs.get (sh := sh_firebreaklaw11_Op) (rs.mono v.r.le) (fun _ => rfl) (by omega) hi0 (by omega) fun (o : S_firebreaklaw11_Op) ho => ?_
        refine ⟨by omega, ?_⟩
        have hmod := mod_in (a := o.On) (n := (l.len : Int)) (by omega)
        refine JoinW1.intro (fun j k' => k' = k ∧ 0 ≤ j ∧ j < (l.len : Int)) ?_ ?_
        · by_cases hneg : o.On.tmod (l.len : Int) < 0
          · rw [if_pos (by simpa using hneg)]
            rw [if_pos hneg] at hmod
            rw [wrap64 (by omega) (by omega)]
            exact ⟨rfl, hmod.1, hmod.2⟩
          · rw [if_neg (by simpa using hneg)]
            rw [if_neg hneg] at hmod
            exact ⟨rfl, hmod.1, hmod.2⟩
        · rintro j k' ⟨rfl, hj0, hj1⟩
          by_cases hk1 : o.Kind = 1
          · rw [if_pos (by simpa using hk1)]
            by_cases hfull : (l.len : Int) < 1000
            · rw [if_pos (decide_eq_true hfull)]
              refine wheel_New_call (whNew_ok fun p' F' h8 l8 f8 w8 => ?_)
              refine push_ok2 (K := fun r3 r4 h13 => ∃ st Gl Ga, Inv h h13 r3 r4 st Gl Ga ∧ 1 ≤ st.length ∧ st.length ≤ 1000 ∧ i < (os.length : Int) ∧ ∀ t ∈ st, (t.es.length : Int) ≤ i + 1 ∧ ∀ e ∈ t.es, e.due ≤ 9223372036854775807) v l8 f8 w8 hs2 fun r3 r4 h13 q R Gl' Ga' v' => ?_
              refine ⟨_, Gl', Ga', v', by simp, by simp; omega, by omega, fun t ht => ?_⟩
              rcases List.mem_append.1 ht with ht | ht
              · exact ⟨by have := (hes t ht).1; omega, (hes t ht).2⟩
              · rw [List.mem_singleton.1 ht]
                exact ⟨by simp; omega, by simp⟩
            · rw [if_neg fun hh => hfull (of_decide_eq_true hh)]
              exact ⟨st, Gl, Ga, v, hs1, hs2, by omega, fun t ht => ⟨by have := (hes t ht).1; omega, (hes t ht).2⟩⟩
          · rw [if_neg (by simpa using hk1)]
            refine Rs.get rl (fun _ => rfl) (by omega) hj0 (by simp; omega) fun (x2 : Option Addr) hx2 => ?_
            refine Rs.get ra (fun _ => rfl) (by omega) hj0 (by simp; omega) fun (x3 : Option Addr) hx3 => ?_
            rw [List.getElem?_map] at hx2 hx3
            cases hst : st[j.toNat]? with
            | none => rw [hst] at hx2; cases hx2
            | some t =>
              rw [hst] at hx2 hx3
              cases hx2
              cases hx3
              have htm := List.mem_of_getElem? hst
              have hte := hes t htm
              refine firebreaklaw11_step_call (step_ok (v.g t htm) (by omega) fun t' k2 hst' => ?_)
              obtain ⟨g', hp', hq', hle', hdue', m'⟩ := hst'
              rw [if_neg (by simp)]
              refine ⟨st.set j.toNat t', Gl, Ga, v.step hst g' hp' hq' m', by simpa using hs1, by simpa using hs2, by omega, fun u hu => ?_⟩
              rcases List.mem_or_eq_of_mem_set hu with hu | rfl
              · exact ⟨by have := (hes u hu).1; omega, (hes u hu).2⟩
              · refine ⟨by omega, fun e he => ?_⟩
                rcases hdue' e he with h | h
                · exact hte.2 e h
                · rw [h]; exact hat o (List.mem_of_getElem? ho)
    · rintro l1 all1 k1 ⟨st1, Gl1, Ga1, v1, h1s, h2s, h3s, h4s⟩
      rw [wrap64 (by omega) (by omega)]
      exact ⟨⟨st1, Gl1, Ga1, v1, h1s, h2s, by omega, by omega, h4s⟩, by omega⟩
  · rintro l all k ⟨st, Gl, Ga, v, hs2, hes⟩
    refine LoopW1.intro (fun i k' => ∃ st', Inv h k' l all st' Gl Ga ∧ st'.length = st.length ∧ 0 ≤ i ∧ i ≤ (st.length : Int) ∧ ∀ t ∈ st', t.es.length ≤ 4398046511104 ∧ ∀ e ∈ t.es, e.due ≤ 9223372036854775807) (fun i _ => (st.length - i).toNat)
      ⟨st, v, rfl, by omega, by omega, hes⟩ ?_
    rintro i k' ⟨st', v', hsl', hi0, hi1, hes'⟩
    have hll := v'.l.1
    have hal := v'.a.1
    simp at hll hal
    split
    · rename_i e
      have e : i < (l.len : Int) := by simpa using e
      have rl : Rs k' shPtr 1 l (st'.map fun t => some t.p) := v'.l.rw fun _ => rfl
      refine Rs.get rl (fun _ => rfl) (by omega) hi0 (by simp; omega) fun (x : Option Addr) hx => ?_
      rw [List.getElem?_map] at hx
      cases hst : st'[i.toNat]? with
      | none => rw [hst] at hx; cases hx
      | some t =>
        rw [hst] at hx
        cases hx
        have htm := List.mem_of_getElem? hst
        have g := v'.g t htm
        have hte := hes' t htm
        have hdR : ∀ c ∈ t.R, c ∉ t.F := fun c hc hf => g.d c hf hc
        have hll2 := g.r.len
        have hat2 : (Gl :: Ga :: st'.map allOf)[i.toNat + 2]? = some (allOf t) := by simp [hst]
        refine wheel_Wheel_Pop_call (whPop_ok g.w hte.1 fun out k1 done rest G F' hsp hdn hrest ho w1 hdis m1 => ?_)
        have hrn : rest = [] := by
          cases rest with
          | nil => rfl
          | cons x r =>
            have h1 := hrest x r rfl
            have h2 := hte.2 x (by rw [hsp]; simp)
            omega
        subst hrn
        rw [List.append_nil] at hsp
        have x1 : RefW k1 t.q t.L t.R := g.x.same (mv_same m1 g.x.known hdR)
        have m1a : Mv (allOf t) k' (F' ++ t.R) k1 := (m1.wide t.R).less fun c hc => by
          rcases List.mem_append.1 hc with hc | hc
          · simp [hc]
          · simp [hc]
        have a1 : OwnF k1 1 eP all (st'.map fun t => some t.q) Ga := v'.a.same (v'.r.other hat2 m1a (a := 1) (E := Ga) rfl (by omega))
        refine Rs.get (sh := shPtr) (a1.rw fun _ => rfl) (fun _ => rfl) (by omega) hi0 (by simp; omega) fun (x : Option Addr) hx => ?_
        rw [List.getElem?_map, hst] at hx
        cases hx
        refine firebreakref11_Wheel_Pop_call (refPop_ok x1 (by omega) g.r g.w.sorted g.w.nodup fun out2 k2 done2 rest2 L' G2 R' hsp2 hdn2 hrest2 ho2 x2 hr2 hdis2 m2 => ?_)
        have hrn2 : rest2 = [] := by
          cases rest2 with
          | nil => rfl
          | cons x r =>
            have h1 := hrest2 x r rfl
            have h2 := hte.2 x (by rw [hsp2]; simp)
            omega
        subst hrn2
        rw [List.append_nil] at hsp2
        subst hsp
        have hd2 : t.es.map (·.id_) = done2.map (·.id_) := by rw [← hsp2]
        have hFG : ∀ c ∈ F' ++ G, c ∉ t.R := fun c hc hr => mv_disj m1 g.x.known hdR c hr hc
        have kF : ∀ c ∈ F' ++ G, k1 c ≠ none := fun c hc => by
          rcases List.mem_append.1 hc with hc | hc
          · exact w1.known c hc
          · exact ho.known c hc
        have sFG := mv_same m2 kF hFG
        have dFG := mv_disj m2 kF hFG
        have w2 : Wh k2 t.p [] F' := w1.same fun c hc => sFG c (List.mem_append_left _ hc)
        have ho1 : OwnF k2 1 eI out (t.es.map (·.id_)) G := ho.same fun c hc => sFG c (List.mem_append_right _ hc)
        refine firebreaklaw11_same_call (same_ok (ho1.rw fun _ => rfl) (by rw [hd2]; exact ho2.rw fun _ => rfl) (by simp; omega) ?_)
        have v2 : Inv h k2 l all (st'.set i.toNat ⟨t.p, [], F', t.q, L', R'⟩) Gl Ga := by
          refine v'.step (t' := ⟨t.p, [], F', t.q, L', R'⟩) hst ⟨w2, x2, hr2, fun c hc hr => dFG c (List.mem_append_left _ hc) (List.mem_append_left _ hr)⟩ rfl rfl ?_
          exact (mv_two m1 m2).less fun c hc => by
            rcases List.mem_append.1 hc with hc | hc
            · simp [hc]
            · simp [hc]
        have rl2 : Rs k2 shPtr 1 l ((st'.set i.toNat ⟨t.p, [], F', t.q, L', R'⟩).map fun t => some t.p) := v2.l.rw fun _ => rfl
        refine Rs.getC rl2 (none : Option Addr) (fun _ => rfl) (by omega) (fun _ => ⟨hi0, by simp; omega⟩) fun (x : Option Addr) hx => ?_
        have hx' := hx rfl
        have hil := (List.getElem?_eq_some_iff.1 hst).1
        rw [List.getElem?_map, List.getElem?_set] at hx'
        simp [hil] at hx'
        subst hx'
        refine effB (by rfl) (wheel_Wheel_Len_call (whLen_ok w2 ?_))
        refine letW ?_
        rw [if_neg (by simp), wrap64 (by omega) (by omega)]
        refine ⟨⟨_, v2, by simpa using hsl', by omega, by omega, fun u hu => ?_⟩, by omega⟩
        rcases List.mem_or_eq_of_mem_set hu with hu | rfl
        · exact hes' u hu
        · exact ⟨by simp, by simp⟩
    · exact firebreaklaw11_fixed_call (fixed_ok fun h8 l8 => hq h8 (Hp.le_trans v'.r.le l8))

end Lf
