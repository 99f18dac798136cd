/-
  The lifting layer, part 23: code, and whole functions.
-/
import Derived.Test.YtoffikpplbiohaaLfSndR
namespace Lf
open Go

def exOf : Ex → Exit
  | .nrm => .normal
  | .ret => .ret
  | .ext i => .exit i
  | .gto i => .goto i

theorem least_ex {p : Nat → Prop} : (∃ n, p n) → ∃ n, p n ∧ ∀ m, p m → n ≤ m := by
  rintro ⟨n, hn⟩
  induction n using Nat.strongRecOn with
  | _ n ih =>
    by_cases h : ∃ m, m < n ∧ p m
    · obtain ⟨m, h1, h2⟩ := h
      exact ih m h1 h2
    · exact ⟨n, hn, fun m hm => Nat.le_of_not_lt fun e => h ⟨m, e, hm⟩⟩

/-- A loop, by a count that its rounds make smaller. -/
theorem wp_loop_count {P : Program} {c : Code} {Q : Exit → Act → World → Prop} {a : Act} {w : World} (J : Nat → Act → World → Prop) (h0 : ∃ n, J n a w)
    (round : ∀ n a w, J n a w → c.wp P (Exit.then (fun a' w' => ∃ m, m < n ∧ J m a' w') Q) a w) : (Code.loop c).wp P Q a w := by
  classical
  let μ : Act → World → Nat := fun a w => if h : ∃ n, J n a w then Classical.choose (least_ex h) else 0
  have hμ : ∀ a w, (h : ∃ n, J n a w) → J (μ a w) a w ∧ ∀ m, J m a w → μ a w ≤ m := fun a w h => by
    have := Classical.choose_spec (least_ex h)
    simp only [μ, dif_pos h]
    exact this
  refine wp_loop (fun a w => ∃ n, J n a w) μ h0 fun a w hJ => ?_
  refine wp_mono (round (μ a w) a w (hμ a w hJ).1) fun e a' w' hq => ?_
  cases e with
  | normal =>
    obtain ⟨m, h1, h2⟩ := hq
    exact ⟨⟨m, h2⟩, Nat.lt_of_le_of_lt ((hμ a' w' ⟨m, h2⟩).2 m h2) h1⟩
  | _ => exact hq

section
variable {n : Nat} {β : Nat → Nat} {s : St} {a : Act} {h : Hp} {w : World}

/-- The second state has nothing but what stayed of the first one, and what is so now. -/
structure Mix (s s' s2 : St) (a' : Act) (n : Nat) (l mm : List Nat) : Prop where
  f : ∀ t v c, s2.f t = some (v, c) → c = [] ∧ ((s.f t = some (v, []) ∧ t ∉ l ∧ ∀ k o, (v = .box k o ∨ v = .boxd k o) → k ∉ l) ∨ (∃ x, v = .v x ∧ a'.eval (.tmp t) = x ∧ t < n))
  m : ∀ k cs, s2.m k = some cs → (s.m k = some cs ∧ k ∉ mm) ∨ s'.m k = some cs

theorem mix_rr {l mm : List Nat} {β' : Nat → Nat} {s' s2 : St} {a' : Act} {h' : Hp} {w' : World} (hr : Rel n β s a h w) (hs : Seg l mm (lives s) β a h w (lives s') β' a' h' w') (hr' : Rel n β' s' a' h' w') (hm : Mix s s' s2 a' n l mm) :
    Rel n β' s2 a' h' w' ∧ Seg l mm (lives s) β a h w (lives s2) β' a' h' w' := by
  have hkeep : ∀ k cs, s.m k = some cs → k ∉ mm → β' k = β k ∧ β k < w.heap.size ∧ h' (β k) = none ∧ ∃ ct, w'.heap[β k]? = some (.cells cs.toArray ct (0, 0)) := by
    intro k cs e hk
    obtain ⟨h1, ct, h2⟩ := hr.box k cs e trivial
    refine ⟨hs.beta k (.inr hk), heap_lt h2, hs.unk _ (heap_lt h2) h1, ct, ?_⟩
    rw [hs.keep _ (heap_lt h2) h1 fun k' hk' hl e' => hk (by rw [hr.inj k k' (by simp [e]) hl.1 trivial trivial e'.symm]; exact hk')]
    exact h2
  have hnew : ∀ k, s'.m k ≠ none → (s.m k ≠ none ∧ β' k = β k) ∨ w.heap.size ≤ β' k := fun k e => (hs.fresh k ⟨e, trivial⟩).imp (fun e => ⟨e.1.1, e.2⟩) id
  refine ⟨⟨hr'.sz, hr'.sub, fun t v c e => ?_, fun t v c e p hp => ?_, fun t v c e _ _ => ?_, fun t v c e _ hh => ?_, fun k cs e _ => ?_, fun k k' e e' _ _ he => ?_, fun _ e => e.elim, fun _ e => e.elim⟩, ?_⟩
  · obtain ⟨_, h1 | ⟨x, _, _, h1⟩⟩ := hm.f t v c e
    · exact hr.lt t v [] h1.1
    · exact h1
  · rw [(hm.f t v c e).1] at hp; cases hp
  · refine ⟨?_, fun _ _ _ => trivial⟩
    obtain ⟨_, ⟨h1, h2, h3⟩ | ⟨x, rfl, h1, _⟩⟩ := hm.f t v c e
    · rw [hs.tmp t h2, (hr.cur t v [] h1 trivial (holds_nil _)).1]
      cases v with
      | v x => rfl
      | box k o => simp only [LVal, hs.beta k (.inl (h3 k o (.inl rfl)))]
      | boxd k o => simp only [LVal, hs.beta k (.inl (h3 k o (.inr rfl)))]
    · exact h1
  · rw [(hm.f t v c e).1] at hh; exact absurd (holds_nil _) hh
  · rcases hm.m k cs e with ⟨h1, h2⟩ | h1
    · obtain ⟨e1, _, e2, e3⟩ := hkeep k cs h1 h2
      rw [e1]
      exact ⟨e2, e3⟩
    · exact hr'.box k cs h1 trivial
  · obtain ⟨cs, e⟩ := Option.ne_none_iff_exists'.1 e
    obtain ⟨cs', e'⟩ := Option.ne_none_iff_exists'.1 e'
    rcases hm.m k cs e with ⟨h1, h2⟩ | h1
    · obtain ⟨e1, e2, _⟩ := hkeep k cs h1 h2
      rcases hm.m k' cs' e' with ⟨h1', h2'⟩ | h1'
      · obtain ⟨e1', _⟩ := hkeep k' cs' h1' h2'
        rw [e1, e1'] at he
        exact hr.inj k k' (by simp [h1]) (by simp [h1']) trivial trivial he
      · rcases hnew k' (by simp [h1']) with ⟨e3, e4⟩ | e3
        · rw [e1, e4] at he
          exact hr.inj k k' (by simp [h1]) e3 trivial trivial he
        · rw [e1] at he; omega
    · rcases hm.m k' cs' e' with ⟨h1', h2'⟩ | h1'
      · obtain ⟨e1', e2', _⟩ := hkeep k' cs' h1' h2'
        rcases hnew k (by simp [h1]) with ⟨e3, e4⟩ | e3
        · rw [e1', e4] at he
          exact hr.inj k k' e3 (by simp [h1']) trivial trivial he
        · rw [e1'] at he; omega
      · exact hr'.inj k k' (by simp [h1]) (by simp [h1']) trivial trivial he
  · refine ⟨hs.tmp, hs.beta, hs.size, hs.unk, hs.keep, fun k e => ?_, hs.os, hs.tape, hs.output, hs.defers⟩
    obtain ⟨cs, e⟩ := Option.ne_none_iff_exists'.1 e.1
    rcases hm.m k cs e with ⟨h1, h2⟩ | h1
    · exact .inl ⟨⟨by simp [h1], trivial⟩, (hkeep k cs h1 h2).1⟩
    · exact hs.fresh k ⟨by simp [h1], trivial⟩

def shO : Option Ty → Shape
  | some e => e.sh
  | none => shUnit

theorem shOf_eq (tb : Tb) (t : Nat) : shOf tb t = shO (tb.ty t) := by
  unfold shOf shO
  cases tb.ty t <;> rfl

theorem sh_leaf {P : Program} {tb : Tb} (ok : tb.Ok P) {t : Nat} (ha : isAggT tb t = false) : ∀ (x : (shOf tb t).T) (cs : Array Value), (shOf tb t).enc x ≠ .agg cs := by
  rw [shOf_eq]
  unfold isAggT at ha
  cases he : tb.ty t with
  | none => intro x cs e; cases e
  | some e =>
    rw [he] at ha
    intro x cs
    exact ((ok.leaf t e he ha).2 x).2 cs

theorem cells_of {P : Program} {tb : Tb} (ok : tb.Ok P) {t : Nat} {cs : List Value} {v : Value} {x : (shOf tb t).T} (h1 : ofCells tb t cs = some v) (h2 : (shOf tb t).dec v = some x) : cellsL ((shOf tb t).enc x) = cs := by
  have hv := (shOf tb t).ok v x h2
  rw [hv]
  unfold ofCells at h1
  cases ha : isAggT tb t with
  | true =>
    rw [ha] at h1
    cases h1
    rfl
  | false =>
    rw [ha] at h1
    simp only [cond_false] at h1
    split at h1
    · cases h1
      have hne : ∀ cs, v ≠ .agg cs := fun cs e => sh_leaf ok ha x cs (hv.trans e)
      cases v <;> first | rfl | exact absurd rfl (hne _)
    · cases h1

/-- What is taken over at a join. -/
structure Got (s s' s2 : St) (a' : Act) (n : Nat) (l mm : List Nat) : Prop where
  mix : Mix s s' s2 a' n l mm

theorem getOne_mix {P : Program} {tb : Tb} (ok : tb.Ok P) {l mm : List Nat} {β' : Nat → Nat} {s' s2 : St} {a' : Act} {h' : Hp} {w' : World} (hr' : Rel n β' s' a' h' w') {j : J} {K : (shOf tb j.t).T → Prop} (hg : getOne tb s' j K)
    (hm : Mix s s' s2 a' n l mm) : ∃ x, K x ∧ Mix s s' (setOne tb j x s2) a' n l mm := by
  unfold getOne at hg
  cases hM : j.isM with
  | true =>
    rw [hM] at hg
    simp only [cond_true] at hg
    split at hg
    · rename_i cs hcs
      split at hg
      · rename_i v hv
        split at hg
        · rename_i x hx
          refine ⟨x, hg, ?_⟩
          have hc := cells_of ok hv hx
          unfold setOne
          rw [hM]
          simp only [cond_true, hc]
          refine ⟨hm.f, fun k cs' e => ?_⟩
          by_cases hk : k = j.i
          · subst hk
            rw [putM_same] at e; cases e
            exact .inr hcs
          · rw [putM_ne _ _ hk] at e
            exact hm.m k cs' e
        · exact hg.elim
      · exact hg.elim
    · exact hg.elim
  | false =>
    rw [hM] at hg
    simp only [cond_false] at hg
    split at hg
    · rename_i v hv
      split at hg
      · rename_i x hx
        refine ⟨x, hg, ?_⟩
        unfold setOne
        rw [hM]
        simp only [cond_false]
        rw [(shOf tb j.t).ok v x hx]
        refine ⟨fun t u c e => ?_, fun k cs e => hm.m k cs (by rwa [put_m] at e)⟩
        by_cases ht : t = j.i
        · subst ht
          rw [put_same] at e; cases e
          exact ⟨rfl, .inr ⟨v, rfl, (hr'.cur j.i _ [] hv trivial (holds_nil _)).1, hr'.lt _ _ _ hv⟩⟩
        · rw [put_ne _ _ _ ht] at e
          exact hm.f t u c e
      · exact hg.elim
    · exact hg.elim

theorem getJ_mix {P : Program} {tb : Tb} (ok : tb.Ok P) {l mm : List Nat} {β' : Nat → Nat} {s' : St} {a' : Act} {h' : Hp} {w' : World} (hr' : Rel n β' s' a' h' w') : ∀ {js : List J} {s2 : St} {K : JTup tb js → Prop}, getJ tb js s' K →
    Mix s s' s2 a' n l mm → ∃ x, K x ∧ Mix s s' (setJ tb js x s2) a' n l mm
  | [], s2, K, hg, hm => ⟨(), hg, hm⟩
  | [j], s2, K, hg, hm => getOne_mix ok hr' hg hm
  | j :: j2 :: js, s2, K, hg, hm => by
    obtain ⟨x, hx, hm'⟩ := getOne_mix ok hr' hg hm
    obtain ⟨y, hy, hm2⟩ := getJ_mix ok hr' (js := j2 :: js) hx hm'
    exact ⟨(x, y), hy, hm2⟩

theorem forget_mix (hr : Rel n β s a h w) {l mm : List Nat} {s' : St} {a' : Act} : Mix s s' (s.forget l mm) a' n l mm := by
  refine ⟨fun t v c e => ?_, fun k cs e => ?_⟩
  · simp only [St.forget] at e
    cases ht : has l t with
    | true => simp [ht] at e
    | false =>
      simp only [ht, cond_false] at e
      obtain ⟨h1, h2⟩ := dropL'_some e
      have hc : c = [] := by
        cases c with
        | nil => rfl
        | cons p c => exact (hr.chain t v _ h1 p (List.mem_cons_self ..)).elim
      subst hc
      exact ⟨rfl, .inl ⟨h1, has_false ht, h2⟩⟩
  · simp only [St.forget] at e
    cases hk : has mm k with
    | true => simp [hk] at e
    | false =>
      simp only [hk, cond_false] at e
      exact .inl ⟨e, has_false hk⟩

theorem join_rel {P : Program} {tb : Tb} (ok : tb.Ok P) {l mm : List Nat} {β' : Nat → Nat} {s' : St} {a' : Act} {h' : Hp} {w' : World} (hr : Rel n β s a h w) (hs : Seg l mm (lives s) β a h w (lives s') β' a' h' w') (hr' : Rel n β' s' a' h' w')
    {js : List J} {K : JTup tb js → Prop} (hg : getJ tb js s' K) :
    ∃ x, K x ∧ Rel n β' (setJ tb js x (s.forget l mm)) a' h' w' ∧ Seg l mm (lives s) β a h w (lives (setJ tb js x (s.forget l mm))) β' a' h' w' := by
  obtain ⟨x, hx, hm⟩ := getJ_mix ok hr' hg (forget_mix (s' := s') (a' := a') hr)
  obtain ⟨h1, h2⟩ := mix_rr hr hs hr' hm
  exact ⟨x, hx, h1, h2⟩

end

theorem app_mem {x y : List Nat} {d : Nat} : d ∈ app x y ↔ d ∈ x ∨ d ∈ y := by rw [app_eq, List.mem_append]

/-- What is told of code is so. -/
theorem lift_sound {C : Ctx} (ok : C.tb.Ok C.P) {n : Nat} : ∀ (c : Code) (A : Ann) (mok : List Nat) (s : St) (E : Env) (h : Hp), (∀ d ∈ mods c, d < n) → lift C c A mok s E h → ∀ (β : Nat → Nat) (a : Act) (w : World), Rel n β s a h w →
    ∀ Q : Exit → Act → World → Prop, (∀ e s' h' β' a' w', E e s' h' → Rel n β' s' a' h' w' → Seg (mods c) mok (lives s) β a h w (lives s') β' a' h' w' → Q (exOf e) a' w') → c.wp C.P Q a w := by
  intro c
  induction c with
  | skip => intro A mok s E h _ hv β a w hr Q hQ; exact wp_skip (hQ .nrm s h β a w hv hr (Seg.refl _ _))
  | ret => intro A mok s E h _ hv β a w hr Q hQ; exact wp_ret (hQ .ret s h β a w hv hr (Seg.refl _ _))
  | exit i => intro A mok s E h _ hv β a w hr Q hQ; exact wp_exit (hQ (.ext i) s h β a w hv hr (Seg.refl _ _))
  | goto i => intro A mok s E h _ hv β a w hr Q hQ; exact wp_goto (hQ (.gto i) s h β a w hv hr (Seg.refl _ _))
  | label i => intro A mok s E h _ hv β a w hr Q hQ; exact wp_label (hQ .nrm s h β a w hv hr (Seg.refl _ _))
  | region id ops draw =>
    intro A mok s E h hlt hv β a w hr Q hQ
    have hclean : ∀ s' : St, ∀ k, lives s'.clean k ↔ lives s' k := fun s' k => .rfl
    cases draw with
    | true =>
      simp only [lift] at hv
      split at hv
      · rename_i ord
        obtain ⟨hp, hv⟩ := condP hv
        exact any_sound ok hp hlt hr hv fun s' h' β' a' w' hk hr' hs' => hQ .nrm s'.clean h' β' a' w' hk hr' hs'
      · exact hv.elim
    | false =>
      simp only [lift] at hv
      obtain ⟨hp, hv⟩ := condP hv
      unfold seqOk at hp
      obtain ⟨h1, hp⟩ := condT hp
      have hst := hr.start (allocsOf C.priv ops.toList)
      have main : ∀ g : Bool, (g = false → noGuard ops.toList = true) → (g = true → (modsO ops.toList).Nodup ∧ guardsBack ops.toList 0 = true) → (Code.region id ops false).wp C.P Q a w := by
        intro g hg1 hg2
        refine wp_region ?_
        have := seq_sound (n := n) (mok := mok) (K := fun s' h' => E .nrm s'.clean h') (Q := Q) ok g hlt hg1 hg2 ops.toList [] β _ a h w rfl (nodup_iff h1) hv
          (hst.congr (fun _ => .rfl) (fun _ => .rfl) (fun _ e => e.elim) (fun _ e => e)) (fun s' h' β' a' w' hk hr' hs' => hQ .nrm s'.clean h' β' a' w' hk hr'.clean
            (hs'.mono (fun _ e => e) (fun _ e => e) (fun k e => live_drop e) (fun _ e => e)))
        rw [List.range_eq_range']
        simpa using this
      cases hng : noGuard ops.toList with
      | true => exact main false (fun _ => hng) (fun e => by cases e)
      | false =>
        rw [hng] at hp
        simp only [cond_false] at hp
        obtain ⟨h2, h3⟩ := condT hp
        exact main true (fun e => by cases e) (fun _ => ⟨nodup_iff h2, h3⟩)
  | seq x y ihx ihy =>
    intro A mok s E h hlt hv β a w hr Q hQ
    have hlx : ∀ d ∈ mods x, d < n := fun d hd => hlt d (app_mem.2 (.inl hd))
    have hly : ∀ d ∈ mods y, d < n := fun d hd => hlt d (app_mem.2 (.inr hd))
    have hmx : ∀ d ∈ mods x, d ∈ mods (.seq x y) := fun d hd => app_mem.2 (.inl hd)
    have hmy : ∀ d ∈ mods y, d ∈ mods (.seq x y) := fun d hd => app_mem.2 (.inr hd)
    refine wp_seq ?_
    unfold lift at hv
    split at hv
    · rename_i js mm _ _
      obtain ⟨hmm, R, hA, hB⟩ := condP hv
      have hmm' := allIn_mem hmm
      refine ihx _ mm s _ h hlx hA β a w hr _ fun e s' h' β' a' w' he hr' hs' => ?_
      cases e with
      | nrm =>
        obtain ⟨z, hz, hr2, hs2⟩ := join_rel ok hr hs' hr' he
        refine ihy _ mok _ E h' hly (hB z h' hz) β' a' w' hr2 Q fun e2 s2 h2 β2 a2 w2 he2 hrr hss => ?_
        exact hQ e2 s2 h2 β2 a2 w2 he2 hrr ((hs2.mono hmx hmm' (fun _ e => e) (fun _ e => e)).trans (hss.mono hmy (fun _ e => e) (fun _ e => e) (fun _ e => e)))
      | ret => exact hQ .ret s' h' β' a' w' he hr' (hs'.mono hmx hmm' (fun _ e => e) (fun _ e => e))
      | ext i => exact hQ (.ext i) s' h' β' a' w' he hr' (hs'.mono hmx hmm' (fun _ e => e) (fun _ e => e))
      | gto i => exact hQ (.gto i) s' h' β' a' w' he hr' (hs'.mono hmx hmm' (fun _ e => e) (fun _ e => e))
    · refine ihx _ mok s _ h hlx hv β a w hr _ fun e s' h' β' a' w' he hr' hs' => ?_
      cases e with
      | nrm =>
        refine ihy _ mok _ E h' hly he β' a' w' hr' Q fun e2 s2 h2 β2 a2 w2 he2 hrr hss => ?_
        exact hQ e2 s2 h2 β2 a2 w2 he2 hrr ((hs'.mono hmx (fun _ e => e) (fun _ e => e) (fun _ e => e)).trans (hss.mono hmy (fun _ e => e) (fun _ e => e) (fun _ e => e)))
      | ret => exact hQ .ret s' h' β' a' w' he hr' (hs'.mono hmx (fun _ e => e) (fun _ e => e) (fun _ e => e))
      | ext i => exact hQ (.ext i) s' h' β' a' w' he hr' (hs'.mono hmx (fun _ e => e) (fun _ e => e) (fun _ e => e))
      | gto i => exact hQ (.gto i) s' h' β' a' w' he hr' (hs'.mono hmx (fun _ e => e) (fun _ e => e) (fun _ e => e))
  | cond c x y ihx ihy =>
    intro A mok s E h hlt hv β a w hr Q hQ
    have hlx : ∀ d ∈ mods x, d < n := fun d hd => hlt d (app_mem.2 (.inl hd))
    have hly : ∀ d ∈ mods y, d < n := fun d hd => hlt d (app_mem.2 (.inr hd))
    simp only [lift] at hv
    obtain ⟨v, hev, hv⟩ := onV_some hv
    split at hv
    · rename_i t
      have hc := ev_ok (opnd_rr hr (x := c) fun _ _ => trivial) (holds_nil s) hev
      refine wp_cond_split (t := t) hc (fun ht => ?_) (fun ht => ?_)
      · rw [if_pos ht] at hv
        exact ihx _ mok s E h hlx hv β a w hr Q fun e s' h' β' a' w' he hr' hs' => hQ e s' h' β' a' w' he hr' (hs'.mono (fun d hd => app_mem.2 (.inl hd)) (fun _ e => e) (fun _ e => e) (fun _ e => e))
      · rw [if_neg (by rw [ht]; simp)] at hv
        exact ihy _ mok s E h hly hv β a w hr Q fun e s' h' β' a' w' he hr' hs' => hQ e s' h' β' a' w' he hr' (hs'.mono (fun d hd => app_mem.2 (.inr hd)) (fun _ e => e) (fun _ e => e) (fun _ e => e))
    · exact hv.elim
  | block id x ih =>
    intro A mok s E h hlt hv β a w hr Q hQ
    refine wp_block ?_
    unfold lift at hv
    split at hv
    · rename_i js mm _
      obtain ⟨hmm, R, hA, hB⟩ := condP hv
      have hmm' := allIn_mem hmm
      refine ih _ mm s _ h hlt hA β a w hr _ fun e s' h' β' a' w' he hr' hs' => ?_
      have joined : getJ C.tb js s' (fun x => R x h') → Q .normal a' w' := fun hg => by
        obtain ⟨z, hz, hr2, hs2⟩ := join_rel ok hr hs' hr' hg
        exact hQ .nrm _ h' β' a' w' (hB z h' hz) hr2 (hs2.mono (fun _ e => e) hmm' (fun _ e => e) (fun _ e => e))
      cases e with
      | nrm => exact joined he
      | ret => exact hQ .ret s' h' β' a' w' he hr' (hs'.mono (fun _ e => e) hmm' (fun _ e => e) (fun _ e => e))
      | ext i =>
        simp only [exOf, Exit.inBlock]
        by_cases hi : i = id
        · subst hi
          simp only [Env.blk, Nat.beq_refl, cond_true] at he
          simpa using joined he
        · rw [if_neg hi]
          simp only [Env.blk, beq_ne hi, cond_false] at he
          exact hQ (.ext i) s' h' β' a' w' he hr' (hs'.mono (fun _ e => e) hmm' (fun _ e => e) (fun _ e => e))
      | gto i => exact hQ (.gto i) s' h' β' a' w' he hr' (hs'.mono (fun _ e => e) hmm' (fun _ e => e) (fun _ e => e))
    · refine ih _ mok s _ h hlt hv β a w hr _ fun e s' h' β' a' w' he hr' hs' => ?_
      cases e with
      | nrm => exact hQ .nrm s' h' β' a' w' he hr' hs'
      | ret => exact hQ .ret s' h' β' a' w' he hr' hs'
      | ext i =>
        simp only [exOf, Exit.inBlock]
        by_cases hi : i = id
        · subst hi
          simp only [Env.blk, Nat.beq_refl, cond_true] at he
          rw [if_pos rfl]
          exact hQ .nrm s' h' β' a' w' he hr' hs'
        · rw [if_neg hi]
          simp only [Env.blk, beq_ne hi, cond_false] at he
          exact hQ (.ext i) s' h' β' a' w' he hr' hs'
      | gto i => exact hQ (.gto i) s' h' β' a' w' he hr' hs'
  | loop x ih =>
    intro A mok s E h hlt hv β a w hr Q hQ
    unfold lift at hv
    split at hv
    · rename_i js mm _
      obtain ⟨hmm, hv⟩ := condP hv
      have hmm' := allIn_mem hmm
      obtain ⟨x0, hx0, hr0, hs0⟩ := join_rel ok hr (Seg.refl (l := mods x) (mm := mm)) hr hv
      obtain ⟨I, μ, hI, hbody⟩ := hx0
      refine wp_loop_count (fun m a' w' => ∃ z h' β', I z h' ∧ μ z h' = m ∧ Rel n β' (setJ C.tb js z (s.forget (mods x) mm)) a' h' w' ∧ Seg (mods x) mm (lives s) β a h w (lives (setJ C.tb js z (s.forget (mods x) mm))) β' a' h' w')
        ⟨_, x0, h, β, hI, rfl, hr0, hs0⟩ ?_
      rintro m a' w' ⟨z, h', β', hz, rfl, hr1, hs1⟩
      refine ih _ mm _ _ h' hlt (hbody z h' hz) β' a' w' hr1 _ fun e s2 h2 β2 a2 w2 he hr2 hs2 => ?_
      have hs12 := hs1.trans hs2
      cases e with
      | nrm =>
        obtain ⟨z2, hz2, hr3, hs3⟩ := join_rel ok hr hs12 hr2 he
        exact ⟨_, hz2.2, z2, h2, β2, hz2.1, rfl, hr3, hs3⟩
      | ret => exact hQ .ret s2 h2 β2 a2 w2 he hr2 (hs12.mono (fun _ e => e) hmm' (fun _ e => e) (fun _ e => e))
      | ext i => exact hQ (.ext i) s2 h2 β2 a2 w2 he hr2 (hs12.mono (fun _ e => e) hmm' (fun _ e => e) (fun _ e => e))
      | gto i => exact hQ (.gto i) s2 h2 β2 a2 w2 he hr2 (hs12.mono (fun _ e => e) hmm' (fun _ e => e) (fun _ e => e))
    · exact hv.elim
  | _ => intro A mok s E h _ hv; exact hv.elim

end Lf
