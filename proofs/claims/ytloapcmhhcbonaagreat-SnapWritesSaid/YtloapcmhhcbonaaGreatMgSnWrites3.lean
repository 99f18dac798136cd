/-
  Part 4 of the texts that the claim leans on.
-/
import Derived.ScopeJumps
import Derived.Test.YtloapcmhhcbonaaGreatRows
import Derived.Laws.Externs
import Derived.Test.YtloapcmhhcbonaaGreatMgSnWrites2
namespace Lf
open Go
def exOf : Ex → Exit
  | .nrm => .normal
  | .ret => .ret
  | .ext i => .exit i
  | .gto i => .goto i
theorem least_ex {p : Nat → Prop} : (∃ n, p n) → ∃ n, p n ∧ ∀ m, p m → n ≤ m := by
  rintro ⟨n, hn⟩
  induction n using Nat.strongRecOn with
  | _ n ih =>
    by_cases h : ∃ m, m < n ∧ p m
    · obtain ⟨m, h1, h2⟩ := h
      exact ih m h1 h2
    · exact ⟨n, hn, fun m hm => Nat.le_of_not_lt fun e => h ⟨m, e, hm⟩⟩
theorem wp_loop_count {P : Program} {c : Code} {Q : Exit → Act → World → Prop} {a : Act} {w : World} (J : Nat → Act → World → Prop) (h0 : ∃ n, J n a w)
    (round : ∀ n a w, J n a w → c.wp P (Exit.then (fun a' w' => ∃ m, m < n ∧ J m a' w') Q) a w) : (Code.loop c).wp P Q a w := by
  classical
  let μ : Act → World → Nat := fun a w => if h : ∃ n, J n a w then Classical.choose (least_ex h) else 0
  have hμ : ∀ a w, (h : ∃ n, J n a w) → J (μ a w) a w ∧ ∀ m, J m a w → μ a w ≤ m := fun a w h => by
    have := Classical.choose_spec (least_ex h)
    simp only [μ, dif_pos h]
    exact this
  refine wp_loop (fun a w => ∃ n, J n a w) μ h0 fun a w hJ => ?_
  refine wp_mono (round (μ a w) a w (hμ a w hJ).1) fun e a' w' hq => ?_
  cases e with
  | normal =>
    obtain ⟨m, h1, h2⟩ := hq
    exact ⟨⟨m, h2⟩, Nat.lt_of_le_of_lt ((hμ a' w' ⟨m, h2⟩).2 m h2) h1⟩
  | _ => exact hq
section
variable {n : Nat} {β : Nat → Nat} {s : St} {a : Act} {h : Hp} {w : World}
structure Mix (s s' s2 : St) (a' : Act) (n : Nat) (l mm : List Nat) : Prop where
  f : ∀ t v c, s2.f t = some (v, c) → c = [] ∧ ((s.f t = some (v, []) ∧ t ∉ l ∧ ∀ k o, (v = .box k o ∨ v = .boxd k o) → k ∉ l) ∨ (∃ x, v = .v x ∧ a'.eval (.tmp t) = x ∧ t < n))
  m : ∀ k cs, s2.m k = some cs → (s.m k = some cs ∧ k ∉ mm) ∨ s'.m k = some cs
theorem mix_rr {l mm : List Nat} {β' : Nat → Nat} {s' s2 : St} {a' : Act} {h' : Hp} {w' : World} (hr : Rel n β s a h w) (hs : Seg l mm (lives s) β a h w (lives s') β' a' h' w') (hr' : Rel n β' s' a' h' w') (hm : Mix s s' s2 a' n l mm) :
    Rel n β' s2 a' h' w' ∧ Seg l mm (lives s) β a h w (lives s2) β' a' h' w' := by
  have hkeep : ∀ k cs, s.m k = some cs → k ∉ mm → β' k = β k ∧ β k < w.heap.size ∧ h' (β k) = none ∧ ∃ ct, w'.heap[β k]? = some (.cells cs.toArray ct (0, 0)) := by
    intro k cs e hk
    obtain ⟨h1, ct, h2⟩ := hr.box k cs e trivial
    have hne : ∀ k' ∈ mm, lives s k' → β k' ≠ β k := fun k' hk' hl e' => hk (by rw [hr.inj k k' (by simp [e]) hl.1 trivial trivial e'.symm]; exact hk')
    refine ⟨hs.beta k (.inr hk), heap_lt h2, hs.unk _ (heap_lt h2) h1 hne, ct, ?_⟩
    rw [hs.keep _ (heap_lt h2) h1 hne]
    exact h2
  have hnew : ∀ k, s'.m k ≠ none → (s.m k ≠ none ∧ β' k = β k) ∨ w.heap.size ≤ β' k := fun k e => (hs.fresh k ⟨e, trivial⟩).imp (fun e => ⟨e.1.1, e.2⟩) id
  refine ⟨⟨hr'.sz, hr'.sub, fun t v c e => ?_, fun t v c e p hp => ?_, fun t v c e _ _ => ?_, fun t v c e _ hh => ?_, fun k cs e _ => ?_, fun k k' e e' _ _ he => ?_, fun _ e => e.elim, fun _ e => e.elim⟩, ?_⟩
  · obtain ⟨_, h1 | ⟨x, _, _, h1⟩⟩ := hm.f t v c e
    · exact hr.lt t v [] h1.1
    · exact h1
  · rw [(hm.f t v c e).1] at hp; cases hp
  · refine ⟨?_, fun _ _ _ => trivial⟩
    obtain ⟨_, ⟨h1, h2, h3⟩ | ⟨x, rfl, h1, _⟩⟩ := hm.f t v c e
    · rw [hs.tmp t h2, (hr.cur t v [] h1 trivial (holds_nil _)).1]
      cases v with
      | v x => rfl
      | box k o => simp only [LVal, hs.beta k (.inl (h3 k o (.inl rfl)))]
      | boxd k o => simp only [LVal, hs.beta k (.inl (h3 k o (.inr rfl)))]
    · exact h1
  · rw [(hm.f t v c e).1] at hh; exact absurd (holds_nil _) hh
  · rcases hm.m k cs e with ⟨h1, h2⟩ | h1
    · obtain ⟨e1, _, e2, e3⟩ := hkeep k cs h1 h2
      rw [e1]
      exact ⟨e2, e3⟩
    · exact hr'.box k cs h1 trivial
  · obtain ⟨cs, e⟩ := Option.ne_none_iff_exists'.1 e
    obtain ⟨cs', e'⟩ := Option.ne_none_iff_exists'.1 e'
    rcases hm.m k cs e with ⟨h1, h2⟩ | h1
    · obtain ⟨e1, e2, _⟩ := hkeep k cs h1 h2
      rcases hm.m k' cs' e' with ⟨h1', h2'⟩ | h1'
      · obtain ⟨e1', _⟩ := hkeep k' cs' h1' h2'
        rw [e1, e1'] at he
        exact hr.inj k k' (by simp [h1]) (by simp [h1']) trivial trivial he
      · rcases hnew k' (by simp [h1']) with ⟨e3, e4⟩ | e3
        · rw [e1, e4] at he
          exact hr.inj k k' (by simp [h1]) e3 trivial trivial he
        · rw [e1] at he; omega
    · rcases hm.m k' cs' e' with ⟨h1', h2'⟩ | h1'
      · obtain ⟨e1', e2', _⟩ := hkeep k' cs' h1' h2'
        rcases hnew k (by simp [h1]) with ⟨e3, e4⟩ | e3
        · rw [e1', e4] at he
          exact hr.inj k k' e3 (by simp [h1']) trivial trivial he
        · rw [e1'] at he; omega
      · exact hr'.inj k k' (by simp [h1]) (by simp [h1']) trivial trivial he
  · refine ⟨hs.tmp, hs.beta, hs.size, hs.unk, hs.keep, fun k e => ?_, hs.os, hs.tape, hs.output, hs.defers⟩
    obtain ⟨cs, e⟩ := Option.ne_none_iff_exists'.1 e.1
    rcases hm.m k cs e with ⟨h1, h2⟩ | h1
    · exact .inl ⟨⟨by simp [h1], trivial⟩, (hkeep k cs h1 h2).1⟩
    · exact hs.fresh k ⟨by simp [h1], trivial⟩
def shO : Option Ty → Shape
  | some e => e.sh
  | none => shUnit
theorem shOf_eq (tb : Tb) (t : Nat) : shOf tb t = shO (tb.ty t) := by
  unfold shOf shO
  cases tb.ty t <;> rfl
theorem sh_leaf {P : Program} {tb : Tb} (ok : tb.Ok P) {t : Nat} (ha : isAggT tb t = false) : ∀ (x : (shOf tb t).T) (cs : Array Value), (shOf tb t).enc x ≠ .agg cs := by
  rw [shOf_eq]
  unfold isAggT at ha
  cases he : tb.ty t with
  | none => intro x cs e; cases e
  | some e =>
    rw [he] at ha
    intro x cs
    exact ((ok.leaf t e he ha).2 x).2 cs
theorem cells_of {P : Program} {tb : Tb} (ok : tb.Ok P) {t : Nat} {cs : List Value} {v : Value} {x : (shOf tb t).T} (h1 : ofCells tb t cs = some v) (h2 : (shOf tb t).dec v = some x) : cellsL ((shOf tb t).enc x) = cs := by
  have hv := (shOf tb t).ok v x h2
  rw [hv]
  unfold ofCells at h1
  cases ha : isAggT tb t with
  | true =>
    rw [ha] at h1
    cases h1
    rfl
  | false =>
    rw [ha] at h1
    simp only [cond_false] at h1
    split at h1
    · cases h1
      have hne : ∀ cs, v ≠ .agg cs := fun cs e => sh_leaf ok ha x cs (hv.trans e)
      cases v <;> first | rfl | exact absurd rfl (hne _)
    · cases h1
theorem getOne_mix {P : Program} {tb : Tb} (ok : tb.Ok P) {l mm : List Nat} {β' : Nat → Nat} {s' s2 : St} {a' : Act} {h' : Hp} {w' : World} (hr' : Rel n β' s' a' h' w') {j : J} {K : (shOf tb j.t).T → Prop} (hg : getOne tb s' j K)
    (hm : Mix s s' s2 a' n l mm) : ∃ x, K x ∧ Mix s s' (setOne tb j x s2) a' n l mm := by
  unfold getOne at hg
  cases hM : j.isM with
  | true =>
    rw [hM] at hg
    simp only [cond_true] at hg
    split at hg
    · rename_i cs hcs
      split at hg
      · rename_i v hv
        split at hg
        · rename_i x hx
          refine ⟨x, hg, ?_⟩
          have hc := cells_of ok hv hx
          unfold setOne
          rw [hM]
          simp only [cond_true, hc]
          refine ⟨hm.f, fun k cs' e => ?_⟩
          by_cases hk : k = j.i
          · subst hk
            rw [putM_same] at e; cases e
            exact .inr hcs
          · rw [putM_ne _ _ hk] at e
            exact hm.m k cs' e
        · exact hg.elim
      · exact hg.elim
    · exact hg.elim
  | false =>
    rw [hM] at hg
    simp only [cond_false] at hg
    split at hg
    · rename_i v hv
      split at hg
      · rename_i x hx
        refine ⟨x, hg, ?_⟩
        unfold setOne
        rw [hM]
        simp only [cond_false]
        rw [(shOf tb j.t).ok v x hx]
        refine ⟨fun t u c e => ?_, fun k cs e => hm.m k cs (by rwa [put_m] at e)⟩
        by_cases ht : t = j.i
        · subst ht
          rw [put_same] at e; cases e
          exact ⟨rfl, .inr ⟨v, rfl, (hr'.cur j.i _ [] hv trivial (holds_nil _)).1, hr'.lt _ _ _ hv⟩⟩
        · rw [put_ne _ _ _ ht] at e
          exact hm.f t u c e
      · exact hg.elim
    · exact hg.elim
theorem getJ_mix {P : Program} {tb : Tb} (ok : tb.Ok P) {l mm : List Nat} {β' : Nat → Nat} {s' : St} {a' : Act} {h' : Hp} {w' : World} (hr' : Rel n β' s' a' h' w') : ∀ {js : List J} {s2 : St} {K : JTup tb js → Prop}, getJ tb js s' K →
    Mix s s' s2 a' n l mm → ∃ x, K x ∧ Mix s s' (setJ tb js x s2) a' n l mm
  | [], s2, K, hg, hm => ⟨(), hg, hm⟩
  | [j], s2, K, hg, hm => getOne_mix ok hr' hg hm
  | j :: j2 :: js, s2, K, hg, hm => by
    obtain ⟨x, hx, hm'⟩ := getOne_mix ok hr' hg hm
    obtain ⟨y, hy, hm2⟩ := getJ_mix ok hr' (js := j2 :: js) hx hm'
    exact ⟨(x, y), hy, hm2⟩
theorem forget_mix (hr : Rel n β s a h w) {l mm : List Nat} {s' : St} {a' : Act} : Mix s s' (s.forget l mm) a' n l mm := by
  refine ⟨fun t v c e => ?_, fun k cs e => ?_⟩
  · simp only [St.forget] at e
    cases ht : has l t with
    | true => simp [ht] at e
    | false =>
      simp only [ht, cond_false] at e
      obtain ⟨h1, h2⟩ := dropL'_some e
      have hc : c = [] := by
        cases c with
        | nil => rfl
        | cons p c => exact (hr.chain t v _ h1 p (List.mem_cons_self ..)).elim
      subst hc
      exact ⟨rfl, .inl ⟨h1, has_false ht, h2⟩⟩
  · simp only [St.forget] at e
    cases hk : has mm k with
    | true => simp [hk] at e
    | false =>
      simp only [hk, cond_false] at e
      exact .inl ⟨e, has_false hk⟩
theorem join_rel {P : Program} {tb : Tb} (ok : tb.Ok P) {l mm : List Nat} {β' : Nat → Nat} {s' : St} {a' : Act} {h' : Hp} {w' : World} (hr : Rel n β s a h w) (hs : Seg l mm (lives s) β a h w (lives s') β' a' h' w') (hr' : Rel n β' s' a' h' w')
    {js : List J} {K : JTup tb js → Prop} (hg : getJ tb js s' K) :
    ∃ x, K x ∧ Rel n β' (setJ tb js x (s.forget l mm)) a' h' w' ∧ Seg l mm (lives s) β a h w (lives (setJ tb js x (s.forget l mm))) β' a' h' w' := by
  obtain ⟨x, hx, hm⟩ := getJ_mix ok hr' hg (forget_mix (s' := s') (a' := a') hr)
  obtain ⟨h1, h2⟩ := mix_rr hr hs hr' hm
  exact ⟨x, hx, h1, h2⟩
end
theorem pub_rel {n : Nat} {β : Nat → Nat} {s : St} {a : Act} {h : Hp} {w : World} {l mm : List Nat} {β' : Nat → Nat} {s' : St} {a' : Act} {h' : Hp} {w' : World} {k : Nat} {K : St → Hp → Prop} (hk : k ∈ mm) (hs : Seg l mm (lives s) β a h w (lives s') β' a' h' w') (hr : Rel n β' s' a' h' w') (hp : pubW k s' h' K) :
    ∃ s2 h2, K s2 h2 ∧ Rel n β' s2 a' h2 w' ∧ Seg l mm (lives s) β a h w (lives s2) β' a' h2 w' := by
  unfold pubW at hp
  split at hp
  · rename_i k' off cs hf hm
    obtain ⟨h1, hp1⟩ := condP hp
    obtain ⟨h2, hp2⟩ := condP hp1
    clear hp hp1
    have h1 := Nat.eq_of_beq_eq_true h1
    have h2 := Nat.eq_of_beq_eq_true h2
    subst h1 h2
    obtain ⟨hn, ct, hw⟩ := hr.box k cs hm trivial
    have hset : ∀ x, (h'.set (β' k) (.cells cs.toArray ct (0, 0))) x = if x = β' k then some (.cells cs.toArray ct (0, 0)) else h' x := fun x => rfl
    have hmm : ∀ i cs', cond (Nat.beq i k) none (s'.m i) = some cs' → i ≠ k ∧ s'.m i = some cs' := fun i cs' e => by
      by_cases hi : i = k
      · subst hi; simp at e
      · rw [beq_ne hi] at e; exact ⟨hi, e⟩
    have hff : ∀ t v c, cond (Nat.beq t k) (some (LV.v (.pointer (some ⟨β' k, 0, none⟩)), ([] : Chain))) (s'.f t) = some (v, c) → (t = k ∧ v = LV.v (.pointer (some ⟨β' k, 0, none⟩)) ∧ c = []) ∨ s'.f t = some (v, c) := fun t v c e => by
      by_cases hi : t = k
      · subst hi; simp at e; exact .inl ⟨rfl, e.1.symm, by first | exact e.2 | exact e.2.symm⟩
      · rw [beq_ne hi] at e; exact .inr e
    refine ⟨_, _, hp2 (β' k) ct hn, ⟨hr.sz, fun b o e => ?_, fun t v c e => ?_, fun t v c e p hpp => ?_, fun t v c e _ hh => ?_, fun t v c e _ hh => ?_, fun i cs' e _ => ?_, fun i j e e' _ _ he => ?_, fun _ e => e.elim, fun _ e => e.elim⟩, ?_⟩
    · rw [hset] at e
      split at e
      · rename_i hb; cases e; rw [hb]; exact hw
      · exact hr.sub b o e
    · rcases hff t v c e with ⟨rfl, _, _⟩ | e
      · exact hr.lt t _ _ hf
      · exact hr.lt t v c e
    · rcases hff t v c e with ⟨rfl, _, rfl⟩ | e
      · cases hpp
      · exact hr.chain t v c e p hpp
    · have hh' : holds s' c := by
        have : c = [] := by
          rcases hff t v c e with ⟨_, _, h⟩ | e
          · exact h
          · cases c with
            | nil => rfl
            | cons p c => exact (hr.chain t v _ e p (List.mem_cons_self ..)).elim
        subst this; exact holds_nil _
      rcases hff t v c e with ⟨rfl, rfl, rfl⟩ | e
      · refine ⟨?_, fun _ _ _ => trivial⟩
        exact (hr.cur t _ _ hf trivial (holds_nil _)).1
      · exact ⟨(hr.cur t v c e trivial hh').1, fun _ _ _ => trivial⟩
    · have : c = [] := by
        rcases hff t v c e with ⟨_, _, h⟩ | e
        · exact h
        · cases c with
          | nil => rfl
          | cons p c => exact (hr.chain t v _ e p (List.mem_cons_self ..)).elim
      subst this; exact absurd (holds_nil _) hh
    · obtain ⟨h1, h2⟩ := hmm i cs' e
      obtain ⟨h3, ct', h4⟩ := hr.box i cs' h2 trivial
      refine ⟨?_, ct', h4⟩
      rw [hset, if_neg]
      · exact h3
      · intro e'
        exact h1 (hr.inj i k (by simp [h2]) (by simp [hm]) trivial trivial e')
    · obtain ⟨ci, e⟩ := Option.ne_none_iff_exists'.1 e
      obtain ⟨cj, e'⟩ := Option.ne_none_iff_exists'.1 e'
      exact hr.inj i j (by simp [(hmm i ci e).2]) (by simp [(hmm j cj e').2]) trivial trivial he
    · refine ⟨hs.tmp, hs.beta, hs.size, fun b hb hn' hne => ?_, hs.keep, fun i hi => ?_, hs.os, hs.tape, hs.output, hs.defers⟩
      · rw [hset, if_neg]
        · exact hs.unk b hb hn' hne
        · rintro rfl
          rcases hs.fresh k ⟨by simp [hm], trivial⟩ with ⟨e1, e2⟩ | e1
          · exact hne k hk e1 e2.symm
          · omega
      · obtain ⟨ci, e⟩ := Option.ne_none_iff_exists'.1 hi.1
        exact hs.fresh i ⟨by simp [(hmm i ci e).2], trivial⟩
  · exact hp.elim
theorem app_mem {x y : List Nat} {d : Nat} : d ∈ app x y ↔ d ∈ x ∨ d ∈ y := by rw [app_eq, List.mem_append]
theorem condN {α : Type} {c : Bool} {x : Option α} {y : α} (e : cond c x none = some y) : c = true ∧ x = some y := by
  cases c
  · cases e
  · exact ⟨rfl, e⟩
theorem noLab_find {l : Nat} : ∀ {c : Code}, noLab c l = true → findLabel c l = none := by
  intro c
  induction c with
  | seq a b iha ihb =>
    intro e
    simp only [noLab] at e
    cases ha : noLab a l with
    | false => rw [ha] at e; cases e
    | true => rw [ha] at e; simp only [findLabel, iha ha]; exact ihb e
  | label l' =>
    intro e
    simp only [noLab] at e
    by_cases hl : l' = l
    · subst hl; simp at e
    · simp [findLabel, hl]
  | _ => intro _; rfl
theorem restOf_seq {x y : Code} {l : Nat} (hx : ∀ l', x ≠ .label l') : restOf (.seq x y) l = cond (noLab x l) (restOf y l) none := by
  cases x <;> first | rfl | exact absurd rfl (hx _)
theorem liftM_fr {C : Ctx} {x y : Code} {l : Nat} {A : Ann} {mok : List Nat} {s : St} {E : Env} {h : Hp} (hx : ∀ l', x ≠ .label l') :
    liftM C (.seq x y) (.fr l) A mok s E h = liftM C x .full A.fst mok s (E.nrm fun s' h' => liftM C y (.fr l) A.snd mok s' E h') h := by
  cases x <;> first | rfl | exact absurd rfl (hx _)
theorem liftM_pr {C : Ctx} {x y : Code} {l : Nat} {A : Ann} {mok : List Nat} {s : St} {E : Env} {h : Hp} (hx : ∀ l', x ≠ .label l') :
    liftM C (.seq x y) (.pr l) A mok s E h = match (generalizing := false) A with
      | .gj _ js mm z _ => cond (allIn mm mok) (liftM C x .full .tt mok s (E.noGto.nrm fun s' h' =>
          JoinT (fun (R : JTup C.tb js → Hp → Prop) => liftM C y (.fr l) z mm s' (E.lab l fun s' h' => getJ C.tb js s' fun x => R x h') h')
            (fun x h' => liftM C y (.rs l) A.snd mok (setJ C.tb js x (s'.forget (mods y) mm)) E.noGto h')) h) False
      | _ => liftM C x .full A.fst mok s (E.noGto.nrm fun s' h' => liftM C y (.pr l) A.snd mok s' E h') h := by
  cases x <;> first | rfl | exact absurd rfl (hx _)
theorem jump_of_noGoto {l : Nat} {Q : Exit → Act → World → Prop} {J : Act → World → Prop} {e : Exit} {a : Act} {w : World} (he : Exit.noGoto Q e a w) : Exit.jump l J Q e a w := by
  cases e <;> first | exact he | exact he.elim
theorem liftM_rs {C : Ctx} {x y : Code} {l : Nat} {A : Ann} {mok : List Nat} {s : St} {E : Env} {h : Hp} (hx : ∀ l', x ≠ .label l') :
    liftM C (.seq x y) (.rs l) A mok s E h = liftM C y (.rs l) A mok s E h := by
  cases x <;> first | rfl | exact absurd rfl (hx _)
theorem restOf_find {l : Nat} {r : Code} : ∀ {c : Code}, restOf c l = some r → findLabel c l = some (.seq .skip r) := by
  intro c
  induction c with
  | seq x y ihx ihy =>
    intro e
    by_cases hx : ∃ l', x = .label l'
    · obtain ⟨l', rfl⟩ := hx
      obtain ⟨h1, e⟩ := condN e
      obtain rfl : y = r := Option.some.inj e
      obtain rfl := Nat.eq_of_beq_eq_true h1
      simp [findLabel]
    · rw [restOf_seq (fun l' e => hx ⟨l', e⟩)] at e
      obtain ⟨h1, e⟩ := condN e
      simp only [findLabel, noLab_find h1]
      exact ihy e
  | _ => intro e; simp [restOf] at e
theorem liftM_sound {C : Ctx} (ok : C.tb.Ok C.P) {n : Nat} : ∀ (c : Code),
    (∀ (A : Ann) (mok : List Nat) (s : St) (E : Env) (h : Hp), (∀ d ∈ mods c, d < n) → liftM C c .full A mok s E h → ∀ (β : Nat → Nat) (a : Act) (w : World), Rel n β s a h w →
      ∀ Q : Exit → Act → World → Prop, (∀ e s' h' β' a' w', E e s' h' → Rel n β' s' a' h' w' → Seg (mods c) mok (lives s) β a h w (lives s') β' a' h' w' → Q (exOf e) a' w') → c.wp C.P Q a w) ∧
    ∀ l r, restOf c l = some r →
      (∀ (A : Ann) (mok : List Nat) (s : St) (E : Env) (h : Hp), (∀ d ∈ mods c, d < n) → liftM C c (.fr l) A mok s E h → ∀ (β : Nat → Nat) (a : Act) (w : World), Rel n β s a h w →
        ∀ Q : Exit → Act → World → Prop, (∀ s' h' β' a' w', E .nrm s' h' → Rel n β' s' a' h' w' → Seg (mods c) mok (lives s) β a h w (lives s') β' a' h' w' → r.wp C.P Q a' w') →
        (∀ e s' h' β' a' w', e ≠ .nrm → E e s' h' → Rel n β' s' a' h' w' → Seg (mods c) mok (lives s) β a h w (lives s') β' a' h' w' → Q (exOf e) a' w') → c.wp C.P Q a w) ∧
      (∀ (A : Ann) (mok : List Nat) (s : St) (E : Env) (h : Hp), (∀ d ∈ mods c, d < n) → liftM C c (.rs l) A mok s E h → ∀ (β : Nat → Nat) (a : Act) (w : World), Rel n β s a h w →
        ∀ Q : Exit → Act → World → Prop, (∀ e s' h' β' a' w', E e s' h' → Rel n β' s' a' h' w' → Seg (mods c) mok (lives s) β a h w (lives s') β' a' h' w' → Q (exOf e) a' w') → r.wp C.P Q a w) ∧
      (∀ (A : Ann) (mok : List Nat) (s : St) (E : Env) (h : Hp), (∀ d ∈ mods c, d < n) → liftM C c (.pr l) A mok s E h → ∀ (β : Nat → Nat) (a : Act) (w : World), Rel n β s a h w →
        ∀ Q : Exit → Act → World → Prop, (∀ e s' h' β' a' w', (∀ i, e ≠ .gto i) → E e s' h' → Rel n β' s' a' h' w' → Seg (mods c) mok (lives s) β a h w (lives s') β' a' h' w' → Q (exOf e) a' w') →
        c.wp C.P (Exit.jump l (fun a' w' => r.wp C.P (Exit.noGoto Q) a' w') Q) a w) := by
  intro c
  induction c with
  | skip =>
    refine ⟨?_, fun l r e => by simp [restOf] at e⟩
    intro A mok s E h _ hv β a w hr Q hQ; exact wp_skip (hQ .nrm s h β a w hv hr (Seg.refl _ _))
  | ret =>
    refine ⟨?_, fun l r e => by simp [restOf] at e⟩
    intro A mok s E h _ hv β a w hr Q hQ; exact wp_ret (hQ .ret s h β a w hv hr (Seg.refl _ _))
  | exit i =>
    refine ⟨?_, fun l r e => by simp [restOf] at e⟩
    intro A mok s E h _ hv β a w hr Q hQ; exact wp_exit (hQ (.ext i) s h β a w hv hr (Seg.refl _ _))
  | goto i =>
    refine ⟨?_, fun l r e => by simp [restOf] at e⟩
    intro A mok s E h _ hv β a w hr Q hQ; exact wp_goto (hQ (.gto i) s h β a w hv hr (Seg.refl _ _))
  | label i =>
    refine ⟨?_, fun l r e => by simp [restOf] at e⟩
    intro A mok s E h _ hv β a w hr Q hQ; exact wp_label (hQ .nrm s h β a w hv hr (Seg.refl _ _))
  | region id ops draw =>
    refine ⟨?_, fun l r e => by simp [restOf] at e⟩
    intro A mok s E h hlt hv β a w hr Q hQ
    have hclean : ∀ s' : St, ∀ k, lives s'.clean k ↔ lives s' k := fun s' k => .rfl
    cases draw with
    | true =>
      simp only [liftM] at hv
      split at hv
      · rename_i ord
        obtain ⟨hp, hv⟩ := condP hv
        exact any_sound ok hp hlt hr hv fun s' h' β' a' w' hk hr' hs' => hQ .nrm s'.clean h' β' a' w' hk hr' hs'
      · exact hv.elim
    | false =>
      simp only [liftM] at hv
      obtain ⟨hp, hv⟩ := condP hv
      unfold seqOk at hp
      obtain ⟨h1, hp⟩ := condT hp
      have hst := hr.start (allocsOf C.priv ops.toList)
      have main : ∀ g : Bool, (g = false → noGuard ops.toList = true) → (g = true → (modsO ops.toList).Nodup ∧ guardsBack ops.toList 0 = true) → (Code.region id ops false).wp C.P Q a w := by
        intro g hg1 hg2
        refine wp_region ?_
        have := seq_sound (n := n) (mok := mok) (K := fun s' h' => E .nrm s'.clean h') (Q := Q) ok g hlt hg1 hg2 ops.toList [] β _ a h w rfl (nodup_iff h1) hv
          (hst.congr (fun _ => .rfl) (fun _ => .rfl) (fun _ e => e.elim) (fun _ e => e)) (fun s' h' β' a' w' hk hr' hs' => hQ .nrm s'.clean h' β' a' w' hk hr'.clean
            (hs'.mono (fun _ e => e) (fun _ e => e) (fun k e => live_drop e) (fun _ e => e)))
        rw [List.range_eq_range']
        simpa using this
      cases hng : noGuard ops.toList with
      | true => exact main false (fun _ => hng) (fun e => by cases e)
      | false =>
        rw [hng] at hp
        simp only [cond_false] at hp
        obtain ⟨h2, h3⟩ := condT hp
        exact main true (fun e => by cases e) (fun _ => ⟨nodup_iff h2, h3⟩)
  | seq x y ihx ihy =>
    have hmx : ∀ d ∈ mods x, d ∈ mods (.seq x y) := fun d hd => app_mem.2 (.inl hd)
    have hmy : ∀ d ∈ mods y, d ∈ mods (.seq x y) := fun d hd => app_mem.2 (.inr hd)
    refine ⟨?_, fun l r e => ?_⟩
    rotate_left
    · by_cases hx : ∃ l', x = .label l'
      · obtain ⟨l', rfl⟩ := hx
        obtain ⟨-, e⟩ := condN e
        obtain rfl : y = r := Option.some.inj e
        refine ⟨fun A mok s E h hlt hv β a w hr Q h1 _ => ?_, fun A mok s E h hlt hv β a w hr Q hQ => ?_, fun A mok s E h hlt hv => hv.elim⟩
        · exact wp_seq (wp_label (h1 s h β a w hv hr (Seg.refl _ _)))
        · exact ihy.1 _ _ _ _ _ (fun d hd => hlt d (hmy d hd)) hv β a w hr Q fun e s' h' β' a' w' he hr' hs' => hQ e s' h' β' a' w' he hr' (hs'.mono hmy (fun _ e => e) (fun _ e => e) (fun _ e => e))
      · rw [restOf_seq (fun l' e => hx ⟨l', e⟩)] at e
        obtain ⟨-, e⟩ := condN e
        refine ⟨fun A mok s E h hlt hv β a w hr Q h1 h2 => ?_, fun A mok s E h hlt hv β a w hr Q hQ => ?_, fun A mok s E h hlt hv β a w hr Q hQ => ?_⟩
        · rw [liftM_fr (fun l' e => hx ⟨l', e⟩)] at hv
          refine wp_seq ?_
          refine ihx.1 _ mok s _ h (fun d hd => hlt d (hmx d hd)) hv β a w hr _ fun e' s' h' β' a' w' he hr' hs' => ?_
          have hs1 := hs'.mono (mm' := mok) hmx (fun _ e => e) (fun _ e => e) (fun _ e => e)
          cases e' with
          | nrm =>
            exact ((ihy.2 l r e).1 _ mok _ E h' (fun d hd => hlt d (hmy d hd)) he β' a' w' hr' Q
              (fun s2 h2 β2 a2 w2 he2 hrr hss => h1 s2 h2 β2 a2 w2 he2 hrr (hs1.trans (hss.mono hmy (fun _ e => e) (fun _ e => e) (fun _ e => e))))
              (fun e2 s2 h2' β2 a2 w2 hne he2 hrr hss => h2 e2 s2 h2' β2 a2 w2 hne he2 hrr (hs1.trans (hss.mono hmy (fun _ e => e) (fun _ e => e) (fun _ e => e)))))
          | ret => exact h2 .ret s' h' β' a' w' (by simp) he hr' hs1
          | ext i => exact h2 (.ext i) s' h' β' a' w' (by simp) he hr' hs1
          | gto i => exact h2 (.gto i) s' h' β' a' w' (by simp) he hr' hs1
        · rw [liftM_rs (fun l' e => hx ⟨l', e⟩)] at hv
          exact (ihy.2 l r e).2.1 _ mok s E h (fun d hd => hlt d (hmy d hd)) hv β a w hr Q fun e' s' h' β' a' w' he hr' hs' => hQ e' s' h' β' a' w' he hr' (hs'.mono hmy (fun _ e => e) (fun _ e => e) (fun _ e => e))
        · rw [liftM_pr (fun l' e => hx ⟨l', e⟩)] at hv
          have hly : ∀ d ∈ mods y, d < n := fun d hd => hlt d (hmy d hd)
          refine wp_seq ?_
          split at hv
          · rename_i js mm z _
            obtain ⟨hmm, hv⟩ := condP hv
            have hmm' := allIn_mem hmm
            refine ihx.1 _ mok s _ h (fun d hd => hlt d (hmx d hd)) hv β a w hr _ fun e' s0 h0 β0 a0 w0 he hr0 hs0 => ?_
            have hs0' := hs0.mono (mm' := mok) hmx (fun _ e => e) (fun _ e => e) (fun _ e => e)
            cases e' with
            | nrm =>
              obtain ⟨R, hA, hB⟩ := he
              have joined : ∀ s' h' β' a' w', Rel n β' s' a' h' w' → Seg (mods y) mm (lives s0) β0 a0 h0 w0 (lives s') β' a' h' w' → getJ C.tb js s' (fun z => R z h') → r.wp C.P (Exit.noGoto Q) a' w' := by
                intro s' h' β' a' w' hr' hs' hg
                obtain ⟨z, hz, hr2, hs2⟩ := join_rel ok hr0 hs' hr' hg
                refine (ihy.2 l r e).2.1 _ mok _ _ h' hly (hB z h' hz) β' a' w' hr2 _ fun e s2 h2 β2 a2 w2 he hr3 hs3 => ?_
                have hs4 := hs0'.trans (((hs2.mono (l' := mods y) (mm' := mok) (fun _ e => e) hmm' (fun _ e => e) (fun _ e => e)).trans hs3).mono hmy (fun _ e => e) (fun _ e => e) (fun _ e => e))
                cases e with
                | nrm => exact hQ .nrm s2 h2 β2 a2 w2 (by simp) he hr3 hs4
                | ret => exact hQ .ret s2 h2 β2 a2 w2 (by simp) he hr3 hs4
                | ext i => exact hQ (.ext i) s2 h2 β2 a2 w2 (by simp) he hr3 hs4
                | gto i => exact he.elim
              refine (ihy.2 l r e).1 _ mm s0 _ h0 hly hA β0 a0 w0 hr0 _ (fun s' h' β' a' w' he hr' hs' => ?_) fun e s' h' β' a' w' hne he hr' hs' => ?_
              · exact wp_mono (joined s' h' β' a' w' hr' hs' he) fun _ _ _ => jump_of_noGoto
              · have hs4 := hs0'.trans (hs'.mono (mm' := mok) hmy hmm' (fun _ e => e) (fun _ e => e))
                cases e with
                | nrm => exact absurd rfl hne
                | ret => exact hQ .ret s' h' β' a' w' (by simp) he hr' hs4
                | ext i => exact hQ (.ext i) s' h' β' a' w' (by simp) he hr' hs4
                | gto i =>
                  by_cases hi : i = l
                  · subst hi
                    simp only [Env.lab, Nat.beq_refl, cond_true] at he
                    exact ⟨rfl, joined s' h' β' a' w' hr' hs' he⟩
                  · simp only [Env.lab, beq_ne hi, cond_false] at he
            | ret => exact hQ .ret s0 h0 β0 a0 w0 (by simp) he hr0 hs0'
            | ext i => exact hQ (.ext i) s0 h0 β0 a0 w0 (by simp) he hr0 hs0'
            | gto i => exact he.elim
          · refine ihx.1 _ mok s _ h (fun d hd => hlt d (hmx d hd)) hv β a w hr _ fun e' s0 h0 β0 a0 w0 he hr0 hs0 => ?_
            have hs0' := hs0.mono (mm' := mok) hmx (fun _ e => e) (fun _ e => e) (fun _ e => e)
            cases e' with
            | nrm => exact (ihy.2 l r e).2.2 _ mok s0 E h0 hly he β0 a0 w0 hr0 Q fun e' s' h' β' a' w' hne he hr' hs' => hQ e' s' h' β' a' w' hne he hr' (hs0'.trans (hs'.mono hmy (fun _ e => e) (fun _ e => e) (fun _ e => e)))
            | ret => exact hQ .ret s0 h0 β0 a0 w0 (by simp) he hr0 hs0'
            | ext i => exact hQ (.ext i) s0 h0 β0 a0 w0 (by simp) he hr0 hs0'
            | gto i => exact he.elim
    intro A mok s E h hlt hv β a w hr Q hQ
    have hlx : ∀ d ∈ mods x, d < n := fun d hd => hlt d (app_mem.2 (.inl hd))
    have hly : ∀ d ∈ mods y, d < n := fun d hd => hlt d (app_mem.2 (.inr hd))
    refine wp_seq ?_
    unfold liftM at hv
    split at hv
    · rename_i js mm _ _
      obtain ⟨hmm, R, hA, hB⟩ := condP hv
      have hmm' := allIn_mem hmm
      refine ihx.1 _ mm s _ h hlx hA β a w hr _ fun e s' h' β' a' w' he hr' hs' => ?_
      cases e with
      | nrm =>
        obtain ⟨z, hz, hr2, hs2⟩ := join_rel ok hr hs' hr' he
        refine ihy.1 _ mok _ E h' hly (hB z h' hz) β' a' w' hr2 Q fun e2 s2 h2 β2 a2 w2 he2 hrr hss => ?_
        exact hQ e2 s2 h2 β2 a2 w2 he2 hrr ((hs2.mono hmx hmm' (fun _ e => e) (fun _ e => e)).trans (hss.mono hmy (fun _ e => e) (fun _ e => e) (fun _ e => e)))
      | ret => exact hQ .ret s' h' β' a' w' he hr' (hs'.mono hmx hmm' (fun _ e => e) (fun _ e => e))
      | ext i => exact hQ (.ext i) s' h' β' a' w' he hr' (hs'.mono hmx hmm' (fun _ e => e) (fun _ e => e))
      | gto i => exact hQ (.gto i) s' h' β' a' w' he hr' (hs'.mono hmx hmm' (fun _ e => e) (fun _ e => e))
    · rename_i k _ _
      obtain ⟨hk, hv⟩ := condP hv
      have hk := (has_iff _ _).1 hk
      refine ihx.1 _ mok s _ h hlx hv β a w hr _ fun e s' h' β' a' w' he hr' hs' => ?_
      cases e with
      | nrm =>
        obtain ⟨s1, h1, he, hr1, hs1⟩ := pub_rel (K := fun s2 h2 => liftM C y .full _ mok s2 E h2) hk hs' hr' he
        refine ihy.1 _ mok _ E h1 hly he β' a' w' hr1 Q fun e2 s2 h2 β2 a2 w2 he2 hrr hss => ?_
        exact hQ e2 s2 h2 β2 a2 w2 he2 hrr ((hs1.mono hmx (fun _ e => e) (fun _ e => e) (fun _ e => e)).trans (hss.mono hmy (fun _ e => e) (fun _ e => e) (fun _ e => e)))
      | ret => exact hQ .ret s' h' β' a' w' he hr' (hs'.mono hmx (fun _ e => e) (fun _ e => e) (fun _ e => e))
      | ext i => exact hQ (.ext i) s' h' β' a' w' he hr' (hs'.mono hmx (fun _ e => e) (fun _ e => e) (fun _ e => e))
      | gto i => exact hQ (.gto i) s' h' β' a' w' he hr' (hs'.mono hmx (fun _ e => e) (fun _ e => e) (fun _ e => e))
    · refine ihx.1 _ mok s _ h hlx hv β a w hr _ fun e s' h' β' a' w' he hr' hs' => ?_
      cases e with
      | nrm =>
        refine ihy.1 _ mok _ E h' hly he β' a' w' hr' Q fun e2 s2 h2 β2 a2 w2 he2 hrr hss => ?_
        exact hQ e2 s2 h2 β2 a2 w2 he2 hrr ((hs'.mono hmx (fun _ e => e) (fun _ e => e) (fun _ e => e)).trans (hss.mono hmy (fun _ e => e) (fun _ e => e) (fun _ e => e)))
      | ret => exact hQ .ret s' h' β' a' w' he hr' (hs'.mono hmx (fun _ e => e) (fun _ e => e) (fun _ e => e))
      | ext i => exact hQ (.ext i) s' h' β' a' w' he hr' (hs'.mono hmx (fun _ e => e) (fun _ e => e) (fun _ e => e))
      | gto i => exact hQ (.gto i) s' h' β' a' w' he hr' (hs'.mono hmx (fun _ e => e) (fun _ e => e) (fun _ e => e))
  | cond c x y ihx ihy =>
    refine ⟨?_, fun l r e => by simp [restOf] at e⟩
    intro A mok s E h hlt hv β a w hr Q hQ
    have hlx : ∀ d ∈ mods x, d < n := fun d hd => hlt d (app_mem.2 (.inl hd))
    have hly : ∀ d ∈ mods y, d < n := fun d hd => hlt d (app_mem.2 (.inr hd))
    simp only [liftM] at hv
    obtain ⟨v, hev, hv⟩ := onV_some hv
    split at hv
    · rename_i t
      have hc := ev_ok (opnd_rr hr (x := c) fun _ _ => trivial) (holds_nil s) hev
      refine wp_cond_split (t := t) hc (fun ht => ?_) (fun ht => ?_)
      · rw [if_pos ht] at hv
        exact ihx.1 _ mok s E h hlx hv β a w hr Q fun e s' h' β' a' w' he hr' hs' => hQ e s' h' β' a' w' he hr' (hs'.mono (fun d hd => app_mem.2 (.inl hd)) (fun _ e => e) (fun _ e => e) (fun _ e => e))
      · rw [if_neg (by rw [ht]; simp)] at hv
        exact ihy.1 _ mok s E h hly hv β a w hr Q fun e s' h' β' a' w' he hr' hs' => hQ e s' h' β' a' w' he hr' (hs'.mono (fun d hd => app_mem.2 (.inr hd)) (fun _ e => e) (fun _ e => e) (fun _ e => e))
    · exact hv.elim
  | block id x ih =>
    refine ⟨?_, fun l r e => by simp [restOf] at e⟩
    intro A mok s E h hlt hv β a w hr Q hQ
    refine wp_block ?_
    unfold liftM at hv
    split at hv
    · rename_i js mm _
      obtain ⟨hmm, R, hA, hB⟩ := condP hv
      have hmm' := allIn_mem hmm
      refine ih.1 _ mm s _ h hlt hA β a w hr _ fun e s' h' β' a' w' he hr' hs' => ?_
      have joined : getJ C.tb js s' (fun x => R x h') → Q .normal a' w' := fun hg => by
        obtain ⟨z, hz, hr2, hs2⟩ := join_rel ok hr hs' hr' hg
        exact hQ .nrm _ h' β' a' w' (hB z h' hz) hr2 (hs2.mono (fun _ e => e) hmm' (fun _ e => e) (fun _ e => e))
      cases e with
      | nrm => exact joined he
      | ret => exact hQ .ret s' h' β' a' w' he hr' (hs'.mono (fun _ e => e) hmm' (fun _ e => e) (fun _ e => e))
      | ext i =>
        simp only [exOf, Exit.inBlock]
        by_cases hi : i = id
        · subst hi
          simp only [Env.blk, Nat.beq_refl, cond_true] at he
          simpa using joined he
        · rw [if_neg hi]
          simp only [Env.blk, beq_ne hi, cond_false] at he
          exact hQ (.ext i) s' h' β' a' w' he hr' (hs'.mono (fun _ e => e) hmm' (fun _ e => e) (fun _ e => e))
      | gto i => exact hQ (.gto i) s' h' β' a' w' he hr' (hs'.mono (fun _ e => e) hmm' (fun _ e => e) (fun _ e => e))
    · refine ih.1 _ mok s _ h hlt hv β a w hr _ fun e s' h' β' a' w' he hr' hs' => ?_
      cases e with
      | nrm => exact hQ .nrm s' h' β' a' w' he hr' hs'
      | ret => exact hQ .ret s' h' β' a' w' he hr' hs'
      | ext i =>
        simp only [exOf, Exit.inBlock]
        by_cases hi : i = id
        · subst hi
          simp only [Env.blk, Nat.beq_refl, cond_true] at he
          rw [if_pos rfl]
          exact hQ .nrm s' h' β' a' w' he hr' hs'
        · rw [if_neg hi]
          simp only [Env.blk, beq_ne hi, cond_false] at he
          exact hQ (.ext i) s' h' β' a' w' he hr' hs'
      | gto i => exact hQ (.gto i) s' h' β' a' w' he hr' hs'
  | scope x ih =>
    refine ⟨?_, fun l r e => by simp [restOf] at e⟩
    intro A mok s E h hlt hv β a w hr Q hQ
    unfold liftM at hv
    split at hv
    · rename_i l _
      split at hv
      · rename_i r hrest
        refine wp_scope_jumps l (fun a' w' => r.wp C.P (Exit.noGoto Q) a' w') (fun _ _ => 0) (restOf_find hrest) ?_ fun a' w' hJ => wp_seq (wp_skip (wp_mono hJ fun _ _ _ => jump_of_noGoto))
        exact (ih.2 l r hrest).2.2 _ mok s E h hlt hv β a w hr Q fun e s' h' β' a' w' _ he hr' hs' => hQ e s' h' β' a' w' he hr' hs'
      · exact hv.elim
    · refine wp_scope_straight ?_
      refine ih.1 _ mok s _ h hlt hv β a w hr _ fun e s' h' β' a' w' he hr' hs' => ?_
      cases e with
      | nrm => exact hQ .nrm s' h' β' a' w' he hr' hs'
      | ret => exact hQ .ret s' h' β' a' w' he hr' hs'
      | ext i => exact hQ (.ext i) s' h' β' a' w' he hr' hs'
      | gto i => exact he.elim
  | loop x ih =>
    refine ⟨?_, fun l r e => by simp [restOf] at e⟩
    intro A mok s E h hlt hv β a w hr Q hQ
    unfold liftM at hv
    split at hv
    · rename_i js mm _
      obtain ⟨hmm, hv⟩ := condP hv
      have hmm' := allIn_mem hmm
      obtain ⟨x0, hx0, hr0, hs0⟩ := join_rel ok hr (Seg.refl (l := mods x) (mm := mm)) hr hv
      obtain ⟨I, μ, hI, hbody⟩ := hx0
      refine wp_loop_count (fun m a' w' => ∃ z h' β', I z h' ∧ μ z h' = m ∧ Rel n β' (setJ C.tb js z (s.forget (mods x) mm)) a' h' w' ∧ Seg (mods x) mm (lives s) β a h w (lives (setJ C.tb js z (s.forget (mods x) mm))) β' a' h' w')
        ⟨_, x0, h, β, hI, rfl, hr0, hs0⟩ ?_
      rintro m a' w' ⟨z, h', β', hz, rfl, hr1, hs1⟩
      refine ih.1 _ mm _ _ h' hlt (hbody z h' hz) β' a' w' hr1 _ fun e s2 h2 β2 a2 w2 he hr2 hs2 => ?_
      have hs12 := hs1.trans hs2
      cases e with
      | nrm =>
        obtain ⟨z2, hz2, hr3, hs3⟩ := join_rel ok hr hs12 hr2 he
        exact ⟨_, hz2.2, z2, h2, β2, hz2.1, rfl, hr3, hs3⟩
      | ret => exact hQ .ret s2 h2 β2 a2 w2 he hr2 (hs12.mono (fun _ e => e) hmm' (fun _ e => e) (fun _ e => e))
      | ext i => exact hQ (.ext i) s2 h2 β2 a2 w2 he hr2 (hs12.mono (fun _ e => e) hmm' (fun _ e => e) (fun _ e => e))
      | gto i => exact hQ (.gto i) s2 h2 β2 a2 w2 he hr2 (hs12.mono (fun _ e => e) hmm' (fun _ e => e) (fun _ e => e))
    · exact hv.elim
  | _ => exact ⟨fun A mok s E h _ hv => hv.elim, fun l r e => by simp [restOf] at e⟩
theorem lift_sound {C : Ctx} (ok : C.tb.Ok C.P) {n : Nat} (c : Code) (A : Ann) (mok : List Nat) (s : St) (E : Env) (h : Hp) (hlt : ∀ d ∈ mods c, d < n) (hv : liftM C c .full A mok s E h) (β : Nat → Nat) (a : Act) (w : World) (hr : Rel n β s a h w)
    (Q : Exit → Act → World → Prop) (hQ : ∀ e s' h' β' a' w', E e s' h' → Rel n β' s' a' h' w' → Seg (mods c) mok (lives s) β a h w (lives s') β' a' h' w' → Q (exOf e) a' w') : c.wp C.P Q a w :=
  (liftM_sound ok c).1 A mok s E h hlt hv β a w hr Q hQ
end Lf

namespace Lf
open Go
def resRun (tmps : Array Value) : ResultVar → Sem Value
  | .tmp t => pure (tmps.getD t undef)
  | .cell a t => do loadVar t (← asAddr (tmps.getD a undef))
def resVal : List Value → Value
  | [v] => v
  | vs => .tuple vs.toArray
theorem results_run {P : Program} {fn : Func} {tmps : Array Value} {vs : List Value} {w : World} (h : (fn.results.toList.mapM (resRun tmps)).run P w = .ok vs w) : (results fn tmps).run P w = .ok (resVal vs) w := by
  have e : results fn tmps = ((fn.results.mapM (resRun tmps)) >>= fun vs => pure (if h : vs.size = 1 then vs[0] else .tuple vs)) := by
    unfold results
    congr 1
  rw [e, Array.mapM_eq_mapM_toList, map_eq_pure_bind]
  simp only [Sem.run_bind, h, Result.andThen_ok, Sem.run_pure]
  cases vs with
  | nil => rfl
  | cons v vs => cases vs <;> simp [resVal]
theorem run_loadSh {P : Program} {tb : Tb} (ok : tb.Ok P) {t : Nat} {e : Ty} (he : tb.ty t = some e) {w : World} {a : Addr} {x : (shOf tb t).T}
    (hc : ∀ (j : Nat) (v : Value), (cellsL ((shOf tb t).enc x))[j]? = some v → w.cell? (a.add j) = some v) : (loadVar t a).run P w = .ok ((shOf tb t).enc x) w := by
  revert x
  rw [shOf_eq, he]
  intro x hc
  exact run_loadVar ok he hc
section
variable {C : Ctx} {n : Nat} {β : Nat → Nat} {s : St} {a : Act} {h : Hp} {w : World}
theorem retOne_run (ok : C.tb.Ok C.P) (hr : Rel n β s a h w) {r : ResultVar} {t : Nat} {K : (shOf C.tb t).T → Prop} (hv : retOne C s r t K) : ∃ x, K x ∧ (resRun a.tmps r).run C.P w = .ok ((shOf C.tb t).enc x) w := by
  cases r with
  | tmp i =>
    simp only [retOne] at hv
    split at hv
    · rename_i v hf
      split at hv
      · rename_i x hx
        refine ⟨x, hv, ?_⟩
        have := (hr.cur i _ [] hf trivial (holds_nil _)).1
        rw [(shOf C.tb t).ok v x hx]
        simp only [resRun, Sem.run_pure]
        exact congrArg (fun v => Result.ok v w) this
      · exact hv.elim
    · exact hv.elim
  | cell i ct =>
    simp only [retOne] at hv
    obtain ⟨h1, hv⟩ := condP hv
    have h1 := Nat.eq_of_beq_eq_true h1
    subst h1
    split at hv
    · rename_i k e hf he
      split at hv
      · rename_i cs hm
        split at hv
        · rename_i v hcs
          split at hv
          · rename_i x hx
            refine ⟨x, hv, ?_⟩
            have hc := cells_of ok hcs hx
            obtain ⟨_, t', hb⟩ := hr.box k cs hm trivial
            have := (hr.cur i _ [] hf trivial (holds_nil _)).1
            have h2 : a.tmps.getD i undef = .pointer (some ⟨β k, 0, none⟩) := this
            simp only [resRun, h2, asAddr, Sem.run_bind, Sem.run_pure, Result.andThen_ok]
            refine run_loadSh ok he fun j v hj => ?_
            rw [hc] at hj
            rw [box_add, box_cell hb]
            simpa using hj
          · exact hv.elim
        · exact hv.elim
      · exact hv.elim
    · exact hv.elim
theorem retW_run (ok : C.tb.Ok C.P) (hr : Rel n β s a h w) {rs : List ResultVar} {ts : List Nat} {K : (shRes C.tb ts).T → Hp → Prop} (hv : retW C s h rs ts K) :
    ∃ x vs, K x h ∧ (rs.mapM (resRun a.tmps)).run C.P w = .ok vs w ∧ resVal vs = (shRes C.tb ts).enc x := by
  have step : ∀ {r : ResultVar} {rs : List ResultVar} {v : Value} {vs : List Value}, (resRun a.tmps r).run C.P w = .ok v w → (rs.mapM (resRun a.tmps)).run C.P w = .ok vs w → ((r :: rs).mapM (resRun a.tmps)).run C.P w = .ok (v :: vs) w := by
    intro r rs v vs h1 h2
    simp only [List.mapM_cons, Sem.run_bind, h1, h2, Result.andThen_ok, Sem.run_pure]
  have nil : (([] : List ResultVar).mapM (resRun a.tmps)).run C.P w = .ok [] w := by simp only [List.mapM_nil, Sem.run_pure]
  unfold retW at hv
  split at hv
  · exact ⟨(), [], hv, nil, rfl⟩
  · obtain ⟨x, hk, h1⟩ := retOne_run ok hr hv
    exact ⟨x, _, hk, step h1 nil, rfl⟩
  · obtain ⟨x1, hv, h1⟩ := retOne_run ok hr hv
    obtain ⟨x2, hk, h2⟩ := retOne_run ok hr hv
    exact ⟨(x1, x2), _, hk, step h1 (step h2 nil), rfl⟩
  · obtain ⟨x1, hv, h1⟩ := retOne_run ok hr hv
    obtain ⟨x2, hv, h2⟩ := retOne_run ok hr hv
    obtain ⟨x3, hk, h3⟩ := retOne_run ok hr hv
    exact ⟨(x1, x2, x3), _, hk, step h1 (step h2 (step h3 nil)), rfl⟩
  · obtain ⟨x1, hv, h1⟩ := retOne_run ok hr hv
    obtain ⟨x2, hv, h2⟩ := retOne_run ok hr hv
    obtain ⟨x3, hv, h3⟩ := retOne_run ok hr hv
    obtain ⟨x4, hk, h4⟩ := retOne_run ok hr hv
    exact ⟨(x1, x2, x3, x4), _, hk, step h1 (step h2 (step h3 (step h4 nil))), rfl⟩
  · obtain ⟨x1, hv, h1⟩ := retOne_run ok hr hv
    obtain ⟨x2, hv, h2⟩ := retOne_run ok hr hv
    obtain ⟨x3, hv, h3⟩ := retOne_run ok hr hv
    obtain ⟨x4, hv, h4⟩ := retOne_run ok hr hv
    obtain ⟨x5, hk, h5⟩ := retOne_run ok hr hv
    exact ⟨(x1, x2, x3, x4, x5), _, hk, step h1 (step h2 (step h3 (step h4 (step h5 nil)))), rfl⟩
  · exact hv.elim
end
theorem allLt_mem {n : Nat} {l : List Nat} (h : allLt n l = true) : ∀ d ∈ l, d < n := by
  induction l with
  | nil => intro d hd; cases hd
  | cons a l ih =>
    simp only [allLt] at h
    obtain ⟨h1, h2⟩ := condT h
    intro d hd
    rcases List.mem_cons.1 hd with rfl | hd
    · have : d + 1 ≤ n := by simpa [Nat.blt] using h1
      exact this
    · exact ih h2 d hd
theorem fun_sound {C : Ctx} (ok : C.tb.Ok C.P) {g : FuncId} {f : Func} {c : Code} {A : Ann} {args : List Value} {K : (shRes C.tb f.resultTypes.toList).T → Hp → Prop} {h : Hp} (hf : C.P.funcs[g]? = some f) (hb : f.body = some c)
    (hv : funW C f A args K h) : CallT C.P g args (shRes C.tb f.resultTypes.toList) K h := by
  intro w hs
  unfold funW at hv
  obtain ⟨hc, hv⟩ := condP hv
  obtain ⟨h1, h2⟩ := condT hc
  have h1 : args.length ≤ f.ntmps := Nat.le_of_ble_eq_true h1
  have hbody : bodyOf f = c := by unfold bodyOf; rw [hb]
  rw [hbody] at hv h2
  refine calls_of_wp hf hb ?_
  have hget : ∀ (t : Nat) (v : Value), args[t]? = some v → (args.toArray ++ Array.replicate (f.ntmps - args.toArray.size) undef)[t]? = some v := by
    intro t v e
    have hlt : t < args.length := (List.getElem?_eq_some_iff.1 e).1
    rw [Array.getElem?_append_left (by simpa using hlt)]
    simpa using e
  have hargs : ∀ (t : Nat) (l : LV) (c : Chain), argsF args t = some (l, c) → ∃ v, args[t]? = some v ∧ l = .v v ∧ c = [] := by
    intro t l c e
    unfold argsF at e
    rw [nth_get] at e
    split at e
    · rename_i v hv
      cases e
      exact ⟨v, hv, rfl, rfl⟩
    · cases e
  have hrel : Rel f.ntmps (fun _ => 0) { f := argsF args, m := fun _ => none } { tmps := args.toArray ++ Array.replicate (f.ntmps - args.toArray.size) undef, defers := [] } h w := by
    refine ⟨by simp; omega, hs, fun t l c e => ?_, fun t l c e p hp => ?_, fun t l c e _ _ => ?_, fun t l c e _ hh => ?_, fun k cs e _ => (by cases e), fun k k' e => absurd rfl e, fun _ e => e.elim, fun _ e => e.elim⟩
    · obtain ⟨v, h3, _, _⟩ := hargs t l c e
      have := (List.getElem?_eq_some_iff.1 h3).1
      omega
    · obtain ⟨v, h3, _, rfl⟩ := hargs t l c e
      cases hp
    · obtain ⟨v, h3, rfl, rfl⟩ := hargs t l c e
      refine ⟨?_, fun _ _ _ => trivial⟩
      simp only [Act.eval, LVal, Array.getD_eq_getD_getElem?, hget t v h3, Option.getD_some]
    · obtain ⟨v, h3, rfl, rfl⟩ := hargs t l c e
      exact absurd (holds_nil _) hh
  refine lift_sound ok c A C.priv _ _ h (allLt_mem h2) hv _ _ w hrel _ fun e s' h' β' a' w' he hr' hs' => ?_
  have hst : Step h h' w w' := ⟨hr'.sub, hs'.size, fun b hb hn => ⟨hs'.keep b hb hn (fun k _ hl => absurd rfl hl.1), hs'.unk b hb hn (fun k _ hl => absurd rfl hl.1)⟩, hs'.os, hs'.tape, hs'.output⟩
  have done : retW C s' h' f.results.toList f.resultTypes.toList K → a'.defers = [] ∧ ∃ v, (results f a'.tmps).run C.P w' = .ok v w' ∧ ∃ u h2, Ending.returned v = .returned u ∧ (∃ x, u = (shRes C.tb f.resultTypes.toList).enc x ∧ K x h2) ∧ Step h h2 w w' := by
    intro hw
    obtain ⟨x, vs, hk, hrun, hval⟩ := retW_run ok hr' hw
    exact ⟨hs'.defers, _, results_run hrun, _, h', rfl, ⟨x, hval, hk⟩, hst⟩
  cases e with
  | nrm => exact done he
  | ret => exact done he
  | ext i => exact he.elim
  | gto i => exact he.elim
end Lf

set_option maxRecDepth 100000
namespace Lf
open Go Go.Proofs
theorem nth_none {α : Type _} {l : List α} {i : Nat} (h : l.length ≤ i) : nth l i = none := by rw [nth_get]; exact List.getElem?_eq_none h
theorem tyN {e : Ty} {q : Prop} (h : (none : Option Ty) = some e) : q := by cases h
theorem tyAll {p : Nat → Ty → Prop} (h0 : p 0 ty0) (h2 : p 2 ty2) (h3 : p 3 ty3) (h4 : p 4 ty4) (h5 : p 5 ty5) (h9 : p 9 ty9) (h22 : p 22 ty22) (h23 : p 23 ty23) (h24 : p 24 ty24) (h26 : p 26 ty26) (h27 : p 27 ty27) (h28 : p 28 ty28) (h30 : p 30 ty30) (h33 : p 33 ty33) (h34 : p 34 ty34) (h35 : p 35 ty35) (h37 : p 37 ty37) (h47 : p 47 ty47) (h49 : p 49 ty49) (h51 : p 51 ty51) (h54 : p 54 ty54) (h57 : p 57 ty57) (h58 : p 58 ty58) (h60 : p 60 ty60) (h61 : p 61 ty61) (h62 : p 62 ty62) (h64 : p 64 ty64) (h65 : p 65 ty65) (h66 : p 66 ty66) (h68 : p 68 ty68) (h70 : p 70 ty70) (h72 : p 72 ty72) (h74 : p 74 ty74) (h80 : p 80 ty80) (h83 : p 83 ty83) (h85 : p 85 ty85) (h87 : p 87 ty87) (h90 : p 90 ty90) (h92 : p 92 ty92) (h101 : p 101 ty101) (h103 : p 103 ty103) (h104 : p 104 ty104) (h107 : p 107 ty107) (h108 : p 108 ty108) (h109 : p 109 ty109) (h111 : p 111 ty111) (h112 : p 112 ty112) (h114 : p 114 ty114) (h115 : p 115 ty115) (h117 : p 117 ty117) (h119 : p 119 ty119) (h121 : p 121 ty121) (h127 : p 127 ty127) (h128 : p 128 ty128) (h138 : p 138 ty138) (h139 : p 139 ty139) (h144 : p 144 ty144) (h146 : p 146 ty146) (h153 : p 153 ty153) (h156 : p 156 ty156) (h159 : p 159 ty159) (h167 : p 167 ty167) (h170 : p 170 ty170) (h172 : p 172 ty172) (h174 : p 174 ty174) (h179 : p 179 ty179) (h182 : p 182 ty182) (h185 : p 185 ty185) (h193 : p 193 ty193) (h194 : p 194 ty194) (h195 : p 195 ty195) (h196 : p 196 ty196) (h200 : p 200 ty200) (h201 : p 201 ty201) : ∀ t e, tyAt t = some e → p t e := by
 intro t e h
 by_cases hlt : t < 208
 ·match t, hlt, h with
  | 0, _, h => exact Option.some.inj (show some ty0 = some e from h) ▸ h0
  | 1, _, h => exact tyN h
  | 2, _, h => exact Option.some.inj (show some ty2 = some e from h) ▸ h2
  | 3, _, h => exact Option.some.inj (show some ty3 = some e from h) ▸ h3
  | 4, _, h => exact Option.some.inj (show some ty4 = some e from h) ▸ h4
  | 5, _, h => exact Option.some.inj (show some ty5 = some e from h) ▸ h5
  | 6, _, h => exact tyN h
  | 7, _, h => exact tyN h
  | 8, _, h => exact tyN h
  | 9, _, h => exact Option.some.inj (show some ty9 = some e from h) ▸ h9
  | 10, _, h => exact tyN h
  | 11, _, h => exact tyN h
  | 12, _, h => exact tyN h
  | 13, _, h => exact tyN h
  | 14, _, h => exact tyN h
  | 15, _, h => exact tyN h
  | 16, _, h => exact tyN h
  | 17, _, h => exact tyN h
  | 18, _, h => exact tyN h
  | 19, _, h => exact tyN h
  | 20, _, h => exact tyN h
  | 21, _, h => exact tyN h
  | 22, _, h => exact Option.some.inj (show some ty22 = some e from h) ▸ h22
  | 23, _, h => exact Option.some.inj (show some ty23 = some e from h) ▸ h23
  | 24, _, h => exact Option.some.inj (show some ty24 = some e from h) ▸ h24
  | 25, _, h => exact tyN h
  | 26, _, h => exact Option.some.inj (show some ty26 = some e from h) ▸ h26
  | 27, _, h => exact Option.some.inj (show some ty27 = some e from h) ▸ h27
  | 28, _, h => exact Option.some.inj (show some ty28 = some e from h) ▸ h28
  | 29, _, h => exact tyN h
  | 30, _, h => exact Option.some.inj (show some ty30 = some e from h) ▸ h30
  | 31, _, h => exact tyN h
  | 32, _, h => exact tyN h
  | 33, _, h => exact Option.some.inj (show some ty33 = some e from h) ▸ h33
  | 34, _, h => exact Option.some.inj (show some ty34 = some e from h) ▸ h34
  | 35, _, h => exact Option.some.inj (show some ty35 = some e from h) ▸ h35
  | 36, _, h => exact tyN h
  | 37, _, h => exact Option.some.inj (show some ty37 = some e from h) ▸ h37
  | 38, _, h => exact tyN h
  | 39, _, h => exact tyN h
  | 40, _, h => exact tyN h
  | 41, _, h => exact tyN h
  | 42, _, h => exact tyN h
  | 43, _, h => exact tyN h
  | 44, _, h => exact tyN h
  | 45, _, h => exact tyN h
  | 46, _, h => exact tyN h
  | 47, _, h => exact Option.some.inj (show some ty47 = some e from h) ▸ h47
  | 48, _, h => exact tyN h
  | 49, _, h => exact Option.some.inj (show some ty49 = some e from h) ▸ h49
  | 50, _, h => exact tyN h
  | 51, _, h => exact Option.some.inj (show some ty51 = some e from h) ▸ h51
  | 52, _, h => exact tyN h
  | 53, _, h => exact tyN h
  | 54, _, h => exact Option.some.inj (show some ty54 = some e from h) ▸ h54
  | 55, _, h => exact tyN h
  | 56, _, h => exact tyN h
  | 57, _, h => exact Option.some.inj (show some ty57 = some e from h) ▸ h57
  | 58, _, h => exact Option.some.inj (show some ty58 = some e from h) ▸ h58
  | 59, _, h => exact tyN h
  | 60, _, h => exact Option.some.inj (show some ty60 = some e from h) ▸ h60
  | 61, _, h => exact Option.some.inj (show some ty61 = some e from h) ▸ h61
  | 62, _, h => exact Option.some.inj (show some ty62 = some e from h) ▸ h62
  | 63, _, h => exact tyN h
  | 64, _, h => exact Option.some.inj (show some ty64 = some e from h) ▸ h64
  | 65, _, h => exact Option.some.inj (show some ty65 = some e from h) ▸ h65
  | 66, _, h => exact Option.some.inj (show some ty66 = some e from h) ▸ h66
  | 67, _, h => exact tyN h
  | 68, _, h => exact Option.some.inj (show some ty68 = some e from h) ▸ h68
  | 69, _, h => exact tyN h
  | 70, _, h => exact Option.some.inj (show some ty70 = some e from h) ▸ h70
  | 71, _, h => exact tyN h
  | 72, _, h => exact Option.some.inj (show some ty72 = some e from h) ▸ h72
  | 73, _, h => exact tyN h
  | 74, _, h => exact Option.some.inj (show some ty74 = some e from h) ▸ h74
  | 75, _, h => exact tyN h
  | 76, _, h => exact tyN h
  | 77, _, h => exact tyN h
  | 78, _, h => exact tyN h
  | 79, _, h => exact tyN h
  | 80, _, h => exact Option.some.inj (show some ty80 = some e from h) ▸ h80
  | 81, _, h => exact tyN h
  | 82, _, h => exact tyN h
  | 83, _, h => exact Option.some.inj (show some ty83 = some e from h) ▸ h83
  | 84, _, h => exact tyN h
  | 85, _, h => exact Option.some.inj (show some ty85 = some e from h) ▸ h85
  | 86, _, h => exact tyN h
  | 87, _, h => exact Option.some.inj (show some ty87 = some e from h) ▸ h87
  | 88, _, h => exact tyN h
  | 89, _, h => exact tyN h
  | 90, _, h => exact Option.some.inj (show some ty90 = some e from h) ▸ h90
  | 91, _, h => exact tyN h
  | 92, _, h => exact Option.some.inj (show some ty92 = some e from h) ▸ h92
  | 93, _, h => exact tyN h
  | 94, _, h => exact tyN h
  | 95, _, h => exact tyN h
  | 96, _, h => exact tyN h
  | 97, _, h => exact tyN h
  | 98, _, h => exact tyN h
  | 99, _, h => exact tyN h
  | 100, _, h => exact tyN h
  | 101, _, h => exact Option.some.inj (show some ty101 = some e from h) ▸ h101
  | 102, _, h => exact tyN h
  | 103, _, h => exact Option.some.inj (show some ty103 = some e from h) ▸ h103
  | 104, _, h => exact Option.some.inj (show some ty104 = some e from h) ▸ h104
  | 105, _, h => exact tyN h
  | 106, _, h => exact tyN h
  | 107, _, h => exact Option.some.inj (show some ty107 = some e from h) ▸ h107
  | 108, _, h => exact Option.some.inj (show some ty108 = some e from h) ▸ h108
  | 109, _, h => exact Option.some.inj (show some ty109 = some e from h) ▸ h109
  | 110, _, h => exact tyN h
  | 111, _, h => exact Option.some.inj (show some ty111 = some e from h) ▸ h111
  | 112, _, h => exact Option.some.inj (show some ty112 = some e from h) ▸ h112
  | 113, _, h => exact tyN h
  | 114, _, h => exact Option.some.inj (show some ty114 = some e from h) ▸ h114
  | 115, _, h => exact Option.some.inj (show some ty115 = some e from h) ▸ h115
  | 116, _, h => exact tyN h
  | 117, _, h => exact Option.some.inj (show some ty117 = some e from h) ▸ h117
  | 118, _, h => exact tyN h
  | 119, _, h => exact Option.some.inj (show some ty119 = some e from h) ▸ h119
  | 120, _, h => exact tyN h
  | 121, _, h => exact Option.some.inj (show some ty121 = some e from h) ▸ h121
  | 122, _, h => exact tyN h
  | 123, _, h => exact tyN h
  | 124, _, h => exact tyN h
  | 125, _, h => exact tyN h
  | 126, _, h => exact tyN h
  | 127, _, h => exact Option.some.inj (show some ty127 = some e from h) ▸ h127
  | 128, _, h => exact Option.some.inj (show some ty128 = some e from h) ▸ h128
  | 129, _, h => exact tyN h
  | 130, _, h => exact tyN h
  | 131, _, h => exact tyN h
  | 132, _, h => exact tyN h
  | 133, _, h => exact tyN h
  | 134, _, h => exact tyN h
  | 135, _, h => exact tyN h
  | 136, _, h => exact tyN h
  | 137, _, h => exact tyN h
  | 138, _, h => exact Option.some.inj (show some ty138 = some e from h) ▸ h138
  | 139, _, h => exact Option.some.inj (show some ty139 = some e from h) ▸ h139
  | 140, _, h => exact tyN h
  | 141, _, h => exact tyN h
  | 142, _, h => exact tyN h
  | 143, _, h => exact tyN h
  | 144, _, h => exact Option.some.inj (show some ty144 = some e from h) ▸ h144
  | 145, _, h => exact tyN h
  | 146, _, h => exact Option.some.inj (show some ty146 = some e from h) ▸ h146
  | 147, _, h => exact tyN h
  | 148, _, h => exact tyN h
  | 149, _, h => exact tyN h
  | 150, _, h => exact tyN h
  | 151, _, h => exact tyN h
  | 152, _, h => exact tyN h
  | 153, _, h => exact Option.some.inj (show some ty153 = some e from h) ▸ h153
  | 154, _, h => exact tyN h
  | 155, _, h => exact tyN h
  | 156, _, h => exact Option.some.inj (show some ty156 = some e from h) ▸ h156
  | 157, _, h => exact tyN h
  | 158, _, h => exact tyN h
  | 159, _, h => exact Option.some.inj (show some ty159 = some e from h) ▸ h159
  | 160, _, h => exact tyN h
  | 161, _, h => exact tyN h
  | 162, _, h => exact tyN h
  | 163, _, h => exact tyN h
  | 164, _, h => exact tyN h
  | 165, _, h => exact tyN h
  | 166, _, h => exact tyN h
  | 167, _, h => exact Option.some.inj (show some ty167 = some e from h) ▸ h167
  | 168, _, h => exact tyN h
  | 169, _, h => exact tyN h
  | 170, _, h => exact Option.some.inj (show some ty170 = some e from h) ▸ h170
  | 171, _, h => exact tyN h
  | 172, _, h => exact Option.some.inj (show some ty172 = some e from h) ▸ h172
  | 173, _, h => exact tyN h
  | 174, _, h => exact Option.some.inj (show some ty174 = some e from h) ▸ h174
  | 175, _, h => exact tyN h
  | 176, _, h => exact tyN h
  | 177, _, h => exact tyN h
  | 178, _, h => exact tyN h
  | 179, _, h => exact Option.some.inj (show some ty179 = some e from h) ▸ h179
  | 180, _, h => exact tyN h
  | 181, _, h => exact tyN h
  | 182, _, h => exact Option.some.inj (show some ty182 = some e from h) ▸ h182
  | 183, _, h => exact tyN h
  | 184, _, h => exact tyN h
  | 185, _, h => exact Option.some.inj (show some ty185 = some e from h) ▸ h185
  | 186, _, h => exact tyN h
  | 187, _, h => exact tyN h
  | 188, _, h => exact tyN h
  | 189, _, h => exact tyN h
  | 190, _, h => exact tyN h
  | 191, _, h => exact tyN h
  | 192, _, h => exact tyN h
  | 193, _, h => exact Option.some.inj (show some ty193 = some e from h) ▸ h193
  | 194, _, h => exact Option.some.inj (show some ty194 = some e from h) ▸ h194
  | 195, _, h => exact Option.some.inj (show some ty195 = some e from h) ▸ h195
  | 196, _, h => exact Option.some.inj (show some ty196 = some e from h) ▸ h196
  | 197, _, h => exact tyN h
  | 198, _, h => exact tyN h
  | 199, _, h => exact tyN h
  | 200, _, h => exact Option.some.inj (show some ty200 = some e from h) ▸ h200
  | 201, _, h => exact Option.some.inj (show some ty201 = some e from h) ▸ h201
  | 202, _, h => exact tyN h
  | 203, _, h => exact tyN h
  | 204, _, h => exact tyN h
  | 205, _, h => exact tyN h
  | 206, _, h => exact tyN h
  | 207, _, h => exact tyN h
  | n + 208, hlt, _ => omega
 ·have hl : tyRows.length = 13 := rfl
  have : nth tyRows (t / 16) = none := nth_none (l := tyRows) (i := t / 16) (by rw [hl]; omega)
  unfold tyAt at h
  rw [this] at h
  cases h
theorem tb_ok : tb.Ok Tryz.prog where
 und := tyAll (p := fun t e => Tryz.prog.underlying t = some e.und) Tryz.underlying0 Tryz.underlying2 Tryz.underlying3 Tryz.underlying4 Tryz.underlying5 Tryz.underlying9 Tryz.underlying22 Tryz.underlying23 Tryz.underlying24 Tryz.underlying26 Tryz.underlying27 Tryz.underlying28 Tryz.underlying30 Tryz.underlying33 Tryz.underlying34 Tryz.underlying35 Tryz.underlying37 Tryz.underlying47 Tryz.underlying49 Tryz.underlying51 Tryz.underlying54 Tryz.underlying57 Tryz.underlying58 Tryz.underlying60 Tryz.underlying61 Tryz.underlying62 Tryz.underlying64 Tryz.underlying65 Tryz.underlying66 Tryz.underlying68 Tryz.underlying70 Tryz.underlying72 Tryz.underlying74 Tryz.underlying80 Tryz.underlying83 Tryz.underlying85 Tryz.underlying87 Tryz.underlying90 Tryz.underlying92 Tryz.underlying101 Tryz.underlying103 Tryz.underlying104 Tryz.underlying107 Tryz.underlying108 Tryz.underlying109 Tryz.underlying111 Tryz.underlying112 Tryz.underlying114 Tryz.underlying115 Tryz.underlying117 Tryz.underlying119 Tryz.underlying121 Tryz.underlying127 Tryz.underlying128 Tryz.underlying138 Tryz.underlying139 Tryz.underlying144 Tryz.underlying146 Tryz.underlying153 Tryz.underlying156 Tryz.underlying159 Tryz.underlying167 Tryz.underlying170 Tryz.underlying172 Tryz.underlying174 Tryz.underlying179 Tryz.underlying182 Tryz.underlying185 Tryz.underlying193 Tryz.underlying194 Tryz.underlying195 Tryz.underlying196 Tryz.underlying200 Tryz.underlying201
 info := tyAll (p := fun t e => ∃ i, Tryz.prog.info? t = some i ∧ i.size = e.size ∧ i.bytes = e.bytes ∧ i.zero = some e.zero) ⟨Tryz.t0, Tryz.type0, rfl, rfl, rfl⟩ ⟨Tryz.t2, Tryz.type2, rfl, rfl, rfl⟩ ⟨Tryz.t3, Tryz.type3, rfl, rfl, rfl⟩ ⟨Tryz.t4, Tryz.type4, rfl, rfl, rfl⟩ ⟨Tryz.t5, Tryz.type5, rfl, rfl, rfl⟩ ⟨Tryz.t9, Tryz.type9, rfl, rfl, rfl⟩ ⟨Tryz.t22, Tryz.type22, rfl, rfl, rfl⟩ ⟨Tryz.t23, Tryz.type23, rfl, rfl, rfl⟩ ⟨Tryz.t24, Tryz.type24, rfl, rfl, rfl⟩ ⟨Tryz.t26, Tryz.type26, rfl, rfl, rfl⟩ ⟨Tryz.t27, Tryz.type27, rfl, rfl, rfl⟩ ⟨Tryz.t28, Tryz.type28, rfl, rfl, rfl⟩ ⟨Tryz.t30, Tryz.type30, rfl, rfl, rfl⟩ ⟨Tryz.t33, Tryz.type33, rfl, rfl, rfl⟩ ⟨Tryz.t34, Tryz.type34, rfl, rfl, rfl⟩ ⟨Tryz.t35, Tryz.type35, rfl, rfl, rfl⟩ ⟨Tryz.t37, Tryz.type37, rfl, rfl, rfl⟩ ⟨Tryz.t47, Tryz.type47, rfl, rfl, rfl⟩ ⟨Tryz.t49, Tryz.type49, rfl, rfl, rfl⟩ ⟨Tryz.t51, Tryz.type51, rfl, rfl, rfl⟩ ⟨Tryz.t54, Tryz.type54, rfl, rfl, rfl⟩ ⟨Tryz.t57, Tryz.type57, rfl, rfl, rfl⟩ ⟨Tryz.t58, Tryz.type58, rfl, rfl, rfl⟩ ⟨Tryz.t60, Tryz.type60, rfl, rfl, rfl⟩ ⟨Tryz.t61, Tryz.type61, rfl, rfl, rfl⟩ ⟨Tryz.t62, Tryz.type62, rfl, rfl, rfl⟩ ⟨Tryz.t64, Tryz.type64, rfl, rfl, rfl⟩ ⟨Tryz.t65, Tryz.type65, rfl, rfl, rfl⟩ ⟨Tryz.t66, Tryz.type66, rfl, rfl, rfl⟩ ⟨Tryz.t68, Tryz.type68, rfl, rfl, rfl⟩ ⟨Tryz.t70, Tryz.type70, rfl, rfl, rfl⟩ ⟨Tryz.t72, Tryz.type72, rfl, rfl, rfl⟩ ⟨Tryz.t74, Tryz.type74, rfl, rfl, rfl⟩ ⟨Tryz.t80, Tryz.type80, rfl, rfl, rfl⟩ ⟨Tryz.t83, Tryz.type83, rfl, rfl, rfl⟩ ⟨Tryz.t85, Tryz.type85, rfl, rfl, rfl⟩ ⟨Tryz.t87, Tryz.type87, rfl, rfl, rfl⟩ ⟨Tryz.t90, Tryz.type90, rfl, rfl, rfl⟩ ⟨Tryz.t92, Tryz.type92, rfl, rfl, rfl⟩ ⟨Tryz.t101, Tryz.type101, rfl, rfl, rfl⟩ ⟨Tryz.t103, Tryz.type103, rfl, rfl, rfl⟩ ⟨Tryz.t104, Tryz.type104, rfl, rfl, rfl⟩ ⟨Tryz.t107, Tryz.type107, rfl, rfl, rfl⟩ ⟨Tryz.t108, Tryz.type108, rfl, rfl, rfl⟩ ⟨Tryz.t109, Tryz.type109, rfl, rfl, rfl⟩ ⟨Tryz.t111, Tryz.type111, rfl, rfl, rfl⟩ ⟨Tryz.t112, Tryz.type112, rfl, rfl, rfl⟩ ⟨Tryz.t114, Tryz.type114, rfl, rfl, rfl⟩ ⟨Tryz.t115, Tryz.type115, rfl, rfl, rfl⟩ ⟨Tryz.t117, Tryz.type117, rfl, rfl, rfl⟩ ⟨Tryz.t119, Tryz.type119, rfl, rfl, rfl⟩ ⟨Tryz.t121, Tryz.type121, rfl, rfl, rfl⟩ ⟨Tryz.t127, Tryz.type127, rfl, rfl, rfl⟩ ⟨Tryz.t128, Tryz.type128, rfl, rfl, rfl⟩ ⟨Tryz.t138, Tryz.type138, rfl, rfl, rfl⟩ ⟨Tryz.t139, Tryz.type139, rfl, rfl, rfl⟩ ⟨Tryz.t144, Tryz.type144, rfl, rfl, rfl⟩ ⟨Tryz.t146, Tryz.type146, rfl, rfl, rfl⟩ ⟨Tryz.t153, Tryz.type153, rfl, rfl, rfl⟩ ⟨Tryz.t156, Tryz.type156, rfl, rfl, rfl⟩ ⟨Tryz.t159, Tryz.type159, rfl, rfl, rfl⟩ ⟨Tryz.t167, Tryz.type167, rfl, rfl, rfl⟩ ⟨Tryz.t170, Tryz.type170, rfl, rfl, rfl⟩ ⟨Tryz.t172, Tryz.type172, rfl, rfl, rfl⟩ ⟨Tryz.t174, Tryz.type174, rfl, rfl, rfl⟩ ⟨Tryz.t179, Tryz.type179, rfl, rfl, rfl⟩ ⟨Tryz.t182, Tryz.type182, rfl, rfl, rfl⟩ ⟨Tryz.t185, Tryz.type185, rfl, rfl, rfl⟩ ⟨Tryz.t193, Tryz.type193, rfl, rfl, rfl⟩ ⟨Tryz.t194, Tryz.type194, rfl, rfl, rfl⟩ ⟨Tryz.t195, Tryz.type195, rfl, rfl, rfl⟩ ⟨Tryz.t196, Tryz.type196, rfl, rfl, rfl⟩ ⟨Tryz.t200, Tryz.type200, rfl, rfl, rfl⟩ ⟨Tryz.t201, Tryz.type201, rfl, rfl, rfl⟩
 agg := tyAll (p := fun t e => isAggD e.und = true → ∀ x, ∃ cs, e.sh.enc x = .agg cs ∧ cs.size = e.size) (fun h => by cases h) (fun h => by cases h) (fun h => by cases h) (fun h => by cases h) (fun h => by cases h) (fun h => by cases h) (fun h => by cases h) (fun h => by cases h) (fun h => by cases h) (fun _ x => ⟨_, rfl, rfl⟩) (fun h => by cases h) (fun h => by cases h) (fun _ x => ⟨_, rfl, rfl⟩) (fun h => by cases h) (fun h => by cases h) (fun h => by cases h) (fun h => by cases h) (fun h => by cases h) (fun _ x => ⟨_, rfl, rfl⟩) (fun _ x => ⟨_, rfl, rfl⟩) (fun h => by cases h) (fun h => by cases h) (fun h => by cases h) (fun _ x => ⟨_, rfl, rfl⟩) (fun _ x => ⟨_, rfl, rfl⟩) (fun h => by cases h) (fun _ x => ⟨_, rfl, rfl⟩) (fun h => by cases h) (fun h => by cases h) (fun _ x => ⟨_, rfl, rfl⟩) (fun h => by cases h) (fun _ x => ⟨_, rfl, rfl⟩) (fun _ x => ⟨_, rfl, rfl⟩) (fun h => by cases h) (fun h => by cases h) (fun _ x => ⟨_, rfl, rfl⟩) (fun _ x => ⟨_, rfl, rfl⟩) (fun h => by cases h) (fun _ x => ⟨_, rfl, rfl⟩) (fun h => by cases h) (fun h => by cases h) (fun h => by cases h) (fun _ x => ⟨_, rfl, rfl⟩) (fun h => by cases h) (fun h => by cases h) (fun _ x => ⟨_, rfl, rfl⟩) (fun h => by cases h) (fun _ x => ⟨_, rfl, rfl⟩) (fun h => by cases h) (fun h => by cases h) (fun h => by cases h) (fun _ x => ⟨_, rfl, rfl⟩) (fun h => by cases h) (fun h => by cases h) (fun h => by cases h) (fun h => by cases h) (fun h => by cases h) (fun _ x => ⟨_, rfl, rfl⟩) (fun _ x => ⟨_, rfl, rfl⟩) (fun h => by cases h) (fun _ x => ⟨_, rfl, rfl⟩) (fun _ x => ⟨_, rfl, rfl⟩) (fun h => by cases h) (fun _ x => ⟨_, rfl, rfl⟩) (fun h => by cases h) (fun h => by cases h) (fun h => by cases h) (fun h => by cases h) (fun h => by cases h) (fun _ x => ⟨_, rfl, rfl⟩) (fun h => by cases h) (fun _ x => ⟨_, rfl, x.size⟩) (fun h => by cases h) (fun h => by cases h)
 leaf := tyAll (p := fun t e => isAggD e.und = false → e.size = 1 ∧ ∀ x, (cellsL (e.sh.enc x)).length = 1 ∧ ∀ cs, e.sh.enc x ≠ .agg cs) (fun _ => ⟨rfl, fun x => ⟨rfl, fun cs h => by cases h⟩⟩) (fun _ => ⟨rfl, fun x => ⟨rfl, fun cs h => by cases h⟩⟩) (fun _ => ⟨rfl, fun x => ⟨rfl, fun cs h => by cases h⟩⟩) (fun _ => ⟨rfl, fun x => ⟨rfl, fun cs h => by cases h⟩⟩) (fun _ => ⟨rfl, fun x => ⟨rfl, fun cs h => by cases h⟩⟩) (fun _ => ⟨rfl, fun x => ⟨rfl, fun cs h => by cases h⟩⟩) (fun _ => ⟨rfl, fun x => ⟨rfl, fun cs h => by cases h⟩⟩) (fun _ => ⟨rfl, fun x => ⟨rfl, fun cs h => by cases h⟩⟩) (fun _ => ⟨rfl, fun x => ⟨rfl, fun cs h => by cases h⟩⟩) (fun h => by cases h) (fun _ => ⟨rfl, fun x => ⟨rfl, fun cs h => by cases h⟩⟩) (fun _ => ⟨rfl, fun x => ⟨rfl, fun cs h => by cases h⟩⟩) (fun h => by cases h) (fun _ => ⟨rfl, fun x => ⟨rfl, fun cs h => by cases h⟩⟩) (fun _ => ⟨rfl, fun x => ⟨rfl, fun cs h => by cases h⟩⟩) (fun _ => ⟨rfl, fun x => ⟨rfl, fun cs h => by cases h⟩⟩) (fun _ => ⟨rfl, fun x => ⟨rfl, fun cs h => by cases h⟩⟩) (fun _ => ⟨rfl, fun x => ⟨rfl, fun cs h => by cases h⟩⟩) (fun h => by cases h) (fun h => by cases h) (fun _ => ⟨rfl, fun x => ⟨rfl, fun cs h => by cases h⟩⟩) (fun _ => ⟨rfl, fun x => ⟨rfl, fun cs h => by cases h⟩⟩) (fun _ => ⟨rfl, fun x => ⟨rfl, fun cs h => by cases h⟩⟩) (fun h => by cases h) (fun h => by cases h) (fun _ => ⟨rfl, fun x => ⟨rfl, fun cs h => by cases h⟩⟩) (fun h => by cases h) (fun _ => ⟨rfl, fun x => ⟨rfl, fun cs h => by cases h⟩⟩) (fun _ => ⟨rfl, fun x => ⟨rfl, fun cs h => by cases h⟩⟩) (fun h => by cases h) (fun _ => ⟨rfl, fun x => ⟨rfl, fun cs h => by cases h⟩⟩) (fun h => by cases h) (fun h => by cases h) (fun _ => ⟨rfl, fun x => ⟨rfl, fun cs h => by cases h⟩⟩) (fun _ => ⟨rfl, fun x => ⟨rfl, fun cs h => by cases h⟩⟩) (fun h => by cases h) (fun h => by cases h) (fun _ => ⟨rfl, fun x => ⟨rfl, fun cs h => by cases h⟩⟩) (fun h => by cases h) (fun _ => ⟨rfl, fun x => ⟨rfl, fun cs h => by cases h⟩⟩) (fun _ => ⟨rfl, fun x => ⟨rfl, fun cs h => by cases h⟩⟩) (fun _ => ⟨rfl, fun x => ⟨rfl, fun cs h => by cases h⟩⟩) (fun h => by cases h) (fun _ => ⟨rfl, fun x => ⟨rfl, fun cs h => by cases h⟩⟩) (fun _ => ⟨rfl, fun x => ⟨rfl, fun cs h => by cases h⟩⟩) (fun h => by cases h) (fun _ => ⟨rfl, fun x => ⟨rfl, fun cs h => by cases h⟩⟩) (fun h => by cases h) (fun _ => ⟨rfl, fun x => ⟨rfl, fun cs h => by cases h⟩⟩) (fun _ => ⟨rfl, fun x => ⟨rfl, fun cs h => by cases h⟩⟩) (fun _ => ⟨rfl, fun x => ⟨rfl, fun cs h => by cases h⟩⟩) (fun h => by cases h) (fun _ => ⟨rfl, fun x => ⟨rfl, fun cs h => by cases h⟩⟩) (fun _ => ⟨rfl, fun x => ⟨rfl, fun cs h => by cases h⟩⟩) (fun _ => ⟨rfl, fun x => ⟨rfl, fun cs h => by cases h⟩⟩) (fun _ => ⟨rfl, fun x => ⟨rfl, fun cs h => by cases h⟩⟩) (fun _ => ⟨rfl, fun x => ⟨rfl, fun cs h => by cases h⟩⟩) (fun h => by cases h) (fun h => by cases h) (fun _ => ⟨rfl, fun x => ⟨rfl, fun cs h => by cases h⟩⟩) (fun h => by cases h) (fun h => by cases h) (fun _ => ⟨rfl, fun x => ⟨rfl, fun cs h => by cases h⟩⟩) (fun h => by cases h) (fun _ => ⟨rfl, fun x => ⟨rfl, fun cs h => by cases h⟩⟩) (fun _ => ⟨rfl, fun x => ⟨rfl, fun cs h => by cases h⟩⟩) (fun _ => ⟨rfl, fun x => ⟨rfl, fun cs h => by cases h⟩⟩) (fun _ => ⟨rfl, fun x => ⟨rfl, fun cs h => by cases h⟩⟩) (fun _ => ⟨rfl, fun x => ⟨rfl, fun cs h => by cases h⟩⟩) (fun h => by cases h) (fun _ => ⟨rfl, fun x => ⟨rfl, fun cs h => by cases h⟩⟩) (fun h => by cases h) (fun _ => ⟨rfl, fun x => ⟨rfl, fun cs h => by cases h⟩⟩) (fun _ => ⟨rfl, fun x => ⟨rfl, fun cs h => by cases h⟩⟩)
 zlen := tyAll (p := fun t e => (cellsL e.zero).length = e.size) rfl rfl rfl rfl rfl rfl rfl rfl rfl rfl rfl rfl rfl rfl rfl rfl rfl rfl rfl rfl rfl rfl rfl rfl rfl rfl rfl rfl rfl rfl rfl rfl rfl rfl rfl rfl rfl rfl rfl rfl rfl rfl rfl rfl rfl rfl rfl rfl rfl rfl rfl rfl rfl rfl rfl rfl rfl rfl rfl rfl rfl rfl rfl rfl rfl rfl rfl rfl rfl rfl rfl rfl rfl rfl
 zero8 := tyAll (p := fun t e => e.und = .int .u8 → cellsL e.zero = [.int .u8 0]) (fun h => by cases h) (fun h => by cases h) (fun h => by cases h) (fun h => by cases h) (fun _ => rfl) (fun h => by cases h) (fun h => by cases h) (fun h => by cases h) (fun h => by cases h) (fun h => by cases h) (fun h => by cases h) (fun h => by cases h) (fun h => by cases h) (fun h => by cases h) (fun h => by cases h) (fun h => by cases h) (fun h => by cases h) (fun h => by cases h) (fun h => by cases h) (fun h => by cases h) (fun h => by cases h) (fun h => by cases h) (fun h => by cases h) (fun h => by cases h) (fun h => by cases h) (fun h => by cases h) (fun h => by cases h) (fun h => by cases h) (fun h => by cases h) (fun h => by cases h) (fun h => by cases h) (fun h => by cases h) (fun h => by cases h) (fun h => by cases h) (fun h => by cases h) (fun h => by cases h) (fun h => by cases h) (fun h => by cases h) (fun h => by cases h) (fun h => by cases h) (fun h => by cases h) (fun h => by cases h) (fun h => by cases h) (fun h => by cases h) (fun h => by cases h) (fun h => by cases h) (fun h => by cases h) (fun h => by cases h) (fun h => by cases h) (fun h => by cases h) (fun h => by cases h) (fun h => by cases h) (fun h => by cases h) (fun h => by cases h) (fun h => by cases h) (fun h => by cases h) (fun h => by cases h) (fun h => by cases h) (fun h => by cases h) (fun h => by cases h) (fun h => by cases h) (fun h => by cases h) (fun h => by cases h) (fun h => by cases h) (fun h => by cases h) (fun h => by cases h) (fun h => by cases h) (fun h => by cases h) (fun h => by cases h) (fun h => by cases h) (fun h => by cases h) (fun h => by cases h) (fun h => by cases h) (fun h => by cases h)
 zagg := tyAll (p := fun t e => isAggD e.und = true → ∃ cs, e.zero = .agg cs) (fun h => by cases h) (fun h => by cases h) (fun h => by cases h) (fun h => by cases h) (fun h => by cases h) (fun h => by cases h) (fun h => by cases h) (fun h => by cases h) (fun h => by cases h) (fun _ => ⟨_, rfl⟩) (fun h => by cases h) (fun h => by cases h) (fun _ => ⟨_, rfl⟩) (fun h => by cases h) (fun h => by cases h) (fun h => by cases h) (fun h => by cases h) (fun h => by cases h) (fun _ => ⟨_, rfl⟩) (fun _ => ⟨_, rfl⟩) (fun h => by cases h) (fun h => by cases h) (fun h => by cases h) (fun _ => ⟨_, rfl⟩) (fun _ => ⟨_, rfl⟩) (fun h => by cases h) (fun _ => ⟨_, rfl⟩) (fun h => by cases h) (fun h => by cases h) (fun _ => ⟨_, rfl⟩) (fun h => by cases h) (fun _ => ⟨_, rfl⟩) (fun _ => ⟨_, rfl⟩) (fun h => by cases h) (fun h => by cases h) (fun _ => ⟨_, rfl⟩) (fun _ => ⟨_, rfl⟩) (fun h => by cases h) (fun _ => ⟨_, rfl⟩) (fun h => by cases h) (fun h => by cases h) (fun h => by cases h) (fun _ => ⟨_, rfl⟩) (fun h => by cases h) (fun h => by cases h) (fun _ => ⟨_, rfl⟩) (fun h => by cases h) (fun _ => ⟨_, rfl⟩) (fun h => by cases h) (fun h => by cases h) (fun h => by cases h) (fun _ => ⟨_, rfl⟩) (fun h => by cases h) (fun h => by cases h) (fun h => by cases h) (fun h => by cases h) (fun h => by cases h) (fun _ => ⟨_, rfl⟩) (fun _ => ⟨_, rfl⟩) (fun h => by cases h) (fun _ => ⟨_, rfl⟩) (fun _ => ⟨_, rfl⟩) (fun h => by cases h) (fun _ => ⟨_, rfl⟩) (fun h => by cases h) (fun h => by cases h) (fun h => by cases h) (fun h => by cases h) (fun h => by cases h) (fun _ => ⟨_, rfl⟩) (fun h => by cases h) (fun _ => ⟨_, rfl⟩) (fun h => by cases h) (fun h => by cases h)
 call := by
  intro g h
  by_cases hlt : g < 160
  ·match g, hlt, h with
   | 0, _, h => exact absurd (show false = true from h) (by simp)
   | 1, _, h => exact absurd (show false = true from h) (by simp)
   | 2, _, _ => exact Tryz.call2
   | 3, _, _ => exact Tryz.call3
   | 4, _, _ => exact Tryz.call4
   | 5, _, _ => exact Tryz.call5
   | 6, _, _ => exact Tryz.call6
   | 7, _, _ => exact Tryz.call7
   | 8, _, _ => exact Tryz.call8
   | 9, _, _ => exact Tryz.call9
   | 10, _, _ => exact Tryz.call10
   | 11, _, _ => exact Tryz.call11
   | 12, _, _ => exact Tryz.call12
   | 13, _, _ => exact Tryz.call13
   | 14, _, _ => exact Tryz.call14
   | 15, _, _ => exact Tryz.call15
   | 16, _, _ => exact Tryz.call16
   | 17, _, _ => exact Tryz.call17
   | 18, _, _ => exact Tryz.call18
   | 19, _, _ => exact Tryz.call19
   | 20, _, _ => exact Tryz.call20
   | 21, _, _ => exact Tryz.call21
   | 22, _, _ => exact Tryz.call22
   | 23, _, _ => exact Tryz.call23
   | 24, _, _ => exact Tryz.call24
   | 25, _, _ => exact Tryz.call25
   | 26, _, _ => exact Tryz.call26
   | 27, _, _ => exact Tryz.call27
   | 28, _, _ => exact Tryz.call28
   | 29, _, _ => exact Tryz.call29
   | 30, _, _ => exact Tryz.call30
   | 31, _, _ => exact Tryz.call31
   | 32, _, _ => exact Tryz.call32
   | 33, _, _ => exact Tryz.call33
   | 34, _, _ => exact Tryz.call34
   | 35, _, _ => exact Tryz.call35
   | 36, _, _ => exact Tryz.call36
   | 37, _, _ => exact Tryz.call37
   | 38, _, _ => exact Tryz.call38
   | 39, _, _ => exact Tryz.call39
   | 40, _, _ => exact Tryz.call40
   | 41, _, _ => exact Tryz.call41
   | 42, _, _ => exact Tryz.call42
   | 43, _, _ => exact Tryz.call43
   | 44, _, _ => exact Tryz.call44
   | 45, _, _ => exact Tryz.call45
   | 46, _, _ => exact Tryz.call46
   | 47, _, _ => exact Tryz.call47
   | 48, _, _ => exact Tryz.call48
   | 49, _, _ => exact Tryz.call49
   | 50, _, _ => exact Tryz.call50
   | 51, _, _ => exact Tryz.call51
   | 52, _, _ => exact Tryz.call52
   | 53, _, _ => exact Tryz.call53
   | 54, _, _ => exact Tryz.call54
   | 55, _, _ => exact Tryz.call55
   | 56, _, _ => exact Tryz.call56
   | 57, _, _ => exact Tryz.call57
   | 58, _, _ => exact Tryz.call58
   | 59, _, _ => exact Tryz.call59
   | 60, _, _ => exact Tryz.call60
   | 61, _, _ => exact Tryz.call61
   | 62, _, _ => exact Tryz.call62
   | 63, _, _ => exact Tryz.call63
   | 64, _, _ => exact Tryz.call64
   | 65, _, _ => exact Tryz.call65
   | 66, _, _ => exact Tryz.call66
   | 67, _, _ => exact Tryz.call67
   | 68, _, _ => exact Tryz.call68
   | 69, _, _ => exact Tryz.call69
   | 70, _, _ => exact Tryz.call70
   | 71, _, _ => exact Tryz.call71
   | 72, _, _ => exact Tryz.call72
   | 73, _, _ => exact Tryz.call73
   | 74, _, _ => exact Tryz.call74
   | 75, _, _ => exact Tryz.call75
   | 76, _, _ => exact Tryz.call76
   | 77, _, _ => exact Tryz.call77
   | 78, _, _ => exact Tryz.call78
   | 79, _, _ => exact Tryz.call79
   | 80, _, _ => exact Tryz.call80
   | 81, _, _ => exact Tryz.call81
   | 82, _, _ => exact Tryz.call82
   | 83, _, _ => exact Tryz.call83
   | 84, _, _ => exact Tryz.call84
   | 85, _, _ => exact Tryz.call85
   | 86, _, _ => exact Tryz.call86
   | 87, _, _ => exact Tryz.call87
   | 88, _, _ => exact Tryz.call88
   | 89, _, _ => exact Tryz.call89
   | 90, _, _ => exact Tryz.call90
   | 91, _, _ => exact Tryz.call91
   | 92, _, _ => exact Tryz.call92
   | 93, _, _ => exact Tryz.call93
   | 94, _, _ => exact Tryz.call94
   | 95, _, _ => exact Tryz.call95
   | 96, _, _ => exact Tryz.call96
   | 97, _, _ => exact Tryz.call97
   | 98, _, _ => exact Tryz.call98
   | 99, _, _ => exact Tryz.call99
   | 100, _, _ => exact Tryz.call100
   | 101, _, _ => exact Tryz.call101
   | 102, _, _ => exact Tryz.call102
   | 103, _, _ => exact Tryz.call103
   | 104, _, _ => exact Tryz.call104
   | 105, _, _ => exact Tryz.call105
   | 106, _, _ => exact Tryz.call106
   | 107, _, _ => exact Tryz.call107
   | 108, _, _ => exact Tryz.call108
   | 109, _, _ => exact Tryz.call109
   | 110, _, _ => exact Tryz.call110
   | 111, _, _ => exact Tryz.call111
   | 112, _, _ => exact Tryz.call112
   | 113, _, _ => exact Tryz.call113
   | 114, _, _ => exact Tryz.call114
   | 115, _, _ => exact Tryz.call115
   | 116, _, _ => exact Tryz.call116
   | 117, _, _ => exact Tryz.call117
   | 118, _, _ => exact Tryz.call118
   | 119, _, _ => exact Tryz.call119
   | 120, _, _ => exact Tryz.call120
   | 121, _, _ => exact Tryz.call121
   | 122, _, _ => exact Tryz.call122
   | 123, _, _ => exact Tryz.call123
   | 124, _, _ => exact Tryz.call124
   | 125, _, _ => exact Tryz.call125
   | 126, _, _ => exact Tryz.call126
   | 127, _, _ => exact Tryz.call127
   | 128, _, _ => exact Tryz.call128
   | 129, _, _ => exact Tryz.call129
   | 130, _, _ => exact Tryz.call130
   | 131, _, _ => exact Tryz.call131
   | 132, _, _ => exact Tryz.call132
   | 133, _, _ => exact Tryz.call133
   | 134, _, _ => exact Tryz.call134
   | 135, _, _ => exact Tryz.call135
   | 136, _, _ => exact Tryz.call136
   | 137, _, _ => exact Tryz.call137
   | 138, _, _ => exact Tryz.call138
   | 139, _, _ => exact Tryz.call139
   | 140, _, _ => exact Tryz.call140
   | 141, _, _ => exact Tryz.call141
   | 142, _, _ => exact Tryz.call142
   | 143, _, _ => exact Tryz.call143
   | 144, _, _ => exact Tryz.call144
   | 145, _, _ => exact Tryz.call145
   | 146, _, _ => exact Tryz.call146
   | 147, _, _ => exact Tryz.call147
   | 148, _, _ => exact Tryz.call148
   | 149, _, _ => exact Tryz.call149
   | 150, _, _ => exact Tryz.call150
   | 151, _, _ => exact Tryz.call151
   | 152, _, h => exact absurd (show false = true from h) (by simp)
   | 153, _, _ => exact Tryz.call153
   | 154, _, _ => exact Tryz.call154
   | 155, _, h => exact absurd (show false = true from h) (by simp)
   | 156, _, _ => exact Tryz.call156
   | 157, _, h => exact absurd (show false = true from h) (by simp)
   | 158, _, h => exact absurd (show false = true from h) (by simp)
   | 159, _, h => exact absurd (show false = true from h) (by simp)
   | n + 160, hlt, _ => omega
  ·have hl : fnRows.length = 10 := rfl
   have : nth fnRows (g / 16) = none := nth_none (l := fnRows) (i := g / 16) (by rw [hl]; omega)
   have h : fnAt g = true := h
   unfold fnAt at h
   rw [this] at h
   cases h
 ext := by
  intro g f h args w
  have h : extAt g = some f := h
  unfold extAt at h
  cases h
 mixed := by kernel_rfl
end Lf

set_option maxRecDepth 100000
namespace Lf
open Go Go.Proofs
theorem firebreaklaw22_SnapWrites_eq (c : S_api_Config) (s : S_api_State) (Q : (Bool → (Hp → Prop))) (h : Hp) : funW ⟨Tryz.prog, tb, firebreaklaw22_SnapWrites_p⟩ Tryz.f3 firebreaklaw22_SnapWrites_a [(sh_api_Config).enc c, (sh_api_State).enc s] (Q) h = firebreaklaw22_SnapWrites_w Tryz.prog c s Q h := by kernel_rfl
theorem firebreaklaw22_SnapWrites_call {c : S_api_Config} {s : S_api_State} {Q : (Bool → (Hp → Prop))} {h : Hp} (hv : firebreaklaw22_SnapWrites_w Tryz.prog c s Q h) : CallT Tryz.prog n_firebreaklaw22_SnapWrites [(sh_api_Config).enc c, (sh_api_State).enc s] (shBool) Q h :=
 show CallT Tryz.prog n_firebreaklaw22_SnapWrites [(sh_api_Config).enc c, (sh_api_State).enc s] (shRes tb [4]) (Q) h from fun_sound (C := ⟨Tryz.prog, tb, firebreaklaw22_SnapWrites_p⟩) tb_ok Tryz.func3 rfl (Eq.mpr (firebreaklaw22_SnapWrites_eq c s Q h) hv)
theorem firebreaklaw22_awake_eq  (Q : (Bool → (Hp → Prop))) (h : Hp) : funW ⟨Tryz.prog, tb, firebreaklaw22_awake_p⟩ Tryz.f8 firebreaklaw22_awake_a [] (Q) h = firebreaklaw22_awake_w Tryz.prog  Q h := by kernel_rfl
theorem firebreaklaw22_awake_call {Q : (Bool → (Hp → Prop))} {h : Hp} (hv : firebreaklaw22_awake_w Tryz.prog  Q h) : CallT Tryz.prog n_firebreaklaw22_awake [] (shBool) Q h :=
 show CallT Tryz.prog n_firebreaklaw22_awake [] (shRes tb [4]) (Q) h from fun_sound (C := ⟨Tryz.prog, tb, firebreaklaw22_awake_p⟩) tb_ok Tryz.func8 rfl (Eq.mpr (firebreaklaw22_awake_eq  Q h) hv)
theorem firebreaklaw22_many_eq (c : S_api_Config) (s : S_api_State) (Q : (Bool → (Hp → Prop))) (h : Hp) : funW ⟨Tryz.prog, tb, firebreaklaw22_many_p⟩ Tryz.f9 firebreaklaw22_many_a [(sh_api_Config).enc c, (sh_api_State).enc s] (Q) h = firebreaklaw22_many_w Tryz.prog c s Q h := by kernel_rfl
theorem firebreaklaw22_many_call {c : S_api_Config} {s : S_api_State} {Q : (Bool → (Hp → Prop))} {h : Hp} (hv : firebreaklaw22_many_w Tryz.prog c s Q h) : CallT Tryz.prog n_firebreaklaw22_many [(sh_api_Config).enc c, (sh_api_State).enc s] (shBool) Q h :=
 show CallT Tryz.prog n_firebreaklaw22_many [(sh_api_Config).enc c, (sh_api_State).enc s] (shRes tb [4]) (Q) h from fun_sound (C := ⟨Tryz.prog, tb, firebreaklaw22_many_p⟩) tb_ok Tryz.func9 rfl (Eq.mpr (firebreaklaw22_many_eq c s Q h) hv)
theorem snap_Encode_eq (c : S_api_Config) (s : S_api_State) (Q : (Sl → (Int → (Hp → Prop)))) (h : Hp) : funW ⟨Tryz.prog, tb, snap_Encode_p⟩ Tryz.f10 snap_Encode_a [(sh_api_Config).enc c, (sh_api_State).enc s] (fun r => Q r.1 r.2) h = snap_Encode_w Tryz.prog c s Q h := by kernel_rfl
theorem snap_Encode_call {c : S_api_Config} {s : S_api_State} {Q : (Sl → (Int → (Hp → Prop)))} {h : Hp} (hv : snap_Encode_w Tryz.prog c s Q h) : Call2 Tryz.prog n_snap_Encode [(sh_api_Config).enc c, (sh_api_State).enc s] (shSl) (shInt .i64) Q h :=
 show CallT Tryz.prog n_snap_Encode [(sh_api_Config).enc c, (sh_api_State).enc s] (shRes tb [33, 34]) (fun r => Q r.1 r.2) h from fun_sound (C := ⟨Tryz.prog, tb, snap_Encode_p⟩) tb_ok Tryz.func10 rfl (Eq.mpr (snap_Encode_eq c s Q h) hv)
theorem firebreakref22_Encode_eq (c : S_api_Config) (s : S_api_State) (Q : (Sl → (Int → (Hp → Prop)))) (h : Hp) : funW ⟨Tryz.prog, tb, firebreakref22_Encode_p⟩ Tryz.f11 firebreakref22_Encode_a [(sh_api_Config).enc c, (sh_api_State).enc s] (fun r => Q r.1 r.2) h = firebreakref22_Encode_w Tryz.prog c s Q h := by kernel_rfl
theorem firebreakref22_Encode_call {c : S_api_Config} {s : S_api_State} {Q : (Sl → (Int → (Hp → Prop)))} {h : Hp} (hv : firebreakref22_Encode_w Tryz.prog c s Q h) : Call2 Tryz.prog n_firebreakref22_Encode [(sh_api_Config).enc c, (sh_api_State).enc s] (shSl) (shInt .i64) Q h :=
 show CallT Tryz.prog n_firebreakref22_Encode [(sh_api_Config).enc c, (sh_api_State).enc s] (shRes tb [33, 34]) (fun r => Q r.1 r.2) h from fun_sound (C := ⟨Tryz.prog, tb, firebreakref22_Encode_p⟩) tb_ok Tryz.func11 rfl (Eq.mpr (firebreakref22_Encode_eq c s Q h) hv)
theorem snap_Decode_eq (b : Sl) (Q : (S_api_Config → (S_api_State → (Int → (Int → (Hp → Prop)))))) (h : Hp) : funW ⟨Tryz.prog, tb, snap_Decode_p⟩ Tryz.f12 snap_Decode_a [(shSl).enc b] (fun r => Q r.1 r.2.1 r.2.2.1 r.2.2.2) h = snap_Decode_w Tryz.prog b Q h := by kernel_rfl
theorem snap_Decode_call {b : Sl} {Q : (S_api_Config → (S_api_State → (Int → (Int → (Hp → Prop)))))} {h : Hp} (hv : snap_Decode_w Tryz.prog b Q h) : Call4 Tryz.prog n_snap_Decode [(shSl).enc b] (sh_api_Config) (sh_api_State) (shInt .i64) (shInt .i64) Q h :=
 show CallT Tryz.prog n_snap_Decode [(shSl).enc b] (shRes tb [26, 30, 34, 3]) (fun r => Q r.1 r.2.1 r.2.2.1 r.2.2.2) h from fun_sound (C := ⟨Tryz.prog, tb, snap_Decode_p⟩) tb_ok Tryz.func12 rfl (Eq.mpr (snap_Decode_eq b Q h) hv)
theorem firebreakref14_Same_eq (a : S_api_Config) (b : S_api_Config) (Q : (Bool → (Hp → Prop))) (h : Hp) : funW ⟨Tryz.prog, tb, firebreakref14_Same_p⟩ Tryz.f14 firebreakref14_Same_a [(sh_api_Config).enc a, (sh_api_Config).enc b] (Q) h = firebreakref14_Same_w Tryz.prog a b Q h := by kernel_rfl
theorem firebreakref14_Same_call {a : S_api_Config} {b : S_api_Config} {Q : (Bool → (Hp → Prop))} {h : Hp} (hv : firebreakref14_Same_w Tryz.prog a b Q h) : CallT Tryz.prog n_firebreakref14_Same [(sh_api_Config).enc a, (sh_api_Config).enc b] (shBool) Q h :=
 show CallT Tryz.prog n_firebreakref14_Same [(sh_api_Config).enc a, (sh_api_Config).enc b] (shRes tb [4]) (Q) h from fun_sound (C := ⟨Tryz.prog, tb, firebreakref14_Same_p⟩) tb_ok Tryz.func14 rfl (Eq.mpr (firebreakref14_Same_eq a b Q h) hv)
theorem firebreakref18_Same_eq (a : S_api_State) (b : S_api_State) (Q : (Bool → (Hp → Prop))) (h : Hp) : funW ⟨Tryz.prog, tb, firebreakref18_Same_p⟩ Tryz.f15 firebreakref18_Same_a [(sh_api_State).enc a, (sh_api_State).enc b] (Q) h = firebreakref18_Same_w Tryz.prog a b Q h := by kernel_rfl
theorem firebreakref18_Same_call {a : S_api_State} {b : S_api_State} {Q : (Bool → (Hp → Prop))} {h : Hp} (hv : firebreakref18_Same_w Tryz.prog a b Q h) : CallT Tryz.prog n_firebreakref18_Same [(sh_api_State).enc a, (sh_api_State).enc b] (shBool) Q h :=
 show CallT Tryz.prog n_firebreakref18_Same [(sh_api_State).enc a, (sh_api_State).enc b] (shRes tb [4]) (Q) h from fun_sound (C := ⟨Tryz.prog, tb, firebreakref18_Same_p⟩) tb_ok Tryz.func15 rfl (Eq.mpr (firebreakref18_Same_eq a b Q h) hv)
theorem machine_May_eq (c : S_api_Config) (s : S_api_State) (Q : (Int → (Hp → Prop))) (h : Hp) : funW ⟨Tryz.prog, tb, machine_May_p⟩ Tryz.f16 machine_May_a [(sh_api_Config).enc c, (sh_api_State).enc s] (Q) h = machine_May_w Tryz.prog c s Q h := by kernel_rfl
theorem machine_May_call {c : S_api_Config} {s : S_api_State} {Q : (Int → (Hp → Prop))} {h : Hp} (hv : machine_May_w Tryz.prog c s Q h) : CallT Tryz.prog n_machine_May [(sh_api_Config).enc c, (sh_api_State).enc s] (shInt .i64) Q h :=
 show CallT Tryz.prog n_machine_May [(sh_api_Config).enc c, (sh_api_State).enc s] (shRes tb [34]) (Q) h from fun_sound (C := ⟨Tryz.prog, tb, machine_May_p⟩) tb_ok Tryz.func16 rfl (Eq.mpr (machine_May_eq c s Q h) hv)
theorem firebreaklaw22_plain_eq  (Q : (S_api_Config → (S_api_State → (Hp → Prop)))) (h : Hp) : funW ⟨Tryz.prog, tb, firebreaklaw22_plain_p⟩ Tryz.f21 firebreaklaw22_plain_a [] (fun r => Q r.1 r.2) h = firebreaklaw22_plain_w Tryz.prog  Q h := by kernel_rfl
theorem firebreaklaw22_plain_call {Q : (S_api_Config → (S_api_State → (Hp → Prop)))} {h : Hp} (hv : firebreaklaw22_plain_w Tryz.prog  Q h) : Call2 Tryz.prog n_firebreaklaw22_plain [] (sh_api_Config) (sh_api_State) Q h :=
 show CallT Tryz.prog n_firebreaklaw22_plain [] (shRes tb [26, 30]) (fun r => Q r.1 r.2) h from fun_sound (C := ⟨Tryz.prog, tb, firebreaklaw22_plain_p⟩) tb_ok Tryz.func21 rfl (Eq.mpr (firebreaklaw22_plain_eq  Q h) hv)
theorem firebreakref14_Few_eq (c : S_api_Config) (Q : (Bool → (Hp → Prop))) (h : Hp) : funW ⟨Tryz.prog, tb, firebreakref14_Few_p⟩ Tryz.f22 firebreakref14_Few_a [(sh_api_Config).enc c] (Q) h = firebreakref14_Few_w Tryz.prog c Q h := by kernel_rfl
theorem firebreakref14_Few_call {c : S_api_Config} {Q : (Bool → (Hp → Prop))} {h : Hp} (hv : firebreakref14_Few_w Tryz.prog c Q h) : CallT Tryz.prog n_firebreakref14_Few [(sh_api_Config).enc c] (shBool) Q h :=
 show CallT Tryz.prog n_firebreakref14_Few [(sh_api_Config).enc c] (shRes tb [4]) (Q) h from fun_sound (C := ⟨Tryz.prog, tb, firebreakref14_Few_p⟩) tb_ok Tryz.func22 rfl (Eq.mpr (firebreakref14_Few_eq c Q h) hv)
theorem conf_Encode_eq (c : S_api_Config) (Q : (Sl → (Int → (Hp → Prop)))) (h : Hp) : funW ⟨Tryz.prog, tb, conf_Encode_p⟩ Tryz.f23 conf_Encode_a [(sh_api_Config).enc c] (fun r => Q r.1 r.2) h = conf_Encode_w Tryz.prog c Q h := by kernel_rfl
theorem conf_Encode_call {c : S_api_Config} {Q : (Sl → (Int → (Hp → Prop)))} {h : Hp} (hv : conf_Encode_w Tryz.prog c Q h) : Call2 Tryz.prog n_conf_Encode [(sh_api_Config).enc c] (shSl) (shInt .i64) Q h :=
 show CallT Tryz.prog n_conf_Encode [(sh_api_Config).enc c] (shRes tb [33, 34]) (fun r => Q r.1 r.2) h from fun_sound (C := ⟨Tryz.prog, tb, conf_Encode_p⟩) tb_ok Tryz.func23 rfl (Eq.mpr (conf_Encode_eq c Q h) hv)
theorem snap_numbers_count_eq (w : Option Addr) (n : Int) (many : Int) (Q : (Hp → Prop)) (h : Hp) : funW ⟨Tryz.prog, tb, snap_numbers_count_p⟩ Tryz.f24 snap_numbers_count_a [(shPtr).enc w, (shInt .i64).enc n, (shInt .i64).enc many] (fun _ => Q) h = snap_numbers_count_w Tryz.prog w n many Q h := by kernel_rfl
theorem snap_numbers_count_call {w : Option Addr} {n : Int} {many : Int} {Q : (Hp → Prop)} {h : Hp} (hv : snap_numbers_count_w Tryz.prog w n many Q h) : Call0 Tryz.prog n_snap_numbers_count [(shPtr).enc w, (shInt .i64).enc n, (shInt .i64).enc many] (Q) h :=
 show CallT Tryz.prog n_snap_numbers_count [(shPtr).enc w, (shInt .i64).enc n, (shInt .i64).enc many] (shRes tb []) (fun _ => Q) h from fun_sound (C := ⟨Tryz.prog, tb, snap_numbers_count_p⟩) tb_ok Tryz.func24 rfl (Eq.mpr (snap_numbers_count_eq w n many Q h) hv)
end Lf

set_option maxRecDepth 100000
namespace Lf
open Go Go.Proofs
theorem snap_numbers_put_eq (w : Option Addr) (n : Int) (many : Int) (Q : (Hp → Prop)) (h : Hp) : funW ⟨Tryz.prog, tb, snap_numbers_put_p⟩ Tryz.f25 snap_numbers_put_a [(shPtr).enc w, (shInt .i64).enc n, (shInt .i64).enc many] (fun _ => Q) h = snap_numbers_put_w Tryz.prog w n many Q h := by kernel_rfl
theorem snap_numbers_put_call {w : Option Addr} {n : Int} {many : Int} {Q : (Hp → Prop)} {h : Hp} (hv : snap_numbers_put_w Tryz.prog w n many Q h) : Call0 Tryz.prog n_snap_numbers_put [(shPtr).enc w, (shInt .i64).enc n, (shInt .i64).enc many] (Q) h :=
 show CallT Tryz.prog n_snap_numbers_put [(shPtr).enc w, (shInt .i64).enc n, (shInt .i64).enc many] (shRes tb []) (fun _ => Q) h from fun_sound (C := ⟨Tryz.prog, tb, snap_numbers_put_p⟩) tb_ok Tryz.func25 rfl (Eq.mpr (snap_numbers_put_eq w n many Q h) hv)
theorem snap_writer_part_eq (w : Option Addr) (x : S_api_Part) (Q : (Hp → Prop)) (h : Hp) : funW ⟨Tryz.prog, tb, snap_writer_part_p⟩ Tryz.f26 snap_writer_part_a [(shPtr).enc w, (sh_api_Part).enc x] (fun _ => Q) h = snap_writer_part_w Tryz.prog w x Q h := by kernel_rfl
theorem snap_writer_part_call {w : Option Addr} {x : S_api_Part} {Q : (Hp → Prop)} {h : Hp} (hv : snap_writer_part_w Tryz.prog w x Q h) : Call0 Tryz.prog n_snap_writer_part [(shPtr).enc w, (sh_api_Part).enc x] (Q) h :=
 show CallT Tryz.prog n_snap_writer_part [(shPtr).enc w, (sh_api_Part).enc x] (shRes tb []) (fun _ => Q) h from fun_sound (C := ⟨Tryz.prog, tb, snap_writer_part_p⟩) tb_ok Tryz.func26 rfl (Eq.mpr (snap_writer_part_eq w x Q h) hv)
theorem snap_writer_proc_eq (w : Option Addr) (x : S_api_Process) (Q : (Hp → Prop)) (h : Hp) : funW ⟨Tryz.prog, tb, snap_writer_proc_p⟩ Tryz.f27 snap_writer_proc_a [(shPtr).enc w, (sh_api_Process).enc x] (fun _ => Q) h = snap_writer_proc_w Tryz.prog w x Q h := by kernel_rfl
theorem snap_writer_proc_call {w : Option Addr} {x : S_api_Process} {Q : (Hp → Prop)} {h : Hp} (hv : snap_writer_proc_w Tryz.prog w x Q h) : Call0 Tryz.prog n_snap_writer_proc [(shPtr).enc w, (sh_api_Process).enc x] (Q) h :=
 show CallT Tryz.prog n_snap_writer_proc [(shPtr).enc w, (sh_api_Process).enc x] (shRes tb []) (fun _ => Q) h from fun_sound (C := ⟨Tryz.prog, tb, snap_writer_proc_p⟩) tb_ok Tryz.func27 rfl (Eq.mpr (snap_writer_proc_eq w x Q h) hv)
theorem firebreakref15_May_eq (c : S_api_Config) (s : S_api_State) (Q : (Int → (Hp → Prop))) (h : Hp) : funW ⟨Tryz.prog, tb, firebreakref15_May_p⟩ Tryz.f28 firebreakref15_May_a [(sh_api_Config).enc c, (sh_api_State).enc s] (Q) h = firebreakref15_May_w Tryz.prog c s Q h := by kernel_rfl
theorem firebreakref15_May_call {c : S_api_Config} {s : S_api_State} {Q : (Int → (Hp → Prop))} {h : Hp} (hv : firebreakref15_May_w Tryz.prog c s Q h) : CallT Tryz.prog n_firebreakref15_May [(sh_api_Config).enc c, (sh_api_State).enc s] (shInt .i64) Q h :=
 show CallT Tryz.prog n_firebreakref15_May [(sh_api_Config).enc c, (sh_api_State).enc s] (shRes tb [34]) (Q) h from fun_sound (C := ⟨Tryz.prog, tb, firebreakref15_May_p⟩) tb_ok Tryz.func28 rfl (Eq.mpr (firebreakref15_May_eq c s Q h) hv)
theorem firebreakref14_Encode_eq (c : S_api_Config) (Q : (Sl → (Int → (Hp → Prop)))) (h : Hp) : funW ⟨Tryz.prog, tb, firebreakref14_Encode_p⟩ Tryz.f29 firebreakref14_Encode_a [(sh_api_Config).enc c] (fun r => Q r.1 r.2) h = firebreakref14_Encode_w Tryz.prog c Q h := by kernel_rfl
theorem firebreakref14_Encode_call {c : S_api_Config} {Q : (Sl → (Int → (Hp → Prop)))} {h : Hp} (hv : firebreakref14_Encode_w Tryz.prog c Q h) : Call2 Tryz.prog n_firebreakref14_Encode [(sh_api_Config).enc c] (shSl) (shInt .i64) Q h :=
 show CallT Tryz.prog n_firebreakref14_Encode [(sh_api_Config).enc c] (shRes tb [33, 34]) (fun r => Q r.1 r.2) h from fun_sound (C := ⟨Tryz.prog, tb, firebreakref14_Encode_p⟩) tb_ok Tryz.func29 rfl (Eq.mpr (firebreakref14_Encode_eq c Q h) hv)
theorem firebreakref14_Number_eq (b : Sl) (n : Int) (many : Int) (Q : (Sl → (Hp → Prop))) (h : Hp) : funW ⟨Tryz.prog, tb, firebreakref14_Number_p⟩ Tryz.f30 firebreakref14_Number_a [(shSl).enc b, (shInt .u64).enc n, (shInt .i64).enc many] (Q) h = firebreakref14_Number_w Tryz.prog b n many Q h := by kernel_rfl
theorem firebreakref14_Number_call {b : Sl} {n : Int} {many : Int} {Q : (Sl → (Hp → Prop))} {h : Hp} (hv : firebreakref14_Number_w Tryz.prog b n many Q h) : CallT Tryz.prog n_firebreakref14_Number [(shSl).enc b, (shInt .u64).enc n, (shInt .i64).enc many] (shSl) Q h :=
 show CallT Tryz.prog n_firebreakref14_Number [(shSl).enc b, (shInt .u64).enc n, (shInt .i64).enc many] (shRes tb [33]) (Q) h from fun_sound (C := ⟨Tryz.prog, tb, firebreakref14_Number_p⟩) tb_ok Tryz.func30 rfl (Eq.mpr (firebreakref14_Number_eq b n many Q h) hv)
theorem firebreakref22_part_eq (b : Sl) (p : S_api_Part) (Q : (Sl → (Hp → Prop))) (h : Hp) : funW ⟨Tryz.prog, tb, firebreakref22_part_p⟩ Tryz.f31 firebreakref22_part_a [(shSl).enc b, (sh_api_Part).enc p] (Q) h = firebreakref22_part_w Tryz.prog b p Q h := by kernel_rfl
theorem firebreakref22_part_call {b : Sl} {p : S_api_Part} {Q : (Sl → (Hp → Prop))} {h : Hp} (hv : firebreakref22_part_w Tryz.prog b p Q h) : CallT Tryz.prog n_firebreakref22_part [(shSl).enc b, (sh_api_Part).enc p] (shSl) Q h :=
 show CallT Tryz.prog n_firebreakref22_part [(shSl).enc b, (sh_api_Part).enc p] (shRes tb [33]) (Q) h from fun_sound (C := ⟨Tryz.prog, tb, firebreakref22_part_p⟩) tb_ok Tryz.func31 rfl (Eq.mpr (firebreakref22_part_eq b p Q h) hv)
theorem firebreakref22_process_eq (b : Sl) (p : S_api_Process) (Q : (Sl → (Hp → Prop))) (h : Hp) : funW ⟨Tryz.prog, tb, firebreakref22_process_p⟩ Tryz.f32 firebreakref22_process_a [(shSl).enc b, (sh_api_Process).enc p] (Q) h = firebreakref22_process_w Tryz.prog b p Q h := by kernel_rfl
theorem firebreakref22_process_call {b : Sl} {p : S_api_Process} {Q : (Sl → (Hp → Prop))} {h : Hp} (hv : firebreakref22_process_w Tryz.prog b p Q h) : CallT Tryz.prog n_firebreakref22_process [(shSl).enc b, (sh_api_Process).enc p] (shSl) Q h :=
 show CallT Tryz.prog n_firebreakref22_process [(shSl).enc b, (sh_api_Process).enc p] (shRes tb [33]) (Q) h from fun_sound (C := ⟨Tryz.prog, tb, firebreakref22_process_p⟩) tb_ok Tryz.func32 rfl (Eq.mpr (firebreakref22_process_eq b p Q h) hv)
theorem snap_reader_state_eq (r : Option Addr) (Q : (S_api_State → (Hp → Prop))) (h : Hp) : funW ⟨Tryz.prog, tb, snap_reader_state_p⟩ Tryz.f33 snap_reader_state_a [(shPtr).enc r] (Q) h = snap_reader_state_w Tryz.prog r Q h := by kernel_rfl
theorem snap_reader_state_call {r : Option Addr} {Q : (S_api_State → (Hp → Prop))} {h : Hp} (hv : snap_reader_state_w Tryz.prog r Q h) : CallT Tryz.prog n_snap_reader_state [(shPtr).enc r] (sh_api_State) Q h :=
 show CallT Tryz.prog n_snap_reader_state [(shPtr).enc r] (shRes tb [30]) (Q) h from fun_sound (C := ⟨Tryz.prog, tb, snap_reader_state_p⟩) tb_ok Tryz.func33 rfl (Eq.mpr (snap_reader_state_eq r Q h) hv)
theorem snap_source_give_eq (r : Option Addr) (e : Int) (place : Int) (Q : (Hp → Prop)) (h : Hp) : funW ⟨Tryz.prog, tb, snap_source_give_p⟩ Tryz.f34 snap_source_give_a [(shPtr).enc r, (shInt .i64).enc e, (shInt .i64).enc place] (fun _ => Q) h = snap_source_give_w Tryz.prog r e place Q h := by kernel_rfl
theorem snap_source_give_call {r : Option Addr} {e : Int} {place : Int} {Q : (Hp → Prop)} {h : Hp} (hv : snap_source_give_w Tryz.prog r e place Q h) : Call0 Tryz.prog n_snap_source_give [(shPtr).enc r, (shInt .i64).enc e, (shInt .i64).enc place] (Q) h :=
 show CallT Tryz.prog n_snap_source_give [(shPtr).enc r, (shInt .i64).enc e, (shInt .i64).enc place] (shRes tb []) (fun _ => Q) h from fun_sound (C := ⟨Tryz.prog, tb, snap_source_give_p⟩) tb_ok Tryz.func34 rfl (Eq.mpr (snap_source_give_eq r e place Q h) hv)
theorem firebreakref14_Skeleton_eq (a : S_api_Config) (b : S_api_Config) (Q : (Bool → (Hp → Prop))) (h : Hp) : funW ⟨Tryz.prog, tb, firebreakref14_Skeleton_p⟩ Tryz.f41 firebreakref14_Skeleton_a [(sh_api_Config).enc a, (sh_api_Config).enc b] (Q) h = firebreakref14_Skeleton_w Tryz.prog a b Q h := by kernel_rfl
theorem firebreakref14_Skeleton_call {a : S_api_Config} {b : S_api_Config} {Q : (Bool → (Hp → Prop))} {h : Hp} (hv : firebreakref14_Skeleton_w Tryz.prog a b Q h) : CallT Tryz.prog n_firebreakref14_Skeleton [(sh_api_Config).enc a, (sh_api_Config).enc b] (shBool) Q h :=
 show CallT Tryz.prog n_firebreakref14_Skeleton [(sh_api_Config).enc a, (sh_api_Config).enc b] (shRes tb [4]) (Q) h from fun_sound (C := ⟨Tryz.prog, tb, firebreakref14_Skeleton_p⟩) tb_ok Tryz.func41 rfl (Eq.mpr (firebreakref14_Skeleton_eq a b Q h) hv)
theorem firebreakref06_Same_eq (a : Sl) (b : Sl) (Q : (Bool → (Hp → Prop))) (h : Hp) : funW ⟨Tryz.prog, tb, firebreakref06_Same_p⟩ Tryz.f42 firebreakref06_Same_a [(shSl).enc a, (shSl).enc b] (Q) h = firebreakref06_Same_w Tryz.prog a b Q h := by kernel_rfl
theorem firebreakref06_Same_call {a : Sl} {b : Sl} {Q : (Bool → (Hp → Prop))} {h : Hp} (hv : firebreakref06_Same_w Tryz.prog a b Q h) : CallT Tryz.prog n_firebreakref06_Same [(shSl).enc a, (shSl).enc b] (shBool) Q h :=
 show CallT Tryz.prog n_firebreakref06_Same [(shSl).enc a, (shSl).enc b] (shRes tb [4]) (Q) h from fun_sound (C := ⟨Tryz.prog, tb, firebreakref06_Same_p⟩) tb_ok Tryz.func42 rfl (Eq.mpr (firebreakref06_Same_eq a b Q h) hv)
theorem firebreakref18_samePart_eq (a : S_api_Part) (b : S_api_Part) (Q : (Bool → (Hp → Prop))) (h : Hp) : funW ⟨Tryz.prog, tb, firebreakref18_samePart_p⟩ Tryz.f43 firebreakref18_samePart_a [(sh_api_Part).enc a, (sh_api_Part).enc b] (Q) h = firebreakref18_samePart_w Tryz.prog a b Q h := by kernel_rfl
theorem firebreakref18_samePart_call {a : S_api_Part} {b : S_api_Part} {Q : (Bool → (Hp → Prop))} {h : Hp} (hv : firebreakref18_samePart_w Tryz.prog a b Q h) : CallT Tryz.prog n_firebreakref18_samePart [(sh_api_Part).enc a, (sh_api_Part).enc b] (shBool) Q h :=
 show CallT Tryz.prog n_firebreakref18_samePart [(sh_api_Part).enc a, (sh_api_Part).enc b] (shRes tb [4]) (Q) h from fun_sound (C := ⟨Tryz.prog, tb, firebreakref18_samePart_p⟩) tb_ok Tryz.func43 rfl (Eq.mpr (firebreakref18_samePart_eq a b Q h) hv)
theorem firebreakref18_sameProcess_eq (a : S_api_Process) (b : S_api_Process) (Q : (Bool → (Hp → Prop))) (h : Hp) : funW ⟨Tryz.prog, tb, firebreakref18_sameProcess_p⟩ Tryz.f44 firebreakref18_sameProcess_a [(sh_api_Process).enc a, (sh_api_Process).enc b] (Q) h = firebreakref18_sameProcess_w Tryz.prog a b Q h := by kernel_rfl
theorem firebreakref18_sameProcess_call {a : S_api_Process} {b : S_api_Process} {Q : (Bool → (Hp → Prop))} {h : Hp} (hv : firebreakref18_sameProcess_w Tryz.prog a b Q h) : CallT Tryz.prog n_firebreakref18_sameProcess [(sh_api_Process).enc a, (sh_api_Process).enc b] (shBool) Q h :=
 show CallT Tryz.prog n_firebreakref18_sameProcess [(sh_api_Process).enc a, (sh_api_Process).enc b] (shRes tb [4]) (Q) h from fun_sound (C := ⟨Tryz.prog, tb, firebreakref18_sameProcess_p⟩) tb_ok Tryz.func44 rfl (Eq.mpr (firebreakref18_sameProcess_eq a b Q h) hv)
theorem conf_May_eq (c : S_api_Config) (Q : (Int → (Int → (Hp → Prop)))) (h : Hp) : funW ⟨Tryz.prog, tb, conf_May_p⟩ Tryz.f45 conf_May_a [(sh_api_Config).enc c] (fun r => Q r.1 r.2) h = conf_May_w Tryz.prog c Q h := by kernel_rfl
theorem conf_May_call {c : S_api_Config} {Q : (Int → (Int → (Hp → Prop)))} {h : Hp} (hv : conf_May_w Tryz.prog c Q h) : Call2 Tryz.prog n_conf_May [(sh_api_Config).enc c] (shInt .i64) (shInt .i64) Q h :=
 show CallT Tryz.prog n_conf_May [(sh_api_Config).enc c] (shRes tb [34, 3]) (fun r => Q r.1 r.2) h from fun_sound (C := ⟨Tryz.prog, tb, conf_May_p⟩) tb_ok Tryz.func45 rfl (Eq.mpr (conf_May_eq c Q h) hv)
theorem table_New_eq (l : Sl) (Q : (Option Addr → (Int → (Int → (Hp → Prop))))) (h : Hp) : funW ⟨Tryz.prog, tb, table_New_p⟩ Tryz.f46 table_New_a [(shSl).enc l] (fun r => Q r.1 r.2.1 r.2.2) h = table_New_w Tryz.prog l Q h := by kernel_rfl
theorem table_New_call {l : Sl} {Q : (Option Addr → (Int → (Int → (Hp → Prop))))} {h : Hp} (hv : table_New_w Tryz.prog l Q h) : Call3 Tryz.prog n_table_New [(shSl).enc l] (shPtr) (shInt .i64) (shInt .i64) Q h :=
 show CallT Tryz.prog n_table_New [(shSl).enc l] (shRes tb [103, 34, 3]) (fun r => Q r.1 r.2.1 r.2.2) h from fun_sound (C := ⟨Tryz.prog, tb, table_New_p⟩) tb_ok Tryz.func46 rfl (Eq.mpr (table_New_eq l Q h) hv)
end Lf

set_option maxRecDepth 100000
namespace Lf
open Go Go.Proofs
theorem machine_asked_part_eq (a : S_machine_asked) (i : Int) (Q : (Bool → (Hp → Prop))) (h : Hp) : funW ⟨Tryz.prog, tb, machine_asked_part_p⟩ Tryz.f47 machine_asked_part_a [(sh_machine_asked).enc a, (shInt .i64).enc i] (Q) h = machine_asked_part_w Tryz.prog a i Q h := by kernel_rfl
theorem machine_asked_part_call {a : S_machine_asked} {i : Int} {Q : (Bool → (Hp → Prop))} {h : Hp} (hv : machine_asked_part_w Tryz.prog a i Q h) : CallT Tryz.prog n_machine_asked_part [(sh_machine_asked).enc a, (shInt .i64).enc i] (shBool) Q h :=
 show CallT Tryz.prog n_machine_asked_part [(sh_machine_asked).enc a, (shInt .i64).enc i] (shRes tb [4]) (Q) h from fun_sound (C := ⟨Tryz.prog, tb, machine_asked_part_p⟩) tb_ok Tryz.func47 rfl (Eq.mpr (machine_asked_part_eq a i Q h) hv)
theorem machine_asked_proc_eq (a : S_machine_asked) (p : Int) (Q : (Bool → (Hp → Prop))) (h : Hp) : funW ⟨Tryz.prog, tb, machine_asked_proc_p⟩ Tryz.f48 machine_asked_proc_a [(sh_machine_asked).enc a, (shInt .i64).enc p] (Q) h = machine_asked_proc_w Tryz.prog a p Q h := by kernel_rfl
theorem machine_asked_proc_call {a : S_machine_asked} {p : Int} {Q : (Bool → (Hp → Prop))} {h : Hp} (hv : machine_asked_proc_w Tryz.prog a p Q h) : CallT Tryz.prog n_machine_asked_proc [(sh_machine_asked).enc a, (shInt .i64).enc p] (shBool) Q h :=
 show CallT Tryz.prog n_machine_asked_proc [(sh_machine_asked).enc a, (shInt .i64).enc p] (shRes tb [4]) (Q) h from fun_sound (C := ⟨Tryz.prog, tb, machine_asked_proc_p⟩) tb_ok Tryz.func48 rfl (Eq.mpr (machine_asked_proc_eq a p Q h) hv)
theorem machine_asked_waits_eq (a : S_machine_asked) (Q : (Bool → (Hp → Prop))) (h : Hp) : funW ⟨Tryz.prog, tb, machine_asked_waits_p⟩ Tryz.f49 machine_asked_waits_a [(sh_machine_asked).enc a] (Q) h = machine_asked_waits_w Tryz.prog a Q h := by kernel_rfl
theorem machine_asked_waits_call {a : S_machine_asked} {Q : (Bool → (Hp → Prop))} {h : Hp} (hv : machine_asked_waits_w Tryz.prog a Q h) : CallT Tryz.prog n_machine_asked_waits [(sh_machine_asked).enc a] (shBool) Q h :=
 show CallT Tryz.prog n_machine_asked_waits [(sh_machine_asked).enc a] (shRes tb [4]) (Q) h from fun_sound (C := ⟨Tryz.prog, tb, machine_asked_waits_p⟩) tb_ok Tryz.func49 rfl (Eq.mpr (machine_asked_waits_eq a Q h) hv)
theorem conf_lay_eq (b : Sl) (n : Int) (many : Int) (Q : (Sl → (Hp → Prop))) (h : Hp) : funW ⟨Tryz.prog, tb, conf_lay_p⟩ Tryz.f51 conf_lay_a [(shSl).enc b, (shInt .u64).enc n, (shInt .i64).enc many] (Q) h = conf_lay_w Tryz.prog b n many Q h := by kernel_rfl
theorem conf_lay_call {b : Sl} {n : Int} {many : Int} {Q : (Sl → (Hp → Prop))} {h : Hp} (hv : conf_lay_w Tryz.prog b n many Q h) : CallT Tryz.prog n_conf_lay [(shSl).enc b, (shInt .u64).enc n, (shInt .i64).enc many] (shSl) Q h :=
 show CallT Tryz.prog n_conf_lay [(shSl).enc b, (shInt .u64).enc n, (shInt .i64).enc many] (shRes tb [33]) (Q) h from fun_sound (C := ⟨Tryz.prog, tb, conf_lay_p⟩) tb_ok Tryz.func51 rfl (Eq.mpr (conf_lay_eq b n many Q h) hv)
theorem code_Encode_eq (l : Sl) (Q : (Sl → (Int → (Int → (Hp → Prop))))) (h : Hp) : funW ⟨Tryz.prog, tb, code_Encode_p⟩ Tryz.f52 code_Encode_a [(shSl).enc l] (fun r => Q r.1 r.2.1 r.2.2) h = code_Encode_w Tryz.prog l Q h := by kernel_rfl
theorem code_Encode_call {l : Sl} {Q : (Sl → (Int → (Int → (Hp → Prop))))} {h : Hp} (hv : code_Encode_w Tryz.prog l Q h) : Call3 Tryz.prog n_code_Encode [(shSl).enc l] (shSl) (shInt .i64) (shInt .i64) Q h :=
 show CallT Tryz.prog n_code_Encode [(shSl).enc l] (shRes tb [33, 34, 3]) (fun r => Q r.1 r.2.1 r.2.2) h from fun_sound (C := ⟨Tryz.prog, tb, code_Encode_p⟩) tb_ok Tryz.func52 rfl (Eq.mpr (code_Encode_eq l Q h) hv)
theorem snap_writer_lane_eq (w : Option Addr) (x : S_api_Lane) (Q : (Hp → Prop)) (h : Hp) : funW ⟨Tryz.prog, tb, snap_writer_lane_p⟩ Tryz.f53 snap_writer_lane_a [(shPtr).enc w, (sh_api_Lane).enc x] (fun _ => Q) h = snap_writer_lane_w Tryz.prog w x Q h := by kernel_rfl
theorem snap_writer_lane_call {w : Option Addr} {x : S_api_Lane} {Q : (Hp → Prop)} {h : Hp} (hv : snap_writer_lane_w Tryz.prog w x Q h) : Call0 Tryz.prog n_snap_writer_lane [(shPtr).enc w, (sh_api_Lane).enc x] (Q) h :=
 show CallT Tryz.prog n_snap_writer_lane [(shPtr).enc w, (sh_api_Lane).enc x] (shRes tb []) (fun _ => Q) h from fun_sound (C := ⟨Tryz.prog, tb, snap_writer_lane_p⟩) tb_ok Tryz.func53 rfl (Eq.mpr (snap_writer_lane_eq w x Q h) hv)
theorem firebreakref14_May_eq (c : S_api_Config) (Q : (Int → (Int → (Hp → Prop)))) (h : Hp) : funW ⟨Tryz.prog, tb, firebreakref14_May_p⟩ Tryz.f54 firebreakref14_May_a [(sh_api_Config).enc c] (fun r => Q r.1 r.2) h = firebreakref14_May_w Tryz.prog c Q h := by kernel_rfl
theorem firebreakref14_May_call {c : S_api_Config} {Q : (Int → (Int → (Hp → Prop)))} {h : Hp} (hv : firebreakref14_May_w Tryz.prog c Q h) : Call2 Tryz.prog n_firebreakref14_May [(sh_api_Config).enc c] (shInt .i64) (shInt .i64) Q h :=
 show CallT Tryz.prog n_firebreakref14_May [(sh_api_Config).enc c] (shRes tb [34, 3]) (fun r => Q r.1 r.2) h from fun_sound (C := ⟨Tryz.prog, tb, firebreakref14_May_p⟩) tb_ok Tryz.func54 rfl (Eq.mpr (firebreakref14_May_eq c Q h) hv)
theorem firebreakref15_sizes_eq (c : S_api_Config) (s : S_api_State) (Q : (Bool → (Hp → Prop))) (h : Hp) : funW ⟨Tryz.prog, tb, firebreakref15_sizes_p⟩ Tryz.f55 firebreakref15_sizes_a [(sh_api_Config).enc c, (sh_api_State).enc s] (Q) h = firebreakref15_sizes_w Tryz.prog c s Q h := by kernel_rfl
theorem firebreakref15_sizes_call {c : S_api_Config} {s : S_api_State} {Q : (Bool → (Hp → Prop))} {h : Hp} (hv : firebreakref15_sizes_w Tryz.prog c s Q h) : CallT Tryz.prog n_firebreakref15_sizes [(sh_api_Config).enc c, (sh_api_State).enc s] (shBool) Q h :=
 show CallT Tryz.prog n_firebreakref15_sizes [(sh_api_Config).enc c, (sh_api_State).enc s] (shRes tb [4]) (Q) h from fun_sound (C := ⟨Tryz.prog, tb, firebreakref15_sizes_p⟩) tb_ok Tryz.func55 rfl (Eq.mpr (firebreakref15_sizes_eq c s Q h) hv)
theorem firebreakref15_Machine_part_eq (m : Option Addr) (i : Int) (Q : (Bool → (Hp → Prop))) (h : Hp) : funW ⟨Tryz.prog, tb, firebreakref15_Machine_part_p⟩ Tryz.f56 firebreakref15_Machine_part_a [(shPtr).enc m, (shInt .i64).enc i] (Q) h = firebreakref15_Machine_part_w Tryz.prog m i Q h := by kernel_rfl
theorem firebreakref15_Machine_part_call {m : Option Addr} {i : Int} {Q : (Bool → (Hp → Prop))} {h : Hp} (hv : firebreakref15_Machine_part_w Tryz.prog m i Q h) : CallT Tryz.prog n_firebreakref15_Machine_part [(shPtr).enc m, (shInt .i64).enc i] (shBool) Q h :=
 show CallT Tryz.prog n_firebreakref15_Machine_part [(shPtr).enc m, (shInt .i64).enc i] (shRes tb [4]) (Q) h from fun_sound (C := ⟨Tryz.prog, tb, firebreakref15_Machine_part_p⟩) tb_ok Tryz.func56 rfl (Eq.mpr (firebreakref15_Machine_part_eq m i Q h) hv)
theorem firebreakref15_Machine_process_eq (m : Option Addr) (p : Int) (Q : (Bool → (Hp → Prop))) (h : Hp) : funW ⟨Tryz.prog, tb, firebreakref15_Machine_process_p⟩ Tryz.f57 firebreakref15_Machine_process_a [(shPtr).enc m, (shInt .i64).enc p] (Q) h = firebreakref15_Machine_process_w Tryz.prog m p Q h := by kernel_rfl
theorem firebreakref15_Machine_process_call {m : Option Addr} {p : Int} {Q : (Bool → (Hp → Prop))} {h : Hp} (hv : firebreakref15_Machine_process_w Tryz.prog m p Q h) : CallT Tryz.prog n_firebreakref15_Machine_process [(shPtr).enc m, (shInt .i64).enc p] (shBool) Q h :=
 show CallT Tryz.prog n_firebreakref15_Machine_process [(shPtr).enc m, (shInt .i64).enc p] (shRes tb [4]) (Q) h from fun_sound (C := ⟨Tryz.prog, tb, firebreakref15_Machine_process_p⟩) tb_ok Tryz.func57 rfl (Eq.mpr (firebreakref15_Machine_process_eq m p Q h) hv)
theorem firebreakref15_Machine_waits_eq (m : Option Addr) (p : Int) (Q : (Bool → (Hp → Prop))) (h : Hp) : funW ⟨Tryz.prog, tb, firebreakref15_Machine_waits_p⟩ Tryz.f58 firebreakref15_Machine_waits_a [(shPtr).enc m, (shInt .i64).enc p] (Q) h = firebreakref15_Machine_waits_w Tryz.prog m p Q h := by kernel_rfl
theorem firebreakref15_Machine_waits_call {m : Option Addr} {p : Int} {Q : (Bool → (Hp → Prop))} {h : Hp} (hv : firebreakref15_Machine_waits_w Tryz.prog m p Q h) : CallT Tryz.prog n_firebreakref15_Machine_waits [(shPtr).enc m, (shInt .i64).enc p] (shBool) Q h :=
 show CallT Tryz.prog n_firebreakref15_Machine_waits [(shPtr).enc m, (shInt .i64).enc p] (shRes tb [4]) (Q) h from fun_sound (C := ⟨Tryz.prog, tb, firebreakref15_Machine_waits_p⟩) tb_ok Tryz.func58 rfl (Eq.mpr (firebreakref15_Machine_waits_eq m p Q h) hv)
theorem firebreakref06_Put_eq (b : Sl) (x : S_api_Ins) (Q : (Sl → (Hp → Prop))) (h : Hp) : funW ⟨Tryz.prog, tb, firebreakref06_Put_p⟩ Tryz.f59 firebreakref06_Put_a [(shSl).enc b, (sh_api_Ins).enc x] (Q) h = firebreakref06_Put_w Tryz.prog b x Q h := by kernel_rfl
theorem firebreakref06_Put_call {b : Sl} {x : S_api_Ins} {Q : (Sl → (Hp → Prop))} {h : Hp} (hv : firebreakref06_Put_w Tryz.prog b x Q h) : CallT Tryz.prog n_firebreakref06_Put [(shSl).enc b, (sh_api_Ins).enc x] (shSl) Q h :=
 show CallT Tryz.prog n_firebreakref06_Put [(shSl).enc b, (sh_api_Ins).enc x] (shRes tb [33]) (Q) h from fun_sound (C := ⟨Tryz.prog, tb, firebreakref06_Put_p⟩) tb_ok Tryz.func59 rfl (Eq.mpr (firebreakref06_Put_eq b x Q h) hv)
theorem firebreakref22_one_eq (is : Bool) (Q : (Int → (Hp → Prop))) (h : Hp) : funW ⟨Tryz.prog, tb, firebreakref22_one_p⟩ Tryz.f60 firebreakref22_one_a [(shBool).enc is] (Q) h = firebreakref22_one_w Tryz.prog is Q h := by kernel_rfl
theorem firebreakref22_one_call {is : Bool} {Q : (Int → (Hp → Prop))} {h : Hp} (hv : firebreakref22_one_w Tryz.prog is Q h) : CallT Tryz.prog n_firebreakref22_one [(shBool).enc is] (shInt .u8) Q h :=
 show CallT Tryz.prog n_firebreakref22_one [(shBool).enc is] (shRes tb [5]) (Q) h from fun_sound (C := ⟨Tryz.prog, tb, firebreakref22_one_p⟩) tb_ok Tryz.func60 rfl (Eq.mpr (firebreakref22_one_eq is Q h) hv)
theorem snap_source_get_eq (r : Option Addr) (many : Int) (Q : (Int → (Hp → Prop))) (h : Hp) : funW ⟨Tryz.prog, tb, snap_source_get_p⟩ Tryz.f61 snap_source_get_a [(shPtr).enc r, (shInt .i64).enc many] (Q) h = snap_source_get_w Tryz.prog r many Q h := by kernel_rfl
theorem snap_source_get_call {r : Option Addr} {many : Int} {Q : (Int → (Hp → Prop))} {h : Hp} (hv : snap_source_get_w Tryz.prog r many Q h) : CallT Tryz.prog n_snap_source_get [(shPtr).enc r, (shInt .i64).enc many] (shInt .i64) Q h :=
 show CallT Tryz.prog n_snap_source_get [(shPtr).enc r, (shInt .i64).enc many] (shRes tb [2]) (Q) h from fun_sound (C := ⟨Tryz.prog, tb, snap_source_get_p⟩) tb_ok Tryz.func61 rfl (Eq.mpr (snap_source_get_eq r many Q h) hv)
theorem snap_reader_config_eq (r : Option Addr) (Q : (Hp → Prop)) (h : Hp) : funW ⟨Tryz.prog, tb, snap_reader_config_p⟩ Tryz.f62 snap_reader_config_a [(shPtr).enc r] (fun _ => Q) h = snap_reader_config_w Tryz.prog r Q h := by kernel_rfl
theorem snap_reader_config_call {r : Option Addr} {Q : (Hp → Prop)} {h : Hp} (hv : snap_reader_config_w Tryz.prog r Q h) : Call0 Tryz.prog n_snap_reader_config [(shPtr).enc r] (Q) h :=
 show CallT Tryz.prog n_snap_reader_config [(shPtr).enc r] (shRes tb []) (fun _ => Q) h from fun_sound (C := ⟨Tryz.prog, tb, snap_reader_config_p⟩) tb_ok Tryz.func62 rfl (Eq.mpr (snap_reader_config_eq r Q h) hv)
theorem snap_reader_part_eq (r : Option Addr) (Q : (S_api_Part → (Hp → Prop))) (h : Hp) : funW ⟨Tryz.prog, tb, snap_reader_part_p⟩ Tryz.f63 snap_reader_part_a [(shPtr).enc r] (Q) h = snap_reader_part_w Tryz.prog r Q h := by kernel_rfl
theorem snap_reader_part_call {r : Option Addr} {Q : (S_api_Part → (Hp → Prop))} {h : Hp} (hv : snap_reader_part_w Tryz.prog r Q h) : CallT Tryz.prog n_snap_reader_part [(shPtr).enc r] (sh_api_Part) Q h :=
 show CallT Tryz.prog n_snap_reader_part [(shPtr).enc r] (shRes tb [60]) (Q) h from fun_sound (C := ⟨Tryz.prog, tb, snap_reader_part_p⟩) tb_ok Tryz.func63 rfl (Eq.mpr (snap_reader_part_eq r Q h) hv)
theorem snap_reader_proc_eq (r : Option Addr) (Q : (S_api_Process → (Hp → Prop))) (h : Hp) : funW ⟨Tryz.prog, tb, snap_reader_proc_p⟩ Tryz.f64 snap_reader_proc_a [(shPtr).enc r] (Q) h = snap_reader_proc_w Tryz.prog r Q h := by kernel_rfl
theorem snap_reader_proc_call {r : Option Addr} {Q : (S_api_Process → (Hp → Prop))} {h : Hp} (hv : snap_reader_proc_w Tryz.prog r Q h) : CallT Tryz.prog n_snap_reader_proc [(shPtr).enc r] (sh_api_Process) Q h :=
 show CallT Tryz.prog n_snap_reader_proc [(shPtr).enc r] (shRes tb [64]) (Q) h from fun_sound (C := ⟨Tryz.prog, tb, snap_reader_proc_p⟩) tb_ok Tryz.func64 rfl (Eq.mpr (snap_reader_proc_eq r Q h) hv)
end Lf

set_option maxRecDepth 100000
namespace Lf
open Go Go.Proofs
theorem firebreakref02_SameLabels_eq (a : Sl) (b : Sl) (Q : (Bool → (Hp → Prop))) (h : Hp) : funW ⟨Tryz.prog, tb, firebreakref02_SameLabels_p⟩ Tryz.f69 firebreakref02_SameLabels_a [(shSl).enc a, (shSl).enc b] (Q) h = firebreakref02_SameLabels_w Tryz.prog a b Q h := by kernel_rfl
theorem firebreakref02_SameLabels_call {a : Sl} {b : Sl} {Q : (Bool → (Hp → Prop))} {h : Hp} (hv : firebreakref02_SameLabels_w Tryz.prog a b Q h) : CallT Tryz.prog n_firebreakref02_SameLabels [(shSl).enc a, (shSl).enc b] (shBool) Q h :=
 show CallT Tryz.prog n_firebreakref02_SameLabels [(shSl).enc a, (shSl).enc b] (shRes tb [4]) (Q) h from fun_sound (C := ⟨Tryz.prog, tb, firebreakref02_SameLabels_p⟩) tb_ok Tryz.func69 rfl (Eq.mpr (firebreakref02_SameLabels_eq a b Q h) hv)
theorem firebreakref02_SameInts_eq (a : Sl) (b : Sl) (Q : (Bool → (Hp → Prop))) (h : Hp) : funW ⟨Tryz.prog, tb, firebreakref02_SameInts_p⟩ Tryz.f70 firebreakref02_SameInts_a [(shSl).enc a, (shSl).enc b] (Q) h = firebreakref02_SameInts_w Tryz.prog a b Q h := by kernel_rfl
theorem firebreakref02_SameInts_call {a : Sl} {b : Sl} {Q : (Bool → (Hp → Prop))} {h : Hp} (hv : firebreakref02_SameInts_w Tryz.prog a b Q h) : CallT Tryz.prog n_firebreakref02_SameInts [(shSl).enc a, (shSl).enc b] (shBool) Q h :=
 show CallT Tryz.prog n_firebreakref02_SameInts [(shSl).enc a, (shSl).enc b] (shRes tb [4]) (Q) h from fun_sound (C := ⟨Tryz.prog, tb, firebreakref02_SameInts_p⟩) tb_ok Tryz.func70 rfl (Eq.mpr (firebreakref02_SameInts_eq a b Q h) hv)
theorem firebreakref18_ints_eq (a : Sl) (b : Sl) (Q : (Bool → (Hp → Prop))) (h : Hp) : funW ⟨Tryz.prog, tb, firebreakref18_ints_p⟩ Tryz.f71 firebreakref18_ints_a [(shSl).enc a, (shSl).enc b] (Q) h = firebreakref18_ints_w Tryz.prog a b Q h := by kernel_rfl
theorem firebreakref18_ints_call {a : Sl} {b : Sl} {Q : (Bool → (Hp → Prop))} {h : Hp} (hv : firebreakref18_ints_w Tryz.prog a b Q h) : CallT Tryz.prog n_firebreakref18_ints [(shSl).enc a, (shSl).enc b] (shBool) Q h :=
 show CallT Tryz.prog n_firebreakref18_ints [(shSl).enc a, (shSl).enc b] (shRes tb [4]) (Q) h from fun_sound (C := ⟨Tryz.prog, tb, firebreakref18_ints_p⟩) tb_ok Tryz.func71 rfl (Eq.mpr (firebreakref18_ints_eq a b Q h) hv)
theorem firebreakref18_sameLane_eq (a : S_api_Lane) (b : S_api_Lane) (Q : (Bool → (Hp → Prop))) (h : Hp) : funW ⟨Tryz.prog, tb, firebreakref18_sameLane_p⟩ Tryz.f72 firebreakref18_sameLane_a [(sh_api_Lane).enc a, (sh_api_Lane).enc b] (Q) h = firebreakref18_sameLane_w Tryz.prog a b Q h := by kernel_rfl
theorem firebreakref18_sameLane_call {a : S_api_Lane} {b : S_api_Lane} {Q : (Bool → (Hp → Prop))} {h : Hp} (hv : firebreakref18_sameLane_w Tryz.prog a b Q h) : CallT Tryz.prog n_firebreakref18_sameLane [(sh_api_Lane).enc a, (sh_api_Lane).enc b] (shBool) Q h :=
 show CallT Tryz.prog n_firebreakref18_sameLane [(sh_api_Lane).enc a, (sh_api_Lane).enc b] (shRes tb [4]) (Q) h from fun_sound (C := ⟨Tryz.prog, tb, firebreakref18_sameLane_p⟩) tb_ok Tryz.func72 rfl (Eq.mpr (firebreakref18_sameLane_eq a b Q h) hv)
theorem table_May_eq (l : Sl) (Q : (Int → (Int → (Hp → Prop)))) (h : Hp) : funW ⟨Tryz.prog, tb, table_May_p⟩ Tryz.f73 table_May_a [(shSl).enc l] (fun r => Q r.1 r.2) h = table_May_w Tryz.prog l Q h := by kernel_rfl
theorem table_May_call {l : Sl} {Q : (Int → (Int → (Hp → Prop)))} {h : Hp} (hv : table_May_w Tryz.prog l Q h) : Call2 Tryz.prog n_table_May [(shSl).enc l] (shInt .i64) (shInt .i64) Q h :=
 show CallT Tryz.prog n_table_May [(shSl).enc l] (shRes tb [34, 3]) (fun r => Q r.1 r.2) h from fun_sound (C := ⟨Tryz.prog, tb, table_May_p⟩) tb_ok Tryz.func73 rfl (Eq.mpr (table_May_eq l Q h) hv)
theorem conf_many_eq (n : Int) (most : Int) (Q : (Int → (Hp → Prop))) (h : Hp) : funW ⟨Tryz.prog, tb, conf_many_p⟩ Tryz.f74 conf_many_a [(shInt .i64).enc n, (shInt .i64).enc most] (Q) h = conf_many_w Tryz.prog n most Q h := by kernel_rfl
theorem conf_many_call {n : Int} {most : Int} {Q : (Int → (Hp → Prop))} {h : Hp} (hv : conf_many_w Tryz.prog n most Q h) : CallT Tryz.prog n_conf_many [(shInt .i64).enc n, (shInt .i64).enc most] (shInt .i64) Q h :=
 show CallT Tryz.prog n_conf_many [(shInt .i64).enc n, (shInt .i64).enc most] (shRes tb [34]) (Q) h from fun_sound (C := ⟨Tryz.prog, tb, conf_many_p⟩) tb_ok Tryz.func74 rfl (Eq.mpr (conf_many_eq n most Q h) hv)
theorem slots_New_eq (table : Sl) (parts : Int) (Q : (Option Addr → (Int → (Int → (Hp → Prop))))) (h : Hp) : funW ⟨Tryz.prog, tb, slots_New_p⟩ Tryz.f75 slots_New_a [(shSl).enc table, (shInt .i64).enc parts] (fun r => Q r.1 r.2.1 r.2.2) h = slots_New_w Tryz.prog table parts Q h := by kernel_rfl
theorem slots_New_call {table : Sl} {parts : Int} {Q : (Option Addr → (Int → (Int → (Hp → Prop))))} {h : Hp} (hv : slots_New_w Tryz.prog table parts Q h) : Call3 Tryz.prog n_slots_New [(shSl).enc table, (shInt .i64).enc parts] (shPtr) (shInt .i64) (shInt .i64) Q h :=
 show CallT Tryz.prog n_slots_New [(shSl).enc table, (shInt .i64).enc parts] (shRes tb [138, 34, 3]) (fun r => Q r.1 r.2.1 r.2.2) h from fun_sound (C := ⟨Tryz.prog, tb, slots_New_p⟩) tb_ok Tryz.func75 rfl (Eq.mpr (slots_New_eq table parts Q h) hv)
theorem conf_ranged_eq (part : Int) (n : Int) (Q : (Int → (Hp → Prop))) (h : Hp) : funW ⟨Tryz.prog, tb, conf_ranged_p⟩ Tryz.f76 conf_ranged_a [(shInt .i64).enc part, (shInt .i64).enc n] (Q) h = conf_ranged_w Tryz.prog part n Q h := by kernel_rfl
theorem conf_ranged_call {part : Int} {n : Int} {Q : (Int → (Hp → Prop))} {h : Hp} (hv : conf_ranged_w Tryz.prog part n Q h) : CallT Tryz.prog n_conf_ranged [(shInt .i64).enc part, (shInt .i64).enc n] (shInt .i64) Q h :=
 show CallT Tryz.prog n_conf_ranged [(shInt .i64).enc part, (shInt .i64).enc n] (shRes tb [34]) (Q) h from fun_sound (C := ⟨Tryz.prog, tb, conf_ranged_p⟩) tb_ok Tryz.func76 rfl (Eq.mpr (conf_ranged_eq part n Q h) hv)
theorem conf_within_eq (n : Int) (from_ : Int) (to : Int) (Q : (Bool → (Hp → Prop))) (h : Hp) : funW ⟨Tryz.prog, tb, conf_within_p⟩ Tryz.f77 conf_within_a [(shInt .i64).enc n, (shInt .i64).enc from_, (shInt .i64).enc to] (Q) h = conf_within_w Tryz.prog n from_ to Q h := by kernel_rfl
theorem conf_within_call {n : Int} {from_ : Int} {to : Int} {Q : (Bool → (Hp → Prop))} {h : Hp} (hv : conf_within_w Tryz.prog n from_ to Q h) : CallT Tryz.prog n_conf_within [(shInt .i64).enc n, (shInt .i64).enc from_, (shInt .i64).enc to] (shBool) Q h :=
 show CallT Tryz.prog n_conf_within [(shInt .i64).enc n, (shInt .i64).enc from_, (shInt .i64).enc to] (shRes tb [4]) (Q) h from fun_sound (C := ⟨Tryz.prog, tb, conf_within_p⟩) tb_ok Tryz.func77 rfl (Eq.mpr (conf_within_eq n from_ to Q h) hv)
theorem code_May_eq (l : Sl) (locks : Int) (Q : (Int → (Int → (Hp → Prop)))) (h : Hp) : funW ⟨Tryz.prog, tb, code_May_p⟩ Tryz.f78 code_May_a [(shSl).enc l, (shInt .i64).enc locks] (fun r => Q r.1 r.2) h = code_May_w Tryz.prog l locks Q h := by kernel_rfl
theorem code_May_call {l : Sl} {locks : Int} {Q : (Int → (Int → (Hp → Prop)))} {h : Hp} (hv : code_May_w Tryz.prog l locks Q h) : Call2 Tryz.prog n_code_May [(shSl).enc l, (shInt .i64).enc locks] (shInt .i64) (shInt .i64) Q h :=
 show CallT Tryz.prog n_code_May [(shSl).enc l, (shInt .i64).enc locks] (shRes tb [34, 3]) (fun r => Q r.1 r.2) h from fun_sound (C := ⟨Tryz.prog, tb, code_May_p⟩) tb_ok Tryz.func78 rfl (Eq.mpr (code_May_eq l locks Q h) hv)
theorem slices_Clone_uint64_uint64_eq (s : Sl) (Q : (Sl → (Hp → Prop))) (h : Hp) : funW ⟨Tryz.prog, tb, slices_Clone_uint64_uint64_p⟩ Tryz.f79 slices_Clone_uint64_uint64_a [(shSl).enc s] (Q) h = slices_Clone_uint64_uint64_w Tryz.prog s Q h := by kernel_rfl
theorem slices_Clone_uint64_uint64_call {s : Sl} {Q : (Sl → (Hp → Prop))} {h : Hp} (hv : slices_Clone_uint64_uint64_w Tryz.prog s Q h) : CallT Tryz.prog n_slices_Clone_uint64_uint64 [(shSl).enc s] (shSl) Q h :=
 show CallT Tryz.prog n_slices_Clone_uint64_uint64 [(shSl).enc s] (shRes tb [22]) (Q) h from fun_sound (C := ⟨Tryz.prog, tb, slices_Clone_uint64_uint64_p⟩) tb_ok Tryz.func79 rfl (Eq.mpr (slices_Clone_uint64_uint64_eq s Q h) hv)
theorem machine_asked_many_eq (a : S_machine_asked) (i : Int) (Q : (Int → (Hp → Prop))) (h : Hp) : funW ⟨Tryz.prog, tb, machine_asked_many_p⟩ Tryz.f80 machine_asked_many_a [(sh_machine_asked).enc a, (shInt .i64).enc i] (Q) h = machine_asked_many_w Tryz.prog a i Q h := by kernel_rfl
theorem machine_asked_many_call {a : S_machine_asked} {i : Int} {Q : (Int → (Hp → Prop))} {h : Hp} (hv : machine_asked_many_w Tryz.prog a i Q h) : CallT Tryz.prog n_machine_asked_many [(sh_machine_asked).enc a, (shInt .i64).enc i] (shInt .i64) Q h :=
 show CallT Tryz.prog n_machine_asked_many [(sh_machine_asked).enc a, (shInt .i64).enc i] (shRes tb [3]) (Q) h from fun_sound (C := ⟨Tryz.prog, tb, machine_asked_many_p⟩) tb_ok Tryz.func80 rfl (Eq.mpr (machine_asked_many_eq a i Q h) hv)
theorem machine_asked_of_eq (a : S_machine_asked) (p : Int) (i : Int) (Q : (Bool → (Hp → Prop))) (h : Hp) : funW ⟨Tryz.prog, tb, machine_asked_of_p⟩ Tryz.f81 machine_asked_of_a [(sh_machine_asked).enc a, (shInt .i64).enc p, (shInt .i64).enc i] (Q) h = machine_asked_of_w Tryz.prog a p i Q h := by kernel_rfl
theorem machine_asked_of_call {a : S_machine_asked} {p : Int} {i : Int} {Q : (Bool → (Hp → Prop))} {h : Hp} (hv : machine_asked_of_w Tryz.prog a p i Q h) : CallT Tryz.prog n_machine_asked_of [(sh_machine_asked).enc a, (shInt .i64).enc p, (shInt .i64).enc i] (shBool) Q h :=
 show CallT Tryz.prog n_machine_asked_of [(sh_machine_asked).enc a, (shInt .i64).enc p, (shInt .i64).enc i] (shRes tb [4]) (Q) h from fun_sound (C := ⟨Tryz.prog, tb, machine_asked_of_p⟩) tb_ok Tryz.func81 rfl (Eq.mpr (machine_asked_of_eq a p i Q h) hv)
theorem machine_count_eq (n : Int) (Q : (Bool → (Hp → Prop))) (h : Hp) : funW ⟨Tryz.prog, tb, machine_count_p⟩ Tryz.f82 machine_count_a [(shInt .i64).enc n] (Q) h = machine_count_w Tryz.prog n Q h := by kernel_rfl
theorem machine_count_call {n : Int} {Q : (Bool → (Hp → Prop))} {h : Hp} (hv : machine_count_w Tryz.prog n Q h) : CallT Tryz.prog n_machine_count [(shInt .i64).enc n] (shBool) Q h :=
 show CallT Tryz.prog n_machine_count [(shInt .i64).enc n] (shRes tb [4]) (Q) h from fun_sound (C := ⟨Tryz.prog, tb, machine_count_p⟩) tb_ok Tryz.func82 rfl (Eq.mpr (machine_count_eq n Q h) hv)
theorem slices_ContainsFunc_int_int_eq (s : Sl) (f : FnV) (Q : (Bool → (Hp → Prop))) (h : Hp) : funW ⟨Tryz.prog, tb, slices_ContainsFunc_int_int_p⟩ Tryz.f83 slices_ContainsFunc_int_int_a [(shSl).enc s, (shFn).enc f] (Q) h = slices_ContainsFunc_int_int_w Tryz.prog s f Q h := by kernel_rfl
theorem slices_ContainsFunc_int_int_call {s : Sl} {f : FnV} {Q : (Bool → (Hp → Prop))} {h : Hp} (hv : slices_ContainsFunc_int_int_w Tryz.prog s f Q h) : CallT Tryz.prog n_slices_ContainsFunc_int_int [(shSl).enc s, (shFn).enc f] (shBool) Q h :=
 show CallT Tryz.prog n_slices_ContainsFunc_int_int [(shSl).enc s, (shFn).enc f] (shRes tb [4]) (Q) h from fun_sound (C := ⟨Tryz.prog, tb, slices_ContainsFunc_int_int_p⟩) tb_ok Tryz.func83 rfl (Eq.mpr (slices_ContainsFunc_int_int_eq s f Q h) hv)
theorem machine_asked_part_1_eq (p : Int) (a1 : Addr) (a2 : Addr) (Q : (Bool → (Hp → Prop))) (h : Hp) : funW ⟨Tryz.prog, tb, machine_asked_part_1_p⟩ Tryz.f84 machine_asked_part_1_a [(shInt .i64).enc p, .pointer (some a1), .pointer (some a2)] (Q) h = machine_asked_part_1_w Tryz.prog p a1 a2 Q h := by kernel_rfl
theorem machine_asked_part_1_call {p : Int} {a1 : Addr} {a2 : Addr} {Q : (Bool → (Hp → Prop))} {h : Hp} (hv : machine_asked_part_1_w Tryz.prog p a1 a2 Q h) : CallT Tryz.prog n_machine_asked_part_1 [(shInt .i64).enc p, .pointer (some a1), .pointer (some a2)] (shBool) Q h :=
 show CallT Tryz.prog n_machine_asked_part_1 [(shInt .i64).enc p, .pointer (some a1), .pointer (some a2)] (shRes tb [4]) (Q) h from fun_sound (C := ⟨Tryz.prog, tb, machine_asked_part_1_p⟩) tb_ok Tryz.func84 rfl (Eq.mpr (machine_asked_part_1_eq p a1 a2 Q h) hv)
theorem machine_lives_eq (state : Int) (Q : (Bool → (Hp → Prop))) (h : Hp) : funW ⟨Tryz.prog, tb, machine_lives_p⟩ Tryz.f85 machine_lives_a [(shInt .i64).enc state] (Q) h = machine_lives_w Tryz.prog state Q h := by kernel_rfl
theorem machine_lives_call {state : Int} {Q : (Bool → (Hp → Prop))} {h : Hp} (hv : machine_lives_w Tryz.prog state Q h) : CallT Tryz.prog n_machine_lives [(shInt .i64).enc state] (shBool) Q h :=
 show CallT Tryz.prog n_machine_lives [(shInt .i64).enc state] (shRes tb [4]) (Q) h from fun_sound (C := ⟨Tryz.prog, tb, machine_lives_p⟩) tb_ok Tryz.func85 rfl (Eq.mpr (machine_lives_eq state Q h) hv)
theorem table_Table_Flows_eq (t : Option Addr) (i : Int) (j : Int) (Q : (Bool → (Hp → Prop))) (h : Hp) : funW ⟨Tryz.prog, tb, table_Table_Flows_p⟩ Tryz.f86 table_Table_Flows_a [(shPtr).enc t, (shInt .i64).enc i, (shInt .i64).enc j] (Q) h = table_Table_Flows_w Tryz.prog t i j Q h := by kernel_rfl
theorem table_Table_Flows_call {t : Option Addr} {i : Int} {j : Int} {Q : (Bool → (Hp → Prop))} {h : Hp} (hv : table_Table_Flows_w Tryz.prog t i j Q h) : CallT Tryz.prog n_table_Table_Flows [(shPtr).enc t, (shInt .i64).enc i, (shInt .i64).enc j] (shBool) Q h :=
 show CallT Tryz.prog n_table_Table_Flows [(shPtr).enc t, (shInt .i64).enc i, (shInt .i64).enc j] (shRes tb [4]) (Q) h from fun_sound (C := ⟨Tryz.prog, tb, table_Table_Flows_p⟩) tb_ok Tryz.func86 rfl (Eq.mpr (table_Table_Flows_eq t i j Q h) hv)
theorem machine_asked_op_eq (a : S_machine_asked) (p : Int) (Q : (Int → (Hp → Prop))) (h : Hp) : funW ⟨Tryz.prog, tb, machine_asked_op_p⟩ Tryz.f87 machine_asked_op_a [(sh_machine_asked).enc a, (shInt .i64).enc p] (Q) h = machine_asked_op_w Tryz.prog a p Q h := by kernel_rfl
theorem machine_asked_op_call {a : S_machine_asked} {p : Int} {Q : (Int → (Hp → Prop))} {h : Hp} (hv : machine_asked_op_w Tryz.prog a p Q h) : CallT Tryz.prog n_machine_asked_op [(sh_machine_asked).enc a, (shInt .i64).enc p] (shInt .i64) Q h :=
 show CallT Tryz.prog n_machine_asked_op [(sh_machine_asked).enc a, (shInt .i64).enc p] (shRes tb [3]) (Q) h from fun_sound (C := ⟨Tryz.prog, tb, machine_asked_op_p⟩) tb_ok Tryz.func87 rfl (Eq.mpr (machine_asked_op_eq a p Q h) hv)
theorem machine_asked_ins_eq (a : S_machine_asked) (p : Int) (Q : (S_api_Ins → (Hp → Prop))) (h : Hp) : funW ⟨Tryz.prog, tb, machine_asked_ins_p⟩ Tryz.f88 machine_asked_ins_a [(sh_machine_asked).enc a, (shInt .i64).enc p] (Q) h = machine_asked_ins_w Tryz.prog a p Q h := by kernel_rfl
theorem machine_asked_ins_call {a : S_machine_asked} {p : Int} {Q : (S_api_Ins → (Hp → Prop))} {h : Hp} (hv : machine_asked_ins_w Tryz.prog a p Q h) : CallT Tryz.prog n_machine_asked_ins [(sh_machine_asked).enc a, (shInt .i64).enc p] (sh_api_Ins) Q h :=
 show CallT Tryz.prog n_machine_asked_ins [(sh_machine_asked).enc a, (shInt .i64).enc p] (shRes tb [51]) (Q) h from fun_sound (C := ⟨Tryz.prog, tb, machine_asked_ins_p⟩) tb_ok Tryz.func88 rfl (Eq.mpr (machine_asked_ins_eq a p Q h) hv)
theorem machine_asked_sends_eq (a : S_machine_asked) (w : S_api_Waiter) (r : Int) (Q : (Bool → (Hp → Prop))) (h : Hp) : funW ⟨Tryz.prog, tb, machine_asked_sends_p⟩ Tryz.f89 machine_asked_sends_a [(sh_machine_asked).enc a, (sh_api_Waiter).enc w, (shInt .i64).enc r] (Q) h = machine_asked_sends_w Tryz.prog a w r Q h := by kernel_rfl
theorem machine_asked_sends_call {a : S_machine_asked} {w : S_api_Waiter} {r : Int} {Q : (Bool → (Hp → Prop))} {h : Hp} (hv : machine_asked_sends_w Tryz.prog a w r Q h) : CallT Tryz.prog n_machine_asked_sends [(sh_machine_asked).enc a, (sh_api_Waiter).enc w, (shInt .i64).enc r] (shBool) Q h :=
 show CallT Tryz.prog n_machine_asked_sends [(sh_machine_asked).enc a, (sh_api_Waiter).enc w, (shInt .i64).enc r] (shRes tb [4]) (Q) h from fun_sound (C := ⟨Tryz.prog, tb, machine_asked_sends_p⟩) tb_ok Tryz.func89 rfl (Eq.mpr (machine_asked_sends_eq a w r Q h) hv)
theorem firebreakref02_May_eq (l : Sl) (Q : (Int → (Int → (Hp → Prop)))) (h : Hp) : funW ⟨Tryz.prog, tb, firebreakref02_May_p⟩ Tryz.f90 firebreakref02_May_a [(shSl).enc l] (fun r => Q r.1 r.2) h = firebreakref02_May_w Tryz.prog l Q h := by kernel_rfl
theorem firebreakref02_May_call {l : Sl} {Q : (Int → (Int → (Hp → Prop)))} {h : Hp} (hv : firebreakref02_May_w Tryz.prog l Q h) : Call2 Tryz.prog n_firebreakref02_May [(shSl).enc l] (shInt .i64) (shInt .i64) Q h :=
 show CallT Tryz.prog n_firebreakref02_May [(shSl).enc l] (shRes tb [34, 3]) (fun r => Q r.1 r.2) h from fun_sound (C := ⟨Tryz.prog, tb, firebreakref02_May_p⟩) tb_ok Tryz.func90 rfl (Eq.mpr (firebreakref02_May_eq l Q h) hv)
end Lf

set_option maxRecDepth 100000
namespace Lf
open Go Go.Proofs
theorem firebreakref14_tables_eq (l : Sl) (parts : Int) (Q : (Int → (Hp → Prop))) (h : Hp) : funW ⟨Tryz.prog, tb, firebreakref14_tables_p⟩ Tryz.f91 firebreakref14_tables_a [(shSl).enc l, (shInt .i64).enc parts] (Q) h = firebreakref14_tables_w Tryz.prog l parts Q h := by kernel_rfl
theorem firebreakref14_tables_call {l : Sl} {parts : Int} {Q : (Int → (Hp → Prop))} {h : Hp} (hv : firebreakref14_tables_w Tryz.prog l parts Q h) : CallT Tryz.prog n_firebreakref14_tables [(shSl).enc l, (shInt .i64).enc parts] (shInt .i64) Q h :=
 show CallT Tryz.prog n_firebreakref14_tables [(shSl).enc l, (shInt .i64).enc parts] (shRes tb [34]) (Q) h from fun_sound (C := ⟨Tryz.prog, tb, firebreakref14_tables_p⟩) tb_ok Tryz.func91 rfl (Eq.mpr (firebreakref14_tables_eq l parts Q h) hv)
theorem firebreakref14_within_eq (n : Int) (least : Int) (most : Int) (Q : (Bool → (Hp → Prop))) (h : Hp) : funW ⟨Tryz.prog, tb, firebreakref14_within_p⟩ Tryz.f92 firebreakref14_within_a [(shInt .i64).enc n, (shInt .i64).enc least, (shInt .i64).enc most] (Q) h = firebreakref14_within_w Tryz.prog n least most Q h := by kernel_rfl
theorem firebreakref14_within_call {n : Int} {least : Int} {most : Int} {Q : (Bool → (Hp → Prop))} {h : Hp} (hv : firebreakref14_within_w Tryz.prog n least most Q h) : CallT Tryz.prog n_firebreakref14_within [(shInt .i64).enc n, (shInt .i64).enc least, (shInt .i64).enc most] (shBool) Q h :=
 show CallT Tryz.prog n_firebreakref14_within [(shInt .i64).enc n, (shInt .i64).enc least, (shInt .i64).enc most] (shRes tb [4]) (Q) h from fun_sound (C := ⟨Tryz.prog, tb, firebreakref14_within_p⟩) tb_ok Tryz.func92 rfl (Eq.mpr (firebreakref14_within_eq n least most Q h) hv)
theorem firebreakref06_May_eq (l : Sl) (locks : Int) (Q : (Int → (Int → (Hp → Prop)))) (h : Hp) : funW ⟨Tryz.prog, tb, firebreakref06_May_p⟩ Tryz.f93 firebreakref06_May_a [(shSl).enc l, (shInt .i64).enc locks] (fun r => Q r.1 r.2) h = firebreakref06_May_w Tryz.prog l locks Q h := by kernel_rfl
theorem firebreakref06_May_call {l : Sl} {locks : Int} {Q : (Int → (Int → (Hp → Prop)))} {h : Hp} (hv : firebreakref06_May_w Tryz.prog l locks Q h) : Call2 Tryz.prog n_firebreakref06_May [(shSl).enc l, (shInt .i64).enc locks] (shInt .i64) (shInt .i64) Q h :=
 show CallT Tryz.prog n_firebreakref06_May [(shSl).enc l, (shInt .i64).enc locks] (shRes tb [34, 3]) (fun r => Q r.1 r.2) h from fun_sound (C := ⟨Tryz.prog, tb, firebreakref06_May_p⟩) tb_ok Tryz.func93 rfl (Eq.mpr (firebreakref06_May_eq l locks Q h) hv)
theorem firebreakref15_within_eq (n : Int) (low : Int) (high : Int) (Q : (Bool → (Hp → Prop))) (h : Hp) : funW ⟨Tryz.prog, tb, firebreakref15_within_p⟩ Tryz.f94 firebreakref15_within_a [(shInt .i64).enc n, (shInt .i64).enc low, (shInt .i64).enc high] (Q) h = firebreakref15_within_w Tryz.prog n low high Q h := by kernel_rfl
theorem firebreakref15_within_call {n : Int} {low : Int} {high : Int} {Q : (Bool → (Hp → Prop))} {h : Hp} (hv : firebreakref15_within_w Tryz.prog n low high Q h) : CallT Tryz.prog n_firebreakref15_within [(shInt .i64).enc n, (shInt .i64).enc low, (shInt .i64).enc high] (shBool) Q h :=
 show CallT Tryz.prog n_firebreakref15_within [(shInt .i64).enc n, (shInt .i64).enc low, (shInt .i64).enc high] (shRes tb [4]) (Q) h from fun_sound (C := ⟨Tryz.prog, tb, firebreakref15_within_p⟩) tb_ok Tryz.func94 rfl (Eq.mpr (firebreakref15_within_eq n low high Q h) hv)
theorem firebreakref15_Machine_Of_eq (m : Option Addr) (i : Int) (Q : (Sl → (Hp → Prop))) (h : Hp) : funW ⟨Tryz.prog, tb, firebreakref15_Machine_Of_p⟩ Tryz.f95 firebreakref15_Machine_Of_a [(shPtr).enc m, (shInt .i64).enc i] (Q) h = firebreakref15_Machine_Of_w Tryz.prog m i Q h := by kernel_rfl
theorem firebreakref15_Machine_Of_call {m : Option Addr} {i : Int} {Q : (Sl → (Hp → Prop))} {h : Hp} (hv : firebreakref15_Machine_Of_w Tryz.prog m i Q h) : CallT Tryz.prog n_firebreakref15_Machine_Of [(shPtr).enc m, (shInt .i64).enc i] (shSl) Q h :=
 show CallT Tryz.prog n_firebreakref15_Machine_Of [(shPtr).enc m, (shInt .i64).enc i] (shRes tb [23]) (Q) h from fun_sound (C := ⟨Tryz.prog, tb, firebreakref15_Machine_Of_p⟩) tb_ok Tryz.func95 rfl (Eq.mpr (firebreakref15_Machine_Of_eq m i Q h) hv)
theorem firebreakref15_counted_eq (n : Int) (Q : (Bool → (Hp → Prop))) (h : Hp) : funW ⟨Tryz.prog, tb, firebreakref15_counted_p⟩ Tryz.f96 firebreakref15_counted_a [(shInt .i64).enc n] (Q) h = firebreakref15_counted_w Tryz.prog n Q h := by kernel_rfl
theorem firebreakref15_counted_call {n : Int} {Q : (Bool → (Hp → Prop))} {h : Hp} (hv : firebreakref15_counted_w Tryz.prog n Q h) : CallT Tryz.prog n_firebreakref15_counted [(shInt .i64).enc n] (shBool) Q h :=
 show CallT Tryz.prog n_firebreakref15_counted [(shInt .i64).enc n] (shRes tb [4]) (Q) h from fun_sound (C := ⟨Tryz.prog, tb, firebreakref15_counted_p⟩) tb_ok Tryz.func96 rfl (Eq.mpr (firebreakref15_counted_eq n Q h) hv)
theorem firebreakref15_Machine_of_eq (m : Option Addr) (p : Int) (i : Int) (Q : (Bool → (Hp → Prop))) (h : Hp) : funW ⟨Tryz.prog, tb, firebreakref15_Machine_of_p⟩ Tryz.f97 firebreakref15_Machine_of_a [(shPtr).enc m, (shInt .i64).enc p, (shInt .i64).enc i] (Q) h = firebreakref15_Machine_of_w Tryz.prog m p i Q h := by kernel_rfl
theorem firebreakref15_Machine_of_call {m : Option Addr} {p : Int} {i : Int} {Q : (Bool → (Hp → Prop))} {h : Hp} (hv : firebreakref15_Machine_of_w Tryz.prog m p i Q h) : CallT Tryz.prog n_firebreakref15_Machine_of [(shPtr).enc m, (shInt .i64).enc p, (shInt .i64).enc i] (shBool) Q h :=
 show CallT Tryz.prog n_firebreakref15_Machine_of [(shPtr).enc m, (shInt .i64).enc p, (shInt .i64).enc i] (shRes tb [4]) (Q) h from fun_sound (C := ⟨Tryz.prog, tb, firebreakref15_Machine_of_p⟩) tb_ok Tryz.func97 rfl (Eq.mpr (firebreakref15_Machine_of_eq m p i Q h) hv)
theorem firebreakref15_Machine_flows_eq (m : Option Addr) (i : Int) (j : Int) (Q : (Bool → (Hp → Prop))) (h : Hp) : funW ⟨Tryz.prog, tb, firebreakref15_Machine_flows_p⟩ Tryz.f98 firebreakref15_Machine_flows_a [(shPtr).enc m, (shInt .i64).enc i, (shInt .i64).enc j] (Q) h = firebreakref15_Machine_flows_w Tryz.prog m i j Q h := by kernel_rfl
theorem firebreakref15_Machine_flows_call {m : Option Addr} {i : Int} {j : Int} {Q : (Bool → (Hp → Prop))} {h : Hp} (hv : firebreakref15_Machine_flows_w Tryz.prog m i j Q h) : CallT Tryz.prog n_firebreakref15_Machine_flows [(shPtr).enc m, (shInt .i64).enc i, (shInt .i64).enc j] (shBool) Q h :=
 show CallT Tryz.prog n_firebreakref15_Machine_flows [(shPtr).enc m, (shInt .i64).enc i, (shInt .i64).enc j] (shRes tb [4]) (Q) h from fun_sound (C := ⟨Tryz.prog, tb, firebreakref15_Machine_flows_p⟩) tb_ok Tryz.func98 rfl (Eq.mpr (firebreakref15_Machine_flows_eq m i j Q h) hv)
theorem firebreakref13_At_eq (c : S_firebreakref13_Core) (code : Sl) (Q : (S_api_Ins → (Bool → (Hp → Prop)))) (h : Hp) : funW ⟨Tryz.prog, tb, firebreakref13_At_p⟩ Tryz.f99 firebreakref13_At_a [(sh_firebreakref13_Core).enc c, (shSl).enc code] (fun r => Q r.1 r.2) h = firebreakref13_At_w Tryz.prog c code Q h := by kernel_rfl
theorem firebreakref13_At_call {c : S_firebreakref13_Core} {code : Sl} {Q : (S_api_Ins → (Bool → (Hp → Prop)))} {h : Hp} (hv : firebreakref13_At_w Tryz.prog c code Q h) : Call2 Tryz.prog n_firebreakref13_At [(sh_firebreakref13_Core).enc c, (shSl).enc code] (sh_api_Ins) (shBool) Q h :=
 show CallT Tryz.prog n_firebreakref13_At [(sh_firebreakref13_Core).enc c, (shSl).enc code] (shRes tb [51, 4]) (fun r => Q r.1 r.2) h from fun_sound (C := ⟨Tryz.prog, tb, firebreakref13_At_p⟩) tb_ok Tryz.func99 rfl (Eq.mpr (firebreakref13_At_eq c code Q h) hv)
theorem firebreakref15_Machine_core_eq (m : Option Addr) (p : Int) (Q : (S_firebreakref13_Core → (Hp → Prop))) (h : Hp) : funW ⟨Tryz.prog, tb, firebreakref15_Machine_core_p⟩ Tryz.f100 firebreakref15_Machine_core_a [(shPtr).enc m, (shInt .i64).enc p] (Q) h = firebreakref15_Machine_core_w Tryz.prog m p Q h := by kernel_rfl
theorem firebreakref15_Machine_core_call {m : Option Addr} {p : Int} {Q : (S_firebreakref13_Core → (Hp → Prop))} {h : Hp} (hv : firebreakref15_Machine_core_w Tryz.prog m p Q h) : CallT Tryz.prog n_firebreakref15_Machine_core [(shPtr).enc m, (shInt .i64).enc p] (sh_firebreakref13_Core) Q h :=
 show CallT Tryz.prog n_firebreakref15_Machine_core [(shPtr).enc m, (shInt .i64).enc p] (shRes tb [159]) (Q) h from fun_sound (C := ⟨Tryz.prog, tb, firebreakref15_Machine_core_p⟩) tb_ok Tryz.func100 rfl (Eq.mpr (firebreakref15_Machine_core_eq m p Q h) hv)
theorem snap_source_small_eq (r : Option Addr) (many : Int) (Q : (Int → (Hp → Prop))) (h : Hp) : funW ⟨Tryz.prog, tb, snap_source_small_p⟩ Tryz.f101 snap_source_small_a [(shPtr).enc r, (shInt .i64).enc many] (Q) h = snap_source_small_w Tryz.prog r many Q h := by kernel_rfl
theorem snap_source_small_call {r : Option Addr} {many : Int} {Q : (Int → (Hp → Prop))} {h : Hp} (hv : snap_source_small_w Tryz.prog r many Q h) : CallT Tryz.prog n_snap_source_small [(shPtr).enc r, (shInt .i64).enc many] (shInt .i64) Q h :=
 show CallT Tryz.prog n_snap_source_small [(shPtr).enc r, (shInt .i64).enc many] (shRes tb [3]) (Q) h from fun_sound (C := ⟨Tryz.prog, tb, snap_source_small_p⟩) tb_ok Tryz.func101 rfl (Eq.mpr (snap_source_small_eq r many Q h) hv)
theorem conf_Decode_eq (b : Sl) (Q : (S_api_Config → (Int → (Int → (Hp → Prop))))) (h : Hp) : funW ⟨Tryz.prog, tb, conf_Decode_p⟩ Tryz.f102 conf_Decode_a [(shSl).enc b] (fun r => Q r.1 r.2.1 r.2.2) h = conf_Decode_w Tryz.prog b Q h := by kernel_rfl
theorem conf_Decode_call {b : Sl} {Q : (S_api_Config → (Int → (Int → (Hp → Prop))))} {h : Hp} (hv : conf_Decode_w Tryz.prog b Q h) : Call3 Tryz.prog n_conf_Decode [(shSl).enc b] (sh_api_Config) (shInt .i64) (shInt .i64) Q h :=
 show CallT Tryz.prog n_conf_Decode [(shSl).enc b] (shRes tb [26, 34, 3]) (fun r => Q r.1 r.2.1 r.2.2) h from fun_sound (C := ⟨Tryz.prog, tb, conf_Decode_p⟩) tb_ok Tryz.func102 rfl (Eq.mpr (conf_Decode_eq b Q h) hv)
theorem snap_source_many_eq (r : Option Addr) (bytes : Int) (most : Int) (Q : (Int → (Hp → Prop))) (h : Hp) : funW ⟨Tryz.prog, tb, snap_source_many_p⟩ Tryz.f103 snap_source_many_a [(shPtr).enc r, (shInt .i64).enc bytes, (shInt .i64).enc most] (Q) h = snap_source_many_w Tryz.prog r bytes most Q h := by kernel_rfl
theorem snap_source_many_call {r : Option Addr} {bytes : Int} {most : Int} {Q : (Int → (Hp → Prop))} {h : Hp} (hv : snap_source_many_w Tryz.prog r bytes most Q h) : CallT Tryz.prog n_snap_source_many [(shPtr).enc r, (shInt .i64).enc bytes, (shInt .i64).enc most] (shInt .i64) Q h :=
 show CallT Tryz.prog n_snap_source_many [(shPtr).enc r, (shInt .i64).enc bytes, (shInt .i64).enc most] (shRes tb [3]) (Q) h from fun_sound (C := ⟨Tryz.prog, tb, snap_source_many_p⟩) tb_ok Tryz.func103 rfl (Eq.mpr (snap_source_many_eq r bytes most Q h) hv)
theorem snap_reader_lane_eq (r : Option Addr) (Q : (S_api_Lane → (Hp → Prop))) (h : Hp) : funW ⟨Tryz.prog, tb, snap_reader_lane_p⟩ Tryz.f104 snap_reader_lane_a [(shPtr).enc r] (Q) h = snap_reader_lane_w Tryz.prog r Q h := by kernel_rfl
theorem snap_reader_lane_call {r : Option Addr} {Q : (S_api_Lane → (Hp → Prop))} {h : Hp} (hv : snap_reader_lane_w Tryz.prog r Q h) : CallT Tryz.prog n_snap_reader_lane [(shPtr).enc r] (sh_api_Lane) Q h :=
 show CallT Tryz.prog n_snap_reader_lane [(shPtr).enc r] (shRes tb [68]) (Q) h from fun_sound (C := ⟨Tryz.prog, tb, snap_reader_lane_p⟩) tb_ok Tryz.func104 rfl (Eq.mpr (snap_reader_lane_eq r Q h) hv)
theorem slices_IndexFunc_int_int_eq (s : Sl) (f : FnV) (Q : (Int → (Hp → Prop))) (h : Hp) : funW ⟨Tryz.prog, tb, slices_IndexFunc_int_int_p⟩ Tryz.f106 slices_IndexFunc_int_int_a [(shSl).enc s, (shFn).enc f] (Q) h = slices_IndexFunc_int_int_w Tryz.prog s f Q h := by kernel_rfl
theorem slices_IndexFunc_int_int_call {s : Sl} {f : FnV} {Q : (Int → (Hp → Prop))} {h : Hp} (hv : slices_IndexFunc_int_int_w Tryz.prog s f Q h) : CallT Tryz.prog n_slices_IndexFunc_int_int [(shSl).enc s, (shFn).enc f] (shInt .i64) Q h :=
 show CallT Tryz.prog n_slices_IndexFunc_int_int [(shSl).enc s, (shFn).enc f] (shRes tb [3]) (Q) h from fun_sound (C := ⟨Tryz.prog, tb, slices_IndexFunc_int_int_p⟩) tb_ok Tryz.func106 rfl (Eq.mpr (slices_IndexFunc_int_int_eq s f Q h) hv)
theorem slots_New_1_eq (p : Int) (a1 : Addr) (Q : (Bool → (Hp → Prop))) (h : Hp) : funW ⟨Tryz.prog, tb, slots_New_1_p⟩ Tryz.f107 slots_New_1_a [(shInt .i64).enc p, .pointer (some a1)] (Q) h = slots_New_1_w Tryz.prog p a1 Q h := by kernel_rfl
theorem slots_New_1_call {p : Int} {a1 : Addr} {Q : (Bool → (Hp → Prop))} {h : Hp} (hv : slots_New_1_w Tryz.prog p a1 Q h) : CallT Tryz.prog n_slots_New_1 [(shInt .i64).enc p, .pointer (some a1)] (shBool) Q h :=
 show CallT Tryz.prog n_slots_New_1 [(shInt .i64).enc p, .pointer (some a1)] (shRes tb [4]) (Q) h from fun_sound (C := ⟨Tryz.prog, tb, slots_New_1_p⟩) tb_ok Tryz.func107 rfl (Eq.mpr (slots_New_1_eq p a1 Q h) hv)
theorem slices_Clone_int_int_eq (s : Sl) (Q : (Sl → (Hp → Prop))) (h : Hp) : funW ⟨Tryz.prog, tb, slices_Clone_int_int_p⟩ Tryz.f108 slices_Clone_int_int_a [(shSl).enc s] (Q) h = slices_Clone_int_int_w Tryz.prog s Q h := by kernel_rfl
theorem slices_Clone_int_int_call {s : Sl} {Q : (Sl → (Hp → Prop))} {h : Hp} (hv : slices_Clone_int_int_w Tryz.prog s Q h) : CallT Tryz.prog n_slices_Clone_int_int [(shSl).enc s] (shSl) Q h :=
 show CallT Tryz.prog n_slices_Clone_int_int [(shSl).enc s] (shRes tb [23]) (Q) h from fun_sound (C := ⟨Tryz.prog, tb, slices_Clone_int_int_p⟩) tb_ok Tryz.func108 rfl (Eq.mpr (slices_Clone_int_int_eq s Q h) hv)
theorem code_Check_eq (x : S_api_Ins) (n : Int) (locks : Int) (Q : (Int → (Hp → Prop))) (h : Hp) : funW ⟨Tryz.prog, tb, code_Check_p⟩ Tryz.f109 code_Check_a [(sh_api_Ins).enc x, (shInt .i64).enc n, (shInt .i64).enc locks] (Q) h = code_Check_w Tryz.prog x n locks Q h := by kernel_rfl
theorem code_Check_call {x : S_api_Ins} {n : Int} {locks : Int} {Q : (Int → (Hp → Prop))} {h : Hp} (hv : code_Check_w Tryz.prog x n locks Q h) : CallT Tryz.prog n_code_Check [(sh_api_Ins).enc x, (shInt .i64).enc n, (shInt .i64).enc locks] (shInt .i64) Q h :=
 show CallT Tryz.prog n_code_Check [(sh_api_Ins).enc x, (shInt .i64).enc n, (shInt .i64).enc locks] (shRes tb [34]) (Q) h from fun_sound (C := ⟨Tryz.prog, tb, code_Check_p⟩) tb_ok Tryz.func109 rfl (Eq.mpr (code_Check_eq x n locks Q h) hv)
theorem table_Table_is_eq (t : Option Addr) (i : Int) (Q : (Bool → (Hp → Prop))) (h : Hp) : funW ⟨Tryz.prog, tb, table_Table_is_p⟩ Tryz.f110 table_Table_is_a [(shPtr).enc t, (shInt .i64).enc i] (Q) h = table_Table_is_w Tryz.prog t i Q h := by kernel_rfl
theorem table_Table_is_call {t : Option Addr} {i : Int} {Q : (Bool → (Hp → Prop))} {h : Hp} (hv : table_Table_is_w Tryz.prog t i Q h) : CallT Tryz.prog n_table_Table_is [(shPtr).enc t, (shInt .i64).enc i] (shBool) Q h :=
 show CallT Tryz.prog n_table_Table_is [(shPtr).enc t, (shInt .i64).enc i] (shRes tb [4]) (Q) h from fun_sound (C := ⟨Tryz.prog, tb, table_Table_is_p⟩) tb_ok Tryz.func110 rfl (Eq.mpr (table_Table_is_eq t i Q h) hv)
theorem label_Flows_eq (a : Int) (b : Int) (Q : (Bool → (Hp → Prop))) (h : Hp) : funW ⟨Tryz.prog, tb, label_Flows_p⟩ Tryz.f111 label_Flows_a [(shInt .u64).enc a, (shInt .u64).enc b] (Q) h = label_Flows_w Tryz.prog a b Q h := by kernel_rfl
theorem label_Flows_call {a : Int} {b : Int} {Q : (Bool → (Hp → Prop))} {h : Hp} (hv : label_Flows_w Tryz.prog a b Q h) : CallT Tryz.prog n_label_Flows [(shInt .u64).enc a, (shInt .u64).enc b] (shBool) Q h :=
 show CallT Tryz.prog n_label_Flows [(shInt .u64).enc a, (shInt .u64).enc b] (shRes tb [4]) (Q) h from fun_sound (C := ⟨Tryz.prog, tb, label_Flows_p⟩) tb_ok Tryz.func111 rfl (Eq.mpr (label_Flows_eq a b Q h) hv)
theorem firebreakref06_Check_eq (x : S_api_Ins) (n : Int) (locks : Int) (Q : (Int → (Hp → Prop))) (h : Hp) : funW ⟨Tryz.prog, tb, firebreakref06_Check_p⟩ Tryz.f112 firebreakref06_Check_a [(sh_api_Ins).enc x, (shInt .i64).enc n, (shInt .i64).enc locks] (Q) h = firebreakref06_Check_w Tryz.prog x n locks Q h := by kernel_rfl
theorem firebreakref06_Check_call {x : S_api_Ins} {n : Int} {locks : Int} {Q : (Int → (Hp → Prop))} {h : Hp} (hv : firebreakref06_Check_w Tryz.prog x n locks Q h) : CallT Tryz.prog n_firebreakref06_Check [(sh_api_Ins).enc x, (shInt .i64).enc n, (shInt .i64).enc locks] (shInt .i64) Q h :=
 show CallT Tryz.prog n_firebreakref06_Check [(sh_api_Ins).enc x, (shInt .i64).enc n, (shInt .i64).enc locks] (shRes tb [34]) (Q) h from fun_sound (C := ⟨Tryz.prog, tb, firebreakref06_Check_p⟩) tb_ok Tryz.func112 rfl (Eq.mpr (firebreakref06_Check_eq x n locks Q h) hv)
end Lf

set_option maxRecDepth 100000
namespace Lf
open Go Go.Proofs
theorem firebreakref15_Machine_lives_eq (m : Option Addr) (p : Int) (Q : (Bool → (Hp → Prop))) (h : Hp) : funW ⟨Tryz.prog, tb, firebreakref15_Machine_lives_p⟩ Tryz.f113 firebreakref15_Machine_lives_a [(shPtr).enc m, (shInt .i64).enc p] (Q) h = firebreakref15_Machine_lives_w Tryz.prog m p Q h := by kernel_rfl
theorem firebreakref15_Machine_lives_call {m : Option Addr} {p : Int} {Q : (Bool → (Hp → Prop))} {h : Hp} (hv : firebreakref15_Machine_lives_w Tryz.prog m p Q h) : CallT Tryz.prog n_firebreakref15_Machine_lives [(shPtr).enc m, (shInt .i64).enc p] (shBool) Q h :=
 show CallT Tryz.prog n_firebreakref15_Machine_lives [(shPtr).enc m, (shInt .i64).enc p] (shRes tb [4]) (Q) h from fun_sound (C := ⟨Tryz.prog, tb, firebreakref15_Machine_lives_p⟩) tb_ok Tryz.func113 rfl (Eq.mpr (firebreakref15_Machine_lives_eq m p Q h) hv)
theorem firebreakref01_Flows_eq (a : Int) (b : Int) (Q : (Bool → (Hp → Prop))) (h : Hp) : funW ⟨Tryz.prog, tb, firebreakref01_Flows_p⟩ Tryz.f114 firebreakref01_Flows_a [(shInt .u64).enc a, (shInt .u64).enc b] (Q) h = firebreakref01_Flows_w Tryz.prog a b Q h := by kernel_rfl
theorem firebreakref01_Flows_call {a : Int} {b : Int} {Q : (Bool → (Hp → Prop))} {h : Hp} (hv : firebreakref01_Flows_w Tryz.prog a b Q h) : CallT Tryz.prog n_firebreakref01_Flows [(shInt .u64).enc a, (shInt .u64).enc b] (shBool) Q h :=
 show CallT Tryz.prog n_firebreakref01_Flows [(shInt .u64).enc a, (shInt .u64).enc b] (shRes tb [4]) (Q) h from fun_sound (C := ⟨Tryz.prog, tb, firebreakref01_Flows_p⟩) tb_ok Tryz.func114 rfl (Eq.mpr (firebreakref01_Flows_eq a b Q h) hv)
theorem conf_reader_give_eq (r : Option Addr) (e : Int) (place : Int) (Q : (Hp → Prop)) (h : Hp) : funW ⟨Tryz.prog, tb, conf_reader_give_p⟩ Tryz.f115 conf_reader_give_a [(shPtr).enc r, (shInt .i64).enc e, (shInt .i64).enc place] (fun _ => Q) h = conf_reader_give_w Tryz.prog r e place Q h := by kernel_rfl
theorem conf_reader_give_call {r : Option Addr} {e : Int} {place : Int} {Q : (Hp → Prop)} {h : Hp} (hv : conf_reader_give_w Tryz.prog r e place Q h) : Call0 Tryz.prog n_conf_reader_give [(shPtr).enc r, (shInt .i64).enc e, (shInt .i64).enc place] (Q) h :=
 show CallT Tryz.prog n_conf_reader_give [(shPtr).enc r, (shInt .i64).enc e, (shInt .i64).enc place] (shRes tb []) (fun _ => Q) h from fun_sound (C := ⟨Tryz.prog, tb, conf_reader_give_p⟩) tb_ok Tryz.func115 rfl (Eq.mpr (conf_reader_give_eq r e place Q h) hv)
theorem conf_reader_marked_eq (r : Option Addr) (Q : (Hp → Prop)) (h : Hp) : funW ⟨Tryz.prog, tb, conf_reader_marked_p⟩ Tryz.f116 conf_reader_marked_a [(shPtr).enc r] (fun _ => Q) h = conf_reader_marked_w Tryz.prog r Q h := by kernel_rfl
theorem conf_reader_marked_call {r : Option Addr} {Q : (Hp → Prop)} {h : Hp} (hv : conf_reader_marked_w Tryz.prog r Q h) : Call0 Tryz.prog n_conf_reader_marked [(shPtr).enc r] (Q) h :=
 show CallT Tryz.prog n_conf_reader_marked [(shPtr).enc r] (shRes tb []) (fun _ => Q) h from fun_sound (C := ⟨Tryz.prog, tb, conf_reader_marked_p⟩) tb_ok Tryz.func116 rfl (Eq.mpr (conf_reader_marked_eq r Q h) hv)
theorem conf_reader_bad_eq (r : Option Addr) (Q : (Bool → (Hp → Prop))) (h : Hp) : funW ⟨Tryz.prog, tb, conf_reader_bad_p⟩ Tryz.f117 conf_reader_bad_a [(shPtr).enc r] (Q) h = conf_reader_bad_w Tryz.prog r Q h := by kernel_rfl
theorem conf_reader_bad_call {r : Option Addr} {Q : (Bool → (Hp → Prop))} {h : Hp} (hv : conf_reader_bad_w Tryz.prog r Q h) : CallT Tryz.prog n_conf_reader_bad [(shPtr).enc r] (shBool) Q h :=
 show CallT Tryz.prog n_conf_reader_bad [(shPtr).enc r] (shRes tb [4]) (Q) h from fun_sound (C := ⟨Tryz.prog, tb, conf_reader_bad_p⟩) tb_ok Tryz.func117 rfl (Eq.mpr (conf_reader_bad_eq r Q h) hv)
theorem conf_reader_labels_eq (r : Option Addr) (c : Option Addr) (Q : (Hp → Prop)) (h : Hp) : funW ⟨Tryz.prog, tb, conf_reader_labels_p⟩ Tryz.f118 conf_reader_labels_a [(shPtr).enc r, (shPtr).enc c] (fun _ => Q) h = conf_reader_labels_w Tryz.prog r c Q h := by kernel_rfl
theorem conf_reader_labels_call {r : Option Addr} {c : Option Addr} {Q : (Hp → Prop)} {h : Hp} (hv : conf_reader_labels_w Tryz.prog r c Q h) : Call0 Tryz.prog n_conf_reader_labels [(shPtr).enc r, (shPtr).enc c] (Q) h :=
 show CallT Tryz.prog n_conf_reader_labels [(shPtr).enc r, (shPtr).enc c] (shRes tb []) (fun _ => Q) h from fun_sound (C := ⟨Tryz.prog, tb, conf_reader_labels_p⟩) tb_ok Tryz.func118 rfl (Eq.mpr (conf_reader_labels_eq r c Q h) hv)
theorem conf_reader_table_eq (r : Option Addr) (c : Option Addr) (Q : (Hp → Prop)) (h : Hp) : funW ⟨Tryz.prog, tb, conf_reader_table_p⟩ Tryz.f119 conf_reader_table_a [(shPtr).enc r, (shPtr).enc c] (fun _ => Q) h = conf_reader_table_w Tryz.prog r c Q h := by kernel_rfl
theorem conf_reader_table_call {r : Option Addr} {c : Option Addr} {Q : (Hp → Prop)} {h : Hp} (hv : conf_reader_table_w Tryz.prog r c Q h) : Call0 Tryz.prog n_conf_reader_table [(shPtr).enc r, (shPtr).enc c] (Q) h :=
 show CallT Tryz.prog n_conf_reader_table [(shPtr).enc r, (shPtr).enc c] (shRes tb []) (fun _ => Q) h from fun_sound (C := ⟨Tryz.prog, tb, conf_reader_table_p⟩) tb_ok Tryz.func119 rfl (Eq.mpr (conf_reader_table_eq r c Q h) hv)
theorem conf_reader_ranged_eq (r : Option Addr) (part : Int) (bytes : Int) (Q : (Int → (Hp → Prop))) (h : Hp) : funW ⟨Tryz.prog, tb, conf_reader_ranged_p⟩ Tryz.f120 conf_reader_ranged_a [(shPtr).enc r, (shInt .i64).enc part, (shInt .i64).enc bytes] (Q) h = conf_reader_ranged_w Tryz.prog r part bytes Q h := by kernel_rfl
theorem conf_reader_ranged_call {r : Option Addr} {part : Int} {bytes : Int} {Q : (Int → (Hp → Prop))} {h : Hp} (hv : conf_reader_ranged_w Tryz.prog r part bytes Q h) : CallT Tryz.prog n_conf_reader_ranged [(shPtr).enc r, (shInt .i64).enc part, (shInt .i64).enc bytes] (shInt .i64) Q h :=
 show CallT Tryz.prog n_conf_reader_ranged [(shPtr).enc r, (shInt .i64).enc part, (shInt .i64).enc bytes] (shRes tb [3]) (Q) h from fun_sound (C := ⟨Tryz.prog, tb, conf_reader_ranged_p⟩) tb_ok Tryz.func120 rfl (Eq.mpr (conf_reader_ranged_eq r part bytes Q h) hv)
theorem conf_reader_counted_eq (r : Option Addr) (most : Int) (Q : (Int → (Hp → Prop))) (h : Hp) : funW ⟨Tryz.prog, tb, conf_reader_counted_p⟩ Tryz.f121 conf_reader_counted_a [(shPtr).enc r, (shInt .i64).enc most] (Q) h = conf_reader_counted_w Tryz.prog r most Q h := by kernel_rfl
theorem conf_reader_counted_call {r : Option Addr} {most : Int} {Q : (Int → (Hp → Prop))} {h : Hp} (hv : conf_reader_counted_w Tryz.prog r most Q h) : CallT Tryz.prog n_conf_reader_counted [(shPtr).enc r, (shInt .i64).enc most] (shInt .i64) Q h :=
 show CallT Tryz.prog n_conf_reader_counted [(shPtr).enc r, (shInt .i64).enc most] (shRes tb [3]) (Q) h from fun_sound (C := ⟨Tryz.prog, tb, conf_reader_counted_p⟩) tb_ok Tryz.func121 rfl (Eq.mpr (conf_reader_counted_eq r most Q h) hv)
theorem conf_reader_proc_eq (r : Option Addr) (c : Option Addr) (Q : (Hp → Prop)) (h : Hp) : funW ⟨Tryz.prog, tb, conf_reader_proc_p⟩ Tryz.f122 conf_reader_proc_a [(shPtr).enc r, (shPtr).enc c] (fun _ => Q) h = conf_reader_proc_w Tryz.prog r c Q h := by kernel_rfl
theorem conf_reader_proc_call {r : Option Addr} {c : Option Addr} {Q : (Hp → Prop)} {h : Hp} (hv : conf_reader_proc_w Tryz.prog r c Q h) : Call0 Tryz.prog n_conf_reader_proc [(shPtr).enc r, (shPtr).enc c] (Q) h :=
 show CallT Tryz.prog n_conf_reader_proc [(shPtr).enc r, (shPtr).enc c] (shRes tb []) (fun _ => Q) h from fun_sound (C := ⟨Tryz.prog, tb, conf_reader_proc_p⟩) tb_ok Tryz.func122 rfl (Eq.mpr (conf_reader_proc_eq r c Q h) hv)
theorem code_wrong_eq (x : S_api_Ins) (n : Int) (locks : Int) (Q : (Int → (Int → (Hp → Prop)))) (h : Hp) : funW ⟨Tryz.prog, tb, code_wrong_p⟩ Tryz.f124 code_wrong_a [(sh_api_Ins).enc x, (shInt .i64).enc n, (shInt .i64).enc locks] (fun r => Q r.1 r.2) h = code_wrong_w Tryz.prog x n locks Q h := by kernel_rfl
theorem code_wrong_call {x : S_api_Ins} {n : Int} {locks : Int} {Q : (Int → (Int → (Hp → Prop)))} {h : Hp} (hv : code_wrong_w Tryz.prog x n locks Q h) : Call2 Tryz.prog n_code_wrong [(sh_api_Ins).enc x, (shInt .i64).enc n, (shInt .i64).enc locks] (shInt .i64) (shInt .i64) Q h :=
 show CallT Tryz.prog n_code_wrong [(sh_api_Ins).enc x, (shInt .i64).enc n, (shInt .i64).enc locks] (shRes tb [34, 3]) (fun r => Q r.1 r.2) h from fun_sound (C := ⟨Tryz.prog, tb, code_wrong_p⟩) tb_ok Tryz.func124 rfl (Eq.mpr (code_wrong_eq x n locks Q h) hv)
theorem firebreakref06_Wrong_eq (x : S_api_Ins) (n : Int) (locks : Int) (Q : (Int → (Int → (Hp → Prop)))) (h : Hp) : funW ⟨Tryz.prog, tb, firebreakref06_Wrong_p⟩ Tryz.f125 firebreakref06_Wrong_a [(sh_api_Ins).enc x, (shInt .i64).enc n, (shInt .i64).enc locks] (fun r => Q r.1 r.2) h = firebreakref06_Wrong_w Tryz.prog x n locks Q h := by kernel_rfl
theorem firebreakref06_Wrong_call {x : S_api_Ins} {n : Int} {locks : Int} {Q : (Int → (Int → (Hp → Prop)))} {h : Hp} (hv : firebreakref06_Wrong_w Tryz.prog x n locks Q h) : Call2 Tryz.prog n_firebreakref06_Wrong [(sh_api_Ins).enc x, (shInt .i64).enc n, (shInt .i64).enc locks] (shInt .i64) (shInt .i64) Q h :=
 show CallT Tryz.prog n_firebreakref06_Wrong [(sh_api_Ins).enc x, (shInt .i64).enc n, (shInt .i64).enc locks] (shRes tb [34, 3]) (fun r => Q r.1 r.2) h from fun_sound (C := ⟨Tryz.prog, tb, firebreakref06_Wrong_p⟩) tb_ok Tryz.func125 rfl (Eq.mpr (firebreakref06_Wrong_eq x n locks Q h) hv)
theorem firebreakref01_Has_eq (a : Int) (n : Int) (Q : (Bool → (Hp → Prop))) (h : Hp) : funW ⟨Tryz.prog, tb, firebreakref01_Has_p⟩ Tryz.f126 firebreakref01_Has_a [(shInt .u64).enc a, (shInt .i64).enc n] (Q) h = firebreakref01_Has_w Tryz.prog a n Q h := by kernel_rfl
theorem firebreakref01_Has_call {a : Int} {n : Int} {Q : (Bool → (Hp → Prop))} {h : Hp} (hv : firebreakref01_Has_w Tryz.prog a n Q h) : CallT Tryz.prog n_firebreakref01_Has [(shInt .u64).enc a, (shInt .i64).enc n] (shBool) Q h :=
 show CallT Tryz.prog n_firebreakref01_Has [(shInt .u64).enc a, (shInt .i64).enc n] (shRes tb [4]) (Q) h from fun_sound (C := ⟨Tryz.prog, tb, firebreakref01_Has_p⟩) tb_ok Tryz.func126 rfl (Eq.mpr (firebreakref01_Has_eq a n Q h) hv)
theorem conf_reader_number_eq (r : Option Addr) (many : Int) (wrong : FnV) (Q : (Int → (Hp → Prop))) (h : Hp) : funW ⟨Tryz.prog, tb, conf_reader_number_p⟩ Tryz.f127 conf_reader_number_a [(shPtr).enc r, (shInt .i64).enc many, (shFn).enc wrong] (Q) h = conf_reader_number_w Tryz.prog r many wrong Q h := by kernel_rfl
theorem conf_reader_number_call {r : Option Addr} {many : Int} {wrong : FnV} {Q : (Int → (Hp → Prop))} {h : Hp} (hv : conf_reader_number_w Tryz.prog r many wrong Q h) : CallT Tryz.prog n_conf_reader_number [(shPtr).enc r, (shInt .i64).enc many, (shFn).enc wrong] (shInt .u64) Q h :=
 show CallT Tryz.prog n_conf_reader_number [(shPtr).enc r, (shInt .i64).enc many, (shFn).enc wrong] (shRes tb [80]) (Q) h from fun_sound (C := ⟨Tryz.prog, tb, conf_reader_number_p⟩) tb_ok Tryz.func127 rfl (Eq.mpr (conf_reader_number_eq r many wrong Q h) hv)
theorem conf_reader_marked_1_eq (n : Int) (a1 : Addr) (Q : (Int → (Hp → Prop))) (h : Hp) : funW ⟨Tryz.prog, tb, conf_reader_marked_1_p⟩ Tryz.f128 conf_reader_marked_1_a [(shInt .u64).enc n, .pointer (some a1)] (Q) h = conf_reader_marked_1_w Tryz.prog n a1 Q h := by kernel_rfl
theorem conf_reader_marked_1_call {n : Int} {a1 : Addr} {Q : (Int → (Hp → Prop))} {h : Hp} (hv : conf_reader_marked_1_w Tryz.prog n a1 Q h) : CallT Tryz.prog n_conf_reader_marked_1 [(shInt .u64).enc n, .pointer (some a1)] (shInt .i64) Q h :=
 show CallT Tryz.prog n_conf_reader_marked_1 [(shInt .u64).enc n, .pointer (some a1)] (shRes tb [34]) (Q) h from fun_sound (C := ⟨Tryz.prog, tb, conf_reader_marked_1_p⟩) tb_ok Tryz.func128 rfl (Eq.mpr (conf_reader_marked_1_eq n a1 Q h) hv)
theorem conf_reader_labels_1_eq (a : Int) (a1 : Addr) (Q : (Int → (Hp → Prop))) (h : Hp) : funW ⟨Tryz.prog, tb, conf_reader_labels_1_p⟩ Tryz.f129 conf_reader_labels_1_a [(shInt .u64).enc a, .pointer (some a1)] (Q) h = conf_reader_labels_1_w Tryz.prog a a1 Q h := by kernel_rfl
theorem conf_reader_labels_1_call {a : Int} {a1 : Addr} {Q : (Int → (Hp → Prop))} {h : Hp} (hv : conf_reader_labels_1_w Tryz.prog a a1 Q h) : CallT Tryz.prog n_conf_reader_labels_1 [(shInt .u64).enc a, .pointer (some a1)] (shInt .i64) Q h :=
 show CallT Tryz.prog n_conf_reader_labels_1 [(shInt .u64).enc a, .pointer (some a1)] (shRes tb [34]) (Q) h from fun_sound (C := ⟨Tryz.prog, tb, conf_reader_labels_1_p⟩) tb_ok Tryz.func129 rfl (Eq.mpr (conf_reader_labels_1_eq a a1 Q h) hv)
theorem conf_reader_partition_eq (r : Option Addr) (c : Option Addr) (Q : (Int → (Hp → Prop))) (h : Hp) : funW ⟨Tryz.prog, tb, conf_reader_partition_p⟩ Tryz.f130 conf_reader_partition_a [(shPtr).enc r, (shPtr).enc c] (Q) h = conf_reader_partition_w Tryz.prog r c Q h := by kernel_rfl
theorem conf_reader_partition_call {r : Option Addr} {c : Option Addr} {Q : (Int → (Hp → Prop))} {h : Hp} (hv : conf_reader_partition_w Tryz.prog r c Q h) : CallT Tryz.prog n_conf_reader_partition [(shPtr).enc r, (shPtr).enc c] (shInt .i64) Q h :=
 show CallT Tryz.prog n_conf_reader_partition [(shPtr).enc r, (shPtr).enc c] (shRes tb [3]) (Q) h from fun_sound (C := ⟨Tryz.prog, tb, conf_reader_partition_p⟩) tb_ok Tryz.func130 rfl (Eq.mpr (conf_reader_partition_eq r c Q h) hv)
theorem conf_reader_int_eq (r : Option Addr) (many : Int) (wrong : FnV) (Q : (Int → (Hp → Prop))) (h : Hp) : funW ⟨Tryz.prog, tb, conf_reader_int_p⟩ Tryz.f131 conf_reader_int_a [(shPtr).enc r, (shInt .i64).enc many, (shFn).enc wrong] (Q) h = conf_reader_int_w Tryz.prog r many wrong Q h := by kernel_rfl
theorem conf_reader_int_call {r : Option Addr} {many : Int} {wrong : FnV} {Q : (Int → (Hp → Prop))} {h : Hp} (hv : conf_reader_int_w Tryz.prog r many wrong Q h) : CallT Tryz.prog n_conf_reader_int [(shPtr).enc r, (shInt .i64).enc many, (shFn).enc wrong] (shInt .i64) Q h :=
 show CallT Tryz.prog n_conf_reader_int [(shPtr).enc r, (shInt .i64).enc many, (shFn).enc wrong] (shRes tb [3]) (Q) h from fun_sound (C := ⟨Tryz.prog, tb, conf_reader_int_p⟩) tb_ok Tryz.func131 rfl (Eq.mpr (conf_reader_int_eq r many wrong Q h) hv)
theorem conf_reader_ranged_1_eq (n : Int) (a1 : Addr) (Q : (Int → (Hp → Prop))) (h : Hp) : funW ⟨Tryz.prog, tb, conf_reader_ranged_1_p⟩ Tryz.f132 conf_reader_ranged_1_a [(shInt .i64).enc n, .pointer (some a1)] (Q) h = conf_reader_ranged_1_w Tryz.prog n a1 Q h := by kernel_rfl
theorem conf_reader_ranged_1_call {n : Int} {a1 : Addr} {Q : (Int → (Hp → Prop))} {h : Hp} (hv : conf_reader_ranged_1_w Tryz.prog n a1 Q h) : CallT Tryz.prog n_conf_reader_ranged_1 [(shInt .i64).enc n, .pointer (some a1)] (shInt .i64) Q h :=
 show CallT Tryz.prog n_conf_reader_ranged_1 [(shInt .i64).enc n, .pointer (some a1)] (shRes tb [34]) (Q) h from fun_sound (C := ⟨Tryz.prog, tb, conf_reader_ranged_1_p⟩) tb_ok Tryz.func132 rfl (Eq.mpr (conf_reader_ranged_1_eq n a1 Q h) hv)
theorem conf_reader_counted_1_eq (n : Int) (a1 : Addr) (Q : (Int → (Hp → Prop))) (h : Hp) : funW ⟨Tryz.prog, tb, conf_reader_counted_1_p⟩ Tryz.f133 conf_reader_counted_1_a [(shInt .i64).enc n, .pointer (some a1)] (Q) h = conf_reader_counted_1_w Tryz.prog n a1 Q h := by kernel_rfl
theorem conf_reader_counted_1_call {n : Int} {a1 : Addr} {Q : (Int → (Hp → Prop))} {h : Hp} (hv : conf_reader_counted_1_w Tryz.prog n a1 Q h) : CallT Tryz.prog n_conf_reader_counted_1 [(shInt .i64).enc n, .pointer (some a1)] (shInt .i64) Q h :=
 show CallT Tryz.prog n_conf_reader_counted_1 [(shInt .i64).enc n, .pointer (some a1)] (shRes tb [34]) (Q) h from fun_sound (C := ⟨Tryz.prog, tb, conf_reader_counted_1_p⟩) tb_ok Tryz.func133 rfl (Eq.mpr (conf_reader_counted_1_eq n a1 Q h) hv)
theorem conf_reader_proc_1_eq (n : Int) (Q : (Int → (Hp → Prop))) (h : Hp) : funW ⟨Tryz.prog, tb, conf_reader_proc_1_p⟩ Tryz.f134 conf_reader_proc_1_a [(shInt .i64).enc n] (Q) h = conf_reader_proc_1_w Tryz.prog n Q h := by kernel_rfl
theorem conf_reader_proc_1_call {n : Int} {Q : (Int → (Hp → Prop))} {h : Hp} (hv : conf_reader_proc_1_w Tryz.prog n Q h) : CallT Tryz.prog n_conf_reader_proc_1 [(shInt .i64).enc n] (shInt .i64) Q h :=
 show CallT Tryz.prog n_conf_reader_proc_1 [(shInt .i64).enc n] (shRes tb [34]) (Q) h from fun_sound (C := ⟨Tryz.prog, tb, conf_reader_proc_1_p⟩) tb_ok Tryz.func134 rfl (Eq.mpr (conf_reader_proc_1_eq n Q h) hv)
end Lf

set_option maxRecDepth 100000
namespace Lf
open Go Go.Proofs
theorem conf_reader_ins_eq (r : Option Addr) (n : Int) (locks : Int) (Q : (S_api_Ins → (Hp → Prop))) (h : Hp) : funW ⟨Tryz.prog, tb, conf_reader_ins_p⟩ Tryz.f135 conf_reader_ins_a [(shPtr).enc r, (shInt .i64).enc n, (shInt .i64).enc locks] (Q) h = conf_reader_ins_w Tryz.prog r n locks Q h := by kernel_rfl
theorem conf_reader_ins_call {r : Option Addr} {n : Int} {locks : Int} {Q : (S_api_Ins → (Hp → Prop))} {h : Hp} (hv : conf_reader_ins_w Tryz.prog r n locks Q h) : CallT Tryz.prog n_conf_reader_ins [(shPtr).enc r, (shInt .i64).enc n, (shInt .i64).enc locks] (sh_api_Ins) Q h :=
 show CallT Tryz.prog n_conf_reader_ins [(shPtr).enc r, (shInt .i64).enc n, (shInt .i64).enc locks] (shRes tb [51]) (Q) h from fun_sound (C := ⟨Tryz.prog, tb, conf_reader_ins_p⟩) tb_ok Tryz.func135 rfl (Eq.mpr (conf_reader_ins_eq r n locks Q h) hv)
theorem code_Fields_eq (op : Int) (Q : (Bool → (Bool → (Bool → (Bool → (Hp → Prop)))))) (h : Hp) : funW ⟨Tryz.prog, tb, code_Fields_p⟩ Tryz.f137 code_Fields_a [(shInt .i64).enc op] (fun r => Q r.1 r.2.1 r.2.2.1 r.2.2.2) h = code_Fields_w Tryz.prog op Q h := by kernel_rfl
theorem code_Fields_call {op : Int} {Q : (Bool → (Bool → (Bool → (Bool → (Hp → Prop)))))} {h : Hp} (hv : code_Fields_w Tryz.prog op Q h) : Call4 Tryz.prog n_code_Fields [(shInt .i64).enc op] (shBool) (shBool) (shBool) (shBool) Q h :=
 show CallT Tryz.prog n_code_Fields [(shInt .i64).enc op] (shRes tb [4, 4, 4, 4]) (fun r => Q r.1 r.2.1 r.2.2.1 r.2.2.2) h from fun_sound (C := ⟨Tryz.prog, tb, code_Fields_p⟩) tb_ok Tryz.func137 rfl (Eq.mpr (code_Fields_eq op Q h) hv)
theorem code_register_eq (has : Bool) (n : Int) (Q : (Int → (Hp → Prop))) (h : Hp) : funW ⟨Tryz.prog, tb, code_register_p⟩ Tryz.f138 code_register_a [(shBool).enc has, (shInt .i64).enc n] (Q) h = code_register_w Tryz.prog has n Q h := by kernel_rfl
theorem code_register_call {has : Bool} {n : Int} {Q : (Int → (Hp → Prop))} {h : Hp} (hv : code_register_w Tryz.prog has n Q h) : CallT Tryz.prog n_code_register [(shBool).enc has, (shInt .i64).enc n] (shInt .i64) Q h :=
 show CallT Tryz.prog n_code_register [(shBool).enc has, (shInt .i64).enc n] (shRes tb [34]) (Q) h from fun_sound (C := ⟨Tryz.prog, tb, code_register_p⟩) tb_ok Tryz.func138 rfl (Eq.mpr (code_register_eq has n Q h) hv)
theorem code_number_eq (x : S_api_Ins) (has : Bool) (n : Int) (locks : Int) (Q : (Int → (Hp → Prop))) (h : Hp) : funW ⟨Tryz.prog, tb, code_number_p⟩ Tryz.f139 code_number_a [(sh_api_Ins).enc x, (shBool).enc has, (shInt .i64).enc n, (shInt .i64).enc locks] (Q) h = code_number_w Tryz.prog x has n locks Q h := by kernel_rfl
theorem code_number_call {x : S_api_Ins} {has : Bool} {n : Int} {locks : Int} {Q : (Int → (Hp → Prop))} {h : Hp} (hv : code_number_w Tryz.prog x has n locks Q h) : CallT Tryz.prog n_code_number [(sh_api_Ins).enc x, (shBool).enc has, (shInt .i64).enc n, (shInt .i64).enc locks] (shInt .i64) Q h :=
 show CallT Tryz.prog n_code_number [(sh_api_Ins).enc x, (shBool).enc has, (shInt .i64).enc n, (shInt .i64).enc locks] (shRes tb [34]) (Q) h from fun_sound (C := ⟨Tryz.prog, tb, code_number_p⟩) tb_ok Tryz.func139 rfl (Eq.mpr (code_number_eq x has n locks Q h) hv)
theorem firebreakref06_Fields_eq (op : Int) (Q : (Bool → (Bool → (Bool → (Bool → (Hp → Prop)))))) (h : Hp) : funW ⟨Tryz.prog, tb, firebreakref06_Fields_p⟩ Tryz.f140 firebreakref06_Fields_a [(shInt .i64).enc op] (fun r => Q r.1 r.2.1 r.2.2.1 r.2.2.2) h = firebreakref06_Fields_w Tryz.prog op Q h := by kernel_rfl
theorem firebreakref06_Fields_call {op : Int} {Q : (Bool → (Bool → (Bool → (Bool → (Hp → Prop)))))} {h : Hp} (hv : firebreakref06_Fields_w Tryz.prog op Q h) : Call4 Tryz.prog n_firebreakref06_Fields [(shInt .i64).enc op] (shBool) (shBool) (shBool) (shBool) Q h :=
 show CallT Tryz.prog n_firebreakref06_Fields [(shInt .i64).enc op] (shRes tb [4, 4, 4, 4]) (fun r => Q r.1 r.2.1 r.2.2.1 r.2.2.2) h from fun_sound (C := ⟨Tryz.prog, tb, firebreakref06_Fields_p⟩) tb_ok Tryz.func140 rfl (Eq.mpr (firebreakref06_Fields_eq op Q h) hv)
theorem firebreakref06_register_eq (n : Int) (has : Bool) (Q : (Int → (Hp → Prop))) (h : Hp) : funW ⟨Tryz.prog, tb, firebreakref06_register_p⟩ Tryz.f141 firebreakref06_register_a [(shInt .i64).enc n, (shBool).enc has] (Q) h = firebreakref06_register_w Tryz.prog n has Q h := by kernel_rfl
theorem firebreakref06_register_call {n : Int} {has : Bool} {Q : (Int → (Hp → Prop))} {h : Hp} (hv : firebreakref06_register_w Tryz.prog n has Q h) : CallT Tryz.prog n_firebreakref06_register [(shInt .i64).enc n, (shBool).enc has] (shInt .i64) Q h :=
 show CallT Tryz.prog n_firebreakref06_register [(shInt .i64).enc n, (shBool).enc has] (shRes tb [34]) (Q) h from fun_sound (C := ⟨Tryz.prog, tb, firebreakref06_register_p⟩) tb_ok Tryz.func141 rfl (Eq.mpr (firebreakref06_register_eq n has Q h) hv)
theorem conf_reader_partition_1_eq (n : Int) (a1 : Addr) (Q : (Int → (Hp → Prop))) (h : Hp) : funW ⟨Tryz.prog, tb, conf_reader_partition_1_p⟩ Tryz.f142 conf_reader_partition_1_a [(shInt .i64).enc n, .pointer (some a1)] (Q) h = conf_reader_partition_1_w Tryz.prog n a1 Q h := by kernel_rfl
theorem conf_reader_partition_1_call {n : Int} {a1 : Addr} {Q : (Int → (Hp → Prop))} {h : Hp} (hv : conf_reader_partition_1_w Tryz.prog n a1 Q h) : CallT Tryz.prog n_conf_reader_partition_1 [(shInt .i64).enc n, .pointer (some a1)] (shInt .i64) Q h :=
 show CallT Tryz.prog n_conf_reader_partition_1 [(shInt .i64).enc n, .pointer (some a1)] (shRes tb [34]) (Q) h from fun_sound (C := ⟨Tryz.prog, tb, conf_reader_partition_1_p⟩) tb_ok Tryz.func142 rfl (Eq.mpr (conf_reader_partition_1_eq n a1 Q h) hv)
theorem conf_reader_int_1_eq (n : Int) (a1 : Addr) (Q : (Int → (Hp → Prop))) (h : Hp) : funW ⟨Tryz.prog, tb, conf_reader_int_1_p⟩ Tryz.f143 conf_reader_int_1_a [(shInt .u64).enc n, .pointer (some a1)] (Q) h = conf_reader_int_1_w Tryz.prog n a1 Q h := by kernel_rfl
theorem conf_reader_int_1_call {n : Int} {a1 : Addr} {Q : (Int → (Hp → Prop))} {h : Hp} (hv : conf_reader_int_1_w Tryz.prog n a1 Q h) : CallT Tryz.prog n_conf_reader_int_1 [(shInt .u64).enc n, .pointer (some a1)] (shInt .i64) Q h :=
 show CallT Tryz.prog n_conf_reader_int_1 [(shInt .u64).enc n, .pointer (some a1)] (shRes tb [34]) (Q) h from fun_sound (C := ⟨Tryz.prog, tb, conf_reader_int_1_p⟩) tb_ok Tryz.func143 rfl (Eq.mpr (conf_reader_int_1_eq n a1 Q h) hv)
theorem conf_reader_ins_1_eq (a0 : Int) (Q : (Int → (Hp → Prop))) (h : Hp) : funW ⟨Tryz.prog, tb, conf_reader_ins_1_p⟩ Tryz.f144 conf_reader_ins_1_a [(shInt .u64).enc a0] (Q) h = conf_reader_ins_1_w Tryz.prog a0 Q h := by kernel_rfl
theorem conf_reader_ins_1_call {a0 : Int} {Q : (Int → (Hp → Prop))} {h : Hp} (hv : conf_reader_ins_1_w Tryz.prog a0 Q h) : CallT Tryz.prog n_conf_reader_ins_1 [(shInt .u64).enc a0] (shInt .i64) Q h :=
 show CallT Tryz.prog n_conf_reader_ins_1 [(shInt .u64).enc a0] (shRes tb [34]) (Q) h from fun_sound (C := ⟨Tryz.prog, tb, conf_reader_ins_1_p⟩) tb_ok Tryz.func144 rfl (Eq.mpr (conf_reader_ins_1_eq a0 Q h) hv)
theorem conf_spoilt_eq (x : S_api_Ins) (e : Int) (Q : (Int → (Hp → Prop))) (h : Hp) : funW ⟨Tryz.prog, tb, conf_spoilt_p⟩ Tryz.f145 conf_spoilt_a [(sh_api_Ins).enc x, (shInt .i64).enc e] (Q) h = conf_spoilt_w Tryz.prog x e Q h := by kernel_rfl
theorem conf_spoilt_call {x : S_api_Ins} {e : Int} {Q : (Int → (Hp → Prop))} {h : Hp} (hv : conf_spoilt_w Tryz.prog x e Q h) : CallT Tryz.prog n_conf_spoilt [(sh_api_Ins).enc x, (shInt .i64).enc e] (shInt .i64) Q h :=
 show CallT Tryz.prog n_conf_spoilt [(sh_api_Ins).enc x, (shInt .i64).enc e] (shRes tb [3]) (Q) h from fun_sound (C := ⟨Tryz.prog, tb, conf_spoilt_p⟩) tb_ok Tryz.func145 rfl (Eq.mpr (conf_spoilt_eq x e Q h) hv)
theorem code_fields_eq (op : Int) (Q : (ByteArray → (Hp → Prop))) (h : Hp) : funW ⟨Tryz.prog, tb, code_fields_p⟩ Tryz.f146 code_fields_a [(shInt .i64).enc op] (Q) h = code_fields_w Tryz.prog op Q h := by kernel_rfl
theorem code_fields_call {op : Int} {Q : (ByteArray → (Hp → Prop))} {h : Hp} (hv : code_fields_w Tryz.prog op Q h) : CallT Tryz.prog n_code_fields [(shInt .i64).enc op] (shStr) Q h :=
 show CallT Tryz.prog n_code_fields [(shInt .i64).enc op] (shRes tb [9]) (Q) h from fun_sound (C := ⟨Tryz.prog, tb, code_fields_p⟩) tb_ok Tryz.func146 rfl (Eq.mpr (code_fields_eq op Q h) hv)
theorem code_Fields_1_eq (field : ByteArray) (a1 : Addr) (Q : (Bool → (Hp → Prop))) (h : Hp) : funW ⟨Tryz.prog, tb, code_Fields_1_p⟩ Tryz.f147 code_Fields_1_a [(shStr).enc field, .pointer (some a1)] (Q) h = code_Fields_1_w Tryz.prog field a1 Q h := by kernel_rfl
theorem code_Fields_1_call {field : ByteArray} {a1 : Addr} {Q : (Bool → (Hp → Prop))} {h : Hp} (hv : code_Fields_1_w Tryz.prog field a1 Q h) : CallT Tryz.prog n_code_Fields_1 [(shStr).enc field, .pointer (some a1)] (shBool) Q h :=
 show CallT Tryz.prog n_code_Fields_1 [(shStr).enc field, .pointer (some a1)] (shRes tb [4]) (Q) h from fun_sound (C := ⟨Tryz.prog, tb, code_Fields_1_p⟩) tb_ok Tryz.func147 rfl (Eq.mpr (code_Fields_1_eq field a1 Q h) hv)
end Lf



namespace Lf
open Go
def Rw {α : Type} (h : Hp) (sz : Nat) (enc : α → List Value) (l : Sl) (xs : List α) : Prop :=
  l.len = xs.length ∧ RdCells h l.base (xs.length * sz) (xs.flatMap enc)
section
variable {α : Type} {h h' : Hp} {sz : Nat} {enc : α → List Value} {l : Sl} {xs : List α}
theorem hcell_mono (hl : h ≤ h') {a : Addr} {v : Value} (e : hcell h a = some v) : hcell h' a = some v := by
  unfold hcell at e ⊢
  split at e
  · rename_i c t f hb
    rw [hl _ _ hb]
    exact e
  · cases e
theorem ldIs_mono (hl : h ≤ h') {a : Addr} {cs : List Value} (e : LdIs h a cs) : LdIs h' a cs := fun i v hv => hcell_mono hl (e i v hv)
theorem Rw.mono (hl : h ≤ h') (r : Rw h sz enc l xs) : Rw h' sz enc l xs := by
  obtain ⟨h1, h2, h3⟩ := r
  refine ⟨h1, h2, h3.imp id ?_⟩
  rintro ⟨a, ha, hc⟩
  exact ⟨a, ha, ldIs_mono hl hc⟩
theorem flat_get (henc : ∀ x, (enc x).length = sz) : ∀ (xs : List α) (i : Nat) (x : α), xs[i]? = some x → ∀ j v, (enc x)[j]? = some v → (xs.flatMap enc)[i * sz + j]? = some v
  | [], i, x, hx, _, _, _ => by simp at hx
  | y :: xs, 0, x, hx, j, v, hv => by
    simp at hx
    subst hx
    have hj : j < (enc y).length := (List.getElem?_eq_some_iff.1 hv).1
    simp only [List.flatMap_cons, Nat.zero_mul, Nat.zero_add]
    rw [List.getElem?_append_left hj]
    exact hv
  | y :: xs, i + 1, x, hx, j, v, hv => by
    have := flat_get henc xs i x (by simpa using hx) j v hv
    simp only [List.flatMap_cons]
    have e : (i + 1) * sz + j = sz + (i * sz + j) := by rw [Nat.add_mul]; omega
    rw [List.getElem?_append_right (by rw [henc, e]; omega), henc, e, Nat.add_sub_cancel_left]
    exact this
theorem flat_at (henc : ∀ x, (enc x).length = sz) : ∀ (xs : List α) (i : Nat) (v : Value), (xs.flatMap enc)[i]? = some v → ∃ q x j, xs[q]? = some x ∧ (enc x)[j]? = some v ∧ i = q * sz + j
  | [], i, v, hv => by simp at hv
  | y :: xs, i, v, hv => by
    simp only [List.flatMap_cons] at hv
    by_cases hi : i < (enc y).length
    · rw [List.getElem?_append_left hi] at hv
      exact ⟨0, y, i, rfl, hv, by simp⟩
    · rw [List.getElem?_append_right (by omega)] at hv
      obtain ⟨q, x, j, h1, h2, h3⟩ := flat_at henc xs _ v hv
      rw [henc] at h3 hi
      exact ⟨q + 1, x, j, by simpa using h1, h2, by rw [Nat.add_mul]; omega⟩
theorem Rw.read (r : Rw h sz enc l xs) (henc : ∀ x, (enc x).length = sz) (hsz : 0 < sz) {i : Int} (h0 : 0 ≤ i) (h1 : i < (l.len : Int)) :
    InB l.base l.len i ∧ ∃ x, xs[i.toNat]? = some x ∧ LdIs h (sat l.base sz i) (enc x) := by
  obtain ⟨h2, h3, h4⟩ := r
  have hi : i.toNat < xs.length := by omega
  have hne : xs.length * sz ≠ 0 := by
    have : 0 < xs.length := by omega
    exact Nat.ne_of_gt (Nat.mul_pos this hsz)
  obtain ⟨a, ha, hc⟩ := h4.resolve_left hne
  refine ⟨⟨by simp [ha], h0, h1⟩, xs[i.toNat], by simp [hi], fun j v hv => ?_⟩
  have := hc (i.toNat * sz + j) v (flat_get henc xs i.toNat _ (by simp [hi]) j v hv)
  unfold sat
  rw [ha, Option.getD_some, add_add]
  exact this
def Own (h0 h : Hp) (sz : Nat) (enc : α → List Value) (l : Sl) (xs : List α) : Prop :=
  l.len = xs.length ∧ l.len ≤ l.cap ∧ ((l.base = none ∧ l.cap = 0) ∨
    ∃ (b : Nat) (cs : List Value) (t : Nat), l.base = some ⟨b, 0, none⟩ ∧ h b = some (.cells cs.toArray t (0, 0)) ∧ cs.length = l.cap * sz ∧ cs.take (l.len * sz) = xs.flatMap enc ∧ h0 b = none)
theorem flat_len (henc : ∀ x, (enc x).length = sz) : ∀ xs : List α, (xs.flatMap enc).length = xs.length * sz
  | [] => by simp
  | x :: xs => by
    simp only [List.flatMap_cons, List.length_append, henc, flat_len henc xs, List.length_cons, Nat.add_mul, Nat.one_mul]
    omega
theorem flat_ok (hok : ∀ x, okCells (enc x) = true) : ∀ xs : List α, okCells (xs.flatMap enc) = true := by
  have app : ∀ a b : List Value, okCells a = true → okCells b = true → okCells (a ++ b) = true := by
    intro a b ha hb
    induction a with
    | nil => exact hb
    | cons v a ih => cases v <;> first | (exact ih ha) | (cases ha)
  intro xs
  induction xs with
  | nil => rfl
  | cons x xs ih => exact app _ _ (hok x) ih
theorem hcell_block0 {b : Nat} {cs : List Value} {t : Nat} (e : h b = some (.cells cs.toArray t (0, 0))) (i : Nat) : hcell h ⟨b, i, none⟩ = cs[i]? := by
  unfold hcell
  simp [e]
theorem Own.rw {h0 : Hp} (o : Own h0 h sz enc l xs) (henc : ∀ x, (enc x).length = sz) : Rw h sz enc l xs := by
  obtain ⟨h1, h2, h3⟩ := o
  refine ⟨h1, flat_len henc xs, ?_⟩
  rcases h3 with ⟨e, ec⟩ | ⟨b, cs, t, e, hb, hl, ht, _⟩
  · left
    have : xs.length = 0 := by omega
    rw [this, Nat.zero_mul]
  · right
    refine ⟨_, e, fun j v hv => ?_⟩
    rw [box_add, hcell_block0 hb, Nat.zero_add]
    rw [← ht, List.getElem?_take] at hv
    split at hv
    · exact hv
    · cases hv
theorem Own.mono {h0 : Hp} (hl : h ≤ h') (o : Own h0 h sz enc l xs) : Own h0 h' sz enc l xs := by
  obtain ⟨h1, h2, h3⟩ := o
  refine ⟨h1, h2, h3.imp id ?_⟩
  rintro ⟨b, cs, t, e1, e2, e3⟩
  exact ⟨b, cs, t, e1, hl _ _ e2, e3⟩
theorem app_own {h0 : Hp} {zero : List Value} {bytes : Nat} {x : Sl} {ys : List α} {K : Sl → Hp → Prop} (hw : h0 ≤ h) (o : Own h0 h sz enc l xs) (r : Rw h sz enc x ys) (henc : ∀ x, (enc x).length = sz) (hok : ∀ x, okCells (enc x) = true)
    (hz : zero.length = sz) (hb : xs.length + ys.length ≤ 140737488355328 ∧ (xs.length + ys.length) * bytes ≤ 140737488355328)
    (hk : ∀ l' h', h0 ≤ h' → Own h0 h' sz enc l' (xs ++ ys) → (∀ b ob, h b = some ob → (∀ a, l.base = some a → a.block ≠ b) → h' b = some ob) → K l' h') : AppendW sz bytes zero l x K h := by
  have hrw := o.rw henc
  obtain ⟨h1, h2, h3⟩ := o
  obtain ⟨hx1, hx2⟩ := r
  refine ⟨ys.flatMap enc, by rw [hx1]; exact hx2, xs.flatMap enc, by rw [h1]; exact hrw.2, by rw [h1, hx1]; exact hb, flat_ok hok ys, fun hcap => ?_, fun hcap c b t hc hbn => ?_⟩
  · rcases h3 with ⟨e, ec⟩ | ⟨b, cs, t, e, hbk, hl, ht, hn⟩
    · -- nothing is put
      have e1 : ys.length = 0 := by omega
      have e2 : ys = [] := List.length_eq_zero_iff.1 e1
      subst e2
      refine ⟨fun a ha => (by rw [e] at ha; cases ha), ?_⟩
      have e3 : putO h l.base (l.len * sz) (([] : List α).flatMap enc) = h := by rw [e]; rfl
      rw [e3, hx1]
      refine hk _ h hw ⟨by simp [h1], by simpa using h2, .inl ⟨e, ec⟩⟩ fun _ _ e _ => e
    · have hle : l.len * sz + (ys.flatMap enc).length ≤ cs.length := by
        rw [hl, flat_len henc, ← Nat.add_mul]
        exact Nat.mul_le_mul_right sz (by omega)
      obtain ⟨p1, p2⟩ := put_cells b t (ys.flatMap enc) h 0 (l.len * sz) cs (by simpa using hle) hbk
      have hst : ∀ (k : Nat), l.len * sz + k ≤ cs.length → StOk h (⟨b, l.len * sz, none⟩ : Addr) k := by
        intro k
        induction k with
        | zero => intro _; trivial
        | succ k ih =>
          intro hk'
          refine ⟨ih (by omega), ⟨cs[l.len * sz + k]'(by omega), ?_⟩, ?_⟩
          · rw [box_add, hcell_block0 hbk]
            simp
          · rw [box_add]
            unfold hfroz
            simp [hbk]
      refine ⟨fun a ha => ?_, ?_⟩
      · rw [e] at ha; cases ha
        rw [box_add, Nat.zero_add]
        refine hst _ ?_
        rw [hx1, ← flat_len henc ys]
        exact hle
      · have e3 : putO h l.base (l.len * sz) (ys.flatMap enc) = putL h ⟨b, l.len * sz, none⟩ (ys.flatMap enc) 0 := by
          rw [e]
          simp only [putO, box_add, Nat.zero_add]
        rw [e3]
        rw [Nat.add_zero] at p1
        refine hk _ _ (fun b' ob eb => ?_) ⟨by simp [h1, hx1], hcap, .inr ⟨b, _, t, e, p1, ?_, ?_, hn⟩⟩ fun b' ob eb hne => ?_
        · have hne : b' ≠ b := fun e' => by rw [e', hn] at eb; cases eb
          rw [p2 b' hne]
          exact hw _ _ eb
        · rw [layL_length _ _ _ hle, hl]
        · rw [layL_eq _ _ _ hle]
          have e4 : (l.len + x.len) * sz = (cs.take (l.len * sz) ++ ys.flatMap enc).length := by
            rw [List.length_append, ht, flat_len henc, flat_len henc, h1, hx1, Nat.add_mul]
          rw [e4, List.take_left, ht, List.flatMap_append]
        · rw [p2 b' fun e' => hne _ e e'.symm]
          exact eb
  · have hh : ∀ b' ob, h b' = some ob → (h.set b (.cells (xs.flatMap enc ++ ys.flatMap enc ++ zerosL zero (c - (l.len + x.len))).toArray t (0, 0))) b' = some ob := fun b' ob eb => by
      have hne : b' ≠ b := fun e' => by rw [e', hbn] at eb; cases eb
      simp [Hp.set, hne, eb]
    refine hk _ _ (fun b' ob eb => hh b' ob (hw _ _ eb)) ⟨by simp [h1, hx1], hc, .inr ⟨b, xs.flatMap enc ++ ys.flatMap enc ++ zerosL zero (c - (l.len + x.len)), t, rfl, by simp [Hp.set], ?_, ?_, ?_⟩⟩ fun b' ob eb _ => hh b' ob eb
    · have hzl : ∀ k, (zerosL zero k).length = k * sz := fun k => by simp [zerosL, hz]
      rw [List.length_append, List.length_append, flat_len henc, flat_len henc, hzl, ← Nat.add_mul, ← Nat.add_mul]
      show _ = c * sz
      congr 1
      omega
    · have e4 : (l.len + x.len) * sz = (xs.flatMap enc ++ ys.flatMap enc).length := by
        rw [List.length_append, flat_len henc, flat_len henc, h1, hx1, Nat.add_mul]
      show List.take ((l.len + x.len) * sz) _ = _
      rw [e4, List.take_left, List.flatMap_append]
    · cases e0 : h0 b with
      | none => rfl
      | some ob => rw [hw _ _ e0] at hbn; cases hbn
end
abbrev Rs (h : Hp) (sh : Shape) (sz : Nat) (l : Sl) (xs : List sh.T) : Prop := Rw h sz (fun x => cellsL (sh.enc x)) l xs
section
variable {h h' : Hp} {sh : Shape} {sz : Nat} {l : Sl} {xs : List sh.T} {K : sh.T → Prop} {i : Int}
theorem Rs.get (r : Rs h sh sz l xs) (henc : ∀ x, (cellsL (sh.enc x)).length = sz) (hsz : 0 < sz) (h0 : 0 ≤ i) (h1 : i < (xs.length : Int)) (hk : ∀ x, xs[i.toNat]? = some x → K x) :
    InB l.base l.len i ∧ LdW none sh h (sat l.base sz i) K := by
  obtain ⟨e1, x, hx, hl⟩ := Rw.read r henc hsz h0 (by rw [r.1]; exact h1)
  exact ⟨e1, x, hl, hk x hx⟩
theorem Rs.getC {c : Bool} (r : Rs h sh sz l xs) (x0 : sh.T) (henc : ∀ x, (cellsL (sh.enc x)).length = sz) (hsz : 0 < sz) (h0 : c = true → 0 ≤ i ∧ i < (xs.length : Int)) (hk : ∀ x, (c = true → xs[i.toNat]? = some x) → K x) :
    (c = true → InB l.base l.len i) ∧ LdW (some c) sh h (sat l.base sz i) K := by
  cases c with
  | false => exact ⟨fun e => (by cases e), x0, fun e => (by cases e), hk x0 fun e => (by cases e)⟩
  | true =>
    obtain ⟨e1, x, hx, hl⟩ := Rw.read r henc hsz (h0 rfl).1 (by rw [r.1]; exact (h0 rfl).2)
    exact ⟨fun _ => e1, x, fun _ => hl, hk x fun _ => hx⟩
theorem ld_at {a : Addr} (x : sh.T) (hl : LdIs h a (cellsL (sh.enc x))) (hk : K x) : LdW none sh h a K := ⟨x, hl, hk⟩
theorem letW {α : Type} {x : α} {K : α → Prop} (hk : K x) : LetW x K := fun _ e => e ▸ hk
theorem wrap64 {n : Int} (h0 : -9223372036854775808 ≤ n) (h1 : n < 9223372036854775808) : IntKind.wrap .i64 n = n := by
  unfold IntKind.wrap
  simp only [IntKind.signed, IntKind.bits]
  first | omega | (simp; omega)
end
theorem new_row {α : Type} {h0 h : Hp} {sz : Nat} {enc : α → List Value} {cs : List Value} {xs : List α} {K : Addr → Hp → Prop} (hw : h0 ≤ h) (hc : cs = xs.flatMap enc) (henc : ∀ x, (enc x).length = sz)
    (hk : ∀ a h', h ≤ h' → Own h0 h' sz enc ⟨some a, xs.length, xs.length⟩ xs → K a h') : NewW cs K h := by
  intro b t hb
  have hle : h ≤ h.set b (.cells cs.toArray t (0, 0)) := fun b' o e => by
    have hne : b' ≠ b := fun e' => by rw [e', hb] at e; cases e
    simp [Hp.set, hne, e]
  refine hk _ _ hle ⟨rfl, Nat.le_refl _, .inr ⟨b, cs, t, rfl, by simp [Hp.set], ?_, ?_, ?_⟩⟩
  · rw [hc, flat_len henc]
  · have : (xs.length * sz) = (xs.flatMap enc).length := (flat_len henc xs).symm
    show List.take (xs.length * sz) cs = _
    rw [this, hc, List.take_length]
  · cases e0 : h0 b with
    | none => rfl
    | some ob => rw [hw _ _ e0] at hb; cases hb
end Lf

namespace Lf
open Go
def CKeep (h h' : Hp) : Prop := ∀ a v, hcell h a = some v → hcell h' a = some v
theorem CKeep.of_le {h h' : Hp} (hl : h ≤ h') : CKeep h h' := fun _ _ e => hcell_mono hl e
theorem ldIs_ck {h h' : Hp} (hl : CKeep h h') {a : Addr} {cs : List Value} (e : LdIs h a cs) : LdIs h' a cs := fun i v hv => hl _ _ (e i v hv)
theorem Rw.ck {α : Type} {h h' : Hp} {sz : Nat} {enc : α → List Value} {l : Sl} {xs : List α} (hl : CKeep h h') (r : Rw h sz enc l xs) : Rw h' sz enc l xs := by
  obtain ⟨h1, h2, h3⟩ := r
  refine ⟨h1, h2, h3.imp id ?_⟩
  rintro ⟨a, ha, hc⟩
  exact ⟨a, ha, ldIs_ck hl hc⟩
theorem ck_set {h : Hp} {m : Nat} {o o' : Obj} (e : h m = some o) (hc : isCells o = false) : CKeep h (h.set m o') := by
  intro a v hv
  obtain ⟨c, t, fr, hb, hsp, hg⟩ := hcell_block hv
  have hne : a.block ≠ m := fun e' => by rw [e', e] at hb; cases hb; cases hc
  unfold hcell at hv ⊢
  have : (h.set m o') a.block = h a.block := by simp [Hp.set, hne]
  rw [this]
  exact hv
theorem set_new {h : Hp} {b : Nat} {o : Obj} (hn : h b = none) : h ≤ h.set b o := fun b' o' e => by
  have hne : b' ≠ b := fun e' => by rw [e', hn] at e; cases e
  simp [Hp.set, hne, e]
theorem set_self {h : Hp} {b : Nat} {o : Obj} : (h.set b o) b = some o := by simp [Hp.set]
theorem set_over {h h0 : Hp} {b : Nat} {o : Obj} (hl : h0 ≤ h) (hn : h0 b = none) : h0 ≤ h.set b o := fun b' o' e => by
  have hne : b' ≠ b := fun e' => by rw [e', hn] at e; cases e
  simp only [Hp.set, hne, if_false]
  exact hl _ _ e
theorem none_of_le {h0 h : Hp} {b : Nat} (hl : h0 ≤ h) (hn : h b = none) : h0 b = none := by
  cases e : h0 b with
  | none => rfl
  | some o => rw [hl _ _ e] at hn; cases hn
theorem ldIs_new {h : Hp} {b t : Nat} {cs : List Value} : LdIs (h.set b (.cells cs.toArray t (0, 0))) ⟨b, 0, none⟩ cs := fun i v hv => by
  rw [box_add, hcell_block0 set_self, Nat.zero_add]
  exact hv
theorem notNil {p : Addr} {c : Option Bool} {K : Addr → Prop} (hk : K p) : NilW c (some p) K := by
  refine ⟨p, ?_, hk⟩
  cases c with
  | none => rfl
  | some b => exact fun _ => rfl
theorem semW_und {P : Program} {t : Nat} {d : TypeDesc} (hu : P.underlying t = some d) {K : TypeDesc → Hp → Prop} {h : Hp} (hk : K d h) : semW P (underlying t) K h := by
  show semW P (match P.underlying t with
    | some d => Sem.pure d
    | none => _) K h
  rw [hu]
  exact hk
theorem semIs_of_semW {P : Program} {s : Sem Value} {h : Hp} {v : Value} (hi : semW P s (fun u h' => u = v ∧ h' = h) h) : SemIs P s h v := by
  intro w hs
  obtain ⟨a, w', h', hr, ⟨ha, hh⟩, hst⟩ := semW_sound s hs hi
  subst ha; subst hh
  exact ⟨w', hr, hst⟩
theorem semIs_of_run {P : Program} {s : Sem Value} {h : Hp} {v : Value} (hi : ∀ w, s.run P w = .ok v w) : SemIs P s h v := fun w hs => ⟨w, hi w, .refl hs⟩
theorem semIs_nilSl {P : Program} {t e : Nat} {x y : Operand} {h : Hp} (hu : P.underlying t = some (.slice e)) (s : Sl) : SemIs P (binS .eql t x y s.v (.slice none 0 0)) h (.bool s.base.isNone) := by
  have key : ∀ d, semW P (Op.equalIn (d + 1) t s.v (.slice none 0 0)) (fun u h' => u = s.base.isNone ∧ h' = h) h := by
    intro d
    unfold Op.equalIn
    refine (semW_bind _ _).2 (semW_und hu ?_)
    cases hb : s.base with
    | none => simp only [Sl.v, hb]; exact ⟨rfl, rfl⟩
    | some a => simp only [Sl.v, hb]; exact ⟨rfl, rfl⟩
  refine semIs_of_semW ?_
  show semW P (Sem.bind (Op.equal t s.v (.slice none 0 0)) fun b => Sem.pure (Value.bool b)) _ h
  refine (semW_bind _ _).2 (semW_mono _ (fun a k hk => ?_) (key 9999))
  obtain ⟨rfl, rfl⟩ := hk
  exact ⟨rfl, rfl⟩
end Lf

namespace Lf
open Go
theorem ldIs_drop {h : Hp} {a : Addr} {cs : List Value} (e : LdIs h a cs) (n : Nat) : LdIs h (a.add n) (cs.drop n) := fun i v hv => by
  rw [add_add]
  exact e (n + i) v (by simpa [List.getElem?_drop] using hv)
theorem flat_drop {α : Type} {sz : Nat} {enc : α → List Value} (henc : ∀ x, (enc x).length = sz) : ∀ (xs : List α) (n : Nat), (xs.drop n).flatMap enc = (xs.flatMap enc).drop (n * sz)
  | [], n => by simp
  | x :: xs, 0 => by simp
  | x :: xs, n + 1 => by
    simp only [List.drop_succ_cons, List.flatMap_cons]
    have e : (enc x).drop (n * sz + sz) = [] := List.drop_eq_nil_of_le (by rw [henc]; omega)
    rw [flat_drop henc xs n, Nat.add_mul, Nat.one_mul, List.drop_append, henc, e, List.nil_append, Nat.add_sub_cancel]
theorem flat_take {α : Type} {sz : Nat} {enc : α → List Value} (henc : ∀ x, (enc x).length = sz) : ∀ (xs : List α) (n : Nat), (xs.take n).flatMap enc = (xs.flatMap enc).take (n * sz)
  | [], n => by simp
  | x :: xs, 0 => by simp
  | x :: xs, n + 1 => by
    simp only [List.take_succ_cons, List.flatMap_cons]
    have e : (enc x).take (n * sz + sz) = enc x := List.take_of_length_le (by rw [henc]; omega)
    rw [flat_take henc xs n, Nat.add_mul, Nat.one_mul, List.take_append, henc, e, Nat.add_sub_cancel]
theorem Rw.cut {α : Type} {h : Hp} {sz : Nat} {enc : α → List Value} {l : Sl} {xs : List α} (r : Rw h sz enc l xs) (henc : ∀ x, (enc x).length = sz) {a b c n m : Nat} (hab : a ≤ b) (hb : b ≤ xs.length) (hc : b ≤ c) (hn : n = b - a) :
    Rw h sz enc ⟨sbase l.base sz a c, n, m⟩ ((xs.drop a).take (b - a)) := by
  obtain ⟨h1, h2, h3⟩ := r
  have hlen : ((xs.drop a).take (b - a)).length = b - a := by rw [List.length_take, List.length_drop]; omega
  refine ⟨hn.trans hlen.symm, flat_len henc _, ?_⟩
  rw [hlen]
  by_cases h0 : (b - a) * sz = 0
  · exact .inl h0
  · right
    have hba : b - a ≠ 0 := fun e => h0 (by rw [e, Nat.zero_mul])
    have hsz : sz ≠ 0 := fun e => h0 (by rw [e, Nat.mul_zero])
    have hx : xs.length * sz ≠ 0 := Nat.mul_ne_zero (by omega) hsz
    obtain ⟨p, hp, hl⟩ := h3.resolve_left hx
    refine ⟨p.add (a * sz), ?_, fun i v hv => ?_⟩
    · unfold sbase
      rw [if_neg (show ¬ c = a by omega), hp]
      rfl
    · rw [flat_take henc, flat_drop henc, List.getElem?_take] at hv
      split at hv
      · exact ldIs_drop hl (a * sz) i v hv
      · cases hv
end Lf

namespace Lf
open Go
structure Mv (F : List Nat) (h : Hp) (F' : List Nat) (h' : Hp) : Prop where
  keep : ∀ b o, h b = some o → b ∉ F → h' b = some o
  from_ : ∀ b ∈ F', b ∈ F ∨ h b = none
theorem Mv.refl (F : List Nat) (h : Hp) : Mv F h F h := ⟨fun _ _ e _ => e, fun _ e => .inl e⟩
theorem Mv.trans {F F' F'' : List Nat} {h h' h'' : Hp} (a : Mv F h F' h') (b : Mv F' h' F'' h'') : Mv F h F'' h'' := by
  refine ⟨fun i o e hn => b.keep i o (a.keep i o e hn) fun hf => ?_, fun i hi => ?_⟩
  · rcases a.from_ i hf with h1 | h1
    · exact hn h1
    · rw [h1] at e; cases e
  · rcases b.from_ i hi with h1 | h1
    · exact a.from_ i h1
    · cases e : h i with
      | none => exact .inr rfl
      | some o =>
        left
        refine Classical.byContradiction fun hn => ?_
        rw [a.keep i o e hn] at h1; cases h1
theorem Mv.of_le {h h' : Hp} (F : List Nat) (hl : h ≤ h') : Mv F h F h' := ⟨fun b o e _ => hl b o e, fun _ e => .inl e⟩
theorem Mv.le {F F' : List Nat} {h0 h h' : Hp} (a : Mv F h F' h') (hl : h0 ≤ h) (hf : ∀ b ∈ F, h0 b = none) : h0 ≤ h' ∧ ∀ b ∈ F', h0 b = none := by
  refine ⟨fun b o e => a.keep b o (hl b o e) fun hb => (by rw [hf b hb] at e; cases e), fun b hb => ?_⟩
  rcases a.from_ b hb with h1 | h1
  · exact hf b h1
  · exact none_of_le hl h1
theorem Mv.sub {F F' G G' : List Nat} {h h' : Hp} (a : Mv F h F' h') (h1 : ∀ b ∈ F, b ∈ G) (h2 : ∀ b ∈ G', b ∈ F' ∨ b ∈ G ∨ h b = none) : Mv G h G' h' :=
  ⟨fun b o e hn => a.keep b o e fun hb => hn (h1 b hb), fun b hb => by
    rcases h2 b hb with h3 | h3
    · rcases a.from_ b h3 with h4 | h4
      · exact .inl (h1 b h4)
      · exact .inr h4
    · exact h3⟩
theorem Mv.set {h : Hp} {b : Nat} {o : Obj} : Mv [b] h [b] (h.set b o) := by
  refine ⟨fun i x e hn => ?_, fun i hi => .inl hi⟩
  have hne : i ≠ b := fun e' => hn (by rw [e']; exact List.mem_singleton.2 rfl)
  simp only [Hp.set, hne, if_false]
  exact e
theorem Mv.new {h : Hp} {b : Nat} {o : Obj} (hn : h b = none) : Mv [] h [b] (h.set b o) :=
  ⟨fun i x e _ => set_new hn i x e, fun i hi => .inr (by rw [List.mem_singleton.1 hi]; exact hn)⟩
def Blk (h : Hp) (b : Nat) (cs : List Value) : Prop := ∃ t, h b = some (.cells cs.toArray t (0, 0))
theorem Blk.mv {F F' : List Nat} {h h' : Hp} {b : Nat} {cs : List Value} (k : Blk h b cs) (a : Mv F h F' h') (hn : b ∉ F) : Blk h' b cs := by
  obtain ⟨t, e⟩ := k
  exact ⟨t, a.keep b _ e hn⟩
theorem Blk.le {h h' : Hp} {b : Nat} {cs : List Value} (k : Blk h b cs) (hl : h ≤ h') : Blk h' b cs := by
  obtain ⟨t, e⟩ := k
  exact ⟨t, hl _ _ e⟩
theorem Blk.known {h : Hp} {b : Nat} {cs : List Value} (k : Blk h b cs) : h b ≠ none := by
  obtain ⟨t, e⟩ := k
  rw [e]; simp
def at_ (b off : Nat) : Addr := ⟨b, off, none⟩
theorem Blk.ldIs {h : Hp} {b : Nat} {cs : List Value} (k : Blk h b cs) {off n : Nat} {vs : List Value} (e : (cs.drop off).take n = vs) : LdIs h ⟨b, off, none⟩ vs := by
  obtain ⟨t, hb⟩ := k
  intro i v hv
  rw [box_add, hcell_block0 hb]
  rw [← e, List.getElem?_take] at hv
  split at hv
  · rw [List.getElem?_drop] at hv
    exact hv
  · cases hv
theorem Blk.stOk {h : Hp} {b : Nat} {cs : List Value} (k : Blk h b cs) {off : Nat} : ∀ n, off + n ≤ cs.length → StOk h ⟨b, off, none⟩ n
  | 0, _ => trivial
  | n + 1, hn => by
    obtain ⟨t, hb⟩ := k
    refine ⟨Blk.stOk ⟨t, hb⟩ n (by omega), ⟨cs[off + n]'(by omega), ?_⟩, ?_⟩
    · rw [box_add, hcell_block0 hb]
      simp
    · rw [box_add]
      unfold hfroz
      simp [hb]
theorem Blk.put {h : Hp} {b : Nat} {cs new : List Value} (k : Blk h b cs) {off : Nat} (hl : off + new.length ≤ cs.length) :
    Blk (putL h ⟨b, off, none⟩ new 0) b (cs.take off ++ new ++ cs.drop (off + new.length)) ∧ ∀ b', b' ≠ b → (putL h ⟨b, off, none⟩ new 0) b' = h b' := by
  obtain ⟨t, hb⟩ := k
  obtain ⟨p1, p2⟩ := put_cells b t new h 0 off cs (by simpa using hl) hb
  rw [Nat.add_zero, layL_eq _ _ _ hl] at p1
  exact ⟨⟨t, p1⟩, p2⟩
theorem Mv.of_other {h h' : Hp} {b : Nat} (ho : ∀ b', b' ≠ b → h' b' = h b') : Mv [b] h [b] h' :=
  ⟨fun i o e hn => by rw [ho i fun e' => hn (by rw [e']; exact List.mem_singleton.2 rfl)]; exact e, fun i hi => .inl hi⟩
theorem stW_blk {h : Hp} {b : Nat} {cs new : List Value} {off : Nat} {K : Hp → Prop} (k : Blk h b cs) (hl : off + new.length ≤ cs.length)
    (hk : ∀ h', Mv [b] h [b] h' → Blk h' b (cs.take off ++ new ++ cs.drop (off + new.length)) → K h') : StW h ⟨b, off, none⟩ new K := by
  obtain ⟨p1, p2⟩ := k.put hl
  exact ⟨k.stOk _ hl, hk _ (Mv.of_other p2) p1⟩
section
variable {α : Type} {h : Hp} {sz : Nat} {enc : α → List Value} {l : Sl} {xs : List α}
def OwnF (h : Hp) (sz : Nat) (enc : α → List Value) (l : Sl) (xs : List α) (F : List Nat) : Prop :=
  l.len = xs.length ∧ l.len ≤ l.cap ∧ ((l.base = none ∧ l.cap = 0 ∧ F = []) ∨
    ∃ (b : Nat) (cs : List Value), l.base = some ⟨b, 0, none⟩ ∧ F = [b] ∧ Blk h b cs ∧ cs.length = l.cap * sz ∧ cs.take (l.len * sz) = xs.flatMap enc)
theorem OwnF.own {F : List Nat} {h0 : Hp} (o : OwnF h sz enc l xs F) (hf : ∀ b ∈ F, h0 b = none) : Own h0 h sz enc l xs := by
  obtain ⟨h1, h2, h3⟩ := o
  refine ⟨h1, h2, ?_⟩
  rcases h3 with ⟨e1, e2, _⟩ | ⟨b, cs, e1, rfl, ⟨t, e3⟩, e4, e5⟩
  · exact .inl ⟨e1, e2⟩
  · exact .inr ⟨b, cs, t, e1, e3, e4, e5, hf b (List.mem_singleton.2 rfl)⟩
theorem OwnF.rw {F : List Nat} (o : OwnF h sz enc l xs F) (henc : ∀ x, (enc x).length = sz) : Rw h sz enc l xs := (o.own (h0 := fun _ => none) fun _ _ => rfl).rw henc
theorem Own.ownF {h0 : Hp} (o : Own h0 h sz enc l xs) : ∃ F, OwnF h sz enc l xs F ∧ ∀ b ∈ F, h0 b = none := by
  obtain ⟨h1, h2, h3⟩ := o
  rcases h3 with ⟨e1, e2⟩ | ⟨b, cs, t, e1, e3, e4, e5, e6⟩
  · exact ⟨[], ⟨h1, h2, .inl ⟨e1, e2, rfl⟩⟩, fun b hb => by cases hb⟩
  · exact ⟨[b], ⟨h1, h2, .inr ⟨b, cs, e1, rfl, ⟨t, e3⟩, e4, e5⟩⟩, fun b' hb => by rw [List.mem_singleton.1 hb]; exact e6⟩
theorem OwnF.known {F : List Nat} (o : OwnF h sz enc l xs F) : ∀ b ∈ F, h b ≠ none := by
  obtain ⟨_, _, h3⟩ := o
  rcases h3 with ⟨_, _, rfl⟩ | ⟨b, cs, _, rfl, e3, _, _⟩
  · intro b hb; cases hb
  · intro b' hb; rw [List.mem_singleton.1 hb]; exact e3.known
theorem OwnF.same {F : List Nat} {h' : Hp} (o : OwnF h sz enc l xs F) (hs : ∀ b ∈ F, h' b = h b) : OwnF h' sz enc l xs F := by
  obtain ⟨h1, h2, h3⟩ := o
  refine ⟨h1, h2, h3.imp id ?_⟩
  rintro ⟨b, cs, e1, rfl, ⟨t, e3⟩, e4⟩
  exact ⟨b, cs, e1, rfl, ⟨t, by rw [hs b (List.mem_singleton.2 rfl)]; exact e3⟩, e4⟩
theorem OwnF.mv {F G G' : List Nat} {h' : Hp} (o : OwnF h sz enc l xs F) (a : Mv G h G' h') (hd : ∀ b ∈ F, b ∉ G) : OwnF h' sz enc l xs F := by
  obtain ⟨h1, h2, h3⟩ := o
  refine ⟨h1, h2, h3.imp id ?_⟩
  rintro ⟨b, cs, e1, rfl, e3, e4⟩
  exact ⟨b, cs, e1, rfl, e3.mv a (hd b (List.mem_singleton.2 rfl)), e4⟩
theorem newF {cs : List Value} {K : Addr → Hp → Prop} (hc : cs = xs.flatMap enc) (henc : ∀ x, (enc x).length = sz)
    (hk : ∀ b h', h b = none → h ≤ h' → Mv [] h [b] h' → OwnF h' sz enc ⟨some ⟨b, 0, none⟩, xs.length, xs.length⟩ xs [b] → K ⟨b, 0, none⟩ h') : NewW cs K h := by
  intro b t hb
  refine hk b _ hb (set_new hb) (Mv.new hb) ⟨rfl, Nat.le_refl _, .inr ⟨b, cs, rfl, rfl, ⟨t, set_self⟩, ?_, ?_⟩⟩
  · rw [hc, flat_len henc]
  · have : (xs.length * sz) = (xs.flatMap enc).length := (flat_len henc xs).symm
    show List.take (xs.length * sz) cs = _
    rw [this, hc, List.take_length]
theorem appF {F : List Nat} {zero : List Value} {bytes : Nat} {x : Sl} {ys : List α} {K : Sl → Hp → Prop} (o : OwnF h sz enc l xs F) (r : Rw h sz enc x ys) (henc : ∀ x, (enc x).length = sz) (hok : ∀ x, okCells (enc x) = true)
    (hz : zero.length = sz) (hb : xs.length + ys.length ≤ 140737488355328 ∧ (xs.length + ys.length) * bytes ≤ 140737488355328)
    (hk : ∀ l' h' F', OwnF h' sz enc l' (xs ++ ys) F' → Mv F h F' h' → K l' h') : AppendW sz bytes zero l x K h := by
  have hrw := o.rw henc
  obtain ⟨h1, h2, h3⟩ := o
  obtain ⟨hx1, hx2⟩ := r
  refine ⟨ys.flatMap enc, by rw [hx1]; exact hx2, xs.flatMap enc, by rw [h1]; exact hrw.2, by rw [h1, hx1]; exact hb, flat_ok hok ys, fun hcap => ?_, fun hcap c b t hc hbn => ?_⟩
  · rcases h3 with ⟨e, ec, rfl⟩ | ⟨b, cs, e, rfl, hbk, hl, ht⟩
    · have e1 : ys.length = 0 := by omega
      have e2 : ys = [] := List.length_eq_zero_iff.1 e1
      subst e2
      refine ⟨fun a ha => (by rw [e] at ha; cases ha), ?_⟩
      have e3 : putO h l.base (l.len * sz) (([] : List α).flatMap enc) = h := by rw [e]; rfl
      rw [e3, hx1]
      exact hk _ h [] ⟨by simp [h1], by simpa using h2, .inl ⟨e, ec, rfl⟩⟩ (Mv.refl _ _)
    · have hle : l.len * sz + (ys.flatMap enc).length ≤ cs.length := by
        rw [hl, flat_len henc, ← Nat.add_mul]
        exact Nat.mul_le_mul_right sz (by omega)
      obtain ⟨p1, p2⟩ := hbk.put hle
      refine ⟨fun a ha => ?_, ?_⟩
      · rw [e] at ha; cases ha
        rw [box_add, Nat.zero_add]
        refine hbk.stOk _ ?_
        rw [hx1, ← flat_len henc ys]
        exact hle
      · have e3 : putO h l.base (l.len * sz) (ys.flatMap enc) = putL h ⟨b, l.len * sz, none⟩ (ys.flatMap enc) 0 := by
          rw [e]
          simp only [putO, box_add, Nat.zero_add]
        rw [e3]
        refine hk _ _ [b] ⟨by simp [h1, hx1], hcap, .inr ⟨b, _, e, rfl, p1, ?_, ?_⟩⟩ (Mv.of_other p2)
        · rw [← hl]
          simp only [List.length_append, List.length_take, List.length_drop]
          omega
        · have e4 : (l.len + x.len) * sz = (cs.take (l.len * sz) ++ ys.flatMap enc).length := by
            rw [List.length_append, ht, flat_len henc, flat_len henc, h1, hx1, Nat.add_mul]
          show List.take ((l.len + x.len) * sz) _ = _
          rw [e4, List.take_left, ht, List.flatMap_append]
  · have hn : Mv F h [b] (h.set b (.cells (xs.flatMap enc ++ ys.flatMap enc ++ zerosL zero (c - (l.len + x.len))).toArray t (0, 0))) :=
      (Mv.new hbn).sub (fun b hb => by cases hb) fun b hb => .inl hb
    refine hk _ _ [b] ⟨by simp [h1, hx1], hc, .inr ⟨b, xs.flatMap enc ++ ys.flatMap enc ++ zerosL zero (c - (l.len + x.len)), rfl, rfl, ⟨t, set_self⟩, ?_, ?_⟩⟩ hn
    · rw [List.length_append, List.length_append, flat_len henc, flat_len henc, zerosL_len, hz, ← Nat.add_mul, ← Nat.add_mul]
      show _ = c * sz
      congr 1
      omega
    · have e4 : (l.len + x.len) * sz = (xs.flatMap enc ++ ys.flatMap enc).length := by
        rw [List.length_append, flat_len henc, flat_len henc, h1, hx1, Nat.add_mul]
      show List.take ((l.len + x.len) * sz) _ = _
      rw [e4, List.take_left, List.flatMap_append]
end
end Lf

namespace Lf
open Go
theorem mv_same {F F' E : List Nat} {k k' : Hp} (m : Mv F k F' k') (hE : ∀ c ∈ E, k c ≠ none) (hd : ∀ c ∈ E, c ∉ F) : ∀ c ∈ E, k' c = k c := fun c hc => by
  cases hk : k c with
  | none => exact absurd hk (hE c hc)
  | some o => exact m.keep c o hk (hd c hc)
theorem mv_disj {F F' E : List Nat} {k k' : Hp} (m : Mv F k F' k') (hE : ∀ c ∈ E, k c ≠ none) (hd : ∀ c ∈ E, c ∉ F) : ∀ c ∈ E, c ∉ F' := fun c hc hf => by
  rcases m.from_ c hf with h | h
  · exact hd c hc h
  · exact hE c hc h
theorem Mv.less {F F' E : List Nat} {h h' : Hp} (a : Mv F h F' h') (hs : ∀ c ∈ E, c ∈ F') : Mv F h E h' := ⟨a.keep, fun b hb => a.from_ b (hs b hb)⟩
structure Regs (h k : Hp) (Rg : List (List Nat)) : Prop where
  sep : ∀ (a b : Nat) E G, Rg[a]? = some E → Rg[b]? = some G → a ≠ b → ∀ c ∈ E, c ∉ G
  known : ∀ (a : Nat) E, Rg[a]? = some E → ∀ c ∈ E, k c ≠ none
  fresh : ∀ (a : Nat) E, Rg[a]? = some E → ∀ c ∈ E, h c = none
  le : h ≤ k
theorem Regs.grow {h k k' : Hp} {Rg : List (List Nat)} (r : Regs h k Rg) (hl : k ≤ k') : Regs h k' Rg :=
  ⟨r.sep, fun a E hE c hc e => r.known a E hE c hc (none_of_le hl e), r.fresh, Hp.le_trans r.le hl⟩
theorem Regs.step {h k k' : Hp} {Rg : List (List Nat)} {j : Nat} {F F' : List Nat} (r : Regs h k Rg) (hj : Rg[j]? = some F) (m : Mv F k F' k') (kn : ∀ c ∈ F', k' c ≠ none) : Regs h k' (Rg.set j F') := by
  have hjl : j < Rg.length := (List.getElem?_eq_some_iff.1 hj).1
  have hget : ∀ a E, (Rg.set j F')[a]? = some E → (a = j ∧ E = F') ∨ (a ≠ j ∧ Rg[a]? = some E) := by
    intro a E hE
    rw [List.getElem?_set, if_pos hjl] at hE
    split at hE
    · rename_i e
      exact .inl ⟨e.symm, (Option.some.inj hE).symm⟩
    · rename_i e
      exact .inr ⟨fun e' => e e'.symm, hE⟩
  have hdis : ∀ a E, a ≠ j → Rg[a]? = some E → ∀ c ∈ E, c ∉ F' := fun a E hne hE => mv_disj m (r.known a E hE) (r.sep a j E F hE hj hne)
  have hfr : ∀ c ∈ F', h c = none := (m.le r.le (r.fresh j F hj)).2
  refine ⟨fun a b E G hE hG hab c hc hc' => ?_, fun a E hE c hc => ?_, fun a E hE c hc => ?_, (m.le r.le (r.fresh j F hj)).1⟩
  · rcases hget a E hE with ⟨rfl, rfl⟩ | ⟨h1, h2⟩
    · rcases hget b G hG with ⟨rfl, rfl⟩ | ⟨h3, h4⟩
      · exact hab rfl
      · exact hdis b G h3 h4 c hc' hc
    · rcases hget b G hG with ⟨rfl, rfl⟩ | ⟨h3, h4⟩
      · exact hdis a E h1 h2 c hc hc'
      · exact r.sep a b E G h2 h4 hab c hc hc'
  · rcases hget a E hE with ⟨rfl, rfl⟩ | ⟨h1, h2⟩
    · exact kn c hc
    · have := mv_same m (r.known a E h2) (r.sep a j E F h2 hj h1) c hc
      rw [this]
      exact r.known a E h2 c hc
  · rcases hget a E hE with ⟨rfl, rfl⟩ | ⟨h1, h2⟩
    · exact hfr c hc
    · exact r.fresh a E h2 c hc
theorem Regs.other {h k k' : Hp} {Rg : List (List Nat)} {j a : Nat} {F F' E : List Nat} (r : Regs h k Rg) (hj : Rg[j]? = some F) (m : Mv F k F' k') (ha : Rg[a]? = some E) (hne : a ≠ j) : ∀ c ∈ E, k' c = k c :=
  mv_same m (r.known a E ha) (r.sep a j E F ha hj hne)
theorem Regs.push {h k k' : Hp} {Rg : List (List Nat)} {E : List Nat} (r : Regs h k Rg) (hl : k ≤ k') (hn : ∀ c ∈ E, k c = none) (kn : ∀ c ∈ E, k' c ≠ none) : Regs h k' (Rg ++ [E]) := by
  have hget : ∀ a G, (Rg ++ [E])[a]? = some G → (a = Rg.length ∧ G = E) ∨ (a < Rg.length ∧ Rg[a]? = some G) := by
    intro a G hG
    by_cases h1 : a < Rg.length
    · rw [List.getElem?_append_left h1] at hG
      exact .inr ⟨h1, hG⟩
    · rw [List.getElem?_append_right (by omega)] at hG
      have h2 : a - Rg.length = 0 := by
        have := (List.getElem?_eq_some_iff.1 hG).1
        simp at this
        omega
      rw [h2] at hG
      exact .inl ⟨by omega, (Option.some.inj hG).symm⟩
  refine ⟨fun a b A B hA hB hab c hc hc' => ?_, fun a A hA c hc => ?_, fun a A hA c hc => ?_, Hp.le_trans r.le hl⟩
  · rcases hget a A hA with ⟨rfl, rfl⟩ | ⟨h1, h2⟩
    · rcases hget b B hB with ⟨rfl, rfl⟩ | ⟨h3, h4⟩
      · exact hab rfl
      · exact r.known b B h4 c hc' (hn c hc)
    · rcases hget b B hB with ⟨rfl, rfl⟩ | ⟨h3, h4⟩
      · exact r.known a A h2 c hc (hn c hc')
      · exact r.sep a b A B h2 h4 hab c hc hc'
  · rcases hget a A hA with ⟨rfl, rfl⟩ | ⟨h1, h2⟩
    · exact kn c hc
    · exact fun e => r.known a A h2 c hc (none_of_le hl e)
  · rcases hget a A hA with ⟨rfl, rfl⟩ | ⟨h1, h2⟩
    · exact none_of_le r.le (hn c hc)
    · exact r.fresh a A h2 c hc
end Lf

namespace Lf
open Go
section
variable {P : Program} {h : Hp}
end
end Lf

namespace Lf
open Go
section
variable {α : Type} {h : Hp} {sz : Nat} {enc : α → List Value} {l : Sl} {xs : List α}
theorem Rw.fld (r : Rw h sz enc l xs) (henc : ∀ x, (enc x).length = sz) (hsz : 0 < sz) {sh : Shape} (g : α → sh.T) {j : Nat} (hg : ∀ x, ((enc x).drop j).take (cellsL (sh.enc (g x))).length = cellsL (sh.enc (g x))) {i : Int} (h0 : 0 ≤ i) (h1 : i < (xs.length : Int))
    {K : sh.T → Prop} (hk : ∀ x, xs[i.toNat]? = some x → K (g x)) : InB l.base l.len i ∧ LdW none sh h ((sat l.base sz i).add j) K := by
  obtain ⟨e1, x, hx, hl⟩ := r.read henc hsz h0 (by rw [r.1]; exact h1)
  refine ⟨e1, g x, fun q v hv => ?_, hk x hx⟩
  rw [add_add]
  refine hl (j + q) v ?_
  rw [← hg x, List.getElem?_take] at hv
  split at hv
  · rw [List.getElem?_drop] at hv; exact hv
  · cases hv
theorem Rw.fldC (r : Rw h sz enc l xs) (henc : ∀ x, (enc x).length = sz) (hsz : 0 < sz) {sh : Shape} (g : α → sh.T) {j : Nat} (hg : ∀ x, ((enc x).drop j).take (cellsL (sh.enc (g x))).length = cellsL (sh.enc (g x))) (x0 : sh.T) {c : Bool} {i : Int} (h0 : c = true → 0 ≤ i ∧ i < (xs.length : Int))
    {K : sh.T → Prop} (hk : ∀ y, (c = true → ∃ x, xs[i.toNat]? = some x ∧ y = g x) → K y) : (c = true → InB l.base l.len i) ∧ LdW (some c) sh h ((sat l.base sz i).add j) K := by
  cases c with
  | false => exact ⟨fun e => (by cases e), x0, fun e => (by cases e), hk x0 fun e => (by cases e)⟩
  | true =>
    obtain ⟨h0, h1⟩ := h0 rfl
    obtain ⟨e1, y, hy, hk'⟩ := r.fld henc hsz g hg h0 h1 (K := fun y => ∃ x, xs[i.toNat]? = some x ∧ y = g x) fun x hx => ⟨x, hx, rfl⟩
    exact ⟨fun _ => e1, y, fun _ => hy, hk y fun _ => hk'⟩
theorem Blk.rd {b : Nat} {cs new : List Value} (k : Blk h b cs) {off n : Nat} (hn : new.length = n) (e : (cs.drop off).take n = new) : RdCells h (some ⟨b, off, none⟩) n new := ⟨hn, .inr ⟨_, rfl, k.ldIs e⟩⟩
theorem set_split {xs : List α} {i : Nat} (x : α) (hi : i < xs.length) : xs.set i x = xs.take i ++ x :: xs.drop (i + 1) := by
  rw [List.set_eq_take_append_cons_drop, if_pos hi]
theorem OwnF.store {F : List Nat} (o : OwnF h sz enc l xs F) (henc : ∀ x, (enc x).length = sz) {i : Int} (h0 : 0 ≤ i) (h1 : i < (xs.length : Int)) (x : α) {K : Hp → Prop} (hk : ∀ h', OwnF h' sz enc l (xs.set i.toNat x) F → Mv F h F h' → K h') :
    InB l.base l.len i ∧ StW h (sat l.base sz i) (enc x) K := by
  obtain ⟨o1, o2, o3⟩ := o
  rcases o3 with ⟨_, e2, _⟩ | ⟨b, cs, e1, rfl, kb, e4, e5⟩
  · omega
  · refine ⟨⟨by rw [e1]; simp, h0, by omega⟩, ?_⟩
    have hi : i.toNat < xs.length := by omega
    have ha : sat l.base sz i = ⟨b, i.toNat * sz, none⟩ := by unfold sat; rw [e1, Option.getD_some, box_add, Nat.zero_add]
    rw [ha]
    have hmul : i.toNat * sz + sz ≤ l.len * sz := by
      have := Nat.mul_le_mul_right sz (show i.toNat + 1 ≤ l.len by omega)
      rw [Nat.add_mul, Nat.one_mul] at this
      exact this
    have hmul2 : l.len * sz ≤ l.cap * sz := Nat.mul_le_mul_right sz o2
    refine stW_blk kb (by rw [henc, e4]; omega) fun h' m' k' => ?_
    rw [henc] at k'
    refine hk h' ⟨by simp [o1], o2, .inr ⟨b, _, e1, rfl, k', ?_, ?_⟩⟩ m'
    · simp only [List.length_append, List.length_take, List.length_drop, henc, e4]
      omega
    · rw [set_split x hi]
      have t1 : cs.take (i.toNat * sz) = (xs.take i.toNat).flatMap enc := by
        rw [flat_take henc, ← e5, List.take_take]; congr 1; omega
      have t2 : (cs.drop (i.toNat * sz + sz)).take (l.len * sz - (i.toNat * sz + sz)) = (xs.drop (i.toNat + 1)).flatMap enc := by
        rw [flat_drop henc, ← e5, Nat.add_mul, Nat.one_mul, List.drop_take]
      have hl1 : (cs.take (i.toNat * sz) ++ enc x).length = i.toNat * sz + sz := by
        rw [List.length_append, List.length_take, henc, e4]; omega
      rw [List.take_append, hl1, t2, List.take_of_length_le (by rw [hl1]; exact hmul), t1]
      simp
end
end Lf

namespace Lf
open Go
def cutH (k : Hp) (R : List Nat) : Hp := fun b => if b ∈ R then none else k b
theorem cut_le {k : Hp} {R : List Nat} : cutH k R ≤ k := fun b o e => by
  unfold cutH at e
  split at e
  · cases e
  · exact e
theorem cut_none {k : Hp} {R : List Nat} {b : Nat} (h : b ∈ R) : cutH k R b = none := by
  unfold cutH
  rw [if_pos h]
theorem cut_eq {k : Hp} {R : List Nat} {b : Nat} (h : b ∉ R) : cutH k R b = k b := by
  unfold cutH
  rw [if_neg h]
theorem le_cut {d k : Hp} {R : List Nat} (hl : d ≤ k) (hn : ∀ b ∈ R, d b = none) : d ≤ cutH k R := fun b o e => by
  rw [cut_eq fun hb => by rw [hn b hb] at e; cases e]
  exact hl b o e
theorem hcell_same {h h' : Hp} {a : Addr} (e : h' a.block = h a.block) : hcell h' a = hcell h a := by
  unfold hcell
  rw [e]
theorem addr_block (a : Addr) (n : Nat) : (a.add n).block = a.block := by
  unfold Addr.add
  split <;> rfl
theorem ldIs_same {h h' : Hp} {a : Addr} {cs : List Value} (l : LdIs h a cs) (e : h' a.block = h a.block) : LdIs h' a cs := fun i v hv => by
  have : hcell h' (a.add i) = hcell h (a.add i) := hcell_same (a := a.add i) (by rw [addr_block]; exact e)
  rw [this]
  exact l i v hv
section
variable {α : Type} {h h' : Hp} {sz : Nat} {enc : α → List Value} {l : Sl} {xs : List α} {F : List Nat}
theorem Rw.same (r : Rw h sz enc l xs) (e : ∀ a, l.base = some a → h' a.block = h a.block) : Rw h' sz enc l xs := by
  obtain ⟨h1, h2, h3⟩ := r
  refine ⟨h1, h2, h3.imp id ?_⟩
  rintro ⟨a, ha, hl⟩
  exact ⟨a, ha, ldIs_same hl (e a ha)⟩
theorem Rw.nil {l : Sl} (hl : l.len = 0) : Rw h sz enc l ([] : List α) := ⟨hl, (by simp), .inl (by simp)⟩
theorem OwnF.grow (o : OwnF h sz enc l xs F) (hl : h ≤ h') : OwnF h' sz enc l xs F := by
  obtain ⟨h1, h2, h3⟩ := o
  refine ⟨h1, h2, h3.imp id ?_⟩
  rintro ⟨b, cs, e1, rfl, e3, e4⟩
  exact ⟨b, cs, e1, rfl, e3.le hl, e4⟩
theorem OwnF.cut {R : List Nat} (o : OwnF h sz enc l xs F) (hd : ∀ b ∈ F, b ∉ R) : OwnF (cutH h R) sz enc l xs F := o.same fun b hb => cut_eq (hd b hb)
theorem OwnF.base (o : OwnF h sz enc l xs F) {a : Addr} (ha : l.base = some a) : F = [a.block] := by
  obtain ⟨_, _, h3⟩ := o
  rcases h3 with ⟨e, _⟩ | ⟨b, cs, e1, rfl, _⟩
  · rw [e] at ha; cases ha
  · rw [e1] at ha; cases ha; rfl
end
end Lf

namespace Lf
open Go
theorem hcell_known {h : Hp} {a : Addr} {v : Value} (e : hcell h a = some v) : ∃ o, h a.block = some o := by
  unfold hcell at e
  split at e
  · rename_i c t f hb
    exact ⟨_, hb⟩
  · cases e
section
variable {α : Type} {h h' : Hp} {sz : Nat} {enc : α → List Value} {l : Sl} {xs : List α} {F F' : List Nat}
theorem Rw.known (r : Rw h sz enc l xs) {a : Addr} (ha : l.base = some a) (h0 : xs.length * sz ≠ 0) : h a.block ≠ none := by
  obtain ⟨h1, h2, h3⟩ := r
  obtain ⟨a', ha', hl⟩ := h3.resolve_left h0
  rw [ha] at ha'
  cases ha'
  have hne : (xs.flatMap enc).length ≠ 0 := by rw [h2]; exact h0
  obtain ⟨v, hv⟩ : ∃ v, (xs.flatMap enc)[0]? = some v := ⟨(xs.flatMap enc)[0]'(by omega), List.getElem?_eq_getElem (by omega)⟩
  obtain ⟨o, ho⟩ := hcell_known (hl 0 v hv)
  rw [addr_block] at ho
  rw [ho]
  simp
end
end Lf

namespace Lf
structure PIns where
 op : Int
 a : Int
 b : Int
 c : Int
 imm : Int
def fieldsP (op : Int) : Bool × Bool × Bool × Bool :=
 if op = 1 then (true, false, false, true)
 else if op = 2 ∨ op = 20 ∨ op = 21 ∨ op = 25 ∨ op = 26 then (true, true, false, false)
 else if (3 ≤ op ∧ op ≤ 14) ∨ (15 ≤ op ∧ op ≤ 19) ∨ op = 24 then (true, true, true, false)
 else if op = 22 ∨ op = 29 ∨ op = 30 then (false, false, false, true)
 else if op = 23 then (true, false, false, true)
 else if op = 27 ∨ op = 28 ∨ op = 31 ∨ op = 32 ∨ op = 33 then (true, false, false, false)
 else (false, false, false, false)
def regP (has : Bool) (n : Int) : Int := if has = false ∧ n ≠ 0 then 11 else if n < 0 ∨ 8 ≤ n then 10 else 0
def wrongP (x : PIns) (n locks : Int) : Int × Int :=
 if x.op < 0 ∨ 34 ≤ x.op then (9, 0)
 else if regP (fieldsP x.op).1 x.a ≠ 0 then (regP (fieldsP x.op).1 x.a, 1)
 else if regP (fieldsP x.op).2.1 x.b ≠ 0 then (regP (fieldsP x.op).2.1 x.b, 2)
 else if regP (fieldsP x.op).2.2.1 x.c ≠ 0 then (regP (fieldsP x.op).2.2.1 x.c, 3)
 else if (fieldsP x.op).2.2.2 = false ∧ x.imm ≠ 0 then (11, 4)
 else if (x.op = 22 ∨ x.op = 23) ∧ (x.imm < 0 ∨ n < x.imm) then (12, 4)
 else if (x.op = 29 ∨ x.op = 30) ∧ (x.imm < 0 ∨ locks ≤ x.imm) then (13, 4)
 else (0, 0)
def codeR (n locks : Int) : List PIns → Int → Int × Int
 | [], _ => (0, 0)
 | x :: r, i => if (wrongP x n locks).1 ≠ 0 then ((wrongP x n locks).1, i) else codeR n locks r (i + 1)
def codeP (l : List PIns) (locks : Int) : Int × Int :=
 if locks < 0 ∨ 8 < locks then (1, 0) else if 256 < l.length then (3, 256) else codeR l.length locks l 0
structure PProc where
 part : Int
 code : List PIns
structure PCfg where
 labels : List Int
 table : List Int
 fuel : Int
 lane : Int
 locks : Int
 log : Int
 procs : List PProc
def within (n a b : Int) : Bool := decide (a ≤ n) && decide (n ≤ b)
def procsR (parts locks : Int) : List PProc → Int → Int × Int
 | [], _ => (0, 0)
 | p :: r, i => if within p.part 0 (parts - 1) = false then (2, 7 + i) else if (codeP p.code locks).1 ≠ 0 then ((codeP p.code locks).1, 7 + i) else procsR parts locks r (i + 1)
def cfgP (m : Int) (c : PCfg) : Int × Int :=
 if m ≠ 0 then (m, 0)
 else if c.table = [] then (1, 1)
 else if 64 < c.table.length then (3, 1)
 else if c.table.all (fun p => within p 0 (c.labels.length - 1)) = false then (2, 1)
 else if within c.fuel 1 256 = false then (2, 2)
 else if within c.lane 1 64 = false then (2, 3)
 else if within c.locks 0 8 = false then (2, 4)
 else if within c.log 0 4096 = false then (2, 5)
 else if c.procs = [] then (1, 6)
 else if 32 < c.procs.length then (3, 6)
 else procsR c.labels.length c.locks c.procs 0
def leB (n : Int) : Nat → List UInt8
 | 0 => []
 | k + 1 => UInt8.ofNat (n % 256).toNat :: leB (n / 256) k
def valB : List UInt8 → Nat
 | [] => 0
 | b :: r => b.toNat + 256 * valB r
theorem leB_len (n : Int) (k : Nat) : (leB n k).length = k := by
 induction k generalizing n with
 | zero => rfl
 | succ k ih => simp [leB, ih]
theorem valB_leB (n : Int) (k : Nat) : (valB (leB n k) : Int) = n % ((256 ^ k : Nat) : Int) := by
 induction k generalizing n with
 | zero =>
  show ((0 : Nat) : Int) = n % 1
  omega
 | succ k ih =>
  have h1 : (UInt8.ofNat (n % 256).toNat).toNat = (n % 256).toNat := by
   rw [UInt8.toNat_ofNat']
   have : (n % 256).toNat < 256 := by omega
   omega
  have h2 := ih (n / 256)
  have e : ((256 ^ (k + 1) : Nat) : Int) = 256 * ((256 ^ k : Nat) : Int) := by
   rw [Nat.pow_succ, Int.natCast_mul, Int.mul_comm]; rfl
  rw [e]
  show (((UInt8.ofNat (n % 256).toNat).toNat + 256 * valB (leB (n / 256) k) : Nat) : Int) = _
  rw [h1]
  generalize ((256 ^ k : Nat) : Int) = q at *
  have h3 : (0 : Int) ≤ n % 256 := by omega
  have h4 := Int.emod_add_mul_ediv n (256 * q)
  have h5 := Int.emod_add_mul_ediv (n / 256) q
  have h6 := Int.emod_add_mul_ediv n 256
  have h7 : n / (256 * q) = n / 256 / q := (Int.ediv_ediv_of_nonneg (by decide)).symm
  rw [h7, Int.mul_assoc] at h4
  rw [Int.natCast_add, Int.natCast_mul, h2, Int.toNat_of_nonneg h3]
  generalize q * (n / 256 / q) = z at *
  generalize n % (256 * q) = y at *
  generalize (n / 256) % q = x at *
  show n % 256 + 256 * x = y
  omega
theorem valB_lt : ∀ l : List UInt8, valB l < 256 ^ l.length
 | [] => by simp [valB]
 | b :: r => by
  have h1 := valB_lt r
  have h2 := b.toNat_lt
  simp only [valB, List.length_cons, Nat.pow_succ]
  omega
theorem leB_valB : ∀ l : List UInt8, leB (valB l : Int) l.length = l
 | [] => rfl
 | b :: r => by
  have h2 := b.toNat_lt
  have e1 : (((b.toNat + 256 * valB r : Nat) : Int) % 256).toNat = b.toNat := by omega
  have e2 : ((b.toNat + 256 * valB r : Nat) : Int) / 256 = (valB r : Int) := by omega
  simp only [valB, List.length_cons, leB]
  rw [e1, e2, leB_valB r]
  simp
def insB (x : PIns) : List UInt8 := leB x.op 1 ++ (leB x.a 1 ++ (leB x.b 1 ++ (leB x.c 1 ++ leB x.imm 8)))
def codeB (l : List PIns) : List UInt8 := l.flatMap insB
def procB (p : PProc) : List UInt8 := leB p.part 1 ++ (leB p.code.length 2 ++ codeB p.code)
def cfgB (c : PCfg) : List UInt8 :=
 [70, 66, 67, 70, 1] ++ (leB c.labels.length 1 ++ (c.labels.flatMap (fun a => leB a 8) ++ (leB c.table.length 1 ++ (c.table.flatMap (fun a => leB a 1) ++
  (leB c.fuel 2 ++ (leB c.lane 1 ++ (leB c.locks 1 ++ (leB c.log 2 ++ (leB c.procs.length 1 ++ c.procs.flatMap procB)))))))))
end Lf

namespace Lf
structure PEntry where
 tick : Int
 proc : Int
 value : Int
structure PWaiter where
 proc : Int
 value : Int
structure PLane where
 values : List Int
 waiters : List PWaiter
 taken : Int
 dropped : Int
structure PProcess where
 state : Int
 pc : Int
 regs : List Int
 cursor : Int
 timer : Int
 fired : Bool
 wake : Int
 lanes : List PLane
structure PPart where
 cursor : Int
 log : List PEntry
 lost : Int
 forbidden : Int
 owners : List Int
 queues : List (List Int)
structure PState where
 tick : Int
 parts : List PPart
 procs : List PProcess
section
variable (c : PCfg) (s : PState)
def ofP (p : Int) (i : Nat) : Prop := 0 ≤ p ∧ ∃ y, c.procs[p.toNat]? = some y ∧ y.part = (i : Int)
def stP (p : Int) (q : PProcess → Prop) : Prop := ∃ x, s.procs[p.toNat]? = some x ∧ q x
def manyP (i : Nat) : Nat := (c.procs.filter fun y => decide (y.part = (i : Int))).length
def Cnt (n : Int) : Prop := 0 ≤ n ∧ n ≤ 65535
def insP (y : PProc) (pc : Int) : Option PIns := if 0 ≤ pc then y.code[pc.toNat]? else none
def LogG (i : Nat) : Int → List PEntry → Prop
 | _, [] => True
 | last, e :: r => last ≤ e.tick ∧ e.tick < s.tick ∧ ofP c e.proc i ∧ LogG i e.tick r
def PartG (i : Nat) (x : PPart) : Prop :=
 (0 ≤ x.cursor ∧ (0 < x.cursor → x.cursor < manyP c i) ∧ (x.log.length : Int) ≤ c.log) ∧ LogG c s i 0 x.log ∧ Cnt x.lost ∧ Cnt x.forbidden ∧ (0 < x.lost → c.log ≤ x.log.length) ∧
 (x.owners.length : Int) = c.locks ∧ (x.queues.length : Int) = c.locks ∧ ∀ p ∈ x.owners, p ≠ -1 → ofP c p i ∧ stP s p fun z => z.state ≠ 5 ∧ z.state ≠ 6
def Used (l : PLane) : Prop := l.values ≠ [] ∨ 0 < l.taken ∨ 0 < l.dropped
def ProcG (fl : Nat → Int → Prop) (x : PProcess) (y : PProc) : Prop :=
 (0 ≤ x.state ∧ x.state ≤ 6) ∧ (0 ≤ x.pc ∧ x.pc ≤ y.code.length) ∧ x.lanes.length = c.labels.length + 1 ∧ (0 ≤ x.cursor ∧ x.cursor < x.lanes.length) ∧
 (0 ≤ x.timer ∧ x.timer ≤ s.tick + 1099511627776) ∧ (0 ≤ x.wake ∧ x.wake ≤ s.tick + 1099511627776) ∧ (0 < x.wake ↔ x.state = 4) ∧
 (x.state = 5 ∨ x.state = 6 → x.timer = 0 ∧ x.fired = false) ∧
 (∀ (i : Nat) l, x.lanes[i]? = some l → (l.values.length : Int) ≤ c.lane ∧ Cnt l.taken ∧ Cnt l.dropped ∧ (Used l → i < c.labels.length → fl i y.part)) ∧
 (x.state = 1 → (∃ n, insP y x.pc = some n ∧ n.op = 25) ∧ (∀ l ∈ x.lanes, l.values = []) ∧ x.fired = false) ∧
 (x.state = 2 → ∃ n, insP y x.pc = some n ∧ n.op = 24) ∧ (x.state = 3 → ∃ n, insP y x.pc = some n ∧ n.op = 29) ∧ (x.state = 4 → ∃ n, insP y x.pc = some n ∧ n.op = 28)
def atP (p : Int) (q : PProcess → PIns → Prop) : Prop := ∃ x y n, s.procs[p.toNat]? = some x ∧ c.procs[p.toNat]? = some y ∧ insP y x.pc = some n ∧ q x n
def SendsP (p v : Int) (r : Nat) : Prop := atP c s p fun x n => x.state = 2 ∧ n.op = 24 ∧ x.regs[n.b.toNat]? = some (r : Int) ∧ x.regs[n.c.toNat]? = some v
def cntQ (p : Int) (x : PPart) : Nat := (x.queues.map fun q => q.countP (fun z => decide (z = p))).sum
def cntW (p : Int) (l : PLane) : Nat := l.waiters.countP fun w => decide (w.proc = p)
def cntL (p : Int) (x : PProcess) : Nat := (x.lanes.map (cntW p)).sum
def WaitsG : Prop :=
 (∀ (i : Nat) x, s.parts[i]? = some x → ∀ (k : Nat) q, x.queues[k]? = some q → ∀ p ∈ q, ofP c p i ∧ (atP c s p fun z n => z.state = 3 ∧ n.imm = (k : Int)) ∧ ∃ o, x.owners[k]? = some o ∧ 0 ≤ o ∧ o ≠ p) ∧
 (∀ (r : Nat) x y, s.procs[r]? = some x → c.procs[r]? = some y → ∀ (i : Nat) l, x.lanes[i]? = some l → ∀ w ∈ l.waiters, (i : Int) = y.part ∧ ofP c w.proc i ∧ (x.state ≠ 5 ∧ x.state ≠ 6) ∧ (l.values.length : Int) = c.lane ∧ SendsP c s w.proc w.value r) ∧
 (∀ (p : Nat) x, s.procs[p]? = some x → (s.parts.map (cntQ (p : Int))).sum + (s.procs.map (cntL (p : Int))).sum = if x.state = 3 ∨ x.state = 2 then 1 else 0)
def SizesP : Prop := (0 ≤ s.tick ∧ s.tick ≤ 4611686018427387904) ∧ s.parts.length = c.labels.length ∧ s.procs.length = c.procs.length
def MayG (fl : Nat → Int → Prop) : Prop :=
 SizesP c s ∧ (∀ (i : Nat) x, s.parts[i]? = some x → PartG c s i x) ∧ (∀ (p : Nat) x y, s.procs[p]? = some x → c.procs[p]? = some y → ProcG c s fl x y) ∧ WaitsG c s
def ofR (p : Int) (i : Nat) : Prop := ofP c p i ∧ stP s p fun z => z.state < 5
def PartR (i : Nat) (x : PPart) : Prop :=
 (0 ≤ x.cursor ∧ (0 < x.cursor → x.cursor < manyP c i)) ∧ Cnt x.lost ∧ Cnt x.forbidden ∧ (0 < x.lost → c.log ≤ x.log.length) ∧
 (∀ (k : Nat) e, x.log[k]? = some e → (0 ≤ e.tick ∧ e.tick ≤ s.tick - 1) ∧ (∀ d, 0 < k → x.log[k - 1]? = some d → d.tick ≤ e.tick) ∧ ofP c e.proc i) ∧
 (∀ (k : Nat) o, x.owners[k]? = some o → (o = -1 ∨ ofR c s o i) ∧ ∀ q, x.queues[k]? = some q → (o = -1 → q = []) ∧ ∀ p ∈ q, ofR c s p i ∧ (stP s p fun z => z.state = 3) ∧ o ≠ p)
def ProcR (fl : Nat → Int → Prop) (x : PProcess) (y : PProc) : Prop :=
 (0 ≤ x.state ∧ x.state ≤ 6) ∧ (0 ≤ x.pc ∧ x.pc ≤ y.code.length) ∧ (0 ≤ x.cursor ∧ x.cursor < x.lanes.length) ∧
 (0 ≤ x.timer ∧ x.timer ≤ s.tick + 1099511627776) ∧ (0 ≤ x.wake ∧ x.wake ≤ s.tick + 1099511627776) ∧ (0 < x.wake ↔ x.state = 4) ∧ (5 ≤ x.state → x.timer = 0 ∧ x.fired = false) ∧
 (∀ (k : Nat) l, x.lanes[k]? = some l → Cnt l.taken ∧ Cnt l.dropped ∧ (k < c.labels.length → Used l → fl k y.part) ∧ (l.waiters ≠ [] → (k : Int) = y.part ∧ x.state < 5 ∧ c.lane ≤ l.values.length) ∧
  ∀ w ∈ l.waiters, (∀ i : Nat, (i : Int) = y.part → ofR c s w.proc i) ∧ stP s w.proc fun z => z.state = 2)
def WaitR (p i : Nat) (x : PProcess) (y : PProc) : Prop :=
 (∀ z, s.parts[i]? = some z → ∀ (k : Nat) q, z.queues[k]? = some q → (p : Int) ∈ q → ∃ n, insP y x.pc = some n ∧ n.op = 29 ∧ n.imm = (k : Int)) ∧
 (∀ (r : Nat) z, s.procs[r]? = some z → ∀ l, z.lanes[i]? = some l → ∀ w ∈ l.waiters, w.proc = (p : Int) → ∃ n, insP y x.pc = some n ∧ n.op = 24 ∧ x.regs[n.b.toNat]? = some (r : Int) ∧ x.regs[n.c.toNat]? = some w.value) ∧
 (∀ z, s.parts[i]? = some z → cntQ (p : Int) z = if x.state = 3 then 1 else 0) ∧ ((s.procs.map fun z => ((z.lanes[i]?).map (cntW (p : Int))).getD 0).sum = if x.state = 2 then 1 else 0) ∧
 (x.state = 1 → (∃ n, insP y x.pc = some n ∧ n.op = 25) ∧ (∀ l ∈ x.lanes, l.values = []) ∧ x.fired = false) ∧ (x.state = 4 → ∃ n, insP y x.pc = some n ∧ n.op = 28)
def SizesR : Prop := SizesP c s ∧ (∀ x ∈ s.parts, (x.owners.length : Int) = c.locks ∧ (x.queues.length : Int) = c.locks ∧ (x.log.length : Int) ≤ c.log) ∧
 ∀ x ∈ s.procs, x.lanes.length = c.labels.length + 1 ∧ ∀ l ∈ x.lanes, (l.values.length : Int) ≤ c.lane
def MayR (fl : Nat → Int → Prop) : Prop :=
 SizesR c s ∧ (∀ (i : Nat) x, s.parts[i]? = some x → PartR c s i x) ∧ (∀ (p : Nat) x y, s.procs[p]? = some x → c.procs[p]? = some y → ProcR c s fl x y) ∧
 ∀ (p i : Nat) x y, s.procs[p]? = some x → c.procs[p]? = some y → y.part = (i : Int) → WaitR s p i x y
end
theorem sum_only {α : Type} (f : α → Nat) : ∀ (l : List α) (i : Nat), (∀ j x, l[j]? = some x → j ≠ i → f x = 0) → (l.map f).sum = ((l[i]?).map f).getD 0
 | [], i, _ => by simp
 | x :: r, 0, h => by
  have : (r.map f).sum = 0 := by
   rw [List.sum_eq_zero_iff_forall_eq_nat]
   intro y hy
   obtain ⟨z, hz, rfl⟩ := List.mem_map.1 hy
   obtain ⟨j, hj⟩ := List.getElem?_of_mem hz
   exact h (j + 1) z (by simpa using hj) (by omega)
  simp [this]
 | x :: r, i + 1, h => by
  have h0 := h 0 x rfl (by omega)
  have := sum_only f r i fun j y hj hne => h (j + 1) y (by simpa using hj) (by omega)
  simp [h0, this]
theorem sum_zero {α : Type} (f : α → Nat) (l : List α) (h : ∀ x ∈ l, f x = 0) : (l.map f).sum = 0 := by
 rw [List.sum_eq_zero_iff_forall_eq_nat]
 intro y hy
 obtain ⟨z, hz, rfl⟩ := List.mem_map.1 hy
 exact h z hz
theorem sum_pos {α : Type} (f : α → Nat) : ∀ (l : List α), 0 < (l.map f).sum → ∃ x ∈ l, 0 < f x
 | [], h => by simp at h
 | x :: r, h => by
  by_cases hx : 0 < f x
  ·exact ⟨x, List.mem_cons_self .., hx⟩
  ·have h2 : 0 < (r.map f).sum := by
    simp at h
    omega
   obtain ⟨y, hy, h3⟩ := sum_pos f r h2
   exact ⟨y, List.mem_cons_of_mem _ hy, h3⟩
end Lf

namespace Lf
section
variable {c : PCfg} {s : PState}
theorem logG_at {i : Nat} : ∀ {l : List PEntry} {last : Int}, LogG c s i last l → ∀ (k : Nat) e, l[k]? = some e → last ≤ e.tick ∧ e.tick < s.tick ∧ ofP c e.proc i ∧ ∀ d, 0 < k → l[k - 1]? = some d → d.tick ≤ e.tick
 | [], _, _, k, e, he => by simp at he
 | x :: r, last, h, 0, e, he => by
  obtain ⟨h1, h2, h3, _⟩ := h
  cases he
  exact ⟨h1, h2, h3, fun d hd => absurd hd (by omega)⟩
 | x :: r, last, h, k + 1, e, he => by
  obtain ⟨h1, h2, h3, h4⟩ := h
  obtain ⟨g1, g2, g3, g4⟩ := logG_at h4 k e (by simpa using he)
  refine ⟨by omega, g2, g3, fun d _ hd => ?_⟩
  cases k with
  | zero =>
   cases hd
   exact g1
  | succ k => exact g4 d (by omega) hd
theorem logG_of {i : Nat} : ∀ {l : List PEntry} {last : Int}, (∀ e, l[0]? = some e → last ≤ e.tick) → (∀ (k : Nat) e, l[k]? = some e → e.tick < s.tick ∧ ofP c e.proc i ∧ ∀ d, 0 < k → l[k - 1]? = some d → d.tick ≤ e.tick) → LogG c s i last l
 | [], _, _, _ => trivial
 | x :: r, last, h0, h => by
  obtain ⟨h1, h2, _⟩ := h 0 x rfl
  refine ⟨h0 x rfl, h1, h2, logG_of (fun e he => ?_) fun k e he => ?_⟩
  ·exact (h 1 e he).2.2 x (by omega) rfl
  ·obtain ⟨g1, g2, g3⟩ := h (k + 1) e he
   refine ⟨g1, g2, fun d hk hd => g3 d (by omega) ?_⟩
   obtain ⟨j, rfl⟩ : ∃ j, k = j + 1 := ⟨k - 1, by omega⟩
   exact hd
theorem ofP_part {p i : Nat} {y : PProc} (h : ofP c (p : Int) i) (hy : c.procs[p]? = some y) : y.part = (i : Int) := by
 obtain ⟨_, z, hz, hp⟩ := h
 rw [Int.toNat_natCast, hy] at hz
 cases hz
 exact hp
theorem cntQ_zero {p : Int} {x : PPart} (h : ∀ (k : Nat) q, x.queues[k]? = some q → p ∉ q) : cntQ p x = 0 := by
 refine sum_zero _ _ fun q hq => ?_
 obtain ⟨k, hk⟩ := List.getElem?_of_mem hq
 rw [List.countP_eq_zero]
 intro z hz e
 have e : z = p := by simpa using e
 exact h k q hk (e ▸ hz)
theorem cntQ_pos {p : Int} {x : PPart} (h : 0 < cntQ p x) : ∃ (k : Nat) (q : List Int), x.queues[k]? = some q ∧ p ∈ q := by
 obtain ⟨q, hq, hp⟩ := sum_pos _ _ h
 obtain ⟨k, hk⟩ := List.getElem?_of_mem hq
 obtain ⟨z, hz, e⟩ := List.countP_pos_iff.1 hp
 have e : z = p := by simpa using e
 exact ⟨k, q, hk, e ▸ hz⟩
theorem cntW_zero {p : Int} {l : PLane} (h : ∀ w ∈ l.waiters, w.proc ≠ p) : cntW p l = 0 := by
 unfold cntW
 rw [List.countP_eq_zero]
 intro w hw e
 exact h w hw (by simpa using e)
theorem cntW_pos {p : Int} {l : PLane} (h : 0 < cntW p l) : ∃ w ∈ l.waiters, w.proc = p := by
 obtain ⟨w, hw, e⟩ := List.countP_pos_iff.1 h
 exact ⟨w, hw, by simpa using e⟩
theorem sumQ {p i : Nat} {y : PProc} (hy : c.procs[p]? = some y) (hi : y.part = (i : Int))
  (hq : ∀ (j : Nat) x, s.parts[j]? = some x → ∀ (k : Nat) q, x.queues[k]? = some q → ∀ z ∈ q, ofP c z j) : (s.parts.map (cntQ (p : Int))).sum = ((s.parts[i]?).map (cntQ (p : Int))).getD 0 := by
 refine sum_only _ _ _ fun j x hx hj => cntQ_zero fun k q hk hp => ?_
 have := ofP_part (hq j x hx k q hk _ hp) hy
 omega
theorem sumL {p i : Nat} {y : PProc} (hy : c.procs[p]? = some y) (hi : y.part = (i : Int))
  (hw : ∀ (r : Nat) x, s.procs[r]? = some x → ∀ (j : Nat) l, x.lanes[j]? = some l → ∀ w ∈ l.waiters, ofP c w.proc j) :
  (s.procs.map (cntL (p : Int))).sum = (s.procs.map fun z => ((z.lanes[i]?).map (cntW (p : Int))).getD 0).sum := by
 congr 1
 refine List.map_congr_left fun z hz => ?_
 obtain ⟨r, hr⟩ := List.getElem?_of_mem hz
 refine sum_only _ _ _ fun j l hl hj => cntW_zero fun w hw2 e => ?_
 have h := hw r z hr j l hl w hw2
 rw [e] at h
 have := ofP_part h hy
 omega
end
section
variable {c : PCfg} {s : PState} {fl : Nat → Int → Prop}
theorem same_at {α : Type} {l : List α} {i : Nat} {a b : α} (h1 : l[i]? = some a) (h2 : l[i]? = some b) : a = b := Option.some.inj (h1.symm.trans h2)
theorem at_len {α β : Type} {l : List α} {m : List β} {i : Nat} {a : α} (h : l[i]? = some a) (hl : l.length = m.length) : ∃ b, m[i]? = some b := by
 have := (List.getElem?_eq_some_iff.1 h).1
 exact ⟨m[i]'(by omega), by rw [List.getElem?_eq_getElem]⟩
theorem mayR_of (hpart : ∀ y ∈ c.procs, 0 ≤ y.part ∧ y.part < c.labels.length) (h : MayG c s fl) : MayR c s fl := by
 obtain ⟨hS, hP, hQ, w1, w2, w3⟩ := h
 have hq : ∀ (j : Nat) x, s.parts[j]? = some x → ∀ (k : Nat) q, x.queues[k]? = some q → ∀ z ∈ q, ofP c z j := fun j x hx k q hk z hz => (w1 j x hx k q hk z hz).1
 have hw : ∀ (r : Nat) x, s.procs[r]? = some x → ∀ (j : Nat) l, x.lanes[j]? = some l → ∀ w ∈ l.waiters, ofP c w.proc j := fun r x hx j l hl w hww => by
  obtain ⟨y, hy⟩ := at_len hx hS.2.2
  exact (w2 r x y hx hy j l hl w hww).2.1
 have st3 : ∀ (p : Int) (q : PProcess → PIns → Prop), (atP c s p fun z n => z.state = 3 ∧ q z n) → stP s p fun z => z.state = 3 := fun p q ⟨x, y, n, h1, h2, h3, h4, h5⟩ => ⟨x, h1, h4⟩
 have st2 : ∀ (p v : Int) (r : Nat), SendsP c s p v r → stP s p fun z => z.state = 2 := fun p v r ⟨x, y, n, h1, h2, h3, h4, h5⟩ => ⟨x, h1, h4⟩
 refine ⟨⟨hS, fun x hx => ?_, fun x hx => ?_⟩, fun i x hx => ?_, fun p x y hx hy => ?_, fun p i x y hx hy hi => ?_⟩
 ·obtain ⟨i, hi⟩ := List.getElem?_of_mem hx
  obtain ⟨⟨_, _, g1⟩, _, _, _, _, g2, g3, _⟩ := hP i x hi
  exact ⟨g2, g3, g1⟩
 ·obtain ⟨p, hp⟩ := List.getElem?_of_mem hx
  obtain ⟨y, hy⟩ := at_len hp hS.2.2
  obtain ⟨_, _, g1, _, _, _, _, _, g2, _⟩ := hQ p x y hp hy
  refine ⟨g1, fun l hl => ?_⟩
  obtain ⟨i, hi⟩ := List.getElem?_of_mem hl
  exact (g2 i l hi).1
 ·obtain ⟨⟨g1, g2, g3⟩, g4, g5, g6, g7, g8, g9, g10⟩ := hP i x hx
  refine ⟨⟨g1, g2⟩, g5, g6, g7, fun k e he => ?_, fun k o ho => ⟨?_, fun q hk => ⟨fun e => ?_, fun p hp => ?_⟩⟩⟩
  ·obtain ⟨a1, a2, a3, a4⟩ := logG_at g4 k e he
   exact ⟨⟨a1, by omega⟩, a4, a3⟩
  ·by_cases e : o = -1
   ·exact .inl e
   ·obtain ⟨a1, z, a2, a3⟩ := g10 o (List.mem_of_getElem? ho) e
    refine .inr ⟨a1, z, a2, ?_⟩
    obtain ⟨y, hy⟩ := at_len a2 hS.2.2
    have := (hQ _ z y a2 hy).1
    omega
  ·cases q with
   | nil => rfl
   | cons p q =>
    obtain ⟨_, _, o', b1, b2, _⟩ := w1 i x hx k _ hk p (List.mem_cons_self ..)
    have := same_at ho b1
    omega
  ·obtain ⟨b0, b1, o', b2, b3, b4⟩ := w1 i x hx k q hk p hp
   obtain ⟨z, c1, c2⟩ := st3 p _ b1
   have := same_at ho b2
   subst this
   exact ⟨⟨b0, z, c1, by omega⟩, ⟨z, c1, c2⟩, b4⟩
 ·obtain ⟨g1, g2, g3, g4, g5, g6, g7, g8, g9, _⟩ := hQ p x y hx hy
  refine ⟨g1, g2, g4, g5, g6, g7, fun e => g8 (by omega), fun k l hl => ?_⟩
  obtain ⟨a1, a2, a3, a4⟩ := g9 k l hl
  refine ⟨a2, a3, fun hk hu => a4 hu hk, fun hne => ?_, fun w hww => ?_⟩
  ·obtain ⟨w, hww⟩ := List.exists_mem_of_ne_nil _ hne
   obtain ⟨b1, b2, b3, b4, b5⟩ := w2 p x y hx hy k l hl w hww
   exact ⟨b1, by omega, by omega⟩
  ·obtain ⟨b1, b2, b3, b4, b5⟩ := w2 p x y hx hy k l hl w hww
   obtain ⟨z, c1, c2⟩ := st2 _ _ _ b5
   refine ⟨fun i hi => ?_, z, c1, c2⟩
   have : k = i := by omega
   subst this
   exact ⟨b2, z, c1, by omega⟩
 ·obtain ⟨g1, _, _, _, _, _, _, _, _, g10, g11, g12, g13⟩ := hQ p x y hx hy
  have e3 : ∀ z, s.parts[i]? = some z → ∀ (k : Nat) q, z.queues[k]? = some q → (p : Int) ∈ q → x.state = 3 ∧ ∃ n, insP y x.pc = some n ∧ n.op = 29 ∧ n.imm = (k : Int) := fun z hz k q hk hpq => by
   obtain ⟨_, ⟨x', y', n, b1, b2, b3, b4, b5⟩, _⟩ := w1 i z hz k q hk p hpq
   rw [Int.toNat_natCast] at b1 b2
   obtain rfl := same_at hx b1
   obtain rfl := same_at hy b2
   obtain ⟨n', c1, c2⟩ := g12 b4
   rw [b3] at c1
   cases c1
   exact ⟨b4, n, b3, c2, b5⟩
  have e2 : ∀ (r : Nat) z, s.procs[r]? = some z → ∀ l, z.lanes[i]? = some l → ∀ w ∈ l.waiters, w.proc = (p : Int) → x.state = 2 ∧ ∃ n, insP y x.pc = some n ∧ n.op = 24 ∧ x.regs[n.b.toNat]? = some (r : Int) ∧ x.regs[n.c.toNat]? = some w.value := fun r z hz l hl w hww hwp => by
   obtain ⟨y', hy'⟩ := at_len hz hS.2.2
   obtain ⟨_, _, _, _, x', y'', n, b1, b2, b3, b4, b5, b6, b7⟩ := w2 r z y' hz hy' i l hl w hww
   rw [hwp, Int.toNat_natCast] at b1 b2
   obtain rfl := same_at hx b1
   obtain rfl := same_at hy b2
   exact ⟨b4, n, b3, b5, b6, b7⟩
  have t := w3 p x hx
  rw [sumQ hy hi hq, sumL hy hi hw] at t
  have z2 : x.state ≠ 2 → (s.procs.map fun z => ((z.lanes[i]?).map (cntW (p : Int))).getD 0).sum = 0 := fun hne => by
   refine sum_zero _ _ fun z hz => ?_
   obtain ⟨r, hr⟩ := List.getElem?_of_mem hz
   cases hl : z.lanes[i]? with
   | none => rfl
   | some l => exact cntW_zero fun w hww hwp => hne (e2 r z hr l hl w hww hwp).1
  have z3 : x.state ≠ 3 → ((s.parts[i]?).map (cntQ (p : Int))).getD 0 = 0 := fun hne => by
   cases hz : s.parts[i]? with
   | none => rfl
   | some z => exact cntQ_zero fun k q hk hpq => hne (e3 z hz k q hk hpq).1
  refine ⟨fun z hz k q hk hpq => (e3 z hz k q hk hpq).2, fun r z hz l hl w hww hwp => (e2 r z hz l hl w hww hwp).2, fun z hz => ?_, ?_, g10, g13⟩
  ·rw [hz] at t z3
   have t : cntQ (p : Int) z + _ = _ := t
   have z3 : x.state ≠ 3 → cntQ (p : Int) z = 0 := z3
   by_cases h3 : x.state = 3
   ·rw [z2 (by omega), if_pos (.inl h3)] at t
    rw [if_pos h3]; omega
   ·rw [if_neg h3, z3 h3]
  ·by_cases h2 : x.state = 2
   ·rw [z3 (by omega), if_pos (.inr h2)] at t
    rw [if_pos h2]; omega
   ·rw [if_neg h2, z2 h2]
theorem mayG_of (hpart : ∀ y ∈ c.procs, 0 ≤ y.part ∧ y.part < c.labels.length) (h : MayR c s fl) : MayG c s fl := by
 obtain ⟨⟨hS, s1, s2⟩, hP, hQ, hW⟩ := h
 have hpt : ∀ (p : Nat) y, c.procs[p]? = some y → ∃ i : Nat, y.part = (i : Int) ∧ ∃ z, s.parts[i]? = some z := fun p y hy => by
  obtain ⟨a1, a2⟩ := hpart y (List.mem_of_getElem? hy)
  refine ⟨y.part.toNat, by omega, s.parts[y.part.toNat]'(by have := hS.2.1; omega), by rw [List.getElem?_eq_getElem]⟩
 have own : ∀ (i : Nat) x, s.parts[i]? = some x → ∀ (k : Nat) q, x.queues[k]? = some q → ∃ o, x.owners[k]? = some o := fun i x hx k q hk => by
  obtain ⟨a1, a2, _⟩ := s1 x (List.mem_of_getElem? hx)
  exact at_len hk (by omega)
 have hq : ∀ (j : Nat) x, s.parts[j]? = some x → ∀ (k : Nat) q, x.queues[k]? = some q → ∀ z ∈ q, ofP c z j := fun j x hx k q hk z hz => by
  obtain ⟨o, ho⟩ := own j x hx k q hk
  exact ((((hP j x hx).2.2.2.2.2 k o ho).2 q hk).2 z hz).1.1
 have hw : ∀ (r : Nat) x, s.procs[r]? = some x → ∀ (j : Nat) l, x.lanes[j]? = some l → ∀ w ∈ l.waiters, ofP c w.proc j := fun r x hx j l hl w hww => by
  obtain ⟨y, hy⟩ := at_len hx hS.2.2
  obtain ⟨_, _, _, b1, b2⟩ := (hQ r x y hx hy).2.2.2.2.2.2.2 j l hl
  exact ((b2 w hww).1 j (b1 (List.ne_nil_of_mem hww)).1).1
 refine ⟨hS, fun i x hx => ?_, fun p x y hx hy => ?_, fun i x hx k q hk p hp => ?_, fun r x y hx hy i l hl w hww => ?_, fun p x hx => ?_⟩
 ·obtain ⟨a1, a2, a3⟩ := s1 x (List.mem_of_getElem? hx)
  obtain ⟨g1, g2, g3, g4, g5, g6⟩ := hP i x hx
  refine ⟨⟨g1.1, g1.2, a3⟩, logG_of (fun e he => (g5 0 e he).1.1) (fun k e he => ?_), g2, g3, g4, a1, a2, fun p hp hne => ?_⟩
  ·obtain ⟨b1, b2, b3⟩ := g5 k e he
   exact ⟨by omega, b3, b2⟩
  ·obtain ⟨k, hk⟩ := List.getElem?_of_mem hp
   obtain ⟨b1, z, b2, b3⟩ := (g6 k p hk).1.resolve_left hne
   exact ⟨b1, z, b2, by omega, by omega⟩
 ·obtain ⟨a1, a2⟩ := s2 x (List.mem_of_getElem? hx)
  obtain ⟨g1, g2, g3, g4, g5, g6, g7, g8⟩ := hQ p x y hx hy
  obtain ⟨i, hi, z, hz⟩ := hpt p y hy
  obtain ⟨c1, c2, c3, c4, c5, c6⟩ := hW p i x y hx hy hi
  refine ⟨g1, g2, a1, g3, g4, g5, g6, fun e => g7 (by omega), fun k l hl => ?_, c5, fun h2 => ?_, fun h3 => ?_, c6⟩
  ·obtain ⟨b1, b2, b3, _⟩ := g8 k l hl
   exact ⟨a2 l (List.mem_of_getElem? hl), b1, b2, fun hu hk => b3 hk hu⟩
  ·rw [if_pos h2] at c4
   obtain ⟨z', hz', hpos⟩ := sum_pos _ _ (show 0 < _ by rw [c4]; omega)
   obtain ⟨r, hr⟩ := List.getElem?_of_mem hz'
   cases hl : z'.lanes[i]? with
   | none => rw [hl] at hpos; simp at hpos
   | some l =>
    rw [hl] at hpos
    obtain ⟨w, hww, hwp⟩ := cntW_pos hpos
    obtain ⟨n, d1, d2, _⟩ := c2 r z' hr l hl w hww hwp
    exact ⟨n, d1, d2⟩
  ·have := c3 z hz
   rw [if_pos h3] at this
   obtain ⟨k, q, hk, hpq⟩ := cntQ_pos (show 0 < cntQ (p : Int) z by omega)
   obtain ⟨n, d1, d2, _⟩ := c1 z hz k q hk hpq
   exact ⟨n, d1, d2⟩
 ·obtain ⟨o, ho⟩ := own i x hx k q hk
  obtain ⟨b1, b2⟩ := (hP i x hx).2.2.2.2.2 k o ho
  obtain ⟨b3, b4⟩ := b2 q hk
  obtain ⟨⟨d1, z, d2, d3⟩, ⟨z', d4, d5⟩, d6⟩ := b4 p hp
  obtain ⟨d0, y, d7, d8⟩ := d1
  obtain rfl := same_at d2 d4
  have hpc : ((p.toNat : Nat) : Int) = p := by omega
  obtain ⟨c1, _⟩ := hW p.toNat i z y d2 d7 d8
  obtain ⟨n, f1, f2, f3⟩ := c1 x hx k q hk (by rw [hpc]; exact hp)
  refine ⟨⟨d0, y, d7, d8⟩, ⟨z, y, n, d2, d7, f1, d5, f3⟩, o, ho, ?_, d6⟩
  rcases b1 with e | e
  ·rw [b3 e] at hp; cases hp
  ·exact e.1.1
 ·obtain ⟨_, _, _, b1, b2⟩ := (hQ r x y hx hy).2.2.2.2.2.2.2 i l hl
  obtain ⟨e1, e2, e3⟩ := b1 (List.ne_nil_of_mem hww)
  obtain ⟨f1, z', f2, f3⟩ := b2 w hww
  obtain ⟨⟨d0, y', d7, d8⟩, _⟩ := f1 i e1
  have hv := (s2 x (List.mem_of_getElem? hx)).2 l (List.mem_of_getElem? hl)
  have hpc : ((w.proc.toNat : Nat) : Int) = w.proc := by omega
  obtain ⟨_, c2, _⟩ := hW w.proc.toNat i z' y' f2 d7 d8
  obtain ⟨n, g1, g2, g3, g4⟩ := c2 r x hx l hl w hww hpc.symm
  exact ⟨e1, ⟨d0, y', d7, d8⟩, by omega, by omega, z', y', n, f2, d7, g1, f3, g2, g3, g4⟩
 ·obtain ⟨y, hy⟩ := at_len hx hS.2.2
  obtain ⟨i, hi, z, hz⟩ := hpt p y hy
  obtain ⟨_, _, c3, c4, _⟩ := hW p i x y hx hy hi
  rw [sumQ hy hi hq, sumL hy hi hw, hz, c4]
  show cntQ (p : Int) z + _ = _
  rw [c3 z hz]
  by_cases h3 : x.state = 3
  ·rw [if_pos h3, if_neg (by omega), if_pos (.inl h3)]
  ·by_cases h2 : x.state = 2
   ·rw [if_neg h3, if_pos h2, if_pos (.inr h2)]
   ·rw [if_neg h3, if_neg h2, if_neg (by omega)]
theorem may_iff (hpart : ∀ y ∈ c.procs, 0 ≤ y.part ∧ y.part < c.labels.length) : MayG c s fl ↔ MayR c s fl := ⟨mayR_of hpart, mayG_of hpart⟩
end
end Lf

