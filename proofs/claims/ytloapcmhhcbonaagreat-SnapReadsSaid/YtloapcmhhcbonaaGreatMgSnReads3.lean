/-
  Part 4 of the texts that the claim leans on.
-/
import Derived.ScopeJumps
import Derived.Test.YtloapcmhhcbonaaGreatRows
import Derived.Laws.Externs
import Derived.Test.YtloapcmhhcbonaaGreatMgSnReads2
namespace Lf
open Go
def exOf : Ex → Exit
  | .nrm => .normal
  | .ret => .ret
  | .ext i => .exit i
  | .gto i => .goto i
theorem zwe1 {p : Nat → Prop} : (∃ n, p n) → ∃ n, p n ∧ ∀ m, p m → n ≤ m := by
  rintro ⟨n, hn⟩
  induction n using Nat.strongRecOn with
  | _ n ih =>
    by_cases h : ∃ m, m < n ∧ p m
    · obtain ⟨m, h1, h2⟩ := h
      exact ih m h1 h2
    · exact ⟨n, hn, fun m hm => Nat.le_of_not_lt fun e => h ⟨m, e, hm⟩⟩
theorem zpm1 {P : Program} {c : Code} {Q : Exit → Act → World → Prop} {a : Act} {w : World} (J : Nat → Act → World → Prop) (h0 : ∃ n, J n a w)
    (round : ∀ n a w, J n a w → c.wp P (Exit.then (fun a' w' => ∃ m, m < n ∧ J m a' w') Q) a w) : (Code.loop c).wp P Q a w := by
  classical
  let μ : Act → World → Nat := fun a w => if h : ∃ n, J n a w then Classical.choose (zwe1 h) else 0
  have hμ : ∀ a w, (h : ∃ n, J n a w) → J (μ a w) a w ∧ ∀ m, J m a w → μ a w ≤ m := fun a w h => by
    have := Classical.choose_spec (zwe1 h)
    simp only [μ, dif_pos h]
    exact this
  refine wp_loop (fun a w => ∃ n, J n a w) μ h0 fun a w hJ => ?_
  refine wp_mono (round (μ a w) a w (hμ a w hJ).1) fun e a' w' hq => ?_
  cases e with
  | normal =>
    obtain ⟨m, h1, h2⟩ := hq
    exact ⟨⟨m, h2⟩, Nat.lt_of_le_of_lt ((hμ a' w' ⟨m, h2⟩).2 m h2) h1⟩
  | _ => exact hq
section
variable {n : Nat} {β : Nat → Nat} {s : St} {a : Act} {h : Hp} {w : World}
structure Mix (s s' s2 : St) (a' : Act) (n : Nat) (l mm : List Nat) : Prop where
  f : ∀ t v c, s2.f t = some (v, c) → c = [] ∧ ((s.f t = some (v, []) ∧ t ∉ l ∧ ∀ k o, (v = .box k o ∨ v = .boxd k o) → k ∉ l) ∨ (∃ x, v = .v x ∧ a'.eval (.tmp t) = x ∧ t < n))
  m : ∀ k cs, s2.m k = some cs → (s.m k = some cs ∧ k ∉ mm) ∨ s'.m k = some cs
theorem zgd2 {l mm : List Nat} {β' : Nat → Nat} {s' s2 : St} {a' : Act} {h' : Hp} {w' : World} (hr : Rel n β s a h w) (hs : Seg l mm (lives s) β a h w (lives s') β' a' h' w') (hr' : Rel n β' s' a' h' w') (hm : Mix s s' s2 a' n l mm) :
    Rel n β' s2 a' h' w' ∧ Seg l mm (lives s) β a h w (lives s2) β' a' h' w' := by
  have hkeep : ∀ k cs, s.m k = some cs → k ∉ mm → β' k = β k ∧ β k < w.heap.size ∧ h' (β k) = none ∧ ∃ ct, w'.heap[β k]? = some (.cells cs.toArray ct (0, 0)) := by
    intro k cs e hk
    obtain ⟨h1, ct, h2⟩ := hr.box k cs e trivial
    have hne : ∀ k' ∈ mm, lives s k' → β k' ≠ β k := fun k' hk' hl e' => hk (by rw [hr.inj k k' (by simp [e]) hl.1 trivial trivial e'.symm]; exact hk')
    refine ⟨hs.beta k (.inr hk), zim1 h2, hs.unk _ (zim1 h2) h1 hne, ct, ?_⟩
    rw [hs.keep _ (zim1 h2) h1 hne]
    exact h2
  have hnew : ∀ k, s'.m k ≠ none → (s.m k ≠ none ∧ β' k = β k) ∨ w.heap.size ≤ β' k := fun k e => (hs.fresh k ⟨e, trivial⟩).imp (fun e => ⟨e.1.1, e.2⟩) id
  refine ⟨⟨hr'.sz, hr'.sub, fun t v c e => ?_, fun t v c e p hp => ?_, fun t v c e _ _ => ?_, fun t v c e _ hh => ?_, fun k cs e _ => ?_, fun k k' e e' _ _ he => ?_, fun _ e => e.elim, fun _ e => e.elim⟩, ?_⟩
  · obtain ⟨_, h1 | ⟨x, _, _, h1⟩⟩ := hm.f t v c e
    · exact hr.lt t v [] h1.1
    · exact h1
  · rw [(hm.f t v c e).1] at hp; cases hp
  · refine ⟨?_, fun _ _ _ => trivial⟩
    obtain ⟨_, ⟨h1, h2, h3⟩ | ⟨x, rfl, h1, _⟩⟩ := hm.f t v c e
    · rw [hs.tmp t h2, (hr.cur t v [] h1 trivial (zbj _)).1]
      cases v with
      | v x => rfl
      | box k o => simp only [LVal, hs.beta k (.inl (h3 k o (.inl rfl)))]
      | boxd k o => simp only [LVal, hs.beta k (.inl (h3 k o (.inr rfl)))]
    · exact h1
  · rw [(hm.f t v c e).1] at hh; exact absurd (zbj _) hh
  · rcases hm.m k cs e with ⟨h1, h2⟩ | h1
    · obtain ⟨e1, _, e2, e3⟩ := hkeep k cs h1 h2
      rw [e1]
      exact ⟨e2, e3⟩
    · exact hr'.box k cs h1 trivial
  · obtain ⟨cs, e⟩ := Option.ne_none_iff_exists'.1 e
    obtain ⟨cs', e'⟩ := Option.ne_none_iff_exists'.1 e'
    rcases hm.m k cs e with ⟨h1, h2⟩ | h1
    · obtain ⟨e1, e2, _⟩ := hkeep k cs h1 h2
      rcases hm.m k' cs' e' with ⟨h1', h2'⟩ | h1'
      · obtain ⟨e1', _⟩ := hkeep k' cs' h1' h2'
        rw [e1, e1'] at he
        exact hr.inj k k' (by simp [h1]) (by simp [h1']) trivial trivial he
      · rcases hnew k' (by simp [h1']) with ⟨e3, e4⟩ | e3
        · rw [e1, e4] at he
          exact hr.inj k k' (by simp [h1]) e3 trivial trivial he
        · rw [e1] at he; omega
    · rcases hm.m k' cs' e' with ⟨h1', h2'⟩ | h1'
      · obtain ⟨e1', e2', _⟩ := hkeep k' cs' h1' h2'
        rcases hnew k (by simp [h1]) with ⟨e3, e4⟩ | e3
        · rw [e1', e4] at he
          exact hr.inj k k' e3 (by simp [h1']) trivial trivial he
        · rw [e1'] at he; omega
      · exact hr'.inj k k' (by simp [h1]) (by simp [h1']) trivial trivial he
  · refine ⟨hs.tmp, hs.beta, hs.size, hs.unk, hs.keep, fun k e => ?_, hs.os, hs.tape, hs.output, hs.defers⟩
    obtain ⟨cs, e⟩ := Option.ne_none_iff_exists'.1 e.1
    rcases hm.m k cs e with ⟨h1, h2⟩ | h1
    · exact .inl ⟨⟨by simp [h1], trivial⟩, (hkeep k cs h1 h2).1⟩
    · exact hs.fresh k ⟨by simp [h1], trivial⟩
def shO : Option Ty → Shape
  | some e => e.sh
  | none => znb1
theorem zaf2 (tb : Tb) (t : Nat) : shOf tb t = shO (tb.ty t) := by
  unfold shOf shO
  cases tb.ty t <;> rfl
theorem zfb2 {P : Program} {tb : Tb} (ok : tb.Ok P) {t : Nat} (ha : zvi1 tb t = false) : ∀ (x : (shOf tb t).T) (cs : Array Value), (shOf tb t).enc x ≠ .agg cs := by
  rw [zaf2]
  unfold zvi1 at ha
  cases he : tb.ty t with
  | none => intro x cs e; cases e
  | some e =>
    rw [he] at ha
    intro x cs
    exact ((ok.leaf t e he ha).2 x).2 cs
theorem zwf1 {P : Program} {tb : Tb} (ok : tb.Ok P) {t : Nat} {cs : List Value} {v : Value} {x : (shOf tb t).T} (h1 : zol1 tb t cs = some v) (h2 : (shOf tb t).dec v = some x) : zae ((shOf tb t).enc x) = cs := by
  have hv := (shOf tb t).ok v x h2
  rw [hv]
  unfold zol1 at h1
  cases ha : zvi1 tb t with
  | true =>
    rw [ha] at h1
    cases h1
    rfl
  | false =>
    rw [ha] at h1
    simp only [cond_false] at h1
    split at h1
    · cases h1
      have hne : ∀ cs, v ≠ .agg cs := fun cs e => zfb2 ok ha x cs (hv.trans e)
      cases v <;> first | rfl | exact absurd rfl (hne _)
    · cases h1
theorem znw1 {P : Program} {tb : Tb} (ok : tb.Ok P) {l mm : List Nat} {β' : Nat → Nat} {s' s2 : St} {a' : Act} {h' : Hp} {w' : World} (hr' : Rel n β' s' a' h' w') {j : J} {K : (shOf tb j.t).T → Prop} (hg : zvj1 tb s' j K)
    (hm : Mix s s' s2 a' n l mm) : ∃ x, K x ∧ Mix s s' (zqo1 tb j x s2) a' n l mm := by
  unfold zvj1 at hg
  cases hM : j.isM with
  | true =>
    rw [hM] at hg
    simp only [cond_true] at hg
    split at hg
    · rename_i cs hcs
      split at hg
      · rename_i v hv
        split at hg
        · rename_i x hx
          refine ⟨x, hg, ?_⟩
          have hc := zwf1 ok hv hx
          unfold zqo1
          rw [hM]
          simp only [cond_true, hc]
          refine ⟨hm.f, fun k cs' e => ?_⟩
          by_cases hk : k = j.i
          · subst hk
            rw [zhf1] at e; cases e
            exact .inr hcs
          · rw [ztp _ _ hk] at e
            exact hm.m k cs' e
        · exact hg.elim
      · exact hg.elim
    · exact hg.elim
  | false =>
    rw [hM] at hg
    simp only [cond_false] at hg
    split at hg
    · rename_i v hv
      split at hg
      · rename_i x hx
        refine ⟨x, hg, ?_⟩
        unfold zqo1
        rw [hM]
        simp only [cond_false]
        rw [(shOf tb j.t).ok v x hx]
        refine ⟨fun t u c e => ?_, fun k cs e => hm.m k cs (by rwa [put_m] at e)⟩
        by_cases ht : t = j.i
        · subst ht
          rw [zym] at e; cases e
          exact ⟨rfl, .inr ⟨v, rfl, (hr'.cur j.i _ [] hv trivial (zbj _)).1, hr'.lt _ _ _ hv⟩⟩
        · rw [zlc1 _ _ _ ht] at e
          exact hm.f t u c e
      · exact hg.elim
    · exact hg.elim
theorem zwg1 {P : Program} {tb : Tb} (ok : tb.Ok P) {l mm : List Nat} {β' : Nat → Nat} {s' : St} {a' : Act} {h' : Hp} {w' : World} (hr' : Rel n β' s' a' h' w') : ∀ {js : List J} {s2 : St} {K : JTup tb js → Prop}, getJ tb js s' K →
    Mix s s' s2 a' n l mm → ∃ x, K x ∧ Mix s s' (setJ tb js x s2) a' n l mm
  | [], s2, K, hg, hm => ⟨(), hg, hm⟩
  | [j], s2, K, hg, hm => znw1 ok hr' hg hm
  | j :: j2 :: js, s2, K, hg, hm => by
    obtain ⟨x, hx, hm'⟩ := znw1 ok hr' hg hm
    obtain ⟨y, hy, hm2⟩ := zwg1 ok hr' (js := j2 :: js) hx hm'
    exact ⟨(x, y), hy, hm2⟩
theorem zxu1 (hr : Rel n β s a h w) {l mm : List Nat} {s' : St} {a' : Act} : Mix s s' (s.forget l mm) a' n l mm := by
  refine ⟨fun t v c e => ?_, fun k cs e => ?_⟩
  · simp only [St.forget] at e
    cases ht : has l t with
    | true => simp [ht] at e
    | false =>
      simp only [ht, cond_false] at e
      obtain ⟨h1, h2⟩ := dropL'_some e
      have hc : c = [] := by
        cases c with
        | nil => rfl
        | cons p c => exact (hr.chain t v _ h1 p (List.mem_cons_self ..)).elim
      subst hc
      exact ⟨rfl, .inl ⟨h1, zto ht, h2⟩⟩
  · simp only [St.forget] at e
    cases hk : has mm k with
    | true => simp [hk] at e
    | false =>
      simp only [hk, cond_false] at e
      exact .inl ⟨e, zto hk⟩
theorem zhj1 {P : Program} {tb : Tb} (ok : tb.Ok P) {l mm : List Nat} {β' : Nat → Nat} {s' : St} {a' : Act} {h' : Hp} {w' : World} (hr : Rel n β s a h w) (hs : Seg l mm (lives s) β a h w (lives s') β' a' h' w') (hr' : Rel n β' s' a' h' w')
    {js : List J} {K : JTup tb js → Prop} (hg : getJ tb js s' K) :
    ∃ x, K x ∧ Rel n β' (setJ tb js x (s.forget l mm)) a' h' w' ∧ Seg l mm (lives s) β a h w (lives (setJ tb js x (s.forget l mm))) β' a' h' w' := by
  obtain ⟨x, hx, hm⟩ := zwg1 ok hr' hg (zxu1 (s' := s') (a' := a') hr)
  obtain ⟨h1, h2⟩ := zgd2 hr hs hr' hm
  exact ⟨x, hx, h1, h2⟩
end
theorem zfc2 {n : Nat} {β : Nat → Nat} {s : St} {a : Act} {h : Hp} {w : World} {l mm : List Nat} {β' : Nat → Nat} {s' : St} {a' : Act} {h' : Hp} {w' : World} {k : Nat} {K : St → Hp → Prop} (hk : k ∈ mm) (hs : Seg l mm (lives s) β a h w (lives s') β' a' h' w') (hr : Rel n β' s' a' h' w') (hp : pubW k s' h' K) :
    ∃ s2 h2, K s2 h2 ∧ Rel n β' s2 a' h2 w' ∧ Seg l mm (lives s) β a h w (lives s2) β' a' h2 w' := by
  unfold pubW at hp
  split at hp
  · rename_i k' off cs hf hm
    obtain ⟨h1, hp1⟩ := condP hp
    obtain ⟨h2, hp2⟩ := condP hp1
    clear hp hp1
    have h1 := Nat.eq_of_beq_eq_true h1
    have h2 := Nat.eq_of_beq_eq_true h2
    subst h1 h2
    obtain ⟨hn, ct, hw⟩ := hr.box k cs hm trivial
    have hset : ∀ x, (h'.set (β' k) (.cells cs.toArray ct (0, 0))) x = if x = β' k then some (.cells cs.toArray ct (0, 0)) else h' x := fun x => rfl
    have hmm : ∀ i cs', cond (Nat.beq i k) none (s'.m i) = some cs' → i ≠ k ∧ s'.m i = some cs' := fun i cs' e => by
      by_cases hi : i = k
      · subst hi; simp at e
      · rw [zlb1 hi] at e; exact ⟨hi, e⟩
    have hff : ∀ t v c, cond (Nat.beq t k) (some (LV.v (.pointer (some ⟨β' k, 0, none⟩)), ([] : Chain))) (s'.f t) = some (v, c) → (t = k ∧ v = LV.v (.pointer (some ⟨β' k, 0, none⟩)) ∧ c = []) ∨ s'.f t = some (v, c) := fun t v c e => by
      by_cases hi : t = k
      · subst hi; simp at e; exact .inl ⟨rfl, e.1.symm, by first | exact e.2 | exact e.2.symm⟩
      · rw [zlb1 hi] at e; exact .inr e
    refine ⟨_, _, hp2 (β' k) ct hn, ⟨hr.sz, fun b o e => ?_, fun t v c e => ?_, fun t v c e p hpp => ?_, fun t v c e _ hh => ?_, fun t v c e _ hh => ?_, fun i cs' e _ => ?_, fun i j e e' _ _ he => ?_, fun _ e => e.elim, fun _ e => e.elim⟩, ?_⟩
    · rw [hset] at e
      split at e
      · rename_i hb; cases e; rw [hb]; exact hw
      · exact hr.sub b o e
    · rcases hff t v c e with ⟨rfl, _, _⟩ | e
      · exact hr.lt t _ _ hf
      · exact hr.lt t v c e
    · rcases hff t v c e with ⟨rfl, _, rfl⟩ | e
      · cases hpp
      · exact hr.chain t v c e p hpp
    · have hh' : holds s' c := by
        have : c = [] := by
          rcases hff t v c e with ⟨_, _, h⟩ | e
          · exact h
          · cases c with
            | nil => rfl
            | cons p c => exact (hr.chain t v _ e p (List.mem_cons_self ..)).elim
        subst this; exact zbj _
      rcases hff t v c e with ⟨rfl, rfl, rfl⟩ | e
      · refine ⟨?_, fun _ _ _ => trivial⟩
        exact (hr.cur t _ _ hf trivial (zbj _)).1
      · exact ⟨(hr.cur t v c e trivial hh').1, fun _ _ _ => trivial⟩
    · have : c = [] := by
        rcases hff t v c e with ⟨_, _, h⟩ | e
        · exact h
        · cases c with
          | nil => rfl
          | cons p c => exact (hr.chain t v _ e p (List.mem_cons_self ..)).elim
      subst this; exact absurd (zbj _) hh
    · obtain ⟨h1, h2⟩ := hmm i cs' e
      obtain ⟨h3, ct', h4⟩ := hr.box i cs' h2 trivial
      refine ⟨?_, ct', h4⟩
      rw [hset, if_neg]
      · exact h3
      · intro e'
        exact h1 (hr.inj i k (by simp [h2]) (by simp [hm]) trivial trivial e')
    · obtain ⟨ci, e⟩ := Option.ne_none_iff_exists'.1 e
      obtain ⟨cj, e'⟩ := Option.ne_none_iff_exists'.1 e'
      exact hr.inj i j (by simp [(hmm i ci e).2]) (by simp [(hmm j cj e').2]) trivial trivial he
    · refine ⟨hs.tmp, hs.beta, hs.size, fun b hb hn' hne => ?_, hs.keep, fun i hi => ?_, hs.os, hs.tape, hs.output, hs.defers⟩
      · rw [hset, if_neg]
        · exact hs.unk b hb hn' hne
        · rintro rfl
          rcases hs.fresh k ⟨by simp [hm], trivial⟩ with ⟨e1, e2⟩ | e1
          · exact hne k hk e1 e2.symm
          · omega
      · obtain ⟨ci, e⟩ := Option.ne_none_iff_exists'.1 hi.1
        exact hs.fresh i ⟨by simp [(hmm i ci e).2], trivial⟩
  · exact hp.elim
theorem app_mem {x y : List Nat} {d : Nat} : d ∈ app x y ↔ d ∈ x ∨ d ∈ y := by rw [znh1, List.mem_append]
theorem condN {α : Type} {c : Bool} {x : Option α} {y : α} (e : cond c x none = some y) : c = true ∧ x = some y := by
  cases c
  · cases e
  · exact ⟨rfl, e⟩
theorem zxv1 {l : Nat} : ∀ {c : Code}, noLab c l = true → findLabel c l = none := by
  intro c
  induction c with
  | seq a b iha ihb =>
    intro e
    simp only [noLab] at e
    cases ha : noLab a l with
    | false => rw [ha] at e; cases e
    | true => rw [ha] at e; simp only [findLabel, iha ha]; exact ihb e
  | label l' =>
    intro e
    simp only [noLab] at e
    by_cases hl : l' = l
    · subst hl; simp at e
    · simp [findLabel, hl]
  | _ => intro _; rfl
theorem znx1 {x y : Code} {l : Nat} (hx : ∀ l', x ≠ .label l') : zoh (.seq x y) l = cond (noLab x l) (zoh y l) none := by
  cases x <;> first | rfl | exact absurd rfl (hx _)
theorem zcx2 {C : Ctx} {x y : Code} {l : Nat} {A : Ann} {mok : List Nat} {s : St} {E : Env} {h : Hp} (hx : ∀ l', x ≠ .label l') :
    liftM C (.seq x y) (.fr l) A mok s E h = liftM C x .full A.fst mok s (E.nrm fun s' h' => liftM C y (.fr l) A.snd mok s' E h') h := by
  cases x <;> first | rfl | exact absurd rfl (hx _)
theorem zcy2 {C : Ctx} {x y : Code} {l : Nat} {A : Ann} {mok : List Nat} {s : St} {E : Env} {h : Hp} (hx : ∀ l', x ≠ .label l') :
    liftM C (.seq x y) (.pr l) A mok s E h = match (generalizing := false) A with
      | .gj _ js mm z _ => cond (allIn mm mok) (liftM C x .full .tt mok s (E.noGto.nrm fun s' h' =>
          JoinT (fun (R : JTup C.tb js → Hp → Prop) => liftM C y (.fr l) z mm s' (E.lab l fun s' h' => getJ C.tb js s' fun x => R x h') h')
            (fun x h' => liftM C y (.rs l) A.snd mok (setJ C.tb js x (s'.forget (mods y) mm)) E.noGto h')) h) False
      | _ => liftM C x .full A.fst mok s (E.noGto.nrm fun s' h' => liftM C y (.pr l) A.snd mok s' E h') h := by
  cases x <;> first | rfl | exact absurd rfl (hx _)
theorem zem1 {l : Nat} {Q : Exit → Act → World → Prop} {J : Act → World → Prop} {e : Exit} {a : Act} {w : World} (he : Exit.noGoto Q e a w) : Exit.jump l J Q e a w := by
  cases e <;> first | exact he | exact he.elim
theorem zcz2 {C : Ctx} {x y : Code} {l : Nat} {A : Ann} {mok : List Nat} {s : St} {E : Env} {h : Hp} (hx : ∀ l', x ≠ .label l') :
    liftM C (.seq x y) (.rs l) A mok s E h = liftM C y (.rs l) A mok s E h := by
  cases x <;> first | rfl | exact absurd rfl (hx _)
theorem zto1 {l : Nat} {r : Code} : ∀ {c : Code}, zoh c l = some r → findLabel c l = some (.seq .skip r) := by
  intro c
  induction c with
  | seq x y ihx ihy =>
    intro e
    by_cases hx : ∃ l', x = .label l'
    · obtain ⟨l', rfl⟩ := hx
      obtain ⟨h1, e⟩ := condN e
      obtain rfl : y = r := Option.some.inj e
      obtain rfl := Nat.eq_of_beq_eq_true h1
      simp [findLabel]
    · rw [znx1 (fun l' e => hx ⟨l', e⟩)] at e
      obtain ⟨h1, e⟩ := condN e
      simp only [findLabel, zxv1 h1]
      exact ihy e
  | _ => intro e; simp [zoh] at e
theorem ztp1 {C : Ctx} (ok : C.tb.Ok C.P) {n : Nat} : ∀ (c : Code),
    (∀ (A : Ann) (mok : List Nat) (s : St) (E : Env) (h : Hp), (∀ d ∈ mods c, d < n) → liftM C c .full A mok s E h → ∀ (β : Nat → Nat) (a : Act) (w : World), Rel n β s a h w →
      ∀ Q : Exit → Act → World → Prop, (∀ e s' h' β' a' w', E e s' h' → Rel n β' s' a' h' w' → Seg (mods c) mok (lives s) β a h w (lives s') β' a' h' w' → Q (exOf e) a' w') → c.wp C.P Q a w) ∧
    ∀ l r, zoh c l = some r →
      (∀ (A : Ann) (mok : List Nat) (s : St) (E : Env) (h : Hp), (∀ d ∈ mods c, d < n) → liftM C c (.fr l) A mok s E h → ∀ (β : Nat → Nat) (a : Act) (w : World), Rel n β s a h w →
        ∀ Q : Exit → Act → World → Prop, (∀ s' h' β' a' w', E .nrm s' h' → Rel n β' s' a' h' w' → Seg (mods c) mok (lives s) β a h w (lives s') β' a' h' w' → r.wp C.P Q a' w') →
        (∀ e s' h' β' a' w', e ≠ .nrm → E e s' h' → Rel n β' s' a' h' w' → Seg (mods c) mok (lives s) β a h w (lives s') β' a' h' w' → Q (exOf e) a' w') → c.wp C.P Q a w) ∧
      (∀ (A : Ann) (mok : List Nat) (s : St) (E : Env) (h : Hp), (∀ d ∈ mods c, d < n) → liftM C c (.rs l) A mok s E h → ∀ (β : Nat → Nat) (a : Act) (w : World), Rel n β s a h w →
        ∀ Q : Exit → Act → World → Prop, (∀ e s' h' β' a' w', E e s' h' → Rel n β' s' a' h' w' → Seg (mods c) mok (lives s) β a h w (lives s') β' a' h' w' → Q (exOf e) a' w') → r.wp C.P Q a w) ∧
      (∀ (A : Ann) (mok : List Nat) (s : St) (E : Env) (h : Hp), (∀ d ∈ mods c, d < n) → liftM C c (.pr l) A mok s E h → ∀ (β : Nat → Nat) (a : Act) (w : World), Rel n β s a h w →
        ∀ Q : Exit → Act → World → Prop, (∀ e s' h' β' a' w', (∀ i, e ≠ .gto i) → E e s' h' → Rel n β' s' a' h' w' → Seg (mods c) mok (lives s) β a h w (lives s') β' a' h' w' → Q (exOf e) a' w') →
        c.wp C.P (Exit.jump l (fun a' w' => r.wp C.P (Exit.noGoto Q) a' w') Q) a w) := by
  intro c
  induction c with
  | skip =>
    refine ⟨?_, fun l r e => by simp [zoh] at e⟩
    intro A mok s E h _ hv β a w hr Q hQ; exact wp_skip (hQ .nrm s h β a w hv hr (Seg.refl _ _))
  | ret =>
    refine ⟨?_, fun l r e => by simp [zoh] at e⟩
    intro A mok s E h _ hv β a w hr Q hQ; exact wp_ret (hQ .ret s h β a w hv hr (Seg.refl _ _))
  | exit i =>
    refine ⟨?_, fun l r e => by simp [zoh] at e⟩
    intro A mok s E h _ hv β a w hr Q hQ; exact wp_exit (hQ (.ext i) s h β a w hv hr (Seg.refl _ _))
  | goto i =>
    refine ⟨?_, fun l r e => by simp [zoh] at e⟩
    intro A mok s E h _ hv β a w hr Q hQ; exact wp_goto (hQ (.gto i) s h β a w hv hr (Seg.refl _ _))
  | label i =>
    refine ⟨?_, fun l r e => by simp [zoh] at e⟩
    intro A mok s E h _ hv β a w hr Q hQ; exact wp_label (hQ .nrm s h β a w hv hr (Seg.refl _ _))
  | region id ops draw =>
    refine ⟨?_, fun l r e => by simp [zoh] at e⟩
    intro A mok s E h hlt hv β a w hr Q hQ
    have hclean : ∀ s' : St, ∀ k, lives s'.clean k ↔ lives s' k := fun s' k => .rfl
    cases draw with
    | true =>
      simp only [liftM] at hv
      split at hv
      · rename_i ord
        obtain ⟨hp, hv⟩ := condP hv
        exact zae2 ok hp hlt hr hv fun s' h' β' a' w' hk hr' hs' => hQ .nrm s'.clean h' β' a' w' hk hr' hs'
      · exact hv.elim
    | false =>
      simp only [liftM] at hv
      obtain ⟨hp, hv⟩ := condP hv
      unfold seqOk at hp
      obtain ⟨h1, hp⟩ := condT hp
      have hst := hr.start (zbi C.priv ops.toList)
      have main : ∀ g : Bool, (g = false → zer1 ops.toList = true) → (g = true → (modsO ops.toList).Nodup ∧ zkp ops.toList 0 = true) → (Code.region id ops false).wp C.P Q a w := by
        intro g hg1 hg2
        refine wp_region ?_
        have := zrb1 (n := n) (mok := mok) (K := fun s' h' => E .nrm s'.clean h') (Q := Q) ok g hlt hg1 hg2 ops.toList [] β _ a h w rfl (zhh1 h1) hv
          (hst.congr (fun _ => .rfl) (fun _ => .rfl) (fun _ e => e.elim) (fun _ e => e)) (fun s' h' β' a' w' hk hr' hs' => hQ .nrm s'.clean h' β' a' w' hk hr'.clean
            (hs'.mono (fun _ e => e) (fun _ e => e) (fun k e => zra1 e) (fun _ e => e)))
        rw [List.range_eq_range']
        simpa using this
      cases hng : zer1 ops.toList with
      | true => exact main false (fun _ => hng) (fun e => by cases e)
      | false =>
        rw [hng] at hp
        simp only [cond_false] at hp
        obtain ⟨h2, h3⟩ := condT hp
        exact main true (fun e => by cases e) (fun _ => ⟨zhh1 h2, h3⟩)
  | seq x y ihx ihy =>
    have hmx : ∀ d ∈ mods x, d ∈ mods (.seq x y) := fun d hd => app_mem.2 (.inl hd)
    have hmy : ∀ d ∈ mods y, d ∈ mods (.seq x y) := fun d hd => app_mem.2 (.inr hd)
    refine ⟨?_, fun l r e => ?_⟩
    rotate_left
    · by_cases hx : ∃ l', x = .label l'
      · obtain ⟨l', rfl⟩ := hx
        obtain ⟨-, e⟩ := condN e
        obtain rfl : y = r := Option.some.inj e
        refine ⟨fun A mok s E h hlt hv β a w hr Q h1 _ => ?_, fun A mok s E h hlt hv β a w hr Q hQ => ?_, fun A mok s E h hlt hv => hv.elim⟩
        · exact wp_seq (wp_label (h1 s h β a w hv hr (Seg.refl _ _)))
        · exact ihy.1 _ _ _ _ _ (fun d hd => hlt d (hmy d hd)) hv β a w hr Q fun e s' h' β' a' w' he hr' hs' => hQ e s' h' β' a' w' he hr' (hs'.mono hmy (fun _ e => e) (fun _ e => e) (fun _ e => e))
      · rw [znx1 (fun l' e => hx ⟨l', e⟩)] at e
        obtain ⟨-, e⟩ := condN e
        refine ⟨fun A mok s E h hlt hv β a w hr Q h1 h2 => ?_, fun A mok s E h hlt hv β a w hr Q hQ => ?_, fun A mok s E h hlt hv β a w hr Q hQ => ?_⟩
        · rw [zcx2 (fun l' e => hx ⟨l', e⟩)] at hv
          refine wp_seq ?_
          refine ihx.1 _ mok s _ h (fun d hd => hlt d (hmx d hd)) hv β a w hr _ fun e' s' h' β' a' w' he hr' hs' => ?_
          have hs1 := hs'.mono (mm' := mok) hmx (fun _ e => e) (fun _ e => e) (fun _ e => e)
          cases e' with
          | nrm =>
            exact ((ihy.2 l r e).1 _ mok _ E h' (fun d hd => hlt d (hmy d hd)) he β' a' w' hr' Q
              (fun s2 h2 β2 a2 w2 he2 hrr hss => h1 s2 h2 β2 a2 w2 he2 hrr (hs1.trans (hss.mono hmy (fun _ e => e) (fun _ e => e) (fun _ e => e))))
              (fun e2 s2 h2' β2 a2 w2 hne he2 hrr hss => h2 e2 s2 h2' β2 a2 w2 hne he2 hrr (hs1.trans (hss.mono hmy (fun _ e => e) (fun _ e => e) (fun _ e => e)))))
          | ret => exact h2 .ret s' h' β' a' w' (by simp) he hr' hs1
          | ext i => exact h2 (.ext i) s' h' β' a' w' (by simp) he hr' hs1
          | gto i => exact h2 (.gto i) s' h' β' a' w' (by simp) he hr' hs1
        · rw [zcz2 (fun l' e => hx ⟨l', e⟩)] at hv
          exact (ihy.2 l r e).2.1 _ mok s E h (fun d hd => hlt d (hmy d hd)) hv β a w hr Q fun e' s' h' β' a' w' he hr' hs' => hQ e' s' h' β' a' w' he hr' (hs'.mono hmy (fun _ e => e) (fun _ e => e) (fun _ e => e))
        · rw [zcy2 (fun l' e => hx ⟨l', e⟩)] at hv
          have hly : ∀ d ∈ mods y, d < n := fun d hd => hlt d (hmy d hd)
          refine wp_seq ?_
          split at hv
          · rename_i js mm z _
            obtain ⟨hmm, hv⟩ := condP hv
            have hmm' := zbp1 hmm
            refine ihx.1 _ mok s _ h (fun d hd => hlt d (hmx d hd)) hv β a w hr _ fun e' s0 h0 β0 a0 w0 he hr0 hs0 => ?_
            have hs0' := hs0.mono (mm' := mok) hmx (fun _ e => e) (fun _ e => e) (fun _ e => e)
            cases e' with
            | nrm =>
              obtain ⟨R, hA, hB⟩ := he
              have joined : ∀ s' h' β' a' w', Rel n β' s' a' h' w' → Seg (mods y) mm (lives s0) β0 a0 h0 w0 (lives s') β' a' h' w' → getJ C.tb js s' (fun z => R z h') → r.wp C.P (Exit.noGoto Q) a' w' := by
                intro s' h' β' a' w' hr' hs' hg
                obtain ⟨z, hz, hr2, hs2⟩ := zhj1 ok hr0 hs' hr' hg
                refine (ihy.2 l r e).2.1 _ mok _ _ h' hly (hB z h' hz) β' a' w' hr2 _ fun e s2 h2 β2 a2 w2 he hr3 hs3 => ?_
                have hs4 := hs0'.trans (((hs2.mono (l' := mods y) (mm' := mok) (fun _ e => e) hmm' (fun _ e => e) (fun _ e => e)).trans hs3).mono hmy (fun _ e => e) (fun _ e => e) (fun _ e => e))
                cases e with
                | nrm => exact hQ .nrm s2 h2 β2 a2 w2 (by simp) he hr3 hs4
                | ret => exact hQ .ret s2 h2 β2 a2 w2 (by simp) he hr3 hs4
                | ext i => exact hQ (.ext i) s2 h2 β2 a2 w2 (by simp) he hr3 hs4
                | gto i => exact he.elim
              refine (ihy.2 l r e).1 _ mm s0 _ h0 hly hA β0 a0 w0 hr0 _ (fun s' h' β' a' w' he hr' hs' => ?_) fun e s' h' β' a' w' hne he hr' hs' => ?_
              · exact wp_mono (joined s' h' β' a' w' hr' hs' he) fun _ _ _ => zem1
              · have hs4 := hs0'.trans (hs'.mono (mm' := mok) hmy hmm' (fun _ e => e) (fun _ e => e))
                cases e with
                | nrm => exact absurd rfl hne
                | ret => exact hQ .ret s' h' β' a' w' (by simp) he hr' hs4
                | ext i => exact hQ (.ext i) s' h' β' a' w' (by simp) he hr' hs4
                | gto i =>
                  by_cases hi : i = l
                  · subst hi
                    simp only [Env.lab, Nat.beq_refl, cond_true] at he
                    exact ⟨rfl, joined s' h' β' a' w' hr' hs' he⟩
                  · simp only [Env.lab, zlb1 hi, cond_false] at he
            | ret => exact hQ .ret s0 h0 β0 a0 w0 (by simp) he hr0 hs0'
            | ext i => exact hQ (.ext i) s0 h0 β0 a0 w0 (by simp) he hr0 hs0'
            | gto i => exact he.elim
          · refine ihx.1 _ mok s _ h (fun d hd => hlt d (hmx d hd)) hv β a w hr _ fun e' s0 h0 β0 a0 w0 he hr0 hs0 => ?_
            have hs0' := hs0.mono (mm' := mok) hmx (fun _ e => e) (fun _ e => e) (fun _ e => e)
            cases e' with
            | nrm => exact (ihy.2 l r e).2.2 _ mok s0 E h0 hly he β0 a0 w0 hr0 Q fun e' s' h' β' a' w' hne he hr' hs' => hQ e' s' h' β' a' w' hne he hr' (hs0'.trans (hs'.mono hmy (fun _ e => e) (fun _ e => e) (fun _ e => e)))
            | ret => exact hQ .ret s0 h0 β0 a0 w0 (by simp) he hr0 hs0'
            | ext i => exact hQ (.ext i) s0 h0 β0 a0 w0 (by simp) he hr0 hs0'
            | gto i => exact he.elim
    intro A mok s E h hlt hv β a w hr Q hQ
    have hlx : ∀ d ∈ mods x, d < n := fun d hd => hlt d (app_mem.2 (.inl hd))
    have hly : ∀ d ∈ mods y, d < n := fun d hd => hlt d (app_mem.2 (.inr hd))
    refine wp_seq ?_
    unfold liftM at hv
    split at hv
    · rename_i js mm _ _
      obtain ⟨hmm, R, hA, hB⟩ := condP hv
      have hmm' := zbp1 hmm
      refine ihx.1 _ mm s _ h hlx hA β a w hr _ fun e s' h' β' a' w' he hr' hs' => ?_
      cases e with
      | nrm =>
        obtain ⟨z, hz, hr2, hs2⟩ := zhj1 ok hr hs' hr' he
        refine ihy.1 _ mok _ E h' hly (hB z h' hz) β' a' w' hr2 Q fun e2 s2 h2 β2 a2 w2 he2 hrr hss => ?_
        exact hQ e2 s2 h2 β2 a2 w2 he2 hrr ((hs2.mono hmx hmm' (fun _ e => e) (fun _ e => e)).trans (hss.mono hmy (fun _ e => e) (fun _ e => e) (fun _ e => e)))
      | ret => exact hQ .ret s' h' β' a' w' he hr' (hs'.mono hmx hmm' (fun _ e => e) (fun _ e => e))
      | ext i => exact hQ (.ext i) s' h' β' a' w' he hr' (hs'.mono hmx hmm' (fun _ e => e) (fun _ e => e))
      | gto i => exact hQ (.gto i) s' h' β' a' w' he hr' (hs'.mono hmx hmm' (fun _ e => e) (fun _ e => e))
    · rename_i k _ _
      obtain ⟨hk, hv⟩ := condP hv
      have hk := (znn _ _).1 hk
      refine ihx.1 _ mok s _ h hlx hv β a w hr _ fun e s' h' β' a' w' he hr' hs' => ?_
      cases e with
      | nrm =>
        obtain ⟨s1, h1, he, hr1, hs1⟩ := zfc2 (K := fun s2 h2 => liftM C y .full _ mok s2 E h2) hk hs' hr' he
        refine ihy.1 _ mok _ E h1 hly he β' a' w' hr1 Q fun e2 s2 h2 β2 a2 w2 he2 hrr hss => ?_
        exact hQ e2 s2 h2 β2 a2 w2 he2 hrr ((hs1.mono hmx (fun _ e => e) (fun _ e => e) (fun _ e => e)).trans (hss.mono hmy (fun _ e => e) (fun _ e => e) (fun _ e => e)))
      | ret => exact hQ .ret s' h' β' a' w' he hr' (hs'.mono hmx (fun _ e => e) (fun _ e => e) (fun _ e => e))
      | ext i => exact hQ (.ext i) s' h' β' a' w' he hr' (hs'.mono hmx (fun _ e => e) (fun _ e => e) (fun _ e => e))
      | gto i => exact hQ (.gto i) s' h' β' a' w' he hr' (hs'.mono hmx (fun _ e => e) (fun _ e => e) (fun _ e => e))
    · refine ihx.1 _ mok s _ h hlx hv β a w hr _ fun e s' h' β' a' w' he hr' hs' => ?_
      cases e with
      | nrm =>
        refine ihy.1 _ mok _ E h' hly he β' a' w' hr' Q fun e2 s2 h2 β2 a2 w2 he2 hrr hss => ?_
        exact hQ e2 s2 h2 β2 a2 w2 he2 hrr ((hs'.mono hmx (fun _ e => e) (fun _ e => e) (fun _ e => e)).trans (hss.mono hmy (fun _ e => e) (fun _ e => e) (fun _ e => e)))
      | ret => exact hQ .ret s' h' β' a' w' he hr' (hs'.mono hmx (fun _ e => e) (fun _ e => e) (fun _ e => e))
      | ext i => exact hQ (.ext i) s' h' β' a' w' he hr' (hs'.mono hmx (fun _ e => e) (fun _ e => e) (fun _ e => e))
      | gto i => exact hQ (.gto i) s' h' β' a' w' he hr' (hs'.mono hmx (fun _ e => e) (fun _ e => e) (fun _ e => e))
  | cond c x y ihx ihy =>
    refine ⟨?_, fun l r e => by simp [zoh] at e⟩
    intro A mok s E h hlt hv β a w hr Q hQ
    have hlx : ∀ d ∈ mods x, d < n := fun d hd => hlt d (app_mem.2 (.inl hd))
    have hly : ∀ d ∈ mods y, d < n := fun d hd => hlt d (app_mem.2 (.inr hd))
    simp only [liftM] at hv
    obtain ⟨v, hev, hv⟩ := zbf hv
    split at hv
    · rename_i t
      have hc := ev_ok (zti1 hr (x := c) fun _ _ => trivial) (zbj s) hev
      refine wp_cond_split (t := t) hc (fun ht => ?_) (fun ht => ?_)
      · rw [if_pos ht] at hv
        exact ihx.1 _ mok s E h hlx hv β a w hr Q fun e s' h' β' a' w' he hr' hs' => hQ e s' h' β' a' w' he hr' (hs'.mono (fun d hd => app_mem.2 (.inl hd)) (fun _ e => e) (fun _ e => e) (fun _ e => e))
      · rw [if_neg (by rw [ht]; simp)] at hv
        exact ihy.1 _ mok s E h hly hv β a w hr Q fun e s' h' β' a' w' he hr' hs' => hQ e s' h' β' a' w' he hr' (hs'.mono (fun d hd => app_mem.2 (.inr hd)) (fun _ e => e) (fun _ e => e) (fun _ e => e))
    · exact hv.elim
  | block id x ih =>
    refine ⟨?_, fun l r e => by simp [zoh] at e⟩
    intro A mok s E h hlt hv β a w hr Q hQ
    refine wp_block ?_
    unfold liftM at hv
    split at hv
    · rename_i js mm _
      obtain ⟨hmm, R, hA, hB⟩ := condP hv
      have hmm' := zbp1 hmm
      refine ih.1 _ mm s _ h hlt hA β a w hr _ fun e s' h' β' a' w' he hr' hs' => ?_
      have joined : getJ C.tb js s' (fun x => R x h') → Q .normal a' w' := fun hg => by
        obtain ⟨z, hz, hr2, hs2⟩ := zhj1 ok hr hs' hr' hg
        exact hQ .nrm _ h' β' a' w' (hB z h' hz) hr2 (hs2.mono (fun _ e => e) hmm' (fun _ e => e) (fun _ e => e))
      cases e with
      | nrm => exact joined he
      | ret => exact hQ .ret s' h' β' a' w' he hr' (hs'.mono (fun _ e => e) hmm' (fun _ e => e) (fun _ e => e))
      | ext i =>
        simp only [exOf, Exit.inBlock]
        by_cases hi : i = id
        · subst hi
          simp only [Env.blk, Nat.beq_refl, cond_true] at he
          simpa using joined he
        · rw [if_neg hi]
          simp only [Env.blk, zlb1 hi, cond_false] at he
          exact hQ (.ext i) s' h' β' a' w' he hr' (hs'.mono (fun _ e => e) hmm' (fun _ e => e) (fun _ e => e))
      | gto i => exact hQ (.gto i) s' h' β' a' w' he hr' (hs'.mono (fun _ e => e) hmm' (fun _ e => e) (fun _ e => e))
    · refine ih.1 _ mok s _ h hlt hv β a w hr _ fun e s' h' β' a' w' he hr' hs' => ?_
      cases e with
      | nrm => exact hQ .nrm s' h' β' a' w' he hr' hs'
      | ret => exact hQ .ret s' h' β' a' w' he hr' hs'
      | ext i =>
        simp only [exOf, Exit.inBlock]
        by_cases hi : i = id
        · subst hi
          simp only [Env.blk, Nat.beq_refl, cond_true] at he
          rw [if_pos rfl]
          exact hQ .nrm s' h' β' a' w' he hr' hs'
        · rw [if_neg hi]
          simp only [Env.blk, zlb1 hi, cond_false] at he
          exact hQ (.ext i) s' h' β' a' w' he hr' hs'
      | gto i => exact hQ (.gto i) s' h' β' a' w' he hr' hs'
  | scope x ih =>
    refine ⟨?_, fun l r e => by simp [zoh] at e⟩
    intro A mok s E h hlt hv β a w hr Q hQ
    unfold liftM at hv
    split at hv
    · rename_i l _
      split at hv
      · rename_i r hrest
        refine wp_scope_jumps l (fun a' w' => r.wp C.P (Exit.noGoto Q) a' w') (fun _ _ => 0) (zto1 hrest) ?_ fun a' w' hJ => wp_seq (wp_skip (wp_mono hJ fun _ _ _ => zem1))
        exact (ih.2 l r hrest).2.2 _ mok s E h hlt hv β a w hr Q fun e s' h' β' a' w' _ he hr' hs' => hQ e s' h' β' a' w' he hr' hs'
      · exact hv.elim
    · refine wp_scope_straight ?_
      refine ih.1 _ mok s _ h hlt hv β a w hr _ fun e s' h' β' a' w' he hr' hs' => ?_
      cases e with
      | nrm => exact hQ .nrm s' h' β' a' w' he hr' hs'
      | ret => exact hQ .ret s' h' β' a' w' he hr' hs'
      | ext i => exact hQ (.ext i) s' h' β' a' w' he hr' hs'
      | gto i => exact he.elim
  | loop x ih =>
    refine ⟨?_, fun l r e => by simp [zoh] at e⟩
    intro A mok s E h hlt hv β a w hr Q hQ
    unfold liftM at hv
    split at hv
    · rename_i js mm _
      obtain ⟨hmm, hv⟩ := condP hv
      have hmm' := zbp1 hmm
      obtain ⟨x0, hx0, hr0, hs0⟩ := zhj1 ok hr (Seg.refl (l := mods x) (mm := mm)) hr hv
      obtain ⟨I, μ, hI, hbody⟩ := hx0
      refine zpm1 (fun m a' w' => ∃ z h' β', I z h' ∧ μ z h' = m ∧ Rel n β' (setJ C.tb js z (s.forget (mods x) mm)) a' h' w' ∧ Seg (mods x) mm (lives s) β a h w (lives (setJ C.tb js z (s.forget (mods x) mm))) β' a' h' w')
        ⟨_, x0, h, β, hI, rfl, hr0, hs0⟩ ?_
      rintro m a' w' ⟨z, h', β', hz, rfl, hr1, hs1⟩
      refine ih.1 _ mm _ _ h' hlt (hbody z h' hz) β' a' w' hr1 _ fun e s2 h2 β2 a2 w2 he hr2 hs2 => ?_
      have hs12 := hs1.trans hs2
      cases e with
      | nrm =>
        obtain ⟨z2, hz2, hr3, hs3⟩ := zhj1 ok hr hs12 hr2 he
        exact ⟨_, hz2.2, z2, h2, β2, hz2.1, rfl, hr3, hs3⟩
      | ret => exact hQ .ret s2 h2 β2 a2 w2 he hr2 (hs12.mono (fun _ e => e) hmm' (fun _ e => e) (fun _ e => e))
      | ext i => exact hQ (.ext i) s2 h2 β2 a2 w2 he hr2 (hs12.mono (fun _ e => e) hmm' (fun _ e => e) (fun _ e => e))
      | gto i => exact hQ (.gto i) s2 h2 β2 a2 w2 he hr2 (hs12.mono (fun _ e => e) hmm' (fun _ e => e) (fun _ e => e))
    · exact hv.elim
  | _ => exact ⟨fun A mok s E h _ hv => hv.elim, fun l r e => by simp [zoh] at e⟩
theorem zxw1 {C : Ctx} (ok : C.tb.Ok C.P) {n : Nat} (c : Code) (A : Ann) (mok : List Nat) (s : St) (E : Env) (h : Hp) (hlt : ∀ d ∈ mods c, d < n) (hv : liftM C c .full A mok s E h) (β : Nat → Nat) (a : Act) (w : World) (hr : Rel n β s a h w)
    (Q : Exit → Act → World → Prop) (hQ : ∀ e s' h' β' a' w', E e s' h' → Rel n β' s' a' h' w' → Seg (mods c) mok (lives s) β a h w (lives s') β' a' h' w' → Q (exOf e) a' w') : c.wp C.P Q a w :=
  (ztp1 ok c).1 A mok s E h hlt hv β a w hr Q hQ
end Lf

namespace Lf
open Go
def zen1 (tmps : Array Value) : ResultVar → Sem Value
  | .tmp t => pure (tmps.getD t undef)
  | .cell a t => do loadVar t (← asAddr (tmps.getD a undef))
def zag2 : List Value → Value
  | [v] => v
  | vs => .tuple vs.toArray
theorem ztq1 {P : Program} {fn : Func} {tmps : Array Value} {vs : List Value} {w : World} (h : (fn.results.toList.mapM (zen1 tmps)).run P w = .ok vs w) : (results fn tmps).run P w = .ok (zag2 vs) w := by
  have e : results fn tmps = ((fn.results.mapM (zen1 tmps)) >>= fun vs => pure (if h : vs.size = 1 then vs[0] else .tuple vs)) := by
    unfold results
    congr 1
  rw [e, Array.mapM_eq_mapM_toList, map_eq_pure_bind]
  simp only [Sem.run_bind, h, Result.andThen_ok, Sem.run_pure]
  cases vs with
  | nil => rfl
  | cons v vs => cases vs <;> simp [zag2]
theorem zxx1 {P : Program} {tb : Tb} (ok : tb.Ok P) {t : Nat} {e : Ty} (he : tb.ty t = some e) {w : World} {a : Addr} {x : (shOf tb t).T}
    (hc : ∀ (j : Nat) (v : Value), (zae ((shOf tb t).enc x))[j]? = some v → w.cell? (a.add j) = some v) : (loadVar t a).run P w = .ok ((shOf tb t).enc x) w := by
  revert x
  rw [zaf2, he]
  intro x hc
  exact zyi ok he hc
section
variable {C : Ctx} {n : Nat} {β : Nat → Nat} {s : St} {a : Act} {h : Hp} {w : World}
theorem zdh (ok : C.tb.Ok C.P) (hr : Rel n β s a h w) {r : ResultVar} {t : Nat} {K : (shOf C.tb t).T → Prop} (hv : zoi C s r t K) : ∃ x, K x ∧ (zen1 a.tmps r).run C.P w = .ok ((shOf C.tb t).enc x) w := by
  cases r with
  | tmp i =>
    simp only [zoi] at hv
    split at hv
    · rename_i v hf
      split at hv
      · rename_i x hx
        refine ⟨x, hv, ?_⟩
        have := (hr.cur i _ [] hf trivial (zbj _)).1
        rw [(shOf C.tb t).ok v x hx]
        simp only [zen1, Sem.run_pure]
        exact congrArg (fun v => Result.ok v w) this
      · exact hv.elim
    · exact hv.elim
  | cell i ct =>
    simp only [zoi] at hv
    obtain ⟨h1, hv⟩ := condP hv
    have h1 := Nat.eq_of_beq_eq_true h1
    subst h1
    split at hv
    · rename_i k e hf he
      split at hv
      · rename_i cs hm
        split at hv
        · rename_i v hcs
          split at hv
          · rename_i x hx
            refine ⟨x, hv, ?_⟩
            have hc := zwf1 ok hcs hx
            obtain ⟨_, t', hb⟩ := hr.box k cs hm trivial
            have := (hr.cur i _ [] hf trivial (zbj _)).1
            have h2 : a.tmps.getD i undef = .pointer (some ⟨β k, 0, none⟩) := this
            simp only [zen1, h2, asAddr, Sem.run_bind, Sem.run_pure, Result.andThen_ok]
            refine zxx1 ok he fun j v hj => ?_
            rw [hc] at hj
            rw [zez, zpb1 hb]
            simpa using hj
          · exact hv.elim
        · exact hv.elim
      · exact hv.elim
    · exact hv.elim
theorem zda2 (ok : C.tb.Ok C.P) (hr : Rel n β s a h w) {rs : List ResultVar} {ts : List Nat} {K : (shRes C.tb ts).T → Hp → Prop} (hv : retW C s h rs ts K) :
    ∃ x vs, K x h ∧ (rs.mapM (zen1 a.tmps)).run C.P w = .ok vs w ∧ zag2 vs = (shRes C.tb ts).enc x := by
  have step : ∀ {r : ResultVar} {rs : List ResultVar} {v : Value} {vs : List Value}, (zen1 a.tmps r).run C.P w = .ok v w → (rs.mapM (zen1 a.tmps)).run C.P w = .ok vs w → ((r :: rs).mapM (zen1 a.tmps)).run C.P w = .ok (v :: vs) w := by
    intro r rs v vs h1 h2
    simp only [List.mapM_cons, Sem.run_bind, h1, h2, Result.andThen_ok, Sem.run_pure]
  have nil : (([] : List ResultVar).mapM (zen1 a.tmps)).run C.P w = .ok [] w := by simp only [List.mapM_nil, Sem.run_pure]
  unfold retW at hv
  split at hv
  · exact ⟨(), [], hv, nil, rfl⟩
  · obtain ⟨x, hk, h1⟩ := zdh ok hr hv
    exact ⟨x, _, hk, step h1 nil, rfl⟩
  · obtain ⟨x1, hv, h1⟩ := zdh ok hr hv
    obtain ⟨x2, hk, h2⟩ := zdh ok hr hv
    exact ⟨(x1, x2), _, hk, step h1 (step h2 nil), rfl⟩
  · obtain ⟨x1, hv, h1⟩ := zdh ok hr hv
    obtain ⟨x2, hv, h2⟩ := zdh ok hr hv
    obtain ⟨x3, hk, h3⟩ := zdh ok hr hv
    exact ⟨(x1, x2, x3), _, hk, step h1 (step h2 (step h3 nil)), rfl⟩
  · obtain ⟨x1, hv, h1⟩ := zdh ok hr hv
    obtain ⟨x2, hv, h2⟩ := zdh ok hr hv
    obtain ⟨x3, hv, h3⟩ := zdh ok hr hv
    obtain ⟨x4, hk, h4⟩ := zdh ok hr hv
    exact ⟨(x1, x2, x3, x4), _, hk, step h1 (step h2 (step h3 (step h4 nil))), rfl⟩
  · obtain ⟨x1, hv, h1⟩ := zdh ok hr hv
    obtain ⟨x2, hv, h2⟩ := zdh ok hr hv
    obtain ⟨x3, hv, h3⟩ := zdh ok hr hv
    obtain ⟨x4, hv, h4⟩ := zdh ok hr hv
    obtain ⟨x5, hk, h5⟩ := zdh ok hr hv
    exact ⟨(x1, x2, x3, x4, x5), _, hk, step h1 (step h2 (step h3 (step h4 (step h5 nil)))), rfl⟩
  · exact hv.elim
end
theorem zah2 {n : Nat} {l : List Nat} (h : allLt n l = true) : ∀ d ∈ l, d < n := by
  induction l with
  | nil => intro d hd; cases hd
  | cons a l ih =>
    simp only [allLt] at h
    obtain ⟨h1, h2⟩ := condT h
    intro d hd
    rcases List.mem_cons.1 hd with rfl | hd
    · have : d + 1 ≤ n := by simpa [Nat.blt] using h1
      exact this
    · exact ih h2 d hd
theorem zaa {C : Ctx} (ok : C.tb.Ok C.P) {g : FuncId} {f : Func} {c : Code} {A : Ann} {args : List Value} {K : (shRes C.tb f.resultTypes.toList).T → Hp → Prop} {h : Hp} (hf : C.P.funcs[g]? = some f) (hb : f.body = some c)
    (hv : funW C f A args K h) : CallT C.P g args (shRes C.tb f.resultTypes.toList) K h := by
  intro w hs
  unfold funW at hv
  obtain ⟨hc, hv⟩ := condP hv
  obtain ⟨h1, h2⟩ := condT hc
  have h1 : args.length ≤ f.ntmps := Nat.le_of_ble_eq_true h1
  have hbody : zvk1 f = c := by unfold zvk1; rw [hb]
  rw [hbody] at hv h2
  refine calls_of_wp hf hb ?_
  have hget : ∀ (t : Nat) (v : Value), args[t]? = some v → (args.toArray ++ Array.replicate (f.ntmps - args.toArray.size) undef)[t]? = some v := by
    intro t v e
    have hlt : t < args.length := (List.getElem?_eq_some_iff.1 e).1
    rw [Array.getElem?_append_left (by simpa using hlt)]
    simpa using e
  have hargs : ∀ (t : Nat) (l : LV) (c : Chain), argsF args t = some (l, c) → ∃ v, args[t]? = some v ∧ l = .v v ∧ c = [] := by
    intro t l c e
    unfold argsF at e
    rw [zhq] at e
    split at e
    · rename_i v hv
      cases e
      exact ⟨v, hv, rfl, rfl⟩
    · cases e
  have hrel : Rel f.ntmps (fun _ => 0) { f := argsF args, m := fun _ => none } { tmps := args.toArray ++ Array.replicate (f.ntmps - args.toArray.size) undef, defers := [] } h w := by
    refine ⟨by simp; omega, hs, fun t l c e => ?_, fun t l c e p hp => ?_, fun t l c e _ _ => ?_, fun t l c e _ hh => ?_, fun k cs e _ => (by cases e), fun k k' e => absurd rfl e, fun _ e => e.elim, fun _ e => e.elim⟩
    · obtain ⟨v, h3, _, _⟩ := hargs t l c e
      have := (List.getElem?_eq_some_iff.1 h3).1
      omega
    · obtain ⟨v, h3, _, rfl⟩ := hargs t l c e
      cases hp
    · obtain ⟨v, h3, rfl, rfl⟩ := hargs t l c e
      refine ⟨?_, fun _ _ _ => trivial⟩
      simp only [Act.eval, LVal, Array.getD_eq_getD_getElem?, hget t v h3, Option.getD_some]
    · obtain ⟨v, h3, rfl, rfl⟩ := hargs t l c e
      exact absurd (zbj _) hh
  refine zxw1 ok c A C.priv _ _ h (zah2 h2) hv _ _ w hrel _ fun e s' h' β' a' w' he hr' hs' => ?_
  have hst : Step h h' w w' := ⟨hr'.sub, hs'.size, fun b hb hn => ⟨hs'.keep b hb hn (fun k _ hl => absurd rfl hl.1), hs'.unk b hb hn (fun k _ hl => absurd rfl hl.1)⟩, hs'.os, hs'.tape, hs'.output⟩
  have done : retW C s' h' f.results.toList f.resultTypes.toList K → a'.defers = [] ∧ ∃ v, (results f a'.tmps).run C.P w' = .ok v w' ∧ ∃ u h2, Ending.returned v = .returned u ∧ (∃ x, u = (shRes C.tb f.resultTypes.toList).enc x ∧ K x h2) ∧ Step h h2 w w' := by
    intro hw
    obtain ⟨x, vs, hk, hrun, hval⟩ := zda2 ok hr' hw
    exact ⟨hs'.defers, _, ztq1 hrun, _, h', rfl, ⟨x, hval, hk⟩, hst⟩
  cases e with
  | nrm => exact done he
  | ret => exact done he
  | ext i => exact he.elim
  | gto i => exact he.elim
end Lf

set_option maxRecDepth 100000
namespace Lf
open Go Go.Proofs
theorem zwh1 {α : Type _} {l : List α} {i : Nat} (h : l.length ≤ i) : nth l i = none := by rw [zhq]; exact List.getElem?_eq_none h
theorem tyN {e : Ty} {q : Prop} (h : (none : Option Ty) = some e) : q := by cases h
theorem tyAll {p : Nat → Ty → Prop} (h0 : p 0 ty0) (h2 : p 2 ty2) (h3 : p 3 ty3) (h4 : p 4 ty4) (h5 : p 5 ty5) (h9 : p 9 ty9) (h22 : p 22 ty22) (h23 : p 23 ty23) (h24 : p 24 ty24) (h26 : p 26 ty26) (h27 : p 27 ty27) (h28 : p 28 ty28) (h30 : p 30 ty30) (h33 : p 33 ty33) (h34 : p 34 ty34) (h35 : p 35 ty35) (h37 : p 37 ty37) (h47 : p 47 ty47) (h49 : p 49 ty49) (h51 : p 51 ty51) (h54 : p 54 ty54) (h57 : p 57 ty57) (h58 : p 58 ty58) (h60 : p 60 ty60) (h61 : p 61 ty61) (h62 : p 62 ty62) (h64 : p 64 ty64) (h65 : p 65 ty65) (h66 : p 66 ty66) (h68 : p 68 ty68) (h70 : p 70 ty70) (h72 : p 72 ty72) (h74 : p 74 ty74) (h80 : p 80 ty80) (h83 : p 83 ty83) (h85 : p 85 ty85) (h87 : p 87 ty87) (h90 : p 90 ty90) (h92 : p 92 ty92) (h101 : p 101 ty101) (h103 : p 103 ty103) (h104 : p 104 ty104) (h107 : p 107 ty107) (h108 : p 108 ty108) (h109 : p 109 ty109) (h111 : p 111 ty111) (h112 : p 112 ty112) (h114 : p 114 ty114) (h115 : p 115 ty115) (h117 : p 117 ty117) (h119 : p 119 ty119) (h121 : p 121 ty121) (h127 : p 127 ty127) (h128 : p 128 ty128) (h138 : p 138 ty138) (h139 : p 139 ty139) (h144 : p 144 ty144) (h146 : p 146 ty146) (h153 : p 153 ty153) (h156 : p 156 ty156) (h159 : p 159 ty159) (h167 : p 167 ty167) (h170 : p 170 ty170) (h172 : p 172 ty172) (h174 : p 174 ty174) (h179 : p 179 ty179) (h182 : p 182 ty182) (h185 : p 185 ty185) (h193 : p 193 ty193) (h194 : p 194 ty194) (h195 : p 195 ty195) (h196 : p 196 ty196) (h200 : p 200 ty200) (h201 : p 201 ty201) : ∀ t e, tyAt t = some e → p t e := by
 intro t e h
 by_cases hlt : t < 208
 ·match t, hlt, h with
  | 0, _, h => exact Option.some.inj (show some ty0 = some e from h) ▸ h0
  | 1, _, h => exact tyN h
  | 2, _, h => exact Option.some.inj (show some ty2 = some e from h) ▸ h2
  | 3, _, h => exact Option.some.inj (show some ty3 = some e from h) ▸ h3
  | 4, _, h => exact Option.some.inj (show some ty4 = some e from h) ▸ h4
  | 5, _, h => exact Option.some.inj (show some ty5 = some e from h) ▸ h5
  | 6, _, h => exact tyN h
  | 7, _, h => exact tyN h
  | 8, _, h => exact tyN h
  | 9, _, h => exact Option.some.inj (show some ty9 = some e from h) ▸ h9
  | 10, _, h => exact tyN h
  | 11, _, h => exact tyN h
  | 12, _, h => exact tyN h
  | 13, _, h => exact tyN h
  | 14, _, h => exact tyN h
  | 15, _, h => exact tyN h
  | 16, _, h => exact tyN h
  | 17, _, h => exact tyN h
  | 18, _, h => exact tyN h
  | 19, _, h => exact tyN h
  | 20, _, h => exact tyN h
  | 21, _, h => exact tyN h
  | 22, _, h => exact Option.some.inj (show some ty22 = some e from h) ▸ h22
  | 23, _, h => exact Option.some.inj (show some ty23 = some e from h) ▸ h23
  | 24, _, h => exact Option.some.inj (show some ty24 = some e from h) ▸ h24
  | 25, _, h => exact tyN h
  | 26, _, h => exact Option.some.inj (show some ty26 = some e from h) ▸ h26
  | 27, _, h => exact Option.some.inj (show some ty27 = some e from h) ▸ h27
  | 28, _, h => exact Option.some.inj (show some ty28 = some e from h) ▸ h28
  | 29, _, h => exact tyN h
  | 30, _, h => exact Option.some.inj (show some ty30 = some e from h) ▸ h30
  | 31, _, h => exact tyN h
  | 32, _, h => exact tyN h
  | 33, _, h => exact Option.some.inj (show some ty33 = some e from h) ▸ h33
  | 34, _, h => exact Option.some.inj (show some ty34 = some e from h) ▸ h34
  | 35, _, h => exact Option.some.inj (show some ty35 = some e from h) ▸ h35
  | 36, _, h => exact tyN h
  | 37, _, h => exact Option.some.inj (show some ty37 = some e from h) ▸ h37
  | 38, _, h => exact tyN h
  | 39, _, h => exact tyN h
  | 40, _, h => exact tyN h
  | 41, _, h => exact tyN h
  | 42, _, h => exact tyN h
  | 43, _, h => exact tyN h
  | 44, _, h => exact tyN h
  | 45, _, h => exact tyN h
  | 46, _, h => exact tyN h
  | 47, _, h => exact Option.some.inj (show some ty47 = some e from h) ▸ h47
  | 48, _, h => exact tyN h
  | 49, _, h => exact Option.some.inj (show some ty49 = some e from h) ▸ h49
  | 50, _, h => exact tyN h
  | 51, _, h => exact Option.some.inj (show some ty51 = some e from h) ▸ h51
  | 52, _, h => exact tyN h
  | 53, _, h => exact tyN h
  | 54, _, h => exact Option.some.inj (show some ty54 = some e from h) ▸ h54
  | 55, _, h => exact tyN h
  | 56, _, h => exact tyN h
  | 57, _, h => exact Option.some.inj (show some ty57 = some e from h) ▸ h57
  | 58, _, h => exact Option.some.inj (show some ty58 = some e from h) ▸ h58
  | 59, _, h => exact tyN h
  | 60, _, h => exact Option.some.inj (show some ty60 = some e from h) ▸ h60
  | 61, _, h => exact Option.some.inj (show some ty61 = some e from h) ▸ h61
  | 62, _, h => exact Option.some.inj (show some ty62 = some e from h) ▸ h62
  | 63, _, h => exact tyN h
  | 64, _, h => exact Option.some.inj (show some ty64 = some e from h) ▸ h64
  | 65, _, h => exact Option.some.inj (show some ty65 = some e from h) ▸ h65
  | 66, _, h => exact Option.some.inj (show some ty66 = some e from h) ▸ h66
  | 67, _, h => exact tyN h
  | 68, _, h => exact Option.some.inj (show some ty68 = some e from h) ▸ h68
  | 69, _, h => exact tyN h
  | 70, _, h => exact Option.some.inj (show some ty70 = some e from h) ▸ h70
  | 71, _, h => exact tyN h
  | 72, _, h => exact Option.some.inj (show some ty72 = some e from h) ▸ h72
  | 73, _, h => exact tyN h
  | 74, _, h => exact Option.some.inj (show some ty74 = some e from h) ▸ h74
  | 75, _, h => exact tyN h
  | 76, _, h => exact tyN h
  | 77, _, h => exact tyN h
  | 78, _, h => exact tyN h
  | 79, _, h => exact tyN h
  | 80, _, h => exact Option.some.inj (show some ty80 = some e from h) ▸ h80
  | 81, _, h => exact tyN h
  | 82, _, h => exact tyN h
  | 83, _, h => exact Option.some.inj (show some ty83 = some e from h) ▸ h83
  | 84, _, h => exact tyN h
  | 85, _, h => exact Option.some.inj (show some ty85 = some e from h) ▸ h85
  | 86, _, h => exact tyN h
  | 87, _, h => exact Option.some.inj (show some ty87 = some e from h) ▸ h87
  | 88, _, h => exact tyN h
  | 89, _, h => exact tyN h
  | 90, _, h => exact Option.some.inj (show some ty90 = some e from h) ▸ h90
  | 91, _, h => exact tyN h
  | 92, _, h => exact Option.some.inj (show some ty92 = some e from h) ▸ h92
  | 93, _, h => exact tyN h
  | 94, _, h => exact tyN h
  | 95, _, h => exact tyN h
  | 96, _, h => exact tyN h
  | 97, _, h => exact tyN h
  | 98, _, h => exact tyN h
  | 99, _, h => exact tyN h
  | 100, _, h => exact tyN h
  | 101, _, h => exact Option.some.inj (show some ty101 = some e from h) ▸ h101
  | 102, _, h => exact tyN h
  | 103, _, h => exact Option.some.inj (show some ty103 = some e from h) ▸ h103
  | 104, _, h => exact Option.some.inj (show some ty104 = some e from h) ▸ h104
  | 105, _, h => exact tyN h
  | 106, _, h => exact tyN h
  | 107, _, h => exact Option.some.inj (show some ty107 = some e from h) ▸ h107
  | 108, _, h => exact Option.some.inj (show some ty108 = some e from h) ▸ h108
  | 109, _, h => exact Option.some.inj (show some ty109 = some e from h) ▸ h109
  | 110, _, h => exact tyN h
  | 111, _, h => exact Option.some.inj (show some ty111 = some e from h) ▸ h111
  | 112, _, h => exact Option.some.inj (show some ty112 = some e from h) ▸ h112
  | 113, _, h => exact tyN h
  | 114, _, h => exact Option.some.inj (show some ty114 = some e from h) ▸ h114
  | 115, _, h => exact Option.some.inj (show some ty115 = some e from h) ▸ h115
  | 116, _, h => exact tyN h
  | 117, _, h => exact Option.some.inj (show some ty117 = some e from h) ▸ h117
  | 118, _, h => exact tyN h
  | 119, _, h => exact Option.some.inj (show some ty119 = some e from h) ▸ h119
  | 120, _, h => exact tyN h
  | 121, _, h => exact Option.some.inj (show some ty121 = some e from h) ▸ h121
  | 122, _, h => exact tyN h
  | 123, _, h => exact tyN h
  | 124, _, h => exact tyN h
  | 125, _, h => exact tyN h
  | 126, _, h => exact tyN h
  | 127, _, h => exact Option.some.inj (show some ty127 = some e from h) ▸ h127
  | 128, _, h => exact Option.some.inj (show some ty128 = some e from h) ▸ h128
  | 129, _, h => exact tyN h
  | 130, _, h => exact tyN h
  | 131, _, h => exact tyN h
  | 132, _, h => exact tyN h
  | 133, _, h => exact tyN h
  | 134, _, h => exact tyN h
  | 135, _, h => exact tyN h
  | 136, _, h => exact tyN h
  | 137, _, h => exact tyN h
  | 138, _, h => exact Option.some.inj (show some ty138 = some e from h) ▸ h138
  | 139, _, h => exact Option.some.inj (show some ty139 = some e from h) ▸ h139
  | 140, _, h => exact tyN h
  | 141, _, h => exact tyN h
  | 142, _, h => exact tyN h
  | 143, _, h => exact tyN h
  | 144, _, h => exact Option.some.inj (show some ty144 = some e from h) ▸ h144
  | 145, _, h => exact tyN h
  | 146, _, h => exact Option.some.inj (show some ty146 = some e from h) ▸ h146
  | 147, _, h => exact tyN h
  | 148, _, h => exact tyN h
  | 149, _, h => exact tyN h
  | 150, _, h => exact tyN h
  | 151, _, h => exact tyN h
  | 152, _, h => exact tyN h
  | 153, _, h => exact Option.some.inj (show some ty153 = some e from h) ▸ h153
  | 154, _, h => exact tyN h
  | 155, _, h => exact tyN h
  | 156, _, h => exact Option.some.inj (show some ty156 = some e from h) ▸ h156
  | 157, _, h => exact tyN h
  | 158, _, h => exact tyN h
  | 159, _, h => exact Option.some.inj (show some ty159 = some e from h) ▸ h159
  | 160, _, h => exact tyN h
  | 161, _, h => exact tyN h
  | 162, _, h => exact tyN h
  | 163, _, h => exact tyN h
  | 164, _, h => exact tyN h
  | 165, _, h => exact tyN h
  | 166, _, h => exact tyN h
  | 167, _, h => exact Option.some.inj (show some ty167 = some e from h) ▸ h167
  | 168, _, h => exact tyN h
  | 169, _, h => exact tyN h
  | 170, _, h => exact Option.some.inj (show some ty170 = some e from h) ▸ h170
  | 171, _, h => exact tyN h
  | 172, _, h => exact Option.some.inj (show some ty172 = some e from h) ▸ h172
  | 173, _, h => exact tyN h
  | 174, _, h => exact Option.some.inj (show some ty174 = some e from h) ▸ h174
  | 175, _, h => exact tyN h
  | 176, _, h => exact tyN h
  | 177, _, h => exact tyN h
  | 178, _, h => exact tyN h
  | 179, _, h => exact Option.some.inj (show some ty179 = some e from h) ▸ h179
  | 180, _, h => exact tyN h
  | 181, _, h => exact tyN h
  | 182, _, h => exact Option.some.inj (show some ty182 = some e from h) ▸ h182
  | 183, _, h => exact tyN h
  | 184, _, h => exact tyN h
  | 185, _, h => exact Option.some.inj (show some ty185 = some e from h) ▸ h185
  | 186, _, h => exact tyN h
  | 187, _, h => exact tyN h
  | 188, _, h => exact tyN h
  | 189, _, h => exact tyN h
  | 190, _, h => exact tyN h
  | 191, _, h => exact tyN h
  | 192, _, h => exact tyN h
  | 193, _, h => exact Option.some.inj (show some ty193 = some e from h) ▸ h193
  | 194, _, h => exact Option.some.inj (show some ty194 = some e from h) ▸ h194
  | 195, _, h => exact Option.some.inj (show some ty195 = some e from h) ▸ h195
  | 196, _, h => exact Option.some.inj (show some ty196 = some e from h) ▸ h196
  | 197, _, h => exact tyN h
  | 198, _, h => exact tyN h
  | 199, _, h => exact tyN h
  | 200, _, h => exact Option.some.inj (show some ty200 = some e from h) ▸ h200
  | 201, _, h => exact Option.some.inj (show some ty201 = some e from h) ▸ h201
  | 202, _, h => exact tyN h
  | 203, _, h => exact tyN h
  | 204, _, h => exact tyN h
  | 205, _, h => exact tyN h
  | 206, _, h => exact tyN h
  | 207, _, h => exact tyN h
  | n + 208, hlt, _ => omega
 ·have hl : tyRows.length = 13 := rfl
  have : nth tyRows (t / 16) = none := zwh1 (l := tyRows) (i := t / 16) (by rw [hl]; omega)
  unfold tyAt at h
  rw [this] at h
  cases h
theorem tb_ok : tb.Ok Tryz.prog where
 und := tyAll (p := fun t e => Tryz.prog.underlying t = some e.und) Tryz.underlying0 Tryz.underlying2 Tryz.underlying3 Tryz.underlying4 Tryz.underlying5 Tryz.underlying9 Tryz.underlying22 Tryz.underlying23 Tryz.underlying24 Tryz.underlying26 Tryz.underlying27 Tryz.underlying28 Tryz.underlying30 Tryz.underlying33 Tryz.underlying34 Tryz.underlying35 Tryz.underlying37 Tryz.underlying47 Tryz.underlying49 Tryz.underlying51 Tryz.underlying54 Tryz.underlying57 Tryz.underlying58 Tryz.underlying60 Tryz.underlying61 Tryz.underlying62 Tryz.underlying64 Tryz.underlying65 Tryz.underlying66 Tryz.underlying68 Tryz.underlying70 Tryz.underlying72 Tryz.underlying74 Tryz.underlying80 Tryz.underlying83 Tryz.underlying85 Tryz.underlying87 Tryz.underlying90 Tryz.underlying92 Tryz.underlying101 Tryz.underlying103 Tryz.underlying104 Tryz.underlying107 Tryz.underlying108 Tryz.underlying109 Tryz.underlying111 Tryz.underlying112 Tryz.underlying114 Tryz.underlying115 Tryz.underlying117 Tryz.underlying119 Tryz.underlying121 Tryz.underlying127 Tryz.underlying128 Tryz.underlying138 Tryz.underlying139 Tryz.underlying144 Tryz.underlying146 Tryz.underlying153 Tryz.underlying156 Tryz.underlying159 Tryz.underlying167 Tryz.underlying170 Tryz.underlying172 Tryz.underlying174 Tryz.underlying179 Tryz.underlying182 Tryz.underlying185 Tryz.underlying193 Tryz.underlying194 Tryz.underlying195 Tryz.underlying196 Tryz.underlying200 Tryz.underlying201
 info := tyAll (p := fun t e => ∃ i, Tryz.prog.info? t = some i ∧ i.size = e.size ∧ i.bytes = e.bytes ∧ i.zero = some e.zero) ⟨Tryz.t0, Tryz.type0, rfl, rfl, rfl⟩ ⟨Tryz.t2, Tryz.type2, rfl, rfl, rfl⟩ ⟨Tryz.t3, Tryz.type3, rfl, rfl, rfl⟩ ⟨Tryz.t4, Tryz.type4, rfl, rfl, rfl⟩ ⟨Tryz.t5, Tryz.type5, rfl, rfl, rfl⟩ ⟨Tryz.t9, Tryz.type9, rfl, rfl, rfl⟩ ⟨Tryz.t22, Tryz.type22, rfl, rfl, rfl⟩ ⟨Tryz.t23, Tryz.type23, rfl, rfl, rfl⟩ ⟨Tryz.t24, Tryz.type24, rfl, rfl, rfl⟩ ⟨Tryz.t26, Tryz.type26, rfl, rfl, rfl⟩ ⟨Tryz.t27, Tryz.type27, rfl, rfl, rfl⟩ ⟨Tryz.t28, Tryz.type28, rfl, rfl, rfl⟩ ⟨Tryz.t30, Tryz.type30, rfl, rfl, rfl⟩ ⟨Tryz.t33, Tryz.type33, rfl, rfl, rfl⟩ ⟨Tryz.t34, Tryz.type34, rfl, rfl, rfl⟩ ⟨Tryz.t35, Tryz.type35, rfl, rfl, rfl⟩ ⟨Tryz.t37, Tryz.type37, rfl, rfl, rfl⟩ ⟨Tryz.t47, Tryz.type47, rfl, rfl, rfl⟩ ⟨Tryz.t49, Tryz.type49, rfl, rfl, rfl⟩ ⟨Tryz.t51, Tryz.type51, rfl, rfl, rfl⟩ ⟨Tryz.t54, Tryz.type54, rfl, rfl, rfl⟩ ⟨Tryz.t57, Tryz.type57, rfl, rfl, rfl⟩ ⟨Tryz.t58, Tryz.type58, rfl, rfl, rfl⟩ ⟨Tryz.t60, Tryz.type60, rfl, rfl, rfl⟩ ⟨Tryz.t61, Tryz.type61, rfl, rfl, rfl⟩ ⟨Tryz.t62, Tryz.type62, rfl, rfl, rfl⟩ ⟨Tryz.t64, Tryz.type64, rfl, rfl, rfl⟩ ⟨Tryz.t65, Tryz.type65, rfl, rfl, rfl⟩ ⟨Tryz.t66, Tryz.type66, rfl, rfl, rfl⟩ ⟨Tryz.t68, Tryz.type68, rfl, rfl, rfl⟩ ⟨Tryz.t70, Tryz.type70, rfl, rfl, rfl⟩ ⟨Tryz.t72, Tryz.type72, rfl, rfl, rfl⟩ ⟨Tryz.t74, Tryz.type74, rfl, rfl, rfl⟩ ⟨Tryz.t80, Tryz.type80, rfl, rfl, rfl⟩ ⟨Tryz.t83, Tryz.type83, rfl, rfl, rfl⟩ ⟨Tryz.t85, Tryz.type85, rfl, rfl, rfl⟩ ⟨Tryz.t87, Tryz.type87, rfl, rfl, rfl⟩ ⟨Tryz.t90, Tryz.type90, rfl, rfl, rfl⟩ ⟨Tryz.t92, Tryz.type92, rfl, rfl, rfl⟩ ⟨Tryz.t101, Tryz.type101, rfl, rfl, rfl⟩ ⟨Tryz.t103, Tryz.type103, rfl, rfl, rfl⟩ ⟨Tryz.t104, Tryz.type104, rfl, rfl, rfl⟩ ⟨Tryz.t107, Tryz.type107, rfl, rfl, rfl⟩ ⟨Tryz.t108, Tryz.type108, rfl, rfl, rfl⟩ ⟨Tryz.t109, Tryz.type109, rfl, rfl, rfl⟩ ⟨Tryz.t111, Tryz.type111, rfl, rfl, rfl⟩ ⟨Tryz.t112, Tryz.type112, rfl, rfl, rfl⟩ ⟨Tryz.t114, Tryz.type114, rfl, rfl, rfl⟩ ⟨Tryz.t115, Tryz.type115, rfl, rfl, rfl⟩ ⟨Tryz.t117, Tryz.type117, rfl, rfl, rfl⟩ ⟨Tryz.t119, Tryz.type119, rfl, rfl, rfl⟩ ⟨Tryz.t121, Tryz.type121, rfl, rfl, rfl⟩ ⟨Tryz.t127, Tryz.type127, rfl, rfl, rfl⟩ ⟨Tryz.t128, Tryz.type128, rfl, rfl, rfl⟩ ⟨Tryz.t138, Tryz.type138, rfl, rfl, rfl⟩ ⟨Tryz.t139, Tryz.type139, rfl, rfl, rfl⟩ ⟨Tryz.t144, Tryz.type144, rfl, rfl, rfl⟩ ⟨Tryz.t146, Tryz.type146, rfl, rfl, rfl⟩ ⟨Tryz.t153, Tryz.type153, rfl, rfl, rfl⟩ ⟨Tryz.t156, Tryz.type156, rfl, rfl, rfl⟩ ⟨Tryz.t159, Tryz.type159, rfl, rfl, rfl⟩ ⟨Tryz.t167, Tryz.type167, rfl, rfl, rfl⟩ ⟨Tryz.t170, Tryz.type170, rfl, rfl, rfl⟩ ⟨Tryz.t172, Tryz.type172, rfl, rfl, rfl⟩ ⟨Tryz.t174, Tryz.type174, rfl, rfl, rfl⟩ ⟨Tryz.t179, Tryz.type179, rfl, rfl, rfl⟩ ⟨Tryz.t182, Tryz.type182, rfl, rfl, rfl⟩ ⟨Tryz.t185, Tryz.type185, rfl, rfl, rfl⟩ ⟨Tryz.t193, Tryz.type193, rfl, rfl, rfl⟩ ⟨Tryz.t194, Tryz.type194, rfl, rfl, rfl⟩ ⟨Tryz.t195, Tryz.type195, rfl, rfl, rfl⟩ ⟨Tryz.t196, Tryz.type196, rfl, rfl, rfl⟩ ⟨Tryz.t200, Tryz.type200, rfl, rfl, rfl⟩ ⟨Tryz.t201, Tryz.type201, rfl, rfl, rfl⟩
 agg := tyAll (p := fun t e => zkv e.und = true → ∀ x, ∃ cs, e.sh.enc x = .agg cs ∧ cs.size = e.size) (fun h => by cases h) (fun h => by cases h) (fun h => by cases h) (fun h => by cases h) (fun h => by cases h) (fun h => by cases h) (fun h => by cases h) (fun h => by cases h) (fun h => by cases h) (fun _ x => ⟨_, rfl, rfl⟩) (fun h => by cases h) (fun h => by cases h) (fun _ x => ⟨_, rfl, rfl⟩) (fun h => by cases h) (fun h => by cases h) (fun h => by cases h) (fun h => by cases h) (fun h => by cases h) (fun _ x => ⟨_, rfl, rfl⟩) (fun _ x => ⟨_, rfl, rfl⟩) (fun h => by cases h) (fun h => by cases h) (fun h => by cases h) (fun _ x => ⟨_, rfl, rfl⟩) (fun _ x => ⟨_, rfl, rfl⟩) (fun h => by cases h) (fun _ x => ⟨_, rfl, rfl⟩) (fun h => by cases h) (fun h => by cases h) (fun _ x => ⟨_, rfl, rfl⟩) (fun h => by cases h) (fun _ x => ⟨_, rfl, rfl⟩) (fun _ x => ⟨_, rfl, rfl⟩) (fun h => by cases h) (fun h => by cases h) (fun _ x => ⟨_, rfl, rfl⟩) (fun _ x => ⟨_, rfl, rfl⟩) (fun h => by cases h) (fun _ x => ⟨_, rfl, rfl⟩) (fun h => by cases h) (fun h => by cases h) (fun h => by cases h) (fun _ x => ⟨_, rfl, rfl⟩) (fun h => by cases h) (fun h => by cases h) (fun _ x => ⟨_, rfl, rfl⟩) (fun h => by cases h) (fun _ x => ⟨_, rfl, rfl⟩) (fun h => by cases h) (fun h => by cases h) (fun h => by cases h) (fun _ x => ⟨_, rfl, rfl⟩) (fun h => by cases h) (fun h => by cases h) (fun h => by cases h) (fun h => by cases h) (fun h => by cases h) (fun _ x => ⟨_, rfl, rfl⟩) (fun _ x => ⟨_, rfl, rfl⟩) (fun h => by cases h) (fun _ x => ⟨_, rfl, rfl⟩) (fun _ x => ⟨_, rfl, rfl⟩) (fun h => by cases h) (fun _ x => ⟨_, rfl, rfl⟩) (fun h => by cases h) (fun h => by cases h) (fun h => by cases h) (fun h => by cases h) (fun h => by cases h) (fun _ x => ⟨_, rfl, rfl⟩) (fun h => by cases h) (fun _ x => ⟨_, rfl, x.size⟩) (fun h => by cases h) (fun h => by cases h)
 leaf := tyAll (p := fun t e => zkv e.und = false → e.size = 1 ∧ ∀ x, (zae (e.sh.enc x)).length = 1 ∧ ∀ cs, e.sh.enc x ≠ .agg cs) (fun _ => ⟨rfl, fun x => ⟨rfl, fun cs h => by cases h⟩⟩) (fun _ => ⟨rfl, fun x => ⟨rfl, fun cs h => by cases h⟩⟩) (fun _ => ⟨rfl, fun x => ⟨rfl, fun cs h => by cases h⟩⟩) (fun _ => ⟨rfl, fun x => ⟨rfl, fun cs h => by cases h⟩⟩) (fun _ => ⟨rfl, fun x => ⟨rfl, fun cs h => by cases h⟩⟩) (fun _ => ⟨rfl, fun x => ⟨rfl, fun cs h => by cases h⟩⟩) (fun _ => ⟨rfl, fun x => ⟨rfl, fun cs h => by cases h⟩⟩) (fun _ => ⟨rfl, fun x => ⟨rfl, fun cs h => by cases h⟩⟩) (fun _ => ⟨rfl, fun x => ⟨rfl, fun cs h => by cases h⟩⟩) (fun h => by cases h) (fun _ => ⟨rfl, fun x => ⟨rfl, fun cs h => by cases h⟩⟩) (fun _ => ⟨rfl, fun x => ⟨rfl, fun cs h => by cases h⟩⟩) (fun h => by cases h) (fun _ => ⟨rfl, fun x => ⟨rfl, fun cs h => by cases h⟩⟩) (fun _ => ⟨rfl, fun x => ⟨rfl, fun cs h => by cases h⟩⟩) (fun _ => ⟨rfl, fun x => ⟨rfl, fun cs h => by cases h⟩⟩) (fun _ => ⟨rfl, fun x => ⟨rfl, fun cs h => by cases h⟩⟩) (fun _ => ⟨rfl, fun x => ⟨rfl, fun cs h => by cases h⟩⟩) (fun h => by cases h) (fun h => by cases h) (fun _ => ⟨rfl, fun x => ⟨rfl, fun cs h => by cases h⟩⟩) (fun _ => ⟨rfl, fun x => ⟨rfl, fun cs h => by cases h⟩⟩) (fun _ => ⟨rfl, fun x => ⟨rfl, fun cs h => by cases h⟩⟩) (fun h => by cases h) (fun h => by cases h) (fun _ => ⟨rfl, fun x => ⟨rfl, fun cs h => by cases h⟩⟩) (fun h => by cases h) (fun _ => ⟨rfl, fun x => ⟨rfl, fun cs h => by cases h⟩⟩) (fun _ => ⟨rfl, fun x => ⟨rfl, fun cs h => by cases h⟩⟩) (fun h => by cases h) (fun _ => ⟨rfl, fun x => ⟨rfl, fun cs h => by cases h⟩⟩) (fun h => by cases h) (fun h => by cases h) (fun _ => ⟨rfl, fun x => ⟨rfl, fun cs h => by cases h⟩⟩) (fun _ => ⟨rfl, fun x => ⟨rfl, fun cs h => by cases h⟩⟩) (fun h => by cases h) (fun h => by cases h) (fun _ => ⟨rfl, fun x => ⟨rfl, fun cs h => by cases h⟩⟩) (fun h => by cases h) (fun _ => ⟨rfl, fun x => ⟨rfl, fun cs h => by cases h⟩⟩) (fun _ => ⟨rfl, fun x => ⟨rfl, fun cs h => by cases h⟩⟩) (fun _ => ⟨rfl, fun x => ⟨rfl, fun cs h => by cases h⟩⟩) (fun h => by cases h) (fun _ => ⟨rfl, fun x => ⟨rfl, fun cs h => by cases h⟩⟩) (fun _ => ⟨rfl, fun x => ⟨rfl, fun cs h => by cases h⟩⟩) (fun h => by cases h) (fun _ => ⟨rfl, fun x => ⟨rfl, fun cs h => by cases h⟩⟩) (fun h => by cases h) (fun _ => ⟨rfl, fun x => ⟨rfl, fun cs h => by cases h⟩⟩) (fun _ => ⟨rfl, fun x => ⟨rfl, fun cs h => by cases h⟩⟩) (fun _ => ⟨rfl, fun x => ⟨rfl, fun cs h => by cases h⟩⟩) (fun h => by cases h) (fun _ => ⟨rfl, fun x => ⟨rfl, fun cs h => by cases h⟩⟩) (fun _ => ⟨rfl, fun x => ⟨rfl, fun cs h => by cases h⟩⟩) (fun _ => ⟨rfl, fun x => ⟨rfl, fun cs h => by cases h⟩⟩) (fun _ => ⟨rfl, fun x => ⟨rfl, fun cs h => by cases h⟩⟩) (fun _ => ⟨rfl, fun x => ⟨rfl, fun cs h => by cases h⟩⟩) (fun h => by cases h) (fun h => by cases h) (fun _ => ⟨rfl, fun x => ⟨rfl, fun cs h => by cases h⟩⟩) (fun h => by cases h) (fun h => by cases h) (fun _ => ⟨rfl, fun x => ⟨rfl, fun cs h => by cases h⟩⟩) (fun h => by cases h) (fun _ => ⟨rfl, fun x => ⟨rfl, fun cs h => by cases h⟩⟩) (fun _ => ⟨rfl, fun x => ⟨rfl, fun cs h => by cases h⟩⟩) (fun _ => ⟨rfl, fun x => ⟨rfl, fun cs h => by cases h⟩⟩) (fun _ => ⟨rfl, fun x => ⟨rfl, fun cs h => by cases h⟩⟩) (fun _ => ⟨rfl, fun x => ⟨rfl, fun cs h => by cases h⟩⟩) (fun h => by cases h) (fun _ => ⟨rfl, fun x => ⟨rfl, fun cs h => by cases h⟩⟩) (fun h => by cases h) (fun _ => ⟨rfl, fun x => ⟨rfl, fun cs h => by cases h⟩⟩) (fun _ => ⟨rfl, fun x => ⟨rfl, fun cs h => by cases h⟩⟩)
 zlen := tyAll (p := fun t e => (zae e.zero).length = e.size) rfl rfl rfl rfl rfl rfl rfl rfl rfl rfl rfl rfl rfl rfl rfl rfl rfl rfl rfl rfl rfl rfl rfl rfl rfl rfl rfl rfl rfl rfl rfl rfl rfl rfl rfl rfl rfl rfl rfl rfl rfl rfl rfl rfl rfl rfl rfl rfl rfl rfl rfl rfl rfl rfl rfl rfl rfl rfl rfl rfl rfl rfl rfl rfl rfl rfl rfl rfl rfl rfl rfl rfl rfl rfl
 zero8 := tyAll (p := fun t e => e.und = .int .u8 → zae e.zero = [.int .u8 0]) (fun h => by cases h) (fun h => by cases h) (fun h => by cases h) (fun h => by cases h) (fun _ => rfl) (fun h => by cases h) (fun h => by cases h) (fun h => by cases h) (fun h => by cases h) (fun h => by cases h) (fun h => by cases h) (fun h => by cases h) (fun h => by cases h) (fun h => by cases h) (fun h => by cases h) (fun h => by cases h) (fun h => by cases h) (fun h => by cases h) (fun h => by cases h) (fun h => by cases h) (fun h => by cases h) (fun h => by cases h) (fun h => by cases h) (fun h => by cases h) (fun h => by cases h) (fun h => by cases h) (fun h => by cases h) (fun h => by cases h) (fun h => by cases h) (fun h => by cases h) (fun h => by cases h) (fun h => by cases h) (fun h => by cases h) (fun h => by cases h) (fun h => by cases h) (fun h => by cases h) (fun h => by cases h) (fun h => by cases h) (fun h => by cases h) (fun h => by cases h) (fun h => by cases h) (fun h => by cases h) (fun h => by cases h) (fun h => by cases h) (fun h => by cases h) (fun h => by cases h) (fun h => by cases h) (fun h => by cases h) (fun h => by cases h) (fun h => by cases h) (fun h => by cases h) (fun h => by cases h) (fun h => by cases h) (fun h => by cases h) (fun h => by cases h) (fun h => by cases h) (fun h => by cases h) (fun h => by cases h) (fun h => by cases h) (fun h => by cases h) (fun h => by cases h) (fun h => by cases h) (fun h => by cases h) (fun h => by cases h) (fun h => by cases h) (fun h => by cases h) (fun h => by cases h) (fun h => by cases h) (fun h => by cases h) (fun h => by cases h) (fun h => by cases h) (fun h => by cases h) (fun h => by cases h) (fun h => by cases h)
 zagg := tyAll (p := fun t e => zkv e.und = true → ∃ cs, e.zero = .agg cs) (fun h => by cases h) (fun h => by cases h) (fun h => by cases h) (fun h => by cases h) (fun h => by cases h) (fun h => by cases h) (fun h => by cases h) (fun h => by cases h) (fun h => by cases h) (fun _ => ⟨_, rfl⟩) (fun h => by cases h) (fun h => by cases h) (fun _ => ⟨_, rfl⟩) (fun h => by cases h) (fun h => by cases h) (fun h => by cases h) (fun h => by cases h) (fun h => by cases h) (fun _ => ⟨_, rfl⟩) (fun _ => ⟨_, rfl⟩) (fun h => by cases h) (fun h => by cases h) (fun h => by cases h) (fun _ => ⟨_, rfl⟩) (fun _ => ⟨_, rfl⟩) (fun h => by cases h) (fun _ => ⟨_, rfl⟩) (fun h => by cases h) (fun h => by cases h) (fun _ => ⟨_, rfl⟩) (fun h => by cases h) (fun _ => ⟨_, rfl⟩) (fun _ => ⟨_, rfl⟩) (fun h => by cases h) (fun h => by cases h) (fun _ => ⟨_, rfl⟩) (fun _ => ⟨_, rfl⟩) (fun h => by cases h) (fun _ => ⟨_, rfl⟩) (fun h => by cases h) (fun h => by cases h) (fun h => by cases h) (fun _ => ⟨_, rfl⟩) (fun h => by cases h) (fun h => by cases h) (fun _ => ⟨_, rfl⟩) (fun h => by cases h) (fun _ => ⟨_, rfl⟩) (fun h => by cases h) (fun h => by cases h) (fun h => by cases h) (fun _ => ⟨_, rfl⟩) (fun h => by cases h) (fun h => by cases h) (fun h => by cases h) (fun h => by cases h) (fun h => by cases h) (fun _ => ⟨_, rfl⟩) (fun _ => ⟨_, rfl⟩) (fun h => by cases h) (fun _ => ⟨_, rfl⟩) (fun _ => ⟨_, rfl⟩) (fun h => by cases h) (fun _ => ⟨_, rfl⟩) (fun h => by cases h) (fun h => by cases h) (fun h => by cases h) (fun h => by cases h) (fun h => by cases h) (fun _ => ⟨_, rfl⟩) (fun h => by cases h) (fun _ => ⟨_, rfl⟩) (fun h => by cases h) (fun h => by cases h)
 call := by
  intro g h
  by_cases hlt : g < 160
  ·match g, hlt, h with
   | 0, _, h => exact absurd (show false = true from h) (by simp)
   | 1, _, h => exact absurd (show false = true from h) (by simp)
   | 2, _, _ => exact Tryz.call2
   | 3, _, _ => exact Tryz.call3
   | 4, _, _ => exact Tryz.call4
   | 5, _, _ => exact Tryz.call5
   | 6, _, _ => exact Tryz.call6
   | 7, _, _ => exact Tryz.call7
   | 8, _, _ => exact Tryz.call8
   | 9, _, _ => exact Tryz.call9
   | 10, _, _ => exact Tryz.call10
   | 11, _, _ => exact Tryz.call11
   | 12, _, _ => exact Tryz.call12
   | 13, _, _ => exact Tryz.call13
   | 14, _, _ => exact Tryz.call14
   | 15, _, _ => exact Tryz.call15
   | 16, _, _ => exact Tryz.call16
   | 17, _, _ => exact Tryz.call17
   | 18, _, _ => exact Tryz.call18
   | 19, _, _ => exact Tryz.call19
   | 20, _, _ => exact Tryz.call20
   | 21, _, _ => exact Tryz.call21
   | 22, _, _ => exact Tryz.call22
   | 23, _, _ => exact Tryz.call23
   | 24, _, _ => exact Tryz.call24
   | 25, _, _ => exact Tryz.call25
   | 26, _, _ => exact Tryz.call26
   | 27, _, _ => exact Tryz.call27
   | 28, _, _ => exact Tryz.call28
   | 29, _, _ => exact Tryz.call29
   | 30, _, _ => exact Tryz.call30
   | 31, _, _ => exact Tryz.call31
   | 32, _, _ => exact Tryz.call32
   | 33, _, _ => exact Tryz.call33
   | 34, _, _ => exact Tryz.call34
   | 35, _, _ => exact Tryz.call35
   | 36, _, _ => exact Tryz.call36
   | 37, _, _ => exact Tryz.call37
   | 38, _, _ => exact Tryz.call38
   | 39, _, _ => exact Tryz.call39
   | 40, _, _ => exact Tryz.call40
   | 41, _, _ => exact Tryz.call41
   | 42, _, _ => exact Tryz.call42
   | 43, _, _ => exact Tryz.call43
   | 44, _, _ => exact Tryz.call44
   | 45, _, _ => exact Tryz.call45
   | 46, _, _ => exact Tryz.call46
   | 47, _, _ => exact Tryz.call47
   | 48, _, _ => exact Tryz.call48
   | 49, _, _ => exact Tryz.call49
   | 50, _, _ => exact Tryz.call50
   | 51, _, _ => exact Tryz.call51
   | 52, _, _ => exact Tryz.call52
   | 53, _, _ => exact Tryz.call53
   | 54, _, _ => exact Tryz.call54
   | 55, _, _ => exact Tryz.call55
   | 56, _, _ => exact Tryz.call56
   | 57, _, _ => exact Tryz.call57
   | 58, _, _ => exact Tryz.call58
   | 59, _, _ => exact Tryz.call59
   | 60, _, _ => exact Tryz.call60
   | 61, _, _ => exact Tryz.call61
   | 62, _, _ => exact Tryz.call62
   | 63, _, _ => exact Tryz.call63
   | 64, _, _ => exact Tryz.call64
   | 65, _, _ => exact Tryz.call65
   | 66, _, _ => exact Tryz.call66
   | 67, _, _ => exact Tryz.call67
   | 68, _, _ => exact Tryz.call68
   | 69, _, _ => exact Tryz.call69
   | 70, _, _ => exact Tryz.call70
   | 71, _, _ => exact Tryz.call71
   | 72, _, _ => exact Tryz.call72
   | 73, _, _ => exact Tryz.call73
   | 74, _, _ => exact Tryz.call74
   | 75, _, _ => exact Tryz.call75
   | 76, _, _ => exact Tryz.call76
   | 77, _, _ => exact Tryz.call77
   | 78, _, _ => exact Tryz.call78
   | 79, _, _ => exact Tryz.call79
   | 80, _, _ => exact Tryz.call80
   | 81, _, _ => exact Tryz.call81
   | 82, _, _ => exact Tryz.call82
   | 83, _, _ => exact Tryz.call83
   | 84, _, _ => exact Tryz.call84
   | 85, _, _ => exact Tryz.call85
   | 86, _, _ => exact Tryz.call86
   | 87, _, _ => exact Tryz.call87
   | 88, _, _ => exact Tryz.call88
   | 89, _, _ => exact Tryz.call89
   | 90, _, _ => exact Tryz.call90
   | 91, _, _ => exact Tryz.call91
   | 92, _, _ => exact Tryz.call92
   | 93, _, _ => exact Tryz.call93
   | 94, _, _ => exact Tryz.call94
   | 95, _, _ => exact Tryz.call95
   | 96, _, _ => exact Tryz.call96
   | 97, _, _ => exact Tryz.call97
   | 98, _, _ => exact Tryz.call98
   | 99, _, _ => exact Tryz.call99
   | 100, _, _ => exact Tryz.call100
   | 101, _, _ => exact Tryz.call101
   | 102, _, _ => exact Tryz.call102
   | 103, _, _ => exact Tryz.call103
   | 104, _, _ => exact Tryz.call104
   | 105, _, _ => exact Tryz.call105
   | 106, _, _ => exact Tryz.call106
   | 107, _, _ => exact Tryz.call107
   | 108, _, _ => exact Tryz.call108
   | 109, _, _ => exact Tryz.call109
   | 110, _, _ => exact Tryz.call110
   | 111, _, _ => exact Tryz.call111
   | 112, _, _ => exact Tryz.call112
   | 113, _, _ => exact Tryz.call113
   | 114, _, _ => exact Tryz.call114
   | 115, _, _ => exact Tryz.call115
   | 116, _, _ => exact Tryz.call116
   | 117, _, _ => exact Tryz.call117
   | 118, _, _ => exact Tryz.call118
   | 119, _, _ => exact Tryz.call119
   | 120, _, _ => exact Tryz.call120
   | 121, _, _ => exact Tryz.call121
   | 122, _, _ => exact Tryz.call122
   | 123, _, _ => exact Tryz.call123
   | 124, _, _ => exact Tryz.call124
   | 125, _, _ => exact Tryz.call125
   | 126, _, _ => exact Tryz.call126
   | 127, _, _ => exact Tryz.call127
   | 128, _, _ => exact Tryz.call128
   | 129, _, _ => exact Tryz.call129
   | 130, _, _ => exact Tryz.call130
   | 131, _, _ => exact Tryz.call131
   | 132, _, _ => exact Tryz.call132
   | 133, _, _ => exact Tryz.call133
   | 134, _, _ => exact Tryz.call134
   | 135, _, _ => exact Tryz.call135
   | 136, _, _ => exact Tryz.call136
   | 137, _, _ => exact Tryz.call137
   | 138, _, _ => exact Tryz.call138
   | 139, _, _ => exact Tryz.call139
   | 140, _, _ => exact Tryz.call140
   | 141, _, _ => exact Tryz.call141
   | 142, _, _ => exact Tryz.call142
   | 143, _, _ => exact Tryz.call143
   | 144, _, _ => exact Tryz.call144
   | 145, _, _ => exact Tryz.call145
   | 146, _, _ => exact Tryz.call146
   | 147, _, _ => exact Tryz.call147
   | 148, _, _ => exact Tryz.call148
   | 149, _, _ => exact Tryz.call149
   | 150, _, _ => exact Tryz.call150
   | 151, _, _ => exact Tryz.call151
   | 152, _, h => exact absurd (show false = true from h) (by simp)
   | 153, _, _ => exact Tryz.call153
   | 154, _, _ => exact Tryz.call154
   | 155, _, h => exact absurd (show false = true from h) (by simp)
   | 156, _, _ => exact Tryz.call156
   | 157, _, h => exact absurd (show false = true from h) (by simp)
   | 158, _, h => exact absurd (show false = true from h) (by simp)
   | 159, _, h => exact absurd (show false = true from h) (by simp)
   | n + 160, hlt, _ => omega
  ·have hl : fnRows.length = 10 := rfl
   have : nth fnRows (g / 16) = none := zwh1 (l := fnRows) (i := g / 16) (by rw [hl]; omega)
   have h : fnAt g = true := h
   unfold fnAt at h
   rw [this] at h
   cases h
 ext := by
  intro g f h args w
  have h : extAt g = some f := h
  unfold extAt at h
  cases h
 mixed := by kernel_rfl
end Lf

set_option maxRecDepth 100000
namespace Lf
open Go Go.Proofs
theorem ztr (b : Sl) (Q : (Bool → (Hp → Prop))) (h : Hp) : funW ⟨Tryz.prog, tb, zkx⟩ Tryz.f4 ztv [(shSl).enc b] (Q) h = zdc Tryz.prog b Q h := by kernel_rfl
theorem firebreaklaw22_SnapReads_call {b : Sl} {Q : (Bool → (Hp → Prop))} {h : Hp} (hv : zdc Tryz.prog b Q h) : CallT Tryz.prog zkw [(shSl).enc b] (zaf) Q h :=
 show CallT Tryz.prog zkw [(shSl).enc b] (shRes tb [4]) (Q) h from zaa (C := ⟨Tryz.prog, tb, zkx⟩) tb_ok Tryz.func4 rfl (Eq.mpr (ztr b Q h) hv)
theorem zyp  (Q : (Bool → (Hp → Prop))) (h : Hp) : funW ⟨Tryz.prog, tb, zoj⟩ Tryz.f8 zab1 [] (Q) h = zfo Tryz.prog  Q h := by kernel_rfl
theorem zvv {Q : (Bool → (Hp → Prop))} {h : Hp} (hv : zfo Tryz.prog  Q h) : CallT Tryz.prog ziy [] (zaf) Q h :=
 show CallT Tryz.prog ziy [] (shRes tb [4]) (Q) h from zaa (C := ⟨Tryz.prog, tb, zoj⟩) tb_ok Tryz.func8 rfl (Eq.mpr (zyp  Q h) hv)
theorem zmk1 (c : S_api_Config) (s : S_api_State) (Q : (Sl → (Int → (Hp → Prop)))) (h : Hp) : funW ⟨Tryz.prog, tb, zgc1⟩ Tryz.f10 zom1 [(sh_api_Config).enc c, (zar).enc s] (fun r => Q r.1 r.2) h = zrq Tryz.prog c s Q h := by kernel_rfl
theorem zjo1 {c : S_api_Config} {s : S_api_State} {Q : (Sl → (Int → (Hp → Prop)))} {h : Hp} (hv : zrq Tryz.prog c s Q h) : Call2 Tryz.prog zxn [(sh_api_Config).enc c, (zar).enc s] (shSl) (shInt .i64) Q h :=
 show CallT Tryz.prog zxn [(sh_api_Config).enc c, (zar).enc s] (shRes tb [33, 34]) (fun r => Q r.1 r.2) h from zaa (C := ⟨Tryz.prog, tb, zgc1⟩) tb_ok Tryz.func10 rfl (Eq.mpr (zmk1 c s Q h) hv)
theorem zml1 (b : Sl) (Q : (S_api_Config → (S_api_State → (Int → (Int → (Hp → Prop)))))) (h : Hp) : funW ⟨Tryz.prog, tb, zgd1⟩ Tryz.f12 zon1 [(shSl).enc b] (fun r => Q r.1 r.2.1 r.2.2.1 r.2.2.2) h = zrr Tryz.prog b Q h := by kernel_rfl
theorem zqj {b : Sl} {Q : (S_api_Config → (S_api_State → (Int → (Int → (Hp → Prop)))))} {h : Hp} (hv : zrr Tryz.prog b Q h) : Call4 Tryz.prog zmw [(shSl).enc b] (sh_api_Config) (zar) (shInt .i64) (shInt .i64) Q h :=
 show CallT Tryz.prog zmw [(shSl).enc b] (shRes tb [26, 30, 34, 3]) (fun r => Q r.1 r.2.1 r.2.2.1 r.2.2.2) h from zaa (C := ⟨Tryz.prog, tb, zgd1⟩) tb_ok Tryz.func12 rfl (Eq.mpr (zml1 b Q h) hv)
theorem zww (b : Sl) (Q : (S_api_Config → (S_api_State → (Int → (Int → (Hp → Prop)))))) (h : Hp) : funW ⟨Tryz.prog, tb, zne⟩ Tryz.f13 zxy [(shSl).enc b] (fun r => Q r.1 r.2.1 r.2.2.1 r.2.2.2) h = zer Tryz.prog b Q h := by kernel_rfl
theorem zkz {b : Sl} {Q : (S_api_Config → (S_api_State → (Int → (Int → (Hp → Prop)))))} {h : Hp} (hv : zer Tryz.prog b Q h) : Call4 Tryz.prog zib [(shSl).enc b] (sh_api_Config) (zar) (shInt .i64) (shInt .i64) Q h :=
 show CallT Tryz.prog zib [(shSl).enc b] (shRes tb [26, 30, 34, 3]) (fun r => Q r.1 r.2.1 r.2.2.1 r.2.2.2) h from zaa (C := ⟨Tryz.prog, tb, zne⟩) tb_ok Tryz.func13 rfl (Eq.mpr (zww b Q h) hv)
theorem zan1 (a : S_api_Config) (b : S_api_Config) (Q : (Bool → (Hp → Prop))) (h : Hp) : funW ⟨Tryz.prog, tb, zpn⟩ Tryz.f14 zbb1 [(sh_api_Config).enc a, (sh_api_Config).enc b] (Q) h = zgd Tryz.prog a b Q h := by kernel_rfl
theorem zmp {a : S_api_Config} {b : S_api_Config} {Q : (Bool → (Hp → Prop))} {h : Hp} (hv : zgd Tryz.prog a b Q h) : CallT Tryz.prog zdr [(sh_api_Config).enc a, (sh_api_Config).enc b] (zaf) Q h :=
 show CallT Tryz.prog zdr [(sh_api_Config).enc a, (sh_api_Config).enc b] (shRes tb [4]) (Q) h from zaa (C := ⟨Tryz.prog, tb, zpn⟩) tb_ok Tryz.func14 rfl (Eq.mpr (zan1 a b Q h) hv)
theorem zao1 (a : S_api_State) (b : S_api_State) (Q : (Bool → (Hp → Prop))) (h : Hp) : funW ⟨Tryz.prog, tb, zpo⟩ Tryz.f15 zbc1 [(zar).enc a, (zar).enc b] (Q) h = zge Tryz.prog a b Q h := by kernel_rfl
theorem zmq {a : S_api_State} {b : S_api_State} {Q : (Bool → (Hp → Prop))} {h : Hp} (hv : zge Tryz.prog a b Q h) : CallT Tryz.prog zds [(zar).enc a, (zar).enc b] (zaf) Q h :=
 show CallT Tryz.prog zds [(zar).enc a, (zar).enc b] (shRes tb [4]) (Q) h from zaa (C := ⟨Tryz.prog, tb, zpo⟩) tb_ok Tryz.func15 rfl (Eq.mpr (zao1 a b Q h) hv)
theorem zmm1 (c : S_api_Config) (s : S_api_State) (Q : (Int → (Hp → Prop))) (h : Hp) : funW ⟨Tryz.prog, tb, zge1⟩ Tryz.f16 zoo1 [(sh_api_Config).enc c, (zar).enc s] (Q) h = zrs Tryz.prog c s Q h := by kernel_rfl
theorem zzy {c : S_api_Config} {s : S_api_State} {Q : (Int → (Hp → Prop))} {h : Hp} (hv : zrs Tryz.prog c s Q h) : CallT Tryz.prog zrl [(sh_api_Config).enc c, (zar).enc s] (shInt .i64) Q h :=
 show CallT Tryz.prog zrl [(sh_api_Config).enc c, (zar).enc s] (shRes tb [34]) (Q) h from zaa (C := ⟨Tryz.prog, tb, zge1⟩) tb_ok Tryz.func16 rfl (Eq.mpr (zmm1 c s Q h) hv)
theorem zyq  (Q : (S_api_Config → (S_api_State → (Hp → Prop)))) (h : Hp) : funW ⟨Tryz.prog, tb, zok⟩ Tryz.f21 zac1 [] (fun r => Q r.1 r.2) h = zfp Tryz.prog  Q h := by kernel_rfl
theorem zvw {Q : (S_api_Config → (S_api_State → (Hp → Prop)))} {h : Hp} (hv : zfp Tryz.prog  Q h) : Call2 Tryz.prog ziz [] (sh_api_Config) (zar) Q h :=
 show CallT Tryz.prog ziz [] (shRes tb [26, 30]) (fun r => Q r.1 r.2) h from zaa (C := ⟨Tryz.prog, tb, zok⟩) tb_ok Tryz.func21 rfl (Eq.mpr (zyq  Q h) hv)
theorem zmn1 (c : S_api_Config) (Q : (Sl → (Int → (Hp → Prop)))) (h : Hp) : funW ⟨Tryz.prog, tb, zgf1⟩ Tryz.f23 zop1 [(sh_api_Config).enc c] (fun r => Q r.1 r.2) h = zrt Tryz.prog c Q h := by kernel_rfl
theorem zjp1 {c : S_api_Config} {Q : (Sl → (Int → (Hp → Prop)))} {h : Hp} (hv : zrt Tryz.prog c Q h) : Call2 Tryz.prog zxo [(sh_api_Config).enc c] (shSl) (shInt .i64) Q h :=
 show CallT Tryz.prog zxo [(sh_api_Config).enc c] (shRes tb [33, 34]) (fun r => Q r.1 r.2) h from zaa (C := ⟨Tryz.prog, tb, zgf1⟩) tb_ok Tryz.func23 rfl (Eq.mpr (zmn1 c Q h) hv)
theorem zbq1 (w : Option Addr) (n : Int) (many : Int) (Q : (Hp → Prop)) (h : Hp) : funW ⟨Tryz.prog, tb, zqu⟩ Tryz.f24 zdl1 [(shPtr).enc w, (shInt .i64).enc n, (shInt .i64).enc many] (fun _ => Q) h = zgy Tryz.prog w n many Q h := by kernel_rfl
theorem zaj {w : Option Addr} {n : Int} {many : Int} {Q : (Hp → Prop)} {h : Hp} (hv : zgy Tryz.prog w n many Q h) : Call0 Tryz.prog zag [(shPtr).enc w, (shInt .i64).enc n, (shInt .i64).enc many] (Q) h :=
 show CallT Tryz.prog zag [(shPtr).enc w, (shInt .i64).enc n, (shInt .i64).enc many] (shRes tb []) (fun _ => Q) h from zaa (C := ⟨Tryz.prog, tb, zqu⟩) tb_ok Tryz.func24 rfl (Eq.mpr (zbq1 w n many Q h) hv)
end Lf

set_option maxRecDepth 100000
namespace Lf
open Go Go.Proofs
theorem zfi1 (w : Option Addr) (n : Int) (many : Int) (Q : (Hp → Prop)) (h : Hp) : funW ⟨Tryz.prog, tb, zuo⟩ Tryz.f25 zgg1 [(shPtr).enc w, (shInt .i64).enc n, (shInt .i64).enc many] (fun _ => Q) h = zji Tryz.prog w n many Q h := by kernel_rfl
theorem zbg {w : Option Addr} {n : Int} {many : Int} {Q : (Hp → Prop)} {h : Hp} (hv : zji Tryz.prog w n many Q h) : Call0 Tryz.prog zav [(shPtr).enc w, (shInt .i64).enc n, (shInt .i64).enc many] (Q) h :=
 show CallT Tryz.prog zav [(shPtr).enc w, (shInt .i64).enc n, (shInt .i64).enc many] (shRes tb []) (fun _ => Q) h from zaa (C := ⟨Tryz.prog, tb, zuo⟩) tb_ok Tryz.func25 rfl (Eq.mpr (zfi1 w n many Q h) hv)
theorem zfj1 (w : Option Addr) (x : S_api_Part) (Q : (Hp → Prop)) (h : Hp) : funW ⟨Tryz.prog, tb, zup⟩ Tryz.f26 zgh1 [(shPtr).enc w, (sh_api_Part).enc x] (fun _ => Q) h = zjj Tryz.prog w x Q h := by kernel_rfl
theorem zbr1 {w : Option Addr} {x : S_api_Part} {Q : (Hp → Prop)} {h : Hp} (hv : zjj Tryz.prog w x Q h) : Call0 Tryz.prog zjf [(shPtr).enc w, (sh_api_Part).enc x] (Q) h :=
 show CallT Tryz.prog zjf [(shPtr).enc w, (sh_api_Part).enc x] (shRes tb []) (fun _ => Q) h from zaa (C := ⟨Tryz.prog, tb, zup⟩) tb_ok Tryz.func26 rfl (Eq.mpr (zfj1 w x Q h) hv)
theorem zfk1 (w : Option Addr) (x : S_api_Process) (Q : (Hp → Prop)) (h : Hp) : funW ⟨Tryz.prog, tb, zuq⟩ Tryz.f27 zgi1 [(shPtr).enc w, (sh_api_Process).enc x] (fun _ => Q) h = zjk Tryz.prog w x Q h := by kernel_rfl
theorem zbs1 {w : Option Addr} {x : S_api_Process} {Q : (Hp → Prop)} {h : Hp} (hv : zjk Tryz.prog w x Q h) : Call0 Tryz.prog zjg [(shPtr).enc w, (sh_api_Process).enc x] (Q) h :=
 show CallT Tryz.prog zjg [(shPtr).enc w, (sh_api_Process).enc x] (shRes tb []) (fun _ => Q) h from zaa (C := ⟨Tryz.prog, tb, zuq⟩) tb_ok Tryz.func27 rfl (Eq.mpr (zfk1 w x Q h) hv)
theorem zbt1 (c : S_api_Config) (s : S_api_State) (Q : (Int → (Hp → Prop))) (h : Hp) : funW ⟨Tryz.prog, tb, zqv⟩ Tryz.f28 zdm1 [(sh_api_Config).enc c, (zar).enc s] (Q) h = zgz Tryz.prog c s Q h := by kernel_rfl
theorem zyr {c : S_api_Config} {s : S_api_State} {Q : (Int → (Hp → Prop))} {h : Hp} (hv : zgz Tryz.prog c s Q h) : CallT Tryz.prog zlb [(sh_api_Config).enc c, (zar).enc s] (shInt .i64) Q h :=
 show CallT Tryz.prog zlb [(sh_api_Config).enc c, (zar).enc s] (shRes tb [34]) (Q) h from zaa (C := ⟨Tryz.prog, tb, zqv⟩) tb_ok Tryz.func28 rfl (Eq.mpr (zbt1 c s Q h) hv)
theorem zeb1 (r : Option Addr) (Q : (S_api_State → (Hp → Prop))) (h : Hp) : funW ⟨Tryz.prog, tb, ztc⟩ Tryz.f33 zeu1 [(shPtr).enc r] (Q) h = zii Tryz.prog r Q h := by kernel_rfl
theorem zap1 {r : Option Addr} {Q : (S_api_State → (Hp → Prop))} {h : Hp} (hv : zii Tryz.prog r Q h) : CallT Tryz.prog zmf [(shPtr).enc r] (zar) Q h :=
 show CallT Tryz.prog zmf [(shPtr).enc r] (shRes tb [30]) (Q) h from zaa (C := ⟨Tryz.prog, tb, ztc⟩) tb_ok Tryz.func33 rfl (Eq.mpr (zeb1 r Q h) hv)
theorem zfl1 (r : Option Addr) (e : Int) (place : Int) (Q : (Hp → Prop)) (h : Hp) : funW ⟨Tryz.prog, tb, zur⟩ Tryz.f34 zgj1 [(shPtr).enc r, (shInt .i64).enc e, (shInt .i64).enc place] (fun _ => Q) h = zgf Tryz.prog r e place Q h := by kernel_rfl
theorem zbh {r : Option Addr} {e : Int} {place : Int} {Q : (Hp → Prop)} {h : Hp} (hv : zgf Tryz.prog r e place Q h) : Call0 Tryz.prog zbd [(shPtr).enc r, (shInt .i64).enc e, (shInt .i64).enc place] (Q) h :=
 show CallT Tryz.prog zbd [(shPtr).enc r, (shInt .i64).enc e, (shInt .i64).enc place] (shRes tb []) (fun _ => Q) h from zaa (C := ⟨Tryz.prog, tb, zur⟩) tb_ok Tryz.func34 rfl (Eq.mpr (zfl1 r e place Q h) hv)
theorem zqk (r : Option Addr) (s : ByteArray) (Q : (Hp → Prop)) (h : Hp) : funW ⟨Tryz.prog, tb, zju⟩ Tryz.f35 zsd [(shPtr).enc r, (shStr).enc s] (fun _ => Q) h = zcp Tryz.prog r s Q h := by kernel_rfl
theorem zht {r : Option Addr} {s : ByteArray} {Q : (Hp → Prop)} {h : Hp} (hv : zcp Tryz.prog r s Q h) : Call0 Tryz.prog zco [(shPtr).enc r, (shStr).enc s] (Q) h :=
 show CallT Tryz.prog zco [(shPtr).enc r, (shStr).enc s] (shRes tb []) (fun _ => Q) h from zaa (C := ⟨Tryz.prog, tb, zju⟩) tb_ok Tryz.func35 rfl (Eq.mpr (zqk r s Q h) hv)
theorem zwx (r : Option Addr) (Q : (S_api_Config → (Hp → Prop))) (h : Hp) : funW ⟨Tryz.prog, tb, znf⟩ Tryz.f36 zxz [(shPtr).enc r] (Q) h = zes Tryz.prog r Q h := by kernel_rfl
theorem ztx {r : Option Addr} {Q : (S_api_Config → (Hp → Prop))} {h : Hp} (hv : zes Tryz.prog r Q h) : CallT Tryz.prog zic [(shPtr).enc r] (sh_api_Config) Q h :=
 show CallT Tryz.prog zic [(shPtr).enc r] (shRes tb [26]) (Q) h from zaa (C := ⟨Tryz.prog, tb, znf⟩) tb_ok Tryz.func36 rfl (Eq.mpr (zwx r Q h) hv)
theorem zpa (r : Option Addr) (many : Int) (Q : (Int → (Hp → Prop))) (h : Hp) : funW ⟨Tryz.prog, tb, zhw⟩ Tryz.f37 zpp [(shPtr).enc r, (shInt .i64).enc many] (Q) h = zcd Tryz.prog r many Q h := by kernel_rfl
theorem zab {r : Option Addr} {many : Int} {Q : (Int → (Hp → Prop))} {h : Hp} (hv : zcd Tryz.prog r many Q h) : CallT Tryz.prog zac [(shPtr).enc r, (shInt .i64).enc many] (shInt .u64) Q h :=
 show CallT Tryz.prog zac [(shPtr).enc r, (shInt .i64).enc many] (shRes tb [80]) (Q) h from zaa (C := ⟨Tryz.prog, tb, zhw⟩) tb_ok Tryz.func37 rfl (Eq.mpr (zpa r many Q h) hv)
theorem zty (r : Option Addr) (c : S_api_Config) (Q : (S_api_Part → (Hp → Prop))) (h : Hp) : funW ⟨Tryz.prog, tb, zln⟩ Tryz.f38 zvn [(shPtr).enc r, (sh_api_Config).enc c] (Q) h = zdj Tryz.prog r c Q h := by kernel_rfl
theorem zsj {r : Option Addr} {c : S_api_Config} {Q : (S_api_Part → (Hp → Prop))} {h : Hp} (hv : zdj Tryz.prog r c Q h) : CallT Tryz.prog zgo [(shPtr).enc r, (sh_api_Config).enc c] (sh_api_Part) Q h :=
 show CallT Tryz.prog zgo [(shPtr).enc r, (sh_api_Config).enc c] (shRes tb [60]) (Q) h from zaa (C := ⟨Tryz.prog, tb, zln⟩) tb_ok Tryz.func38 rfl (Eq.mpr (zty r c Q h) hv)
theorem zql (r : Option Addr) (c : S_api_Config) (Q : (S_api_Process → (Hp → Prop))) (h : Hp) : funW ⟨Tryz.prog, tb, zjv⟩ Tryz.f39 zse [(shPtr).enc r, (sh_api_Config).enc c] (Q) h = zcq Tryz.prog r c Q h := by kernel_rfl
theorem zpb {r : Option Addr} {c : S_api_Config} {Q : (S_api_Process → (Hp → Prop))} {h : Hp} (hv : zcq Tryz.prog r c Q h) : CallT Tryz.prog zel [(shPtr).enc r, (sh_api_Config).enc c] (sh_api_Process) Q h :=
 show CallT Tryz.prog zel [(shPtr).enc r, (sh_api_Config).enc c] (shRes tb [64]) (Q) h from zaa (C := ⟨Tryz.prog, tb, zjv⟩) tb_ok Tryz.func39 rfl (Eq.mpr (zql r c Q h) hv)
theorem zqm (r : Option Addr) (e : Int) (at_ : Int) (Q : (Hp → Prop)) (h : Hp) : funW ⟨Tryz.prog, tb, zjw⟩ Tryz.f40 zsf [(shPtr).enc r, (shInt .i64).enc e, (shInt .i64).enc at_] (fun _ => Q) h = zbt Tryz.prog r e at_ Q h := by kernel_rfl
theorem zak {r : Option Addr} {e : Int} {at_ : Int} {Q : (Hp → Prop)} {h : Hp} (hv : zbt Tryz.prog r e at_ Q h) : Call0 Tryz.prog zah [(shPtr).enc r, (shInt .i64).enc e, (shInt .i64).enc at_] (Q) h :=
 show CallT Tryz.prog zah [(shPtr).enc r, (shInt .i64).enc e, (shInt .i64).enc at_] (shRes tb []) (fun _ => Q) h from zaa (C := ⟨Tryz.prog, tb, zjw⟩) tb_ok Tryz.func40 rfl (Eq.mpr (zqm r e at_ Q h) hv)
theorem ztz (a : S_api_Config) (b : S_api_Config) (Q : (Bool → (Hp → Prop))) (h : Hp) : funW ⟨Tryz.prog, tb, zlo⟩ Tryz.f41 zvo [(sh_api_Config).enc a, (sh_api_Config).enc b] (Q) h = zdk Tryz.prog a b Q h := by kernel_rfl
theorem zsk {a : S_api_Config} {b : S_api_Config} {Q : (Bool → (Hp → Prop))} {h : Hp} (hv : zdk Tryz.prog a b Q h) : CallT Tryz.prog zgp [(sh_api_Config).enc a, (sh_api_Config).enc b] (zaf) Q h :=
 show CallT Tryz.prog zgp [(sh_api_Config).enc a, (sh_api_Config).enc b] (shRes tb [4]) (Q) h from zaa (C := ⟨Tryz.prog, tb, zlo⟩) tb_ok Tryz.func41 rfl (Eq.mpr (ztz a b Q h) hv)
theorem zaq1 (a : Sl) (b : Sl) (Q : (Bool → (Hp → Prop))) (h : Hp) : funW ⟨Tryz.prog, tb, zpq⟩ Tryz.f42 zbd1 [(shSl).enc a, (shSl).enc b] (Q) h = zgg Tryz.prog a b Q h := by kernel_rfl
theorem zwy {a : Sl} {b : Sl} {Q : (Bool → (Hp → Prop))} {h : Hp} (hv : zgg Tryz.prog a b Q h) : CallT Tryz.prog zkd [(shSl).enc a, (shSl).enc b] (zaf) Q h :=
 show CallT Tryz.prog zkd [(shSl).enc a, (shSl).enc b] (shRes tb [4]) (Q) h from zaa (C := ⟨Tryz.prog, tb, zpq⟩) tb_ok Tryz.func42 rfl (Eq.mpr (zaq1 a b Q h) hv)
theorem zua (a : S_api_Part) (b : S_api_Part) (Q : (Bool → (Hp → Prop))) (h : Hp) : funW ⟨Tryz.prog, tb, zlp⟩ Tryz.f43 zvp [(sh_api_Part).enc a, (sh_api_Part).enc b] (Q) h = zdl Tryz.prog a b Q h := by kernel_rfl
theorem zsl {a : S_api_Part} {b : S_api_Part} {Q : (Bool → (Hp → Prop))} {h : Hp} (hv : zdl Tryz.prog a b Q h) : CallT Tryz.prog zgq [(sh_api_Part).enc a, (sh_api_Part).enc b] (zaf) Q h :=
 show CallT Tryz.prog zgq [(sh_api_Part).enc a, (sh_api_Part).enc b] (shRes tb [4]) (Q) h from zaa (C := ⟨Tryz.prog, tb, zlp⟩) tb_ok Tryz.func43 rfl (Eq.mpr (zua a b Q h) hv)
theorem zqn (a : S_api_Process) (b : S_api_Process) (Q : (Bool → (Hp → Prop))) (h : Hp) : funW ⟨Tryz.prog, tb, zjx⟩ Tryz.f44 zsg [(sh_api_Process).enc a, (sh_api_Process).enc b] (Q) h = zcr Tryz.prog a b Q h := by kernel_rfl
theorem zpc {a : S_api_Process} {b : S_api_Process} {Q : (Bool → (Hp → Prop))} {h : Hp} (hv : zcr Tryz.prog a b Q h) : CallT Tryz.prog zem [(sh_api_Process).enc a, (sh_api_Process).enc b] (zaf) Q h :=
 show CallT Tryz.prog zem [(sh_api_Process).enc a, (sh_api_Process).enc b] (shRes tb [4]) (Q) h from zaa (C := ⟨Tryz.prog, tb, zjx⟩) tb_ok Tryz.func44 rfl (Eq.mpr (zqn a b Q h) hv)
theorem ztr1 (c : S_api_Config) (Q : (Int → (Int → (Hp → Prop)))) (h : Hp) : funW ⟨Tryz.prog, tb, zne1⟩ Tryz.f45 zxi1 [(sh_api_Config).enc c] (fun r => Q r.1 r.2) h = zcw1 Tryz.prog c Q h := by kernel_rfl
theorem zhk1 {c : S_api_Config} {Q : (Int → (Int → (Hp → Prop)))} {h : Hp} (hv : zcw1 Tryz.prog c Q h) : Call2 Tryz.prog zcu1 [(sh_api_Config).enc c] (shInt .i64) (shInt .i64) Q h :=
 show CallT Tryz.prog zcu1 [(sh_api_Config).enc c] (shRes tb [34, 3]) (fun r => Q r.1 r.2) h from zaa (C := ⟨Tryz.prog, tb, zne1⟩) tb_ok Tryz.func45 rfl (Eq.mpr (ztr1 c Q h) hv)
theorem zrh1 (l : Sl) (Q : (Option Addr → (Int → (Int → (Hp → Prop))))) (h : Hp) : funW ⟨Tryz.prog, tb, zkk1⟩ Tryz.f46 zsv1 [(shSl).enc l] (fun r => Q r.1 r.2.1 r.2.2) h = zox Tryz.prog l Q h := by kernel_rfl
theorem zmo1 {l : Sl} {Q : (Option Addr → (Int → (Int → (Hp → Prop))))} {h : Hp} (hv : zox Tryz.prog l Q h) : Call3 Tryz.prog zes1 [(shSl).enc l] (shPtr) (shInt .i64) (shInt .i64) Q h :=
 show CallT Tryz.prog zes1 [(shSl).enc l] (shRes tb [103, 34, 3]) (fun r => Q r.1 r.2.1 r.2.2) h from zaa (C := ⟨Tryz.prog, tb, zkk1⟩) tb_ok Tryz.func46 rfl (Eq.mpr (zrh1 l Q h) hv)
end Lf

set_option maxRecDepth 100000
namespace Lf
open Go Go.Proofs
theorem zbu1 (a : S_machine_asked) (i : Int) (Q : (Bool → (Hp → Prop))) (h : Hp) : funW ⟨Tryz.prog, tb, zqw⟩ Tryz.f47 zdn1 [(sh_machine_asked).enc a, (shInt .i64).enc i] (Q) h = zha Tryz.prog a i Q h := by kernel_rfl
theorem zys {a : S_machine_asked} {i : Int} {Q : (Bool → (Hp → Prop))} {h : Hp} (hv : zha Tryz.prog a i Q h) : CallT Tryz.prog zlc [(sh_machine_asked).enc a, (shInt .i64).enc i] (zaf) Q h :=
 show CallT Tryz.prog zlc [(sh_machine_asked).enc a, (shInt .i64).enc i] (shRes tb [4]) (Q) h from zaa (C := ⟨Tryz.prog, tb, zqw⟩) tb_ok Tryz.func47 rfl (Eq.mpr (zbu1 a i Q h) hv)
theorem zbv1 (a : S_machine_asked) (p : Int) (Q : (Bool → (Hp → Prop))) (h : Hp) : funW ⟨Tryz.prog, tb, zqx⟩ Tryz.f48 zdo1 [(sh_machine_asked).enc a, (shInt .i64).enc p] (Q) h = zhb Tryz.prog a p Q h := by kernel_rfl
theorem zyt {a : S_machine_asked} {p : Int} {Q : (Bool → (Hp → Prop))} {h : Hp} (hv : zhb Tryz.prog a p Q h) : CallT Tryz.prog zld [(sh_machine_asked).enc a, (shInt .i64).enc p] (zaf) Q h :=
 show CallT Tryz.prog zld [(sh_machine_asked).enc a, (shInt .i64).enc p] (shRes tb [4]) (Q) h from zaa (C := ⟨Tryz.prog, tb, zqx⟩) tb_ok Tryz.func48 rfl (Eq.mpr (zbv1 a p Q h) hv)
theorem zar1 (a : S_machine_asked) (Q : (Bool → (Hp → Prop))) (h : Hp) : funW ⟨Tryz.prog, tb, zpr⟩ Tryz.f49 zbe1 [(sh_machine_asked).enc a] (Q) h = zgh Tryz.prog a Q h := by kernel_rfl
theorem zwz {a : S_machine_asked} {Q : (Bool → (Hp → Prop))} {h : Hp} (hv : zgh Tryz.prog a Q h) : CallT Tryz.prog zke [(sh_machine_asked).enc a] (zaf) Q h :=
 show CallT Tryz.prog zke [(sh_machine_asked).enc a] (shRes tb [4]) (Q) h from zaa (C := ⟨Tryz.prog, tb, zpr⟩) tb_ok Tryz.func49 rfl (Eq.mpr (zar1 a Q h) hv)
theorem zts1 (b : Sl) (n : Int) (many : Int) (Q : (Sl → (Hp → Prop))) (h : Hp) : funW ⟨Tryz.prog, tb, znf1⟩ Tryz.f51 zxj1 [(shSl).enc b, (shInt .u64).enc n, (shInt .i64).enc many] (Q) h = zcx1 Tryz.prog b n many Q h := by kernel_rfl
theorem zsm {b : Sl} {n : Int} {many : Int} {Q : (Sl → (Hp → Prop))} {h : Hp} (hv : zcx1 Tryz.prog b n many Q h) : CallT Tryz.prog zmn [(shSl).enc b, (shInt .u64).enc n, (shInt .i64).enc many] (shSl) Q h :=
 show CallT Tryz.prog zmn [(shSl).enc b, (shInt .u64).enc n, (shInt .i64).enc many] (shRes tb [33]) (Q) h from zaa (C := ⟨Tryz.prog, tb, znf1⟩) tb_ok Tryz.func51 rfl (Eq.mpr (zts1 b n many Q h) hv)
theorem zmp1 (l : Sl) (Q : (Sl → (Int → (Int → (Hp → Prop))))) (h : Hp) : funW ⟨Tryz.prog, tb, zgk1⟩ Tryz.f52 zoq1 [(shSl).enc l] (fun r => Q r.1 r.2.1 r.2.2) h = zru Tryz.prog l Q h := by kernel_rfl
theorem zjq1 {l : Sl} {Q : (Sl → (Int → (Int → (Hp → Prop))))} {h : Hp} (hv : zru Tryz.prog l Q h) : Call3 Tryz.prog zrm [(shSl).enc l] (shSl) (shInt .i64) (shInt .i64) Q h :=
 show CallT Tryz.prog zrm [(shSl).enc l] (shRes tb [33, 34, 3]) (fun r => Q r.1 r.2.1 r.2.2) h from zaa (C := ⟨Tryz.prog, tb, zgk1⟩) tb_ok Tryz.func52 rfl (Eq.mpr (zmp1 l Q h) hv)
theorem zfm1 (w : Option Addr) (x : S_api_Lane) (Q : (Hp → Prop)) (h : Hp) : funW ⟨Tryz.prog, tb, zus⟩ Tryz.f53 zgl1 [(shPtr).enc w, (sh_api_Lane).enc x] (fun _ => Q) h = zjl Tryz.prog w x Q h := by kernel_rfl
theorem zbw1 {w : Option Addr} {x : S_api_Lane} {Q : (Hp → Prop)} {h : Hp} (hv : zjl Tryz.prog w x Q h) : Call0 Tryz.prog zjh [(shPtr).enc w, (sh_api_Lane).enc x] (Q) h :=
 show CallT Tryz.prog zjh [(shPtr).enc w, (sh_api_Lane).enc x] (shRes tb []) (fun _ => Q) h from zaa (C := ⟨Tryz.prog, tb, zus⟩) tb_ok Tryz.func53 rfl (Eq.mpr (zfm1 w x Q h) hv)
theorem zbx1 (c : S_api_Config) (Q : (Int → (Int → (Hp → Prop)))) (h : Hp) : funW ⟨Tryz.prog, tb, zqy⟩ Tryz.f54 zdp1 [(sh_api_Config).enc c] (fun r => Q r.1 r.2) h = zhc Tryz.prog c Q h := by kernel_rfl
theorem zyu {c : S_api_Config} {Q : (Int → (Int → (Hp → Prop)))} {h : Hp} (hv : zhc Tryz.prog c Q h) : Call2 Tryz.prog zle [(sh_api_Config).enc c] (shInt .i64) (shInt .i64) Q h :=
 show CallT Tryz.prog zle [(sh_api_Config).enc c] (shRes tb [34, 3]) (fun r => Q r.1 r.2) h from zaa (C := ⟨Tryz.prog, tb, zqy⟩) tb_ok Tryz.func54 rfl (Eq.mpr (zbx1 c Q h) hv)
theorem zyv (c : S_api_Config) (s : S_api_State) (Q : (Bool → (Hp → Prop))) (h : Hp) : funW ⟨Tryz.prog, tb, zol⟩ Tryz.f55 zad1 [(sh_api_Config).enc c, (zar).enc s] (Q) h = zfq Tryz.prog c s Q h := by kernel_rfl
theorem zvx {c : S_api_Config} {s : S_api_State} {Q : (Bool → (Hp → Prop))} {h : Hp} (hv : zfq Tryz.prog c s Q h) : CallT Tryz.prog zja [(sh_api_Config).enc c, (zar).enc s] (zaf) Q h :=
 show CallT Tryz.prog zja [(sh_api_Config).enc c, (zar).enc s] (shRes tb [4]) (Q) h from zaa (C := ⟨Tryz.prog, tb, zol⟩) tb_ok Tryz.func55 rfl (Eq.mpr (zyv c s Q h) hv)
theorem zqa (m : Option Addr) (i : Int) (Q : (Bool → (Hp → Prop))) (h : Hp) : funW ⟨Tryz.prog, tb, zir⟩ Tryz.f56 zqg [(shPtr).enc m, (shInt .i64).enc i] (Q) h = zcm Tryz.prog m i Q h := by kernel_rfl
theorem zoe {m : Option Addr} {i : Int} {Q : (Bool → (Hp → Prop))} {h : Hp} (hv : zcm Tryz.prog m i Q h) : CallT Tryz.prog zeg [(shPtr).enc m, (shInt .i64).enc i] (zaf) Q h :=
 show CallT Tryz.prog zeg [(shPtr).enc m, (shInt .i64).enc i] (shRes tb [4]) (Q) h from zaa (C := ⟨Tryz.prog, tb, zir⟩) tb_ok Tryz.func56 rfl (Eq.mpr (zqa m i Q h) hv)
theorem znp (m : Option Addr) (p : Int) (Q : (Bool → (Hp → Prop))) (h : Hp) : funW ⟨Tryz.prog, tb, zgv⟩ Tryz.f57 zod [(shPtr).enc m, (shInt .i64).enc p] (Q) h = zbv Tryz.prog m p Q h := by kernel_rfl
theorem zmm {m : Option Addr} {p : Int} {Q : (Bool → (Hp → Prop))} {h : Hp} (hv : zbv Tryz.prog m p Q h) : CallT Tryz.prog zda [(shPtr).enc m, (shInt .i64).enc p] (zaf) Q h :=
 show CallT Tryz.prog zda [(shPtr).enc m, (shInt .i64).enc p] (shRes tb [4]) (Q) h from zaa (C := ⟨Tryz.prog, tb, zgv⟩) tb_ok Tryz.func57 rfl (Eq.mpr (znp m p Q h) hv)
theorem zpd (m : Option Addr) (p : Int) (Q : (Bool → (Hp → Prop))) (h : Hp) : funW ⟨Tryz.prog, tb, zhx⟩ Tryz.f58 zps [(shPtr).enc m, (shInt .i64).enc p] (Q) h = zce Tryz.prog m p Q h := by kernel_rfl
theorem znq {m : Option Addr} {p : Int} {Q : (Bool → (Hp → Prop))} {h : Hp} (hv : zce Tryz.prog m p Q h) : CallT Tryz.prog zdt [(shPtr).enc m, (shInt .i64).enc p] (zaf) Q h :=
 show CallT Tryz.prog zdt [(shPtr).enc m, (shInt .i64).enc p] (shRes tb [4]) (Q) h from zaa (C := ⟨Tryz.prog, tb, zhx⟩) tb_ok Tryz.func58 rfl (Eq.mpr (zpd m p Q h) hv)
theorem zhl1 (r : Option Addr) (many : Int) (Q : (Int → (Hp → Prop))) (h : Hp) : funW ⟨Tryz.prog, tb, zwm⟩ Tryz.f61 zii1 [(shPtr).enc r, (shInt .i64).enc many] (Q) h = zkq Tryz.prog r many Q h := by kernel_rfl
theorem zbb {r : Option Addr} {many : Int} {Q : (Int → (Hp → Prop))} {h : Hp} (hv : zkq Tryz.prog r many Q h) : CallT Tryz.prog zbc [(shPtr).enc r, (shInt .i64).enc many] (shInt .i64) Q h :=
 show CallT Tryz.prog zbc [(shPtr).enc r, (shInt .i64).enc many] (shRes tb [2]) (Q) h from zaa (C := ⟨Tryz.prog, tb, zwm⟩) tb_ok Tryz.func61 rfl (Eq.mpr (zhl1 r many Q h) hv)
theorem zby1 (r : Option Addr) (Q : (Hp → Prop)) (h : Hp) : funW ⟨Tryz.prog, tb, zqz⟩ Tryz.f62 zdq1 [(shPtr).enc r] (fun _ => Q) h = zhd Tryz.prog r Q h := by kernel_rfl
theorem zyw {r : Option Addr} {Q : (Hp → Prop)} {h : Hp} (hv : zhd Tryz.prog r Q h) : Call0 Tryz.prog zlf [(shPtr).enc r] (Q) h :=
 show CallT Tryz.prog zlf [(shPtr).enc r] (shRes tb []) (fun _ => Q) h from zaa (C := ⟨Tryz.prog, tb, zqz⟩) tb_ok Tryz.func62 rfl (Eq.mpr (zby1 r Q h) hv)
theorem zfn1 (r : Option Addr) (Q : (S_api_Part → (Hp → Prop))) (h : Hp) : funW ⟨Tryz.prog, tb, zut⟩ Tryz.f63 zgm1 [(shPtr).enc r] (Q) h = zjm Tryz.prog r Q h := by kernel_rfl
theorem zbz1 {r : Option Addr} {Q : (S_api_Part → (Hp → Prop))} {h : Hp} (hv : zjm Tryz.prog r Q h) : CallT Tryz.prog zmx [(shPtr).enc r] (sh_api_Part) Q h :=
 show CallT Tryz.prog zmx [(shPtr).enc r] (shRes tb [60]) (Q) h from zaa (C := ⟨Tryz.prog, tb, zut⟩) tb_ok Tryz.func63 rfl (Eq.mpr (zfn1 r Q h) hv)
theorem zfo1 (r : Option Addr) (Q : (S_api_Process → (Hp → Prop))) (h : Hp) : funW ⟨Tryz.prog, tb, zuu⟩ Tryz.f64 zgn1 [(shPtr).enc r] (Q) h = zjn Tryz.prog r Q h := by kernel_rfl
theorem zca1 {r : Option Addr} {Q : (S_api_Process → (Hp → Prop))} {h : Hp} (hv : zjn Tryz.prog r Q h) : CallT Tryz.prog zmy [(shPtr).enc r] (sh_api_Process) Q h :=
 show CallT Tryz.prog zmy [(shPtr).enc r] (shRes tb [64]) (Q) h from zaa (C := ⟨Tryz.prog, tb, zuu⟩) tb_ok Tryz.func64 rfl (Eq.mpr (zfo1 r Q h) hv)
theorem zxa (b : Sl) (Q : (S_api_Config → (Int → (Int → (Hp → Prop))))) (h : Hp) : funW ⟨Tryz.prog, tb, zng⟩ Tryz.f65 zya [(shSl).enc b] (fun r => Q r.1 r.2.1 r.2.2) h = zet Tryz.prog b Q h := by kernel_rfl
theorem zub {b : Sl} {Q : (S_api_Config → (Int → (Int → (Hp → Prop))))} {h : Hp} (hv : zet Tryz.prog b Q h) : Call3 Tryz.prog zid [(shSl).enc b] (sh_api_Config) (shInt .i64) (shInt .i64) Q h :=
 show CallT Tryz.prog zid [(shSl).enc b] (shRes tb [26, 34, 3]) (fun r => Q r.1 r.2.1 r.2.2) h from zaa (C := ⟨Tryz.prog, tb, zng⟩) tb_ok Tryz.func65 rfl (Eq.mpr (zxa b Q h) hv)
theorem zyx (r : Option Addr) (bytes : Int) (most : Int) (Q : (Int → (Hp → Prop))) (h : Hp) : funW ⟨Tryz.prog, tb, zom⟩ Tryz.f66 zae1 [(shPtr).enc r, (shInt .i64).enc bytes, (shInt .i64).enc most] (Q) h = zfr Tryz.prog r bytes most Q h := by kernel_rfl
theorem zdq {r : Option Addr} {bytes : Int} {most : Int} {Q : (Int → (Hp → Prop))} {h : Hp} (hv : zfr Tryz.prog r bytes most Q h) : CallT Tryz.prog zci [(shPtr).enc r, (shInt .i64).enc bytes, (shInt .i64).enc most] (shInt .i64) Q h :=
 show CallT Tryz.prog zci [(shPtr).enc r, (shInt .i64).enc bytes, (shInt .i64).enc most] (shRes tb [3]) (Q) h from zaa (C := ⟨Tryz.prog, tb, zom⟩) tb_ok Tryz.func66 rfl (Eq.mpr (zyx r bytes most Q h) hv)
theorem zsn (r : Option Addr) (many : Int) (least : Int) (most : Int) (low : Int) (high : Int) (Q : (Int → (Hp → Prop))) (h : Hp) : funW ⟨Tryz.prog, tb, zki⟩ Tryz.f67 ztd [(shPtr).enc r, (shInt .i64).enc many, (shInt .i64).enc least, (shInt .i64).enc most, (shInt .i64).enc low, (shInt .i64).enc high] (Q) h = zcv Tryz.prog r many least most low high Q h := by kernel_rfl
theorem zam {r : Option Addr} {many : Int} {least : Int} {most : Int} {low : Int} {high : Int} {Q : (Int → (Hp → Prop))} {h : Hp} (hv : zcv Tryz.prog r many least most low high Q h) : CallT Tryz.prog zal [(shPtr).enc r, (shInt .i64).enc many, (shInt .i64).enc least, (shInt .i64).enc most, (shInt .i64).enc low, (shInt .i64).enc high] (shInt .i64) Q h :=
 show CallT Tryz.prog zal [(shPtr).enc r, (shInt .i64).enc many, (shInt .i64).enc least, (shInt .i64).enc most, (shInt .i64).enc low, (shInt .i64).enc high] (shRes tb [3]) (Q) h from zaa (C := ⟨Tryz.prog, tb, zki⟩) tb_ok Tryz.func67 rfl (Eq.mpr (zsn r many least most low high Q h) hv)
theorem zuc (r : Option Addr) (c : S_api_Config) (Q : (S_api_Lane → (Hp → Prop))) (h : Hp) : funW ⟨Tryz.prog, tb, zlq⟩ Tryz.f68 zvq [(shPtr).enc r, (sh_api_Config).enc c] (Q) h = zdm Tryz.prog r c Q h := by kernel_rfl
theorem zso {r : Option Addr} {c : S_api_Config} {Q : (S_api_Lane → (Hp → Prop))} {h : Hp} (hv : zdm Tryz.prog r c Q h) : CallT Tryz.prog zgr [(shPtr).enc r, (sh_api_Config).enc c] (sh_api_Lane) Q h :=
 show CallT Tryz.prog zgr [(shPtr).enc r, (sh_api_Config).enc c] (shRes tb [68]) (Q) h from zaa (C := ⟨Tryz.prog, tb, zlq⟩) tb_ok Tryz.func68 rfl (Eq.mpr (zuc r c Q h) hv)
end Lf

set_option maxRecDepth 100000
namespace Lf
open Go Go.Proofs
theorem zsp (a : Sl) (b : Sl) (Q : (Bool → (Hp → Prop))) (h : Hp) : funW ⟨Tryz.prog, tb, zkj⟩ Tryz.f69 zte [(shSl).enc a, (shSl).enc b] (Q) h = zcw Tryz.prog a b Q h := by kernel_rfl
theorem zqb {a : Sl} {b : Sl} {Q : (Bool → (Hp → Prop))} {h : Hp} (hv : zcw Tryz.prog a b Q h) : CallT Tryz.prog zfe [(shSl).enc a, (shSl).enc b] (zaf) Q h :=
 show CallT Tryz.prog zfe [(shSl).enc a, (shSl).enc b] (shRes tb [4]) (Q) h from zaa (C := ⟨Tryz.prog, tb, zkj⟩) tb_ok Tryz.func69 rfl (Eq.mpr (zsp a b Q h) hv)
theorem zud (a : Sl) (b : Sl) (Q : (Bool → (Hp → Prop))) (h : Hp) : funW ⟨Tryz.prog, tb, zlr⟩ Tryz.f70 zvr [(shSl).enc a, (shSl).enc b] (Q) h = zdn Tryz.prog a b Q h := by kernel_rfl
theorem zsq {a : Sl} {b : Sl} {Q : (Bool → (Hp → Prop))} {h : Hp} (hv : zdn Tryz.prog a b Q h) : CallT Tryz.prog zgs [(shSl).enc a, (shSl).enc b] (zaf) Q h :=
 show CallT Tryz.prog zgs [(shSl).enc a, (shSl).enc b] (shRes tb [4]) (Q) h from zaa (C := ⟨Tryz.prog, tb, zlr⟩) tb_ok Tryz.func70 rfl (Eq.mpr (zud a b Q h) hv)
theorem zas1 (a : Sl) (b : Sl) (Q : (Bool → (Hp → Prop))) (h : Hp) : funW ⟨Tryz.prog, tb, zpt⟩ Tryz.f71 zbf1 [(shSl).enc a, (shSl).enc b] (Q) h = zgi Tryz.prog a b Q h := by kernel_rfl
theorem zmr {a : Sl} {b : Sl} {Q : (Bool → (Hp → Prop))} {h : Hp} (hv : zgi Tryz.prog a b Q h) : CallT Tryz.prog zgc [(shSl).enc a, (shSl).enc b] (zaf) Q h :=
 show CallT Tryz.prog zgc [(shSl).enc a, (shSl).enc b] (shRes tb [4]) (Q) h from zaa (C := ⟨Tryz.prog, tb, zpt⟩) tb_ok Tryz.func71 rfl (Eq.mpr (zas1 a b Q h) hv)
theorem zue (a : S_api_Lane) (b : S_api_Lane) (Q : (Bool → (Hp → Prop))) (h : Hp) : funW ⟨Tryz.prog, tb, zls⟩ Tryz.f72 zvs [(sh_api_Lane).enc a, (sh_api_Lane).enc b] (Q) h = zdo Tryz.prog a b Q h := by kernel_rfl
theorem zsr {a : S_api_Lane} {b : S_api_Lane} {Q : (Bool → (Hp → Prop))} {h : Hp} (hv : zdo Tryz.prog a b Q h) : CallT Tryz.prog zgt [(sh_api_Lane).enc a, (sh_api_Lane).enc b] (zaf) Q h :=
 show CallT Tryz.prog zgt [(sh_api_Lane).enc a, (sh_api_Lane).enc b] (shRes tb [4]) (Q) h from zaa (C := ⟨Tryz.prog, tb, zls⟩) tb_ok Tryz.func72 rfl (Eq.mpr (zue a b Q h) hv)
theorem zri1 (l : Sl) (Q : (Int → (Int → (Hp → Prop)))) (h : Hp) : funW ⟨Tryz.prog, tb, zkl1⟩ Tryz.f73 zsw1 [(shSl).enc l] (fun r => Q r.1 r.2) h = zoy Tryz.prog l Q h := by kernel_rfl
theorem zvy {l : Sl} {Q : (Int → (Int → (Hp → Prop)))} {h : Hp} (hv : zoy Tryz.prog l Q h) : Call2 Tryz.prog zxp [(shSl).enc l] (shInt .i64) (shInt .i64) Q h :=
 show CallT Tryz.prog zxp [(shSl).enc l] (shRes tb [34, 3]) (fun r => Q r.1 r.2) h from zaa (C := ⟨Tryz.prog, tb, zkl1⟩) tb_ok Tryz.func73 rfl (Eq.mpr (zri1 l Q h) hv)
theorem zrj1 (n : Int) (most : Int) (Q : (Int → (Hp → Prop))) (h : Hp) : funW ⟨Tryz.prog, tb, zkm1⟩ Tryz.f74 zsx1 [(shInt .i64).enc n, (shInt .i64).enc most] (Q) h = zxv Tryz.prog n most Q h := by kernel_rfl
theorem zvz {n : Int} {most : Int} {Q : (Int → (Hp → Prop))} {h : Hp} (hv : zxv Tryz.prog n most Q h) : CallT Tryz.prog zsz [(shInt .i64).enc n, (shInt .i64).enc most] (shInt .i64) Q h :=
 show CallT Tryz.prog zsz [(shInt .i64).enc n, (shInt .i64).enc most] (shRes tb [34]) (Q) h from zaa (C := ⟨Tryz.prog, tb, zkm1⟩) tb_ok Tryz.func74 rfl (Eq.mpr (zrj1 n most Q h) hv)
theorem zrk1 (table : Sl) (parts : Int) (Q : (Option Addr → (Int → (Int → (Hp → Prop))))) (h : Hp) : funW ⟨Tryz.prog, tb, zkn1⟩ Tryz.f75 zsy1 [(shSl).enc table, (shInt .i64).enc parts] (fun r => Q r.1 r.2.1 r.2.2) h = zxw Tryz.prog table parts Q h := by kernel_rfl
theorem zmq1 {table : Sl} {parts : Int} {Q : (Option Addr → (Int → (Int → (Hp → Prop))))} {h : Hp} (hv : zxw Tryz.prog table parts Q h) : Call3 Tryz.prog zet1 [(shSl).enc table, (shInt .i64).enc parts] (shPtr) (shInt .i64) (shInt .i64) Q h :=
 show CallT Tryz.prog zet1 [(shSl).enc table, (shInt .i64).enc parts] (shRes tb [138, 34, 3]) (fun r => Q r.1 r.2.1 r.2.2) h from zaa (C := ⟨Tryz.prog, tb, zkn1⟩) tb_ok Tryz.func75 rfl (Eq.mpr (zrk1 table parts Q h) hv)
theorem zmr1 (part : Int) (n : Int) (Q : (Int → (Hp → Prop))) (h : Hp) : funW ⟨Tryz.prog, tb, zgo1⟩ Tryz.f76 zor1 [(shInt .i64).enc part, (shInt .i64).enc n] (Q) h = zrv Tryz.prog part n Q h := by kernel_rfl
theorem zzz {part : Int} {n : Int} {Q : (Int → (Hp → Prop))} {h : Hp} (hv : zrv Tryz.prog part n Q h) : CallT Tryz.prog zrn [(shInt .i64).enc part, (shInt .i64).enc n] (shInt .i64) Q h :=
 show CallT Tryz.prog zrn [(shInt .i64).enc part, (shInt .i64).enc n] (shRes tb [34]) (Q) h from zaa (C := ⟨Tryz.prog, tb, zgo1⟩) tb_ok Tryz.func76 rfl (Eq.mpr (zmr1 part n Q h) hv)
theorem zms1 (n : Int) (from_ : Int) (to : Int) (Q : (Bool → (Hp → Prop))) (h : Hp) : funW ⟨Tryz.prog, tb, zgp1⟩ Tryz.f77 zos1 [(shInt .i64).enc n, (shInt .i64).enc from_, (shInt .i64).enc to] (Q) h = zrw Tryz.prog n from_ to Q h := by kernel_rfl
theorem ziu {n : Int} {from_ : Int} {to : Int} {Q : (Bool → (Hp → Prop))} {h : Hp} (hv : zrw Tryz.prog n from_ to Q h) : CallT Tryz.prog zie [(shInt .i64).enc n, (shInt .i64).enc from_, (shInt .i64).enc to] (zaf) Q h :=
 show CallT Tryz.prog zie [(shInt .i64).enc n, (shInt .i64).enc from_, (shInt .i64).enc to] (shRes tb [4]) (Q) h from zaa (C := ⟨Tryz.prog, tb, zgp1⟩) tb_ok Tryz.func77 rfl (Eq.mpr (zms1 n from_ to Q h) hv)
theorem ztt1 (l : Sl) (locks : Int) (Q : (Int → (Int → (Hp → Prop)))) (h : Hp) : funW ⟨Tryz.prog, tb, zng1⟩ Tryz.f78 zxk1 [(shSl).enc l, (shInt .i64).enc locks] (fun r => Q r.1 r.2) h = zcy1 Tryz.prog l locks Q h := by kernel_rfl
theorem zhm1 {l : Sl} {locks : Int} {Q : (Int → (Int → (Hp → Prop)))} {h : Hp} (hv : zcy1 Tryz.prog l locks Q h) : Call2 Tryz.prog zcv1 [(shSl).enc l, (shInt .i64).enc locks] (shInt .i64) (shInt .i64) Q h :=
 show CallT Tryz.prog zcv1 [(shSl).enc l, (shInt .i64).enc locks] (shRes tb [34, 3]) (fun r => Q r.1 r.2) h from zaa (C := ⟨Tryz.prog, tb, zng1⟩) tb_ok Tryz.func78 rfl (Eq.mpr (ztt1 l locks Q h) hv)
theorem zqo (s : Sl) (Q : (Sl → (Hp → Prop))) (h : Hp) : funW ⟨Tryz.prog, tb, zjy⟩ Tryz.f79 zsh [(shSl).enc s] (Q) h = zcs Tryz.prog s Q h := by kernel_rfl
theorem zpe {s : Sl} {Q : (Sl → (Hp → Prop))} {h : Hp} (hv : zcs Tryz.prog s Q h) : CallT Tryz.prog zen [(shSl).enc s] (shSl) Q h :=
 show CallT Tryz.prog zen [(shSl).enc s] (shRes tb [22]) (Q) h from zaa (C := ⟨Tryz.prog, tb, zjy⟩) tb_ok Tryz.func79 rfl (Eq.mpr (zqo s Q h) hv)
theorem zcb1 (a : S_machine_asked) (i : Int) (Q : (Int → (Hp → Prop))) (h : Hp) : funW ⟨Tryz.prog, tb, zra⟩ Tryz.f80 zdr1 [(sh_machine_asked).enc a, (shInt .i64).enc i] (Q) h = zhe Tryz.prog a i Q h := by kernel_rfl
theorem zyy {a : S_machine_asked} {i : Int} {Q : (Int → (Hp → Prop))} {h : Hp} (hv : zhe Tryz.prog a i Q h) : CallT Tryz.prog zlg [(sh_machine_asked).enc a, (shInt .i64).enc i] (shInt .i64) Q h :=
 show CallT Tryz.prog zlg [(sh_machine_asked).enc a, (shInt .i64).enc i] (shRes tb [3]) (Q) h from zaa (C := ⟨Tryz.prog, tb, zra⟩) tb_ok Tryz.func80 rfl (Eq.mpr (zcb1 a i Q h) hv)
theorem zfp1 (a : S_machine_asked) (p : Int) (i : Int) (Q : (Bool → (Hp → Prop))) (h : Hp) : funW ⟨Tryz.prog, tb, zuv⟩ Tryz.f81 zgq1 [(sh_machine_asked).enc a, (shInt .i64).enc p, (shInt .i64).enc i] (Q) h = zjo Tryz.prog a p i Q h := by kernel_rfl
theorem zgl {a : S_machine_asked} {p : Int} {i : Int} {Q : (Bool → (Hp → Prop))} {h : Hp} (hv : zjo Tryz.prog a p i Q h) : CallT Tryz.prog zdz [(sh_machine_asked).enc a, (shInt .i64).enc p, (shInt .i64).enc i] (zaf) Q h :=
 show CallT Tryz.prog zdz [(sh_machine_asked).enc a, (shInt .i64).enc p, (shInt .i64).enc i] (shRes tb [4]) (Q) h from zaa (C := ⟨Tryz.prog, tb, zuv⟩) tb_ok Tryz.func81 rfl (Eq.mpr (zfp1 a p i Q h) hv)
theorem zjr1 (n : Int) (Q : (Bool → (Hp → Prop))) (h : Hp) : funW ⟨Tryz.prog, tb, zbg1⟩ Tryz.f82 zko1 [(shInt .i64).enc n] (Q) h = znb Tryz.prog n Q h := by kernel_rfl
theorem zka {n : Int} {Q : (Bool → (Hp → Prop))} {h : Hp} (hv : znb Tryz.prog n Q h) : CallT Tryz.prog zho [(shInt .i64).enc n] (zaf) Q h :=
 show CallT Tryz.prog zho [(shInt .i64).enc n] (shRes tb [4]) (Q) h from zaa (C := ⟨Tryz.prog, tb, zbg1⟩) tb_ok Tryz.func82 rfl (Eq.mpr (zjr1 n Q h) hv)
theorem zqc (s : Sl) (f : FnV) (Q : (Bool → (Hp → Prop))) (h : Hp) : funW ⟨Tryz.prog, tb, zis⟩ Tryz.f83 zqh [(shSl).enc s, (shFn).enc f] (Q) h = zej Tryz.prog s f Q h := by kernel_rfl
theorem zof {s : Sl} {f : FnV} {Q : (Bool → (Hp → Prop))} {h : Hp} (hv : zej Tryz.prog s f Q h) : CallT Tryz.prog zeh [(shSl).enc s, (shFn).enc f] (zaf) Q h :=
 show CallT Tryz.prog zeh [(shSl).enc s, (shFn).enc f] (shRes tb [4]) (Q) h from zaa (C := ⟨Tryz.prog, tb, zis⟩) tb_ok Tryz.func83 rfl (Eq.mpr (zqc s f Q h) hv)
theorem zyz (p : Int) (a1 : Addr) (a2 : Addr) (Q : (Bool → (Hp → Prop))) (h : Hp) : funW ⟨Tryz.prog, tb, zon⟩ Tryz.f84 zaf1 [(shInt .i64).enc p, .pointer (some a1), .pointer (some a2)] (Q) h = zfs Tryz.prog p a1 a2 Q h := by kernel_rfl
theorem zwa {p : Int} {a1 : Addr} {a2 : Addr} {Q : (Bool → (Hp → Prop))} {h : Hp} (hv : zfs Tryz.prog p a1 a2 Q h) : CallT Tryz.prog zdf [(shInt .i64).enc p, .pointer (some a1), .pointer (some a2)] (zaf) Q h :=
 show CallT Tryz.prog zdf [(shInt .i64).enc p, .pointer (some a1), .pointer (some a2)] (shRes tb [4]) (Q) h from zaa (C := ⟨Tryz.prog, tb, zon⟩) tb_ok Tryz.func84 rfl (Eq.mpr (zyz p a1 a2 Q h) hv)
theorem zjs1 (state : Int) (Q : (Bool → (Hp → Prop))) (h : Hp) : funW ⟨Tryz.prog, tb, zbh1⟩ Tryz.f85 zkp1 [(shInt .i64).enc state] (Q) h = znc Tryz.prog state Q h := by kernel_rfl
theorem znr {state : Int} {Q : (Bool → (Hp → Prop))} {h : Hp} (hv : znc Tryz.prog state Q h) : CallT Tryz.prog zkf [(shInt .i64).enc state] (zaf) Q h :=
 show CallT Tryz.prog zkf [(shInt .i64).enc state] (shRes tb [4]) (Q) h from zaa (C := ⟨Tryz.prog, tb, zbh1⟩) tb_ok Tryz.func85 rfl (Eq.mpr (zjs1 state Q h) hv)
theorem zec1 (t : Option Addr) (i : Int) (j : Int) (Q : (Bool → (Hp → Prop))) (h : Hp) : funW ⟨Tryz.prog, tb, ztf⟩ Tryz.f86 zev1 [(shPtr).enc t, (shInt .i64).enc i, (shInt .i64).enc j] (Q) h = zij Tryz.prog t i j Q h := by kernel_rfl
theorem zat1 {t : Option Addr} {i : Int} {j : Int} {Q : (Bool → (Hp → Prop))} {h : Hp} (hv : zij Tryz.prog t i j Q h) : CallT Tryz.prog zmg [(shPtr).enc t, (shInt .i64).enc i, (shInt .i64).enc j] (zaf) Q h :=
 show CallT Tryz.prog zmg [(shPtr).enc t, (shInt .i64).enc i, (shInt .i64).enc j] (shRes tb [4]) (Q) h from zaa (C := ⟨Tryz.prog, tb, ztf⟩) tb_ok Tryz.func86 rfl (Eq.mpr (zec1 t i j Q h) hv)
theorem zfq1 (a : S_machine_asked) (p : Int) (Q : (Int → (Hp → Prop))) (h : Hp) : funW ⟨Tryz.prog, tb, zuw⟩ Tryz.f87 zgr1 [(sh_machine_asked).enc a, (shInt .i64).enc p] (Q) h = zjp Tryz.prog a p Q h := by kernel_rfl
theorem zgm {a : S_machine_asked} {p : Int} {Q : (Int → (Hp → Prop))} {h : Hp} (hv : zjp Tryz.prog a p Q h) : CallT Tryz.prog zea [(sh_machine_asked).enc a, (shInt .i64).enc p] (shInt .i64) Q h :=
 show CallT Tryz.prog zea [(sh_machine_asked).enc a, (shInt .i64).enc p] (shRes tb [3]) (Q) h from zaa (C := ⟨Tryz.prog, tb, zuw⟩) tb_ok Tryz.func87 rfl (Eq.mpr (zfq1 a p Q h) hv)
theorem zed1 (a : S_machine_asked) (p : Int) (Q : (S_api_Ins → (Hp → Prop))) (h : Hp) : funW ⟨Tryz.prog, tb, ztg⟩ Tryz.f88 zew1 [(sh_machine_asked).enc a, (shInt .i64).enc p] (Q) h = zik Tryz.prog a p Q h := by kernel_rfl
theorem zje {a : S_machine_asked} {p : Int} {Q : (S_api_Ins → (Hp → Prop))} {h : Hp} (hv : zik Tryz.prog a p Q h) : CallT Tryz.prog zff [(sh_machine_asked).enc a, (shInt .i64).enc p] (sh_api_Ins) Q h :=
 show CallT Tryz.prog zff [(sh_machine_asked).enc a, (shInt .i64).enc p] (shRes tb [51]) (Q) h from zaa (C := ⟨Tryz.prog, tb, ztg⟩) tb_ok Tryz.func88 rfl (Eq.mpr (zed1 a p Q h) hv)
theorem zau1 (a : S_machine_asked) (w : S_api_Waiter) (r : Int) (Q : (Bool → (Hp → Prop))) (h : Hp) : funW ⟨Tryz.prog, tb, zpu⟩ Tryz.f89 zbi1 [(sh_machine_asked).enc a, (sh_api_Waiter).enc w, (shInt .i64).enc r] (Q) h = zgj Tryz.prog a w r Q h := by kernel_rfl
theorem zxb {a : S_machine_asked} {w : S_api_Waiter} {r : Int} {Q : (Bool → (Hp → Prop))} {h : Hp} (hv : zgj Tryz.prog a w r Q h) : CallT Tryz.prog zkg [(sh_machine_asked).enc a, (sh_api_Waiter).enc w, (shInt .i64).enc r] (zaf) Q h :=
 show CallT Tryz.prog zkg [(sh_machine_asked).enc a, (sh_api_Waiter).enc w, (shInt .i64).enc r] (shRes tb [4]) (Q) h from zaa (C := ⟨Tryz.prog, tb, zpu⟩) tb_ok Tryz.func89 rfl (Eq.mpr (zau1 a w r Q h) hv)
theorem zcc1 (l : Sl) (Q : (Int → (Int → (Hp → Prop)))) (h : Hp) : funW ⟨Tryz.prog, tb, zrb⟩ Tryz.f90 zds1 [(shSl).enc l] (fun r => Q r.1 r.2) h = zlm Tryz.prog l Q h := by kernel_rfl
theorem zza {l : Sl} {Q : (Int → (Int → (Hp → Prop)))} {h : Hp} (hv : zlm Tryz.prog l Q h) : Call2 Tryz.prog zlh [(shSl).enc l] (shInt .i64) (shInt .i64) Q h :=
 show CallT Tryz.prog zlh [(shSl).enc l] (shRes tb [34, 3]) (fun r => Q r.1 r.2) h from zaa (C := ⟨Tryz.prog, tb, zrb⟩) tb_ok Tryz.func90 rfl (Eq.mpr (zcc1 l Q h) hv)
end Lf

set_option maxRecDepth 100000
namespace Lf
open Go Go.Proofs
theorem zxc (l : Sl) (parts : Int) (Q : (Int → (Hp → Prop))) (h : Hp) : funW ⟨Tryz.prog, tb, znh⟩ Tryz.f91 zyb [(shSl).enc l, (shInt .i64).enc parts] (Q) h = zeu Tryz.prog l parts Q h := by kernel_rfl
theorem zuf {l : Sl} {parts : Int} {Q : (Int → (Hp → Prop))} {h : Hp} (hv : zeu Tryz.prog l parts Q h) : CallT Tryz.prog zif [(shSl).enc l, (shInt .i64).enc parts] (shInt .i64) Q h :=
 show CallT Tryz.prog zif [(shSl).enc l, (shInt .i64).enc parts] (shRes tb [34]) (Q) h from zaa (C := ⟨Tryz.prog, tb, znh⟩) tb_ok Tryz.func91 rfl (Eq.mpr (zxc l parts Q h) hv)
theorem zxd (n : Int) (least : Int) (most : Int) (Q : (Bool → (Hp → Prop))) (h : Hp) : funW ⟨Tryz.prog, tb, zni⟩ Tryz.f92 zyc [(shInt .i64).enc n, (shInt .i64).enc least, (shInt .i64).enc most] (Q) h = zev Tryz.prog n least most Q h := by kernel_rfl
theorem zbn {n : Int} {least : Int} {most : Int} {Q : (Bool → (Hp → Prop))} {h : Hp} (hv : zev Tryz.prog n least most Q h) : CallT Tryz.prog zbe [(shInt .i64).enc n, (shInt .i64).enc least, (shInt .i64).enc most] (zaf) Q h :=
 show CallT Tryz.prog zbe [(shInt .i64).enc n, (shInt .i64).enc least, (shInt .i64).enc most] (shRes tb [4]) (Q) h from zaa (C := ⟨Tryz.prog, tb, zni⟩) tb_ok Tryz.func92 rfl (Eq.mpr (zxd n least most Q h) hv)
theorem zcd1 (l : Sl) (locks : Int) (Q : (Int → (Int → (Hp → Prop)))) (h : Hp) : funW ⟨Tryz.prog, tb, zrc⟩ Tryz.f93 zdt1 [(shSl).enc l, (shInt .i64).enc locks] (fun r => Q r.1 r.2) h = zhf Tryz.prog l locks Q h := by kernel_rfl
theorem zzb {l : Sl} {locks : Int} {Q : (Int → (Int → (Hp → Prop)))} {h : Hp} (hv : zhf Tryz.prog l locks Q h) : Call2 Tryz.prog zli [(shSl).enc l, (shInt .i64).enc locks] (shInt .i64) (shInt .i64) Q h :=
 show CallT Tryz.prog zli [(shSl).enc l, (shInt .i64).enc locks] (shRes tb [34, 3]) (fun r => Q r.1 r.2) h from zaa (C := ⟨Tryz.prog, tb, zrc⟩) tb_ok Tryz.func93 rfl (Eq.mpr (zcd1 l locks Q h) hv)
theorem zxe (n : Int) (low : Int) (high : Int) (Q : (Bool → (Hp → Prop))) (h : Hp) : funW ⟨Tryz.prog, tb, znj⟩ Tryz.f94 zyd [(shInt .i64).enc n, (shInt .i64).enc low, (shInt .i64).enc high] (Q) h = zew Tryz.prog n low high Q h := by kernel_rfl
theorem zde {n : Int} {low : Int} {high : Int} {Q : (Bool → (Hp → Prop))} {h : Hp} (hv : zew Tryz.prog n low high Q h) : CallT Tryz.prog zca [(shInt .i64).enc n, (shInt .i64).enc low, (shInt .i64).enc high] (zaf) Q h :=
 show CallT Tryz.prog zca [(shInt .i64).enc n, (shInt .i64).enc low, (shInt .i64).enc high] (shRes tb [4]) (Q) h from zaa (C := ⟨Tryz.prog, tb, znj⟩) tb_ok Tryz.func94 rfl (Eq.mpr (zxe n low high Q h) hv)
theorem zss (m : Option Addr) (i : Int) (Q : (Sl → (Hp → Prop))) (h : Hp) : funW ⟨Tryz.prog, tb, zkk⟩ Tryz.f95 zth [(shPtr).enc m, (shInt .i64).enc i] (Q) h = zcx Tryz.prog m i Q h := by kernel_rfl
theorem zqd {m : Option Addr} {i : Int} {Q : (Sl → (Hp → Prop))} {h : Hp} (hv : zcx Tryz.prog m i Q h) : CallT Tryz.prog zfg [(shPtr).enc m, (shInt .i64).enc i] (shSl) Q h :=
 show CallT Tryz.prog zfg [(shPtr).enc m, (shInt .i64).enc i] (shRes tb [23]) (Q) h from zaa (C := ⟨Tryz.prog, tb, zkk⟩) tb_ok Tryz.func95 rfl (Eq.mpr (zss m i Q h) hv)
theorem zwb (n : Int) (Q : (Bool → (Hp → Prop))) (h : Hp) : funW ⟨Tryz.prog, tb, zmo⟩ Tryz.f96 zwn [(shInt .i64).enc n] (Q) h = zeb Tryz.prog n Q h := by kernel_rfl
theorem zcy {n : Int} {Q : (Bool → (Hp → Prop))} {h : Hp} (hv : zeb Tryz.prog n Q h) : CallT Tryz.prog zbu [(shInt .i64).enc n] (zaf) Q h :=
 show CallT Tryz.prog zbu [(shInt .i64).enc n] (shRes tb [4]) (Q) h from zaa (C := ⟨Tryz.prog, tb, zmo⟩) tb_ok Tryz.func96 rfl (Eq.mpr (zwb n Q h) hv)
theorem zst (m : Option Addr) (p : Int) (i : Int) (Q : (Bool → (Hp → Prop))) (h : Hp) : funW ⟨Tryz.prog, tb, zkl⟩ Tryz.f97 zti [(shPtr).enc m, (shInt .i64).enc p, (shInt .i64).enc i] (Q) h = zbx Tryz.prog m p i Q h := by kernel_rfl
theorem zdy {m : Option Addr} {p : Int} {i : Int} {Q : (Bool → (Hp → Prop))} {h : Hp} (hv : zbx Tryz.prog m p i Q h) : CallT Tryz.prog zbw [(shPtr).enc m, (shInt .i64).enc p, (shInt .i64).enc i] (zaf) Q h :=
 show CallT Tryz.prog zbw [(shPtr).enc m, (shInt .i64).enc p, (shInt .i64).enc i] (shRes tb [4]) (Q) h from zaa (C := ⟨Tryz.prog, tb, zkl⟩) tb_ok Tryz.func97 rfl (Eq.mpr (zst m p i Q h) hv)
theorem zpf (m : Option Addr) (i : Int) (j : Int) (Q : (Bool → (Hp → Prop))) (h : Hp) : funW ⟨Tryz.prog, tb, zhy⟩ Tryz.f98 zpv [(shPtr).enc m, (shInt .i64).enc i, (shInt .i64).enc j] (Q) h = zbl Tryz.prog m i j Q h := by kernel_rfl
theorem zns {m : Option Addr} {i : Int} {j : Int} {Q : (Bool → (Hp → Prop))} {h : Hp} (hv : zbl Tryz.prog m i j Q h) : CallT Tryz.prog zdu [(shPtr).enc m, (shInt .i64).enc i, (shInt .i64).enc j] (zaf) Q h :=
 show CallT Tryz.prog zdu [(shPtr).enc m, (shInt .i64).enc i, (shInt .i64).enc j] (shRes tb [4]) (Q) h from zaa (C := ⟨Tryz.prog, tb, zhy⟩) tb_ok Tryz.func98 rfl (Eq.mpr (zpf m i j Q h) hv)
theorem zee1 (c : S_firebreakref13_Core) (code : Sl) (Q : (S_api_Ins → (Bool → (Hp → Prop)))) (h : Hp) : funW ⟨Tryz.prog, tb, ztj⟩ Tryz.f99 zex1 [(zch).enc c, (shSl).enc code] (fun r => Q r.1 r.2) h = zil Tryz.prog c code Q h := by kernel_rfl
theorem zav1 {c : S_firebreakref13_Core} {code : Sl} {Q : (S_api_Ins → (Bool → (Hp → Prop)))} {h : Hp} (hv : zil Tryz.prog c code Q h) : Call2 Tryz.prog zmh [(zch).enc c, (shSl).enc code] (sh_api_Ins) (zaf) Q h :=
 show CallT Tryz.prog zmh [(zch).enc c, (shSl).enc code] (shRes tb [51, 4]) (fun r => Q r.1 r.2) h from zaa (C := ⟨Tryz.prog, tb, ztj⟩) tb_ok Tryz.func99 rfl (Eq.mpr (zee1 c code Q h) hv)
theorem zqe (m : Option Addr) (p : Int) (Q : (S_firebreakref13_Core → (Hp → Prop))) (h : Hp) : funW ⟨Tryz.prog, tb, zit⟩ Tryz.f100 zqi [(shPtr).enc m, (shInt .i64).enc p] (Q) h = zek Tryz.prog m p Q h := by kernel_rfl
theorem zog {m : Option Addr} {p : Int} {Q : (S_firebreakref13_Core → (Hp → Prop))} {h : Hp} (hv : zek Tryz.prog m p Q h) : CallT Tryz.prog zei [(shPtr).enc m, (shInt .i64).enc p] (zch) Q h :=
 show CallT Tryz.prog zei [(shPtr).enc m, (shInt .i64).enc p] (shRes tb [159]) (Q) h from zaa (C := ⟨Tryz.prog, tb, zit⟩) tb_ok Tryz.func100 rfl (Eq.mpr (zqe m p Q h) hv)
theorem zef1 (r : Option Addr) (many : Int) (Q : (Int → (Hp → Prop))) (h : Hp) : funW ⟨Tryz.prog, tb, ztk⟩ Tryz.f101 zey1 [(shPtr).enc r, (shInt .i64).enc many] (Q) h = zim Tryz.prog r many Q h := by kernel_rfl
theorem zaq {r : Option Addr} {many : Int} {Q : (Int → (Hp → Prop))} {h : Hp} (hv : zim Tryz.prog r many Q h) : CallT Tryz.prog zan [(shPtr).enc r, (shInt .i64).enc many] (shInt .i64) Q h :=
 show CallT Tryz.prog zan [(shPtr).enc r, (shInt .i64).enc many] (shRes tb [3]) (Q) h from zaa (C := ⟨Tryz.prog, tb, ztk⟩) tb_ok Tryz.func101 rfl (Eq.mpr (zef1 r many Q h) hv)
theorem zmt1 (b : Sl) (Q : (S_api_Config → (Int → (Int → (Hp → Prop))))) (h : Hp) : funW ⟨Tryz.prog, tb, zgs1⟩ Tryz.f102 zot1 [(shSl).enc b] (fun r => Q r.1 r.2.1 r.2.2) h = zrx Tryz.prog b Q h := by kernel_rfl
theorem zjt1 {b : Sl} {Q : (S_api_Config → (Int → (Int → (Hp → Prop))))} {h : Hp} (hv : zrx Tryz.prog b Q h) : Call3 Tryz.prog zxq [(shSl).enc b] (sh_api_Config) (shInt .i64) (shInt .i64) Q h :=
 show CallT Tryz.prog zxq [(shSl).enc b] (shRes tb [26, 34, 3]) (fun r => Q r.1 r.2.1 r.2.2) h from zaa (C := ⟨Tryz.prog, tb, zgs1⟩) tb_ok Tryz.func102 rfl (Eq.mpr (zmt1 b Q h) hv)
theorem zfr1 (r : Option Addr) (bytes : Int) (most : Int) (Q : (Int → (Hp → Prop))) (h : Hp) : funW ⟨Tryz.prog, tb, zux⟩ Tryz.f103 zgt1 [(shPtr).enc r, (shInt .i64).enc bytes, (shInt .i64).enc most] (Q) h = zjq Tryz.prog r bytes most Q h := by kernel_rfl
theorem zgn {r : Option Addr} {bytes : Int} {most : Int} {Q : (Int → (Hp → Prop))} {h : Hp} (hv : zjq Tryz.prog r bytes most Q h) : CallT Tryz.prog zcu [(shPtr).enc r, (shInt .i64).enc bytes, (shInt .i64).enc most] (shInt .i64) Q h :=
 show CallT Tryz.prog zcu [(shPtr).enc r, (shInt .i64).enc bytes, (shInt .i64).enc most] (shRes tb [3]) (Q) h from zaa (C := ⟨Tryz.prog, tb, zux⟩) tb_ok Tryz.func103 rfl (Eq.mpr (zfr1 r bytes most Q h) hv)
theorem zfs1 (r : Option Addr) (Q : (S_api_Lane → (Hp → Prop))) (h : Hp) : funW ⟨Tryz.prog, tb, zuy⟩ Tryz.f104 zgu1 [(shPtr).enc r] (Q) h = zjr Tryz.prog r Q h := by kernel_rfl
theorem zce1 {r : Option Addr} {Q : (S_api_Lane → (Hp → Prop))} {h : Hp} (hv : zjr Tryz.prog r Q h) : CallT Tryz.prog zmz [(shPtr).enc r] (sh_api_Lane) Q h :=
 show CallT Tryz.prog zmz [(shPtr).enc r] (shRes tb [68]) (Q) h from zaa (C := ⟨Tryz.prog, tb, zuy⟩) tb_ok Tryz.func104 rfl (Eq.mpr (zfs1 r Q h) hv)
theorem zpg (r : Option Addr) (Q : (S_api_Config → (Hp → Prop))) (h : Hp) : funW ⟨Tryz.prog, tb, zhz⟩ Tryz.f105 zpw [(shPtr).enc r] (Q) h = zcf Tryz.prog r Q h := by kernel_rfl
theorem znt {r : Option Addr} {Q : (S_api_Config → (Hp → Prop))} {h : Hp} (hv : zcf Tryz.prog r Q h) : CallT Tryz.prog zdv [(shPtr).enc r] (sh_api_Config) Q h :=
 show CallT Tryz.prog zdv [(shPtr).enc r] (shRes tb [26]) (Q) h from zaa (C := ⟨Tryz.prog, tb, zhz⟩) tb_ok Tryz.func105 rfl (Eq.mpr (zpg r Q h) hv)
theorem zts (s : Sl) (f : FnV) (Q : (Int → (Hp → Prop))) (h : Hp) : funW ⟨Tryz.prog, tb, zky⟩ Tryz.f106 ztw [(shSl).enc s, (shFn).enc f] (Q) h = zdd Tryz.prog s f Q h := by kernel_rfl
theorem ziv {s : Sl} {f : FnV} {Q : (Int → (Hp → Prop))} {h : Hp} (hv : zdd Tryz.prog s f Q h) : CallT Tryz.prog zdb [(shSl).enc s, (shFn).enc f] (shInt .i64) Q h :=
 show CallT Tryz.prog zdb [(shSl).enc s, (shFn).enc f] (shRes tb [3]) (Q) h from zaa (C := ⟨Tryz.prog, tb, zky⟩) tb_ok Tryz.func106 rfl (Eq.mpr (zts s f Q h) hv)
theorem zmu1 (p : Int) (a1 : Addr) (Q : (Bool → (Hp → Prop))) (h : Hp) : funW ⟨Tryz.prog, tb, zgv1⟩ Tryz.f107 zou1 [(shInt .i64).enc p, .pointer (some a1)] (Q) h = zxx Tryz.prog p a1 Q h := by kernel_rfl
theorem zju1 {p : Int} {a1 : Addr} {Q : (Bool → (Hp → Prop))} {h : Hp} (hv : zxx Tryz.prog p a1 Q h) : CallT Tryz.prog zro [(shInt .i64).enc p, .pointer (some a1)] (zaf) Q h :=
 show CallT Tryz.prog zro [(shInt .i64).enc p, .pointer (some a1)] (shRes tb [4]) (Q) h from zaa (C := ⟨Tryz.prog, tb, zgv1⟩) tb_ok Tryz.func107 rfl (Eq.mpr (zmu1 p a1 Q h) hv)
theorem zzc (s : Sl) (Q : (Sl → (Hp → Prop))) (h : Hp) : funW ⟨Tryz.prog, tb, zoo⟩ Tryz.f108 zag1 [(shSl).enc s] (Q) h = zft Tryz.prog s Q h := by kernel_rfl
theorem zwc {s : Sl} {Q : (Sl → (Hp → Prop))} {h : Hp} (hv : zft Tryz.prog s Q h) : CallT Tryz.prog zjb [(shSl).enc s] (shSl) Q h :=
 show CallT Tryz.prog zjb [(shSl).enc s] (shRes tb [23]) (Q) h from zaa (C := ⟨Tryz.prog, tb, zoo⟩) tb_ok Tryz.func108 rfl (Eq.mpr (zzc s Q h) hv)
theorem zpn1 (x : S_api_Ins) (n : Int) (locks : Int) (Q : (Int → (Hp → Prop))) (h : Hp) : funW ⟨Tryz.prog, tb, ziz1⟩ Tryz.f109 zqp1 [(sh_api_Ins).enc x, (shInt .i64).enc n, (shInt .i64).enc locks] (Q) h = zum Tryz.prog x n locks Q h := by kernel_rfl
theorem zcf1 {x : S_api_Ins} {n : Int} {locks : Int} {Q : (Int → (Hp → Prop))} {h : Hp} (hv : zum Tryz.prog x n locks Q h) : CallT Tryz.prog zuk [(sh_api_Ins).enc x, (shInt .i64).enc n, (shInt .i64).enc locks] (shInt .i64) Q h :=
 show CallT Tryz.prog zuk [(sh_api_Ins).enc x, (shInt .i64).enc n, (shInt .i64).enc locks] (shRes tb [34]) (Q) h from zaa (C := ⟨Tryz.prog, tb, ziz1⟩) tb_ok Tryz.func109 rfl (Eq.mpr (zpn1 x n locks Q h) hv)
theorem zip1 (t : Option Addr) (i : Int) (Q : (Bool → (Hp → Prop))) (h : Hp) : funW ⟨Tryz.prog, tb, zzx⟩ Tryz.f110 zjn1 [(shPtr).enc t, (shInt .i64).enc i] (Q) h = zmd Tryz.prog t i Q h := by kernel_rfl
theorem ztt {t : Option Addr} {i : Int} {Q : (Bool → (Hp → Prop))} {h : Hp} (hv : zmd Tryz.prog t i Q h) : CallT Tryz.prog zmc [(shPtr).enc t, (shInt .i64).enc i] (zaf) Q h :=
 show CallT Tryz.prog zmc [(shPtr).enc t, (shInt .i64).enc i] (shRes tb [4]) (Q) h from zaa (C := ⟨Tryz.prog, tb, zzx⟩) tb_ok Tryz.func110 rfl (Eq.mpr (zip1 t i Q h) hv)
theorem zmv1 (a : Int) (b : Int) (Q : (Bool → (Hp → Prop))) (h : Hp) : funW ⟨Tryz.prog, tb, zgw1⟩ Tryz.f111 zov1 [(shInt .u64).enc a, (shInt .u64).enc b] (Q) h = zry Tryz.prog a b Q h := by kernel_rfl
theorem zjv1 {a : Int} {b : Int} {Q : (Bool → (Hp → Prop))} {h : Hp} (hv : zry Tryz.prog a b Q h) : CallT Tryz.prog zxr [(shInt .u64).enc a, (shInt .u64).enc b] (zaf) Q h :=
 show CallT Tryz.prog zxr [(shInt .u64).enc a, (shInt .u64).enc b] (shRes tb [4]) (Q) h from zaa (C := ⟨Tryz.prog, tb, zgw1⟩) tb_ok Tryz.func111 rfl (Eq.mpr (zmv1 a b Q h) hv)
theorem zzd (x : S_api_Ins) (n : Int) (locks : Int) (Q : (Int → (Hp → Prop))) (h : Hp) : funW ⟨Tryz.prog, tb, zop⟩ Tryz.f112 zah1 [(sh_api_Ins).enc x, (shInt .i64).enc n, (shInt .i64).enc locks] (Q) h = zfu Tryz.prog x n locks Q h := by kernel_rfl
theorem zlw {x : S_api_Ins} {n : Int} {locks : Int} {Q : (Int → (Hp → Prop))} {h : Hp} (hv : zfu Tryz.prog x n locks Q h) : CallT Tryz.prog zfj [(sh_api_Ins).enc x, (shInt .i64).enc n, (shInt .i64).enc locks] (shInt .i64) Q h :=
 show CallT Tryz.prog zfj [(sh_api_Ins).enc x, (shInt .i64).enc n, (shInt .i64).enc locks] (shRes tb [34]) (Q) h from zaa (C := ⟨Tryz.prog, tb, zop⟩) tb_ok Tryz.func112 rfl (Eq.mpr (zzd x n locks Q h) hv)
end Lf

set_option maxRecDepth 100000
namespace Lf
open Go Go.Proofs
theorem zph (m : Option Addr) (p : Int) (Q : (Bool → (Hp → Prop))) (h : Hp) : funW ⟨Tryz.prog, tb, zia⟩ Tryz.f113 zpx [(shPtr).enc m, (shInt .i64).enc p] (Q) h = zcg Tryz.prog m p Q h := by kernel_rfl
theorem znu {m : Option Addr} {p : Int} {Q : (Bool → (Hp → Prop))} {h : Hp} (hv : zcg Tryz.prog m p Q h) : CallT Tryz.prog zdw [(shPtr).enc m, (shInt .i64).enc p] (zaf) Q h :=
 show CallT Tryz.prog zdw [(shPtr).enc m, (shInt .i64).enc p] (shRes tb [4]) (Q) h from zaa (C := ⟨Tryz.prog, tb, zia⟩) tb_ok Tryz.func113 rfl (Eq.mpr (zph m p Q h) hv)
theorem zze (a : Int) (b : Int) (Q : (Bool → (Hp → Prop))) (h : Hp) : funW ⟨Tryz.prog, tb, zoq⟩ Tryz.f114 zai1 [(shInt .u64).enc a, (shInt .u64).enc b] (Q) h = zfv Tryz.prog a b Q h := by kernel_rfl
theorem zwd {a : Int} {b : Int} {Q : (Bool → (Hp → Prop))} {h : Hp} (hv : zfv Tryz.prog a b Q h) : CallT Tryz.prog zjc [(shInt .u64).enc a, (shInt .u64).enc b] (zaf) Q h :=
 show CallT Tryz.prog zjc [(shInt .u64).enc a, (shInt .u64).enc b] (shRes tb [4]) (Q) h from zaa (C := ⟨Tryz.prog, tb, zoq⟩) tb_ok Tryz.func114 rfl (Eq.mpr (zze a b Q h) hv)
theorem zft1 (r : Option Addr) (e : Int) (place : Int) (Q : (Hp → Prop)) (h : Hp) : funW ⟨Tryz.prog, tb, zuz⟩ Tryz.f115 zgx1 [(shPtr).enc r, (shInt .i64).enc e, (shInt .i64).enc place] (fun _ => Q) h = zjs Tryz.prog r e place Q h := by kernel_rfl
theorem zby {r : Option Addr} {e : Int} {place : Int} {Q : (Hp → Prop)} {h : Hp} (hv : zjs Tryz.prog r e place Q h) : Call0 Tryz.prog zbs [(shPtr).enc r, (shInt .i64).enc e, (shInt .i64).enc place] (Q) h :=
 show CallT Tryz.prog zbs [(shPtr).enc r, (shInt .i64).enc e, (shInt .i64).enc place] (shRes tb []) (fun _ => Q) h from zaa (C := ⟨Tryz.prog, tb, zuz⟩) tb_ok Tryz.func115 rfl (Eq.mpr (zft1 r e place Q h) hv)
theorem zcg1 (r : Option Addr) (Q : (Hp → Prop)) (h : Hp) : funW ⟨Tryz.prog, tb, zrd⟩ Tryz.f116 zdu1 [(shPtr).enc r] (fun _ => Q) h = zhg Tryz.prog r Q h := by kernel_rfl
theorem zzf {r : Option Addr} {Q : (Hp → Prop)} {h : Hp} (hv : zhg Tryz.prog r Q h) : Call0 Tryz.prog zlj [(shPtr).enc r] (Q) h :=
 show CallT Tryz.prog zlj [(shPtr).enc r] (shRes tb []) (fun _ => Q) h from zaa (C := ⟨Tryz.prog, tb, zrd⟩) tb_ok Tryz.func116 rfl (Eq.mpr (zcg1 r Q h) hv)
theorem zhn1 (r : Option Addr) (Q : (Bool → (Hp → Prop))) (h : Hp) : funW ⟨Tryz.prog, tb, zwo⟩ Tryz.f117 zij1 [(shPtr).enc r] (Q) h = zhp Tryz.prog r Q h := by kernel_rfl
theorem zax {r : Option Addr} {Q : (Bool → (Hp → Prop))} {h : Hp} (hv : zhp Tryz.prog r Q h) : CallT Tryz.prog zba [(shPtr).enc r] (zaf) Q h :=
 show CallT Tryz.prog zba [(shPtr).enc r] (shRes tb [4]) (Q) h from zaa (C := ⟨Tryz.prog, tb, zwo⟩) tb_ok Tryz.func117 rfl (Eq.mpr (zhn1 r Q h) hv)
theorem zch1 (r : Option Addr) (c : Option Addr) (Q : (Hp → Prop)) (h : Hp) : funW ⟨Tryz.prog, tb, zre⟩ Tryz.f118 zdv1 [(shPtr).enc r, (shPtr).enc c] (fun _ => Q) h = zhh Tryz.prog r c Q h := by kernel_rfl
theorem zzg {r : Option Addr} {c : Option Addr} {Q : (Hp → Prop)} {h : Hp} (hv : zhh Tryz.prog r c Q h) : Call0 Tryz.prog zlk [(shPtr).enc r, (shPtr).enc c] (Q) h :=
 show CallT Tryz.prog zlk [(shPtr).enc r, (shPtr).enc c] (shRes tb []) (fun _ => Q) h from zaa (C := ⟨Tryz.prog, tb, zre⟩) tb_ok Tryz.func118 rfl (Eq.mpr (zch1 r c Q h) hv)
theorem zeg1 (r : Option Addr) (c : Option Addr) (Q : (Hp → Prop)) (h : Hp) : funW ⟨Tryz.prog, tb, ztl⟩ Tryz.f119 zez1 [(shPtr).enc r, (shPtr).enc c] (fun _ => Q) h = zin Tryz.prog r c Q h := by kernel_rfl
theorem zaw1 {r : Option Addr} {c : Option Addr} {Q : (Hp → Prop)} {h : Hp} (hv : zin Tryz.prog r c Q h) : Call0 Tryz.prog zmi [(shPtr).enc r, (shPtr).enc c] (Q) h :=
 show CallT Tryz.prog zmi [(shPtr).enc r, (shPtr).enc c] (shRes tb []) (fun _ => Q) h from zaa (C := ⟨Tryz.prog, tb, ztl⟩) tb_ok Tryz.func119 rfl (Eq.mpr (zeg1 r c Q h) hv)
theorem zci1 (r : Option Addr) (part : Int) (bytes : Int) (Q : (Int → (Hp → Prop))) (h : Hp) : funW ⟨Tryz.prog, tb, zrf⟩ Tryz.f120 zdw1 [(shPtr).enc r, (shInt .i64).enc part, (shInt .i64).enc bytes] (Q) h = zhi Tryz.prog r part bytes Q h := by kernel_rfl
theorem zzh {r : Option Addr} {part : Int} {bytes : Int} {Q : (Int → (Hp → Prop))} {h : Hp} (hv : zhi Tryz.prog r part bytes Q h) : CallT Tryz.prog zcc [(shPtr).enc r, (shInt .i64).enc part, (shInt .i64).enc bytes] (shInt .i64) Q h :=
 show CallT Tryz.prog zcc [(shPtr).enc r, (shInt .i64).enc part, (shInt .i64).enc bytes] (shRes tb [3]) (Q) h from zaa (C := ⟨Tryz.prog, tb, zrf⟩) tb_ok Tryz.func120 rfl (Eq.mpr (zci1 r part bytes Q h) hv)
theorem zax1 (r : Option Addr) (most : Int) (Q : (Int → (Hp → Prop))) (h : Hp) : funW ⟨Tryz.prog, tb, zpy⟩ Tryz.f121 zbj1 [(shPtr).enc r, (shInt .i64).enc most] (Q) h = zgk Tryz.prog r most Q h := by kernel_rfl
theorem zhu {r : Option Addr} {most : Int} {Q : (Int → (Hp → Prop))} {h : Hp} (hv : zgk Tryz.prog r most Q h) : CallT Tryz.prog zdx [(shPtr).enc r, (shInt .i64).enc most] (shInt .i64) Q h :=
 show CallT Tryz.prog zdx [(shPtr).enc r, (shInt .i64).enc most] (shRes tb [3]) (Q) h from zaa (C := ⟨Tryz.prog, tb, zpy⟩) tb_ok Tryz.func121 rfl (Eq.mpr (zax1 r most Q h) hv)
theorem zfu1 (r : Option Addr) (c : Option Addr) (Q : (Hp → Prop)) (h : Hp) : funW ⟨Tryz.prog, tb, zva⟩ Tryz.f122 zgy1 [(shPtr).enc r, (shPtr).enc c] (fun _ => Q) h = zjt Tryz.prog r c Q h := by kernel_rfl
theorem zcj1 {r : Option Addr} {c : Option Addr} {Q : (Hp → Prop)} {h : Hp} (hv : zjt Tryz.prog r c Q h) : Call0 Tryz.prog zna [(shPtr).enc r, (shPtr).enc c] (Q) h :=
 show CallT Tryz.prog zna [(shPtr).enc r, (shPtr).enc c] (shRes tb []) (fun _ => Q) h from zaa (C := ⟨Tryz.prog, tb, zva⟩) tb_ok Tryz.func122 rfl (Eq.mpr (zfu1 r c Q h) hv)
theorem zqp (r : Option Addr) (many : Int) (locks : Int) (Q : (Sl → (Hp → Prop))) (h : Hp) : funW ⟨Tryz.prog, tb, zjz⟩ Tryz.f123 zsi [(shPtr).enc r, (shInt .i64).enc many, (shInt .i64).enc locks] (Q) h = zct Tryz.prog r many locks Q h := by kernel_rfl
theorem zpi {r : Option Addr} {many : Int} {locks : Int} {Q : (Sl → (Hp → Prop))} {h : Hp} (hv : zct Tryz.prog r many locks Q h) : CallT Tryz.prog zeo [(shPtr).enc r, (shInt .i64).enc many, (shInt .i64).enc locks] (shSl) Q h :=
 show CallT Tryz.prog zeo [(shPtr).enc r, (shInt .i64).enc many, (shInt .i64).enc locks] (shRes tb [47]) (Q) h from zaa (C := ⟨Tryz.prog, tb, zjz⟩) tb_ok Tryz.func123 rfl (Eq.mpr (zqp r many locks Q h) hv)
theorem zpo1 (x : S_api_Ins) (n : Int) (locks : Int) (Q : (Int → (Int → (Hp → Prop)))) (h : Hp) : funW ⟨Tryz.prog, tb, zja1⟩ Tryz.f124 zqq1 [(sh_api_Ins).enc x, (shInt .i64).enc n, (shInt .i64).enc locks] (fun r => Q r.1 r.2) h = zun Tryz.prog x n locks Q h := by kernel_rfl
theorem zli1 {x : S_api_Ins} {n : Int} {locks : Int} {Q : (Int → (Int → (Hp → Prop)))} {h : Hp} (hv : zun Tryz.prog x n locks Q h) : Call2 Tryz.prog zba1 [(sh_api_Ins).enc x, (shInt .i64).enc n, (shInt .i64).enc locks] (shInt .i64) (shInt .i64) Q h :=
 show CallT Tryz.prog zba1 [(sh_api_Ins).enc x, (shInt .i64).enc n, (shInt .i64).enc locks] (shRes tb [34, 3]) (fun r => Q r.1 r.2) h from zaa (C := ⟨Tryz.prog, tb, zja1⟩) tb_ok Tryz.func124 rfl (Eq.mpr (zpo1 x n locks Q h) hv)
theorem zzi (x : S_api_Ins) (n : Int) (locks : Int) (Q : (Int → (Int → (Hp → Prop)))) (h : Hp) : funW ⟨Tryz.prog, tb, zor⟩ Tryz.f125 zaj1 [(sh_api_Ins).enc x, (shInt .i64).enc n, (shInt .i64).enc locks] (fun r => Q r.1 r.2) h = zfw Tryz.prog x n locks Q h := by kernel_rfl
theorem zlx {x : S_api_Ins} {n : Int} {locks : Int} {Q : (Int → (Int → (Hp → Prop)))} {h : Hp} (hv : zfw Tryz.prog x n locks Q h) : Call2 Tryz.prog zfk [(sh_api_Ins).enc x, (shInt .i64).enc n, (shInt .i64).enc locks] (shInt .i64) (shInt .i64) Q h :=
 show CallT Tryz.prog zfk [(sh_api_Ins).enc x, (shInt .i64).enc n, (shInt .i64).enc locks] (shRes tb [34, 3]) (fun r => Q r.1 r.2) h from zaa (C := ⟨Tryz.prog, tb, zor⟩) tb_ok Tryz.func125 rfl (Eq.mpr (zzi x n locks Q h) hv)
theorem zck1 (a : Int) (n : Int) (Q : (Bool → (Hp → Prop))) (h : Hp) : funW ⟨Tryz.prog, tb, zrg⟩ Tryz.f126 zdx1 [(shInt .u64).enc a, (shInt .i64).enc n] (Q) h = zhj Tryz.prog a n Q h := by kernel_rfl
theorem znv {a : Int} {n : Int} {Q : (Bool → (Hp → Prop))} {h : Hp} (hv : zhj Tryz.prog a n Q h) : CallT Tryz.prog zgw [(shInt .u64).enc a, (shInt .i64).enc n] (zaf) Q h :=
 show CallT Tryz.prog zgw [(shInt .u64).enc a, (shInt .i64).enc n] (shRes tb [4]) (Q) h from zaa (C := ⟨Tryz.prog, tb, zrg⟩) tb_ok Tryz.func126 rfl (Eq.mpr (zck1 a n Q h) hv)
theorem zcl1 (r : Option Addr) (many : Int) (wrong : FnV) (Q : (Int → (Hp → Prop))) (h : Hp) : funW ⟨Tryz.prog, tb, zrh⟩ Tryz.f127 zdy1 [(shPtr).enc r, (shInt .i64).enc many, (shFn).enc wrong] (Q) h = zhk Tryz.prog r many wrong Q h := by kernel_rfl
theorem zfa {r : Option Addr} {many : Int} {wrong : FnV} {Q : (Int → (Hp → Prop))} {h : Hp} (hv : zhk Tryz.prog r many wrong Q h) : CallT Tryz.prog zaz [(shPtr).enc r, (shInt .i64).enc many, (shFn).enc wrong] (shInt .u64) Q h :=
 show CallT Tryz.prog zaz [(shPtr).enc r, (shInt .i64).enc many, (shFn).enc wrong] (shRes tb [80]) (Q) h from zaa (C := ⟨Tryz.prog, tb, zrh⟩) tb_ok Tryz.func127 rfl (Eq.mpr (zcl1 r many wrong Q h) hv)
theorem zzj (n : Int) (a1 : Addr) (Q : (Int → (Hp → Prop))) (h : Hp) : funW ⟨Tryz.prog, tb, zos⟩ Tryz.f128 zak1 [(shInt .u64).enc n, .pointer (some a1)] (Q) h = zfx Tryz.prog n a1 Q h := by kernel_rfl
theorem zwe {n : Int} {a1 : Addr} {Q : (Int → (Hp → Prop))} {h : Hp} (hv : zfx Tryz.prog n a1 Q h) : CallT Tryz.prog zfl [(shInt .u64).enc n, .pointer (some a1)] (shInt .i64) Q h :=
 show CallT Tryz.prog zfl [(shInt .u64).enc n, .pointer (some a1)] (shRes tb [34]) (Q) h from zaa (C := ⟨Tryz.prog, tb, zos⟩) tb_ok Tryz.func128 rfl (Eq.mpr (zzj n a1 Q h) hv)
theorem zzk (a : Int) (a1 : Addr) (Q : (Int → (Hp → Prop))) (h : Hp) : funW ⟨Tryz.prog, tb, zot⟩ Tryz.f129 zal1 [(shInt .u64).enc a, .pointer (some a1)] (Q) h = zfy Tryz.prog a a1 Q h := by kernel_rfl
theorem zwf {a : Int} {a1 : Addr} {Q : (Int → (Hp → Prop))} {h : Hp} (hv : zfy Tryz.prog a a1 Q h) : CallT Tryz.prog zfm [(shInt .u64).enc a, .pointer (some a1)] (shInt .i64) Q h :=
 show CallT Tryz.prog zfm [(shInt .u64).enc a, .pointer (some a1)] (shRes tb [34]) (Q) h from zaa (C := ⟨Tryz.prog, tb, zot⟩) tb_ok Tryz.func129 rfl (Eq.mpr (zzk a a1 Q h) hv)
theorem zxf (r : Option Addr) (c : Option Addr) (Q : (Int → (Hp → Prop))) (h : Hp) : funW ⟨Tryz.prog, tb, znk⟩ Tryz.f130 zye [(shPtr).enc r, (shPtr).enc c] (Q) h = zex Tryz.prog r c Q h := by kernel_rfl
theorem zla {r : Option Addr} {c : Option Addr} {Q : (Int → (Hp → Prop))} {h : Hp} (hv : zex Tryz.prog r c Q h) : CallT Tryz.prog zep [(shPtr).enc r, (shPtr).enc c] (shInt .i64) Q h :=
 show CallT Tryz.prog zep [(shPtr).enc r, (shPtr).enc c] (shRes tb [3]) (Q) h from zaa (C := ⟨Tryz.prog, tb, znk⟩) tb_ok Tryz.func130 rfl (Eq.mpr (zxf r c Q h) hv)
theorem zho1 (r : Option Addr) (many : Int) (wrong : FnV) (Q : (Int → (Hp → Prop))) (h : Hp) : funW ⟨Tryz.prog, tb, zwp⟩ Tryz.f131 zik1 [(shPtr).enc r, (shInt .i64).enc many, (shFn).enc wrong] (Q) h = zkr Tryz.prog r many wrong Q h := by kernel_rfl
theorem zhn {r : Option Addr} {many : Int} {wrong : FnV} {Q : (Int → (Hp → Prop))} {h : Hp} (hv : zkr Tryz.prog r many wrong Q h) : CallT Tryz.prog zfd [(shPtr).enc r, (shInt .i64).enc many, (shFn).enc wrong] (shInt .i64) Q h :=
 show CallT Tryz.prog zfd [(shPtr).enc r, (shInt .i64).enc many, (shFn).enc wrong] (shRes tb [3]) (Q) h from zaa (C := ⟨Tryz.prog, tb, zwp⟩) tb_ok Tryz.func131 rfl (Eq.mpr (zho1 r many wrong Q h) hv)
theorem zzl (n : Int) (a1 : Addr) (Q : (Int → (Hp → Prop))) (h : Hp) : funW ⟨Tryz.prog, tb, zou⟩ Tryz.f132 zam1 [(shInt .i64).enc n, .pointer (some a1)] (Q) h = zjd Tryz.prog n a1 Q h := by kernel_rfl
theorem zwg {n : Int} {a1 : Addr} {Q : (Int → (Hp → Prop))} {h : Hp} (hv : zjd Tryz.prog n a1 Q h) : CallT Tryz.prog zfn [(shInt .i64).enc n, .pointer (some a1)] (shInt .i64) Q h :=
 show CallT Tryz.prog zfn [(shInt .i64).enc n, .pointer (some a1)] (shRes tb [34]) (Q) h from zaa (C := ⟨Tryz.prog, tb, zou⟩) tb_ok Tryz.func132 rfl (Eq.mpr (zzl n a1 Q h) hv)
theorem zxg (n : Int) (a1 : Addr) (Q : (Int → (Hp → Prop))) (h : Hp) : funW ⟨Tryz.prog, tb, znl⟩ Tryz.f133 zyf [(shInt .i64).enc n, .pointer (some a1)] (Q) h = zio Tryz.prog n a1 Q h := by kernel_rfl
theorem zug {n : Int} {a1 : Addr} {Q : (Int → (Hp → Prop))} {h : Hp} (hv : zio Tryz.prog n a1 Q h) : CallT Tryz.prog zeq [(shInt .i64).enc n, .pointer (some a1)] (shInt .i64) Q h :=
 show CallT Tryz.prog zeq [(shInt .i64).enc n, .pointer (some a1)] (shRes tb [34]) (Q) h from zaa (C := ⟨Tryz.prog, tb, znl⟩) tb_ok Tryz.func133 rfl (Eq.mpr (zxg n a1 Q h) hv)
theorem zcm1 (n : Int) (Q : (Int → (Hp → Prop))) (h : Hp) : funW ⟨Tryz.prog, tb, zri⟩ Tryz.f134 zdz1 [(shInt .i64).enc n] (Q) h = zhl Tryz.prog n Q h := by kernel_rfl
theorem zzm {n : Int} {Q : (Int → (Hp → Prop))} {h : Hp} (hv : zhl Tryz.prog n Q h) : CallT Tryz.prog zgx [(shInt .i64).enc n] (shInt .i64) Q h :=
 show CallT Tryz.prog zgx [(shInt .i64).enc n] (shRes tb [34]) (Q) h from zaa (C := ⟨Tryz.prog, tb, zri⟩) tb_ok Tryz.func134 rfl (Eq.mpr (zcm1 n Q h) hv)
end Lf

set_option maxRecDepth 100000
namespace Lf
open Go Go.Proofs
theorem zhp1 (r : Option Addr) (n : Int) (locks : Int) (Q : (S_api_Ins → (Hp → Prop))) (h : Hp) : funW ⟨Tryz.prog, tb, zwq⟩ Tryz.f135 zil1 [(shPtr).enc r, (shInt .i64).enc n, (shInt .i64).enc locks] (Q) h = zks Tryz.prog r n locks Q h := by kernel_rfl
theorem zeh1 {r : Option Addr} {n : Int} {locks : Int} {Q : (S_api_Ins → (Hp → Prop))} {h : Hp} (hv : zks Tryz.prog r n locks Q h) : CallT Tryz.prog zow [(shPtr).enc r, (shInt .i64).enc n, (shInt .i64).enc locks] (sh_api_Ins) Q h :=
 show CallT Tryz.prog zow [(shPtr).enc r, (shInt .i64).enc n, (shInt .i64).enc locks] (shRes tb [51]) (Q) h from zaa (C := ⟨Tryz.prog, tb, zwq⟩) tb_ok Tryz.func135 rfl (Eq.mpr (zhp1 r n locks Q h) hv)
theorem zcn1 (b : Sl) (Q : (S_api_Ins → (Hp → Prop))) (h : Hp) : funW ⟨Tryz.prog, tb, zrj⟩ Tryz.f136 zea1 [(shSl).enc b] (Q) h = zhm Tryz.prog b Q h := by kernel_rfl
theorem zzn {b : Sl} {Q : (S_api_Ins → (Hp → Prop))} {h : Hp} (hv : zhm Tryz.prog b Q h) : CallT Tryz.prog zll [(shSl).enc b] (sh_api_Ins) Q h :=
 show CallT Tryz.prog zll [(shSl).enc b] (shRes tb [51]) (Q) h from zaa (C := ⟨Tryz.prog, tb, zrj⟩) tb_ok Tryz.func136 rfl (Eq.mpr (zcn1 b Q h) hv)
theorem zmw1 (op : Int) (Q : (Bool → (Bool → (Bool → (Bool → (Hp → Prop)))))) (h : Hp) : funW ⟨Tryz.prog, tb, zgz1⟩ Tryz.f137 zow1 [(shInt .i64).enc op] (fun r => Q r.1 r.2.1 r.2.2.1 r.2.2.2) h = zrz Tryz.prog op Q h := by kernel_rfl
theorem zaa1 {op : Int} {Q : (Bool → (Bool → (Bool → (Bool → (Hp → Prop)))))} {h : Hp} (hv : zrz Tryz.prog op Q h) : Call4 Tryz.prog zrp [(shInt .i64).enc op] (zaf) (zaf) (zaf) (zaf) Q h :=
 show CallT Tryz.prog zrp [(shInt .i64).enc op] (shRes tb [4, 4, 4, 4]) (fun r => Q r.1 r.2.1 r.2.2.1 r.2.2.2) h from zaa (C := ⟨Tryz.prog, tb, zgz1⟩) tb_ok Tryz.func137 rfl (Eq.mpr (zmw1 op Q h) hv)
theorem zjw1 (has : Bool) (n : Int) (Q : (Int → (Hp → Prop))) (h : Hp) : funW ⟨Tryz.prog, tb, zbk1⟩ Tryz.f138 zkq1 [(zaf).enc has, (shInt .i64).enc n] (Q) h = znd Tryz.prog has n Q h := by kernel_rfl
theorem znw {has : Bool} {n : Int} {Q : (Int → (Hp → Prop))} {h : Hp} (hv : znd Tryz.prog has n Q h) : CallT Tryz.prog zkh [(zaf).enc has, (shInt .i64).enc n] (shInt .i64) Q h :=
 show CallT Tryz.prog zkh [(zaf).enc has, (shInt .i64).enc n] (shRes tb [34]) (Q) h from zaa (C := ⟨Tryz.prog, tb, zbk1⟩) tb_ok Tryz.func138 rfl (Eq.mpr (zjw1 has n Q h) hv)
theorem zmx1 (x : S_api_Ins) (has : Bool) (n : Int) (locks : Int) (Q : (Int → (Hp → Prop))) (h : Hp) : funW ⟨Tryz.prog, tb, zha1⟩ Tryz.f139 zox1 [(sh_api_Ins).enc x, (zaf).enc has, (shInt .i64).enc n, (shInt .i64).enc locks] (Q) h = zsa Tryz.prog x has n locks Q h := by kernel_rfl
theorem zjx1 {x : S_api_Ins} {has : Bool} {n : Int} {locks : Int} {Q : (Int → (Hp → Prop))} {h : Hp} (hv : zsa Tryz.prog x has n locks Q h) : CallT Tryz.prog zxs [(sh_api_Ins).enc x, (zaf).enc has, (shInt .i64).enc n, (shInt .i64).enc locks] (shInt .i64) Q h :=
 show CallT Tryz.prog zxs [(sh_api_Ins).enc x, (zaf).enc has, (shInt .i64).enc n, (shInt .i64).enc locks] (shRes tb [34]) (Q) h from zaa (C := ⟨Tryz.prog, tb, zha1⟩) tb_ok Tryz.func139 rfl (Eq.mpr (zmx1 x has n locks Q h) hv)
theorem zxh (op : Int) (Q : (Bool → (Bool → (Bool → (Bool → (Hp → Prop)))))) (h : Hp) : funW ⟨Tryz.prog, tb, znm⟩ Tryz.f140 zyg [(shInt .i64).enc op] (fun r => Q r.1 r.2.1 r.2.2.1 r.2.2.2) h = zey Tryz.prog op Q h := by kernel_rfl
theorem zuh {op : Int} {Q : (Bool → (Bool → (Bool → (Bool → (Hp → Prop)))))} {h : Hp} (hv : zey Tryz.prog op Q h) : Call4 Tryz.prog zig [(shInt .i64).enc op] (zaf) (zaf) (zaf) (zaf) Q h :=
 show CallT Tryz.prog zig [(shInt .i64).enc op] (shRes tb [4, 4, 4, 4]) (fun r => Q r.1 r.2.1 r.2.2.1 r.2.2.2) h from zaa (C := ⟨Tryz.prog, tb, znm⟩) tb_ok Tryz.func140 rfl (Eq.mpr (zxh op Q h) hv)
theorem zui (n : Int) (has : Bool) (Q : (Int → (Hp → Prop))) (h : Hp) : funW ⟨Tryz.prog, tb, zlt⟩ Tryz.f141 zvt [(shInt .i64).enc n, (zaf).enc has] (Q) h = zdp Tryz.prog n has Q h := by kernel_rfl
theorem zfb {n : Int} {has : Bool} {Q : (Int → (Hp → Prop))} {h : Hp} (hv : zdp Tryz.prog n has Q h) : CallT Tryz.prog zcj [(shInt .i64).enc n, (zaf).enc has] (shInt .i64) Q h :=
 show CallT Tryz.prog zcj [(shInt .i64).enc n, (zaf).enc has] (shRes tb [34]) (Q) h from zaa (C := ⟨Tryz.prog, tb, zlt⟩) tb_ok Tryz.func141 rfl (Eq.mpr (zui n has Q h) hv)
theorem zuj (n : Int) (a1 : Addr) (Q : (Int → (Hp → Prop))) (h : Hp) : funW ⟨Tryz.prog, tb, zlu⟩ Tryz.f142 zvu [(shInt .i64).enc n, .pointer (some a1)] (Q) h = zgu Tryz.prog n a1 Q h := by kernel_rfl
theorem zsu {n : Int} {a1 : Addr} {Q : (Int → (Hp → Prop))} {h : Hp} (hv : zgu Tryz.prog n a1 Q h) : CallT Tryz.prog zdi [(shInt .i64).enc n, .pointer (some a1)] (shInt .i64) Q h :=
 show CallT Tryz.prog zdi [(shInt .i64).enc n, .pointer (some a1)] (shRes tb [34]) (Q) h from zaa (C := ⟨Tryz.prog, tb, zlu⟩) tb_ok Tryz.func142 rfl (Eq.mpr (zuj n a1 Q h) hv)
theorem zei1 (n : Int) (a1 : Addr) (Q : (Int → (Hp → Prop))) (h : Hp) : funW ⟨Tryz.prog, tb, ztm⟩ Tryz.f143 zfa1 [(shInt .u64).enc n, .pointer (some a1)] (Q) h = zmj Tryz.prog n a1 Q h := by kernel_rfl
theorem zay1 {n : Int} {a1 : Addr} {Q : (Int → (Hp → Prop))} {h : Hp} (hv : zmj Tryz.prog n a1 Q h) : CallT Tryz.prog zih [(shInt .u64).enc n, .pointer (some a1)] (shInt .i64) Q h :=
 show CallT Tryz.prog zih [(shInt .u64).enc n, .pointer (some a1)] (shRes tb [34]) (Q) h from zaa (C := ⟨Tryz.prog, tb, ztm⟩) tb_ok Tryz.func143 rfl (Eq.mpr (zei1 n a1 Q h) hv)
theorem zej1 (a0 : Int) (Q : (Int → (Hp → Prop))) (h : Hp) : funW ⟨Tryz.prog, tb, ztn⟩ Tryz.f144 zfb1 [(shInt .u64).enc a0] (Q) h = zmk Tryz.prog a0 Q h := by kernel_rfl
theorem zaz1 {a0 : Int} {Q : (Int → (Hp → Prop))} {h : Hp} (hv : zmk Tryz.prog a0 Q h) : CallT Tryz.prog zfh [(shInt .u64).enc a0] (shInt .i64) Q h :=
 show CallT Tryz.prog zfh [(shInt .u64).enc a0] (shRes tb [34]) (Q) h from zaa (C := ⟨Tryz.prog, tb, ztn⟩) tb_ok Tryz.func144 rfl (Eq.mpr (zej1 a0 Q h) hv)
theorem zmy1 (x : S_api_Ins) (e : Int) (Q : (Int → (Hp → Prop))) (h : Hp) : funW ⟨Tryz.prog, tb, zhb1⟩ Tryz.f145 zoy1 [(sh_api_Ins).enc x, (shInt .i64).enc e] (Q) h = zsb Tryz.prog x e Q h := by kernel_rfl
theorem zjy1 {x : S_api_Ins} {e : Int} {Q : (Int → (Hp → Prop))} {h : Hp} (hv : zsb Tryz.prog x e Q h) : CallT Tryz.prog zxt [(sh_api_Ins).enc x, (shInt .i64).enc e] (shInt .i64) Q h :=
 show CallT Tryz.prog zxt [(sh_api_Ins).enc x, (shInt .i64).enc e] (shRes tb [3]) (Q) h from zaa (C := ⟨Tryz.prog, tb, zhb1⟩) tb_ok Tryz.func145 rfl (Eq.mpr (zmy1 x e Q h) hv)
theorem zmz1 (op : Int) (Q : (ByteArray → (Hp → Prop))) (h : Hp) : funW ⟨Tryz.prog, tb, zhc1⟩ Tryz.f146 zoz1 [(shInt .i64).enc op] (Q) h = zsc Tryz.prog op Q h := by kernel_rfl
theorem zjz1 {op : Int} {Q : (ByteArray → (Hp → Prop))} {h : Hp} (hv : zsc Tryz.prog op Q h) : CallT Tryz.prog zxu [(shInt .i64).enc op] (shStr) Q h :=
 show CallT Tryz.prog zxu [(shInt .i64).enc op] (shRes tb [9]) (Q) h from zaa (C := ⟨Tryz.prog, tb, zhc1⟩) tb_ok Tryz.func146 rfl (Eq.mpr (zmz1 op Q h) hv)
theorem zka1 (field : ByteArray) (a1 : Addr) (Q : (Bool → (Hp → Prop))) (h : Hp) : funW ⟨Tryz.prog, tb, zbl1⟩ Tryz.f147 zkr1 [(shStr).enc field, .pointer (some a1)] (Q) h = ztb Tryz.prog field a1 Q h := by kernel_rfl
theorem zhq1 {field : ByteArray} {a1 : Addr} {Q : (Bool → (Hp → Prop))} {h : Hp} (hv : ztb Tryz.prog field a1 Q h) : CallT Tryz.prog zta [(shStr).enc field, .pointer (some a1)] (zaf) Q h :=
 show CallT Tryz.prog zta [(shStr).enc field, .pointer (some a1)] (shRes tb [4]) (Q) h from zaa (C := ⟨Tryz.prog, tb, zbl1⟩) tb_ok Tryz.func147 rfl (Eq.mpr (zka1 field a1 Q h) hv)
end Lf



namespace Lf
open Go
def Rw {α : Type} (h : Hp) (sz : Nat) (enc : α → List Value) (l : Sl) (xs : List α) : Prop :=
  l.len = xs.length ∧ zih1 h l.base (xs.length * sz) (xs.flatMap enc)
section
variable {α : Type} {h h' : Hp} {sz : Nat} {enc : α → List Value} {l : Sl} {xs : List α}
theorem zny1 (hl : h ≤ h') {a : Addr} {v : Value} (e : hcell h a = some v) : hcell h' a = some v := by
  unfold hcell at e ⊢
  split at e
  · rename_i c t f hb
    rw [hl _ _ hb]
    exact e
  · cases e
theorem zhv (hl : h ≤ h') {a : Addr} {cs : List Value} (e : LdIs h a cs) : LdIs h' a cs := fun i v hv => zny1 hl (e i v hv)
theorem Rw.mono (hl : h ≤ h') (r : Rw h sz enc l xs) : Rw h' sz enc l xs := by
  obtain ⟨h1, h2, h3⟩ := r
  refine ⟨h1, h2, h3.imp id ?_⟩
  rintro ⟨a, ha, hc⟩
  exact ⟨a, ha, zhv hl hc⟩
theorem zwi1 (henc : ∀ x, (enc x).length = sz) : ∀ (xs : List α) (i : Nat) (x : α), xs[i]? = some x → ∀ j v, (enc x)[j]? = some v → (xs.flatMap enc)[i * sz + j]? = some v
  | [], i, x, hx, _, _, _ => by simp at hx
  | y :: xs, 0, x, hx, j, v, hv => by
    simp at hx
    subst hx
    have hj : j < (enc y).length := (List.getElem?_eq_some_iff.1 hv).1
    simp only [List.flatMap_cons, Nat.zero_mul, Nat.zero_add]
    rw [List.getElem?_append_left hj]
    exact hv
  | y :: xs, i + 1, x, hx, j, v, hv => by
    have := zwi1 henc xs i x (by simpa using hx) j v hv
    simp only [List.flatMap_cons]
    have e : (i + 1) * sz + j = sz + (i * sz + j) := by rw [Nat.add_mul]; omega
    rw [List.getElem?_append_right (by rw [henc, e]; omega), henc, e, Nat.add_sub_cancel_left]
    exact this
theorem zai2 (henc : ∀ x, (enc x).length = sz) : ∀ (xs : List α) (i : Nat) (v : Value), (xs.flatMap enc)[i]? = some v → ∃ q x j, xs[q]? = some x ∧ (enc x)[j]? = some v ∧ i = q * sz + j
  | [], i, v, hv => by simp at hv
  | y :: xs, i, v, hv => by
    simp only [List.flatMap_cons] at hv
    by_cases hi : i < (enc y).length
    · rw [List.getElem?_append_left hi] at hv
      exact ⟨0, y, i, rfl, hv, by simp⟩
    · rw [List.getElem?_append_right (by omega)] at hv
      obtain ⟨q, x, j, h1, h2, h3⟩ := zai2 henc xs _ v hv
      rw [henc] at h3 hi
      exact ⟨q + 1, x, j, by simpa using h1, h2, by rw [Nat.add_mul]; omega⟩
theorem Rw.read (r : Rw h sz enc l xs) (henc : ∀ x, (enc x).length = sz) (hsz : 0 < sz) {i : Int} (h0 : 0 ≤ i) (h1 : i < (l.len : Int)) :
    InB l.base l.len i ∧ ∃ x, xs[i.toNat]? = some x ∧ LdIs h (sat l.base sz i) (enc x) := by
  obtain ⟨h2, h3, h4⟩ := r
  have hi : i.toNat < xs.length := by omega
  have hne : xs.length * sz ≠ 0 := by
    have : 0 < xs.length := by omega
    exact Nat.ne_of_gt (Nat.mul_pos this hsz)
  obtain ⟨a, ha, hc⟩ := h4.resolve_left hne
  refine ⟨⟨by simp [ha], h0, h1⟩, xs[i.toNat], by simp [hi], fun j v hv => ?_⟩
  have := hc (i.toNat * sz + j) v (zwi1 henc xs i.toNat _ (by simp [hi]) j v hv)
  unfold sat
  rw [ha, Option.getD_some, zbm1]
  exact this
def Own (h0 h : Hp) (sz : Nat) (enc : α → List Value) (l : Sl) (xs : List α) : Prop :=
  l.len = xs.length ∧ l.len ≤ l.cap ∧ ((l.base = none ∧ l.cap = 0) ∨
    ∃ (b : Nat) (cs : List Value) (t : Nat), l.base = some ⟨b, 0, none⟩ ∧ h b = some (.cells cs.toArray t (0, 0)) ∧ cs.length = l.cap * sz ∧ cs.take (l.len * sz) = xs.flatMap enc ∧ h0 b = none)
theorem zbp (henc : ∀ x, (enc x).length = sz) : ∀ xs : List α, (xs.flatMap enc).length = xs.length * sz
  | [] => by simp
  | x :: xs => by
    simp only [List.flatMap_cons, List.length_append, henc, zbp henc xs, List.length_cons, Nat.add_mul, Nat.one_mul]
    omega
theorem ztu1 (hok : ∀ x, zef (enc x) = true) : ∀ xs : List α, zef (xs.flatMap enc) = true := by
  have app : ∀ a b : List Value, zef a = true → zef b = true → zef (a ++ b) = true := by
    intro a b ha hb
    induction a with
    | nil => exact hb
    | cons v a ih => cases v <;> first | (exact ih ha) | (cases ha)
  intro xs
  induction xs with
  | nil => rfl
  | cons x xs ih => exact app _ _ (hok x) ih
theorem zqf {b : Nat} {cs : List Value} {t : Nat} (e : h b = some (.cells cs.toArray t (0, 0))) (i : Nat) : hcell h ⟨b, i, none⟩ = cs[i]? := by
  unfold hcell
  simp [e]
theorem Own.rw {h0 : Hp} (o : Own h0 h sz enc l xs) (henc : ∀ x, (enc x).length = sz) : Rw h sz enc l xs := by
  obtain ⟨h1, h2, h3⟩ := o
  refine ⟨h1, zbp henc xs, ?_⟩
  rcases h3 with ⟨e, ec⟩ | ⟨b, cs, t, e, hb, hl, ht, _⟩
  · left
    have : xs.length = 0 := by omega
    rw [this, Nat.zero_mul]
  · right
    refine ⟨_, e, fun j v hv => ?_⟩
    rw [zez, zqf hb, Nat.zero_add]
    rw [← ht, List.getElem?_take] at hv
    split at hv
    · exact hv
    · cases hv
theorem Own.mono {h0 : Hp} (hl : h ≤ h') (o : Own h0 h sz enc l xs) : Own h0 h' sz enc l xs := by
  obtain ⟨h1, h2, h3⟩ := o
  refine ⟨h1, h2, h3.imp id ?_⟩
  rintro ⟨b, cs, t, e1, e2, e3⟩
  exact ⟨b, cs, t, e1, hl _ _ e2, e3⟩
theorem zpp1 {h0 : Hp} {zero : List Value} {bytes : Nat} {x : Sl} {ys : List α} {K : Sl → Hp → Prop} (hw : h0 ≤ h) (o : Own h0 h sz enc l xs) (r : Rw h sz enc x ys) (henc : ∀ x, (enc x).length = sz) (hok : ∀ x, zef (enc x) = true)
    (hz : zero.length = sz) (hb : xs.length + ys.length ≤ 140737488355328 ∧ (xs.length + ys.length) * bytes ≤ 140737488355328)
    (hk : ∀ l' h', h0 ≤ h' → Own h0 h' sz enc l' (xs ++ ys) → (∀ b ob, h b = some ob → (∀ a, l.base = some a → a.block ≠ b) → h' b = some ob) → K l' h') : zas sz bytes zero l x K h := by
  have hrw := o.rw henc
  obtain ⟨h1, h2, h3⟩ := o
  obtain ⟨hx1, hx2⟩ := r
  refine ⟨ys.flatMap enc, by rw [hx1]; exact hx2, xs.flatMap enc, by rw [h1]; exact hrw.2, by rw [h1, hx1]; exact hb, ztu1 hok ys, fun hcap => ?_, fun hcap c b t hc hbn => ?_⟩
  · rcases h3 with ⟨e, ec⟩ | ⟨b, cs, t, e, hbk, hl, ht, hn⟩
    · -- nothing is put
      have e1 : ys.length = 0 := by omega
      have e2 : ys = [] := List.length_eq_zero_iff.1 e1
      subst e2
      refine ⟨fun a ha => (by rw [e] at ha; cases ha), ?_⟩
      have e3 : putO h l.base (l.len * sz) (([] : List α).flatMap enc) = h := by rw [e]; rfl
      rw [e3, hx1]
      refine hk _ h hw ⟨by simp [h1], by simpa using h2, .inl ⟨e, ec⟩⟩ fun _ _ e _ => e
    · have hle : l.len * sz + (ys.flatMap enc).length ≤ cs.length := by
        rw [hl, zbp henc, ← Nat.add_mul]
        exact Nat.mul_le_mul_right sz (by omega)
      obtain ⟨p1, p2⟩ := zhg1 b t (ys.flatMap enc) h 0 (l.len * sz) cs (by simpa using hle) hbk
      have hst : ∀ (k : Nat), l.len * sz + k ≤ cs.length → StOk h (⟨b, l.len * sz, none⟩ : Addr) k := by
        intro k
        induction k with
        | zero => intro _; trivial
        | succ k ih =>
          intro hk'
          refine ⟨ih (by omega), ⟨cs[l.len * sz + k]'(by omega), ?_⟩, ?_⟩
          · rw [zez, zqf hbk]
            simp
          · rw [zez]
            unfold hfroz
            simp [hbk]
      refine ⟨fun a ha => ?_, ?_⟩
      · rw [e] at ha; cases ha
        rw [zez, Nat.zero_add]
        refine hst _ ?_
        rw [hx1, ← zbp henc ys]
        exact hle
      · have e3 : putO h l.base (l.len * sz) (ys.flatMap enc) = putL h ⟨b, l.len * sz, none⟩ (ys.flatMap enc) 0 := by
          rw [e]
          simp only [putO, zez, Nat.zero_add]
        rw [e3]
        rw [Nat.add_zero] at p1
        refine hk _ _ (fun b' ob eb => ?_) ⟨by simp [h1, hx1], hcap, .inr ⟨b, _, t, e, p1, ?_, ?_, hn⟩⟩ fun b' ob eb hne => ?_
        · have hne : b' ≠ b := fun e' => by rw [e', hn] at eb; cases eb
          rw [p2 b' hne]
          exact hw _ _ eb
        · rw [ztd1 _ _ _ hle, hl]
        · rw [zyk _ _ _ hle]
          have e4 : (l.len + x.len) * sz = (cs.take (l.len * sz) ++ ys.flatMap enc).length := by
            rw [List.length_append, ht, zbp henc, zbp henc, h1, hx1, Nat.add_mul]
          rw [e4, List.take_left, ht, List.flatMap_append]
        · rw [p2 b' fun e' => hne _ e e'.symm]
          exact eb
  · have hh : ∀ b' ob, h b' = some ob → (h.set b (.cells (xs.flatMap enc ++ ys.flatMap enc ++ zbr zero (c - (l.len + x.len))).toArray t (0, 0))) b' = some ob := fun b' ob eb => by
      have hne : b' ≠ b := fun e' => by rw [e', hbn] at eb; cases eb
      simp [Hp.set, hne, eb]
    refine hk _ _ (fun b' ob eb => hh b' ob (hw _ _ eb)) ⟨by simp [h1, hx1], hc, .inr ⟨b, xs.flatMap enc ++ ys.flatMap enc ++ zbr zero (c - (l.len + x.len)), t, rfl, by simp [Hp.set], ?_, ?_, ?_⟩⟩ fun b' ob eb _ => hh b' ob eb
    · have hzl : ∀ k, (zbr zero k).length = k * sz := fun k => by simp [zbr, hz]
      rw [List.length_append, List.length_append, zbp henc, zbp henc, hzl, ← Nat.add_mul, ← Nat.add_mul]
      show _ = c * sz
      congr 1
      omega
    · have e4 : (l.len + x.len) * sz = (xs.flatMap enc ++ ys.flatMap enc).length := by
        rw [List.length_append, zbp henc, zbp henc, h1, hx1, Nat.add_mul]
      show List.take ((l.len + x.len) * sz) _ = _
      rw [e4, List.take_left, List.flatMap_append]
    · cases e0 : h0 b with
      | none => rfl
      | some ob => rw [hw _ _ e0] at hbn; cases hbn
end
abbrev Rs (h : Hp) (sh : Shape) (sz : Nat) (l : Sl) (xs : List sh.T) : Prop := Rw h sz (fun x => zae (sh.enc x)) l xs
section
variable {h h' : Hp} {sh : Shape} {sz : Nat} {l : Sl} {xs : List sh.T} {K : sh.T → Prop} {i : Int}
theorem Rs.get (r : Rs h sh sz l xs) (henc : ∀ x, (zae (sh.enc x)).length = sz) (hsz : 0 < sz) (h0 : 0 ≤ i) (h1 : i < (xs.length : Int)) (hk : ∀ x, xs[i.toNat]? = some x → K x) :
    InB l.base l.len i ∧ LdW none sh h (sat l.base sz i) K := by
  obtain ⟨e1, x, hx, hl⟩ := Rw.read r henc hsz h0 (by rw [r.1]; exact h1)
  exact ⟨e1, x, hl, hk x hx⟩
theorem Rs.getC {c : Bool} (r : Rs h sh sz l xs) (x0 : sh.T) (henc : ∀ x, (zae (sh.enc x)).length = sz) (hsz : 0 < sz) (h0 : c = true → 0 ≤ i ∧ i < (xs.length : Int)) (hk : ∀ x, (c = true → xs[i.toNat]? = some x) → K x) :
    (c = true → InB l.base l.len i) ∧ LdW (some c) sh h (sat l.base sz i) K := by
  cases c with
  | false => exact ⟨fun e => (by cases e), x0, fun e => (by cases e), hk x0 fun e => (by cases e)⟩
  | true =>
    obtain ⟨e1, x, hx, hl⟩ := Rw.read r henc hsz (h0 rfl).1 (by rw [r.1]; exact (h0 rfl).2)
    exact ⟨fun _ => e1, x, fun _ => hl, hk x fun _ => hx⟩
theorem ld_at {a : Addr} (x : sh.T) (hl : LdIs h a (zae (sh.enc x))) (hk : K x) : LdW none sh h a K := ⟨x, hl, hk⟩
theorem letW {α : Type} {x : α} {K : α → Prop} (hk : K x) : LetW x K := fun _ e => e ▸ hk
theorem zao {n : Int} (h0 : -9223372036854775808 ≤ n) (h1 : n < 9223372036854775808) : IntKind.wrap .i64 n = n := by
  unfold IntKind.wrap
  simp only [IntKind.signed, IntKind.bits]
  first | omega | (simp; omega)
end
theorem ziq1 {α : Type} {h0 h : Hp} {sz : Nat} {enc : α → List Value} {cs : List Value} {xs : List α} {K : Addr → Hp → Prop} (hw : h0 ≤ h) (hc : cs = xs.flatMap enc) (henc : ∀ x, (enc x).length = sz)
    (hk : ∀ a h', h ≤ h' → Own h0 h' sz enc ⟨some a, xs.length, xs.length⟩ xs → K a h') : NewW cs K h := by
  intro b t hb
  have hle : h ≤ h.set b (.cells cs.toArray t (0, 0)) := fun b' o e => by
    have hne : b' ≠ b := fun e' => by rw [e', hb] at e; cases e
    simp [Hp.set, hne, e]
  refine hk _ _ hle ⟨rfl, Nat.le_refl _, .inr ⟨b, cs, t, rfl, by simp [Hp.set], ?_, ?_, ?_⟩⟩
  · rw [hc, zbp henc]
  · have : (xs.length * sz) = (xs.flatMap enc).length := (zbp henc xs).symm
    show List.take (xs.length * sz) cs = _
    rw [this, hc, List.take_length]
  · cases e0 : h0 b with
    | none => rfl
    | some ob => rw [hw _ _ e0] at hb; cases hb
end Lf

namespace Lf
open Go
def CKeep (h h' : Hp) : Prop := ∀ a v, hcell h a = some v → hcell h' a = some v
theorem CKeep.of_le {h h' : Hp} (hl : h ≤ h') : CKeep h h' := fun _ _ e => zny1 hl e
theorem zaj2 {h h' : Hp} (hl : CKeep h h') {a : Addr} {cs : List Value} (e : LdIs h a cs) : LdIs h' a cs := fun i v hv => hl _ _ (e i v hv)
theorem Rw.ck {α : Type} {h h' : Hp} {sz : Nat} {enc : α → List Value} {l : Sl} {xs : List α} (hl : CKeep h h') (r : Rw h sz enc l xs) : Rw h' sz enc l xs := by
  obtain ⟨h1, h2, h3⟩ := r
  refine ⟨h1, h2, h3.imp id ?_⟩
  rintro ⟨a, ha, hc⟩
  exact ⟨a, ha, zaj2 hl hc⟩
theorem zge2 {h : Hp} {m : Nat} {o o' : Obj} (e : h m = some o) (hc : zep1 o = false) : CKeep h (h.set m o') := by
  intro a v hv
  obtain ⟨c, t, fr, hb, hsp, hg⟩ := zov hv
  have hne : a.block ≠ m := fun e' => by rw [e', e] at hb; cases hb; cases hc
  unfold hcell at hv ⊢
  have : (h.set m o') a.block = h a.block := by simp [Hp.set, hne]
  rw [this]
  exact hv
theorem zqq {h : Hp} {b : Nat} {o : Obj} (hn : h b = none) : h ≤ h.set b o := fun b' o' e => by
  have hne : b' ≠ b := fun e' => by rw [e', hn] at e; cases e
  simp [Hp.set, hne, e]
theorem zkt {h : Hp} {b : Nat} {o : Obj} : (h.set b o) b = some o := by simp [Hp.set]
theorem zdb2 {h h0 : Hp} {b : Nat} {o : Obj} (hl : h0 ≤ h) (hn : h0 b = none) : h0 ≤ h.set b o := fun b' o' e => by
  have hne : b' ≠ b := fun e' => by rw [e', hn] at e; cases e
  simp only [Hp.set, hne, if_false]
  exact hl _ _ e
theorem zbk {h0 h : Hp} {b : Nat} (hl : h0 ≤ h) (hn : h b = none) : h0 b = none := by
  cases e : h0 b with
  | none => rfl
  | some o => rw [hl _ _ e] at hn; cases hn
theorem zpq1 {h : Hp} {b t : Nat} {cs : List Value} : LdIs (h.set b (.cells cs.toArray t (0, 0))) ⟨b, 0, none⟩ cs := fun i v hv => by
  rw [zez, zqf zkt, Nat.zero_add]
  exact hv
theorem zad {p : Addr} {c : Option Bool} {K : Addr → Prop} (hk : K p) : NilW c (some p) K := by
  refine ⟨p, ?_, hk⟩
  cases c with
  | none => rfl
  | some b => exact fun _ => rfl
theorem zdc2 {P : Program} {t : Nat} {d : TypeDesc} (hu : P.underlying t = some d) {K : TypeDesc → Hp → Prop} {h : Hp} (hk : K d h) : semW P (underlying t) K h := by
  show semW P (match P.underlying t with
    | some d => Sem.pure d
    | none => _) K h
  rw [hu]
  exact hk
theorem zpr1 {P : Program} {s : Sem Value} {h : Hp} {v : Value} (hi : semW P s (fun u h' => u = v ∧ h' = h) h) : SemIs P s h v := by
  intro w hs
  obtain ⟨a, w', h', hr, ⟨ha, hh⟩, hst⟩ := zwj s hs hi
  subst ha; subst hh
  exact ⟨w', hr, hst⟩
theorem zjd1 {P : Program} {s : Sem Value} {h : Hp} {v : Value} (hi : ∀ w, s.run P w = .ok v w) : SemIs P s h v := fun w hs => ⟨w, hi w, .refl hs⟩
theorem zlj1 {P : Program} {t e : Nat} {x y : Operand} {h : Hp} (hu : P.underlying t = some (.slice e)) (s : Sl) : SemIs P (binS .eql t x y s.v (.slice none 0 0)) h (.bool s.base.isNone) := by
  have key : ∀ d, semW P (Op.equalIn (d + 1) t s.v (.slice none 0 0)) (fun u h' => u = s.base.isNone ∧ h' = h) h := by
    intro d
    unfold Op.equalIn
    refine (zqm1 _ _).2 (zdc2 hu ?_)
    cases hb : s.base with
    | none => simp only [Sl.v, hb]; exact ⟨rfl, rfl⟩
    | some a => simp only [Sl.v, hb]; exact ⟨rfl, rfl⟩
  refine zpr1 ?_
  show semW P (Sem.bind (Op.equal t s.v (.slice none 0 0)) fun b => Sem.pure (Value.bool b)) _ h
  refine (zqm1 _ _).2 (zys1 _ (fun a k hk => ?_) (key 9999))
  obtain ⟨rfl, rfl⟩ := hk
  exact ⟨rfl, rfl⟩
end Lf

namespace Lf
open Go
theorem zak2 {h : Hp} {a : Addr} {cs : List Value} (e : LdIs h a cs) (n : Nat) : LdIs h (a.add n) (cs.drop n) := fun i v hv => by
  rw [zbm1]
  exact e (n + i) v (by simpa [List.getElem?_drop] using hv)
theorem zlk1 {α : Type} {sz : Nat} {enc : α → List Value} (henc : ∀ x, (enc x).length = sz) : ∀ (xs : List α) (n : Nat), (xs.drop n).flatMap enc = (xs.flatMap enc).drop (n * sz)
  | [], n => by simp
  | x :: xs, 0 => by simp
  | x :: xs, n + 1 => by
    simp only [List.drop_succ_cons, List.flatMap_cons]
    have e : (enc x).drop (n * sz + sz) = [] := List.drop_eq_nil_of_le (by rw [henc]; omega)
    rw [zlk1 henc xs n, Nat.add_mul, Nat.one_mul, List.drop_append, henc, e, List.nil_append, Nat.add_sub_cancel]
theorem zll1 {α : Type} {sz : Nat} {enc : α → List Value} (henc : ∀ x, (enc x).length = sz) : ∀ (xs : List α) (n : Nat), (xs.take n).flatMap enc = (xs.flatMap enc).take (n * sz)
  | [], n => by simp
  | x :: xs, 0 => by simp
  | x :: xs, n + 1 => by
    simp only [List.take_succ_cons, List.flatMap_cons]
    have e : (enc x).take (n * sz + sz) = enc x := List.take_of_length_le (by rw [henc]; omega)
    rw [zll1 henc xs n, Nat.add_mul, Nat.one_mul, List.take_append, henc, e, Nat.add_sub_cancel]
theorem Rw.cut {α : Type} {h : Hp} {sz : Nat} {enc : α → List Value} {l : Sl} {xs : List α} (r : Rw h sz enc l xs) (henc : ∀ x, (enc x).length = sz) {a b c n m : Nat} (hab : a ≤ b) (hb : b ≤ xs.length) (hc : b ≤ c) (hn : n = b - a) :
    Rw h sz enc ⟨sbase l.base sz a c, n, m⟩ ((xs.drop a).take (b - a)) := by
  obtain ⟨h1, h2, h3⟩ := r
  have hlen : ((xs.drop a).take (b - a)).length = b - a := by rw [List.length_take, List.length_drop]; omega
  refine ⟨hn.trans hlen.symm, zbp henc _, ?_⟩
  rw [hlen]
  by_cases h0 : (b - a) * sz = 0
  · exact .inl h0
  · right
    have hba : b - a ≠ 0 := fun e => h0 (by rw [e, Nat.zero_mul])
    have hsz : sz ≠ 0 := fun e => h0 (by rw [e, Nat.mul_zero])
    have hx : xs.length * sz ≠ 0 := Nat.mul_ne_zero (by omega) hsz
    obtain ⟨p, hp, hl⟩ := h3.resolve_left hx
    refine ⟨p.add (a * sz), ?_, fun i v hv => ?_⟩
    · unfold sbase
      rw [if_neg (show ¬ c = a by omega), hp]
      rfl
    · rw [zll1 henc, zlk1 henc, List.getElem?_take] at hv
      split at hv
      · exact zak2 hl (a * sz) i v hv
      · cases hv
end Lf

namespace Lf
open Go
structure Mv (F : List Nat) (h : Hp) (F' : List Nat) (h' : Hp) : Prop where
  keep : ∀ b o, h b = some o → b ∉ F → h' b = some o
  from_ : ∀ b ∈ F', b ∈ F ∨ h b = none
theorem Mv.refl (F : List Nat) (h : Hp) : Mv F h F h := ⟨fun _ _ e _ => e, fun _ e => .inl e⟩
theorem Mv.trans {F F' F'' : List Nat} {h h' h'' : Hp} (a : Mv F h F' h') (b : Mv F' h' F'' h'') : Mv F h F'' h'' := by
  refine ⟨fun i o e hn => b.keep i o (a.keep i o e hn) fun hf => ?_, fun i hi => ?_⟩
  · rcases a.from_ i hf with h1 | h1
    · exact hn h1
    · rw [h1] at e; cases e
  · rcases b.from_ i hi with h1 | h1
    · exact a.from_ i h1
    · cases e : h i with
      | none => exact .inr rfl
      | some o =>
        left
        refine Classical.byContradiction fun hn => ?_
        rw [a.keep i o e hn] at h1; cases h1
theorem Mv.of_le {h h' : Hp} (F : List Nat) (hl : h ≤ h') : Mv F h F h' := ⟨fun b o e _ => hl b o e, fun _ e => .inl e⟩
theorem Mv.le {F F' : List Nat} {h0 h h' : Hp} (a : Mv F h F' h') (hl : h0 ≤ h) (hf : ∀ b ∈ F, h0 b = none) : h0 ≤ h' ∧ ∀ b ∈ F', h0 b = none := by
  refine ⟨fun b o e => a.keep b o (hl b o e) fun hb => (by rw [hf b hb] at e; cases e), fun b hb => ?_⟩
  rcases a.from_ b hb with h1 | h1
  · exact hf b h1
  · exact zbk hl h1
theorem Mv.sub {F F' G G' : List Nat} {h h' : Hp} (a : Mv F h F' h') (h1 : ∀ b ∈ F, b ∈ G) (h2 : ∀ b ∈ G', b ∈ F' ∨ b ∈ G ∨ h b = none) : Mv G h G' h' :=
  ⟨fun b o e hn => a.keep b o e fun hb => hn (h1 b hb), fun b hb => by
    rcases h2 b hb with h3 | h3
    · rcases a.from_ b h3 with h4 | h4
      · exact .inl (h1 b h4)
      · exact .inr h4
    · exact h3⟩
theorem Mv.set {h : Hp} {b : Nat} {o : Obj} : Mv [b] h [b] (h.set b o) := by
  refine ⟨fun i x e hn => ?_, fun i hi => .inl hi⟩
  have hne : i ≠ b := fun e' => hn (by rw [e']; exact List.mem_singleton.2 rfl)
  simp only [Hp.set, hne, if_false]
  exact e
theorem Mv.new {h : Hp} {b : Nat} {o : Obj} (hn : h b = none) : Mv [] h [b] (h.set b o) :=
  ⟨fun i x e _ => zqq hn i x e, fun i hi => .inr (by rw [List.mem_singleton.1 hi]; exact hn)⟩
def Blk (h : Hp) (b : Nat) (cs : List Value) : Prop := ∃ t, h b = some (.cells cs.toArray t (0, 0))
theorem Blk.mv {F F' : List Nat} {h h' : Hp} {b : Nat} {cs : List Value} (k : Blk h b cs) (a : Mv F h F' h') (hn : b ∉ F) : Blk h' b cs := by
  obtain ⟨t, e⟩ := k
  exact ⟨t, a.keep b _ e hn⟩
theorem Blk.le {h h' : Hp} {b : Nat} {cs : List Value} (k : Blk h b cs) (hl : h ≤ h') : Blk h' b cs := by
  obtain ⟨t, e⟩ := k
  exact ⟨t, hl _ _ e⟩
theorem Blk.known {h : Hp} {b : Nat} {cs : List Value} (k : Blk h b cs) : h b ≠ none := by
  obtain ⟨t, e⟩ := k
  rw [e]; simp
def at_ (b off : Nat) : Addr := ⟨b, off, none⟩
theorem Blk.ldIs {h : Hp} {b : Nat} {cs : List Value} (k : Blk h b cs) {off n : Nat} {vs : List Value} (e : (cs.drop off).take n = vs) : LdIs h ⟨b, off, none⟩ vs := by
  obtain ⟨t, hb⟩ := k
  intro i v hv
  rw [zez, zqf hb]
  rw [← e, List.getElem?_take] at hv
  split at hv
  · rw [List.getElem?_drop] at hv
    exact hv
  · cases hv
theorem Blk.stOk {h : Hp} {b : Nat} {cs : List Value} (k : Blk h b cs) {off : Nat} : ∀ n, off + n ≤ cs.length → StOk h ⟨b, off, none⟩ n
  | 0, _ => trivial
  | n + 1, hn => by
    obtain ⟨t, hb⟩ := k
    refine ⟨Blk.stOk ⟨t, hb⟩ n (by omega), ⟨cs[off + n]'(by omega), ?_⟩, ?_⟩
    · rw [zez, zqf hb]
      simp
    · rw [zez]
      unfold hfroz
      simp [hb]
theorem Blk.put {h : Hp} {b : Nat} {cs new : List Value} (k : Blk h b cs) {off : Nat} (hl : off + new.length ≤ cs.length) :
    Blk (putL h ⟨b, off, none⟩ new 0) b (cs.take off ++ new ++ cs.drop (off + new.length)) ∧ ∀ b', b' ≠ b → (putL h ⟨b, off, none⟩ new 0) b' = h b' := by
  obtain ⟨t, hb⟩ := k
  obtain ⟨p1, p2⟩ := zhg1 b t new h 0 off cs (by simpa using hl) hb
  rw [Nat.add_zero, zyk _ _ _ hl] at p1
  exact ⟨⟨t, p1⟩, p2⟩
theorem Mv.of_other {h h' : Hp} {b : Nat} (ho : ∀ b', b' ≠ b → h' b' = h b') : Mv [b] h [b] h' :=
  ⟨fun i o e hn => by rw [ho i fun e' => hn (by rw [e']; exact List.mem_singleton.2 rfl)]; exact e, fun i hi => .inl hi⟩
theorem zfc {h : Hp} {b : Nat} {cs new : List Value} {off : Nat} {K : Hp → Prop} (k : Blk h b cs) (hl : off + new.length ≤ cs.length)
    (hk : ∀ h', Mv [b] h [b] h' → Blk h' b (cs.take off ++ new ++ cs.drop (off + new.length)) → K h') : StW h ⟨b, off, none⟩ new K := by
  obtain ⟨p1, p2⟩ := k.put hl
  exact ⟨k.stOk _ hl, hk _ (Mv.of_other p2) p1⟩
section
variable {α : Type} {h : Hp} {sz : Nat} {enc : α → List Value} {l : Sl} {xs : List α}
def OwnF (h : Hp) (sz : Nat) (enc : α → List Value) (l : Sl) (xs : List α) (F : List Nat) : Prop :=
  l.len = xs.length ∧ l.len ≤ l.cap ∧ ((l.base = none ∧ l.cap = 0 ∧ F = []) ∨
    ∃ (b : Nat) (cs : List Value), l.base = some ⟨b, 0, none⟩ ∧ F = [b] ∧ Blk h b cs ∧ cs.length = l.cap * sz ∧ cs.take (l.len * sz) = xs.flatMap enc)
theorem OwnF.own {F : List Nat} {h0 : Hp} (o : OwnF h sz enc l xs F) (hf : ∀ b ∈ F, h0 b = none) : Own h0 h sz enc l xs := by
  obtain ⟨h1, h2, h3⟩ := o
  refine ⟨h1, h2, ?_⟩
  rcases h3 with ⟨e1, e2, _⟩ | ⟨b, cs, e1, rfl, ⟨t, e3⟩, e4, e5⟩
  · exact .inl ⟨e1, e2⟩
  · exact .inr ⟨b, cs, t, e1, e3, e4, e5, hf b (List.mem_singleton.2 rfl)⟩
theorem OwnF.rw {F : List Nat} (o : OwnF h sz enc l xs F) (henc : ∀ x, (enc x).length = sz) : Rw h sz enc l xs := (o.own (h0 := fun _ => none) fun _ _ => rfl).rw henc
theorem Own.ownF {h0 : Hp} (o : Own h0 h sz enc l xs) : ∃ F, OwnF h sz enc l xs F ∧ ∀ b ∈ F, h0 b = none := by
  obtain ⟨h1, h2, h3⟩ := o
  rcases h3 with ⟨e1, e2⟩ | ⟨b, cs, t, e1, e3, e4, e5, e6⟩
  · exact ⟨[], ⟨h1, h2, .inl ⟨e1, e2, rfl⟩⟩, fun b hb => by cases hb⟩
  · exact ⟨[b], ⟨h1, h2, .inr ⟨b, cs, e1, rfl, ⟨t, e3⟩, e4, e5⟩⟩, fun b' hb => by rw [List.mem_singleton.1 hb]; exact e6⟩
theorem OwnF.known {F : List Nat} (o : OwnF h sz enc l xs F) : ∀ b ∈ F, h b ≠ none := by
  obtain ⟨_, _, h3⟩ := o
  rcases h3 with ⟨_, _, rfl⟩ | ⟨b, cs, _, rfl, e3, _, _⟩
  · intro b hb; cases hb
  · intro b' hb; rw [List.mem_singleton.1 hb]; exact e3.known
theorem OwnF.same {F : List Nat} {h' : Hp} (o : OwnF h sz enc l xs F) (hs : ∀ b ∈ F, h' b = h b) : OwnF h' sz enc l xs F := by
  obtain ⟨h1, h2, h3⟩ := o
  refine ⟨h1, h2, h3.imp id ?_⟩
  rintro ⟨b, cs, e1, rfl, ⟨t, e3⟩, e4⟩
  exact ⟨b, cs, e1, rfl, ⟨t, by rw [hs b (List.mem_singleton.2 rfl)]; exact e3⟩, e4⟩
theorem OwnF.mv {F G G' : List Nat} {h' : Hp} (o : OwnF h sz enc l xs F) (a : Mv G h G' h') (hd : ∀ b ∈ F, b ∉ G) : OwnF h' sz enc l xs F := by
  obtain ⟨h1, h2, h3⟩ := o
  refine ⟨h1, h2, h3.imp id ?_⟩
  rintro ⟨b, cs, e1, rfl, e3, e4⟩
  exact ⟨b, cs, e1, rfl, e3.mv a (hd b (List.mem_singleton.2 rfl)), e4⟩
theorem newF {cs : List Value} {K : Addr → Hp → Prop} (hc : cs = xs.flatMap enc) (henc : ∀ x, (enc x).length = sz)
    (hk : ∀ b h', h b = none → h ≤ h' → Mv [] h [b] h' → OwnF h' sz enc ⟨some ⟨b, 0, none⟩, xs.length, xs.length⟩ xs [b] → K ⟨b, 0, none⟩ h') : NewW cs K h := by
  intro b t hb
  refine hk b _ hb (zqq hb) (Mv.new hb) ⟨rfl, Nat.le_refl _, .inr ⟨b, cs, rfl, rfl, ⟨t, zkt⟩, ?_, ?_⟩⟩
  · rw [hc, zbp henc]
  · have : (xs.length * sz) = (xs.flatMap enc).length := (zbp henc xs).symm
    show List.take (xs.length * sz) cs = _
    rw [this, hc, List.take_length]
theorem appF {F : List Nat} {zero : List Value} {bytes : Nat} {x : Sl} {ys : List α} {K : Sl → Hp → Prop} (o : OwnF h sz enc l xs F) (r : Rw h sz enc x ys) (henc : ∀ x, (enc x).length = sz) (hok : ∀ x, zef (enc x) = true)
    (hz : zero.length = sz) (hb : xs.length + ys.length ≤ 140737488355328 ∧ (xs.length + ys.length) * bytes ≤ 140737488355328)
    (hk : ∀ l' h' F', OwnF h' sz enc l' (xs ++ ys) F' → Mv F h F' h' → K l' h') : zas sz bytes zero l x K h := by
  have hrw := o.rw henc
  obtain ⟨h1, h2, h3⟩ := o
  obtain ⟨hx1, hx2⟩ := r
  refine ⟨ys.flatMap enc, by rw [hx1]; exact hx2, xs.flatMap enc, by rw [h1]; exact hrw.2, by rw [h1, hx1]; exact hb, ztu1 hok ys, fun hcap => ?_, fun hcap c b t hc hbn => ?_⟩
  · rcases h3 with ⟨e, ec, rfl⟩ | ⟨b, cs, e, rfl, hbk, hl, ht⟩
    · have e1 : ys.length = 0 := by omega
      have e2 : ys = [] := List.length_eq_zero_iff.1 e1
      subst e2
      refine ⟨fun a ha => (by rw [e] at ha; cases ha), ?_⟩
      have e3 : putO h l.base (l.len * sz) (([] : List α).flatMap enc) = h := by rw [e]; rfl
      rw [e3, hx1]
      exact hk _ h [] ⟨by simp [h1], by simpa using h2, .inl ⟨e, ec, rfl⟩⟩ (Mv.refl _ _)
    · have hle : l.len * sz + (ys.flatMap enc).length ≤ cs.length := by
        rw [hl, zbp henc, ← Nat.add_mul]
        exact Nat.mul_le_mul_right sz (by omega)
      obtain ⟨p1, p2⟩ := hbk.put hle
      refine ⟨fun a ha => ?_, ?_⟩
      · rw [e] at ha; cases ha
        rw [zez, Nat.zero_add]
        refine hbk.stOk _ ?_
        rw [hx1, ← zbp henc ys]
        exact hle
      · have e3 : putO h l.base (l.len * sz) (ys.flatMap enc) = putL h ⟨b, l.len * sz, none⟩ (ys.flatMap enc) 0 := by
          rw [e]
          simp only [putO, zez, Nat.zero_add]
        rw [e3]
        refine hk _ _ [b] ⟨by simp [h1, hx1], hcap, .inr ⟨b, _, e, rfl, p1, ?_, ?_⟩⟩ (Mv.of_other p2)
        · rw [← hl]
          simp only [List.length_append, List.length_take, List.length_drop]
          omega
        · have e4 : (l.len + x.len) * sz = (cs.take (l.len * sz) ++ ys.flatMap enc).length := by
            rw [List.length_append, ht, zbp henc, zbp henc, h1, hx1, Nat.add_mul]
          show List.take ((l.len + x.len) * sz) _ = _
          rw [e4, List.take_left, ht, List.flatMap_append]
  · have hn : Mv F h [b] (h.set b (.cells (xs.flatMap enc ++ ys.flatMap enc ++ zbr zero (c - (l.len + x.len))).toArray t (0, 0))) :=
      (Mv.new hbn).sub (fun b hb => by cases hb) fun b hb => .inl hb
    refine hk _ _ [b] ⟨by simp [h1, hx1], hc, .inr ⟨b, xs.flatMap enc ++ ys.flatMap enc ++ zbr zero (c - (l.len + x.len)), rfl, rfl, ⟨t, zkt⟩, ?_, ?_⟩⟩ hn
    · rw [List.length_append, List.length_append, zbp henc, zbp henc, zdb1, hz, ← Nat.add_mul, ← Nat.add_mul]
      show _ = c * sz
      congr 1
      omega
    · have e4 : (l.len + x.len) * sz = (xs.flatMap enc ++ ys.flatMap enc).length := by
        rw [List.length_append, zbp henc, zbp henc, h1, hx1, Nat.add_mul]
      show List.take ((l.len + x.len) * sz) _ = _
      rw [e4, List.take_left, List.flatMap_append]
end
end Lf

namespace Lf
open Go
theorem zpj {F F' E : List Nat} {k k' : Hp} (m : Mv F k F' k') (hE : ∀ c ∈ E, k c ≠ none) (hd : ∀ c ∈ E, c ∉ F) : ∀ c ∈ E, k' c = k c := fun c hc => by
  cases hk : k c with
  | none => exact absurd hk (hE c hc)
  | some o => exact m.keep c o hk (hd c hc)
theorem zfd2 {F F' E : List Nat} {k k' : Hp} (m : Mv F k F' k') (hE : ∀ c ∈ E, k c ≠ none) (hd : ∀ c ∈ E, c ∉ F) : ∀ c ∈ E, c ∉ F' := fun c hc hf => by
  rcases m.from_ c hf with h | h
  · exact hd c hc h
  · exact hE c hc h
theorem Mv.less {F F' E : List Nat} {h h' : Hp} (a : Mv F h F' h') (hs : ∀ c ∈ E, c ∈ F') : Mv F h E h' := ⟨a.keep, fun b hb => a.from_ b (hs b hb)⟩
structure Regs (h k : Hp) (Rg : List (List Nat)) : Prop where
  sep : ∀ (a b : Nat) E G, Rg[a]? = some E → Rg[b]? = some G → a ≠ b → ∀ c ∈ E, c ∉ G
  known : ∀ (a : Nat) E, Rg[a]? = some E → ∀ c ∈ E, k c ≠ none
  fresh : ∀ (a : Nat) E, Rg[a]? = some E → ∀ c ∈ E, h c = none
  le : h ≤ k
theorem Regs.grow {h k k' : Hp} {Rg : List (List Nat)} (r : Regs h k Rg) (hl : k ≤ k') : Regs h k' Rg :=
  ⟨r.sep, fun a E hE c hc e => r.known a E hE c hc (zbk hl e), r.fresh, Hp.le_trans r.le hl⟩
theorem Regs.step {h k k' : Hp} {Rg : List (List Nat)} {j : Nat} {F F' : List Nat} (r : Regs h k Rg) (hj : Rg[j]? = some F) (m : Mv F k F' k') (kn : ∀ c ∈ F', k' c ≠ none) : Regs h k' (Rg.set j F') := by
  have hjl : j < Rg.length := (List.getElem?_eq_some_iff.1 hj).1
  have hget : ∀ a E, (Rg.set j F')[a]? = some E → (a = j ∧ E = F') ∨ (a ≠ j ∧ Rg[a]? = some E) := by
    intro a E hE
    rw [List.getElem?_set, if_pos hjl] at hE
    split at hE
    · rename_i e
      exact .inl ⟨e.symm, (Option.some.inj hE).symm⟩
    · rename_i e
      exact .inr ⟨fun e' => e e'.symm, hE⟩
  have hdis : ∀ a E, a ≠ j → Rg[a]? = some E → ∀ c ∈ E, c ∉ F' := fun a E hne hE => zfd2 m (r.known a E hE) (r.sep a j E F hE hj hne)
  have hfr : ∀ c ∈ F', h c = none := (m.le r.le (r.fresh j F hj)).2
  refine ⟨fun a b E G hE hG hab c hc hc' => ?_, fun a E hE c hc => ?_, fun a E hE c hc => ?_, (m.le r.le (r.fresh j F hj)).1⟩
  · rcases hget a E hE with ⟨rfl, rfl⟩ | ⟨h1, h2⟩
    · rcases hget b G hG with ⟨rfl, rfl⟩ | ⟨h3, h4⟩
      · exact hab rfl
      · exact hdis b G h3 h4 c hc' hc
    · rcases hget b G hG with ⟨rfl, rfl⟩ | ⟨h3, h4⟩
      · exact hdis a E h1 h2 c hc hc'
      · exact r.sep a b E G h2 h4 hab c hc hc'
  · rcases hget a E hE with ⟨rfl, rfl⟩ | ⟨h1, h2⟩
    · exact kn c hc
    · have := zpj m (r.known a E h2) (r.sep a j E F h2 hj h1) c hc
      rw [this]
      exact r.known a E h2 c hc
  · rcases hget a E hE with ⟨rfl, rfl⟩ | ⟨h1, h2⟩
    · exact hfr c hc
    · exact r.fresh a E h2 c hc
theorem Regs.other {h k k' : Hp} {Rg : List (List Nat)} {j a : Nat} {F F' E : List Nat} (r : Regs h k Rg) (hj : Rg[j]? = some F) (m : Mv F k F' k') (ha : Rg[a]? = some E) (hne : a ≠ j) : ∀ c ∈ E, k' c = k c :=
  zpj m (r.known a E ha) (r.sep a j E F ha hj hne)
theorem Regs.push {h k k' : Hp} {Rg : List (List Nat)} {E : List Nat} (r : Regs h k Rg) (hl : k ≤ k') (hn : ∀ c ∈ E, k c = none) (kn : ∀ c ∈ E, k' c ≠ none) : Regs h k' (Rg ++ [E]) := by
  have hget : ∀ a G, (Rg ++ [E])[a]? = some G → (a = Rg.length ∧ G = E) ∨ (a < Rg.length ∧ Rg[a]? = some G) := by
    intro a G hG
    by_cases h1 : a < Rg.length
    · rw [List.getElem?_append_left h1] at hG
      exact .inr ⟨h1, hG⟩
    · rw [List.getElem?_append_right (by omega)] at hG
      have h2 : a - Rg.length = 0 := by
        have := (List.getElem?_eq_some_iff.1 hG).1
        simp at this
        omega
      rw [h2] at hG
      exact .inl ⟨by omega, (Option.some.inj hG).symm⟩
  refine ⟨fun a b A B hA hB hab c hc hc' => ?_, fun a A hA c hc => ?_, fun a A hA c hc => ?_, Hp.le_trans r.le hl⟩
  · rcases hget a A hA with ⟨rfl, rfl⟩ | ⟨h1, h2⟩
    · rcases hget b B hB with ⟨rfl, rfl⟩ | ⟨h3, h4⟩
      · exact hab rfl
      · exact r.known b B h4 c hc' (hn c hc)
    · rcases hget b B hB with ⟨rfl, rfl⟩ | ⟨h3, h4⟩
      · exact r.known a A h2 c hc (hn c hc')
      · exact r.sep a b A B h2 h4 hab c hc hc'
  · rcases hget a A hA with ⟨rfl, rfl⟩ | ⟨h1, h2⟩
    · exact kn c hc
    · exact fun e => r.known a A h2 c hc (zbk hl e)
  · rcases hget a A hA with ⟨rfl, rfl⟩ | ⟨h1, h2⟩
    · exact zbk r.le (hn c hc)
    · exact r.fresh a A h2 c hc
end Lf

namespace Lf
open Go
section
variable {P : Program} {h : Hp}
end
end Lf

namespace Lf
open Go
section
variable {α : Type} {h : Hp} {sz : Nat} {enc : α → List Value} {l : Sl} {xs : List α}
theorem Rw.fld (r : Rw h sz enc l xs) (henc : ∀ x, (enc x).length = sz) (hsz : 0 < sz) {sh : Shape} (g : α → sh.T) {j : Nat} (hg : ∀ x, ((enc x).drop j).take (zae (sh.enc (g x))).length = zae (sh.enc (g x))) {i : Int} (h0 : 0 ≤ i) (h1 : i < (xs.length : Int))
    {K : sh.T → Prop} (hk : ∀ x, xs[i.toNat]? = some x → K (g x)) : InB l.base l.len i ∧ LdW none sh h ((sat l.base sz i).add j) K := by
  obtain ⟨e1, x, hx, hl⟩ := r.read henc hsz h0 (by rw [r.1]; exact h1)
  refine ⟨e1, g x, fun q v hv => ?_, hk x hx⟩
  rw [zbm1]
  refine hl (j + q) v ?_
  rw [← hg x, List.getElem?_take] at hv
  split at hv
  · rw [List.getElem?_drop] at hv; exact hv
  · cases hv
theorem Rw.fldC (r : Rw h sz enc l xs) (henc : ∀ x, (enc x).length = sz) (hsz : 0 < sz) {sh : Shape} (g : α → sh.T) {j : Nat} (hg : ∀ x, ((enc x).drop j).take (zae (sh.enc (g x))).length = zae (sh.enc (g x))) (x0 : sh.T) {c : Bool} {i : Int} (h0 : c = true → 0 ≤ i ∧ i < (xs.length : Int))
    {K : sh.T → Prop} (hk : ∀ y, (c = true → ∃ x, xs[i.toNat]? = some x ∧ y = g x) → K y) : (c = true → InB l.base l.len i) ∧ LdW (some c) sh h ((sat l.base sz i).add j) K := by
  cases c with
  | false => exact ⟨fun e => (by cases e), x0, fun e => (by cases e), hk x0 fun e => (by cases e)⟩
  | true =>
    obtain ⟨h0, h1⟩ := h0 rfl
    obtain ⟨e1, y, hy, hk'⟩ := r.fld henc hsz g hg h0 h1 (K := fun y => ∃ x, xs[i.toNat]? = some x ∧ y = g x) fun x hx => ⟨x, hx, rfl⟩
    exact ⟨fun _ => e1, y, fun _ => hy, hk y fun _ => hk'⟩
theorem Blk.rd {b : Nat} {cs new : List Value} (k : Blk h b cs) {off n : Nat} (hn : new.length = n) (e : (cs.drop off).take n = new) : zih1 h (some ⟨b, off, none⟩) n new := ⟨hn, .inr ⟨_, rfl, k.ldIs e⟩⟩
theorem zal2 {xs : List α} {i : Nat} (x : α) (hi : i < xs.length) : xs.set i x = xs.take i ++ x :: xs.drop (i + 1) := by
  rw [List.set_eq_take_append_cons_drop, if_pos hi]
theorem OwnF.store {F : List Nat} (o : OwnF h sz enc l xs F) (henc : ∀ x, (enc x).length = sz) {i : Int} (h0 : 0 ≤ i) (h1 : i < (xs.length : Int)) (x : α) {K : Hp → Prop} (hk : ∀ h', OwnF h' sz enc l (xs.set i.toNat x) F → Mv F h F h' → K h') :
    InB l.base l.len i ∧ StW h (sat l.base sz i) (enc x) K := by
  obtain ⟨o1, o2, o3⟩ := o
  rcases o3 with ⟨_, e2, _⟩ | ⟨b, cs, e1, rfl, kb, e4, e5⟩
  · omega
  · refine ⟨⟨by rw [e1]; simp, h0, by omega⟩, ?_⟩
    have hi : i.toNat < xs.length := by omega
    have ha : sat l.base sz i = ⟨b, i.toNat * sz, none⟩ := by unfold sat; rw [e1, Option.getD_some, zez, Nat.zero_add]
    rw [ha]
    have hmul : i.toNat * sz + sz ≤ l.len * sz := by
      have := Nat.mul_le_mul_right sz (show i.toNat + 1 ≤ l.len by omega)
      rw [Nat.add_mul, Nat.one_mul] at this
      exact this
    have hmul2 : l.len * sz ≤ l.cap * sz := Nat.mul_le_mul_right sz o2
    refine zfc kb (by rw [henc, e4]; omega) fun h' m' k' => ?_
    rw [henc] at k'
    refine hk h' ⟨by simp [o1], o2, .inr ⟨b, _, e1, rfl, k', ?_, ?_⟩⟩ m'
    · simp only [List.length_append, List.length_take, List.length_drop, henc, e4]
      omega
    · rw [zal2 x hi]
      have t1 : cs.take (i.toNat * sz) = (xs.take i.toNat).flatMap enc := by
        rw [zll1 henc, ← e5, List.take_take]; congr 1; omega
      have t2 : (cs.drop (i.toNat * sz + sz)).take (l.len * sz - (i.toNat * sz + sz)) = (xs.drop (i.toNat + 1)).flatMap enc := by
        rw [zlk1 henc, ← e5, Nat.add_mul, Nat.one_mul, List.drop_take]
      have hl1 : (cs.take (i.toNat * sz) ++ enc x).length = i.toNat * sz + sz := by
        rw [List.length_append, List.length_take, henc, e4]; omega
      rw [List.take_append, hl1, t2, List.take_of_length_le (by rw [hl1]; exact hmul), t1]
      simp
end
end Lf

namespace Lf
open Go
def cutH (k : Hp) (R : List Nat) : Hp := fun b => if b ∈ R then none else k b
theorem zeo2 {k : Hp} {R : List Nat} : cutH k R ≤ k := fun b o e => by
  unfold cutH at e
  split at e
  · cases e
  · exact e
theorem zwj1 {k : Hp} {R : List Nat} {b : Nat} (h : b ∈ R) : cutH k R b = none := by
  unfold cutH
  rw [if_pos h]
theorem zje1 {k : Hp} {R : List Nat} {b : Nat} (h : b ∉ R) : cutH k R b = k b := by
  unfold cutH
  rw [if_neg h]
theorem zep2 {d k : Hp} {R : List Nat} (hl : d ≤ k) (hn : ∀ b ∈ R, d b = none) : d ≤ cutH k R := fun b o e => by
  rw [zje1 fun hb => by rw [hn b hb] at e; cases e]
  exact hl b o e
theorem zxy1 {h h' : Hp} {a : Addr} (e : h' a.block = h a.block) : hcell h' a = hcell h a := by
  unfold hcell
  rw [e]
theorem znz1 (a : Addr) (n : Nat) : (a.add n).block = a.block := by
  unfold Addr.add
  split <;> rfl
theorem zam2 {h h' : Hp} {a : Addr} {cs : List Value} (l : LdIs h a cs) (e : h' a.block = h a.block) : LdIs h' a cs := fun i v hv => by
  have : hcell h' (a.add i) = hcell h (a.add i) := zxy1 (a := a.add i) (by rw [znz1]; exact e)
  rw [this]
  exact l i v hv
section
variable {α : Type} {h h' : Hp} {sz : Nat} {enc : α → List Value} {l : Sl} {xs : List α} {F : List Nat}
theorem Rw.same (r : Rw h sz enc l xs) (e : ∀ a, l.base = some a → h' a.block = h a.block) : Rw h' sz enc l xs := by
  obtain ⟨h1, h2, h3⟩ := r
  refine ⟨h1, h2, h3.imp id ?_⟩
  rintro ⟨a, ha, hl⟩
  exact ⟨a, ha, zam2 hl (e a ha)⟩
theorem Rw.nil {l : Sl} (hl : l.len = 0) : Rw h sz enc l ([] : List α) := ⟨hl, (by simp), .inl (by simp)⟩
theorem OwnF.grow (o : OwnF h sz enc l xs F) (hl : h ≤ h') : OwnF h' sz enc l xs F := by
  obtain ⟨h1, h2, h3⟩ := o
  refine ⟨h1, h2, h3.imp id ?_⟩
  rintro ⟨b, cs, e1, rfl, e3, e4⟩
  exact ⟨b, cs, e1, rfl, e3.le hl, e4⟩
theorem OwnF.cut {R : List Nat} (o : OwnF h sz enc l xs F) (hd : ∀ b ∈ F, b ∉ R) : OwnF (cutH h R) sz enc l xs F := o.same fun b hb => zje1 (hd b hb)
theorem OwnF.base (o : OwnF h sz enc l xs F) {a : Addr} (ha : l.base = some a) : F = [a.block] := by
  obtain ⟨_, _, h3⟩ := o
  rcases h3 with ⟨e, _⟩ | ⟨b, cs, e1, rfl, _⟩
  · rw [e] at ha; cases ha
  · rw [e1] at ha; cases ha; rfl
end
end Lf

namespace Lf
open Go
theorem ztv1 {h : Hp} {a : Addr} {v : Value} (e : hcell h a = some v) : ∃ o, h a.block = some o := by
  unfold hcell at e
  split at e
  · rename_i c t f hb
    exact ⟨_, hb⟩
  · cases e
section
variable {α : Type} {h h' : Hp} {sz : Nat} {enc : α → List Value} {l : Sl} {xs : List α} {F F' : List Nat}
theorem Rw.known (r : Rw h sz enc l xs) {a : Addr} (ha : l.base = some a) (h0 : xs.length * sz ≠ 0) : h a.block ≠ none := by
  obtain ⟨h1, h2, h3⟩ := r
  obtain ⟨a', ha', hl⟩ := h3.resolve_left h0
  rw [ha] at ha'
  cases ha'
  have hne : (xs.flatMap enc).length ≠ 0 := by rw [h2]; exact h0
  obtain ⟨v, hv⟩ : ∃ v, (xs.flatMap enc)[0]? = some v := ⟨(xs.flatMap enc)[0]'(by omega), List.getElem?_eq_getElem (by omega)⟩
  obtain ⟨o, ho⟩ := ztv1 (hl 0 v hv)
  rw [znz1] at ho
  rw [ho]
  simp
end
end Lf

namespace Lf
structure PIns where
 op : Int
 a : Int
 b : Int
 c : Int
 imm : Int
def zay (op : Int) : Bool × Bool × Bool × Bool :=
 if op = 1 then (true, false, false, true)
 else if op = 2 ∨ op = 20 ∨ op = 21 ∨ op = 25 ∨ op = 26 then (true, true, false, false)
 else if (3 ≤ op ∧ op ≤ 14) ∨ (15 ≤ op ∧ op ≤ 19) ∨ op = 24 then (true, true, true, false)
 else if op = 22 ∨ op = 29 ∨ op = 30 then (false, false, false, true)
 else if op = 23 then (true, false, false, true)
 else if op = 27 ∨ op = 28 ∨ op = 31 ∨ op = 32 ∨ op = 33 then (true, false, false, false)
 else (false, false, false, false)
def regP (has : Bool) (n : Int) : Int := if has = false ∧ n ≠ 0 then 11 else if n < 0 ∨ 8 ≤ n then 10 else 0
def zbo (x : PIns) (n locks : Int) : Int × Int :=
 if x.op < 0 ∨ 34 ≤ x.op then (9, 0)
 else if regP (zay x.op).1 x.a ≠ 0 then (regP (zay x.op).1 x.a, 1)
 else if regP (zay x.op).2.1 x.b ≠ 0 then (regP (zay x.op).2.1 x.b, 2)
 else if regP (zay x.op).2.2.1 x.c ≠ 0 then (regP (zay x.op).2.2.1 x.c, 3)
 else if (zay x.op).2.2.2 = false ∧ x.imm ≠ 0 then (11, 4)
 else if (x.op = 22 ∨ x.op = 23) ∧ (x.imm < 0 ∨ n < x.imm) then (12, 4)
 else if (x.op = 29 ∨ x.op = 30) ∧ (x.imm < 0 ∨ locks ≤ x.imm) then (13, 4)
 else (0, 0)
def codeR (n locks : Int) : List PIns → Int → Int × Int
 | [], _ => (0, 0)
 | x :: r, i => if (zbo x n locks).1 ≠ 0 then ((zbo x n locks).1, i) else codeR n locks r (i + 1)
def codeP (l : List PIns) (locks : Int) : Int × Int :=
 if locks < 0 ∨ 8 < locks then (1, 0) else if 256 < l.length then (3, 256) else codeR l.length locks l 0
structure PProc where
 part : Int
 code : List PIns
structure PCfg where
 labels : List Int
 table : List Int
 fuel : Int
 lane : Int
 locks : Int
 log : Int
 procs : List PProc
def within (n a b : Int) : Bool := decide (a ≤ n) && decide (n ≤ b)
def zvf (parts locks : Int) : List PProc → Int → Int × Int
 | [], _ => (0, 0)
 | p :: r, i => if within p.part 0 (parts - 1) = false then (2, 7 + i) else if (codeP p.code locks).1 ≠ 0 then ((codeP p.code locks).1, 7 + i) else zvf parts locks r (i + 1)
def cfgP (m : Int) (c : PCfg) : Int × Int :=
 if m ≠ 0 then (m, 0)
 else if c.table = [] then (1, 1)
 else if 64 < c.table.length then (3, 1)
 else if c.table.all (fun p => within p 0 (c.labels.length - 1)) = false then (2, 1)
 else if within c.fuel 1 256 = false then (2, 2)
 else if within c.lane 1 64 = false then (2, 3)
 else if within c.locks 0 8 = false then (2, 4)
 else if within c.log 0 4096 = false then (2, 5)
 else if c.procs = [] then (1, 6)
 else if 32 < c.procs.length then (3, 6)
 else zvf c.labels.length c.locks c.procs 0
def leB (n : Int) : Nat → List UInt8
 | 0 => []
 | k + 1 => UInt8.ofNat (n % 256).toNat :: leB (n / 256) k
def valB : List UInt8 → Nat
 | [] => 0
 | b :: r => b.toNat + 256 * valB r
theorem zap (n : Int) (k : Nat) : (leB n k).length = k := by
 induction k generalizing n with
 | zero => rfl
 | succ k ih => simp [leB, ih]
theorem zhr1 (n : Int) (k : Nat) : (valB (leB n k) : Int) = n % ((256 ^ k : Nat) : Int) := by
 induction k generalizing n with
 | zero =>
  show ((0 : Nat) : Int) = n % 1
  omega
 | succ k ih =>
  have h1 : (UInt8.ofNat (n % 256).toNat).toNat = (n % 256).toNat := by
   rw [UInt8.toNat_ofNat']
   have : (n % 256).toNat < 256 := by omega
   omega
  have h2 := ih (n / 256)
  have e : ((256 ^ (k + 1) : Nat) : Int) = 256 * ((256 ^ k : Nat) : Int) := by
   rw [Nat.pow_succ, Int.natCast_mul, Int.mul_comm]; rfl
  rw [e]
  show (((UInt8.ofNat (n % 256).toNat).toNat + 256 * valB (leB (n / 256) k) : Nat) : Int) = _
  rw [h1]
  generalize ((256 ^ k : Nat) : Int) = q at *
  have h3 : (0 : Int) ≤ n % 256 := by omega
  have h4 := Int.emod_add_mul_ediv n (256 * q)
  have h5 := Int.emod_add_mul_ediv (n / 256) q
  have h6 := Int.emod_add_mul_ediv n 256
  have h7 : n / (256 * q) = n / 256 / q := (Int.ediv_ediv_of_nonneg (by decide)).symm
  rw [h7, Int.mul_assoc] at h4
  rw [Int.natCast_add, Int.natCast_mul, h2, Int.toNat_of_nonneg h3]
  generalize q * (n / 256 / q) = z at *
  generalize n % (256 * q) = y at *
  generalize (n / 256) % q = x at *
  show n % 256 + 256 * x = y
  omega
theorem zzo : ∀ l : List UInt8, valB l < 256 ^ l.length
 | [] => by simp [valB]
 | b :: r => by
  have h1 := zzo r
  have h2 := b.toNat_lt
  simp only [valB, List.length_cons, Nat.pow_succ]
  omega
theorem zzp : ∀ l : List UInt8, leB (valB l : Int) l.length = l
 | [] => rfl
 | b :: r => by
  have h2 := b.toNat_lt
  have e1 : (((b.toNat + 256 * valB r : Nat) : Int) % 256).toNat = b.toNat := by omega
  have e2 : ((b.toNat + 256 * valB r : Nat) : Int) / 256 = (valB r : Int) := by omega
  simp only [valB, List.length_cons, leB]
  rw [e1, e2, zzp r]
  simp
def insB (x : PIns) : List UInt8 := leB x.op 1 ++ (leB x.a 1 ++ (leB x.b 1 ++ (leB x.c 1 ++ leB x.imm 8)))
def codeB (l : List PIns) : List UInt8 := l.flatMap insB
def procB (p : PProc) : List UInt8 := leB p.part 1 ++ (leB p.code.length 2 ++ codeB p.code)
def cfgB (c : PCfg) : List UInt8 :=
 [70, 66, 67, 70, 1] ++ (leB c.labels.length 1 ++ (c.labels.flatMap (fun a => leB a 8) ++ (leB c.table.length 1 ++ (c.table.flatMap (fun a => leB a 1) ++
  (leB c.fuel 2 ++ (leB c.lane 1 ++ (leB c.locks 1 ++ (leB c.log 2 ++ (leB c.procs.length 1 ++ c.procs.flatMap procB)))))))))
end Lf

namespace Lf
structure znx where
 tick : Int
 proc : Int
 value : Int
structure zpk where
 proc : Int
 value : Int
structure PLane where
 values : List Int
 waiters : List zpk
 taken : Int
 dropped : Int
structure PProcess where
 state : Int
 pc : Int
 regs : List Int
 cursor : Int
 timer : Int
 fired : Bool
 wake : Int
 lanes : List PLane
structure PPart where
 cursor : Int
 log : List znx
 lost : Int
 forbidden : Int
 owners : List Int
 queues : List (List Int)
structure PState where
 tick : Int
 parts : List PPart
 procs : List PProcess
section
variable (c : PCfg) (s : PState)
def ofP (p : Int) (i : Nat) : Prop := 0 ≤ p ∧ ∃ y, c.procs[p.toNat]? = some y ∧ y.part = (i : Int)
def stP (p : Int) (q : PProcess → Prop) : Prop := ∃ x, s.procs[p.toNat]? = some x ∧ q x
def manyP (i : Nat) : Nat := (c.procs.filter fun y => decide (y.part = (i : Int))).length
def Cnt (n : Int) : Prop := 0 ≤ n ∧ n ≤ 65535
def insP (y : PProc) (pc : Int) : Option PIns := if 0 ≤ pc then y.code[pc.toNat]? else none
def LogG (i : Nat) : Int → List znx → Prop
 | _, [] => True
 | last, e :: r => last ≤ e.tick ∧ e.tick < s.tick ∧ ofP c e.proc i ∧ LogG i e.tick r
def PartG (i : Nat) (x : PPart) : Prop :=
 (0 ≤ x.cursor ∧ (0 < x.cursor → x.cursor < manyP c i) ∧ (x.log.length : Int) ≤ c.log) ∧ LogG c s i 0 x.log ∧ Cnt x.lost ∧ Cnt x.forbidden ∧ (0 < x.lost → c.log ≤ x.log.length) ∧
 (x.owners.length : Int) = c.locks ∧ (x.queues.length : Int) = c.locks ∧ ∀ p ∈ x.owners, p ≠ -1 → ofP c p i ∧ stP s p fun z => z.state ≠ 5 ∧ z.state ≠ 6
def Used (l : PLane) : Prop := l.values ≠ [] ∨ 0 < l.taken ∨ 0 < l.dropped
def ProcG (fl : Nat → Int → Prop) (x : PProcess) (y : PProc) : Prop :=
 (0 ≤ x.state ∧ x.state ≤ 6) ∧ (0 ≤ x.pc ∧ x.pc ≤ y.code.length) ∧ x.lanes.length = c.labels.length + 1 ∧ (0 ≤ x.cursor ∧ x.cursor < x.lanes.length) ∧
 (0 ≤ x.timer ∧ x.timer ≤ s.tick + 1099511627776) ∧ (0 ≤ x.wake ∧ x.wake ≤ s.tick + 1099511627776) ∧ (0 < x.wake ↔ x.state = 4) ∧
 (x.state = 5 ∨ x.state = 6 → x.timer = 0 ∧ x.fired = false) ∧
 (∀ (i : Nat) l, x.lanes[i]? = some l → (l.values.length : Int) ≤ c.lane ∧ Cnt l.taken ∧ Cnt l.dropped ∧ (Used l → i < c.labels.length → fl i y.part)) ∧
 (x.state = 1 → (∃ n, insP y x.pc = some n ∧ n.op = 25) ∧ (∀ l ∈ x.lanes, l.values = []) ∧ x.fired = false) ∧
 (x.state = 2 → ∃ n, insP y x.pc = some n ∧ n.op = 24) ∧ (x.state = 3 → ∃ n, insP y x.pc = some n ∧ n.op = 29) ∧ (x.state = 4 → ∃ n, insP y x.pc = some n ∧ n.op = 28)
def atP (p : Int) (q : PProcess → PIns → Prop) : Prop := ∃ x y n, s.procs[p.toNat]? = some x ∧ c.procs[p.toNat]? = some y ∧ insP y x.pc = some n ∧ q x n
def zlm1 (p v : Int) (r : Nat) : Prop := atP c s p fun x n => x.state = 2 ∧ n.op = 24 ∧ x.regs[n.b.toNat]? = some (r : Int) ∧ x.regs[n.c.toNat]? = some v
def cntQ (p : Int) (x : PPart) : Nat := (x.queues.map fun q => q.countP (fun z => decide (z = p))).sum
def cntW (p : Int) (l : PLane) : Nat := l.waiters.countP fun w => decide (w.proc = p)
def cntL (p : Int) (x : PProcess) : Nat := (x.lanes.map (cntW p)).sum
def zeq2 : Prop :=
 (∀ (i : Nat) x, s.parts[i]? = some x → ∀ (k : Nat) q, x.queues[k]? = some q → ∀ p ∈ q, ofP c p i ∧ (atP c s p fun z n => z.state = 3 ∧ n.imm = (k : Int)) ∧ ∃ o, x.owners[k]? = some o ∧ 0 ≤ o ∧ o ≠ p) ∧
 (∀ (r : Nat) x y, s.procs[r]? = some x → c.procs[r]? = some y → ∀ (i : Nat) l, x.lanes[i]? = some l → ∀ w ∈ l.waiters, (i : Int) = y.part ∧ ofP c w.proc i ∧ (x.state ≠ 5 ∧ x.state ≠ 6) ∧ (l.values.length : Int) = c.lane ∧ zlm1 c s w.proc w.value r) ∧
 (∀ (p : Nat) x, s.procs[p]? = some x → (s.parts.map (cntQ (p : Int))).sum + (s.procs.map (cntL (p : Int))).sum = if x.state = 3 ∨ x.state = 2 then 1 else 0)
def zwk1 : Prop := (0 ≤ s.tick ∧ s.tick ≤ 4611686018427387904) ∧ s.parts.length = c.labels.length ∧ s.procs.length = c.procs.length
def MayG (fl : Nat → Int → Prop) : Prop :=
 zwk1 c s ∧ (∀ (i : Nat) x, s.parts[i]? = some x → PartG c s i x) ∧ (∀ (p : Nat) x y, s.procs[p]? = some x → c.procs[p]? = some y → ProcG c s fl x y) ∧ zeq2 c s
def ofR (p : Int) (i : Nat) : Prop := ofP c p i ∧ stP s p fun z => z.state < 5
def PartR (i : Nat) (x : PPart) : Prop :=
 (0 ≤ x.cursor ∧ (0 < x.cursor → x.cursor < manyP c i)) ∧ Cnt x.lost ∧ Cnt x.forbidden ∧ (0 < x.lost → c.log ≤ x.log.length) ∧
 (∀ (k : Nat) e, x.log[k]? = some e → (0 ≤ e.tick ∧ e.tick ≤ s.tick - 1) ∧ (∀ d, 0 < k → x.log[k - 1]? = some d → d.tick ≤ e.tick) ∧ ofP c e.proc i) ∧
 (∀ (k : Nat) o, x.owners[k]? = some o → (o = -1 ∨ ofR c s o i) ∧ ∀ q, x.queues[k]? = some q → (o = -1 → q = []) ∧ ∀ p ∈ q, ofR c s p i ∧ (stP s p fun z => z.state = 3) ∧ o ≠ p)
def ProcR (fl : Nat → Int → Prop) (x : PProcess) (y : PProc) : Prop :=
 (0 ≤ x.state ∧ x.state ≤ 6) ∧ (0 ≤ x.pc ∧ x.pc ≤ y.code.length) ∧ (0 ≤ x.cursor ∧ x.cursor < x.lanes.length) ∧
 (0 ≤ x.timer ∧ x.timer ≤ s.tick + 1099511627776) ∧ (0 ≤ x.wake ∧ x.wake ≤ s.tick + 1099511627776) ∧ (0 < x.wake ↔ x.state = 4) ∧ (5 ≤ x.state → x.timer = 0 ∧ x.fired = false) ∧
 (∀ (k : Nat) l, x.lanes[k]? = some l → Cnt l.taken ∧ Cnt l.dropped ∧ (k < c.labels.length → Used l → fl k y.part) ∧ (l.waiters ≠ [] → (k : Int) = y.part ∧ x.state < 5 ∧ c.lane ≤ l.values.length) ∧
  ∀ w ∈ l.waiters, (∀ i : Nat, (i : Int) = y.part → ofR c s w.proc i) ∧ stP s w.proc fun z => z.state = 2)
def WaitR (p i : Nat) (x : PProcess) (y : PProc) : Prop :=
 (∀ z, s.parts[i]? = some z → ∀ (k : Nat) q, z.queues[k]? = some q → (p : Int) ∈ q → ∃ n, insP y x.pc = some n ∧ n.op = 29 ∧ n.imm = (k : Int)) ∧
 (∀ (r : Nat) z, s.procs[r]? = some z → ∀ l, z.lanes[i]? = some l → ∀ w ∈ l.waiters, w.proc = (p : Int) → ∃ n, insP y x.pc = some n ∧ n.op = 24 ∧ x.regs[n.b.toNat]? = some (r : Int) ∧ x.regs[n.c.toNat]? = some w.value) ∧
 (∀ z, s.parts[i]? = some z → cntQ (p : Int) z = if x.state = 3 then 1 else 0) ∧ ((s.procs.map fun z => ((z.lanes[i]?).map (cntW (p : Int))).getD 0).sum = if x.state = 2 then 1 else 0) ∧
 (x.state = 1 → (∃ n, insP y x.pc = some n ∧ n.op = 25) ∧ (∀ l ∈ x.lanes, l.values = []) ∧ x.fired = false) ∧ (x.state = 4 → ∃ n, insP y x.pc = some n ∧ n.op = 28)
def zrl1 : Prop := zwk1 c s ∧ (∀ x ∈ s.parts, (x.owners.length : Int) = c.locks ∧ (x.queues.length : Int) = c.locks ∧ (x.log.length : Int) ≤ c.log) ∧
 ∀ x ∈ s.procs, x.lanes.length = c.labels.length + 1 ∧ ∀ l ∈ x.lanes, (l.values.length : Int) ≤ c.lane
def MayR (fl : Nat → Int → Prop) : Prop :=
 zrl1 c s ∧ (∀ (i : Nat) x, s.parts[i]? = some x → PartR c s i x) ∧ (∀ (p : Nat) x y, s.procs[p]? = some x → c.procs[p]? = some y → ProcR c s fl x y) ∧
 ∀ (p i : Nat) x y, s.procs[p]? = some x → c.procs[p]? = some y → y.part = (i : Int) → WaitR s p i x y
end
theorem zps1 {α : Type} (f : α → Nat) : ∀ (l : List α) (i : Nat), (∀ j x, l[j]? = some x → j ≠ i → f x = 0) → (l.map f).sum = ((l[i]?).map f).getD 0
 | [], i, _ => by simp
 | x :: r, 0, h => by
  have : (r.map f).sum = 0 := by
   rw [List.sum_eq_zero_iff_forall_eq_nat]
   intro y hy
   obtain ⟨z, hz, rfl⟩ := List.mem_map.1 hy
   obtain ⟨j, hj⟩ := List.getElem?_of_mem hz
   exact h (j + 1) z (by simpa using hj) (by omega)
  simp [this]
 | x :: r, i + 1, h => by
  have h0 := h 0 x rfl (by omega)
  have := zps1 f r i fun j y hj hne => h (j + 1) y (by simpa using hj) (by omega)
  simp [h0, this]
theorem zwl1 {α : Type} (f : α → Nat) (l : List α) (h : ∀ x ∈ l, f x = 0) : (l.map f).sum = 0 := by
 rw [List.sum_eq_zero_iff_forall_eq_nat]
 intro y hy
 obtain ⟨z, hz, rfl⟩ := List.mem_map.1 hy
 exact h z hz
theorem ztw1 {α : Type} (f : α → Nat) : ∀ (l : List α), 0 < (l.map f).sum → ∃ x ∈ l, 0 < f x
 | [], h => by simp at h
 | x :: r, h => by
  by_cases hx : 0 < f x
  ·exact ⟨x, List.mem_cons_self .., hx⟩
  ·have h2 : 0 < (r.map f).sum := by
    simp at h
    omega
   obtain ⟨y, hy, h3⟩ := ztw1 f r h2
   exact ⟨y, List.mem_cons_of_mem _ hy, h3⟩
end Lf

namespace Lf
section
variable {c : PCfg} {s : PState}
theorem zan2 {i : Nat} : ∀ {l : List znx} {last : Int}, LogG c s i last l → ∀ (k : Nat) e, l[k]? = some e → last ≤ e.tick ∧ e.tick < s.tick ∧ ofP c e.proc i ∧ ∀ d, 0 < k → l[k - 1]? = some d → d.tick ≤ e.tick
 | [], _, _, k, e, he => by simp at he
 | x :: r, last, h, 0, e, he => by
  obtain ⟨h1, h2, h3, _⟩ := h
  cases he
  exact ⟨h1, h2, h3, fun d hd => absurd hd (by omega)⟩
 | x :: r, last, h, k + 1, e, he => by
  obtain ⟨h1, h2, h3, h4⟩ := h
  obtain ⟨g1, g2, g3, g4⟩ := zan2 h4 k e (by simpa using he)
  refine ⟨by omega, g2, g3, fun d _ hd => ?_⟩
  cases k with
  | zero =>
   cases hd
   exact g1
  | succ k => exact g4 d (by omega) hd
theorem zao2 {i : Nat} : ∀ {l : List znx} {last : Int}, (∀ e, l[0]? = some e → last ≤ e.tick) → (∀ (k : Nat) e, l[k]? = some e → e.tick < s.tick ∧ ofP c e.proc i ∧ ∀ d, 0 < k → l[k - 1]? = some d → d.tick ≤ e.tick) → LogG c s i last l
 | [], _, _, _ => trivial
 | x :: r, last, h0, h => by
  obtain ⟨h1, h2, _⟩ := h 0 x rfl
  refine ⟨h0 x rfl, h1, h2, zao2 (fun e he => ?_) fun k e he => ?_⟩
  ·exact (h 1 e he).2.2 x (by omega) rfl
  ·obtain ⟨g1, g2, g3⟩ := h (k + 1) e he
   refine ⟨g1, g2, fun d hk hd => g3 d (by omega) ?_⟩
   obtain ⟨j, rfl⟩ : ∃ j, k = j + 1 := ⟨k - 1, by omega⟩
   exact hd
theorem zwm1 {p i : Nat} {y : PProc} (h : ofP c (p : Int) i) (hy : c.procs[p]? = some y) : y.part = (i : Int) := by
 obtain ⟨_, z, hz, hp⟩ := h
 rw [Int.toNat_natCast, hy] at hz
 cases hz
 exact hp
theorem zrm1 {p : Int} {x : PPart} (h : ∀ (k : Nat) q, x.queues[k]? = some q → p ∉ q) : cntQ p x = 0 := by
 refine zwl1 _ _ fun q hq => ?_
 obtain ⟨k, hk⟩ := List.getElem?_of_mem hq
 rw [List.countP_eq_zero]
 intro z hz e
 have e : z = p := by simpa using e
 exact h k q hk (e ▸ hz)
theorem zdd2 {p : Int} {x : PPart} (h : 0 < cntQ p x) : ∃ (k : Nat) (q : List Int), x.queues[k]? = some q ∧ p ∈ q := by
 obtain ⟨q, hq, hp⟩ := ztw1 _ _ h
 obtain ⟨k, hk⟩ := List.getElem?_of_mem hq
 obtain ⟨z, hz, e⟩ := List.countP_pos_iff.1 hp
 have e : z = p := by simpa using e
 exact ⟨k, q, hk, e ▸ hz⟩
theorem zrn1 {p : Int} {l : PLane} (h : ∀ w ∈ l.waiters, w.proc ≠ p) : cntW p l = 0 := by
 unfold cntW
 rw [List.countP_eq_zero]
 intro w hw e
 exact h w hw (by simpa using e)
theorem zde2 {p : Int} {l : PLane} (h : 0 < cntW p l) : ∃ w ∈ l.waiters, w.proc = p := by
 obtain ⟨w, hw, e⟩ := List.countP_pos_iff.1 h
 exact ⟨w, hw, by simpa using e⟩
theorem sumQ {p i : Nat} {y : PProc} (hy : c.procs[p]? = some y) (hi : y.part = (i : Int))
  (hq : ∀ (j : Nat) x, s.parts[j]? = some x → ∀ (k : Nat) q, x.queues[k]? = some q → ∀ z ∈ q, ofP c z j) : (s.parts.map (cntQ (p : Int))).sum = ((s.parts[i]?).map (cntQ (p : Int))).getD 0 := by
 refine zps1 _ _ _ fun j x hx hj => zrm1 fun k q hk hp => ?_
 have := zwm1 (hq j x hx k q hk _ hp) hy
 omega
theorem sumL {p i : Nat} {y : PProc} (hy : c.procs[p]? = some y) (hi : y.part = (i : Int))
  (hw : ∀ (r : Nat) x, s.procs[r]? = some x → ∀ (j : Nat) l, x.lanes[j]? = some l → ∀ w ∈ l.waiters, ofP c w.proc j) :
  (s.procs.map (cntL (p : Int))).sum = (s.procs.map fun z => ((z.lanes[i]?).map (cntW (p : Int))).getD 0).sum := by
 congr 1
 refine List.map_congr_left fun z hz => ?_
 obtain ⟨r, hr⟩ := List.getElem?_of_mem hz
 refine zps1 _ _ _ fun j l hl hj => zrn1 fun w hw2 e => ?_
 have h := hw r z hr j l hl w hw2
 rw [e] at h
 have := zwm1 h hy
 omega
end
section
variable {c : PCfg} {s : PState} {fl : Nat → Int → Prop}
theorem zfv1 {α : Type} {l : List α} {i : Nat} {a b : α} (h1 : l[i]? = some a) (h2 : l[i]? = some b) : a = b := Option.some.inj (h1.symm.trans h2)
theorem zln1 {α β : Type} {l : List α} {m : List β} {i : Nat} {a : α} (h : l[i]? = some a) (hl : l.length = m.length) : ∃ b, m[i]? = some b := by
 have := (List.getElem?_eq_some_iff.1 h).1
 exact ⟨m[i]'(by omega), by rw [List.getElem?_eq_getElem]⟩
theorem zfe2 (hpart : ∀ y ∈ c.procs, 0 ≤ y.part ∧ y.part < c.labels.length) (h : MayG c s fl) : MayR c s fl := by
 obtain ⟨hS, hP, hQ, w1, w2, w3⟩ := h
 have hq : ∀ (j : Nat) x, s.parts[j]? = some x → ∀ (k : Nat) q, x.queues[k]? = some q → ∀ z ∈ q, ofP c z j := fun j x hx k q hk z hz => (w1 j x hx k q hk z hz).1
 have hw : ∀ (r : Nat) x, s.procs[r]? = some x → ∀ (j : Nat) l, x.lanes[j]? = some l → ∀ w ∈ l.waiters, ofP c w.proc j := fun r x hx j l hl w hww => by
  obtain ⟨y, hy⟩ := zln1 hx hS.2.2
  exact (w2 r x y hx hy j l hl w hww).2.1
 have st3 : ∀ (p : Int) (q : PProcess → PIns → Prop), (atP c s p fun z n => z.state = 3 ∧ q z n) → stP s p fun z => z.state = 3 := fun p q ⟨x, y, n, h1, h2, h3, h4, h5⟩ => ⟨x, h1, h4⟩
 have st2 : ∀ (p v : Int) (r : Nat), zlm1 c s p v r → stP s p fun z => z.state = 2 := fun p v r ⟨x, y, n, h1, h2, h3, h4, h5⟩ => ⟨x, h1, h4⟩
 refine ⟨⟨hS, fun x hx => ?_, fun x hx => ?_⟩, fun i x hx => ?_, fun p x y hx hy => ?_, fun p i x y hx hy hi => ?_⟩
 ·obtain ⟨i, hi⟩ := List.getElem?_of_mem hx
  obtain ⟨⟨_, _, g1⟩, _, _, _, _, g2, g3, _⟩ := hP i x hi
  exact ⟨g2, g3, g1⟩
 ·obtain ⟨p, hp⟩ := List.getElem?_of_mem hx
  obtain ⟨y, hy⟩ := zln1 hp hS.2.2
  obtain ⟨_, _, g1, _, _, _, _, _, g2, _⟩ := hQ p x y hp hy
  refine ⟨g1, fun l hl => ?_⟩
  obtain ⟨i, hi⟩ := List.getElem?_of_mem hl
  exact (g2 i l hi).1
 ·obtain ⟨⟨g1, g2, g3⟩, g4, g5, g6, g7, g8, g9, g10⟩ := hP i x hx
  refine ⟨⟨g1, g2⟩, g5, g6, g7, fun k e he => ?_, fun k o ho => ⟨?_, fun q hk => ⟨fun e => ?_, fun p hp => ?_⟩⟩⟩
  ·obtain ⟨a1, a2, a3, a4⟩ := zan2 g4 k e he
   exact ⟨⟨a1, by omega⟩, a4, a3⟩
  ·by_cases e : o = -1
   ·exact .inl e
   ·obtain ⟨a1, z, a2, a3⟩ := g10 o (List.mem_of_getElem? ho) e
    refine .inr ⟨a1, z, a2, ?_⟩
    obtain ⟨y, hy⟩ := zln1 a2 hS.2.2
    have := (hQ _ z y a2 hy).1
    omega
  ·cases q with
   | nil => rfl
   | cons p q =>
    obtain ⟨_, _, o', b1, b2, _⟩ := w1 i x hx k _ hk p (List.mem_cons_self ..)
    have := zfv1 ho b1
    omega
  ·obtain ⟨b0, b1, o', b2, b3, b4⟩ := w1 i x hx k q hk p hp
   obtain ⟨z, c1, c2⟩ := st3 p _ b1
   have := zfv1 ho b2
   subst this
   exact ⟨⟨b0, z, c1, by omega⟩, ⟨z, c1, c2⟩, b4⟩
 ·obtain ⟨g1, g2, g3, g4, g5, g6, g7, g8, g9, _⟩ := hQ p x y hx hy
  refine ⟨g1, g2, g4, g5, g6, g7, fun e => g8 (by omega), fun k l hl => ?_⟩
  obtain ⟨a1, a2, a3, a4⟩ := g9 k l hl
  refine ⟨a2, a3, fun hk hu => a4 hu hk, fun hne => ?_, fun w hww => ?_⟩
  ·obtain ⟨w, hww⟩ := List.exists_mem_of_ne_nil _ hne
   obtain ⟨b1, b2, b3, b4, b5⟩ := w2 p x y hx hy k l hl w hww
   exact ⟨b1, by omega, by omega⟩
  ·obtain ⟨b1, b2, b3, b4, b5⟩ := w2 p x y hx hy k l hl w hww
   obtain ⟨z, c1, c2⟩ := st2 _ _ _ b5
   refine ⟨fun i hi => ?_, z, c1, c2⟩
   have : k = i := by omega
   subst this
   exact ⟨b2, z, c1, by omega⟩
 ·obtain ⟨g1, _, _, _, _, _, _, _, _, g10, g11, g12, g13⟩ := hQ p x y hx hy
  have e3 : ∀ z, s.parts[i]? = some z → ∀ (k : Nat) q, z.queues[k]? = some q → (p : Int) ∈ q → x.state = 3 ∧ ∃ n, insP y x.pc = some n ∧ n.op = 29 ∧ n.imm = (k : Int) := fun z hz k q hk hpq => by
   obtain ⟨_, ⟨x', y', n, b1, b2, b3, b4, b5⟩, _⟩ := w1 i z hz k q hk p hpq
   rw [Int.toNat_natCast] at b1 b2
   obtain rfl := zfv1 hx b1
   obtain rfl := zfv1 hy b2
   obtain ⟨n', c1, c2⟩ := g12 b4
   rw [b3] at c1
   cases c1
   exact ⟨b4, n, b3, c2, b5⟩
  have e2 : ∀ (r : Nat) z, s.procs[r]? = some z → ∀ l, z.lanes[i]? = some l → ∀ w ∈ l.waiters, w.proc = (p : Int) → x.state = 2 ∧ ∃ n, insP y x.pc = some n ∧ n.op = 24 ∧ x.regs[n.b.toNat]? = some (r : Int) ∧ x.regs[n.c.toNat]? = some w.value := fun r z hz l hl w hww hwp => by
   obtain ⟨y', hy'⟩ := zln1 hz hS.2.2
   obtain ⟨_, _, _, _, x', y'', n, b1, b2, b3, b4, b5, b6, b7⟩ := w2 r z y' hz hy' i l hl w hww
   rw [hwp, Int.toNat_natCast] at b1 b2
   obtain rfl := zfv1 hx b1
   obtain rfl := zfv1 hy b2
   exact ⟨b4, n, b3, b5, b6, b7⟩
  have t := w3 p x hx
  rw [sumQ hy hi hq, sumL hy hi hw] at t
  have z2 : x.state ≠ 2 → (s.procs.map fun z => ((z.lanes[i]?).map (cntW (p : Int))).getD 0).sum = 0 := fun hne => by
   refine zwl1 _ _ fun z hz => ?_
   obtain ⟨r, hr⟩ := List.getElem?_of_mem hz
   cases hl : z.lanes[i]? with
   | none => rfl
   | some l => exact zrn1 fun w hww hwp => hne (e2 r z hr l hl w hww hwp).1
  have z3 : x.state ≠ 3 → ((s.parts[i]?).map (cntQ (p : Int))).getD 0 = 0 := fun hne => by
   cases hz : s.parts[i]? with
   | none => rfl
   | some z => exact zrm1 fun k q hk hpq => hne (e3 z hz k q hk hpq).1
  refine ⟨fun z hz k q hk hpq => (e3 z hz k q hk hpq).2, fun r z hz l hl w hww hwp => (e2 r z hz l hl w hww hwp).2, fun z hz => ?_, ?_, g10, g13⟩
  ·rw [hz] at t z3
   have t : cntQ (p : Int) z + _ = _ := t
   have z3 : x.state ≠ 3 → cntQ (p : Int) z = 0 := z3
   by_cases h3 : x.state = 3
   ·rw [z2 (by omega), if_pos (.inl h3)] at t
    rw [if_pos h3]; omega
   ·rw [if_neg h3, z3 h3]
  ·by_cases h2 : x.state = 2
   ·rw [z3 (by omega), if_pos (.inr h2)] at t
    rw [if_pos h2]; omega
   ·rw [if_neg h2, z2 h2]
theorem zff2 (hpart : ∀ y ∈ c.procs, 0 ≤ y.part ∧ y.part < c.labels.length) (h : MayR c s fl) : MayG c s fl := by
 obtain ⟨⟨hS, s1, s2⟩, hP, hQ, hW⟩ := h
 have hpt : ∀ (p : Nat) y, c.procs[p]? = some y → ∃ i : Nat, y.part = (i : Int) ∧ ∃ z, s.parts[i]? = some z := fun p y hy => by
  obtain ⟨a1, a2⟩ := hpart y (List.mem_of_getElem? hy)
  refine ⟨y.part.toNat, by omega, s.parts[y.part.toNat]'(by have := hS.2.1; omega), by rw [List.getElem?_eq_getElem]⟩
 have own : ∀ (i : Nat) x, s.parts[i]? = some x → ∀ (k : Nat) q, x.queues[k]? = some q → ∃ o, x.owners[k]? = some o := fun i x hx k q hk => by
  obtain ⟨a1, a2, _⟩ := s1 x (List.mem_of_getElem? hx)
  exact zln1 hk (by omega)
 have hq : ∀ (j : Nat) x, s.parts[j]? = some x → ∀ (k : Nat) q, x.queues[k]? = some q → ∀ z ∈ q, ofP c z j := fun j x hx k q hk z hz => by
  obtain ⟨o, ho⟩ := own j x hx k q hk
  exact ((((hP j x hx).2.2.2.2.2 k o ho).2 q hk).2 z hz).1.1
 have hw : ∀ (r : Nat) x, s.procs[r]? = some x → ∀ (j : Nat) l, x.lanes[j]? = some l → ∀ w ∈ l.waiters, ofP c w.proc j := fun r x hx j l hl w hww => by
  obtain ⟨y, hy⟩ := zln1 hx hS.2.2
  obtain ⟨_, _, _, b1, b2⟩ := (hQ r x y hx hy).2.2.2.2.2.2.2 j l hl
  exact ((b2 w hww).1 j (b1 (List.ne_nil_of_mem hww)).1).1
 refine ⟨hS, fun i x hx => ?_, fun p x y hx hy => ?_, fun i x hx k q hk p hp => ?_, fun r x y hx hy i l hl w hww => ?_, fun p x hx => ?_⟩
 ·obtain ⟨a1, a2, a3⟩ := s1 x (List.mem_of_getElem? hx)
  obtain ⟨g1, g2, g3, g4, g5, g6⟩ := hP i x hx
  refine ⟨⟨g1.1, g1.2, a3⟩, zao2 (fun e he => (g5 0 e he).1.1) (fun k e he => ?_), g2, g3, g4, a1, a2, fun p hp hne => ?_⟩
  ·obtain ⟨b1, b2, b3⟩ := g5 k e he
   exact ⟨by omega, b3, b2⟩
  ·obtain ⟨k, hk⟩ := List.getElem?_of_mem hp
   obtain ⟨b1, z, b2, b3⟩ := (g6 k p hk).1.resolve_left hne
   exact ⟨b1, z, b2, by omega, by omega⟩
 ·obtain ⟨a1, a2⟩ := s2 x (List.mem_of_getElem? hx)
  obtain ⟨g1, g2, g3, g4, g5, g6, g7, g8⟩ := hQ p x y hx hy
  obtain ⟨i, hi, z, hz⟩ := hpt p y hy
  obtain ⟨c1, c2, c3, c4, c5, c6⟩ := hW p i x y hx hy hi
  refine ⟨g1, g2, a1, g3, g4, g5, g6, fun e => g7 (by omega), fun k l hl => ?_, c5, fun h2 => ?_, fun h3 => ?_, c6⟩
  ·obtain ⟨b1, b2, b3, _⟩ := g8 k l hl
   exact ⟨a2 l (List.mem_of_getElem? hl), b1, b2, fun hu hk => b3 hk hu⟩
  ·rw [if_pos h2] at c4
   obtain ⟨z', hz', hpos⟩ := ztw1 _ _ (show 0 < _ by rw [c4]; omega)
   obtain ⟨r, hr⟩ := List.getElem?_of_mem hz'
   cases hl : z'.lanes[i]? with
   | none => rw [hl] at hpos; simp at hpos
   | some l =>
    rw [hl] at hpos
    obtain ⟨w, hww, hwp⟩ := zde2 hpos
    obtain ⟨n, d1, d2, _⟩ := c2 r z' hr l hl w hww hwp
    exact ⟨n, d1, d2⟩
  ·have := c3 z hz
   rw [if_pos h3] at this
   obtain ⟨k, q, hk, hpq⟩ := zdd2 (show 0 < cntQ (p : Int) z by omega)
   obtain ⟨n, d1, d2, _⟩ := c1 z hz k q hk hpq
   exact ⟨n, d1, d2⟩
 ·obtain ⟨o, ho⟩ := own i x hx k q hk
  obtain ⟨b1, b2⟩ := (hP i x hx).2.2.2.2.2 k o ho
  obtain ⟨b3, b4⟩ := b2 q hk
  obtain ⟨⟨d1, z, d2, d3⟩, ⟨z', d4, d5⟩, d6⟩ := b4 p hp
  obtain ⟨d0, y, d7, d8⟩ := d1
  obtain rfl := zfv1 d2 d4
  have hpc : ((p.toNat : Nat) : Int) = p := by omega
  obtain ⟨c1, _⟩ := hW p.toNat i z y d2 d7 d8
  obtain ⟨n, f1, f2, f3⟩ := c1 x hx k q hk (by rw [hpc]; exact hp)
  refine ⟨⟨d0, y, d7, d8⟩, ⟨z, y, n, d2, d7, f1, d5, f3⟩, o, ho, ?_, d6⟩
  rcases b1 with e | e
  ·rw [b3 e] at hp; cases hp
  ·exact e.1.1
 ·obtain ⟨_, _, _, b1, b2⟩ := (hQ r x y hx hy).2.2.2.2.2.2.2 i l hl
  obtain ⟨e1, e2, e3⟩ := b1 (List.ne_nil_of_mem hww)
  obtain ⟨f1, z', f2, f3⟩ := b2 w hww
  obtain ⟨⟨d0, y', d7, d8⟩, _⟩ := f1 i e1
  have hv := (s2 x (List.mem_of_getElem? hx)).2 l (List.mem_of_getElem? hl)
  have hpc : ((w.proc.toNat : Nat) : Int) = w.proc := by omega
  obtain ⟨_, c2, _⟩ := hW w.proc.toNat i z' y' f2 d7 d8
  obtain ⟨n, g1, g2, g3, g4⟩ := c2 r x hx l hl w hww hpc.symm
  exact ⟨e1, ⟨d0, y', d7, d8⟩, by omega, by omega, z', y', n, f2, d7, g1, f3, g2, g3, g4⟩
 ·obtain ⟨y, hy⟩ := zln1 hx hS.2.2
  obtain ⟨i, hi, z, hz⟩ := hpt p y hy
  obtain ⟨_, _, c3, c4, _⟩ := hW p i x y hx hy hi
  rw [sumQ hy hi hq, sumL hy hi hw, hz, c4]
  show cntQ (p : Int) z + _ = _
  rw [c3 z hz]
  by_cases h3 : x.state = 3
  ·rw [if_pos h3, if_neg (by omega), if_pos (.inl h3)]
  ·by_cases h2 : x.state = 2
   ·rw [if_neg h3, if_pos h2, if_pos (.inr h2)]
   ·rw [if_neg h3, if_neg h2, if_neg (by omega)]
theorem zfg2 (hpart : ∀ y ∈ c.procs, 0 ≤ y.part ∧ y.part < c.labels.length) : MayG c s fl ↔ MayR c s fl := ⟨zfe2 hpart, zff2 hpart⟩
end
end Lf

namespace Lf
abbrev D (α : Type) : Type := List UInt8 → Nat → Except (Int × Nat) (α × Nat)
namespace D
variable {α β : Type}
def ret (x : α) : D α := fun _ at_ => .ok (x, at_)
def bind (d : D α) (f : α → D β) : D β := fun b at_ => match d b at_ with
 | .ok (x, at2) => f x b at2
 | .error e => .error e
def num (k : Nat) : D Nat := fun b at_ => if b.length < at_ + k then .error (5, b.length) else .ok (valB ((b.drop at_).take k), at_ + k)
def must (d : D α) (wrong : α → Int) : D α := fun b at_ => match d b at_ with
 | .ok (x, at2) => if wrong x = 0 then .ok (x, at2) else .error (wrong x, at_)
 | .error e => .error e
def many (d : List α → D α) : Nat → List α → D (List α)
 | 0, acc => ret acc
 | n + 1, acc => bind (d acc) fun x => many d n (acc ++ [x])
def map (f : α → β) (d : D α) : D β := bind d fun x => ret (f x)
structure Law (d : D α) (enc : α → List UInt8) (valid : α → Prop) : Prop where
 back : ∀ x, valid x → ∀ u t, d (u ++ (enc x ++ t)) u.length = .ok (x, u.length + (enc x).length)
 sound : ∀ b at_ x at2, d b at_ = .ok (x, at2) → at_ ≤ b.length → valid x ∧ at2 = at_ + (enc x).length ∧ ∃ t, b.drop at_ = enc x ++ t
 cut : ∀ x, valid x → ∀ u t r, enc x = t ++ r → r ≠ [] → d (u ++ t) u.length = .error (5, u.length + t.length)
theorem Law.within {d : D α} {enc : α → List UInt8} {valid : α → Prop} (L : Law d enc valid) {b : List UInt8} {at_ at2 : Nat} {x : α} (h : d b at_ = .ok (x, at2)) (ha : at_ ≤ b.length) : at2 ≤ b.length := by
 obtain ⟨_, h2, t, ht⟩ := L.sound b at_ x at2 h ha
 have := congrArg List.length ht
 rw [List.length_drop, List.length_append] at this
 omega
theorem law_num (k : Nat) : Law (num k) (fun n => leB (n : Int) k) (fun n => n < 256 ^ k) where
 back := fun x hx u t => by
  unfold num
  have hl := zap (x : Int) k
  rw [if_neg (by simp [hl])]
  have e : ((u ++ (leB (x : Int) k ++ t)).drop u.length).take k = leB (x : Int) k := by
   rw [List.drop_left, List.take_left' hl]
  rw [e]
  have h1 := zhr1 (x : Int) k
  have h2 : (x : Int) % ((256 ^ k : Nat) : Int) = (x : Int) := Int.emod_eq_of_lt (by omega) (by exact_mod_cast hx)
  rw [h2] at h1
  have h3 : valB (leB (x : Int) k) = x := by exact_mod_cast h1
  rw [h3, hl]
 sound := fun b at_ x at2 h ha => by
  unfold num at h
  by_cases hc : b.length < at_ + k
  ·rw [if_pos hc] at h; cases h
  ·rw [if_neg hc] at h
   cases h
   have hl : ((b.drop at_).take k).length = k := by rw [List.length_take, List.length_drop]; omega
   have h1 := zzo ((b.drop at_).take k)
   rw [hl] at h1
   have h2 := zzp ((b.drop at_).take k)
   rw [hl] at h2
   refine ⟨h1, by rw [zap], (b.drop at_).drop k, ?_⟩
   rw [h2, List.take_append_drop]
 cut := fun x hx u t r he hr => by
  unfold num
  have hl := zap (x : Int) k
  rw [he, List.length_append] at hl
  have : 0 < r.length := List.length_pos_iff.2 hr
  rw [if_pos (by rw [List.length_append]; omega), List.length_append]
theorem law_ret (x : α) : Law (ret x) (fun _ => []) (fun y => y = x) where
 back := fun y hy u t => by subst hy; rfl
 sound := fun b at_ y at2 h _ => by
  cases h
  exact ⟨rfl, rfl, _, rfl⟩
 cut := fun y _ u t r he hr => by
  exact absurd (List.append_eq_nil_iff.1 he.symm).2 hr
theorem law_seq {γ : Type} {d1 : D α} {d2 : α → D β} {e1 : α → List UInt8} {e2 : α → β → List UInt8} {v1 : α → Prop} {v2 : α → β → Prop} (f : α → β → γ) (g : γ → α × β) (hfg : ∀ x y, v1 x → v2 x y → g (f x y) = (x, y)) (hgf : ∀ z, f (g z).1 (g z).2 = z)
  (L1 : Law d1 e1 v1) (L2 : ∀ x, v1 x → Law (d2 x) (e2 x) (v2 x)) :
  Law (bind d1 fun x => bind (d2 x) fun y => ret (f x y)) (fun z => e1 (g z).1 ++ e2 (g z).1 (g z).2) (fun z => v1 (g z).1 ∧ v2 (g z).1 (g z).2) where
 back := fun z hz u t => by
  obtain ⟨h1, h2⟩ := hz
  have a := L1.back _ h1 u (e2 (g z).1 (g z).2 ++ t)
  have b := (L2 _ h1).back _ h2 (u ++ e1 (g z).1) t
  rw [List.append_assoc] at b
  simp only [bind]
  rw [List.append_assoc, a]
  dsimp only
  rw [List.length_append] at b
  rw [b]
  dsimp only [ret]
  rw [hgf, List.length_append, Nat.add_assoc]
 sound := fun b at_ z at2 h ha => by
  simp only [bind] at h
  cases h1 : d1 b at_ with
  | error e => rw [h1] at h; cases h
  | ok p =>
   obtain ⟨x, a1⟩ := p
   rw [h1] at h
   dsimp only at h
   obtain ⟨g1, g2, t1, g3⟩ := L1.sound b at_ x a1 h1 ha
   cases h2 : d2 x b a1 with
   | error e => rw [h2] at h; cases h
   | ok q =>
    obtain ⟨y, a2⟩ := q
    rw [h2] at h
    dsimp only [ret] at h
    cases h
    obtain ⟨k1, k2, t2, k3⟩ := (L2 x g1).sound b a1 y _ h2 (L1.within h1 ha)
    rw [hfg x y g1 k1]
    dsimp only
    refine ⟨⟨g1, k1⟩, by rw [List.length_append]; omega, t2, ?_⟩
    rw [g2] at k3
    rw [← List.drop_drop, g3, List.drop_left] at k3
    rw [g3, k3, List.append_assoc]
 cut := fun z hz u t r he hr => by
  obtain ⟨h1, h2⟩ := hz
  simp only [bind]
  by_cases hl : t.length < (e1 (g z).1).length
  · -- cut in the first
   obtain ⟨r1, hr1⟩ : ∃ r1, e1 (g z).1 = t ++ r1 := by
    have hp : t <+: e1 (g z).1 := List.prefix_of_prefix_length_le ⟨r, he.symm⟩ (List.prefix_append _ _) (Nat.le_of_lt hl)
    obtain ⟨r1, hr1⟩ := hp
    exact ⟨r1, hr1.symm⟩
   have hne : r1 ≠ [] := fun e => by
    rw [e, List.append_nil] at hr1
    rw [hr1] at hl
    omega
   rw [L1.cut _ h1 u t r1 hr1 hne]
  ·obtain ⟨t2, ht2⟩ : ∃ t2, t = e1 (g z).1 ++ t2 := by
    have hp : e1 (g z).1 <+: t := List.prefix_of_prefix_length_le (List.prefix_append _ _) ⟨r, he.symm⟩ (by omega)
    obtain ⟨t2, ht2⟩ := hp
    exact ⟨t2, ht2.symm⟩
   subst ht2
   have he2 : e2 (g z).1 (g z).2 = t2 ++ r := by
    rw [List.append_assoc] at he
    exact List.append_cancel_left he
   have a := L1.back _ h1 u t2
   rw [a]
   dsimp only
   have b := (L2 _ h1).cut _ h2 (u ++ e1 (g z).1) t2 r he2 hr
   rw [List.append_assoc, List.length_append] at b
   rw [b]
   simp [Nat.add_assoc]
theorem law_must {d : D α} {enc : α → List UInt8} {valid : α → Prop} (L : Law d enc valid) (wrong : α → Int) : Law (must d wrong) enc (fun x => valid x ∧ wrong x = 0) where
 back := fun x hx u t => by
  simp only [must, L.back x hx.1 u t, if_pos hx.2]
 sound := fun b at_ x at2 h ha => by
  simp only [must] at h
  cases h1 : d b at_ with
  | error e => rw [h1] at h; cases h
  | ok p =>
   obtain ⟨y, a1⟩ := p
   rw [h1] at h
   dsimp only at h
   by_cases hw : wrong y = 0
   ·rw [if_pos hw] at h
    cases h
    obtain ⟨g1, g2, g3⟩ := L.sound b at_ x at2 h1 ha
    exact ⟨⟨g1, hw⟩, g2, g3⟩
   ·rw [if_neg hw] at h; cases h
 cut := fun x hx u t r he hr => by
  simp only [must, L.cut x hx.1 u t r he hr]
theorem Law.congr {d : D α} {enc enc' : α → List UInt8} {valid valid' : α → Prop} (L : Law d enc valid) (hv : ∀ x, valid x ↔ valid' x) (he : ∀ x, valid x → enc x = enc' x) : Law d enc' valid' where
 back := fun x hx u t => by
  have hx := (hv x).2 hx
  rw [← he x hx]
  exact L.back x hx u t
 sound := fun b at_ x at2 h ha => by
  obtain ⟨h1, h2, h3⟩ := L.sound b at_ x at2 h ha
  rw [← he x h1]
  exact ⟨(hv x).1 h1, h2, h3⟩
 cut := fun x hx u t r hr hne => by
  have hx := (hv x).2 hx
  rw [← he x hx] at hr
  exact L.cut x hx u t r hr hne
theorem law_map {d : D α} {enc : α → List UInt8} {valid : α → Prop} (h : α → β) {enc' : β → List UInt8} {valid' : β → Prop} (L : Law d enc valid) (hv : ∀ y, valid' y ↔ ∃ x, valid x ∧ h x = y) (he : ∀ x, valid x → enc' (h x) = enc x) : Law (map h d) enc' valid' where
 back := fun y hy u t => by
  obtain ⟨x, hx, rfl⟩ := (hv y).1 hy
  rw [he x hx]
  simp only [map, bind, L.back x hx u t]
  rfl
 sound := fun b at_ y at2 hh ha => by
  simp only [map, bind] at hh
  cases h1 : d b at_ with
  | error e => rw [h1] at hh; cases hh
  | ok p =>
   obtain ⟨x, a1⟩ := p
   rw [h1] at hh
   dsimp only [ret] at hh
   cases hh
   obtain ⟨g1, g2, g3⟩ := L.sound b at_ x _ h1 ha
   rw [he x g1]
   exact ⟨(hv _).2 ⟨x, g1, rfl⟩, g2, g3⟩
 cut := fun y hy u t r hr hne => by
  obtain ⟨x, hx, rfl⟩ := (hv y).1 hy
  rw [he x hx] at hr
  simp only [map, bind, L.cut x hx u t r hr hne]
def manyV (v : List α → α → Prop) : List α → List α → Prop
 | _, [] => True
 | acc, x :: r => v acc x ∧ manyV v (acc ++ [x]) r
theorem zap2 (d1 : D α) (d2 : α → D β) : map (fun z : α × β => z.2) (bind d1 fun x => bind (d2 x) fun y => ret (x, y)) = bind d1 d2 := by
 funext b at_
 simp only [map, bind]
 cases d1 b at_ with
 | error e => rfl
 | ok p =>
  obtain ⟨x, a1⟩ := p
  dsimp only
  cases d2 x b a1 with
  | error e => rfl
  | ok q => rfl
theorem law_many {d : List α → D α} {e : α → List UInt8} {v : List α → α → Prop} (L : ∀ acc, Law (d acc) e (v acc)) : ∀ (n : Nat) (acc : List α),
  Law (many d n acc) (fun z => (z.drop acc.length).flatMap e) (fun z => ∃ xs, z = acc ++ xs ∧ xs.length = n ∧ manyV v acc xs)
 | 0, acc => by
  refine (law_ret acc).congr (fun z => ⟨fun h => ⟨[], by rw [h, List.append_nil], rfl, trivial⟩, ?_⟩) fun z h => ?_
  ·rintro ⟨xs, rfl, hl, _⟩
   rw [List.length_eq_zero_iff.1 hl, List.append_nil]
  ·rw [h, List.drop_length]; rfl
 | n + 1, acc => by
  have h := law_seq (γ := α × List α) (d1 := d acc) (d2 := fun x => many d n (acc ++ [x])) Prod.mk id (fun _ _ _ _ => rfl) (fun _ => rfl) (L acc) fun x _ => law_many L n (acc ++ [x])
  have h2 := law_map (h := fun z : α × List α => z.2) (enc' := fun z => (z.drop acc.length).flatMap e) (valid' := fun z => ∃ xs, z = acc ++ xs ∧ xs.length = n + 1 ∧ manyV v acc xs) h (fun y => ⟨?_, ?_⟩) ?_
  ·rw [zap2] at h2
   exact h2
  ·rintro ⟨xs, rfl, hl, hm⟩
   cases xs with
   | nil => simp at hl
   | cons x r => exact ⟨(x, acc ++ x :: r), ⟨hm.1, r, by simp, by simpa using hl, hm.2⟩, rfl⟩
  ·rintro ⟨⟨x, z⟩, ⟨h1, r, h3, h4, h5⟩, rfl⟩
   have h3 : z = acc ++ [x] ++ r := h3
   refine ⟨x :: r, by simp [h3], by simp [h4], h1, h5⟩
  ·rintro ⟨x, z⟩ ⟨h1, r, h3, h4, h5⟩
   have h3 : z = acc ++ [x] ++ r := h3
   subst h3
   show ((acc ++ [x] ++ r).drop acc.length).flatMap e = e x ++ ((acc ++ [x] ++ r).drop (acc ++ [x]).length).flatMap e
   rw [List.drop_left, List.append_assoc, List.drop_left]
   rfl
end D
end Lf

namespace Lf
namespace D
variable {α γ : Type}
theorem law_bind {d1 : D α} {d2 : α → D γ} {e1 : α → List UInt8} {e2 : α → γ → List UInt8} {v1 : α → Prop} {v2 : α → γ → Prop} (g : γ → α) (hg : ∀ x z, v1 x → v2 x z → g z = x)
  (L1 : Law d1 e1 v1) (L2 : ∀ x, v1 x → Law (d2 x) (e2 x) (v2 x)) : Law (bind d1 d2) (fun z => e1 (g z) ++ e2 (g z) z) (fun z => v1 (g z) ∧ v2 (g z) z) := by
 have h := law_seq (γ := α × γ) Prod.mk id (fun _ _ _ _ => rfl) (fun _ => rfl) L1 L2
 have h2 := law_map (h := fun z : α × γ => z.2) (enc' := fun z => e1 (g z) ++ e2 (g z) z) (valid' := fun z => v1 (g z) ∧ v2 (g z) z) h (fun y => ⟨?_, ?_⟩) ?_
 ·rw [zap2] at h2
  exact h2
 ·rintro ⟨h1, h3⟩
  exact ⟨(g y, y), ⟨h1, h3⟩, rfl⟩
 ·rintro ⟨⟨x, z⟩, ⟨h1, h3⟩, rfl⟩
  have h1 : v1 x := h1
  have h3 : v2 x z := h3
  show v1 (g z) ∧ v2 (g z) z
  rw [hg x z h1 h3]
  exact ⟨h1, h3⟩
 ·rintro ⟨x, z⟩ ⟨h1, h3⟩
  have h1 : v1 x := h1
  have h3 : v2 x z := h3
  show e1 (g z) ++ e2 (g z) z = e1 x ++ e2 x z
  rw [hg x z h1 h3]
theorem law_bindP {d1 : D α} {d2 : α → D γ} {e1 : α → List UInt8} {v1 : α → Prop} {E : γ → List UInt8} {P W : γ → Prop} (g : γ → α)
  (L1 : Law d1 e1 v1) (L2 : ∀ x, v1 x → Law (d2 x) E (fun z => (g z = x ∧ P z) ∧ W z)) : Law (bind d1 d2) (fun z => e1 (g z) ++ E z) (fun z => P z ∧ (v1 (g z) ∧ W z)) := by
 have h := law_bind (e2 := fun _ => E) (v2 := fun x z => (g z = x ∧ P z) ∧ W z) g (fun x z _ h => h.1.1) L1 L2
 exact h.congr (fun z => ⟨fun h => ⟨h.2.1.2, h.1, h.2.2⟩, fun h => ⟨h.2.1, ⟨rfl, h.1⟩, h.2.2⟩⟩) fun _ _ => rfl
theorem law_listP {d1 : D Int} {d : Int → List α → D α} {d2 : Int → List α → D γ} {e1 : Int → List UInt8} {v1 : Int → Prop} {e : α → List UInt8} {v : Int → List α → α → Prop} {E : γ → List UInt8} {P W : γ → Prop} (g : γ → List α)
  (h0 : ∀ n, v1 n → 0 ≤ n) (L1 : Law d1 e1 v1) (L : ∀ n acc, Law (d n acc) e (v n acc)) (L2 : ∀ n l, (l.length : Int) = n → Law (d2 n l) E (fun z => (g z = l ∧ P z) ∧ W z)) :
  Law (bind d1 fun n => bind (many (d n) n.toNat []) fun l => d2 n l) (fun z => e1 (g z).length ++ ((g z).flatMap e ++ E z)) (fun z => P z ∧ (v1 (g z).length ∧ (manyV (v (g z).length) [] (g z) ∧ W z))) := by
 refine law_bindP (fun z => ((g z).length : Int)) L1 fun n hn => ?_
 have hl : ∀ l : List α, (∃ xs, l = [] ++ xs ∧ xs.length = n.toNat ∧ manyV (v n) [] xs) → (l.length : Int) = n := by
  rintro l ⟨xs, rfl, h1, _⟩
  have := h0 n hn
  omega
 have h := law_bind (e2 := fun _ => E) (v2 := fun l z => (g z = l ∧ P z) ∧ W z) g (fun x z _ h => h.1.1) (law_many (L n) n.toNat []) fun l hx => L2 n l (hl l hx)
 refine h.congr (fun z => ⟨fun h => ?_, fun h => ?_⟩) fun z _ => by simp
 ·obtain ⟨⟨xs, h1, h2, h3⟩, ⟨_, h4⟩, h5⟩ := h
  have hz := hl (g z) ⟨xs, h1, h2, h3⟩
  have h1 : g z = xs := h1
  refine ⟨⟨hz, h4⟩, ?_, h5⟩
  rw [hz, h1]
  exact h3
 ·obtain ⟨⟨hz, h4⟩, h3, h5⟩ := h
  have hz : ((g z).length : Int) = n := hz
  rw [hz] at h3
  exact ⟨⟨g z, rfl, by omega, h3⟩, ⟨rfl, h4⟩, h5⟩
def mustAt (d : D α) (wrong : α → Int × Int) : D α := fun b at_ => match d b at_ with
 | .ok (x, at2) => if (wrong x).1 = 0 then .ok (x, at2) else .error ((wrong x).1, at_ + (wrong x).2.toNat)
 | .error e => .error e
theorem law_mustAt {d : D α} {enc : α → List UInt8} {valid : α → Prop} (L : Law d enc valid) (wrong : α → Int × Int) : Law (mustAt d wrong) enc (fun x => valid x ∧ (wrong x).1 = 0) where
 back := fun x hx u t => by
  simp only [mustAt, L.back x hx.1 u t, if_pos hx.2]
 sound := fun b at_ x at2 h ha => by
  simp only [mustAt] at h
  cases h1 : d b at_ with
  | error e => rw [h1] at h; cases h
  | ok p =>
   obtain ⟨y, a1⟩ := p
   rw [h1] at h
   dsimp only at h
   by_cases hw : (wrong y).1 = 0
   ·rw [if_pos hw] at h
    cases h
    obtain ⟨g1, g2, g3⟩ := L.sound b at_ x at2 h1 ha
    exact ⟨⟨g1, hw⟩, g2, g3⟩
   ·rw [if_neg hw] at h; cases h
 cut := fun x hx u t r he hr => by
  simp only [mustAt, L.cut x hx.1 u t r he hr]
end D
open D
def i64 (n : Nat) : Int := if n < 9223372036854775808 then n else (n : Int) - 18446744073709551616
def I64 (x : Int) : Prop := -9223372036854775808 ≤ x ∧ x < 9223372036854775808
theorem zzq : Law (map i64 (num 8)) (fun x => leB x 8) I64 := by
 refine law_map i64 (law_num 8) (fun y => ⟨fun h => ?_, ?_⟩) fun x hx => ?_
 ·obtain ⟨h1, h2⟩ := h
  refine ⟨(y % 18446744073709551616).toNat, ?_, ?_⟩
  ·show _ < 18446744073709551616
   omega
  ·unfold i64
   split <;> omega
 ·rintro ⟨x, hx, rfl⟩
  have hx : x < 18446744073709551616 := hx
  unfold i64 I64
  split <;> omega
 ·have hx : x < 18446744073709551616 := hx
  have key : ∀ (k : Nat) (a b : Int), a % ((256 ^ k : Nat) : Int) = b % ((256 ^ k : Nat) : Int) → leB a k = leB b k := by
   intro k a b h
   have h1 := zhr1 a k
   have h2 := zhr1 b k
   rw [h, ← h2] at h1
   have h3 : valB (leB a k) = valB (leB b k) := by exact_mod_cast h1
   have h4 := zzp (leB a k)
   have h5 := zzp (leB b k)
   rw [zap] at h4 h5
   rw [← h4, ← h5, h3]
  refine key 8 _ _ ?_
  show i64 x % 18446744073709551616 = (x : Int) % 18446744073709551616
  unfold i64
  split <;> omega
def toZ (n : Nat) : Int := n
theorem zck (k : Nat) : Law (map toZ (num k)) (fun x => leB x k) (fun x => 0 ≤ x ∧ x < ((256 ^ k : Nat) : Int)) :=
 law_map toZ (law_num k) (fun y => ⟨fun h => ⟨y.toNat, by omega, by unfold toZ; omega⟩, by rintro ⟨x, hx, rfl⟩; unfold toZ; omega⟩) fun x _ => rfl
def zD (k : Nat) : D Int := map toZ (num k)
def zrk : D PIns := bind (zD 1) fun op => bind (zD 1) fun a => bind (zD 1) fun b => bind (zD 1) fun c => bind (map i64 (num 8)) fun imm => ret ⟨op, a, b, c, imm⟩
def insD (n locks : Int) : D PIns := mustAt zrk fun x => zbo x n locks
def rngE (a b : Int) (n : Int) : Int := if within n a b then 0 else 2
def cntE (most : Int) (n : Int) : Int := if n = 0 then 1 else if most < n then 3 else 0
def labE (acc : List Int) (a : Int) : Int := match acc.getLast? with
 | none => 0
 | some l => if a = l then 8 else if a < l then 7 else 0
def procD (parts locks : Int) : D PProc := bind (must (zD 1) (rngE 0 (parts - 1))) fun part => bind (must (zD 2) fun n => if 256 < n then 3 else 0) fun n =>
 bind (many (fun _ => insD n locks) n.toNat []) fun code => ret ⟨part, code⟩
def markD : List UInt8 → D Unit
 | [] => ret ()
 | c :: r => bind (must (num 1) fun n => if n = c.toNat then 0 else 4) fun _ => markD r
def zqr : D PCfg := bind (markD [70, 66, 67, 70, 1]) fun _ => bind (must (zD 1) (cntE 8)) fun nl => bind (many (fun acc => must (zD 8) (labE acc)) nl.toNat []) fun labels =>
 bind (must (zD 1) (cntE 64)) fun nt => bind (many (fun _ => must (zD 1) (rngE 0 (nl - 1))) nt.toNat []) fun table =>
 bind (must (zD 2) (rngE 1 256)) fun fuel => bind (must (zD 1) (rngE 1 64)) fun lane => bind (must (zD 1) (rngE 0 8)) fun locks => bind (must (zD 2) (rngE 0 4096)) fun log =>
 bind (must (zD 1) (cntE 32)) fun np => bind (many (fun _ => procD nl locks) np.toNat []) fun procs => ret ⟨labels, table, fuel, lane, locks, log, procs⟩
def zfi {α : Type} (d : D α) (b : List UInt8) : Except (Int × Nat) α :=
 if 1048576 < b.length then .error (22, 1048576) else match d b 0 with
  | .error e => .error e
  | .ok (x, at_) => if at_ < b.length then .error (6, at_) else .ok x
def zed (b : List UInt8) : Except (Int × Nat) PCfg := zfi zqr b
theorem zpt1 : ∀ m : List UInt8, Law (markD m) (fun _ => m) (fun _ => True)
 | [] => (law_ret ()).congr (fun _ => by simp) fun _ _ => rfl
 | c :: r => by
  have h1 : ∀ (x : Nat) (z : Unit), (x < 256 ^ 1 ∧ (if x = c.toNat then (0 : Int) else 4) = 0) → True → c.toNat = x := fun x z h1 _ => by
   obtain ⟨_, h2⟩ := h1
   by_cases hx : x = c.toNat
   ·exact hx.symm
   ·rw [if_neg hx] at h2; cases h2
  have h := law_bind (g := fun _ : Unit => c.toNat) (d2 := fun _ => markD r) (e2 := fun _ _ => r) (v2 := fun _ _ => True) h1 (law_must (law_num 1) fun n => if n = c.toNat then (0 : Int) else 4) fun _ _ => zpt1 r
  ·refine h.congr (fun _ => ?_) fun _ _ => ?_
   ·simp
    exact c.toNat_lt
   ·have := zzp [c]
    simp only [valB, List.length_cons, List.length_nil] at this
    show leB (c.toNat : Int) 1 ++ r = c :: r
    have e : ((c.toNat + 256 * 0 : Nat) : Int) = (c.toNat : Int) := by omega
    rw [e] at this
    rw [this]; rfl
theorem law_ins : D.Law zrk insB fun x => (0 ≤ x.op ∧ x.op < 256) ∧ (0 ≤ x.a ∧ x.a < 256) ∧ (0 ≤ x.b ∧ x.b < 256) ∧ (0 ≤ x.c ∧ x.c < 256) ∧ I64 x.imm := by
 have h := D.law_bindP (P := fun _ => True) (W := fun z => (0 ≤ z.a ∧ z.a < ((256 ^ 1 : Nat) : Int)) ∧ ((0 ≤ z.b ∧ z.b < ((256 ^ 1 : Nat) : Int)) ∧ ((0 ≤ z.c ∧ z.c < ((256 ^ 1 : Nat) : Int)) ∧ (I64 z.imm ∧ True)))) (E := fun z => leB z.a 1 ++ (leB z.b 1 ++ (leB z.c 1 ++ (leB z.imm 8 ++ [])))) (fun z : PIns => z.op) (zck 1) fun op _ =>
  D.law_bindP (W := fun z => (0 ≤ z.b ∧ z.b < ((256 ^ 1 : Nat) : Int)) ∧ ((0 ≤ z.c ∧ z.c < ((256 ^ 1 : Nat) : Int)) ∧ (I64 z.imm ∧ True))) (E := fun z => leB z.b 1 ++ (leB z.c 1 ++ (leB z.imm 8 ++ []))) (fun z : PIns => z.a) (zck 1) fun a _ =>
  D.law_bindP (W := fun z => (0 ≤ z.c ∧ z.c < ((256 ^ 1 : Nat) : Int)) ∧ (I64 z.imm ∧ True)) (E := fun z => leB z.c 1 ++ (leB z.imm 8 ++ [])) (fun z : PIns => z.b) (zck 1) fun b _ =>
  D.law_bindP (W := fun z => I64 z.imm ∧ True) (E := fun z => leB z.imm 8 ++ []) (fun z : PIns => z.c) (zck 1) fun c _ =>
  D.law_bindP (W := fun z => True) (E := fun z => []) (fun z : PIns => z.imm) zzq fun imm _ =>
  (D.law_ret (⟨op, a, b, c, imm⟩ : PIns)).congr (fun z => ⟨fun h => by subst h; simp, fun h => by cases z; simp at h; simp [h]⟩) fun _ _ => rfl
 refine h.congr (fun z => ?_) fun z _ => ?_
 ·simp
 ·simp [insB]
theorem zxi {α : Type} {V : α → Prop} : ∀ (l acc : List α), manyV (fun _ x => V x) acc l ↔ ∀ x ∈ l, V x
 | [], _ => by simp [manyV]
 | x :: r, acc => by simp [manyV, zxi r]
def InsB (x : PIns) : Prop := (0 ≤ x.op ∧ x.op < 256) ∧ (0 ≤ x.a ∧ x.a < 256) ∧ (0 ≤ x.b ∧ x.b < 256) ∧ (0 ≤ x.c ∧ x.c < 256) ∧ I64 x.imm
def ProcV (parts locks : Int) (z : PProc) : Prop :=
 (0 ≤ z.part ∧ z.part < 256) ∧ rngE 0 (parts - 1) z.part = 0 ∧ z.code.length ≤ 256 ∧ ∀ x ∈ z.code, InsB x ∧ (zbo x z.code.length locks).1 = 0
theorem zdf2 (parts locks : Int) : D.Law (procD parts locks) procB (ProcV parts locks) := by
 have h := D.law_bindP (P := fun _ => True) (W := fun z : PProc => ((0 ≤ (z.code.length : Int) ∧ (z.code.length : Int) < ((256 ^ 2 : Nat) : Int)) ∧ (if 256 < (z.code.length : Int) then (3 : Int) else 0) = 0) ∧ (manyV (fun _ x => InsB x ∧ (zbo x z.code.length locks).1 = 0) [] z.code ∧ True))
  (E := fun z => leB z.code.length 2 ++ (z.code.flatMap insB ++ [])) PProc.part (D.law_must (zck 1) (rngE 0 (parts - 1))) fun part _ =>
  D.law_listP (d := fun n _ => insD n locks) (v := fun n _ x => InsB x ∧ (zbo x n locks).1 = 0) (W := fun _ => True) (E := fun _ => []) PProc.code (fun n hn => hn.1.1) (D.law_must (zck 2) fun n => if 256 < n then (3 : Int) else 0)
   (fun n _ => D.law_mustAt law_ins _) fun n l _ => (D.law_ret (⟨part, l⟩ : PProc)).congr (fun z => ⟨fun h => by subst h; simp, fun h => by cases z; simp at h; simp [h]⟩) fun _ _ => rfl
 refine h.congr (fun z => ?_) fun z _ => ?_
 ·rw [zxi]
  unfold ProcV
  have e : (if 256 < (z.code.length : Int) then (3 : Int) else 0) = 0 ↔ z.code.length ≤ 256 := by
   by_cases h : 256 < (z.code.length : Int)
   ·rw [if_pos h]; omega
   ·rw [if_neg h]; omega
  rw [e]
  constructor
  ·rintro ⟨_, ⟨h1, h2⟩, ⟨h3, h4⟩, h5, _⟩
   exact ⟨h1, h2, h4, h5⟩
  ·rintro ⟨h1, h2, h4, h5⟩
   exact ⟨trivial, ⟨h1, h2⟩, ⟨⟨by omega, by show _ < (65536 : Int); omega⟩, h4⟩, h5, trivial⟩
 ·simp [procB, codeB]
end Lf

namespace Lf
open D (manyV)
abbrev By (k : Nat) (x : Int) : Prop := 0 ≤ x ∧ x < ((256 ^ k : Nat) : Int)
abbrev CfgV2 (nl locks : Int) (z : PCfg) : Prop := (By 2 z.log ∧ rngE 0 4096 z.log = 0) ∧ ((By 1 z.procs.length ∧ cntE 32 z.procs.length = 0) ∧ (manyV (fun _ p => ProcV nl locks p) [] z.procs ∧ True))
abbrev CfgV1 (nl : Int) (z : PCfg) : Prop :=
 (By 1 z.table.length ∧ cntE 64 z.table.length = 0) ∧ (manyV (fun _ x => By 1 x ∧ rngE 0 (nl - 1) x = 0) [] z.table ∧ ((By 2 z.fuel ∧ rngE 1 256 z.fuel = 0) ∧ ((By 1 z.lane ∧ rngE 1 64 z.lane = 0) ∧ ((By 1 z.locks ∧ rngE 0 8 z.locks = 0) ∧ CfgV2 nl z.locks z))))
abbrev CfgV (z : PCfg) : Prop := (By 1 z.labels.length ∧ cntE 8 z.labels.length = 0) ∧ (manyV (fun acc a => By 8 a ∧ labE acc a = 0) [] z.labels ∧ CfgV1 z.labels.length z)
theorem zdd1 : D.Law zqr cfgB CfgV := by
 have h2 : ∀ (labels table : List Int) (fuel lane : Int) (nl locks : Int), D.Law (D.bind (D.must (zD 2) (rngE 0 4096)) fun log => D.bind (D.must (zD 1) (cntE 32)) fun np => D.bind (D.many (fun _ => procD nl locks) np.toNat []) fun procs => D.ret (⟨labels, table, fuel, lane, locks, log, procs⟩ : PCfg))
   (fun z => leB z.log 2 ++ (leB z.procs.length 1 ++ (z.procs.flatMap procB ++ []))) (fun z => (z.locks = locks ∧ (z.lane = lane ∧ (z.fuel = fuel ∧ (z.table = table ∧ (z.labels = labels ∧ True))))) ∧ CfgV2 nl locks z) := fun labels table fuel lane nl locks =>
  D.law_bindP (γ := PCfg) (P := fun z => z.locks = locks ∧ (z.lane = lane ∧ (z.fuel = fuel ∧ (z.table = table ∧ (z.labels = labels ∧ True))))) (W := fun z => (By 1 z.procs.length ∧ cntE 32 z.procs.length = 0) ∧ (manyV (fun _ p => ProcV nl locks p) [] z.procs ∧ True))
   (E := fun z => leB z.procs.length 1 ++ (z.procs.flatMap procB ++ [])) PCfg.log (D.law_must (zck 2) (rngE 0 4096)) fun log _ =>
   D.law_listP (γ := PCfg) (d := fun _ _ => procD nl locks) (v := fun _ _ p => ProcV nl locks p) (W := fun _ => True) (E := fun _ => []) PCfg.procs (fun n hn => hn.1.1) (D.law_must (zck 1) (cntE 32)) (fun _ _ => zdf2 nl locks) fun n l _ =>
   (D.law_ret (⟨labels, table, fuel, lane, locks, log, l⟩ : PCfg)).congr (fun z => ⟨fun h => by subst h; simp, fun h => by cases z; simp at h; simp [h]⟩) fun _ _ => rfl
 have h1 : ∀ (labels : List Int) (nl : Int), D.Law (D.bind (D.must (zD 1) (cntE 64)) fun nt => D.bind (D.many (fun _ => D.must (zD 1) (rngE 0 (nl - 1))) nt.toNat []) fun table =>
   D.bind (D.must (zD 2) (rngE 1 256)) fun fuel => D.bind (D.must (zD 1) (rngE 1 64)) fun lane => D.bind (D.must (zD 1) (rngE 0 8)) fun locks => D.bind (D.must (zD 2) (rngE 0 4096)) fun log =>
   D.bind (D.must (zD 1) (cntE 32)) fun np => D.bind (D.many (fun _ => procD nl locks) np.toNat []) fun procs => D.ret (⟨labels, table, fuel, lane, locks, log, procs⟩ : PCfg))
   (fun z => leB z.table.length 1 ++ (z.table.flatMap (fun a => leB a 1) ++ (leB z.fuel 2 ++ (leB z.lane 1 ++ (leB z.locks 1 ++ (leB z.log 2 ++ (leB z.procs.length 1 ++ (z.procs.flatMap procB ++ []))))))))
   (fun z => (z.labels = labels ∧ True) ∧ CfgV1 nl z) := fun labels nl =>
  D.law_listP (γ := PCfg) (d := fun _ _ => D.must (zD 1) (rngE 0 (nl - 1))) (v := fun _ _ x => By 1 x ∧ rngE 0 (nl - 1) x = 0) (P := fun z => z.labels = labels ∧ True)
   (W := fun z => (By 2 z.fuel ∧ rngE 1 256 z.fuel = 0) ∧ ((By 1 z.lane ∧ rngE 1 64 z.lane = 0) ∧ ((By 1 z.locks ∧ rngE 0 8 z.locks = 0) ∧ CfgV2 nl z.locks z)))
   (E := fun z => leB z.fuel 2 ++ (leB z.lane 1 ++ (leB z.locks 1 ++ (leB z.log 2 ++ (leB z.procs.length 1 ++ (z.procs.flatMap procB ++ [])))))) PCfg.table (fun n hn => hn.1.1) (D.law_must (zck 1) (cntE 64)) (fun _ _ => D.law_must (zck 1) (rngE 0 (nl - 1))) fun n table _ =>
   D.law_bindP (γ := PCfg) (W := fun z => (By 1 z.lane ∧ rngE 1 64 z.lane = 0) ∧ ((By 1 z.locks ∧ rngE 0 8 z.locks = 0) ∧ CfgV2 nl z.locks z)) (E := fun z => leB z.lane 1 ++ (leB z.locks 1 ++ (leB z.log 2 ++ (leB z.procs.length 1 ++ (z.procs.flatMap procB ++ []))))) PCfg.fuel (D.law_must (zck 2) (rngE 1 256)) fun fuel _ =>
   D.law_bindP (γ := PCfg) (W := fun z => (By 1 z.locks ∧ rngE 0 8 z.locks = 0) ∧ CfgV2 nl z.locks z) (E := fun z => leB z.locks 1 ++ (leB z.log 2 ++ (leB z.procs.length 1 ++ (z.procs.flatMap procB ++ [])))) PCfg.lane (D.law_must (zck 1) (rngE 1 64)) fun lane _ =>
   D.law_bindP (γ := PCfg) (W := fun z => CfgV2 nl z.locks z) (E := fun z => leB z.log 2 ++ (leB z.procs.length 1 ++ (z.procs.flatMap procB ++ []))) PCfg.locks (D.law_must (zck 1) (rngE 0 8)) fun locks _ =>
   (h2 labels table fuel lane nl locks).congr (fun z => and_congr_right fun h => by rw [h.1]) fun _ _ => rfl
 have h0 := D.law_bind (g := fun _ : PCfg => ()) (v2 := fun _ z => True ∧ CfgV z) (e2 := fun _ z => leB z.labels.length 1 ++ (z.labels.flatMap (fun a => leB a 8) ++ (leB z.table.length 1 ++ (z.table.flatMap (fun a => leB a 1) ++ (leB z.fuel 2 ++ (leB z.lane 1 ++ (leB z.locks 1 ++ (leB z.log 2 ++ (leB z.procs.length 1 ++ (z.procs.flatMap procB ++ []))))))))))
  (fun x z _ _ => rfl) (zpt1 [70, 66, 67, 70, 1]) fun _ _ =>
  D.law_listP (γ := PCfg) (d := fun _ acc => D.must (zD 8) (labE acc)) (v := fun _ acc a => By 8 a ∧ labE acc a = 0) (P := fun _ => True) (W := fun z => CfgV1 z.labels.length z)
   (E := fun z => leB z.table.length 1 ++ (z.table.flatMap (fun a => leB a 1) ++ (leB z.fuel 2 ++ (leB z.lane 1 ++ (leB z.locks 1 ++ (leB z.log 2 ++ (leB z.procs.length 1 ++ (z.procs.flatMap procB ++ [])))))))) PCfg.labels (fun n hn => hn.1.1) (D.law_must (zck 1) (cntE 8)) (fun _ acc => D.law_must (zck 8) (labE acc)) fun nl labels hl =>
   (h1 labels nl).congr (fun z => and_congr_right fun h => by rw [h.1, hl]) fun _ _ => rfl
 refine h0.congr (fun z => by simp) fun z _ => ?_
 simp [cfgB]
end Lf

