/-
  The lifting layer, part 18: what stands ahead of what.
-/
import Derived.Test.YtoffikpplbiohaaLfSndM
namespace Lf
open Go

theorem condT {b x : Bool} (h : cond b x false = true) : b = true ∧ x = true := by
  cases b
  · cases h
  · exact ⟨rfl, h⟩

theorem nodup_bound : ∀ (n : Nat) (l : List Nat), l.Nodup → (∀ x ∈ l, x < n) → l.length ≤ n
  | 0, l, _, h => by
    cases l with
    | nil => simp
    | cons a l => exact absurd (h a (List.mem_cons_self ..)) (Nat.not_lt_zero _)
  | n + 1, l, hn, h => by
    by_cases hm : n ∈ l
    · have h1 := nodup_bound n (l.erase n) (hn.erase n) (fun x hx => by
        have h2 := (hn.mem_erase_iff).1 hx
        have := h x h2.2
        have := h2.1
        omega)
      rw [List.length_erase_of_mem hm] at h1
      omega
    · have := nodup_bound n l hn (fun x hx => by
        have h1 := h x hx
        have : x ≠ n := fun e => hm (e ▸ hx)
        omega)
      omega

theorem pigeon {n : Nat} {l : List Nat} (hn : l.Nodup) (h : ∀ x ∈ l, x < n) (hl : n ≤ l.length) {j : Nat} (hj : j < n) : j ∈ l := by
  refine Classical.byContradiction fun e => ?_
  have := nodup_bound n (j :: l) (List.nodup_cons.2 ⟨e, hn⟩) (fun x hx => by
    rcases List.mem_cons.1 hx with rfl | hx
    · exact hj
    · exact h x hx)
  simp at this
  omega

def Clos (L : List Oper) (X : Nat → Prop) : Prop := ∀ i o, L[i]? = some o → X i → ∀ j ∈ waits o, X j

def Ahead (L : List Oper) (i j : Nat) : Prop := ∀ X : Nat → Prop, Clos L X → (∀ o, L[i]? = some o → ∀ k ∈ waits o, X k) → X j

theorem allIn_mem {l m : List Nat} (h : allIn l m = true) : ∀ x ∈ l, x ∈ m := by
  induction l with
  | nil => intro x hx; cases hx
  | cons a l ih =>
    simp only [allIn] at h
    cases ha : has m a with
    | false => simp [ha] at h
    | true =>
      simp only [ha, cond_true] at h
      intro x hx
      rcases List.mem_cons.1 hx with rfl | hx
      · exact (has_iff _ _).1 ha
      · exact ih h x hx

theorem waits_mem {o : Oper} {e : Edge} (he : e ∈ o.after) (hb : Region.binds .any e = true) : e.on ∈ waits o := by
  have key : ∀ l : List Edge, e ∈ l → e.on ∈ waits.go l := by
    intro l
    induction l with
    | nil => intro h; cases h
    | cons x l ih =>
      intro h
      simp only [waits.go]
      rcases List.mem_cons.1 h with rfl | h
      · have : bindsAny e = true := by
          unfold Region.binds at hb
          unfold bindsAny
          cases hg : e.ground <;> simp [hg] at hb ⊢
        simp [this]
      · cases bindsAny x
        · exact ih h
        · exact List.mem_cons_of_mem _ (ih h)
  exact key _ (by simpa using he)

theorem union_mem {acc : List (List Nat)} : ∀ {l : List Nat} {j : Nat}, j ∈ aheads.union l acc → j ∈ l ∨ ∃ k ∈ l, ∃ x, nth acc k = some x ∧ j ∈ x
  | [], j, h => by simp [aheads.union] at h
  | k :: l, j, h => by
    simp only [aheads.union, app_eq] at h
    rcases List.mem_cons.1 h with rfl | h
    · exact .inl (List.mem_cons_self ..)
    · rcases List.mem_append.1 h with h | h
      · split at h
        · rename_i x hx
          exact .inr ⟨k, List.mem_cons_self .., x, hx, h⟩
        · cases h
      · rcases union_mem h with h | ⟨k', h1, h2⟩
        · exact .inl (List.mem_cons_of_mem _ h)
        · exact .inr ⟨k', List.mem_cons_of_mem _ h1, h2⟩

theorem aheads_ok {L : List Oper} : ∀ (r pre : List Oper) (acc : List (List Nat)), L = pre ++ r → acc.length = pre.length → (∀ i x, nth acc i = some x → ∀ j ∈ x, Ahead L i j) →
    ∀ i x, nth (aheads r acc) i = some x → ∀ j ∈ x, Ahead L i j
  | [], _, acc, _, _, h => h
  | o :: r, pre, acc, hL, hl, h => by
    refine aheads_ok r (pre ++ [o]) _ (by simp [hL]) (by simp [app_eq, hl]) fun i x hx j hj => ?_
    rw [nth_get, app_eq] at hx
    rcases Nat.lt_trichotomy i acc.length with hi | hi | hi
    · rw [List.getElem?_append_left hi, ← nth_get] at hx
      exact h i x hx j hj
    · subst hi
      simp at hx
      subst hx
      intro X hX hw
      have ho : L[acc.length]? = some o := by rw [hL, hl]; simp
      rcases union_mem hj with hj | ⟨k, hk, y, hy, hjy⟩
      · exact hw o ho j hj
      · exact h k y hy j hjy X hX fun o' ho' k' hk' => hX k o' ho' (hw o ho k hk) k' hk'
    · rw [List.getElem?_append_right (Nat.le_of_lt hi), List.getElem?_eq_none (by simp; omega)] at hx
      cases hx

theorem rows_ahead {L : List Oper} {i j : Nat} (h : j ∈ aheadOf (aheads L []) i) : Ahead L i j := by
  unfold aheadOf at h
  split at h
  · rename_i x hx
    exact aheads_ok L [] [] rfl rfl (fun i x hx => by simp [nth] at hx) i x hx j h
  · cases h

theorem sndL_eq : ∀ l : List (Nat × Operand), sndL l = l.map (·.2)
  | [] => rfl
  | (_, x) :: l => by simp [sndL, sndL_eq l]

theorem optL_eq : ∀ l : Option Operand, optL l = l.toArray.toList
  | none => rfl
  | some x => rfl

theorem opndsL_mem {op : Op} {l : List Operand} (h : opndsL op = some l) : ∀ x ∈ op.operands, x ∈ l := by
  cases op with
  | call c =>
    obtain ⟨callee, args, ats⟩ := c
    cases callee with
    | value f => cases h; intro x hx; simpa [Op.operands, Call.operands] using hx
    | builtin b => cases h; intro x hx; simpa [Op.operands, Call.operands] using hx
    | invoke r m => cases h
  | build t ps => cases h; intro x hx; simpa [Op.operands, sndL_eq] using hx
  | buildSlice t n ps => cases h; intro x hx; simpa [Op.operands, sndL_eq] using hx
  | makeFunc fn a b => cases h; intro x hx; simpa [Op.operands, app_eq] using hx
  | makeMap t r => cases h; intro x hx; simpa [Op.operands, optL_eq] using hx
  | slice t x lo hi mx => cases h; intro x hx; simpa [Op.operands, app_eq, optL_eq, or_assoc] using hx
  | alloc t => cases h; intro x hx; simp [Op.operands] at hx
  | _ => first | (cases h; done) | (cases h; intro x hx; simpa [Op.operands] using hx)

theorem slotOk_get {rows : List (List Nat)} {i t : Nat} : ∀ {l : List Oper} {j0 : Nat}, slotOk rows i t l j0 = true → ∀ j p, l[j]? = some p → p.dst = some t →
    j0 + j ∈ aheadOf rows i ∨ i = j0 + j ∨ i ∈ aheadOf rows (j0 + j)
  | [], _, _, j, p, e, _ => by simp at e
  | q :: l, j0, h, j, p, e, hd => by
    simp only [slotOk] at h
    cases h1 : (cond (dstIs q t) (cond (has (aheadOf rows i) j0) true (cond (Nat.beq i j0) true (has (aheadOf rows j0) i))) true) with
    | false => rw [h1] at h; cases h
    | true =>
      rw [h1] at h
      cases j with
      | zero =>
        simp at e
        subst e
        have : dstIs q t = true := by simp [dstIs, hd]
        rw [this] at h1
        simp only [cond_true] at h1
        cases h2 : has (aheadOf rows i) j0 with
        | true => exact .inl ((has_iff _ _).1 h2)
        | false =>
          rw [h2] at h1
          simp only [cond_false] at h1
          cases h3 : Nat.beq i j0 with
          | true => exact .inr (.inl (Nat.eq_of_beq_eq_true h3))
          | false =>
            rw [h3] at h1
            exact .inr (.inr ((has_iff _ _).1 h1))
      | succ j =>
        have := slotOk_get (l := l) (j0 := j0 + 1) h j p (by simpa using e) hd
        rwa [show j0 + 1 + j = j0 + (j + 1) from by omega] at this

theorem looksGo_mem {L : List Oper} {rows : List (List Nat)} {i t : Nat} : ∀ {l : List Operand}, looksOk.go L rows i l = true → Operand.tmp t ∈ l → slotOk rows i t L 0 = true
  | [], _, hm => by cases hm
  | x :: l, h, hm => by
    cases x with
    | tmp u =>
      simp only [looksOk.go] at h
      cases h1 : slotOk rows i u L 0 with
      | false => simp [h1] at h
      | true =>
        simp only [h1, cond_true] at h
        rcases List.mem_cons.1 hm with e | hm
        · cases e; exact h1
        · exact looksGo_mem h hm
    | _ =>
      simp only [looksOk.go] at h
      rcases List.mem_cons.1 hm with e | hm
      · cases e
      · exact looksGo_mem h hm

theorem looks_slot {L : List Oper} {rows : List (List Nat)} {i t : Nat} {o : Oper} (h : looksOk L rows i o = true) (hm : Operand.tmp t ∈ o.op.operands) {j : Nat} {p : Oper} (hj : L[j]? = some p) (hd : p.dst = some t) :
    j ∈ aheadOf rows i ∨ i = j ∨ i ∈ aheadOf rows j := by
  unfold looksOk at h
  split at h
  · rename_i l hl
    cases h1 : looksOk.go L rows i l with
    | false => simp [h1] at h
    | true =>
      have := slotOk_get (looksGo_mem h1 (opndsL_mem hl _ hm)) j p hj hd
      simpa using this
  · cases h

theorem looks_guard {L : List Oper} {rows : List (List Nat)} {i j : Nat} {b : Bool} {o : Oper} (h : looksOk L rows i o = true) (hg : o.guard = some (j, b)) : j ∈ aheadOf rows i := by
  unfold looksOk at h
  split at h
  · rename_i l hl
    cases h1 : looksOk.go L rows i l with
    | false => simp [h1] at h
    | true =>
      simp only [h1, cond_true, hg] at h
      exact (has_iff _ _).1 h
  · cases h

theorem looksAt_mem {o : Oper} {t : Nat} (hm : Operand.tmp t ∈ o.op.operands) : looksAt o t = true := by
  unfold looksAt
  split
  · rename_i l hl
    have hm' := opndsL_mem hl _ hm
    clear hl hm
    induction l with
    | nil => cases hm'
    | cons x l ih =>
      rcases List.mem_cons.1 hm' with e | hm'
      · subst e; simp [looksAt.go]
      · have := ih hm'
        cases x <;> simp only [looksAt.go]
        · rw [this]; simp
        all_goals exact this
  · rfl

theorem war_get {rows : List (List Nat)} {j d : Nat} {o : Oper} (hd : o.dst = some d) : ∀ {l : List Oper} {i0 : Nat}, isWar rows j o l i0 = false → ∀ i p, l[i]? = some p → Operand.tmp d ∈ p.op.operands → j ∈ aheadOf rows (i0 + i)
  | [], _, _, i, p, e, _ => by simp at e
  | q :: l, i0, h, i, p, e, hm => by
    simp only [isWar, hd] at h
    cases h1 : (cond (looksAt q d) (cond (has (aheadOf rows i0) j) false true) false) with
    | true => rw [h1] at h; cases h
    | false =>
      rw [h1] at h
      cases i with
      | zero =>
        simp at e
        subst e
        rw [looksAt_mem hm] at h1
        simp only [cond_true] at h1
        cases h2 : has (aheadOf rows i0) j with
        | true => exact (has_iff _ _).1 h2
        | false => rw [h2] at h1; cases h1
      | succ i =>
        have := war_get hd (l := l) (i0 := i0 + 1) h i p (by simpa using e) hm
        rwa [show i0 + 1 + i = i0 + (i + 1) from by omega] at this

/-- What a plan's first step tells. -/
theorem planGo_cons {tb : Tb} {priv : List Nat} {ops : List Oper} {rows : List (List Nat)} {i : Nat} {ws : List Nat} {r : List (Nat × List Nat)} {done : List Nat} {last : Option Nat}
    (h : planGo tb priv ops rows ((i, ws) :: r) done last = true) : ∃ o, ops[i]? = some o ∧ (∀ k ∈ waits o, k ∈ done) ∧ looksOk ops rows i o = true ∧ i ∉ done ∧ (∀ e, last = some e → e ∈ aheadOf rows i) ∧
      (((isVal tb o = true ∨ isPrivAlloc priv o = true) ∧ isWar rows i o ops 0 = false ∧ planGo tb priv ops rows r (i :: done) last = true) ∨
       ((isVal tb o = true ∨ isPrivAlloc priv o = true) ∧ isWar rows i o ops 0 = true ∧ planGo tb priv ops rows r (i :: done) (some i) = true) ∨
       (isVal tb o = false ∧ isPrivAlloc priv o = false ∧ planGo.watched tb ops rows ws i done = true ∧ planGo tb priv ops rows r (i :: done) (some i) = true)) := by
  simp only [planGo] at h
  split at h
  · rename_i o ho
    rw [nth_get] at ho
    obtain ⟨h12, h⟩ := condT h
    obtain ⟨h1, h2⟩ := condT h12
    cases h3 : has done i with
    | true => simp [h3] at h
    | false =>
      simp only [h3, cond_false] at h
      obtain ⟨h4, h⟩ := condT h
      refine ⟨o, ho, allIn_mem h1, h2, has_false h3, fun e he => ?_, ?_⟩
      · subst he
        exact (has_iff _ _).1 h4
      · have hvp : ∀ x, (cond (isVal tb o) true (isPrivAlloc priv o)) = x → (x = true → isVal tb o = true ∨ isPrivAlloc priv o = true) ∧ (x = false → isVal tb o = false ∧ isPrivAlloc priv o = false) := by
          intro x e
          cases hv : isVal tb o <;> rw [hv] at e <;> simp at e <;> subst e <;> simp
        split at h
        · rename_i e1 e2
          exact .inl ⟨(hvp _ e1).1 rfl, e2, h⟩
        · rename_i e1 e2
          exact .inr (.inl ⟨(hvp _ e1).1 rfl, e2, h⟩)
        · rename_i e1
          cases h5 : planGo.watched tb ops rows ws i done with
          | false => simp [h5] at h
          | true =>
            simp only [h5, cond_true] at h
            exact .inr (.inr ⟨((hvp _ e1).2 rfl).1, ((hvp _ e1).2 rfl).2, rfl, h⟩)
  · cases h

theorem watched_get {tb : Tb} {ops : List Oper} {rows : List (List Nat)} {ws : List Nat} {e : Nat} : ∀ {l : List Nat}, planGo.watched tb ops rows ws e l = true → ∀ i ∈ l, ∀ o, ops[i]? = some o → isVal tb o = true → isRead tb o = true →
    i ∈ ws ∨ i ∈ aheadOf rows e
  | [], _, i, hi, _, _, _, _ => by cases hi
  | r :: l, h, i, hi, o, ho, hv, hrd => by
    simp only [planGo.watched] at h
    obtain ⟨h2, h⟩ := condT h
    rcases List.mem_cons.1 hi with rfl | hi
    · rw [nth_get, ho] at h2
      simp only [hv, hrd, cond_true] at h2
      cases h3 : has ws i with
      | true => exact .inl ((has_iff _ _).1 h3)
      | false =>
        rw [h3] at h2
        exact .inr ((has_iff _ _).1 h2)
    · exact watched_get h i hi o ho hv hrd

/-- Whatever comes behind a change in the plan waits for it. -/
theorem plan_later {tb : Tb} {priv : List Nat} {L : List Oper} : ∀ {r : List (Nat × List Nat)} {done : List Nat} {e : Nat}, planGo tb priv L (aheads L []) r done (some e) = true →
    ∀ j ∈ r.map (·.1), Ahead L j e
  | [], _, _, _, j, hj => by cases hj
  | (i, ws) :: r, done, e, h, j, hj => by
    obtain ⟨o, ho, _, _, _, hlast, hc⟩ := planGo_cons h
    have hie := rows_ahead (hlast e rfl)
    rcases List.mem_cons.1 hj with rfl | hj
    · exact hie
    · have step : ∀ e', (e' = e ∨ e' = i) → planGo tb priv L (aheads L []) r (i :: done) (some e') = true → Ahead L j e := by
        intro e' he' h'
        have h1 := plan_later h' j hj
        rcases he' with rfl | rfl
        · exact h1
        · intro X hX hw
          have hXi : X e' := h1 X hX hw
          exact hie X hX fun o' ho' k hk => hX e' o' ho' hXi k hk
      rcases hc with ⟨_, _, h'⟩ | ⟨_, _, h'⟩ | ⟨_, _, _, h'⟩
      · exact step e (.inl rfl) h'
      · exact step i (.inr rfl) h'
      · exact step i (.inr rfl) h'

end Lf
