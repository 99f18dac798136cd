/-
  The lifting layer, part 15: slots and private variables, and what they are in memory.
-/
import Derived.Test.YtoffikpplbiohaaLfSndJ
import Derived.Orders
namespace Lf
open Go

theorem holds_congr {s s' : St} {c : Chain} (hf : ∀ p ∈ c, s'.f p.1 = s.f p.1) : holds s' c ↔ holds s c := by
  have key : ∀ p ∈ c, hb s' p.1 = hb s p.1 := fun p hp => by unfold hb; rw [hf p hp]
  exact ⟨fun h p hp => by rw [← key p hp]; exact h p hp, fun h p hp => by rw [key p hp]; exact h p hp⟩

theorem put_same (s : St) (d : Nat) (l : LV) (ch : Chain) : (s.put (some d) l ch).f d = some (l, ch) := by simp [St.put]

theorem beq_ne {i j : Nat} (h : i ≠ j) : Nat.beq i j = false := by
  cases e : Nat.beq i j with
  | false => rfl
  | true => exact absurd (Nat.eq_of_beq_eq_true e) h

theorem put_ne (s : St) {d t : Nat} (l : LV) (ch : Chain) (h : t ≠ d) : (s.put (some d) l ch).f t = s.f t := by
  simp [St.put, beq_ne h]

theorem putM_same (s : St) (k : Nat) (cs : List Value) : (s.putM k cs).m k = some cs := by simp [St.putM]

theorem putM_ne (s : St) {k j : Nat} (cs : List Value) (h : j ≠ k) : (s.putM k cs).m j = s.m j := by
  simp [St.putM, beq_ne h]

theorem eval_put_same {a : Act} {d : Nat} {v : Value} (h : d < a.tmps.size) : (a.put (some d) v).eval (.tmp d) = v := by simp [Act.put, Act.eval, h]

theorem eval_put_ne {a : Act} {d t : Nat} {v : Value} (h : t ≠ d) : (a.put (some d) v).eval (.tmp t) = a.eval (.tmp t) := by
  simp [Act.put, Act.eval, Array.getElem?_setIfInBounds_ne (Ne.symm h)]

/-- Slots and private variables: 'Cur' the slots that memory has as the state says, 'Liv' the variables that are made, 'D' the slots that tests may lie in, 'N' the variables that are still to be made. -/
structure RR (n : Nat) (Cur Liv D N : Nat → Prop) (β : Nat → Nat) (s : St) (a : Act) (h : Hp) (w : World) : Prop where
  sz : a.tmps.size = n
  sub : Sub h w
  lt : ∀ t l c, s.f t = some (l, c) → t < n
  chain : ∀ t l c, s.f t = some (l, c) → ∀ p ∈ c, D p.1
  cur : ∀ t l c, s.f t = some (l, c) → Cur t → holds s c → a.eval (.tmp t) = LVal β l ∧ ∀ k o, (l = .box k o ∨ l = .boxd k o) → Liv k
  und : ∀ t l c, s.f t = some (l, c) → Cur t → ¬ holds s c → a.eval (.tmp t) = undef
  box : ∀ k cs, s.m k = some cs → Liv k → h (β k) = none ∧ ∃ ct, w.heap[β k]? = some (.cells cs.toArray ct (0, 0))
  inj : ∀ k k', s.m k ≠ none → s.m k' ≠ none → Liv k → Liv k' → β k = β k' → k = k'
  nrefm : ∀ k, N k → s.m k = none
  nref : ∀ k, N k → ∀ t l c, s.f t = some (l, c) → holds s c → ∀ o, l ≠ .box k o ∧ l ≠ .boxd k o

def live (s : St) (Liv : Nat → Prop) (k : Nat) : Prop := s.m k ≠ none ∧ Liv k

/-- From one point to the next: what stays. -/
structure Seg (l mm : List Nat) (lv : Nat → Prop) (β : Nat → Nat) (a : Act) (h : Hp) (w : World) (lv' : Nat → Prop) (β' : Nat → Nat) (a' : Act) (h' : Hp) (w' : World) : Prop where
  tmp : ∀ i, i ∉ l → a'.eval (.tmp i) = a.eval (.tmp i)
  beta : ∀ k, (k ∉ l ∨ k ∉ mm) → β' k = β k
  size : w.heap.size ≤ w'.heap.size
  unk : ∀ b, b < w.heap.size → h b = none → h' b = none
  keep : ∀ b, b < w.heap.size → h b = none → (∀ k ∈ mm, lv k → β k ≠ b) → w'.heap[b]? = w.heap[b]?
  fresh : ∀ k, lv' k → (lv k ∧ β' k = β k) ∨ w.heap.size ≤ β' k
  os : w'.os = w.os
  tape : w'.tape = w.tape
  output : w'.output = w.output
  defers : a'.defers = a.defers

section
variable {n : Nat} {Cur Liv D N : Nat → Prop} {β : Nat → Nat} {s : St} {a : Act} {h : Hp} {w : World}

theorem heap_lt {w : World} {b : Nat} {o : Obj} (h : w.heap[b]? = some o) : b < w.heap.size := by
  rcases Nat.lt_or_ge b w.heap.size with h' | h'
  · exact h'
  · simp [Array.getElem?_eq_none h'] at h

theorem sub_none (hs : Sub h w) {b : Nat} (hb : w.heap.size ≤ b) : h b = none := by
  cases e : h b with
  | none => rfl
  | some x => exact absurd (hs.lt e) (Nat.not_lt.2 hb)

theorem Seg.refl (l mm : List Nat) : Seg l mm (live s Liv) β a h w (live s Liv) β a h w :=
  ⟨fun _ _ => rfl, fun _ _ => rfl, Nat.le_refl _, fun _ _ e => e, fun _ _ _ _ => rfl, fun _ e => .inl ⟨e, rfl⟩, rfl, rfl, rfl, rfl⟩

theorem Seg.trans {l mm : List Nat} {lv lv1 lv2 : Nat → Prop} {β β1 β2 : Nat → Nat} {a a1 a2 : Act} {h h1 h2 : Hp} {w w1 w2 : World}
    (x : Seg l mm lv β a h w lv1 β1 a1 h1 w1) (y : Seg l mm lv1 β1 a1 h1 w1 lv2 β2 a2 h2 w2) : Seg l mm lv β a h w lv2 β2 a2 h2 w2 := by
  refine ⟨fun i hi => (y.tmp i hi).trans (x.tmp i hi), fun k hk => (y.beta k hk).trans (x.beta k hk), Nat.le_trans x.size y.size, fun b hb hn => ?_, fun b hb hn hk => ?_, fun k hk => ?_,
    y.os.trans x.os, y.tape.trans x.tape, y.output.trans x.output, y.defers.trans x.defers⟩
  · exact y.unk b (Nat.lt_of_lt_of_le hb x.size) (x.unk b hb hn)
  · refine (y.keep b (Nat.lt_of_lt_of_le hb x.size) (x.unk b hb hn) fun k hm hl => ?_).trans (x.keep b hb hn hk)
    rcases x.fresh k hl with ⟨h1, h2⟩ | h1
    · rw [h2]; exact hk k hm h1
    · intro e; rw [e] at h1; exact absurd hb (Nat.not_lt.2 h1)
  · rcases y.fresh k hk with ⟨h1, h2⟩ | h1
    · rw [h2]; exact x.fresh k h1
    · exact .inr (Nat.le_trans x.size h1)

theorem Seg.mono {l mm l' mm' : List Nat} {lv lv1 lv' lv1' : Nat → Prop} {β β1 : Nat → Nat} {a a1 : Act} {h h1 : Hp} {w w1 : World}
    (x : Seg l mm lv β a h w lv1 β1 a1 h1 w1) (hl : ∀ i ∈ l, i ∈ l') (hm : ∀ i ∈ mm, i ∈ mm') (hv : ∀ k, lv k → lv' k) (hv1 : ∀ k, lv1' k → lv1 k) : Seg l' mm' lv' β a h w lv1' β1 a1 h1 w1 :=
  ⟨fun i hi => x.tmp i fun e => hi (hl i e), fun k hk => x.beta k (hk.imp (fun e e' => e (hl k e')) (fun e e' => e (hm k e'))), x.size, x.unk, fun b hb hn hk => x.keep b hb hn fun k h1 h2 => hk k (hm k h1) (hv k h2),
    fun k hk => (x.fresh k (hv1 k hk)).imp (fun e => ⟨hv k e.1, e.2⟩) id, x.os, x.tape, x.output, x.defers⟩

theorem Seg.step {l mm : List Nat} {lv : Nat → Prop} {h' : Hp} {w' : World} (hst : Step h h' w w') : Seg l mm lv β a h w lv β a h' w' :=
  ⟨fun _ _ => rfl, fun _ _ => rfl, hst.size, fun b hb hn => (hst.keep b hb hn).2, fun b hb hn _ => (hst.keep b hb hn).1, fun _ e => .inl ⟨e, rfl⟩, hst.os, hst.tape, hst.output, rfl⟩

theorem Seg.put {l mm : List Nat} {lv : Nat → Prop} {d : Option Nat} {v : Value} (hd : ∀ i, d = some i → i ∈ l) : Seg l mm lv β a h w lv β (a.put d v) h w := by
  refine ⟨fun i hi => ?_, fun _ _ => rfl, Nat.le_refl _, fun _ _ e => e, fun _ _ _ _ => rfl, fun _ e => .inl ⟨e, rfl⟩, rfl, rfl, rfl, by cases d <;> rfl⟩
  cases d with
  | none => rfl
  | some d => exact eval_put_ne fun e => hi (e ▸ hd d rfl)

theorem RR.step (hr : RR n Cur Liv D N β s a h w) {h' : Hp} {w' : World} (hst : Step h h' w w') : RR n Cur Liv D N β s a h' w' :=
  ⟨hr.sz, hst.sub, hr.lt, hr.chain, hr.cur, hr.und, fun k cs hm hl => by
    obtain ⟨h1, ct, h2⟩ := hr.box k cs hm hl
    obtain ⟨h3, h4⟩ := hst.keep _ (heap_lt h2) h1
    exact ⟨h4, ct, by rw [h3]; exact h2⟩, hr.inj, hr.nrefm, hr.nref⟩

theorem RR.congr (hr : RR n Cur Liv D N β s a h w) {Cur' Liv' D' N' : Nat → Prop} (hc : ∀ t, Cur' t ↔ Cur t) (hl : ∀ t, Liv' t ↔ Liv t) (hd : ∀ t, D t → D' t) (hn : ∀ t, N' t → N t) :
    RR n Cur' Liv' D' N' β s a h w :=
  ⟨hr.sz, hr.sub, hr.lt, fun t l c e p hp => hd _ (hr.chain t l c e p hp), fun t l c e h1 h2 => ⟨(hr.cur t l c e ((hc t).1 h1) h2).1, fun k o e' => (hl k).2 ((hr.cur t l c e ((hc t).1 h1) h2).2 k o e')⟩,
    fun t l c e h1 h2 => hr.und t l c e ((hc t).1 h1) h2, fun k cs e h1 => hr.box k cs e ((hl k).1 h1), fun k k' e e' h1 h2 => hr.inj k k' e e' ((hl k).1 h1) ((hl k').1 h2),
    fun k e => hr.nrefm k (hn k e), fun k e => hr.nref k (hn k e)⟩

theorem holds_put {d : Nat} {l : LV} {ch c : Chain} (hD : ¬ D d) (hc : ∀ p ∈ c, D p.1) : holds (s.put (some d) l ch) c ↔ holds s c :=
  holds_congr fun p hp => put_ne s l ch fun e => hD (e ▸ hc p hp)

theorem opnd_rr (hr : RR n Cur Liv D N β s a h w) {x : Operand} (hx : ∀ t, x = .tmp t → Cur t) : Opnd β s a.eval x := by
  cases x with
  | tmp t => exact fun l c e hc => (hr.cur t l c e (hx t rfl) hc).1
  | const v => rfl
  | global g => rfl
  | func f => rfl

theorem boxU_rr (hr : RR n Cur Liv D N β s a h w) {o : Oper} (hx : ∀ t, Operand.tmp t ∈ o.op.operands → Cur t) : BoxU β s o w := by
  intro t ht k off c hf hc cs hm
  rcases hf with hf | hf
  · exact (hr.box k cs hm ((hr.cur t _ c hf (hx t ht) hc).2 k off (.inl rfl))).2
  · exact (hr.box k cs hm ((hr.cur t _ c hf (hx t ht) hc).2 k off (.inr rfl))).2

/-- A slot's content is told ahead. -/
theorem RR.lift (hr : RR n Cur Liv D N β s a h w) {d : Nat} {l : LV} {ch : Chain} (hd : d < n) (hD : ¬ D d) (hch : ∀ p ∈ ch, D p.1) (h1 : holds s ch → ∀ k o, (l = .box k o ∨ l = .boxd k o) → ¬ N k) :
    RR n (fun t => t ≠ d ∧ Cur t) Liv D N β (s.put (some d) l ch) a h w := by
  have key : ∀ t l' c, (s.put (some d) l ch).f t = some (l', c) → t = d ∧ l' = l ∧ c = ch ∨ t ≠ d ∧ s.f t = some (l', c) := fun t l' c e => by
    by_cases ht : t = d
    · subst ht; rw [put_same] at e; cases e; exact .inl ⟨rfl, rfl, rfl⟩
    · rw [put_ne _ _ _ ht] at e; exact .inr ⟨ht, e⟩
  refine ⟨hr.sz, hr.sub, fun t l' c e => ?_, fun t l' c e => ?_, fun t l' c e hc hh => ?_, fun t l' c e hc hh => ?_, hr.box, hr.inj, hr.nrefm, fun k hk t l' c e hh o => ?_⟩
  · rcases key t l' c e with ⟨rfl, _, _⟩ | ⟨_, e'⟩
    · exact hd
    · exact hr.lt t l' c e'
  · rcases key t l' c e with ⟨_, _, rfl⟩ | ⟨_, e'⟩
    · exact hch
    · exact hr.chain t l' c e'
  · rcases key t l' c e with ⟨rfl, _, _⟩ | ⟨_, e'⟩
    · exact absurd rfl hc.1
    · exact hr.cur t l' c e' hc.2 ((holds_put hD (hr.chain t l' c e')).1 hh)
  · rcases key t l' c e with ⟨rfl, _, _⟩ | ⟨_, e'⟩
    · exact absurd rfl hc.1
    · exact hr.und t l' c e' hc.2 fun hc' => hh ((holds_put hD (hr.chain t l' c e')).2 hc')
  · rcases key t l' c e with ⟨_, rfl, rfl⟩ | ⟨_, e'⟩
    · have hh' := (holds_put hD hch).1 hh
      exact ⟨fun e' => h1 hh' k o (.inl e') hk, fun e' => h1 hh' k o (.inr e') hk⟩
    · exact hr.nref k hk t l' c e' ((holds_put hD (hr.chain t l' c e')).1 hh) o

/-- The slot is written. -/
theorem RR.exec (hr : RR n Cur Liv D N β s a h w) {d : Nat} {l : LV} {ch : Chain} {v : Value} (hf : s.f d = some (l, ch)) (hc : ¬ Cur d)
    (h1 : holds s ch → v = LVal β l ∧ ∀ k o, (l = .box k o ∨ l = .boxd k o) → Liv k) (h2 : ¬ holds s ch → v = undef) :
    RR n (fun t => t = d ∨ Cur t) Liv D N β s (a.put (some d) v) h w := by
  have hd := hr.lt d l ch hf
  refine ⟨by simpa [Act.put] using hr.sz, hr.sub, hr.lt, hr.chain, fun t l' c e hc' hh => ?_, fun t l' c e hc' hh => ?_, hr.box, hr.inj, hr.nrefm, hr.nref⟩
  · by_cases ht : t = d
    · subst ht
      rw [hf] at e; cases e
      rw [eval_put_same (by rw [hr.sz]; exact hd)]
      exact h1 hh
    · rw [eval_put_ne ht]
      exact hr.cur t l' c e (hc'.resolve_left ht) hh
  · by_cases ht : t = d
    · subst ht
      rw [hf] at e; cases e
      rw [eval_put_same (by rw [hr.sz]; exact hd)]
      exact h2 hh
    · rw [eval_put_ne ht]
      exact hr.und t l' c e (hc'.resolve_left ht) hh

/-- A private variable is told ahead. -/
theorem RR.liftA (hr : RR n Cur Liv D N β s a h w) {d : Nat} (cs : List Value) (hd : d < n) (hD : ¬ D d) (hN : N d) :
    RR n (fun t => t ≠ d ∧ Cur t) (fun k => k ≠ d ∧ Liv k) D (fun k => k ≠ d ∧ N k) β ((s.put (some d) (.box d 0) []).putM d cs) a h w := by
  have hf : ∀ t, t ≠ d → ((s.put (some d) (.box d 0) []).putM d cs).f t = s.f t := fun t ht => put_ne s _ _ ht
  have hfd : ((s.put (some d) (.box d 0) []).putM d cs).f d = some (.box d 0, []) := put_same s _ _ _
  have hm : ∀ k, k ≠ d → ((s.put (some d) (.box d 0) []).putM d cs).m k = s.m k := fun k hk => putM_ne _ _ hk
  have hh : ∀ c : Chain, (∀ p ∈ c, D p.1) → (holds ((s.put (some d) (.box d 0) []).putM d cs) c ↔ holds s c) := fun c hc => holds_congr fun p hp => hf _ fun e => hD (e ▸ hc p hp)
  refine ⟨hr.sz, hr.sub, fun t l c e => ?_, fun t l c e => ?_, fun t l c e hc hl => ?_, fun t l c e hc hl => ?_, fun k cs' e hk => ?_, fun k k' e e' hk hk' => ?_, fun k hk => ?_, fun k hk t l c e hl o => ?_⟩
  · by_cases ht : t = d
    · exact ht ▸ hd
    · exact hr.lt t l c (by rwa [hf t ht] at e)
  · by_cases ht : t = d
    · subst ht; rw [hfd] at e; cases e; simp
    · exact hr.chain t l c (by rwa [hf t ht] at e)
  · rw [hf t hc.1] at e
    have hl' := (hh c (hr.chain t l c e)).1 hl
    have := hr.cur t l c e hc.2 hl'
    refine ⟨this.1, fun k o e' => ⟨fun ek => ?_, this.2 k o e'⟩⟩
    subst ek
    have := hr.nref k hN t l c e hl' o
    rcases e' with e' | e'
    · exact this.1 e'
    · exact this.2 e'
  · rw [hf t hc.1] at e
    exact hr.und t l c e hc.2 fun hl' => hl ((hh c (hr.chain t l c e)).2 hl')
  · rw [hm k hk.1] at e
    exact hr.box k cs' e hk.2
  · rw [hm k hk.1] at e
    rw [hm k' hk'.1] at e'
    exact hr.inj k k' e e' hk.2 hk'.2
  · rw [hm k hk.1]
    exact hr.nrefm k hk.2
  · by_cases ht : t = d
    · subst ht
      rw [hfd] at e; cases e
      exact ⟨fun e' => by cases e'; exact hk.1 rfl, fun e' => by cases e'⟩
    · rw [hf t ht] at e
      exact hr.nref k hk.2 t l c e ((hh c (hr.chain t l c e)).1 hl) o

theorem step_push (hs : Sub h w) (o : Obj) : Step h h w { w with heap := w.heap.push o } := by
  refine ⟨fun b x e => ?_, by simp, fun b hb hn => ⟨?_, hn⟩, rfl, rfl, rfl⟩
  · have hl := hs.lt e
    simp only [Array.getElem?_push, if_neg (Nat.ne_of_lt hl)]
    exact hs b x e
  · simp only [Array.getElem?_push, if_neg (Nat.ne_of_lt hb)]

def upd (β : Nat → Nat) (d b : Nat) : Nat → Nat := fun k => if k = d then b else β k

/-- The private variable is made. -/
theorem RR.execA (hr : RR n Cur Liv D N β s a h w) {d : Nat} {cs : List Value} (t : Nat) (hf : s.f d = some (.box d 0, [])) (hm : s.m d = some cs) (hc : ¬ Cur d) (hL : ¬ Liv d) :
    RR n (fun t => t = d ∨ Cur t) (fun k => k = d ∨ Liv k) D N (upd β d w.heap.size) s (a.put (some d) (.pointer (some ⟨w.heap.size, 0, none⟩))) h { w with heap := w.heap.push (.cells cs.toArray t (0, 0)) } := by
  have hn0 : h w.heap.size = none := sub_none hr.sub (Nat.le_refl _)
  have hlt : ∀ k, s.m k ≠ none → Liv k → β k < w.heap.size := fun k hk hl => by
    obtain ⟨cs', e⟩ := Option.ne_none_iff_exists'.1 hk
    obtain ⟨_, ct, e2⟩ := hr.box k cs' e hl
    exact heap_lt e2
  have hr := hr.step (step_push hr.sub (.cells cs.toArray t (0, 0)))
  have hd := hr.lt d _ _ hf
  have hup : ∀ k, k ≠ d → upd β d w.heap.size k = β k := fun k hk => by simp [upd, hk]
  refine ⟨by simpa [Act.put] using hr.sz, hr.sub, hr.lt, hr.chain, fun t' l' c e hc' hh => ?_, fun t' l' c e hc' hh => ?_, fun k cs' e hk => ?_, fun k k' e e' hk hk' he => ?_, hr.nrefm, hr.nref⟩
  · by_cases ht : t' = d
    · subst ht
      rw [hf] at e; cases e
      rw [eval_put_same (by rw [hr.sz]; exact hd)]
      refine ⟨by simp [LVal, upd], fun k o e' => .inl ?_⟩
      rcases e' with e' | e' <;> cases e'
      rfl
    · rw [eval_put_ne ht]
      have := hr.cur t' l' c e (hc'.resolve_left ht) hh
      refine ⟨?_, fun k o e' => .inr (this.2 k o e')⟩
      rw [this.1]
      cases l' with
      | v x => rfl
      | box k o =>
        have hk : k ≠ d := fun ek => hL (ek ▸ this.2 k o (.inl rfl))
        simp [LVal, hup k hk]
      | boxd k o =>
        have hk : k ≠ d := fun ek => hL (ek ▸ this.2 k o (.inr rfl))
        simp [LVal, hup k hk]
  · by_cases ht : t' = d
    · subst ht
      rw [hf] at e; cases e
      exact absurd (holds_nil s) hh
    · rw [eval_put_ne ht]
      exact hr.und t' l' c e (hc'.resolve_left ht) hh
  · by_cases ek : k = d
    · subst ek
      rw [hm] at e; cases e
      refine ⟨?_, t, ?_⟩
      · simpa [upd] using hn0
      · simp [upd]
    · rw [hup k ek]
      exact hr.box k cs' e (hk.resolve_left ek)
  · by_cases ek : k = d
    · by_cases ek' : k' = d
      · rw [ek, ek']
      · rw [hup k' ek', ek] at he
        have := hlt k' e' (hk'.resolve_left ek')
        simp only [upd, if_true] at he
        omega
    · by_cases ek' : k' = d
      · rw [hup k ek, ek'] at he
        have := hlt k e (hk.resolve_left ek)
        simp only [upd, if_true] at he
        omega
      · rw [hup k ek, hup k' ek'] at he
        exact hr.inj k k' e e' (hk.resolve_left ek) (hk'.resolve_left ek') he

theorem segA {l mm : List Nat} {d : Nat} {cs : List Value} (t : Nat) (hs : Sub h w) (hm : s.m d = some cs) (hL : ¬ Liv d) (hl : d ∈ l) (hmm : d ∈ mm) :
    Seg l mm (live s Liv) β a h w (live s fun k => k = d ∨ Liv k) (upd β d w.heap.size) (a.put (some d) (.pointer (some ⟨w.heap.size, 0, none⟩))) h { w with heap := w.heap.push (.cells cs.toArray t (0, 0)) } := by
  refine ⟨fun i hi => eval_put_ne fun e => hi (e ▸ hl), fun k hk => ?_, by simp, fun _ _ e => e, fun b hb hn _ => ((step_push hs _).keep b hb hn).1, fun k hk => ?_, rfl, rfl, rfl, rfl⟩
  · have : k ≠ d := fun e => by rcases hk with hk | hk
                                · exact hk (e ▸ hl)
                                · exact hk (e ▸ hmm)
    simp [upd, this]
  · by_cases ek : k = d
    · subst ek
      exact .inr (by simp [upd])
    · exact .inl ⟨⟨hk.1, hk.2.resolve_left ek⟩, by simp [upd, ek]⟩

/-- A private variable is written. -/
theorem put_cells (b : Nat) (ct : Nat) : ∀ (new : List Value) (h : Hp) (i off : Nat) (cs : List Value), off + i + new.length ≤ cs.length → h b = some (.cells cs.toArray ct (0, 0)) →
    (putL h ⟨b, off, none⟩ new i) b = some (.cells (layL cs (off + i) new).toArray ct (0, 0)) ∧ ∀ b', b' ≠ b → (putL h ⟨b, off, none⟩ new i) b' = h b'
  | [], h, i, off, cs, hl, e => by
    refine ⟨?_, fun _ _ => rfl⟩
    rw [layL_eq _ _ _ (by simpa using hl)]
    simpa [putL] using e
  | v :: new, h, i, off, cs, hl, e => by
    simp at hl
    have e1 : (h.put ((⟨b, off, none⟩ : Addr).add i) v) = h.set b (.cells (cs.set (off + i) v).toArray ct (0, 0)) := by
      rw [box_add]
      unfold Hp.put
      simp only [e]
      simp
    have e2 : (h.set b (.cells (cs.set (off + i) v).toArray ct (0, 0))) b = some (.cells (cs.set (off + i) v).toArray ct (0, 0)) := by simp [Hp.set]
    obtain ⟨h1, h2⟩ := put_cells b ct new _ (i + 1) off (cs.set (off + i) v) (by simp; omega) e2
    simp only [putL, e1]
    refine ⟨?_, fun b' hb' => ?_⟩
    · rw [h1, layL_eq _ _ _ (by simp; omega), layL_eq _ _ _ (by simp; omega)]
      congr 3
      apply List.ext_getElem?
      intro j
      simp only [List.getElem?_append, List.length_append, List.length_take, List.length_set, List.length_cons, List.getElem?_take, List.getElem?_drop, List.getElem?_set]
      rcases Nat.lt_trichotomy j (off + i) with hj | hj | hj
      · have e1 : j < min (off + (i + 1)) cs.length + new.length := by omega
        have e2 : j < min (off + (i + 1)) cs.length := by omega
        have e3 : j < off + (i + 1) := by omega
        have e4 : ¬ off + i = j := by omega
        have e5 : j < min (off + i) cs.length + (new.length + 1) := by omega
        have e6 : j < min (off + i) cs.length := by omega
        simp [e1, e2, e3, e4, e5, e6, hj]
      · subst hj
        have e1 : off + i < min (off + (i + 1)) cs.length + new.length := by omega
        have e2 : off + i < min (off + (i + 1)) cs.length := by omega
        have e5 : off + i < min (off + i) cs.length + (new.length + 1) := by omega
        have e6 : ¬ off + i < min (off + i) cs.length := by omega
        have e7 : off + i - min (off + i) cs.length = 0 := by omega
        have e8 : off + i < cs.length := by omega
        have e9 : off + i < off + (i + 1) := by omega
        simp [e1, e2, e5, e6, e7, e8, e9]
      · by_cases hj2 : j < off + i + (new.length + 1)
        · have e1 : j < min (off + (i + 1)) cs.length + new.length := by omega
          have e2 : ¬ j < min (off + (i + 1)) cs.length := by omega
          have e5 : j < min (off + i) cs.length + (new.length + 1) := by omega
          have e6 : ¬ j < min (off + i) cs.length := by omega
          obtain ⟨m, hm⟩ : ∃ m, j - min (off + i) cs.length = m + 1 := ⟨j - min (off + i) cs.length - 1, by omega⟩
          have e7 : j - min (off + (i + 1)) cs.length = m := by omega
          simp [e1, e2, e5, e6, hm, e7]
        · have e1 : ¬ j < min (off + (i + 1)) cs.length + new.length := by omega
          have e5 : ¬ j < min (off + i) cs.length + (new.length + 1) := by omega
          have e7 : off + (i + 1) + new.length + (j - (min (off + (i + 1)) cs.length + new.length)) = j := by omega
          have e8 : off + i + (new.length + 1) + (j - (min (off + i) cs.length + (new.length + 1))) = j := by omega
          have e9 : ¬ off + i = j := by omega
          simp [e1, e5, e7, e8, e9]
    · rw [h2 b' hb']
      simp [Hp.set, hb']

theorem run_storeBox {P : Program} {b ct off : Nat} {cs new : List Value} (hs : Sub h w) (hb : w.heap[b]? = some (.cells cs.toArray ct (0, 0))) (hn : h b = none) (hok : okCells new = true) (hl : off + new.length ≤ cs.length) :
    ∃ w', (storeCells ⟨b, off, none⟩ new 0).run P w = .ok () w' ∧ w'.heap[b]? = some (.cells (layL cs off new).toArray ct (0, 0)) ∧ (∀ b', b' < w.heap.size → b' ≠ b → h b' = none → w'.heap[b']? = w.heap[b']?) ∧
      Sub h w' ∧ w.heap.size ≤ w'.heap.size ∧ w'.os = w.os ∧ w'.tape = w.tape ∧ w'.output = w.output := by
  have hs' : Sub (h.set b (.cells cs.toArray ct (0, 0))) w := by
    intro i o e
    unfold Hp.set at e
    by_cases hi : i = b
    · subst hi; simp at e; subst e; exact hb
    · simp [hi] at e; exact hs i o e
  have e0 : (h.set b (.cells cs.toArray ct (0, 0))) b = some (.cells cs.toArray ct (0, 0)) := by simp [Hp.set]
  obtain ⟨w', hr, hst⟩ := run_storeCells (P := P) (a := ⟨b, off, none⟩) new 0 _ w hs' hok (fun j hj => by
    rw [box_add]
    refine ⟨⟨cs[off + (0 + j)]'(by omega), ?_⟩, ?_⟩
    · simp only [hcell, e0]
      simp
    · simp only [hfroz, e0]
      simp)
  obtain ⟨h1, h2⟩ := put_cells b ct new _ 0 off cs (by omega) e0
  refine ⟨w', hr, hst.sub _ _ h1, fun b' hb' hne hn' => (hst.keep b' hb' (by simp [Hp.set, hne, hn'])).1, fun i o e => hst.sub i o ?_, hst.size, hst.os, hst.tape, hst.output⟩
  have hi : i ≠ b := fun e' => by rw [e', hn] at e; cases e
  rw [h2 i hi]
  simp [Hp.set, hi, e]

theorem RR.storeM (hr : RR n Cur Liv D N β s a h w) {k ct : Nat} {cs cs' : List Value} {w' : World} (hm : s.m k = some cs) (hL : Liv k)
    (hb : w'.heap[β k]? = some (.cells cs'.toArray ct (0, 0))) (ho : ∀ b', b' < w.heap.size → b' ≠ β k → h b' = none → w'.heap[b']? = w.heap[b']?) (hs : Sub h w') :
    RR n Cur Liv D N β (s.putM k cs') a h w' := by
  refine ⟨hr.sz, hs, hr.lt, hr.chain, hr.cur, hr.und, fun k' cs2 e hl => ?_, fun k1 k2 e1 e2 => hr.inj k1 k2 ?_ ?_, fun k' hk' => ?_, hr.nref⟩
  · by_cases ek : k' = k
    · subst ek
      rw [putM_same] at e; cases e
      exact ⟨(hr.box k' cs hm hL).1, ct, hb⟩
    · rw [putM_ne _ _ ek] at e
      obtain ⟨h1, ct', h2⟩ := hr.box k' cs2 e hl
      refine ⟨h1, ct', ?_⟩
      rw [ho _ (heap_lt h2) (fun e' => ek (hr.inj k' k (by simp [e]) (by simp [hm]) hl hL e')) h1]
      exact h2
  · intro e
    by_cases ek : k1 = k
    · rw [ek, hm] at e; cases e
    · exact e1 (by rw [putM_ne _ _ ek]; exact e)
  · intro e
    by_cases ek : k2 = k
    · rw [ek, hm] at e; cases e
    · exact e2 (by rw [putM_ne _ _ ek]; exact e)
  · by_cases ek : k' = k
    · have := hr.nrefm k' hk'
      rw [ek, hm] at this; cases this
    · rw [putM_ne _ _ ek]
      exact hr.nrefm k' hk'

end
end Lf
