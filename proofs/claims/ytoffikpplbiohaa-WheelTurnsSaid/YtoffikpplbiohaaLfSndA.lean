/-
  The lifting layer, part 5: that what is told of operations that change nothing is so.
-/
import Derived.Test.YtoffikpplbiohaaLfCode
import Derived.Laws.Sem
namespace Lf
open Go

/-- What is told of the types is so of the program. -/
structure Tb.Ok (P : Program) (tb : Tb) : Prop where
  und : ∀ t e, tb.ty t = some e → P.underlying t = some e.und
  info : ∀ t e, tb.ty t = some e → ∃ i, P.info? t = some i ∧ i.size = e.size ∧ i.bytes = e.bytes ∧ i.zero = some e.zero
  agg : ∀ t e, tb.ty t = some e → isAggD e.und = true → ∀ x, ∃ cs, e.sh.enc x = .agg cs ∧ cs.size = e.size
  leaf : ∀ t e, tb.ty t = some e → isAggD e.und = false → e.size = 1 ∧ ∀ x, (cellsL (e.sh.enc x)).length = 1 ∧ ∀ cs, e.sh.enc x ≠ .agg cs
  zlen : ∀ t e, tb.ty t = some e → (cellsL e.zero).length = e.size
  zero8 : ∀ t e, tb.ty t = some e → e.und = .int .u8 → cellsL e.zero = [.int .u8 0]
  zagg : ∀ t e, tb.ty t = some e → isAggD e.und = true → ∃ cs, e.zero = .agg cs
  call : ∀ g, tb.call g = true → ∀ args w, (callFunc g args).run P w = .ok (.enter g args) w
  ext : ∀ g f, tb.ext g = some f → ∀ args w, (callFunc g args).run P w = ((f args).run P w).andThen fun v w' => .ok (.value v) w'
  mixed : P.follows .mixedOrders = true

theorem chEq_eq : ∀ {c d : Chain}, chEq c d = true → c = d
  | [], [], _ => rfl
  | [], _ :: _, h => by simp [chEq] at h
  | (t, w) :: c, [], h => by simp [chEq] at h
  | (t, w) :: c, (u, x) :: d, h => by
    simp only [chEq] at h
    cases h1 : Nat.beq t u with
    | false => simp [h1] at h
    | true =>
      cases h2 : boolEq w x with
      | false => simp [h1, h2] at h
      | true =>
        simp only [h1, h2, cond_true] at h
        have e1 : t = u := Nat.eq_of_beq_eq_true h1
        have e2 : w = x := by cases w <;> cases x <;> first | rfl | cases h2
        rw [e1, e2, chEq_eq h]

theorem sufx_mem : ∀ {c ch : Chain}, sufx c ch = true → ∀ p ∈ c, p ∈ ch
  | c, [], h => by
    cases c with
    | nil => intro p hp; cases hp
    | cons a r => simp [sufx] at h
  | c, q :: d, h => by
    cases c with
    | nil => intro p hp; cases hp
    | cons a r =>
      simp only [sufx] at h
      cases h1 : chEq (a :: r) (q :: d) with
      | true => intro p hp; rw [← chEq_eq h1]; exact hp
      | false =>
        simp only [h1, cond_false] at h
        intro p hp
        exact List.mem_cons_of_mem _ (sufx_mem h p hp)

/-- The truth in a slot. -/
def hb (s : St) (t : Nat) : Option Bool := match s.f t with
  | some (.v (.bool b), _) => some b
  | _ => none

def holds (s : St) (ch : Chain) : Prop := ∀ p ∈ ch, hb s p.1 = some p.2

theorem holds_nil (s : St) : holds s [] := fun _ h => by cases h

theorem holds_sufx {s : St} {c ch : Chain} (hs : sufx c ch = true) (h : holds s ch) : holds s c := fun p hp => h p (sufx_mem hs p hp)

theorem cnd_cons {s : St} (t : Nat) (w : Bool) (r : Chain) : ∃ b, cnd s ((t, w) :: r) = some b ∧ (holds s ((t, w) :: r) → b = true) := by
  induction r generalizing t w with
  | nil =>
    simp only [cnd]
    split
    · rename_i b c hf
      refine ⟨_, rfl, fun h => ?_⟩
      have := h (t, w) (List.mem_cons_self ..)
      simp only [hb, hf] at this
      injection this with this
      subst this
      cases b <;> rfl
    · refine ⟨false, rfl, fun h => ?_⟩
      have := h (t, w) (List.mem_cons_self ..)
      unfold hb at this
      split at this
      · rename_i hn _ b c hf; exact absurd hf (hn b c)
      · cases this
  | cons p r ih =>
    obtain ⟨t', w'⟩ := p
    obtain ⟨b', hb', hh'⟩ := ih t' w'
    simp only [cnd]
    split
    · rename_i b c hf
      rw [hb']
      refine ⟨_, rfl, fun h => ?_⟩
      have h1 := h (t, w) (List.mem_cons_self ..)
      simp only [hb, hf] at h1
      injection h1 with h1
      have h2 : b' = true := hh' fun q hq => h q (List.mem_cons_of_mem _ hq)
      subst h1; subst h2
      cases b <;> rfl
    · refine ⟨false, rfl, fun h => ?_⟩
      have := h (t, w) (List.mem_cons_self ..)
      unfold hb at this
      split at this
      · rename_i hn _ b c hf; exact absurd hf (hn b c)
      · cases this

theorem req_cnd {s : St} {ch : Chain} {p : Prop} (h : Req (cnd s ch) p) (hh : holds s ch) : p := by
  cases ch with
  | nil => exact h
  | cons q r =>
    obtain ⟨t, w⟩ := q
    obtain ⟨b, hb, hi⟩ := cnd_cons (s := s) t w r
    rw [hb] at h
    exact h (hi hh)

/-- What a slot's content is in memory. -/
def LVal (β : Nat → Nat) : LV → Value
  | .v x => x
  | .box k o => .pointer (some ⟨β k, o, none⟩)
  | .boxd k o => .pointer (some ⟨β k, o, none⟩)

def Opnd (β : Nat → Nat) (s : St) (ρ : Operand → Value) : Operand → Prop
  | .tmp t => ∀ l c, s.f t = some (l, c) → holds s c → ρ (.tmp t) = LVal β l
  | .const v => ρ (.const v) = v
  | .global g => ρ (.global g) = .pointer (some ⟨g, 0, none⟩)
  | .func f => ρ (.func f) = .func (.func f) #[] #[]

theorem ev_ok {β : Nat → Nat} {s : St} {ρ : Operand → Value} {x : Operand} {ch : Chain} {l : LV} (ho : Opnd β s ρ x) (hh : holds s ch) (he : ev s ch x = some l) : ρ x = LVal β l := by
  cases x with
  | tmp t =>
    simp only [ev] at he
    split at he
    · rename_i l' c hf
      cases hs : sufx c ch with
      | false => simp [hs] at he
      | true =>
        simp only [hs, cond_true] at he
        cases he
        exact ho l c hf (holds_sufx hs hh)
    · cases he
  | const v => cases he; exact ho
  | global g => cases he; exact ho
  | func f => cases he; exact ho

theorem onL_some {l : Option LV} {K : LV → Prop} (h : onL l K) : ∃ x, l = some x ∧ K x := by
  cases l with
  | none => exact h.elim
  | some x => exact ⟨x, rfl, h⟩

theorem onV_some {l : Option LV} {K : Value → Prop} (h : onV l K) : ∃ x, l = some (.v x) ∧ K x := by
  cases l with
  | none => exact h.elim
  | some x => cases x <;> first | exact ⟨_, rfl, h⟩ | exact h.elim

theorem onVs_some {l : Option (List Value)} {K : List Value → Prop} (h : onVs l K) : ∃ x, l = some x ∧ K x := by
  cases l with
  | none => exact h.elim
  | some x => exact ⟨x, rfl, h⟩

/-- The private variables lie in memory. -/
def BoxR (β : Nat → Nat) (m : Nat → Option (List Value)) (w : World) : Prop :=
  ∀ k cs, m k = some cs → ∃ t, w.heap[β k]? = some (.cells cs.toArray t (0, 0))

/-- Those that the operation's operands lead to. -/
def BoxU (β : Nat → Nat) (s : St) (o : Oper) (w : World) : Prop :=
  ∀ t, Operand.tmp t ∈ o.op.operands → ∀ k off c, (s.f t = some (.box k off, c) ∨ s.f t = some (.boxd k off, c)) → holds s c → ∀ cs, s.m k = some cs → ∃ ct, w.heap[β k]? = some (.cells cs.toArray ct (0, 0))

theorem ev_tmp {s : St} {ch : Chain} {x : Operand} {l : LV} (he : ev s ch x = some l) (hl : ∀ v, l ≠ .v v) (hh : holds s ch) : ∃ t c, x = .tmp t ∧ s.f t = some (l, c) ∧ holds s c := by
  cases x with
  | tmp t =>
    simp only [ev] at he
    split at he
    · rename_i l' c hf
      cases hs : sufx c ch with
      | false => simp [hs] at he
      | true =>
        simp only [hs, cond_true] at he
        cases he
        exact ⟨t, c, rfl, hf, holds_sufx hs hh⟩
    · cases he
  | const v => cases he; exact absurd rfl (hl _)
  | global g => cases he; exact absurd rfl (hl _)
  | func f => cases he; exact absurd rfl (hl _)

theorem BoxU.box {β : Nat → Nat} {s : St} {o : Oper} {w : World} (hb : BoxU β s o w) {ch : Chain} {x : Operand} {k off : Nat} (hx : x ∈ o.op.operands) (he : ev s ch x = some (.box k off)) (hh : holds s ch)
    {cs : List Value} (hm : s.m k = some cs) : ∃ ct, w.heap[β k]? = some (.cells cs.toArray ct (0, 0)) := by
  obtain ⟨t, c, rfl, hf, hc⟩ := ev_tmp he (by simp) hh
  exact hb t hx k off c (.inl hf) hc cs hm

theorem BoxU.boxd {β : Nat → Nat} {s : St} {o : Oper} {w : World} (hb : BoxU β s o w) {ch : Chain} {x : Operand} {k off : Nat} (hx : x ∈ o.op.operands) (he : ev s ch x = some (.boxd k off)) (hh : holds s ch)
    {cs : List Value} (hm : s.m k = some cs) : ∃ ct, w.heap[β k]? = some (.cells cs.toArray ct (0, 0)) := by
  obtain ⟨t, c, rfl, hf, hc⟩ := ev_tmp he (by simp) hh
  exact hb t hx k off c (.inr hf) hc cs hm

/-- The operation comes to 'l', and changes nothing that is known. -/
def RunsK (kd : Kd) (P : Program) (o : Oper) (s : St) (h : Hp) (l : LV) : Prop :=
  ∀ (β : Nat → Nat) (ρ : Operand → Value) (w : World), (∀ x ∈ o.op.operands, Opnd β s ρ x) → (kd = .mem → Sub h w) → (kd ≠ .pure → BoxU β s o w) →
    ∃ w', (execOp ρ o).run P w = .ok (.value (LVal β l)) w' ∧ (kd ≠ .mem → w' = w) ∧ (kd = .mem → Step h h w w')

theorem nth_get {α : Type _} : ∀ (l : List α) (i : Nat), nth l i = l[i]?
  | [], _ => by simp [nth]
  | a :: l, 0 => by simp [nth]
  | a :: l, n + 1 => by simp [nth, nth_get l n]

theorem dropL_eq {α : Type _} : ∀ (l : List α) (i : Nat), dropL l i = l.drop i
  | l, 0 => by simp [dropL]
  | [], n + 1 => by simp [dropL]
  | a :: l, n + 1 => by simp [dropL, dropL_eq l n]

theorem takeL_eq {α : Type _} : ∀ (l : List α) (i : Nat), takeL l i = l.take i
  | l, 0 => by simp [takeL]
  | [], n + 1 => by simp [takeL]
  | a :: l, n + 1 => by simp [takeL, takeL_eq l n]

theorem app_eq {α : Type _} : ∀ (l r : List α), app l r = l ++ r
  | [], r => rfl
  | a :: l, r => by simp [app, app_eq l r]

theorem has_iff : ∀ (l : List Nat) (i : Nat), has l i = true ↔ i ∈ l
  | [], i => by simp [has]
  | a :: l, i => by
    simp only [has]
    cases h : Nat.beq i a with
    | true => simp [Nat.eq_of_beq_eq_true h]
    | false =>
      have : i ≠ a := fun e => by rw [e] at h; simp at h
      simp [has_iff l i, this]

theorem has_false {l : List Nat} {i : Nat} (h : has l i = false) : i ∉ l := fun hm => by rw [(has_iff l i).2 hm] at h; cases h

section
variable {P : Program} {tb : Tb}

theorem run_underlying' (ok : tb.Ok P) {t : Nat} {e : Ty} (h : tb.ty t = some e) (w : World) : (underlying t).run P w = .ok e.und w := by
  simp [underlying, ok.und t e h]

theorem run_typeInfo' (ok : tb.Ok P) {t : Nat} {e : Ty} (h : tb.ty t = some e) (w : World) :
    ∃ i, (typeInfo t).run P w = .ok i w ∧ i.size = e.size ∧ i.bytes = e.bytes ∧ i.zero = some e.zero := by
  obtain ⟨i, hi, h1, h2, h3⟩ := ok.info t e h
  exact ⟨i, by simp [typeInfo, hi], h1, h2, h3⟩

theorem run_sizeOf' (ok : tb.Ok P) {t : Nat} {e : Ty} (h : tb.ty t = some e) (w : World) : (Go.sizeOf t).run P w = .ok e.size w := by
  obtain ⟨i, hi, h1, h2, h3⟩ := run_typeInfo' ok h w
  simp only [Go.sizeOf, Sem.run_bind, hi, Result.andThen_ok, Sem.run_pure, h1]

theorem run_zeroValue' (ok : tb.Ok P) {t : Nat} {e : Ty} (h : tb.ty t = some e) (w : World) : (zeroValue t).run P w = .ok e.zero w := by
  obtain ⟨i, hi, h1, h2, h3⟩ := run_typeInfo' ok h w
  simp only [zeroValue, Sem.run_bind, hi, Result.andThen_ok, h3, Sem.run_pure]

theorem run_isAgg' (ok : tb.Ok P) {t : Nat} {e : Ty} (h : tb.ty t = some e) (w : World) : (isAgg t).run P w = .ok (isAggD e.und) w := by
  simp only [isAgg, Sem.run_bind, run_underlying' ok h, Result.andThen_ok]
  cases e.und <;> rfl

theorem cells_list (v : Value) : v.cells.toList = cellsL v := by cases v <;> rfl

/-- A row of cells is read. -/
theorem run_loadCellsFrom {w : World} {a : Addr} : ∀ (n i : Nat) (acc : Array Value) (cs : List Value), cs.length = n →
    (∀ j v, cs[j]? = some v → w.cell? (a.add (i + j)) = some v) → (loadCellsFrom a i n acc).run P w = .ok (acc ++ cs.toArray) w
  | 0, i, acc, cs, hl, _ => by
    have : cs = [] := List.length_eq_zero_iff.1 hl
    subst this; simp [loadCellsFrom]
  | n + 1, i, acc, [], hl, _ => by simp at hl
  | n + 1, i, acc, c :: cs, hl, hc => by
    have h0 : w.cell? (a.add i) = some c := by simpa using hc 0 c (by simp)
    have ih := run_loadCellsFrom n (i + 1) (acc.push c) cs (by simpa using hl) (fun j v hj => by
      have := hc (j + 1) v (by simpa using hj)
      rwa [show i + 1 + j = i + (j + 1) from by omega])
    simp only [loadCellsFrom, Sem.run_bind, run_load, h0, Result.andThen_ok, ih]
    congr 1
    simp

theorem run_loadCells {w : World} {a : Addr} {cs : List Value} (hc : ∀ j v, cs[j]? = some v → w.cell? (a.add j) = some v) : (loadCells a cs.length).run P w = .ok cs.toArray w := by
  unfold loadCells
  rw [run_loadCellsFrom cs.length 0 #[] cs rfl (by simpa using hc)]
  simp

/-- A variable is read whose cells are known. -/
theorem run_loadVar (ok : tb.Ok P) {t : Nat} {e : Ty} (h : tb.ty t = some e) {w : World} {a : Addr} {x : e.sh.T}
    (hc : ∀ j v, (cellsL (e.sh.enc x))[j]? = some v → w.cell? (a.add j) = some v) : (loadVar t a).run P w = .ok (e.sh.enc x) w := by
  simp only [loadVar, Sem.run_bind, run_isAgg' ok h, Result.andThen_ok]
  cases ha : isAggD e.und with
  | true =>
    obtain ⟨cs, he, hs⟩ := ok.agg t e h ha x
    simp only [if_true, Sem.run_bind, run_sizeOf' ok h, Result.andThen_ok]
    have hl : cs.toList.length = e.size := by simpa using hs
    have hc' : ∀ j v, cs.toList[j]? = some v → w.cell? (a.add j) = some v := by simpa [he, cellsL] using hc
    rw [← hl, run_loadCells hc']
    simp [he]
  | false =>
    obtain ⟨h1, h2⟩ := ok.leaf t e h ha
    have hne := (h2 x).2
    have hcl : cellsL (e.sh.enc x) = [e.sh.enc x] := by
      generalize e.sh.enc x = v at hne
      cases v <;> first | rfl | exact absurd rfl (hne _)
    have := hc 0 (e.sh.enc x) (by simp [hcl])
    have h0 : a.add 0 = a := by simp [Addr.add]
    rw [h0] at this
    simp [this]

theorem add_add (a : Addr) (i j : Nat) : (a.add i).add j = a.add (i + j) := by
  unfold Addr.add
  by_cases hi : i = 0
  · simp [hi]
  · by_cases hj : j = 0
    · simp [hj]
    · simp [hi, hj, Nat.add_assoc]

theorem box_add (b o i : Nat) : (⟨b, o, none⟩ : Addr).add i = ⟨b, o + i, none⟩ := by
  unfold Addr.add
  by_cases h : i = 0
  · simp [h]
  · simp [h]

theorem box_cell {w : World} {b t : Nat} {cs : List Value} (hb : w.heap[b]? = some (.cells cs.toArray t (0, 0))) (i : Nat) : w.cell? ⟨b, i, none⟩ = cs[i]? := by
  unfold World.cell?
  simp [hb]
end

end Lf
