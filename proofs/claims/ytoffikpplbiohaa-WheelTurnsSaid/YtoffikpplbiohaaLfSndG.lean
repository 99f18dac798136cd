/-
  The lifting layer, part 11: stores and new memory.
-/
import Derived.Test.YtoffikpplbiohaaLfSndF
namespace Lf
open Go

section
variable {P : Program} {tb : Tb} {o : Oper} {ch : Chain} {s : St} {h : Hp} {K : LV → Hp → Prop}

theorem cnd_iff (s : St) (t : Nat) (w : Bool) (r : Chain) : ∃ b, cnd s ((t, w) :: r) = some b ∧ (b = true ↔ holds s ((t, w) :: r)) := by
  induction r generalizing t w with
  | nil =>
    simp only [cnd]
    split
    · rename_i b c hf
      refine ⟨_, rfl, fun h => ?_, fun h => ?_⟩
      · intro p hp
        simp at hp
        subst hp
        simp only [hb, hf]
        cases w <;> cases b <;> first | rfl | cases h
      · have := h (t, w) (List.mem_cons_self ..)
        simp only [hb, hf] at this
        injection this with this
        subst this
        cases b <;> rfl
    · refine ⟨false, rfl, fun h => (by cases h), fun h => ?_⟩
      have := h (t, w) (List.mem_cons_self ..)
      unfold hb at this
      split at this
      · rename_i hn _ b c hf; exact absurd hf (hn b c)
      · cases this
  | cons p r ih =>
    obtain ⟨t', w'⟩ := p
    obtain ⟨b', hb', hh'⟩ := ih t' w'
    simp only [cnd]
    split
    · rename_i b c hf
      rw [hb']
      refine ⟨_, rfl, fun h => ?_, fun h => ?_⟩
      · have h2 : b' = true ∧ b = w := by cases w <;> cases b <;> cases b' <;> first | exact ⟨rfl, rfl⟩ | cases h
        intro q hq
        rcases List.mem_cons.1 hq with rfl | hq
        · simp only [hb, hf, h2.2]
        · exact hh'.1 h2.1 q hq
      · have h1 := h (t, w) (List.mem_cons_self ..)
        simp only [hb, hf] at h1
        injection h1 with h1
        have h2 : b' = true := hh'.2 fun q hq => h q (List.mem_cons_of_mem _ hq)
        subst h1; subst h2
        cases b <;> rfl
    · refine ⟨false, rfl, fun h => (by cases h), fun h => ?_⟩
      have := h (t, w) (List.mem_cons_self ..)
      unfold hb at this
      split at this
      · rename_i hn _ b c hf; exact absurd hf (hn b c)
      · cases this

/-- What an operation that may change memory must come to. -/
def EffOk (P : Program) (o : Oper) (ch : Chain) (s : St) (h : Hp) (K : LV → Hp → Prop) : Prop :=
  (holds s ch → ∀ (β : Nat → Nat) (a : Act) (w : World), (∀ x ∈ o.op.operands, Opnd β s a.eval x) → Sub h w → ∀ (next : Act → World → Prop) (Q : Exit → Act → World → Prop),
    (∀ x h' w', K (.v x) h' → Step h h' w w' → next (a.put o.dst x) w') → o.wp P a w next Q) ∧
  (¬ holds s ch → ∃ x, K (.v x) h)

theorem effC_none {α : Type} {A : (α → Hp → Prop) → Hp → Prop} {K : α → Hp → Prop} (he : EffC (cnd s ch) A K h) : (holds s ch → A K h) ∧ (¬ holds s ch → ∃ x, K x h) := by
  cases ch with
  | nil => exact ⟨fun _ => he, fun hn => absurd (holds_nil s) hn⟩
  | cons p r =>
    obtain ⟨t, w⟩ := p
    obtain ⟨b, hb, hi⟩ := cnd_iff s t w r
    rw [hb] at he
    exact ⟨fun hh => he.1 (hi.2 hh), fun hn => he.2 (by cases b with
      | false => rfl
      | true => exact absurd (hi.1 rfl) hn)⟩

/-- One that comes to a value. -/
theorem eff_value {α : Type} {A : (α → Hp → Prop) → Hp → Prop} {f : α → Value} (he : EffC (cnd s ch) A (fun x h' => K (.v (f x)) h') h)
    (hr : holds s ch → ∀ (β : Nat → Nat) (ρ : Operand → Value) (w : World), (∀ x ∈ o.op.operands, Opnd β s ρ x) → Sub h w → ∀ (K : α → Hp → Prop), A K h →
      ∃ x h' w', (execOp ρ o).run P w = .ok (.value (f x)) w' ∧ K x h' ∧ Step h h' w w') : EffOk P o ch s h K := by
  obtain ⟨h1, h2⟩ := effC_none he
  refine ⟨fun hh β a w ho hs next Q hn => ?_, fun hn => ?_⟩
  · obtain ⟨x, h', w', hr, hk, hst⟩ := hr hh β a.eval w ho hs _ (h1 hh)
    unfold Oper.wp
    rw [hr, Oper.upon_value]
    exact hn _ _ _ hk hst
  · obtain ⟨x, hx⟩ := h2 hn
    exact ⟨_, hx⟩

theorem hcell_put {h : Hp} {a a' : Addr} {v : Value} (he : ∃ u, hcell h a' = some u) : ∃ u, hcell (h.put a v) a' = some u := by
  obtain ⟨u, hu⟩ := he
  obtain ⟨c, t, fr, hb, hsp, hc⟩ := hcell_block hu
  unfold Hp.put
  split
  · rename_i c' e' fr' hb'
    unfold hcell Hp.set
    by_cases hbl : a'.block = a.block
    · rw [hbl] at hb
      rw [hb] at hb'
      cases hb'
      simp only [hbl, if_true, hsp, Option.isSome_none, Bool.false_eq_true, if_false]
      split
      · exact ⟨u, hc⟩
      · rw [Array.getElem?_setIfInBounds]
        split
        · rename_i hoff
          have : a'.off < c.size := by
            rcases Nat.lt_or_ge a'.off c.size with h | h
            · exact h
            · rw [Array.getElem?_eq_none h] at hc; cases hc
          rw [if_pos (by omega)]
          exact ⟨v, rfl⟩
        · exact ⟨u, hc⟩
    · simp only [if_neg hbl, hb, hsp]
      exact ⟨u, by simpa using hc⟩
  · exact ⟨u, hu⟩

theorem hfroz_put (h : Hp) (a a' : Addr) (v : Value) : hfroz (h.put a v) a' = hfroz h a' := by
  unfold Hp.put
  split
  · rename_i c e fr hb
    unfold hfroz Hp.set
    by_cases hbl : a'.block = a.block
    · simp only [hbl, if_true, hb]
    · simp only [if_neg hbl]
  · rfl

theorem stOk_get {h : Hp} {a : Addr} : ∀ {n : Nat}, StOk h a n → ∀ i, i < n → (∃ v, hcell h (a.add i) = some v) ∧ hfroz h (a.add i) = false
  | 0, _, i, hi => by omega
  | n + 1, hs, i, hi => by
    rcases Nat.lt_or_ge i n with h | h
    · exact stOk_get hs.1 i h
    · have : i = n := by omega
      subst this
      exact hs.2

theorem run_storeCells {a : Addr} : ∀ (cs : List Value) (i : Nat) (h : Hp) (w : World), Sub h w → okCells cs = true →
    (∀ j, j < cs.length → (∃ v, hcell h (a.add (i + j)) = some v) ∧ hfroz h (a.add (i + j)) = false) →
    ∃ w', (storeCells a cs i).run P w = .ok () w' ∧ Step h (putL h a cs i) w w'
  | [], i, h, w, hs, _, _ => ⟨w, rfl, .refl hs⟩
  | v :: cs, i, h, w, hs, hok, hc => by
    obtain ⟨⟨v0, h0⟩, hf⟩ := hc 0 (by simp)
    rw [Nat.add_zero] at h0 hf
    have hst := step_put (v := v) hs h0
    have hok' : okCells cs = true ∧ v.oneCell' = true := by
      cases v <;> simp only [okCells] at hok <;> first | exact ⟨hok, rfl⟩ | cases hok
    obtain ⟨w', hr, hst'⟩ := run_storeCells cs (i + 1) (h.put (a.add i) v) (w.setCell (a.add i) v) hst.sub hok'.1 (fun j hj => by
      have := hc (j + 1) (by simp; omega)
      rw [show i + 1 + j = i + (j + 1) from by omega]
      exact ⟨hcell_put this.1, by rw [hfroz_put]; exact this.2⟩)
    refine ⟨w', ?_, hst.trans hst'⟩
    simp only [storeCells, Sem.run_bind]
    have hst1 : (store (a.add i) v).run P w = .ok () (w.setCell (a.add i) v) := by
      have hcl := hcell_sub hs h0
      obtain ⟨c, t, fr, hb, _, _⟩ := hcell_block h0
      have hfr : w.frozen? (a.add i) = false := by rw [hfroz_sub hs hb]; exact hf
      have hv := hok'.2
      cases v <;> first
        | (simp [Value.oneCell'] at hv; done)
        | simp only [store, Sem.run, hcl, hfr, Bool.false_eq_true, if_false]
    rw [hst1]
    simp only [Result.andThen_ok]
    exact hr

theorem eff_store (ok : tb.Ok P) {t : Nat} {x y : Operand} (hop : o.op = .store t x y) (hv : match ev s ch x, ev s ch y with
    | some (.v (.pointer (some a))), some (.v v) => match ch, tb.ty t with
      | [], some e => cond (Nat.beq (cellsL v).length e.size) (cond (okCells (cellsL v)) (StW h a (cellsL v) fun h' => K (.v (.tuple #[])) h') False) False
      | _, _ => False
    | _, _ => False) : EffOk P o ch s h K := by
  split at hv
  · rename_i a v hea hev
    split at hv
    · rename_i e he
      cases h1 : Nat.beq (cellsL v).length e.size with
      | false => simp [h1] at hv
      | true =>
        cases h2 : okCells (cellsL v) with
        | false => simp [h1, h2] at hv
        | true =>
          simp only [h1, h2, cond_true] at hv
          refine ⟨fun hh β act w ho hs next Q hn => ?_, fun hn => absurd (holds_nil s) hn⟩
          have hx : act.eval x = _ := ev_ok (ho x (by simp [hop, Op.operands])) hh hea
          have hy : act.eval y = _ := ev_ok (ho y (by simp [hop, Op.operands])) hh hev
          obtain ⟨w', hr, hst⟩ := run_storeCells (P := P) (cellsL v) 0 h w hs h2 (fun j hj => by simpa using stOk_get hv.1 j hj)
          have hsz := run_sizeOf' ok he w
          have hlen : v.cells.size = e.size := by rw [← Array.length_toList, cells_list]; exact Nat.eq_of_beq_eq_true h1
          unfold Oper.wp
          have hrun : (execOp act.eval o).run P w = .ok .skip w' := by
            simp only [execOp, hop, hx, hy, LVal, Instr.storeAt, Instr.sureAddr, Sem.run_bind, Sem.run_pure, Result.andThen_ok, storeVar, hsz, hlen, ne_eq, not_true, if_false, cells_list]
            have : (if False then (stuck "storeVar: the value has not the size of the variable" : Sem Unit) else pure PUnit.unit).run P w = .ok () w := rfl
            first | rw [this] | skip
            simp only [hr, Result.andThen_ok]
          rw [hrun, Oper.upon_skip]
          exact hn _ _ _ hv.2 hst
    · exact hv.elim
  · exact hv.elim

theorem run_newRow {e : TypeId} {cs : Array Value} {w : World} : (newRow e cs).run P w = .ok ⟨w.heap.size, 0, none⟩ { w with heap := w.heap.push (.cells cs e) } := by
  simp [newRow]

theorem newW_run {cs : List Value} {K : Addr → Hp → Prop} {t : Nat} {w : World} (hs : Sub h w) (hk : NewW cs K h) :
    ∃ h', K ⟨w.heap.size, 0, none⟩ h' ∧ Step h h' w { w with heap := w.heap.push (.cells cs.toArray t) } := by
  obtain ⟨hn, hst⟩ := step_new hs (.cells cs.toArray t)
  exact ⟨_, hk _ t hn, hst⟩

theorem eff_alloc (ok : tb.Ok P) {t : Nat} (hop : o.op = .alloc t) (hv : match tb.ty t with
    | some e => EffC (cnd s ch) (NewW (cellsL e.zero)) (fun a h' => K (.v (.pointer (some a))) h') h
    | none => False) : EffOk P o ch s h K := by
  split at hv
  · rename_i e he
    refine eff_value (f := fun a => .pointer (some a)) hv fun hh β ρ w ho hs K hk => ?_
    obtain ⟨h', hk', hst⟩ := newW_run (t := t) hs hk
    refine ⟨_, h', _, ?_, hk', hst⟩
    have e2 : (cellsL e.zero).toArray = e.zero.cells := by apply Array.ext'; simp [cells_list]
    rw [e2]
    simp [execOp, hop, Instr.alloc, run_zeroValue' ok he, newVar, run_newRow]
  · exact hv.elim

theorem eff_box {t : Nat} {x : Operand} (hop : o.op = .box t x) (hv : onV (ev s ch x) fun v => EffC (cnd s ch) (NewW (cellsL v)) (fun a h' => K (.v (.pointer (some a))) h') h) :
    EffOk P o ch s h K := by
  obtain ⟨v, hev, hv'⟩ := onV_some hv
  refine eff_value (f := fun a => .pointer (some a)) hv' fun hh β ρ w ho hs K hk => ?_
  obtain ⟨h', hk', hst⟩ := newW_run (t := t) hs hk
  refine ⟨_, h', _, ?_, hk', hst⟩
  have hx := ev_ok (ho x (by simp [hop, Op.operands])) hh hev
  have e2 : (cellsL v).toArray = v.cells := by apply Array.ext'; simp [cells_list]
  rw [e2]
  simp [execOp, hop, hx, LVal, Instr.box, newVar, run_newRow]

theorem repL_length {α : Type} (l : List α) : ∀ n, (repL l n).length = n * l.length
  | 0 => by simp [repL]
  | n + 1 => by simp [repL, repL_length l n, Nat.add_mul, Nat.add_comm]

theorem repL_get (l : List Value) : ∀ n i, i < n * l.length → (repL l n)[i]? = l[i % l.length]?
  | 0, i, h => by simp at h
  | n + 1, i, h => by
    simp only [repL]
    rcases Nat.lt_or_ge i l.length with hi | hi
    · rw [List.getElem?_append_left hi, Nat.mod_eq_of_lt hi]
    · rw [List.getElem?_append_right hi, repL_get l n (i - l.length) (by rw [Nat.add_mul] at h; omega)]
      congr 1
      rw [← Nat.mod_eq_sub_mod hi]

theorem zeros_arr (z : List Value) (n size : Nat) (hz : z.length = size) : ((Array.range (n * size)).map (fun i => z.toArray[i % z.toArray.size]!)) = (repL z n).toArray := by
  apply Array.ext'
  apply List.ext_getElem?
  intro i
  rcases Nat.lt_or_ge i (n * size) with hi | hi
  · have h1 : (repL z n)[i]? = z[i % z.length]? := repL_get z n i (by rw [hz]; exact hi)
    have hpos : 0 < size := by
      rcases Nat.eq_zero_or_pos size with h | h
      · subst h; simp at hi
      · exact h
    have hlt : i % z.length < z.length := Nat.mod_lt _ (by omega)
    simp only [List.getElem?_toArray, h1]
    simp [hi, List.getElem?_eq_getElem hlt]
  · have h1 : (repL z n).length ≤ i := by rw [repL_length, hz]; exact hi
    simp [List.getElem?_eq_none h1, Nat.not_lt.2 hi]

theorem eff_buildSlice (ok : tb.Ok P) {t len : Nat} {parts : Array (Nat × Operand)} (hop : o.op = .buildSlice t len parts) (hv : match pairs s ch parts.toList, elemS tb t with
    | some ps, some e => cond (Nat.ble (len * e.size) 16777216) (match fillA e.size (repL (cellsL e.zero) len) ps with
      | some cs => EffC (cnd s ch) (NewW cs) (fun a h' => K (.v (.slice (some a) len len)) h') h
      | none => False) False
    | _, _ => False) : EffOk P o ch s h K := by
  split at hv
  · rename_i ps e hps hel
    obtain ⟨y, u, hy, hu, hg⟩ := elemS_some hel
    cases h1 : Nat.ble (len * e.size) 16777216 with
    | false => simp [h1] at hv
    | true =>
      simp only [h1, cond_true] at hv
      have hle := Nat.le_of_ble_eq_true h1
      split at hv
      · rename_i cs hcs
        refine eff_value (f := fun a => .slice (some a) len len) hv fun hh β ρ w ho hs K hk => ?_
        obtain ⟨h', hk', hst⟩ := newW_run (t := u) hs hk
        refine ⟨_, h', _, ?_, hk', hst⟩
        have hparts : (parts.map fun (i, x) => (i, ρ x)).toList = ps := by
          have := pairs_ok (β := β) (ρ := ρ) hh hps fun x hx => ho x (by simp [hop, Op.operands]; simpa using hx)
          simpa using this
        have hun := run_underlying' ok hy w
        rw [hu] at hun
        have hsz := run_sizeOf' ok hg w
        have hz := run_zeroValue' ok hg w
        have hzl := ok.zlen u e hg
        have hfill := fillA_ok hcs
        have e2 : e.zero.cells = (cellsL e.zero).toArray := by apply Array.ext'; simp [cells_list]
        simp only [execOp, hop, Instr.buildSlice, Sem.run_bind, hun, Result.andThen_ok, hsz, hparts]
        rw [if_neg (by omega)]
        by_cases h0 : len * e.size = 0
        · have hr0 : repL (cellsL e.zero) len = [] := by
            apply List.length_eq_zero_iff.1
            rw [repL_length, hzl]; exact h0
          rw [hr0] at hfill
          have e3 : (Array.map (fun x => (#[] : Array Value)[x % (#[] : Array Value).size]!) (Array.range (len * e.size))) = ([] : List Value).toArray := by rw [h0]; simp
          simp only [h0, if_true, Sem.run_pure, Result.andThen_ok, Sem.run_bind]
          rw [h0] at e3
          simp only [e3, hfill, Sem.run_bind, run_newRow, Result.andThen_ok, Sem.run_pure]
        · have e3 := zeros_arr (cellsL e.zero) len e.size hzl
          simp only [h0, if_false, Sem.run_bind, hz, Result.andThen_ok, Sem.run_pure, e2]
          simp only [e3, hfill, Sem.run_bind, run_newRow, Result.andThen_ok, Sem.run_pure]
      · exact hv.elim
  · exact hv.elim

end
end Lf
