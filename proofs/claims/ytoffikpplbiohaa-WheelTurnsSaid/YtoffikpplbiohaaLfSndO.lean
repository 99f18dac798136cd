/-
  The lifting layer, part 19: what is told of operations that are still to be carried out.
-/
import Derived.Test.YtoffikpplbiohaaLfSndN
namespace Lf
open Go

/-- The shape of what is loaded from memory that others know. -/
def LdSh (tb : Tb) (o : Oper) (ch : Chain) (s : St) (l : LV) : Prop :=
  kindD tb o ch s = .mem → ∀ t x, o.op = .load t x → ∃ (e : Ty) (y : e.sh.T), tb.ty t = some e ∧ l = .v (e.sh.enc y)

theorem valW_more {P : Program} {tb : Tb} (ok : tb.Ok P) {o : Oper} {ch : Chain} {s : St} {h : Hp} {K : LV → Prop} (hv : valW P tb o ch s h K) :
    ∃ l, K l ∧ (holds s ch → RunsK (kindD tb o ch s) P o s h l) ∧ Prov o ch s l ∧ LdSh tb o ch s l := by
  by_cases hl : ∃ t x a, o.op = .load t x ∧ ev s ch x = some (.v (.pointer (some a)))
  · obtain ⟨t, x, a, hop, hx⟩ := hl
    unfold valW at hv
    simp only [hop, hx] at hv
    split at hv
    · rename_i e hte
      obtain ⟨y, hr, hk⟩ := hv
      refine ⟨.v (e.sh.enc y), hk, fun hh => ?_, prov_v _ _ _ _, fun _ t' x' e' => ?_⟩
      · intro β ρ w ho hs hb
        have hkd : kindD tb o ch s = .mem := by simp [kindD, hop, hx]
        have hx' := ev_ok (ho x (by simp [hop, Op.operands])) hh hx
        have hr' := run_loadVar ok hte (fun j v hj => hcell_sub (hs hkd) (req_cnd hr hh j v hj))
        refine ⟨w, ?_, fun _ => rfl, fun e => .refl (hs e)⟩
        simp only [execOp, hop, hx', LVal, Instr.loadAt, Instr.sureAddr, Sem.run_bind, Sem.run_pure, Result.andThen_ok, hr']
      · rw [hop] at e'
        cases e'
        exact ⟨e, y, hte, rfl⟩
    · exact hv.elim
  · obtain ⟨l, hk, hr, hp⟩ := valW_sound ok hv
    refine ⟨l, hk, hr, hp, fun hkd t x hop => ?_⟩
    refine absurd ?_ hl
    unfold valW at hv
    simp only [hop] at hv
    simp only [kindD, hop] at hkd
    split at hv
    · rename_i a hx
      exact ⟨t, x, a, hop, hx⟩
    · rename_i k off hx
      rw [hx] at hkd; cases hkd
    · rename_i k off hx
      rw [hx] at hkd; cases hkd
    · exact hv.elim

/-- An operation that is told of, but still to be carried out. -/
def PFact (C : Ctx) (L : List Oper) (o : Oper) (s : St) (h : Hp) : Prop :=
  ∃ ch, chainOf L L.length o = some ch ∧ guardOk s ch = true ∧
    ((isVal C.tb o = true ∧ (isRead C.tb o = true ∨ kindD C.tb o ch s = .pure) ∧ ∃ l, (∀ d, o.dst = some d → s.f d = some (l, ch)) ∧ (holds s ch → RunsK (kindD C.tb o ch s) C.P o s h l) ∧ Prov o ch s l ∧ LdSh C.tb o ch s l) ∨
     (ch = [] ∧ isVal C.tb o = false ∧ ∃ d cs, privA C.priv o d ∧ s.f d = some (.box d 0, []) ∧ s.m d = some cs ∧
        ∀ (β : Nat → Nat) (ρ : Operand → Value) (w : World), (∀ x ∈ o.op.operands, Opnd β s ρ x) →
          ∃ t, (execOp ρ o).run C.P w = .ok (.value (.pointer (some ⟨w.heap.size, 0, none⟩))) { w with heap := w.heap.push (.cells cs.toArray t (0, 0)) }))

section
variable {C : Ctx} {L : List Oper} {o : Oper} {s s' : St} {h h' : Hp} {D : Nat → Prop}

/-- The two states agree where the operation looks. -/
structure Like (D : Nat → Prop) (o : Oper) (s s' : St) : Prop where
  dn : ∀ t, D t → s'.f t = s.f t
  op : ∀ t, Operand.tmp t ∈ o.op.operands → s'.f t = s.f t
  ch : ∀ t l c, s.f t = some (l, c) → ∀ p ∈ c, D p.1

theorem Like.holds' (k : Like D o s s') {c : Chain} (hc : ∀ p ∈ c, D p.1) : holds s' c ↔ holds s c := holds_congr fun p hp => k.dn _ (hc p hp)

theorem Like.opnd (k : Like D o s s') {β : Nat → Nat} {ρ : Operand → Value} {x : Operand} (hx : x ∈ o.op.operands) (ho : Opnd β s' ρ x) : Opnd β s ρ x := by
  cases x with
  | tmp t => exact fun l c e hc => ho l c (by rw [k.op t hx]; exact e) ((k.holds' (k.ch t l c e)).2 hc)
  | const v => exact ho
  | global g => exact ho
  | func f => exact ho

theorem Like.ev' (k : Like D o s s') {ch : Chain} {x : Operand} (hx : x ∈ o.op.operands) : ev s' ch x = ev s ch x := by
  cases x with
  | tmp t => simp only [ev, k.op t hx]
  | const v => rfl
  | global g => rfl
  | func f => rfl

theorem vals_congr {s s' : St} {ch : Chain} : ∀ {l : List Operand}, (∀ x ∈ l, ev s' ch x = ev s ch x) → vals s' ch l = vals s ch l
  | [], _ => rfl
  | x :: l, h => by
    simp only [vals]
    rw [h x (List.mem_cons_self ..), vals_congr fun y hy => h y (List.mem_cons_of_mem _ hy)]

theorem Like.kind (k : Like D o s s') {tb : Tb} {ch : Chain} : kindD tb o ch s' = kindD tb o ch s := by
  unfold kindD
  cases hop : o.op with
  | load t x => simp only [k.ev' (ch := ch) (x := x) (by simp [hop, Op.operands])]
  | binOp op t x y u => simp only [k.ev' (ch := ch) (x := x) (by simp [hop, Op.operands]), k.ev' (ch := ch) (x := y) (by simp [hop, Op.operands])]
  | convert a b x => simp only [k.ev' (ch := ch) (x := x) (by simp [hop, Op.operands])]
  | call c =>
    obtain ⟨callee, xs, ts⟩ := c
    cases callee with
    | builtin b =>
      cases b with
      | len =>
        have : vals s' ch xs.toList = vals s ch xs.toList := vals_congr fun x hx => k.ev' (by simp [hop, Op.operands, Call.operands]; simpa using hx)
        simp only [this]
      | _ => rfl
    | _ => rfl
  | _ => rfl

theorem Like.prov (k : Like D o s s') {ch : Chain} {l : LV} (hp : Prov o ch s l) : Prov o ch s' l := fun b off e => by
  obtain ⟨x, hx, off', h⟩ := hp b off e
  exact ⟨x, hx, off', by rw [k.ev' hx]; exact h⟩

theorem guardOk_like (k : Like D o s s') : ∀ {ch : Chain}, (∀ p ∈ ch, D p.1) → guardOk s' ch = guardOk s ch
  | [], _ => rfl
  | (d, b) :: c, hc => by
    simp only [guardOk, k.dn d (hc (d, b) (List.mem_cons_self ..)), guardOk_like k fun p hp => hc p (List.mem_cons_of_mem _ hp)]

theorem boxU_like (k : Like D o s s') {β : Nat → Nat} {w : World} (hm : ∀ t, Operand.tmp t ∈ o.op.operands → ∀ b off c, (s.f t = some (.box b off, c) ∨ s.f t = some (.boxd b off, c)) → holds s c → s'.m b = s.m b)
    (hb : BoxU β s' o w) : BoxU β s o w := by
  intro t ht b off c hf hc cs hcs
  refine hb t ht b off c (by rw [k.op t ht]; exact hf) ?_ cs (by rw [hm t ht b off c hf hc]; exact hcs)
  rcases hf with hf | hf
  · exact (k.holds' (k.ch t _ c hf)).2 hc
  · exact (k.holds' (k.ch t _ c hf)).2 hc

/-- Nothing that matters has changed. -/
theorem runsK_like (k : Like D o s s') {kd : Kd} {P : Program} {l : LV} (hm : kd ≠ .pure → ∀ t, Operand.tmp t ∈ o.op.operands → ∀ b off c, (s.f t = some (.box b off, c) ∨ s.f t = some (.boxd b off, c)) → holds s c → s'.m b = s.m b)
    (hh : kd = .mem → h' = h) (hr : RunsK kd P o s h l) : RunsK kd P o s' h' l := by
  intro β ρ w ho hs hb
  obtain ⟨w', h1, h2, h3⟩ := hr β ρ w (fun x hx => k.opnd hx (ho x hx)) (fun e => by rw [← hh e]; exact hs e) (fun e => boxU_like k (hm e) (hb e))
  exact ⟨w', h1, h2, fun e => by rw [hh e]; exact h3 e⟩

theorem alloc_like (k : Like D o s s') {P : Program} {cs : List Value}
    (hr : ∀ (β : Nat → Nat) (ρ : Operand → Value) (w : World), (∀ x ∈ o.op.operands, Opnd β s ρ x) →
          ∃ t, (execOp ρ o).run P w = .ok (.value (.pointer (some ⟨w.heap.size, 0, none⟩))) { w with heap := w.heap.push (.cells cs.toArray t (0, 0)) }) :
    ∀ (β : Nat → Nat) (ρ : Operand → Value) (w : World), (∀ x ∈ o.op.operands, Opnd β s' ρ x) →
          ∃ t, (execOp ρ o).run P w = .ok (.value (.pointer (some ⟨w.heap.size, 0, none⟩))) { w with heap := w.heap.push (.cells cs.toArray t (0, 0)) } :=
  fun β ρ w ho => hr β ρ w fun x hx => k.opnd hx (ho x hx)

theorem again_sound {tb : Tb} (hC : C.tb = tb) (ok : tb.Ok C.P) {mch : Bool} {ch : Chain} {l : LV} {d : Nat} (ha : Again C mch o ch s' h') (hd : o.dst = some d) (hf : ∃ c, s'.f d = some (l, c)) (hh : holds s' ch)
    (hs : LdSh tb o ch s' l) : kindD tb o ch s' = .pure ∨ (kindD tb o ch s' = .box ∧ mch = false) ∨ (kindD tb o ch s' = .mem ∧ RunsK .mem C.P o s' h' l) := by
  subst hC
  obtain ⟨c, hf⟩ := hf
  unfold Again at ha
  split at ha
  · rename_i t x d' hop hd'
    rw [hd] at hd'; cases hd'
    rw [hf] at ha
    split at ha
    · rename_i v c' e
      cases e
      split at ha
      · rename_i a hx
        right; right
        have hkd : kindD C.tb o ch s' = .mem := by simp [kindD, hop, hx]
        obtain ⟨e, y, hte, hl⟩ := hs hkd t x hop
        cases hl
        refine ⟨hkd, fun β ρ w ho hs hb => ?_⟩
        have hx' := ev_ok (ho x (by simp [hop, Op.operands])) hh hx
        have hr := run_loadVar ok hte (fun j v hj => hcell_sub (hs rfl) (req_cnd ha hh j v hj))
        refine ⟨w, ?_, fun e => absurd rfl e, fun _ => .refl (hs rfl)⟩
        simp only [execOp, hop, hx', LVal, Instr.loadAt, Instr.sureAddr, Sem.run_bind, Sem.run_pure, Result.andThen_ok, hr]
      · rename_i k off hx
        cases mch with
        | true => exact ha.elim
        | false => exact .inr (.inl ⟨by simp [kindD, hop, hx], rfl⟩)
      · rename_i k off hx
        cases mch with
        | true => exact ha.elim
        | false => exact .inr (.inl ⟨by simp [kindD, hop, hx], rfl⟩)
      · exact ha.elim
    · exact ha.elim
  · rename_i t x i cok d' hop hd'
    rw [hd] at hd'; cases hd'
    rw [hf] at ha
    split at ha
    · rename_i v c' e
      cases e
      obtain ⟨a, hea, ha1⟩ := onV_some ha
      obtain ⟨b, heb, ha2⟩ := onV_some ha1
      have hl := req_cnd ha2 hh
      right; right
      have main : ∀ w, Sub h' w → ∃ w', (Instr.lookup t a b cok).run C.P w = .ok v w' ∧ Step h' h' w w' := by
        intro w hsub
        unfold AgainLook at hl
        split at hl
        · rename_i m e he
          split at hl
          · rename_i k u hu
            split at hl
            · rename_i ke ue hk hue
              cases hkd : isKeyD ke.und with
              | true =>
                simp only [hkd, cond_true] at hl
                cases cok with
                | true =>
                  simp only [cond_true] at hl
                  split at hl
                  · rename_i x1 y1
                    exact ⟨w, by rw [run_lookup ok he hu hk hue hkd hsub hl]; rfl, .refl hsub⟩
                  · exact hl.elim
                | false =>
                  simp only [cond_false] at hl
                  obtain ⟨y1, hl⟩ := hl
                  exact ⟨w, by rw [run_lookup ok he hu hk hue hkd hsub hl]; rfl, .refl hsub⟩
              | false =>
                simp only [hkd, cond_false] at hl
                exact semIs_run hl hsub
            · exact hl.elim
          · exact hl.elim
        · exact hl.elim
      refine ⟨by simp [kindD, hop], fun β ρ w ho hs hb => ?_⟩
      have hx := ev_ok (ho x (by simp [hop, Op.operands])) hh hea
      have hi := ev_ok (ho i (by simp [hop, Op.operands])) hh heb
      obtain ⟨w', hr, hst⟩ := main w (hs rfl)
      refine ⟨w', ?_, fun e => absurd rfl e, fun _ => hst⟩
      simp only [execOp, hop, hx, hi, LVal, Sem.run_bind, hr, Result.andThen_ok, Sem.run_pure]
    · exact ha.elim
  · rename_i xs ts d' hop hd'
    rw [hd] at hd'; cases hd'
    rw [hf] at ha
    split at ha
    · rename_i v c' e
      cases e
      split at ha
      · rename_i x hvs
        have hkd : kindD C.tb o ch s' = .pure ∨ kindD C.tb o ch s' = .mem := by
          unfold kindD
          rw [hop]
          simp only []
          repeat' split
          all_goals simp
        rcases hkd with hkd | hkd
        · exact .inl hkd
        right; right
        refine ⟨hkd, fun β ρ w ho hs hb => ?_⟩
        have hargs : xs.map ρ = #[x] := by
          have := vals_ok (β := β) (ρ := ρ) hh hvs fun x hx => ho x (by simp [hop, Op.operands, Call.operands]; simpa using hx)
          apply Array.ext'; simpa using this
        obtain ⟨w', hr, hst⟩ := semIs_run (req_cnd ha hh) (hs rfl)
        refine ⟨w', ?_, fun e => absurd rfl e, fun _ => hst⟩
        simp only [execOp, hop, resolve, invoke, builtin, Sem.run_bind, Sem.run_pure, Result.andThen_ok, hargs, hr, LVal]
      · exact ha.elim
    · exact ha.elim
  · exact ha.elim

end
end Lf
