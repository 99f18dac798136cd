/-
  The lifting layer, part 6: what is told of operations that change nothing.
-/
import Derived.Test.YtoffikpplbiohaaLfSndA
namespace Lf
open Go

section
variable {P : Program} {tb : Tb}

/-- A private address comes from one of the operands. -/
def Prov (o : Oper) (ch : Chain) (s : St) (l : LV) : Prop :=
  ∀ k off, (l = .box k off ∨ l = .boxd k off) → ∃ x ∈ o.op.operands, ∃ off', ev s ch x = some (.box k off') ∨ ev s ch x = some (.boxd k off')

theorem prov_v (o : Oper) (ch : Chain) (s : St) (v : Value) : Prov o ch s (.v v) := fun _ _ e => by rcases e with e | e <;> cases e

theorem prov_ev {o : Oper} {ch : Chain} {s : St} {l : LV} {x : Operand} (hx : x ∈ o.op.operands) (he : ev s ch x = some l) : Prov o ch s l := fun k off e =>
  ⟨x, hx, off, by rcases e with e | e <;> simp [he, e]⟩

theorem prov_box {o : Oper} {ch : Chain} {s : St} {l : LV} {x : Operand} {k off : Nat} (hx : x ∈ o.op.operands) (he : ev s ch x = some (.box k off))
    (hl : ∀ k' off', (l = .box k' off' ∨ l = .boxd k' off') → k' = k) : Prov o ch s l := fun k' off' e => ⟨x, hx, off, .inl (by rw [hl k' off' e]; exact he)⟩

theorem prov_boxd {o : Oper} {ch : Chain} {s : St} {l : LV} {x : Operand} {k off : Nat} (hx : x ∈ o.op.operands) (he : ev s ch x = some (.boxd k off))
    (hl : ∀ k' off', (l = .box k' off' ∨ l = .boxd k' off') → k' = k) : Prov o ch s l := fun k' off' e => ⟨x, hx, off, .inr (by rw [hl k' off' e]; exact he)⟩

/-- What a value operation must come to. -/
def ValOk (P : Program) (tb : Tb) (o : Oper) (ch : Chain) (s : St) (h : Hp) (K : LV → Prop) : Prop :=
  ∃ l, K l ∧ (holds s ch → RunsK (kindD tb o ch s) P o s h l) ∧ Prov o ch s l

/-- A run that is the same in every world. -/
theorem valOk_same {o : Oper} {ch : Chain} {s : St} {h : Hp} {K : LV → Prop} (l : LV) (hk : K l)
    (hr : holds s ch → ∀ (β : Nat → Nat) (ρ : Operand → Value) (w : World), (∀ x ∈ o.op.operands, Opnd β s ρ x) →
      (execOp ρ o).run P w = .ok (.value (LVal β l)) w)
    (hp : Prov o ch s l := by exact prov_v _ _ _ _) : ValOk P tb o ch s h K :=
  ⟨l, hk, fun hh β ρ w ho hs hb => ⟨w, hr hh β ρ w ho, fun _ => rfl, fun e => .refl (hs e)⟩, hp⟩

theorem valOk_box {o : Oper} {ch : Chain} {s : St} {h : Hp} {K : LV → Prop} (hkd : kindD tb o ch s = .box) (l : LV) (hk : K l)
    (hr : holds s ch → ∀ (β : Nat → Nat) (ρ : Operand → Value) (w : World), (∀ x ∈ o.op.operands, Opnd β s ρ x) → BoxU β s o w →
      (execOp ρ o).run P w = .ok (.value (LVal β l)) w)
    (hp : Prov o ch s l := by exact prov_v _ _ _ _) : ValOk P tb o ch s h K :=
  ⟨l, hk, fun hh β ρ w ho hs hb => ⟨w, hr hh β ρ w ho (hb (by rw [hkd]; simp)), fun _ => rfl, fun e => .refl (hs e)⟩, hp⟩

theorem valOk_mem {o : Oper} {ch : Chain} {s : St} {h : Hp} {K : LV → Prop} (hkd : kindD tb o ch s = .mem) (l : LV) (hk : K l)
    (hr : holds s ch → ∀ (β : Nat → Nat) (ρ : Operand → Value) (w : World), (∀ x ∈ o.op.operands, Opnd β s ρ x) → Sub h w →
      (execOp ρ o).run P w = .ok (.value (LVal β l)) w)
    (hp : Prov o ch s l := by exact prov_v _ _ _ _) : ValOk P tb o ch s h K :=
  ⟨l, hk, fun hh β ρ w ho hs hb => ⟨w, hr hh β ρ w ho (hs hkd), fun _ => rfl, fun e => .refl (hs e)⟩, hp⟩

theorem semIs_run {s : Sem Value} {h : Hp} {v : Value} (hi : SemIs P s h v) {w : World} (hs : Sub h w) : ∃ w', s.run P w = .ok v w' ∧ Step h h w w' := hi w hs

theorem val_gen {o : Oper} {ch : Chain} {s : St} {h : Hp} {K : LV → Prop} {t : Nat} {sem : Sem Value} (hkd : kindD tb o ch s = .mem) (hg : genV (cnd s ch) P tb t sem h K)
    (hx : holds s ch → ∀ (β : Nat → Nat) (ρ : Operand → Value), (∀ x ∈ o.op.operands, Opnd β s ρ x) → ∀ (w w' : World) (v : Value), sem.run P w = .ok v w' → (execOp ρ o).run P w = .ok (.value v) w') :
    ValOk P tb o ch s h K := by
  unfold genV at hg
  split at hg
  · rename_i e he
    obtain ⟨x, hx1, hk⟩ := hg
    refine ⟨_, hk, fun hh β ρ w ho hs hb => ?_, prov_v _ _ _ _⟩
    obtain ⟨w', hr, hst⟩ := semIs_run (req_cnd hx1 hh) (hs hkd)
    exact ⟨w', hx hh β ρ ho w w' _ hr, fun e => absurd hkd e, fun _ => hst⟩
  · exact hg.elim

theorem kEq_self (k : IntKind) : kEq k k = true := by cases k <;> rfl

theorem val_move {o : Oper} {ch : Chain} {s : St} {h : Hp} {K : LV → Prop} {x : Operand} (hop : o.op = .move x ∨ o.op = .assign x) (hv : onL (ev s ch x) K) : ValOk P tb o ch s h K := by
  obtain ⟨l, he, hk⟩ := onL_some hv
  refine valOk_same l hk (fun hh β ρ w ho => ?_) (prov_ev (by rcases hop with h | h <;> simp [h, Op.operands]) he)
  have hx : ρ x = LVal β l := ev_ok (ho x (by rcases hop with h | h <;> simp [h, Op.operands])) hh he
  rcases hop with h | h <;> simp [execOp, h, hx]

theorem run_equal_bool {t : Nat} {w : World} {a b : Bool} (hu : (underlying t).run P w = .ok .bool w) : (Op.equal t (.bool a) (.bool b)).run P w = .ok (a == b) w := by
  have key : ∀ d, (Op.equalIn (d + 1) t (.bool a) (.bool b)).run P w = .ok (a == b) w := by
    intro d
    unfold Op.equalIn
    simp only [Sem.run_bind, hu, Result.andThen_ok, Sem.run_pure]
  exact key 9999

theorem run_equal_nil {t elem : Nat} {w : World} {p : Option Addr} (hu : (underlying t).run P w = .ok (.pointer elem) w) : (Op.equal t (.pointer p) (.pointer none)).run P w = .ok p.isNone w := by
  have key : ∀ d, (Op.equalIn (d + 1) t (.pointer p) (.pointer none)).run P w = .ok p.isNone w := by
    intro d
    unfold Op.equalIn
    simp only [Sem.run_bind, hu, Result.andThen_ok]
    cases p <;> simp only [Sem.run_pure] <;> rfl
  exact key 9999

set_option maxHeartbeats 800000 in
theorem val_bin (ok : tb.Ok P) {o : Oper} {ch : Chain} {s : St} {h : Hp} {K : LV → Prop} {op : BinOp} {t yt : Nat} {x y : Operand} (hop : o.op = .binOp op t x y yt)
    (hv : onV (ev s ch x) fun a => onV (ev s ch y) fun b => binW (cnd s ch) P tb op t x y o.type a b h K) : ValOk P tb o ch s h K := by
  obtain ⟨a, hea, hv'⟩ := onV_some hv
  clear hv
  obtain ⟨b, heb, hv⟩ := onV_some hv'
  clear hv'
  -- the operands
  have hρ : holds s ch → ∀ (β : Nat → Nat) (ρ : Operand → Value), (∀ x ∈ o.op.operands, Opnd β s ρ x) → ρ x = a ∧ ρ y = b := fun hh β ρ ho =>
    ⟨ev_ok (ho x (by simp [hop, Op.operands])) hh hea, ev_ok (ho y (by simp [hop, Op.operands])) hh heb⟩
  have hex : holds s ch → ∀ (β : Nat → Nat) (ρ : Operand → Value), (∀ x ∈ o.op.operands, Opnd β s ρ x) → ∀ (w w' : World) (v : Value), (binS op t x y a b).run P w = .ok v w' →
      (execOp ρ o).run P w = .ok (.value v) w' := by
    intro hh β ρ ho w w' v hr
    obtain ⟨ha, hb⟩ := hρ hh β ρ ho
    simp only [execOp, hop, ha, hb]
    change (binS op t x y a b >>= fun x => pure (Next.value x)).run P w = _
    rw [Sem.run_bind, hr]
    rfl
  have gen : ∀ v : Value, K (.v v) → (holds s ch → ∀ w, (binS op t x y a b).run P w = .ok v w) → ValOk P tb o ch s h K := fun v hk hr =>
    valOk_same (.v v) hk fun hh β ρ w ho => hex hh β ρ ho w w v (hr hh w)
  unfold binW at hv
  split at hv
  · -- numbers
    rename_i k m k' n
    have hgd : ∀ w : World, (eqGuard op t x y (.int k m) (.int k' n)).run P w = .ok () w := fun w => by unfold eqGuard; split <;> rfl
    split at hv
    · refine gen _ hv.2 fun hh w => ?_
      have h0 := req_cnd hv.1 hh
      simp only [binS, Sem.run_bind, hgd, Result.andThen_ok]
      simp [binOp, Op.shift, shlI, Int.not_lt.2 h0]
    · refine gen _ hv.2 fun hh w => ?_
      have h0 := req_cnd hv.1 hh
      simp only [binS, Sem.run_bind, hgd, Result.andThen_ok]
      simp [binOp, Op.shift, shrI, Int.not_lt.2 h0]
    · cases hk : kEq k k' with
      | false => simp [hk] at hv
      | true =>
        have hkk := kEq_eq hk
        subst hkk
        simp only [hk, cond_true] at hv
        cases op <;> simp only [intW] at hv <;>
          first
          | exact hv.elim
          | exact gen _ hv fun _ w => by simp only [binS, Sem.run_bind, hgd, Result.andThen_ok]; simp [binOp, Op.intArith, Op.intCmp, Op.intBits, bitsI]
          | exact gen _ hv.2 fun hh w => by
              have h0 := req_cnd hv.1 hh
              simp only [binS, Sem.run_bind, hgd, Result.andThen_ok]
              simp [binOp, Op.intDiv, h0]
  · -- truths
    rename_i m n
    split at hv
    · rename_i e he
      have hgd : ∀ w : World, (eqGuard op t x y (.bool m) (.bool n)).run P w = .ok () w := fun w => by unfold eqGuard; split <;> rfl
      have hu := fun w => run_underlying' ok he w
      split at hv
      · rename_i heu
        refine gen _ hv fun _ w => ?_
        simp only [binS, Sem.run_bind, hgd, Result.andThen_ok, binOp, run_equal_bool (heu ▸ hu w), Sem.run_pure]
      · rename_i heu
        refine gen _ hv fun _ w => ?_
        simp only [binS, Sem.run_bind, hgd, Result.andThen_ok, binOp, run_equal_bool (heu ▸ hu w), Sem.run_pure]
      · exact hv.elim
    · exact hv.elim
  · -- texts
    rename_i m n
    have hgd : ∀ w : World, (eqGuard op t x y (.string m) (.string n)).run P w = .ok () w := fun w => by unfold eqGuard; split <;> rfl
    split at hv
    · exact gen _ hv fun _ w => by simp only [binS, Sem.run_bind, hgd, Result.andThen_ok]; simp [binOp, Op.stringOp]
    · exact gen _ hv fun _ w => by simp only [binS, Sem.run_bind, hgd, Result.andThen_ok]; simp [binOp, Op.stringOp]
    · refine gen _ hv.2 fun hh w => ?_
      have h0 := req_cnd hv.1 hh
      simp only [binS, Sem.run_bind, hgd, Result.andThen_ok]
      have h1 : ¬ (((m.size + n.size : Nat) : Int) > IntKind.i64.max) := by
        have : IntKind.i64.max = 9223372036854775807 := by decide
        rw [this]; omega
      simp only [binOp, Op.stringOp, if_neg h1, Sem.run_pure]
    · exact val_gen (by simp_all [kindD]) hv fun hh β ρ ho w w' v hr => hex hh β ρ ho w w' v hr
  · -- pointers
    rename_i p q
    cases hn : isNilOp y with
    | false =>
      simp only [hn, cond_false] at hv
      exact val_gen (by simp_all [kindD]) hv fun hh β ρ ho w w' v hr => hex hh β ρ ho w w' v hr
    | true =>
      simp only [hn, cond_true] at hv
      split at hv
      · rename_i e he
        split at hv
        · rename_i elem heu
          have hq : q = none := by
            cases y with
            | const v =>
              simp only [ev] at heb
              cases heb
              cases q with
              | none => rfl
              | some _ => simp [isNilOp] at hn
            | tmp _ => simp [isNilOp] at hn
            | global _ => simp [isNilOp] at hn
            | func _ => simp [isNilOp] at hn
          subst hq
          have hgd : ∀ w : World, (eqGuard op t x y (.pointer p) (.pointer none)).run P w = .ok () w := fun w => by unfold eqGuard; split <;> rfl
          have hu := fun w => run_underlying' ok he w
          unfold nilW at hv
          split at hv
          · refine gen _ hv fun _ w => ?_
            simp only [binS, Sem.run_bind, hgd, Result.andThen_ok, binOp, run_equal_nil (heu ▸ hu w), Sem.run_pure]
          · refine gen _ hv fun _ w => ?_
            simp only [binS, Sem.run_bind, hgd, Result.andThen_ok, binOp, run_equal_nil (heu ▸ hu w), Sem.run_pure]
          · exact hv.elim
        · exact hv.elim
      · exact hv.elim
  · rename_i n1 n2 n3 n4
    have hkd : kindD tb o ch s = .mem := by
      unfold kindD
      rw [hop]
      simp only [hea, heb]
      split
      · rename_i e1 e2; cases e1; cases e2; exact absurd rfl (n1 _ _ _ _ rfl)
      · rename_i e1 e2; cases e1; cases e2; exact absurd rfl (n2 _ _ rfl)
      · rename_i e1 e2; cases e1; cases e2; exact absurd rfl (n3 _ _ rfl)
      · rename_i e1 e2; cases e1; cases e2; exact absurd rfl (n4 _ _ rfl)
      · rfl
    exact val_gen hkd hv fun hh β ρ ho w w' v hr => hex hh β ρ ho w w' v hr

end
end Lf
