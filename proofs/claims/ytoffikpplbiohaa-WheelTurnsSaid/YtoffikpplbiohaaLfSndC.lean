/-
  The lifting layer, part 7: the other operations that change nothing.
-/
import Derived.Test.YtoffikpplbiohaaLfSndB
namespace Lf
open Go

section
variable {P : Program} {tb : Tb} {o : Oper} {ch : Chain} {s : St} {h : Hp} {K : LV → Prop}

theorem vals_ok {β : Nat → Nat} {ρ : Operand → Value} (hh : holds s ch) : ∀ {l : List Operand} {vs : List Value}, vals s ch l = some vs → (∀ x ∈ l, Opnd β s ρ x) → l.map ρ = vs
  | [], vs, h, _ => by cases h; rfl
  | x :: l, vs, h, ho => by
    simp only [vals] at h
    split at h
    · rename_i v r hv hr
      cases h
      simp only [List.map_cons]
      rw [ev_ok (ho x (List.mem_cons_self ..)) hh hv, vals_ok hh hr fun y hy => ho y (List.mem_cons_of_mem _ hy)]
      rfl
    · cases h

theorem pairs_ok {β : Nat → Nat} {ρ : Operand → Value} (hh : holds s ch) : ∀ {l : List (Nat × Operand)} {vs : List (Nat × Value)}, pairs s ch l = some vs → (∀ x ∈ l.map (·.2), Opnd β s ρ x) →
    l.map (fun p => (p.1, ρ p.2)) = vs
  | [], vs, h, _ => by cases h; rfl
  | (i, x) :: l, vs, h, ho => by
    simp only [pairs] at h
    split at h
    · rename_i v r hv hr
      cases h
      simp only [List.map_cons]
      rw [ev_ok (ho x (by simp)) hh hv, pairs_ok hh hr fun y hy => ho y (by simp at hy ⊢; exact .inr hy)]
      rfl
    · cases h

theorem evPick_ok {β : Nat → Nat} {ρ : Operand → Value} {x : Operand} {t : Nat} {w : Bool} {l : LV} (ho : Opnd β s ρ x) (hh : holds s ch) (hb' : hb s t = some w)
    (he : evPick s ch t w x = some l) : ρ x = LVal β l := by
  cases x with
  | tmp u =>
    simp only [evPick] at he
    split at he
    · rename_i l' c hf
      cases hs : sufx c ((t, w) :: ch) with
      | false => simp [hs] at he
      | true =>
        simp only [hs, cond_true] at he
        cases he
        refine ho l c hf (holds_sufx hs fun p hp => ?_)
        rcases List.mem_cons.1 hp with rfl | hp
        · exact hb'
        · exact hh p hp
    · cases he
  | const v => cases he; exact ho
  | global g => cases he
  | func f => cases he

theorem val_pick {x a b : Operand} (hop : o.op = .pick x a b) (hv : pickW s ch x a b K) : ValOk P tb o ch s h K := by
  unfold pickW at hv
  split at hv
  · rename_i t
    split at hv
    · rename_i p c0 hf
      cases hs : sufx c0 ch with
      | false => simp [hs] at hv
      | true =>
        simp only [hs, cond_true] at hv
        have hbp : hb s t = some p := by simp [hb, hf]
        have hx : holds s ch → ∀ (β : Nat → Nat) (ρ : Operand → Value), (∀ x ∈ o.op.operands, Opnd β s ρ x) → ρ (.tmp t) = .bool p := fun hh β ρ ho =>
          ho (.tmp t) (by simp [hop, Op.operands]) _ _ hf (holds_sufx hs hh)
        have run : ∀ (ρ : Operand → Value) (w : World), ρ (.tmp t) = .bool p → (execOp ρ o).run P w = .ok (.value (if p = true then ρ a else ρ b)) w := by
          intro ρ w hp
          simp only [execOp, hop, hp, asBool, Sem.run_bind, Sem.run_pure, Result.andThen_ok]
        split at hv
        · rename_i u
          obtain ⟨v, hev, hv⟩ := onV_some hv
          split at hv
          · rename_i q
            refine valOk_same (.v (.bool (p && q))) (hv _ rfl) fun hh β ρ w ho => ?_
            rw [run ρ w (hx hh β ρ ho)]
            cases hp : p with
            | true =>
              have := evPick_ok (ho (.tmp u) (by simp [hop, Op.operands])) hh (hp ▸ hbp) hev
              simp [this, LVal]
            | false =>
              have : ρ (.const (.bool false)) = .bool false := ho (.const (.bool false)) (by simp [hop, Op.operands])
              simp [this, LVal]
          · exact hv.elim
        · rename_i u
          obtain ⟨v, hev, hv⟩ := onV_some hv
          split at hv
          · rename_i q
            refine valOk_same (.v (.bool (p || q))) (hv _ rfl) fun hh β ρ w ho => ?_
            rw [run ρ w (hx hh β ρ ho)]
            cases hp : p with
            | false =>
              have := evPick_ok (ho (.tmp u) (by simp [hop, Op.operands])) hh (hp ▸ hbp) hev
              simp [this, LVal]
            | true =>
              have : ρ (.const (.bool true)) = .bool true := ho (.const (.bool true)) (by simp [hop, Op.operands])
              simp [this, LVal]
          · exact hv.elim
        · refine valOk_same _ hv fun hh β ρ w ho => ?_
          rw [run ρ w (hx hh β ρ ho)]
          have h1 : ρ (.const (.bool true)) = .bool true := ho (.const (.bool true)) (by simp [hop, Op.operands])
          have h2 : ρ (.const (.bool false)) = .bool false := ho (.const (.bool false)) (by simp [hop, Op.operands])
          cases p <;> simp [h1, h2, LVal]
        · rename_i u v _
          refine valOk_same _ hv fun hh β ρ w ho => ?_
          rw [run ρ w (hx hh β ρ ho)]
          have h1 : ρ (.const (.bool u)) = .bool u := ho (.const (.bool u)) (by simp [hop, Op.operands])
          have h2 : ρ (.const (.bool v)) = .bool v := ho (.const (.bool v)) (by simp [hop, Op.operands])
          cases p <;> simp [h1, h2, LVal]
        · exact hv.elim
    · exact hv.elim
  · exact hv.elim

/-- One operand. -/
theorem opnd1 {x : Operand} {v : Value} (hx : ∀ (β : Nat → Nat) (ρ : Operand → Value), (∀ y ∈ o.op.operands, Opnd β s ρ y) → Opnd β s ρ x) (he : ev s ch x = some (.v v)) :
    holds s ch → ∀ (β : Nat → Nat) (ρ : Operand → Value), (∀ y ∈ o.op.operands, Opnd β s ρ y) → ρ x = v :=
  fun hh β ρ ho => ev_ok (hx β ρ ho) hh he

theorem val_extract {x : Operand} {i : Nat} (hop : o.op = .extract x i) (hv : onV (ev s ch x) fun v => match v with
    | .tuple vs => match nth vs.toList i with
      | some y => K (.v y)
      | none => False
    | _ => False) : ValOk P tb o ch s h K := by
  obtain ⟨v, he, hv'⟩ := onV_some hv
  clear hv
  split at hv'
  · rename_i vs
    split at hv'
    · rename_i y hy
      refine valOk_same (.v y) hv' fun hh β ρ w ho => ?_
      have hx := ev_ok (ho x (by simp [hop, Op.operands])) hh he
      have : vs[i]? = some y := by rw [nth_get] at hy; simpa using hy
      simp only [execOp, hop, hx, LVal, Instr.extract, this, Sem.run_bind, Sem.run_pure, Result.andThen_ok]
    · exact hv'.elim
  · exact hv'.elim

theorem val_un {op : UnOp} {t : Nat} {x : Operand} (hop : o.op = .unOp op t x) (hv : onV (ev s ch x) fun a => unW op a K) : ValOk P tb o ch s h K := by
  obtain ⟨v, he, hv'⟩ := onV_some hv
  clear hv
  unfold unW at hv'
  split at hv' <;>
    first
    | exact hv'.elim
    | refine valOk_same _ hv' fun hh β ρ w ho => ?_
      have hx := ev_ok (ho x (by simp [hop, Op.operands])) hh he
      simp [execOp, hop, hx, LVal, Op.unary, Op.intArith, Op.intBits, bitsI]

theorem val_nil {x : Operand} (hop : o.op = .nilCheck x) (hv : match ev s ch x with
    | some (.v (.pointer p)) => NilW (cnd s ch) p fun a => K (.v (.pointer (some a)))
    | some (.box k off) => K (.box k off)
    | some (.boxd k off) => K (.boxd k off)
    | _ => False) : ValOk P tb o ch s h K := by
  split at hv
  · rename_i p he
    obtain ⟨a, hr, hk⟩ := hv
    refine valOk_same _ hk fun hh β ρ w ho => ?_
    have hx := ev_ok (ho x (by simp [hop, Op.operands])) hh he
    have hp := req_cnd hr hh
    subst hp
    simp [execOp, hop, hx, LVal]
  · rename_i k off he
    refine valOk_same _ hv (fun hh β ρ w ho => ?_) (prov_ev (by simp [hop, Op.operands]) he)
    have hx := ev_ok (ho x (by simp [hop, Op.operands])) hh he
    simp [execOp, hop, hx, LVal]
  · rename_i k off he
    refine valOk_same _ hv (fun hh β ρ w ho => ?_) (prov_ev (by simp [hop, Op.operands]) he)
    have hx := ev_ok (ho x (by simp [hop, Op.operands])) hh he
    simp [execOp, hop, hx, LVal]
  · exact hv.elim

theorem partW_some {t : Nat} {cs : List Value} {off : Nat} (hv : partW tb t cs off K) :
    ∃ e v, tb.ty t = some e ∧ K (.v v) ∧ ((isAggD e.und = true ∧ v = .agg ((cs.drop off).take e.size).toArray ∧ off + e.size ≤ cs.length) ∨ (isAggD e.und = false ∧ cs[off]? = some v)) := by
  unfold partW at hv
  split at hv
  · rename_i e he
    cases ha : isAggD e.und with
    | true =>
      simp only [ha, cond_true, dropL_eq, takeL_eq] at hv
      cases hl : Nat.ble (off + e.size) cs.length with
      | false => simp [hl] at hv
      | true =>
        simp only [hl, cond_true] at hv
        exact ⟨e, _, he, hv, .inl ⟨ha, rfl, Nat.le_of_ble_eq_true hl⟩⟩
    | false =>
      simp only [ha, cond_false, nth_get] at hv
      split at hv
      · rename_i v hc
        exact ⟨e, v, he, hv, .inr ⟨ha, hc⟩⟩
      · exact hv.elim
  · exact hv.elim

/-- A private variable is read. -/
theorem run_loadBox (ok : tb.Ok P) {t : Nat} {cs : List Value} {off b ct : Nat} {e : Ty} {v : Value} {w : World} (he : tb.ty t = some e)
    (hv : (isAggD e.und = true ∧ v = .agg ((cs.drop off).take e.size).toArray ∧ off + e.size ≤ cs.length) ∨ (isAggD e.und = false ∧ cs[off]? = some v))
    (hb : w.heap[b]? = some (.cells cs.toArray ct (0, 0))) : (loadVar t ⟨b, off, none⟩).run P w = .ok v w := by
  simp only [loadVar, Sem.run_bind, run_isAgg' ok he, Result.andThen_ok]
  rcases hv with ⟨ha, hv, hl⟩ | ⟨ha, hv⟩
  · have hlen : ((cs.drop off).take e.size).length = e.size := by simp; omega
    have hc : ∀ j v, ((cs.drop off).take e.size)[j]? = some v → w.cell? ((⟨b, off, none⟩ : Addr).add j) = some v := by
      intro j v hj
      rw [box_add, box_cell hb]
      rw [List.getElem?_take] at hj
      split at hj
      · simpa using hj
      · cases hj
    rw [ha]
    simp only [if_true, Sem.run_bind, run_sizeOf' ok he, Result.andThen_ok]
    conv => lhs; rw [← hlen]
    rw [run_loadCells hc]
    simp [hv]
  · have := box_cell hb off
    rw [hv] at this
    simp [ha, this]

theorem val_load (ok : tb.Ok P) {t : Nat} {x : Operand} (hop : o.op = .load t x) (hv : match ev s ch x with
    | some (.v (.pointer (some a))) => match tb.ty t with
      | some e => LdW (cnd s ch) e.sh h a fun x => K (.v (e.sh.enc x))
      | none => False
    | some (.box k off) => match s.m k with
      | some cs => partW tb t cs off K
      | none => False
    | some (.boxd k off) => match s.m k, tb.ty t with
      | some cs, some e => cond (isAggD e.und) False (∃ x, Req (cnd s ch) (cs[off]? = some (e.sh.enc x)) ∧ K (.v (e.sh.enc x)))
      | _, _ => False
    | _ => False) : ValOk P tb o ch s h K := by
  have run : ∀ (ρ : Operand → Value) (w : World) (a : Addr) (v : Value), ρ x = .pointer (some a) → (loadVar t a).run P w = .ok v w → (execOp ρ o).run P w = .ok (.value v) w := by
    intro ρ w a v hx hr
    simp only [execOp, hop, hx, Instr.loadAt, Instr.sureAddr, Sem.run_bind, Sem.run_pure, Result.andThen_ok, hr]
  split at hv
  · rename_i a he
    split at hv
    · rename_i e hte
      obtain ⟨y, hr, hk⟩ := hv
      refine valOk_mem (by simp [kindD, hop, he]) _ hk fun hh β ρ w ho hs => ?_
      have hx := ev_ok (ho x (by simp [hop, Op.operands])) hh he
      exact run ρ w a _ hx (run_loadVar ok hte fun j v hj => hcell_sub hs (req_cnd hr hh j v hj))
    · exact hv.elim
  · rename_i k off he
    split at hv
    · rename_i cs hm
      obtain ⟨e, v, hte, hk, hc⟩ := partW_some hv
      refine valOk_box (by simp [kindD, hop, he]) _ hk fun hh β ρ w ho hb => ?_
      have hx := ev_ok (ho x (by simp [hop, Op.operands])) hh he
      obtain ⟨ct, hbk⟩ := hb.box (by simp [hop, Op.operands]) he hh hm
      exact run ρ w _ _ hx (run_loadBox ok hte hc hbk)
    · exact hv.elim
  · rename_i k off he
    split at hv
    · rename_i cs e hm hte
      cases ha : isAggD e.und with
      | true => simp [ha] at hv
      | false =>
        simp only [ha, cond_false] at hv
        obtain ⟨y, hr, hk⟩ := hv
        refine valOk_box (by simp [kindD, hop, he]) _ hk fun hh β ρ w ho hb => ?_
        have hx := ev_ok (ho x (by simp [hop, Op.operands])) hh he
        obtain ⟨ct, hbk⟩ := hb.boxd (by simp [hop, Op.operands]) he hh hm
        exact run ρ w _ _ hx (run_loadBox ok hte (.inr ⟨ha, req_cnd hr hh⟩) hbk)
    · exact hv.elim
  · exact hv.elim

theorem fieldOf_some {t i : Nat} {Q : Nat → Nat → Prop} (hv : fieldOf tb t i Q) :
    ∃ e fs f g, tb.ty t = some e ∧ e.und = .struct fs ∧ fs[i]? = some f ∧ tb.ty f.type = some g ∧ g.size ≠ 0 ∧ Q f.offset g.size := by
  unfold fieldOf at hv
  split at hv
  · rename_i e he
    split at hv
    · rename_i fs hfs
      split at hv
      · rename_i f hf
        split at hv
        · rename_i g hg
          split at hv
          · exact hv.elim
          · rename_i n hn
            refine ⟨e, fs, f, g, he, hfs, by rw [nth_get] at hf; simpa using hf, hg, by omega, hn ▸ hv⟩
        · exact hv.elim
      · exact hv.elim
    · exact hv.elim
  · exact hv.elim

theorem val_fieldAddr (ok : tb.Ok P) {t i : Nat} {x : Operand} (hop : o.op = .fieldAddr t x i) (hv : fieldOf tb t i fun off _ => match ev s ch x with
    | some (.v (.pointer (some a))) => K (.v (.pointer (some (a.add off))))
    | some (.box k o) => K (.box k (o + off))
    | some (.boxd k o) => K (.boxd k (o + off))
    | _ => False) : ValOk P tb o ch s h K := by
  obtain ⟨e, fs, f, g, he, hfs, hf, hg, hz, hq⟩ := fieldOf_some hv
  have run : ∀ (ρ : Operand → Value) (w : World) (a : Addr), ρ x = .pointer (some a) → (execOp ρ o).run P w = .ok (.value (.pointer (some (a.add f.offset)))) w := by
    intro ρ w a hx
    have hu := run_underlying' ok he w
    rw [hfs] at hu
    have hsz := run_sizeOf' ok hg w
    simp only [execOp, hop, hx, Instr.fieldAt, Instr.sureAddr, Sem.run_bind, hu, Result.andThen_ok, hf, Sem.run_pure, fieldPlace, hsz, if_neg hz]
  split at hq
  · rename_i a hea
    refine valOk_same _ hq fun hh β ρ w ho => ?_
    exact run ρ w a (ev_ok (ho x (by simp [hop, Op.operands])) hh hea)
  · rename_i k o' hea
    refine valOk_same _ hq (fun hh β ρ w ho => ?_) (prov_box (by simp [hop, Op.operands]) hea (by intro k' off' e; rcases e with e | e <;> cases e <;> rfl))
    rw [run ρ w _ (ev_ok (ho x (by simp [hop, Op.operands])) hh hea), box_add]
    rfl
  · rename_i k o' hea
    refine valOk_same _ hq (fun hh β ρ w ho => ?_) (prov_boxd (by simp [hop, Op.operands]) hea (by intro k' off' e; rcases e with e | e <;> cases e <;> rfl))
    rw [run ρ w _ (ev_ok (ho x (by simp [hop, Op.operands])) hh hea), box_add]
    rfl
  · exact hq.elim

theorem run_part (ok : tb.Ok P) {t : Nat} {cs : List Value} {off : Nat} {e : Ty} {v : Value} {w : World} (he : tb.ty t = some e)
    (hv : (isAggD e.und = true ∧ v = .agg ((cs.drop off).take e.size).toArray ∧ off + e.size ≤ cs.length) ∨ (isAggD e.und = false ∧ cs[off]? = some v)) :
    (part t cs.toArray off).run P w = .ok v w := by
  simp only [part, Sem.run_bind, run_isAgg' ok he, Result.andThen_ok]
  rcases hv with ⟨ha, hv, _⟩ | ⟨ha, hv⟩
  · simp only [ha, if_true, Sem.run_bind, run_sizeOf' ok he, Result.andThen_ok, Sem.run_pure, hv]
    congr 2
    apply Array.ext'
    simp
  · simp [ha, hv]

theorem val_field (ok : tb.Ok P) {t i : Nat} {x : Operand} (hop : o.op = .field t x i) (hv : match tb.ty t with
    | some e => match e.und with
      | .struct fs => match nth fs.toList i with
        | some f => onV (ev s ch x) fun v => match v with
          | .agg cs => partW tb f.type cs.toList f.offset K
          | _ => False
        | none => False
      | _ => False
    | none => False) : ValOk P tb o ch s h K := by
  split at hv
  · rename_i e he
    split at hv
    · rename_i fs hfs
      split at hv
      · rename_i f hf
        obtain ⟨v, hev, hv'⟩ := onV_some hv
        clear hv
        split at hv'
        · rename_i cs
          obtain ⟨g, y, hg, hk, hc⟩ := partW_some hv'
          refine valOk_same _ hk fun hh β ρ w ho => ?_
          have hx := ev_ok (ho x (by simp [hop, Op.operands])) hh hev
          have hu := run_underlying' ok he w
          rw [hfs] at hu
          have hf' : fs[i]? = some f := by rw [nth_get] at hf; simpa using hf
          have hp := run_part (w := w) ok hg hc
          simp only [Array.toArray_toList] at hp
          simp only [execOp, hop, hx, LVal, Instr.field, Sem.run_bind, hu, Result.andThen_ok, hf', asAgg, Sem.run_pure, hp]
        · exact hv'.elim
      · exact hv.elim
    · exact hv.elim
  · exact hv.elim

end
end Lf
