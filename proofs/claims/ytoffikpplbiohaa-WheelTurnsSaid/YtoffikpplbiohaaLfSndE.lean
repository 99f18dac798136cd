/-
  The lifting layer, part 9: slices, literals, looks into maps; all operations that change nothing.
-/
import Derived.Test.YtoffikpplbiohaaLfSndD
namespace Lf
open Go

section
variable {P : Program} {tb : Tb} {o : Oper} {ch : Chain} {s : St} {h : Hp} {K : LV → Prop}

theorem cnd_holds (hh : holds s ch) : cnd s ch = none ∨ cnd s ch = some true := by
  cases ch with
  | nil => exact .inl rfl
  | cons q r =>
    obtain ⟨t, w⟩ := q
    obtain ⟨b, hb, hi⟩ := cnd_cons (s := s) t w r
    rw [hb, hi hh]
    exact .inr rfl

theorem val_slice (ok : tb.Ok P) {t : Nat} {x : Operand} {lo hi mx : Option Operand} (hop : o.op = .slice t x lo hi mx) (hv : onV (ev s ch x) fun v => match optI s ch lo, optI s ch hi, optI s ch mx with
    | some lo, some hi, some mx => sliceW (cnd s ch) tb t v lo hi mx K
    | _, _, _ => False) : ValOk P tb o ch s h K := by
  obtain ⟨v, hev, hv'⟩ := onV_some hv
  clear hv
  split at hv'
  · rename_i l n m hl hn hm
    have opt : holds s ch → ∀ (β : Nat → Nat) (ρ : Operand → Value), (∀ x ∈ o.op.operands, Opnd β s ρ x) → ∀ {y : Option Operand} {r : Option Int}, optI s ch y = some r → (∀ z, y = some z → z ∈ o.op.operands) →
        (r = none ∧ y.map ρ = none ∨ ∃ k n, r = some n ∧ y.map ρ = some (.int k n)) := by
      intro hh β ρ ho y r he hm
      rcases optI_run hh he (fun z hz => ho z (hm z hz)) with ⟨h1, h2⟩ | ⟨z, k, n, h1, h2, h3⟩
      · exact .inl ⟨h2, by rw [h1]; rfl⟩
      · exact .inr ⟨k, n, h3, by rw [h1]; simp [h2]⟩
    unfold sliceW at hv'
    split at hv'
    · rename_i base len cap
      split at hv'
      · rename_i e hel
        obtain ⟨y, u, hy, hu, hg⟩ := elemS_some hel
        obtain ⟨l', x', m', hq, hrun⟩ := slB_run (P := P) hv'
        refine valOk_same _ (hq _ rfl) fun hh β ρ w ho => ?_
        have hx := ev_ok (ho x (by simp [hop, Op.operands])) hh hev
        have hun := run_underlying' ok hy w
        have hsz := run_sizeOf' ok hg w
        rw [hu] at hun
        have hr := hrun (cnd_holds hh) _ _ _ (opt hh β ρ ho hl (by intro z hz; simp [hop, Op.operands, hz])) (opt hh β ρ ho hn (by intro z hz; simp [hop, Op.operands, hz]))
          (opt hh β ρ ho hm (by intro z hz; simp [hop, Op.operands, hz])) w
        simp only [execOp, hop, hx, LVal, Instr.sliceAt, Instr.slice, Sem.run_bind, hun, Result.andThen_ok, hr, hsz, Sem.run_pure, sbase]
      · exact hv'.elim
    · rename_i b
      split at hv'
      · rename_i e hy
        split at hv'
        · rename_i hu
          obtain ⟨l', x', m', hq, hrun⟩ := slB_run (P := P) hv'
          refine valOk_same _ hq fun hh β ρ w ho => ?_
          have hx := ev_ok (ho x (by simp [hop, Op.operands])) hh hev
          have hun := run_underlying' ok hy w
          rw [hu] at hun
          have hmx : mx = none := by
            cases mx with
            | none => rfl
            | some z => simp only [optI] at hm; split at hm <;> cases hm
          have hr := hrun (cnd_holds hh) _ _ none (opt hh β ρ ho hl (by intro z hz; simp [hop, Op.operands, hz])) (opt hh β ρ ho hn (by intro z hz; simp [hop, Op.operands, hz])) (.inl ⟨rfl, rfl⟩) w
          subst hmx
          simp [execOp, hop, hx, LVal, Instr.sliceAt, Instr.slice, hun, hr]
        · exact hv'.elim
      · exact hv'.elim
    · exact hv'.elim
  · exact hv'.elim

theorem val_iface (ok : tb.Ok P) {t : Nat} {x : Operand} (hop : o.op = .makeInterface t x) (hv : onV (ev s ch x) fun v => match tb.ty t with
    | some e => match e.und with
      | .interface _ => False
      | _ => K (.v (.iface t v))
    | none => False) : ValOk P tb o ch s h K := by
  obtain ⟨v, hev, hv'⟩ := onV_some hv
  clear hv
  split at hv'
  · rename_i e he
    have run : (∀ ms, e.und ≠ .interface ms) → K (.v (.iface t v)) → ValOk P tb o ch s h K := fun hne hk =>
      valOk_same _ hk fun hh β ρ w ho => by
        have hx := ev_ok (ho x (by simp [hop, Op.operands])) hh hev
        have hun := run_underlying' ok he w
        simp only [execOp, hop, hx, LVal, Instr.makeInterface, Sem.run_bind, hun, Result.andThen_ok]
        cases hu : e.und <;> first | exact absurd hu (hne _) | rfl
    split at hv'
    · exact hv'.elim
    · rename_i hne; exact run (fun ms h => hne ms h) hv'
  · exact hv'.elim

theorem val_func {fn : Fn} {first captured : Array Operand} (hop : o.op = .makeFunc fn first captured)
    (hv : onVs (vals s ch first.toList) fun a => onVs (vals s ch captured.toList) fun b => K (.v (.func fn a.toArray b.toArray))) : ValOk P tb o ch s h K := by
  obtain ⟨a, ha, hv1⟩ := onVs_some hv
  obtain ⟨b, hb, hk⟩ := onVs_some hv1
  refine valOk_same _ hk fun hh β ρ w ho => ?_
  have h1 := vals_ok (β := β) (ρ := ρ) hh ha fun x hx => ho x (by simp [hop, Op.operands]; simp at hx; exact .inl hx)
  have h2 := vals_ok (β := β) (ρ := ρ) hh hb fun x hx => ho x (by simp [hop, Op.operands]; simp at hx; exact .inr hx)
  have e1 : first.map ρ = a.toArray := by apply Array.ext'; simpa using h1
  have e2 : captured.map ρ = b.toArray := by apply Array.ext'; simpa using h2
  simp only [execOp, hop, Instr.makeFunc, Sem.run_bind, Sem.run_pure, Result.andThen_ok, e1, e2, LVal]

theorem val_convert (ok : tb.Ok P) {src dst : Nat} {x : Operand} (hop : o.op = .convert src dst x) (hv : onV (ev s ch x) fun v => match tb.ty src, tb.ty dst, v with
    | some _, some e, .int _ n => match e.und with
      | .int k => K (.v (.int k (k.wrap n)))
      | _ => genV (cnd s ch) P tb dst (convert src dst v) h K
    | some _, some _, v => genV (cnd s ch) P tb dst (convert src dst v) h K
    | _, _, _ => False) : ValOk P tb o ch s h K := by
  obtain ⟨v, hev, hv'⟩ := onV_some hv
  clear hv
  have hex : holds s ch → ∀ (β : Nat → Nat) (ρ : Operand → Value), (∀ x ∈ o.op.operands, Opnd β s ρ x) → ∀ (w w' : World) (u : Value), (convert src dst v).run P w = .ok u w' → (execOp ρ o).run P w = .ok (.value u) w' := by
    intro hh β ρ ho w w' u hr
    have hx := ev_ok (ho x (by simp [hop, Op.operands])) hh hev
    simp only [execOp, hop, hx, LVal, Sem.run_bind, hr, Result.andThen_ok, Sem.run_pure]
  split at hv'
  · rename_i e0 e k n hs hd
    split at hv'
    · rename_i k' hu
      refine valOk_same _ hv' fun hh β ρ w ho => hex hh β ρ ho w w _ ?_
      have h1 := run_underlying' ok hs w
      have h2 := run_underlying' ok hd w
      rw [hu] at h2
      generalize e0.und = u0 at h1
      simp only [convert, Sem.run_bind, h1, h2, Result.andThen_ok]
      cases u0 <;> rfl
    · exact val_gen (by simp_all [kindD]) hv' fun hh β ρ ho w w' u hr => hex hh β ρ ho w w' u hr
  · exact val_gen (by simp_all [kindD]) hv' fun hh β ρ ho w w' u hr => hex hh β ρ ho w w' u hr
  · exact hv'.elim

/-! Literals -/
theorem layL_eq : ∀ (l : List Value) (i : Nat) (new : List Value), i + new.length ≤ l.length → layL l i new = l.take i ++ new ++ l.drop (i + new.length)
  | l, 0, [], _ => by cases l <;> simp [layL]
  | [], 0, b :: new, h => by simp at h
  | a :: l, 0, b :: new, h => by
    have := layL_eq l 0 new (by simp at h ⊢; omega)
    simp only [layL, this]
    simp
  | [], n + 1, new, h => by simp at h
  | a :: l, n + 1, new, h => by
    have := layL_eq l n new (by simp at h ⊢; omega)
    simp only [layL, this]
    simp [show n + 1 + new.length = n + new.length + 1 from by omega]

theorem layL_length (l : List Value) (i : Nat) (new : List Value) (h : i + new.length ≤ l.length) : (layL l i new).length = l.length := by
  rw [layL_eq l i new h]; simp; omega

theorem fold_lay : ∀ (new : List Value) (k : Nat) (l : List Value) (off : Nat), off + k + new.length ≤ l.length →
    ((new.zipIdx k).foldl (fun (cs : Array Value) (p : Value × Nat) => cs.setIfInBounds (off + p.2) p.1) l.toArray).toList = l.take (off + k) ++ new ++ l.drop (off + k + new.length)
  | [], k, l, off, _ => by simp
  | v :: new, k, l, off, h => by
    simp only [List.zipIdx_cons, List.foldl_cons]
    have h' : off + (k + 1) + new.length ≤ (l.set (off + k) v).length := by simp at h ⊢; omega
    have := fold_lay new (k + 1) (l.set (off + k) v) off h'
    rw [show (l.toArray.setIfInBounds (off + k) v) = (l.set (off + k) v).toArray by simp]
    rw [this]
    simp at h
    apply List.ext_getElem?
    intro j
    simp only [List.getElem?_append, List.length_append, List.length_take, List.length_set, List.length_cons, List.getElem?_take, List.getElem?_drop, List.getElem?_set]
    rcases Nat.lt_trichotomy j (off + k) with hj | hj | hj
    · have e1 : j < min (off + (k + 1)) l.length + new.length := by omega
      have e2 : j < min (off + (k + 1)) l.length := by omega
      have e3 : j < off + (k + 1) := by omega
      have e4 : ¬ off + k = j := by omega
      have e5 : j < min (off + k) l.length + (new.length + 1) := by omega
      have e6 : j < min (off + k) l.length := by omega
      simp [e1, e2, e3, e4, e5, e6, hj]
    · subst hj
      have e1 : off + k < min (off + (k + 1)) l.length + new.length := by omega
      have e2 : off + k < min (off + (k + 1)) l.length := by omega
      have e5 : off + k < min (off + k) l.length + (new.length + 1) := by omega
      have e6 : ¬ off + k < min (off + k) l.length := by omega
      have e7 : off + k - min (off + k) l.length = 0 := by omega
      have e8 : off + k < l.length := by omega
      have e9 : off + k < off + (k + 1) := by omega
      simp [e1, e2, e5, e6, e7, e8, e9]
    · by_cases hj2 : j < off + k + (new.length + 1)
      · have e1 : j < min (off + (k + 1)) l.length + new.length := by omega
        have e2 : ¬ j < min (off + (k + 1)) l.length := by omega
        have e5 : j < min (off + k) l.length + (new.length + 1) := by omega
        have e6 : ¬ j < min (off + k) l.length := by omega
        obtain ⟨m, hm⟩ : ∃ m, j - min (off + k) l.length = m + 1 := ⟨j - min (off + k) l.length - 1, by omega⟩
        have e7 : j - min (off + (k + 1)) l.length = m := by omega
        simp [e1, e2, e5, e6, hm, e7]
      · have e1 : ¬ j < min (off + (k + 1)) l.length + new.length := by omega
        have e5 : ¬ j < min (off + k) l.length + (new.length + 1) := by omega
        have e7 : off + (k + 1) + new.length + (j - (min (off + (k + 1)) l.length + new.length)) = j := by omega
        have e8 : off + k + (new.length + 1) + (j - (min (off + k) l.length + (new.length + 1))) = j := by omega
        have e9 : ¬ off + k = j := by omega
        simp [e1, e5, e7, e8, e9]

theorem fillStep (v : Value) (l : List Value) (off : Nat) (h : off + (cellsL v).length ≤ l.length) :
    (v.cells.zipIdx.foldl (fun (cs : Array Value) (p : Value × Nat) => cs.setIfInBounds (off + p.2) p.1) l.toArray) = (layL l off (cellsL v)).toArray := by
  apply Array.ext'
  rw [← Array.foldl_toList]
  have : v.cells.zipIdx.toList = (cellsL v).zipIdx := by
    rw [Array.toList_zipIdx, cells_list]
  rw [this, fold_lay (cellsL v) 0 l off (by omega), layL_eq l off _ h]
  simp

theorem fillA_ok {size : Nat} : ∀ {ps : List (Nat × Value)} {cs cs' : List Value}, fillA size cs ps = some cs' →
    Instr.fill (fun i => some (i * size, size)) cs.toArray ps = some cs'.toArray
  | [], cs, cs', h => by cases h; rfl
  | (i, v) :: r, cs, cs', h => by
    simp only [fillA] at h
    cases h1 : Nat.beq (cellsL v).length size with
    | false => simp [h1] at h
    | true =>
      cases h2 : Nat.ble (i * size + size) cs.length with
      | false => simp [h1, h2] at h
      | true =>
        simp only [h1, h2, cond_true] at h
        have e1 := Nat.eq_of_beq_eq_true h1
        have e2 := Nat.le_of_ble_eq_true h2
        have hc : v.cells.size = size := by rw [← Array.length_toList, cells_list, e1]
        have := fillA_ok h
        simp only [Instr.fill, hc, ne_eq, not_true, decide_false, Bool.false_or, decide_eq_true_eq]
        rw [if_neg (by simp; omega)]
        have hst := fillStep v cs (i * size) (by omega)
        rw [hst]
        exact this

theorem fillW_ok {fs : List Field} {pl : Nat → Option (Nat × Nat)} (hpl : ∀ i f e, fs[i]? = some f → tb.ty f.type = some e → pl i = some (f.offset, e.size)) :
    ∀ {ps : List (Nat × Value)} {cs cs' : List Value}, fillW tb fs cs ps = some cs' → Instr.fill pl cs.toArray ps = some cs'.toArray
  | [], cs, cs', h => by cases h; rfl
  | (i, v) :: r, cs, cs', h => by
    simp only [fillW] at h
    split at h
    · rename_i f hf
      split at h
      · rename_i e he
        cases h1 : Nat.beq (cellsL v).length e.size with
        | false => simp [h1] at h
        | true =>
          cases h2 : Nat.ble (f.offset + e.size) cs.length with
          | false => simp [h1, h2] at h
          | true =>
            simp only [h1, h2, cond_true] at h
            have e1 := Nat.eq_of_beq_eq_true h1
            have e2 := Nat.le_of_ble_eq_true h2
            have hc : v.cells.size = e.size := by rw [← Array.length_toList, cells_list, e1]
            have := fillW_ok hpl h
            rw [nth_get] at hf
            simp only [Instr.fill, hpl i f e hf he, hc]
            rw [if_neg (by simp; omega)]
            rw [fillStep v cs f.offset (by omega)]
            exact this
      · cases h
    · cases h

theorem run_places (ok : tb.Ok P) {w : World} : ∀ (fs : List Field), (∀ f ∈ fs, ∃ e, tb.ty f.type = some e) →
    ∃ ps : List (Nat × Nat), (fs.mapM fun f => (do pure (f.offset, ← Go.sizeOf f.type) : Sem (Nat × Nat))).run P w = .ok ps w ∧ ps.length = fs.length ∧
      ∀ (i : Nat) f e, fs[i]? = some f → tb.ty f.type = some e → ps[i]? = some (f.offset, e.size)
  | [], _ => ⟨[], by simp, rfl, by simp⟩
  | f :: fs, hf => by
    obtain ⟨e, he⟩ := hf f (List.mem_cons_self ..)
    obtain ⟨ps, hr, hl, hp⟩ := run_places ok (w := w) fs fun g hg => hf g (List.mem_cons_of_mem _ hg)
    refine ⟨(f.offset, e.size) :: ps, ?_, by simp [hl], ?_⟩
    · simp only [List.mapM_cons, Sem.run_bind, run_sizeOf' ok he, Result.andThen_ok, Sem.run_pure, hr]
    · intro i g e' hg he'
      cases i with
      | zero => simp at hg; subst hg; rw [he] at he'; cases he'; simp
      | succ i => simp at hg ⊢; exact hp i g e' hg he'

theorem tysIn_all : ∀ {fs : List Field}, tysIn tb fs = true → ∀ f ∈ fs, ∃ e, tb.ty f.type = some e
  | [], _, f, hf => by cases hf
  | g :: fs, h, f, hf => by
    simp only [tysIn] at h
    split at h
    · rename_i e he
      rcases List.mem_cons.1 hf with rfl | hf
      · exact ⟨e, he⟩
      · exact tysIn_all h f hf
    · cases h

theorem val_build (ok : tb.Ok P) {t : Nat} {parts : Array (Nat × Operand)} (hop : o.op = .build t parts)
    (hv : onVs ((pairs s ch parts.toList).map fun _ => []) fun _ => match pairs s ch parts.toList, tb.ty t with
    | some ps, some e => match e.und with
      | .struct fs => cond (tysIn tb fs.toList) (match fillW tb fs.toList (cellsL e.zero) ps with
        | some cs => K (.v (.agg cs.toArray))
        | none => False) False
      | .array _ u => match tb.ty u with
        | some g => match fillA g.size (cellsL e.zero) ps with
          | some cs => K (.v (.agg cs.toArray))
          | none => False
        | none => False
      | _ => False
    | _, _ => False) : ValOk P tb o ch s h K := by
  obtain ⟨_, _, hv'⟩ := onVs_some hv
  clear hv
  split at hv'
  · rename_i ps e hps he
    have hparts : holds s ch → ∀ (β : Nat → Nat) (ρ : Operand → Value), (∀ x ∈ o.op.operands, Opnd β s ρ x) → (parts.map fun (i, x) => (i, ρ x)).toList = ps := by
      intro hh β ρ ho
      have := pairs_ok (β := β) (ρ := ρ) hh hps fun x hx => ho x (by simp [hop, Op.operands]; simpa using hx)
      simpa using this
    split at hv'
    · rename_i fs hu
      cases hty : tysIn tb fs.toList with
      | false => simp [hty] at hv'
      | true =>
        simp only [hty, cond_true] at hv'
        split at hv'
        · rename_i cs hcs
          refine valOk_same _ hv' fun hh β ρ w ho => ?_
          have hun := run_underlying' ok he w
          rw [hu] at hun
          have hz := run_zeroValue' ok he w
          obtain ⟨pl, hr, hl, hp⟩ := run_places ok (w := w) fs.toList (tysIn_all hty)
          have hm : (fs.mapM fun f => (do pure (f.offset, ← Go.sizeOf f.type) : Sem (Nat × Nat))).run P w = .ok pl.toArray w := by
            rw [Array.mapM_eq_mapM_toList]
            simp only [Sem.run_map, hr, Result.andThen_ok]
          have hfill := fillW_ok (tb := tb) (fs := fs.toList) (pl := fun (i : Nat) => pl[i]?) hp hcs
          have e1 : (parts.map fun (i, x) => (i, ρ x)).toList = ps := hparts hh β ρ ho
          have e2 : (cellsL e.zero).toArray = e.zero.cells := by apply Array.ext'; simp [cells_list]
          rw [e2] at hfill
          simp only [execOp, hop, Instr.build, Sem.run_bind, hz, Result.andThen_ok, hun, hm, e1]
          have e3 : (fun (i : Nat) => pl.toArray[i]?) = fun (i : Nat) => pl[i]? := by funext i; simp
          rw [e3, hfill]
          simp [LVal]
        · exact hv'.elim
    · rename_i n u hu
      split at hv'
      · rename_i g hg
        split at hv'
        · rename_i cs hcs
          refine valOk_same _ hv' fun hh β ρ w ho => ?_
          have hun := run_underlying' ok he w
          rw [hu] at hun
          have hz := run_zeroValue' ok he w
          have hsz := run_sizeOf' ok hg w
          have hfill := fillA_ok hcs
          have e1 : (parts.map fun (i, x) => (i, ρ x)).toList = ps := hparts hh β ρ ho
          have e2 : (cellsL e.zero).toArray = e.zero.cells := by apply Array.ext'; simp [cells_list]
          rw [e2] at hfill
          simp only [execOp, hop, Instr.build, Sem.run_bind, hz, Result.andThen_ok, hun, hsz, e1, hfill]
          simp [LVal]
        · exact hv'.elim
      · exact hv'.elim
    · exact hv'.elim
  · exact hv'.elim

end
end Lf
