/-
  Part 2 of the texts that the claim leans on.
-/
import Derived.ScopeJumps
import Derived.ProofKit
import Derived.SizedLaws
import Derived.OpenShut
import Derived.Deep.DeepHandedRow
import Derived.Deep.DeepWitnessRowRef
import Derived.Lay
import Derived.MakeChecks
import Derived.Stop.LaidErr
import Ieee.Arith
import Derived.Test.YtfcckhafmajceaaGreatDoorMgFltAll0
/-
  The lifting layer, part 16: one operation of a region.
-/
namespace Lf
open Go

section
variable {n : Nat} {Cur Liv D N : Nat → Prop} {β : Nat → Nat} {s : St} {a : Act} {h : Hp} {w : World}

theorem RR.putO (hr : RR n Cur Liv D N β s a h w) {dst : Option Nat} {l : LV} {ch : Chain} {v : Value} (hd : ∀ d, dst = some d → d < n ∧ ¬ D d) (hch : ∀ p ∈ ch, D p.1)
    (h1 : holds s ch → v = LVal β l ∧ ∀ k o, (l = .box k o ∨ l = .boxd k o) → Liv k ∧ ¬ N k) (h2 : ¬ holds s ch → v = undef) :
    RR n (fun t => dst = some t ∨ Cur t) Liv D N β (s.put dst l ch) (a.put dst v) h w := by
  cases dst with
  | none => exact hr.congr (fun t => by simp) (fun _ => .rfl) (fun _ e => e) (fun _ e => e)
  | some d =>
    obtain ⟨hdn, hD⟩ := hd d rfl
    have h3 := (hr.lift hdn hD hch fun hh k o e => (((h1 hh).2 k o e).2)).exec (v := v) (put_same s d l ch) (fun e => e.1 rfl)
      (fun hh => ⟨(h1 ((holds_put hD hch).1 hh)).1, fun k o e => ((h1 ((holds_put hD hch).1 hh)).2 k o e).1⟩) (fun hh => h2 fun e => hh ((holds_put hD hch).2 e))
    grind

theorem chain_D (hr : RR n Cur Liv D N β s a h w) {c : Chain} {ops : List Oper} {m : Nat} {o : Oper} (hch : chainOf ops m o = some c) (hg : guardOk s c = true)
    (hgd : ∀ j b p d, o.guard = some (j, b) → nth ops j = some p → p.dst = some d → D d) : ∀ p ∈ c, D p.1 := by
  cases m with
  | zero => simp [chainOf] at hch
  | succ m =>
    simp only [chainOf] at hch
    split at hch
    · cases hch; simp
    · rename_i j b hgu
      split at hch
      · rename_i p hp
        split at hch
        · rename_i d c' hd hc'
          cases hch
          simp only [guardOk] at hg
          split at hg
          · rename_i t c2 hf
            cases h1 : chEq c2 c' with
            | false => simp [h1] at hg
            | true =>
              have := chEq_eq h1
              subst this
              intro q hq
              rcases List.mem_cons.1 hq with rfl | hq
              · grind
              · exact hr.chain d _ _ hf q hq
          · cases hg
        · cases hch
      · cases hch

theorem wanted_iff (hr : RR n Cur Liv D N β s a h w) {ch : Chain} {ops : Array Oper} {m : Nat} {o : Oper} (hch : chainOf ops.toList m o = some ch) (hg : guardOk s ch = true)
    (hgc : ∀ j b p d, o.guard = some (j, b) → nth ops.toList j = some p → p.dst = some d → Cur d) : Region.wanted o (yielded ops a.tmps) = true ↔ holds s ch := by
  cases m with
  | zero => simp [chainOf] at hch
  | succ m =>
    simp only [chainOf] at hch
    split at hch
    · rename_i hgu
      cases hch
      simp [Region.wanted, hgu, holds_nil]
    · rename_i j b hgu
      split at hch
      · rename_i p hp
        split at hch
        · rename_i d c' hd hc'
          cases hch
          simp only [guardOk] at hg
          split at hg
          · rename_i t c2 hf
            cases h1 : chEq c2 c' with
            | false => simp [h1] at hg
            | true =>
              have := chEq_eq h1
              subst this
              have hC := hgc j b p d hgu hp hd
              have hlt : d < a.tmps.size := by rw [hr.sz]; exact hr.lt d _ _ hf
              have hpj : ops[j]? = some p := by rw [nth_get] at hp; simpa using hp
              have hy : yielded ops a.tmps j = match a.eval (.tmp d) with | .bool b => some b | _ => none := by
                unfold yielded
                simp only [hpj, Option.bind_some, hd, Act.eval]
                have : a.tmps[d]? = some (a.tmps[d]'hlt) := Array.getElem?_eq_getElem hlt
                simp only [this, Array.getD_eq_getD_getElem?, Option.getD_some]
                grind
              simp only [Region.wanted, hgu, hy]
              by_cases hh : holds s c2
              · have := (hr.cur d _ _ hf hC hh).1
                rw [this]
                simp only [LVal]
                constructor
                · intro e
                  have e : t = b := by simpa using e
                  subst e
                  intro q hq
                  rcases List.mem_cons.1 hq with rfl | hq
                  · simp [hb, hf]
                  · exact hh q hq
                · intro e
                  have := e (d, b) (List.mem_cons_self ..)
                  simp only [hb, hf] at this
                  simpa using this
              · have := hr.und d _ _ hf hC hh
                rw [this]
                simp only [undef]
                refine ⟨fun e => by simp at e, fun e => absurd (fun q hq => e q (List.mem_cons_of_mem _ hq)) hh⟩
          · cases hg
        · cases hch
      · cases hch

def privA (priv : List Nat) (o : Oper) (k : Nat) : Prop := isPrivAlloc priv o = true ∧ o.dst = some k

/-- What an operation leaves. -/
structure OpOut (C : Ctx) (l mok : List Nat) (n : Nat) (Cur Liv D N : Nat → Prop) (o : Oper) (β : Nat → Nat) (s : St) (a : Act) (h : Hp) (w : World) (β' : Nat → Nat) (s' : St) (a' : Act) (h' : Hp) (w' : World) : Prop where
  rr : RR n (fun t => o.dst = some t ∨ Cur t) (fun k => privA C.priv o k ∨ Liv k) D (fun k => ¬ privA C.priv o k ∧ N k) β' s' a' h' w'
  seg : Seg l mok (live s Liv) β a h w (live s' fun k => privA C.priv o k ∨ Liv k) β' a' h' w'
  f : ∀ t, o.dst ≠ some t → s'.f t = s.f t
  m : ∀ k, s'.m k = s.m k ∨ privA C.priv o k ∨ (chg o s k = true ∧ isVal C.tb o = false ∧ s.m k ≠ none ∧ Liv k)
  hv : isVal C.tb o = true → h' = h
  hp : isPrivAlloc C.priv o = true → h' = h

theorem not_priv {C : Ctx} {o : Oper} (h : isPrivAlloc C.priv o = false) (k : Nat) : ¬ privA C.priv o k := fun e => by have := e.1; grind

theorem outPlain {C : Ctx} {l mok : List Nat} {o : Oper} {s' : St} {a' : Act} {h' : Hp} {w' : World} (hp : isPrivAlloc C.priv o = false)
    (rr : RR n (fun t => o.dst = some t ∨ Cur t) Liv D N β s' a' h' w') (seg : Seg l mok (live s Liv) β a h w (live s' Liv) β a' h' w')
    (f : ∀ t, o.dst ≠ some t → s'.f t = s.f t) (m : ∀ k, s'.m k = s.m k ∨ (chg o s k = true ∧ isVal C.tb o = false ∧ s.m k ≠ none ∧ Liv k)) (hv : isVal C.tb o = true → h' = h) :
    OpOut C l mok n Cur Liv D N o β s a h w β s' a' h' w' := by
  have e1 : ∀ k, (privA C.priv o k ∨ Liv k) ↔ Liv k := fun k => ⟨fun e => e.resolve_left (not_priv hp k), .inr⟩
  refine ⟨rr.congr (fun _ => .rfl) e1 (fun _ e => e) (fun _ e => e.2), seg.mono (fun _ e => e) (fun _ e => e) (fun _ e => e) (fun k e => ⟨e.1, (e1 k).1 e.2⟩), f, fun k => (m k).imp id .inr, hv, fun e => by grind⟩

theorem put_f (s : St) (d : Option Nat) (l : LV) (ch : Chain) (t : Nat) (h : d ≠ some t) : (s.put d l ch).f t = s.f t := by
  cases d with
  | none => rfl
  | some d => exact put_ne s l ch fun e => h (by rw [e])

theorem put_m (s : St) (d : Option Nat) (l : LV) (ch : Chain) : (s.put d l ch).m = s.m := by cases d <;> rfl

theorem val_not_priv {C : Ctx} {o : Oper} (h : isVal C.tb o = true) : isPrivAlloc C.priv o = false := by
  obtain ⟨dst, op, ty, pos, after, guard⟩ := o
  cases op <;> first | rfl | (simp [isVal] at h; done) | (cases dst <;> simp [isVal, isPrivAlloc] at h ⊢)

/-- The operands' private variables are made. -/
theorem prov_rr (hr : RR n Cur Liv D N β s a h w) {o : Oper} {ch : Chain} {l : LV} (hp : Prov o ch s l) (hh : holds s ch) (hcur : ∀ t, Operand.tmp t ∈ o.op.operands → Cur t) :
    ∀ k off, (l = .box k off ∨ l = .boxd k off) → Liv k ∧ ¬ N k := by
  intro k off e
  obtain ⟨x, hx, off', hev⟩ := hp k off e
  rcases hev with hev | hev
  · obtain ⟨t, c, rfl, hf, hc⟩ := ev_tmp hev (by simp) hh
    exact ⟨(hr.cur t _ c hf (hcur t hx) hc).2 k off' (.inl rfl), fun hN => (hr.nref k hN t _ c hf hc off').1 rfl⟩
  · obtain ⟨t, c, rfl, hf, hc⟩ := ev_tmp hev (by simp) hh
    exact ⟨(hr.cur t _ c hf (hcur t hx) hc).2 k off' (.inr rfl), fun hN => (hr.nref k hN t _ c hf hc off').2 rfl⟩

/-- The operation is carried out. -/
theorem op_exec {C : Ctx} (ok : C.tb.Ok C.P) {ops : Array Oper} {l mok : List Nat} {K : St → Hp → Prop} {i : Nat} {o : Oper} (hi : ops[i]? = some o) (hv : opW C ops.toList mok o s h K)
    (hr : RR n Cur Liv D N β s a h w) (hcur : ∀ t, Operand.tmp t ∈ o.op.operands → Cur t)
    (hgc : ∀ j b p d, o.guard = some (j, b) → nth ops.toList j = some p → p.dst = some d → Cur d ∧ D d) (hdn : ∀ d, o.dst = some d → d < n ∧ ¬ D d ∧ d ∈ l)
    (hN : ∀ d, privA C.priv o d → N d ∧ ¬ Liv d) (next : Act → World → Prop) (Q : Exit → Act → World → Prop)
    (hn : ∀ s' h' β' a' w', K s' h' → OpOut C l mok n Cur Liv D N o β s a h w β' s' a' h' w' → next a' w') : wpOp C.P ops Q i next a w := by
  unfold opW at hv
  split at hv
  · exact hv.elim
  rename_i ch hch
  cases hg : guardOk s ch with
  | false => simp [hg] at hv
  | true =>
  simp only [hg, cond_true] at hv
  have hgc' : ∀ j b p d, o.guard = some (j, b) → nth ops.toList j = some p → p.dst = some d → Cur d := fun j b p d e1 e2 e3 => (hgc j b p d e1 e2 e3).1
  have hw := wanted_iff hr hch hg hgc'
  have hD := chain_D hr hch hg fun j b p d e1 e2 e3 => (hgc j b p d e1 e2 e3).2
  have hopnd : ∀ x ∈ o.op.operands, Opnd β s a.eval x := fun x hx => opnd_rr hr fun t e => hcur t (e ▸ hx)
  have hd1 : ∀ d, o.dst = some d → d < n ∧ ¬ D d := fun d e => ⟨(hdn d e).1, (hdn d e).2.1⟩
  have hdl : ∀ d, o.dst = some d → d ∈ l := fun d e => (hdn d e).2.2
  unfold wpOp
  simp only [hi]
  have live_put : ∀ (l : LV) k, live (s.put o.dst l ch) Liv k ↔ live s Liv k := fun l k => by unfold live; rw [put_m]
  -- a value, and nothing else
  have doVal : ∀ (lv : LV) (h' : Hp) (v : Value) (w' : World), K (s.put o.dst lv ch) h' → isPrivAlloc C.priv o = false → (isVal C.tb o = true → h' = h) → Step h h' w w' →
      (holds s ch → v = LVal β lv ∧ ∀ k off, (lv = .box k off ∨ lv = .boxd k off) → Liv k ∧ ¬ N k) → (¬ holds s ch → v = undef) → next (a.put o.dst v) w' := by
    intro lv h' v w' hk hp hvv hst h1 h2
    refine hn _ _ β _ _ hk (outPlain hp ((hr.step hst).putO hd1 hD h1 h2) ?_ (fun t ht => put_f s _ _ _ t ht) (fun k => .inl (by rw [put_m])) hvv)
    refine ((Seg.step hst).trans (Seg.put (lv := live s Liv) hdl)).mono (fun _ e => e) (fun _ e => e) (fun _ e => e) (fun k e => (live_put lv k).1 e)
  cases hval : isVal C.tb o with
  | true =>
    simp only [hval, cond_true] at hv
    obtain ⟨lv, hk, hrun, hprov⟩ := valW_sound ok hv
    by_cases hh : holds s ch
    · rw [if_pos (hw.2 hh)]
      left
      obtain ⟨w', hrw, hw1, hst⟩ := hrun hh β a.eval w hopnd (fun _ => hr.sub) (fun _ => boxU_rr hr hcur)
      unfold Oper.wp
      rw [hrw]
      have hst' : Step h h w w' := by
        cases hkd : kindD C.tb o ch s with
        | mem => exact hst hkd
        | pure => rw [hw1 (by rw [hkd]; simp)]; exact .refl hr.sub
        | box => rw [hw1 (by rw [hkd]; simp)]; exact .refl hr.sub
      exact doVal lv h _ w' hk (val_not_priv hval) (fun _ => rfl) hst' (fun _ => ⟨rfl, prov_rr hr hprov hh hcur⟩) (fun e => absurd hh e)
    · rw [if_neg (fun e => hh (hw.1 e))]
      exact doVal lv h _ w hk (val_not_priv hval) (fun _ => rfl) (.refl hr.sub) (fun e => absurd e hh) (fun _ => rfl)
  | false =>
    simp only [hval, cond_false] at hv
    -- what changes memory that others know
    have doEff0 : isPrivAlloc C.priv o = false → (EffOk C.P o ch s h fun l h' => K (s.put o.dst l ch) h') →
        if Region.wanted o (yielded ops a.tmps) = true then o.wp C.P a w next Q ∨ o.asks C.P a w ∧ LetsOut Q else next (a.put o.dst undef) w := by
      intro hp hv
      obtain ⟨h1, h2⟩ := hv
      by_cases hh : holds s ch
      · rw [if_pos (hw.2 hh)]
        left
        refine h1 hh β a w hopnd hr.sub next Q fun x h' w' hk hst => ?_
        exact doVal (.v x) h' x w' hk hp (fun e => by grind) hst (fun _ => ⟨rfl, fun k off e => by grind⟩) (fun e => absurd hh e)
      · rw [if_neg (fun e => hh (hw.1 e))]
        obtain ⟨x, hk⟩ := h2 hh
        exact doVal (.v x) h undef w hk hp (fun _ => rfl) (.refl hr.sub) (fun e => absurd e hh) (fun _ => rfl)
    have doEff : isPrivAlloc C.priv o = false → (effW C.P C.tb o ch s h fun l h' => K (s.put o.dst l ch) h') →
        if Region.wanted o (yielded ops a.tmps) = true then o.wp C.P a w next Q ∨ o.asks C.P a w ∧ LetsOut Q else next (a.put o.dst undef) w := fun hp hv => doEff0 hp (effW_sound ok hv)
    -- a private variable is made
    have doNew : ∀ (d : Nat) (cs : List Value) (t : Nat), K ((s.put (some d) (.box d 0) []).putM d cs) h → privA C.priv o d → ch = [] → has mok d = true →
        (execOp a.eval o).run C.P w = .ok (.value (.pointer (some ⟨w.heap.size, 0, none⟩))) { w with heap := w.heap.push (.cells cs.toArray t (0, 0)) } →
        if Region.wanted o (yielded ops a.tmps) = true then o.wp C.P a w next Q ∨ o.asks C.P a w ∧ LetsOut Q else next (a.put o.dst undef) w := by
      intro d cs t hk hp he hmd hrun
      subst he
      rw [if_pos (hw.2 (holds_nil s))]
      left
      unfold Oper.wp
      rw [hrun]
      show next (a.put o.dst _) _
      rw [hp.2]
      obtain ⟨hdn1, hdD, hdl1⟩ := hdn d hp.2
      obtain ⟨hNd, hLd⟩ := hN d hp
      have hl := hr.liftA cs hdn1 hdD hNd
      have hfd : ((s.put (some d) (.box d 0) []).putM d cs).f d = some (.box d 0, []) := put_same s _ _ _
      have hmd' : ((s.put (some d) (.box d 0) []).putM d cs).m d = some cs := putM_same _ _ _
      have hx := hl.execA t hfd hmd' (fun e => e.1 rfl) (fun e => e.1 rfl)
      have hiff : ∀ k, privA C.priv o k ↔ k = d := fun k => ⟨fun e => by have := e.2; rw [hp.2] at this; cases this; rfl, fun e => e ▸ hp⟩
      refine hn _ _ _ _ _ hk ⟨hx.congr (fun t => ?_) (fun k => ?_) (fun _ e => e) (fun k e => ?_), ?_, fun t ht => ?_, fun k => ?_, fun _ => rfl, fun _ => rfl⟩
      · rw [hp.2]
        grind
      · grind
      · grind
      · refine (segA (s := (s.put (some d) (.box d 0) []).putM d cs) (Liv := fun k => k ≠ d ∧ Liv k) (β := β) (a := a) (l := l) (mm := mok) t hr.sub hmd' (fun e => e.1 rfl) hdl1 ((has_iff _ _).1 hmd)).mono
          (fun _ e => e) (fun _ e => e) (fun k e => ⟨fun e' => e.1 ?_, e.2.2⟩) (fun k e => ⟨e.1, ?_⟩)
        · rw [putM_ne _ _ e.2.1]; exact e'
        · rcases e.2 with e2 | e2
          · exact .inl ((hiff k).1 e2)
          grind
      · exact put_ne s _ _ fun e => ht (by rw [hp.2, e])
      · by_cases ek : k = d
        · grind
        · exact .inl (putM_ne _ _ ek)
    split at hv
    · rename_i d hdst
      have hd0 : o.dst = some d ∧ has C.priv d = true := by
        unfold dstIn at hdst
        grind
      cases hmd : has mok d with
      | false => simp [hmd] at hv
      | true =>
        simp only [hmd, cond_true] at hv
        split at hv
        · rename_i t hop
          split at hv
          · rename_i e he
            refine doNew d (cellsL e.zero) t hv ⟨by simp [isPrivAlloc, hop, hd0], hd0.1⟩ rfl hmd ?_
            have e2 : (cellsL e.zero).toArray = e.zero.cells := by apply Array.ext'; simp [cells_list]
            rw [e2]
            simp [execOp, hop, Instr.alloc, run_zeroValue' ok he, newVar, run_newRow]
          · exact hv.elim
        · rename_i t x hop
          obtain ⟨v, hev, hv'⟩ := onV_some hv
          refine doNew d (cellsL v) t hv' ⟨by simp [isPrivAlloc, hop, hd0], hd0.1⟩ rfl hmd ?_
          have hx := ev_ok (hopnd x (by simp [hop, Op.operands])) (holds_nil s) hev
          have e2 : (cellsL v).toArray = v.cells := by apply Array.ext'; simp [cells_list]
          rw [e2]
          simp [execOp, hop, hx, LVal, Instr.box, newVar, run_newRow]
        · exact hv.elim
    · exact hv.elim
    · rename_i hdst
      have hpa : isPrivAlloc C.priv o = false := by
        unfold dstIn at hdst
        unfold isPrivAlloc
        split at hdst
        · rename_i d' e
          cases h1 : has C.priv d' with
          | true => simp [h1] at hdst
          | false => rw [e]; cases o.op <;> simp [h1]
        · rename_i e
          rw [e]; cases o.op <;> simp
      split at hv
      · rename_i t x y hop
        split at hv
        · rename_i k off v hex hey
          split at hv
          · rename_i cs e hmk hte
            cases h1 : has mok k with
            | false => simp [h1] at hv
            | true =>
            cases h2 : Nat.beq (cellsL v).length e.size with
            | false => simp [h1, h2] at hv
            | true =>
            cases h3 : Nat.ble (off + e.size) cs.length with
            | false => simp [h1, h2, h3] at hv
            | true =>
            cases h4 : okCells (cellsL v) with
            | false => simp [h1, h2, h3, h4] at hv
            | true =>
            simp only [h1, h2, h3, h4, cond_true] at hv
            rw [if_pos (hw.2 (holds_nil s))]
            left
            have hxm : x ∈ o.op.operands := by simp [hop, Op.operands]
            have hx := ev_ok (hopnd x hxm) (holds_nil s) hex
            have hy := ev_ok (hopnd y (by simp [hop, Op.operands])) (holds_nil s) hey
            obtain ⟨tt, c, rfl, hf, hc⟩ := ev_tmp hex (by simp) (holds_nil s)
            have hL : Liv k := (hr.cur tt _ c hf (hcur tt hxm) hc).2 k off (.inl rfl)
            obtain ⟨hb0, ct, hb1⟩ := hr.box k cs hmk hL
            have hlen0 : (cellsL v).length = e.size := Nat.eq_of_beq_eq_true h2
            obtain ⟨w', hrun, hb', hoth, hsub, hsize, h5, h6, h7⟩ := run_storeBox (P := C.P) (off := off) hr.sub hb1 hb0 h4 (by rw [hlen0]; exact Nat.le_of_ble_eq_true h3)
            have hsz := run_sizeOf' ok hte w
            have hlen : v.cells.size = e.size := by rw [← Array.length_toList, cells_list]; exact hlen0
            unfold Oper.wp
            have hrun2 : (execOp a.eval o).run C.P w = .ok .skip w' := by
              simp only [execOp, hop, hx, hy, LVal, Instr.storeAt, Instr.sureAddr, Sem.run_bind, Sem.run_pure, Result.andThen_ok, storeVar, hsz, hlen, ne_eq, not_true, if_false, cells_list]
              have : (if False then (stuck "storeVar: the value has not the size of the variable" : Sem Unit) else pure PUnit.unit).run C.P w = .ok () w := rfl
              first | rw [this] | skip
              simp only [hrun, Result.andThen_ok]
            rw [hrun2, Oper.upon_skip]
            have hr2 := (hr.storeM hmk hL hb' hoth hsub).putO (dst := o.dst) (l := .v (.tuple #[])) (ch := []) (v := undef) hd1 (by simp) (fun _ => ⟨rfl, fun k off e => by rcases e with e | e <;> cases e⟩) (fun e => absurd (holds_nil _) e)
            have hes : ((s.putM k (layL cs off (cellsL v))).put o.dst (.v (.tuple #[])) []) = ((s.put o.dst (.v (.tuple #[])) []).putM k (layL cs off (cellsL v))) := by cases o.dst <;> rfl
            rw [hes] at hr2
            have hsm : ∀ j, ((s.put o.dst (.v (.tuple #[])) []).putM k (layL cs off (cellsL v))).m j ≠ none → s.m j ≠ none := fun j hj => by
              by_cases ej : j = k
              · rw [ej, hmk]; simp
              · rw [putM_ne _ _ ej, put_m] at hj; exact hj
            refine hn _ _ _ _ _ hv (outPlain hpa hr2 ?_ (fun t ht => put_f s _ _ _ t ht) (fun j => ?_) (fun _ => rfl))
            · refine Seg.trans (lv1 := live s Liv) (β1 := β) (a1 := a) (h1 := h) (w1 := w') ⟨fun _ _ => rfl, fun _ _ => rfl, hsize, fun _ _ e _ => e, fun b hb hn hk => ?_, fun _ e => .inl ⟨e, rfl⟩, h5, h6, h7, rfl⟩ ((Seg.put (lv := live s Liv) hdl).mono (fun _ e => e) (fun _ e => e) (fun _ e => e) (fun j e => ⟨hsm j e.1, e.2⟩))
              exact hoth b hb (fun e => hk k ((has_iff _ _).1 h1) ⟨by rw [hmk]; simp, hL⟩ e.symm) hn
            · by_cases ej : j = k
              · subst ej
                exact .inr ⟨by simp [chg, hop, hex], hval, by rw [hmk]; simp, hL⟩
              · exact .inl (by rw [putM_ne _ _ ej, put_m])
          · exact hv.elim
        · exact doEff hpa hv
      · exact doEff0 hpa (entW_sound hv)
      grind

end
end Lf

/-
  The lifting layer, part 17: regions as they stand.
-/
namespace Lf
open Go

abbrev Rel (n : Nat) (β : Nat → Nat) (s : St) (a : Act) (h : Hp) (w : World) : Prop :=
  RR n (fun _ => True) (fun _ => True) (fun _ => False) (fun _ => False) β s a h w

abbrev lives (s : St) : Nat → Prop := live s fun _ => True

section
variable {n : Nat} {Cur Liv D N : Nat → Prop} {β : Nat → Nat} {s : St} {a : Act} {h : Hp} {w : World}

theorem clean_f {s : St} {t : Nat} {l : LV} {c : Chain} (e : s.clean.f t = some (l, c)) : s.f t = some (l, []) ∧ c = [] := by
  simp only [St.clean] at e
  grind

theorem RR.clean (hr : RR n (fun _ => True) (fun _ => True) D N β s a h w) : Rel n β s.clean a h w := by
  refine ⟨hr.sz, hr.sub, fun t l c e => hr.lt t l _ (clean_f e).1, fun t l c e p hp => ?_, fun t l c e _ _ => hr.cur t l _ (clean_f e).1 trivial (holds_nil _), fun t l c e _ hh => ?_, hr.box, hr.inj, fun _ e => e.elim, fun _ e => e.elim⟩
  · rw [(clean_f e).2] at hp; cases hp
  · rw [(clean_f e).2] at hh; exact absurd (holds_nil _) hh

theorem dropL'_some {l : List Nat} {x : Option (LV × Chain)} {v : LV} {c : Chain} (e : dropL' l x = some (v, c)) : x = some (v, c) ∧ ∀ k o, (v = .box k o ∨ v = .boxd k o) → k ∉ l := by
  unfold dropL' at e
  split at e
  · rename_i k o c'
    cases hk : has l k with
    | true => simp [hk] at e
    | false =>
      simp only [hk, cond_false] at e
      cases e
      refine ⟨rfl, fun k' o' e' => ?_⟩
      rcases e' with e' | e' <;> cases e'
      exact has_false hk
  · rename_i k o c'
    cases hk : has l k with
    | true => simp [hk] at e
    | false =>
      simp only [hk, cond_false] at e
      cases e
      refine ⟨rfl, fun k' o' e' => ?_⟩
      rcases e' with e' | e' <;> cases e'
      exact has_false hk
  · grind
  · cases e

theorem drop_f {l : List Nat} {t : Nat} {v : LV} {c : Chain} (e : (s.dropB l).f t = some (v, c)) : s.f t = some (v, c) ∧ ∀ k o, (v = .box k o ∨ v = .boxd k o) → k ∉ l := by
  cases l with
  | nil => exact ⟨e, fun _ _ _ e => by cases e⟩
  | cons x l => exact dropL'_some e

theorem drop_m {l : List Nat} {k : Nat} {cs : List Value} (e : (s.dropB l).m k = some cs) : s.m k = some cs ∧ k ∉ l := by
  cases l with
  | nil => exact ⟨e, fun e => by cases e⟩
  | cons x l =>
    simp only [St.dropB] at e
    cases hk : has (x :: l) k with
    | true => simp [hk] at e
    | false =>
      simp only [hk, cond_false] at e
      exact ⟨e, has_false hk⟩

theorem RR.start (hr : Rel n β s a h w) (l : List Nat) : RR n (fun _ => True) (fun k => k ∉ l) (fun _ => False) (fun k => k ∈ l) β (s.dropB l) a h w := by
  refine ⟨hr.sz, hr.sub, fun t v c e => hr.lt t v c (drop_f e).1, fun t v c e => hr.chain t v c (drop_f e).1, fun t v c e _ hh => ?_, fun t v c e _ hh => ?_, fun k cs e _ => hr.box k cs (drop_m e).1 trivial, fun k k' e e' _ _ he => ?_, fun k hk => ?_, fun k hk t v c e _ o => ?_⟩
  · have hc : c = [] := by
      cases c with
      | nil => rfl
      | cons p c => exact (hr.chain t v _ (drop_f e).1 p (List.mem_cons_self ..)).elim
    subst hc
    exact ⟨(hr.cur t v [] (drop_f e).1 trivial (holds_nil _)).1, (drop_f e).2⟩
  · have hc : c = [] := by
      cases c with
      | nil => rfl
      | cons p c => exact (hr.chain t v _ (drop_f e).1 p (List.mem_cons_self ..)).elim
    subst hc
    exact absurd (holds_nil _) hh
  · obtain ⟨cs, e1⟩ := Option.ne_none_iff_exists'.1 e
    obtain ⟨cs', e1'⟩ := Option.ne_none_iff_exists'.1 e'
    exact hr.inj k k' (by simp [(drop_m e1).1]) (by simp [(drop_m e1').1]) trivial trivial he
  · cases e : (s.dropB l).m k with
    | none => rfl
    | some cs => exact absurd hk (drop_m e).2
  · exact ⟨fun e' => (drop_f e).2 k o (.inl e') hk, fun e' => (drop_f e).2 k o (.inr e') hk⟩

theorem live_drop {l : List Nat} {k : Nat} (e : live (s.dropB l) (fun k => k ∉ l) k) : lives s k := by
  obtain ⟨cs, e1⟩ := Option.ne_none_iff_exists'.1 e.1
  exact ⟨by simp [(drop_m e1).1], trivial⟩

theorem modsO_append : ∀ (x y : List Oper), modsO (x ++ y) = modsO x ++ modsO y
  | [], y => rfl
  | o :: x, y => by
    simp only [List.cons_append, modsO, modsO_append x y]
    cases o.dst <;> rfl

theorem modsO_mem {l : List Oper} {o : Oper} {d : Nat} (hm : o ∈ l) (hd : o.dst = some d) : d ∈ modsO l := by
  induction l with
  | nil => cases hm
  | cons p l ih =>
    rcases List.mem_cons.1 hm with rfl | hm
    · simp [modsO, hd]
    · have := ih hm
      simp only [modsO]
      grind

theorem nodup_iff : ∀ {l : List Nat}, nodup l = true → l.Nodup
  | [], _ => .nil
  | a :: l, h => by
    simp only [nodup] at h
    cases ha : has l a with
    | true => simp [ha] at h
    | false =>
      simp only [ha, cond_false] at h
      exact List.nodup_cons.2 ⟨has_false ha, nodup_iff h⟩

theorem noGuard_mem {l : List Oper} {o : Oper} (h : noGuard l = true) (hm : o ∈ l) : o.guard = none := by
  induction l with
  | nil => cases hm
  | cons p l ih =>
    simp only [noGuard] at h
    grind

theorem guardsBack_get : ∀ {l : List Oper} {i j : Nat} {o : Oper} {g : Nat} {b : Bool}, guardsBack l i = true → l[j]? = some o → o.guard = some (g, b) → g < i + j
  | [], _, _, _, _, _, _, e, _ => by simp at e
  | p :: l, i, 0, o, g, b, h, e, hg => by
    simp at e
    subst e
    simp only [guardsBack, hg] at h
    cases hb : Nat.blt g i with
    | true => simp [Nat.blt] at hb; omega
    | false => simp [hb] at h
  | p :: l, i, j + 1, o, g, b, h, e, hg => by
    simp at e
    have h' : guardsBack l (i + 1) = true := by
      simp only [guardsBack] at h
      grind
    have := guardsBack_get h' e hg
    omega

theorem privA_allocs {priv : List Nat} {o : Oper} {d : Nat} {r : List Oper} (h : privA priv o d) : allocsOf priv (o :: r) = d :: allocsOf priv r := by
  simp [allocsOf, h.1, h.2]

theorem notA_allocs {priv : List Nat} {o : Oper} {r : List Oper} (h : ∀ d, ¬ privA priv o d) : allocsOf priv (o :: r) = allocsOf priv r := by
  cases hp : isPrivAlloc priv o with
  | false => simp [allocsOf, hp]
  | true =>
    cases hd : o.dst with
    | none => simp [allocsOf, hp, hd]
    | some d => exact absurd ⟨hp, hd⟩ (h d)

theorem seq_sound {C : Ctx} (ok : C.tb.Ok C.P) {ops : Array Oper} {mok : List Nat} {K : St → Hp → Prop} {Q : Exit → Act → World → Prop} (g : Bool)
    (hlt : ∀ d ∈ modsO ops.toList, d < n) (hg : g = false → noGuard ops.toList = true) (hg' : g = true → (modsO ops.toList).Nodup ∧ guardsBack ops.toList 0 = true) :
    ∀ (r pre : List Oper) (β : Nat → Nat) (s : St) (a : Act) (h : Hp) (w : World), ops.toList = pre ++ r → (allocsOf C.priv r).Nodup → seqW C ops.toList mok r s h K →
      RR n (fun _ => True) (fun k => k ∉ allocsOf C.priv r) (fun t => g = true ∧ t ∈ modsO pre) (fun k => k ∈ allocsOf C.priv r) β s a h w →
      (∀ s' h' β' a' w', K s' h' → RR n (fun _ => True) (fun _ => True) (fun t => g = true ∧ t ∈ modsO ops.toList) (fun _ => False) β' s' a' h' w' →
        Seg (modsO ops.toList) mok (live s fun k => k ∉ allocsOf C.priv r) β a h w (lives s') β' a' h' w' → Q .normal a' w') →
      wpOps C.P ops Q (List.range' pre.length r.length) a w
  | [], pre, β, s, a, h, w, hops, _, hv, hr, hn => by
    simp only [List.length_nil, List.range'_zero]
    rw [List.append_nil] at hops
    exact hn s h β a w hv (hr.congr (fun _ => .rfl) (fun k => by simp [allocsOf]) (fun t e => by rw [hops]; exact e) (fun k e => e.elim)) ((Seg.refl _ _).mono (fun _ e => e) (fun _ e => e) (fun _ e => e) (fun k e => ⟨e.1, by simp [allocsOf]⟩))
  | o :: r, pre, β, s, a, h, w, hops, hnd, hv, hr, hn => by
    simp only [List.length_cons, List.range'_succ, wpOps_cons]
    have hi : ops[pre.length]? = some o := by
      have : ops.toList[pre.length]? = some o := by rw [hops]; simp
      simpa using this
    have hmem : o ∈ ops.toList := by rw [hops]; simp
    have hA : ∀ k, (privA C.priv o k ∨ k ∉ allocsOf C.priv (o :: r)) ↔ k ∉ allocsOf C.priv r := by
      intro k
      by_cases hp : ∃ d, privA C.priv o d
      · obtain ⟨d, hp⟩ := hp
        rw [privA_allocs hp] at hnd ⊢
        have hnd := List.nodup_cons.1 hnd
        constructor
        · rintro (e | e)
          · have : k = d := by have h1 := e.2; rw [hp.2] at h1; cases h1; rfl
            rw [this]; exact hnd.1
          · exact fun e' => e (List.mem_cons_of_mem _ e')
        grind
      · have hp' : ∀ d, ¬ privA C.priv o d := fun d e => hp ⟨d, e⟩
        rw [notA_allocs hp']
        grind
    have hA' : ∀ k, k ∈ allocsOf C.priv r → ¬ privA C.priv o k ∧ k ∈ allocsOf C.priv (o :: r) := fun k hk =>
      ⟨fun e => (hA k).1 (.inl e) hk, Classical.byContradiction fun e => (hA k).1 (.inr e) hk⟩
    have hnd' : (allocsOf C.priv r).Nodup := by
      by_cases hp : ∃ d, privA C.priv o d
      · obtain ⟨d, hp⟩ := hp
        rw [privA_allocs hp] at hnd
        grind
      · rwa [notA_allocs fun d e => hp ⟨d, e⟩] at hnd
    refine op_exec (l := modsO ops.toList) ok hi hv hr (fun _ _ => trivial) (fun j b p d e1 e2 e3 => ⟨trivial, ?_⟩) (fun d e => ⟨hlt d (modsO_mem hmem e), fun e' => ?_, modsO_mem hmem e⟩) (fun d hp => ?_) _ Q fun s' h' β' a' w' hk out => ?_
    · cases g with
      | false => rw [noGuard_mem (hg rfl) hmem] at e1; cases e1
      | true =>
        refine ⟨rfl, ?_⟩
        have hj := guardsBack_get (j := pre.length) (hg' rfl).2 (by rw [hops]; simp) e1
        rw [nth_get, hops, List.getElem?_append_left (by omega)] at e2
        exact modsO_mem (List.mem_of_getElem? e2) e3
    · have hN := (hg' e'.1).1
      rw [hops, modsO_append] at hN
      have h1 : d ∈ modsO (o :: r) := modsO_mem (List.mem_cons_self ..) e
      grind
    · have : d ∈ allocsOf C.priv (o :: r) := by rw [privA_allocs hp]; simp
      grind
    · have hops' : ops.toList = (pre ++ [o]) ++ r := by rw [hops]; simp
      have := seq_sound ok g hlt hg hg' r (pre ++ [o]) β' s' a' h' w' hops' hnd' hk
        (out.rr.congr (fun t => by simp) (fun k => (hA k).symm) (fun t e => ⟨e.1, by rw [modsO_append]; grind⟩) hA')
        (fun s2 h2 β2 a2 w2 hk2 hr2 hs2 => hn s2 h2 β2 a2 w2 hk2 hr2 (out.seg.trans (hs2.mono (fun _ e => e) (fun _ e => e) (fun k e => ⟨e.1, (hA k).2 e.2⟩) (fun _ e => e))))
      simpa using this

end
end Lf

/-
  The lifting layer, part 18: what stands ahead of what.
-/
namespace Lf
open Go

theorem condT {b x : Bool} (h : cond b x false = true) : b = true ∧ x = true := by
  grind

theorem nodup_bound : ∀ (n : Nat) (l : List Nat), l.Nodup → (∀ x ∈ l, x < n) → l.length ≤ n
  | 0, l, _, h => by
    cases l with
    | nil => simp
    | cons a l => exact absurd (h a (List.mem_cons_self ..)) (Nat.not_lt_zero _)
  | n + 1, l, hn, h => by
    by_cases hm : n ∈ l
    · have h1 := nodup_bound n (l.erase n) (hn.erase n) (fun x hx => by
        have h2 := (hn.mem_erase_iff).1 hx
        have := h x h2.2
        have := h2.1
        omega)
      grind
    · have := nodup_bound n l hn (fun x hx => by
        grind)
      omega

theorem pigeon {n : Nat} {l : List Nat} (hn : l.Nodup) (h : ∀ x ∈ l, x < n) (hl : n ≤ l.length) {j : Nat} (hj : j < n) : j ∈ l := by
  refine Classical.byContradiction fun e => ?_
  have := nodup_bound n (j :: l) (List.nodup_cons.2 ⟨e, hn⟩) (fun x hx => by
    rcases List.mem_cons.1 hx with rfl | hx
    · exact hj
    · exact h x hx)
  grind

def Clos (L : List Oper) (X : Nat → Prop) : Prop := ∀ i o, L[i]? = some o → X i → ∀ j ∈ waits o, X j

def Ahead (L : List Oper) (i j : Nat) : Prop := ∀ X : Nat → Prop, Clos L X → (∀ o, L[i]? = some o → ∀ k ∈ waits o, X k) → X j

theorem allIn_mem {l m : List Nat} (h : allIn l m = true) : ∀ x ∈ l, x ∈ m := by
  induction l with
  | nil => simp
  | cons a l ih =>
    simp only [allIn] at h
    cases ha : has m a with
    | false => simp [ha] at h
    | true =>
      simp only [ha, cond_true] at h
      intro x hx
      rcases List.mem_cons.1 hx with rfl | hx
      · exact (has_iff _ _).1 ha
      · exact ih h x hx

theorem waits_mem {o : Oper} {e : Edge} (he : e ∈ o.after) (hb : Region.binds .any e = true) : e.on ∈ waits o := by
  have key : ∀ l : List Edge, e ∈ l → e.on ∈ waits.go l := by
    intro l
    induction l with
    | nil => intro h; cases h
    | cons x l ih =>
      intro h
      simp only [waits.go]
      rcases List.mem_cons.1 h with rfl | h
      · have : bindsAny e = true := by
          unfold Region.binds at hb
          unfold bindsAny
          cases hg : e.ground <;> simp [hg] at hb ⊢
        simp [this]
      grind
  exact key _ (by simpa using he)

theorem addN_mem {k : Nat} {l : List Nat} {j : Nat} (h : j ∈ addN k l) : j = k ∨ j ∈ l := by
  unfold addN at h
  grind

theorem mrgN_mem {j : Nat} : ∀ {a b : List Nat}, j ∈ mrgN a b → j ∈ a ∨ j ∈ b
  | [], _, h => .inr h
  | k :: r, b, h => by
    rcases mrgN_mem (a := r) (b := addN k b) h with h | h
    · grind
    · rcases addN_mem h with rfl | h
      · simp
      · exact .inr h

theorem union_mem {acc : List (List Nat)} : ∀ {l : List Nat} {j : Nat}, j ∈ aheads.union l acc → j ∈ l ∨ ∃ k ∈ l, ∃ x, nth acc k = some x ∧ j ∈ x
  | [], j, h => by simp [aheads.union] at h
  | k :: l, j, h => by
    simp only [aheads.union] at h
    rcases addN_mem h with rfl | h
    · simp
    · rcases mrgN_mem h with h | h
      · grind
      · rcases union_mem h with h | ⟨k', h1, h2⟩
        · exact .inl (List.mem_cons_of_mem _ h)
        grind

theorem aheads_ok {L : List Oper} : ∀ (r pre : List Oper) (acc : List (List Nat)), L = pre ++ r → acc.length = pre.length → (∀ i x, nth acc i = some x → ∀ j ∈ x, Ahead L i j) →
    ∀ i x, nth (aheads r acc) i = some x → ∀ j ∈ x, Ahead L i j
  | [], _, acc, _, _, h => h
  | o :: r, pre, acc, hL, hl, h => by
    refine aheads_ok r (pre ++ [o]) _ (by simp [hL]) (by simp [app_eq, hl]) fun i x hx j hj => ?_
    rw [nth_get, app_eq] at hx
    rcases Nat.lt_trichotomy i acc.length with hi | hi | hi
    · rw [List.getElem?_append_left hi, ← nth_get] at hx
      exact h i x hx j hj
    · subst hi
      simp at hx
      subst hx
      intro X hX hw
      have ho : L[acc.length]? = some o := by rw [hL, hl]; simp
      rcases union_mem hj with hj | ⟨k, hk, y, hy, hjy⟩
      · exact hw o ho j hj
      · exact h k y hy j hjy X hX fun o' ho' k' hk' => hX k o' ho' (hw o ho k hk) k' hk'
    grind

theorem rows_ahead {L : List Oper} {i j : Nat} (h : j ∈ aheadOf (aheads L []) i) : Ahead L i j := by
  unfold aheadOf at h
  split at h
  · rename_i x hx
    exact aheads_ok L [] [] rfl rfl (fun i x hx => by simp [nth] at hx) i x hx j h
  · cases h

theorem sndL_eq : ∀ l : List (Nat × Operand), sndL l = l.map (·.2)
  | [] => rfl
  | (_, x) :: l => by simp [sndL, sndL_eq l]

theorem optL_eq : ∀ l : Option Operand, optL l = l.toArray.toList
  | none => rfl
  | some x => rfl

theorem opndsL_mem {op : Op} {l : List Operand} (h : opndsL op = some l) : ∀ x ∈ op.operands, x ∈ l := by
  cases op with
  | call c =>
    obtain ⟨callee, args, ats⟩ := c
    cases callee with
    | value f => cases h; intro x hx; simpa [Op.operands, Call.operands] using hx
    | builtin b => cases h; intro x hx; simpa [Op.operands, Call.operands] using hx
    | invoke r m => cases h
  | build t ps => cases h; intro x hx; simpa [Op.operands, sndL_eq] using hx
  | buildSlice t n ps => cases h; intro x hx; simpa [Op.operands, sndL_eq] using hx
  | makeFunc fn a b => cases h; intro x hx; simpa [Op.operands, app_eq] using hx
  | makeMap t r => cases h; intro x hx; simpa [Op.operands, optL_eq] using hx
  | slice t x lo hi mx => cases h; intro x hx; simpa [Op.operands, app_eq, optL_eq, or_assoc] using hx
  | alloc t => cases h; intro x hx; simp [Op.operands] at hx
  | _ => first | (cases h; done) | (cases h; intro x hx; simpa [Op.operands] using hx)

theorem slotOk_get {rows : List (List Nat)} {i t : Nat} : ∀ {l : List Oper} {j0 : Nat}, slotOk rows i t l j0 = true → ∀ j p, l[j]? = some p → p.dst = some t →
    j0 + j ∈ aheadOf rows i ∨ i = j0 + j ∨ i ∈ aheadOf rows (j0 + j)
  | [], _, _, j, p, e, _ => by simp at e
  | q :: l, j0, h, j, p, e, hd => by
    simp only [slotOk] at h
    cases h1 : (cond (dstIs q t) (cond (has (aheadOf rows i) j0) true (cond (Nat.beq i j0) true (has (aheadOf rows j0) i))) true) with
    | false => grind
    | true =>
      rw [h1] at h
      cases j with
      | zero =>
        simp at e
        subst e
        have : dstIs q t = true := by simp [dstIs, hd]
        rw [this] at h1
        simp only [cond_true] at h1
        cases h2 : has (aheadOf rows i) j0 with
        | true => exact .inl ((has_iff _ _).1 h2)
        | false =>
          rw [h2] at h1
          simp only [cond_false] at h1
          cases h3 : Nat.beq i j0 with
          | true => exact .inr (.inl (Nat.eq_of_beq_eq_true h3))
          | false =>
            rw [h3] at h1
            exact .inr (.inr ((has_iff _ _).1 h1))
      | succ j =>
        have := slotOk_get (l := l) (j0 := j0 + 1) h j p (by simpa using e) hd
        grind

theorem looksGo_mem {L : List Oper} {rows : List (List Nat)} {i t : Nat} : ∀ {l : List Operand}, looksOk.go L rows i l = true → Operand.tmp t ∈ l → slotOk rows i t L 0 = true
  | [], _, hm => by cases hm
  | x :: l, h, hm => by
    cases x with
    | tmp u =>
      simp only [looksOk.go] at h
      cases h1 : slotOk rows i u L 0 with
      | false => simp [h1] at h
      | true =>
        simp only [h1, cond_true] at h
        rcases List.mem_cons.1 hm with e | hm
        · cases e; exact h1
        · exact looksGo_mem h hm
    | _ =>
      simp only [looksOk.go] at h
      rcases List.mem_cons.1 hm with e | hm
      · cases e
      · exact looksGo_mem h hm

theorem looks_slot {L : List Oper} {rows : List (List Nat)} {i t : Nat} {o : Oper} (h : looksOk L rows i o = true) (hm : Operand.tmp t ∈ o.op.operands) {j : Nat} {p : Oper} (hj : L[j]? = some p) (hd : p.dst = some t) :
    j ∈ aheadOf rows i ∨ i = j ∨ i ∈ aheadOf rows j := by
  unfold looksOk at h
  split at h
  · rename_i l hl
    cases h1 : looksOk.go L rows i l with
    | false => simp [h1] at h
    | true =>
      have := slotOk_get (looksGo_mem h1 (opndsL_mem hl _ hm)) j p hj hd
      simpa using this
  · cases h

theorem looks_guard {L : List Oper} {rows : List (List Nat)} {i j : Nat} {b : Bool} {o : Oper} (h : looksOk L rows i o = true) (hg : o.guard = some (j, b)) : j ∈ aheadOf rows i := by
  unfold looksOk at h
  split at h
  · rename_i l hl
    cases h1 : looksOk.go L rows i l with
    | false => simp [h1] at h
    | true =>
      simp only [h1, cond_true, hg] at h
      exact (has_iff _ _).1 h
  · cases h

theorem looksAt_mem {o : Oper} {t : Nat} (hm : Operand.tmp t ∈ o.op.operands) : looksAt o t = true := by
  unfold looksAt
  split
  · rename_i l hl
    have hm' := opndsL_mem hl _ hm
    clear hl hm
    induction l with
    | nil => cases hm'
    | cons x l ih =>
      rcases List.mem_cons.1 hm' with e | hm'
      · subst e; simp [looksAt.go]
      · have := ih hm'
        cases x <;> simp only [looksAt.go]
        · rw [this]; simp
        all_goals exact this
  · rfl

theorem war_get {rows : List (List Nat)} {j d : Nat} {o : Oper} (hd : o.dst = some d) : ∀ {l : List Oper} {i0 : Nat}, isWar rows j o l i0 = false → ∀ i p, l[i]? = some p → Operand.tmp d ∈ p.op.operands → j ∈ aheadOf rows (i0 + i)
  | [], _, _, i, p, e, _ => by simp at e
  | q :: l, i0, h, i, p, e, hm => by
    simp only [isWar, hd] at h
    cases h1 : (cond (looksAt q d) (cond (has (aheadOf rows i0) j) false true) false) with
    | true => grind
    | false =>
      rw [h1] at h
      cases i with
      | zero =>
        simp at e
        subst e
        rw [looksAt_mem hm] at h1
        simp only [cond_true] at h1
        cases h2 : has (aheadOf rows i0) j with
        | true => exact (has_iff _ _).1 h2
        | false => grind
      | succ i =>
        have := war_get hd (l := l) (i0 := i0 + 1) h i p (by simpa using e) hm
        grind

/-- What a plan's first step tells. -/
theorem planGo_cons {tb : Tb} {priv : List Nat} {ops : List Oper} {rows : List (List Nat)} {i : Nat} {ws : List Nat} {r : List (Nat × List Nat)} {done : List Nat} {last : Option Nat}
    (h : planGo tb priv ops rows ((i, ws) :: r) done last = true) : ∃ o, ops[i]? = some o ∧ (∀ k ∈ waits o, k ∈ done) ∧ looksOk ops rows i o = true ∧ i ∉ done ∧ (∀ e, last = some e → e ∈ aheadOf rows i) ∧
      (((isVal tb o = true ∨ isPrivAlloc priv o = true) ∧ isWar rows i o ops 0 = false ∧ planGo tb priv ops rows r (i :: done) last = true) ∨
       ((isVal tb o = true ∨ isPrivAlloc priv o = true) ∧ isWar rows i o ops 0 = true ∧ planGo tb priv ops rows r (i :: done) (some i) = true) ∨
       (isVal tb o = false ∧ isPrivAlloc priv o = false ∧ planGo.watched tb ops rows ws i done = true ∧ planGo tb priv ops rows r (i :: done) (some i) = true)) := by
  simp only [planGo] at h
  split at h
  · rename_i o ho
    rw [nth_get] at ho
    obtain ⟨h12, h⟩ := condT h
    obtain ⟨h1, h2⟩ := condT h12
    cases h3 : has done i with
    | true => simp [h3] at h
    | false =>
      simp only [h3, cond_false] at h
      obtain ⟨h4, h⟩ := condT h
      refine ⟨o, ho, allIn_mem h1, h2, has_false h3, fun e he => ?_, ?_⟩
      · subst he
        exact (has_iff _ _).1 h4
      grind
  · cases h

theorem watched_get {tb : Tb} {ops : List Oper} {rows : List (List Nat)} {ws : List Nat} {e : Nat} : ∀ {l : List Nat}, planGo.watched tb ops rows ws e l = true → ∀ i ∈ l, ∀ o, ops[i]? = some o → isVal tb o = true → isRead tb o = true →
    i ∈ ws ∨ i ∈ aheadOf rows e
  | [], _, i, hi, _, _, _, _ => by cases hi
  | r :: l, h, i, hi, o, ho, hv, hrd => by
    simp only [planGo.watched] at h
    obtain ⟨h2, h⟩ := condT h
    rcases List.mem_cons.1 hi with rfl | hi
    · rw [nth_get, ho] at h2
      simp only [hv, hrd, cond_true] at h2
      cases h3 : has ws i with
      | true => exact .inl ((has_iff _ _).1 h3)
      | false =>
        rw [h3] at h2
        exact .inr ((has_iff _ _).1 h2)
    · exact watched_get h i hi o ho hv hrd

/-- Whatever comes behind a change in the plan waits for it. -/
theorem plan_later {tb : Tb} {priv : List Nat} {L : List Oper} : ∀ {r : List (Nat × List Nat)} {done : List Nat} {e : Nat}, planGo tb priv L (aheads L []) r done (some e) = true →
    ∀ j ∈ r.map (·.1), Ahead L j e
  | [], _, _, _, j, hj => by cases hj
  | (i, ws) :: r, done, e, h, j, hj => by
    obtain ⟨o, ho, _, _, _, hlast, hc⟩ := planGo_cons h
    have hie := rows_ahead (hlast e rfl)
    rcases List.mem_cons.1 hj with rfl | hj
    · exact hie
    · have step : ∀ e', (e' = e ∨ e' = i) → planGo tb priv L (aheads L []) r (i :: done) (some e') = true → Ahead L j e := by
        intro e' he' h'
        have h1 := plan_later h' j hj
        rcases he' with rfl | rfl
        · exact h1
        · intro X hX hw
          have hXi : X e' := h1 X hX hw
          exact hie X hX fun o' ho' k hk => hX e' o' ho' hXi k hk
      grind

end Lf

/-
  The lifting layer, part 19: what is told of operations that are still to be carried out.
-/
namespace Lf
open Go

/-- The shape of what is loaded from memory that others know. -/
def LdSh (tb : Tb) (o : Oper) (ch : Chain) (s : St) (l : LV) : Prop :=
  kindD tb o ch s = .mem → ∀ t x, o.op = .load t x → ∃ (e : Ty) (y : e.sh.T), tb.ty t = some e ∧ l = .v (e.sh.enc y)

theorem valW_more {P : Program} {tb : Tb} (ok : tb.Ok P) {o : Oper} {ch : Chain} {s : St} {h : Hp} {K : LV → Prop} (hv : valW P tb o ch s h K) :
    ∃ l, K l ∧ (holds s ch → RunsK (kindD tb o ch s) P o s h l) ∧ Prov o ch s l ∧ LdSh tb o ch s l := by
  by_cases hl : ∃ t x a, o.op = .load t x ∧ ev s ch x = some (.v (.pointer (some a)))
  · obtain ⟨t, x, a, hop, hx⟩ := hl
    unfold valW at hv
    simp only [hop, hx] at hv
    split at hv
    · rename_i e hte
      obtain ⟨y, hr, hk⟩ := hv
      refine ⟨.v (e.sh.enc y), hk, fun hh => ?_, prov_v _ _ _ _, fun _ t' x' e' => ?_⟩
      · intro β ρ w ho hs hb
        have hkd : kindD tb o ch s = .mem := by simp [kindD, hop, hx]
        have hx' := ev_ok (ho x (by simp [hop, Op.operands])) hh hx
        have hr' := run_loadVar ok hte (fun j v hj => hcell_sub (hs hkd) (req_cnd hr hh j v hj))
        refine ⟨w, ?_, fun _ => rfl, fun e => .refl (hs e)⟩
        simp only [execOp, hop, hx', LVal, Instr.loadAt, Instr.sureAddr, Sem.run_bind, Sem.run_pure, Result.andThen_ok, hr']
      grind
    · exact hv.elim
  · obtain ⟨l, hk, hr, hp⟩ := valW_sound ok hv
    refine ⟨l, hk, hr, hp, fun hkd t x hop => ?_⟩
    refine absurd ?_ hl
    unfold valW at hv
    simp only [hop] at hv
    simp only [kindD, hop] at hkd
    grind

/-- An operation that is told of, but still to be carried out. -/
def PFact (C : Ctx) (L : List Oper) (o : Oper) (s : St) (h : Hp) : Prop :=
  ∃ ch, chainOf L L.length o = some ch ∧ guardOk s ch = true ∧
    ((isVal C.tb o = true ∧ (isRead C.tb o = true ∨ kindD C.tb o ch s = .pure) ∧ ∃ l, (∀ d, o.dst = some d → s.f d = some (l, ch)) ∧ (holds s ch → RunsK (kindD C.tb o ch s) C.P o s h l) ∧ Prov o ch s l ∧ LdSh C.tb o ch s l) ∨
     (ch = [] ∧ isVal C.tb o = false ∧ ∃ d cs, privA C.priv o d ∧ s.f d = some (.box d 0, []) ∧ s.m d = some cs ∧
        ∀ (β : Nat → Nat) (ρ : Operand → Value) (w : World), (∀ x ∈ o.op.operands, Opnd β s ρ x) →
          ∃ t, (execOp ρ o).run C.P w = .ok (.value (.pointer (some ⟨w.heap.size, 0, none⟩))) { w with heap := w.heap.push (.cells cs.toArray t (0, 0)) }))

section
variable {C : Ctx} {L : List Oper} {o : Oper} {s s' : St} {h h' : Hp} {D : Nat → Prop}

/-- The two states agree where the operation looks. -/
structure Like (D : Nat → Prop) (o : Oper) (s s' : St) : Prop where
  dn : ∀ t, D t → s'.f t = s.f t
  op : ∀ t, Operand.tmp t ∈ o.op.operands → s'.f t = s.f t
  ch : ∀ t l c, s.f t = some (l, c) → ∀ p ∈ c, D p.1

theorem Like.holds' (k : Like D o s s') {c : Chain} (hc : ∀ p ∈ c, D p.1) : holds s' c ↔ holds s c := holds_congr fun p hp => k.dn _ (hc p hp)

theorem Like.opnd (k : Like D o s s') {β : Nat → Nat} {ρ : Operand → Value} {x : Operand} (hx : x ∈ o.op.operands) (ho : Opnd β s' ρ x) : Opnd β s ρ x := by
  cases x with
  | tmp t => exact fun l c e hc => ho l c (by rw [k.op t hx]; exact e) ((k.holds' (k.ch t l c e)).2 hc)
  | const v => exact ho
  | global g => exact ho
  | func f => exact ho

theorem Like.ev' (k : Like D o s s') {ch : Chain} {x : Operand} (hx : x ∈ o.op.operands) : ev s' ch x = ev s ch x := by
  cases x with
  | tmp t => simp only [ev, k.op t hx]
  | const v => rfl
  | global g => rfl
  | func f => rfl

theorem vals_congr {s s' : St} {ch : Chain} : ∀ {l : List Operand}, (∀ x ∈ l, ev s' ch x = ev s ch x) → vals s' ch l = vals s ch l
  | [], _ => rfl
  | x :: l, h => by
    simp only [vals]
    rw [h x (List.mem_cons_self ..), vals_congr fun y hy => h y (List.mem_cons_of_mem _ hy)]

theorem Like.kind (k : Like D o s s') {tb : Tb} {ch : Chain} : kindD tb o ch s' = kindD tb o ch s := by
  unfold kindD
  cases hop : o.op with
  | load t x => simp only [k.ev' (ch := ch) (x := x) (by simp [hop, Op.operands])]
  | binOp op t x y u => simp only [k.ev' (ch := ch) (x := x) (by simp [hop, Op.operands]), k.ev' (ch := ch) (x := y) (by simp [hop, Op.operands])]
  | convert a b x => simp only [k.ev' (ch := ch) (x := x) (by simp [hop, Op.operands])]
  | call c =>
    obtain ⟨callee, xs, ts⟩ := c
    cases callee with
    | builtin b =>
      cases b with
      | len =>
        have : vals s' ch xs.toList = vals s ch xs.toList := vals_congr fun x hx => k.ev' (by simp [hop, Op.operands, Call.operands]; simpa using hx)
        simp only [this]
      | _ => rfl
    | _ => rfl
  | _ => rfl

theorem Like.prov (k : Like D o s s') {ch : Chain} {l : LV} (hp : Prov o ch s l) : Prov o ch s' l := fun b off e => by
  obtain ⟨x, hx, off', h⟩ := hp b off e
  exact ⟨x, hx, off', by rw [k.ev' hx]; exact h⟩

theorem guardOk_like (k : Like D o s s') : ∀ {ch : Chain}, (∀ p ∈ ch, D p.1) → guardOk s' ch = guardOk s ch
  | [], _ => rfl
  | (d, b) :: c, hc => by
    simp only [guardOk, k.dn d (hc (d, b) (List.mem_cons_self ..)), guardOk_like k fun p hp => hc p (List.mem_cons_of_mem _ hp)]

theorem boxU_like (k : Like D o s s') {β : Nat → Nat} {w : World} (hm : ∀ t, Operand.tmp t ∈ o.op.operands → ∀ b off c, (s.f t = some (.box b off, c) ∨ s.f t = some (.boxd b off, c)) → holds s c → s'.m b = s.m b)
    (hb : BoxU β s' o w) : BoxU β s o w := by
  intro t ht b off c hf hc cs hcs
  refine hb t ht b off c (by rw [k.op t ht]; exact hf) ?_ cs (by grind)
  rcases hf with hf | hf
  · exact (k.holds' (k.ch t _ c hf)).2 hc
  · exact (k.holds' (k.ch t _ c hf)).2 hc

/-- Nothing that matters has changed. -/
theorem runsK_like (k : Like D o s s') {kd : Kd} {P : Program} {l : LV} (hm : kd ≠ .pure → ∀ t, Operand.tmp t ∈ o.op.operands → ∀ b off c, (s.f t = some (.box b off, c) ∨ s.f t = some (.boxd b off, c)) → holds s c → s'.m b = s.m b)
    (hh : kd = .mem → h' = h) (hr : RunsK kd P o s h l) : RunsK kd P o s' h' l := by
  intro β ρ w ho hs hb
  obtain ⟨w', h1, h2, h3⟩ := hr β ρ w (fun x hx => k.opnd hx (ho x hx)) (fun e => by rw [← hh e]; exact hs e) (fun e => boxU_like k (hm e) (hb e))
  grind

theorem alloc_like (k : Like D o s s') {P : Program} {cs : List Value}
    (hr : ∀ (β : Nat → Nat) (ρ : Operand → Value) (w : World), (∀ x ∈ o.op.operands, Opnd β s ρ x) →
          ∃ t, (execOp ρ o).run P w = .ok (.value (.pointer (some ⟨w.heap.size, 0, none⟩))) { w with heap := w.heap.push (.cells cs.toArray t (0, 0)) }) :
    ∀ (β : Nat → Nat) (ρ : Operand → Value) (w : World), (∀ x ∈ o.op.operands, Opnd β s' ρ x) →
          ∃ t, (execOp ρ o).run P w = .ok (.value (.pointer (some ⟨w.heap.size, 0, none⟩))) { w with heap := w.heap.push (.cells cs.toArray t (0, 0)) } :=
  fun β ρ w ho => hr β ρ w fun x hx => k.opnd hx (ho x hx)

theorem ev_same {s : St} {ch : Chain} {t : Nat} {l l' : LV} {c : Chain} (h : ev s ch (.tmp t) = some l) (hf : s.f t = some (l', c)) : l = l' := by
  simp only [ev, hf] at h
  grind

theorem again_sound {tb : Tb} (hC : C.tb = tb) (ok : tb.Ok C.P) {mch : Nat → Bool} {ch : Chain} {l : LV} {d : Nat} (ha : Again C mch o ch s' h') (hd : o.dst = some d) (hf : ∃ c, s'.f d = some (l, c)) (hh : holds s' ch)
    (hs : LdSh tb o ch s' l) : kindD tb o ch s' = .pure ∨ (kindD tb o ch s' = .box ∧ ∀ t b off c, Operand.tmp t ∈ o.op.operands → (s'.f t = some (.box b off, c) ∨ s'.f t = some (.boxd b off, c)) → mch b = false) ∨ (kindD tb o ch s' = .mem ∧ RunsK .mem C.P o s' h' l) := by
  subst hC
  obtain ⟨c, hf⟩ := hf
  unfold Again at ha
  split at ha
  · rename_i t x d' hop hd'
    rw [hd] at hd'; cases hd'
    rw [hf] at ha
    split at ha
    · rename_i v c' e
      cases e
      split at ha
      · rename_i a hx
        right; right
        have hkd : kindD C.tb o ch s' = .mem := by simp [kindD, hop, hx]
        obtain ⟨e, y, hte, hl⟩ := hs hkd t x hop
        cases hl
        refine ⟨hkd, fun β ρ w ho hs hb => ?_⟩
        have hx' := ev_ok (ho x (by simp [hop, Op.operands])) hh hx
        have hr := run_loadVar ok hte (fun j v hj => hcell_sub (hs rfl) (req_cnd ha hh j v hj))
        refine ⟨w, ?_, fun e => absurd rfl e, fun _ => .refl (hs rfl)⟩
        simp only [execOp, hop, hx', LVal, Instr.loadAt, Instr.sureAddr, Sem.run_bind, Sem.run_pure, Result.andThen_ok, hr]
      · rename_i k off hx
        cases hm : mch k with
        | true => rw [hm] at ha; exact ha.elim
        | false =>
          refine .inr (.inl ⟨by simp [kindD, hop, hx], fun t1 b off1 c1 ht hf1 => ?_⟩)
          have hx1 : x = .tmp t1 := by simpa [hop, Op.operands, eq_comm] using ht
          rw [hx1] at hx
          rcases hf1 with hf1 | hf1
          · have := ev_same hx hf1
            cases this
            exact hm
          · have := ev_same hx hf1
            cases this
      · rename_i k off hx
        cases hm : mch k with
        | true => rw [hm] at ha; exact ha.elim
        | false =>
          refine .inr (.inl ⟨by simp [kindD, hop, hx], fun t1 b off1 c1 ht hf1 => ?_⟩)
          have hx1 : x = .tmp t1 := by simpa [hop, Op.operands, eq_comm] using ht
          rw [hx1] at hx
          rcases hf1 with hf1 | hf1
          · have := ev_same hx hf1
            cases this
          · have := ev_same hx hf1
            cases this
            exact hm
      · exact ha.elim
    · exact ha.elim
  · rename_i t x i cok d' hop hd'
    rw [hd] at hd'; cases hd'
    rw [hf] at ha
    split at ha
    · rename_i v c' e
      cases e
      obtain ⟨a, hea, ha1⟩ := onV_some ha
      obtain ⟨b, heb, ha2⟩ := onV_some ha1
      have hl := req_cnd ha2 hh
      right; right
      have main : ∀ w, Sub h' w → ∃ w', (Instr.lookup t a b cok).run C.P w = .ok v w' ∧ Step h' h' w w' := by
        intro w hsub
        unfold AgainLook at hl
        split at hl
        · rename_i m e he
          split at hl
          · rename_i k u hu
            split at hl
            · rename_i ke ue hk hue
              cases hkd : isKeyD ke.und with
              | true =>
                simp only [hkd, cond_true] at hl
                cases cok with
                | true =>
                  simp only [cond_true] at hl
                  split at hl
                  · rename_i x1 y1
                    exact ⟨w, by rw [run_lookup ok he hu hk hue hkd hsub hl]; rfl, .refl hsub⟩
                  · exact hl.elim
                | false =>
                  simp only [cond_false] at hl
                  obtain ⟨y1, hl⟩ := hl
                  exact ⟨w, by rw [run_lookup ok he hu hk hue hkd hsub hl]; rfl, .refl hsub⟩
              | false =>
                simp only [hkd, cond_false] at hl
                exact semIs_run hl hsub
            · exact hl.elim
          · exact hl.elim
        · exact hl.elim
      refine ⟨by simp [kindD, hop], fun β ρ w ho hs hb => ?_⟩
      have hx := ev_ok (ho x (by simp [hop, Op.operands])) hh hea
      have hi := ev_ok (ho i (by simp [hop, Op.operands])) hh heb
      obtain ⟨w', hr, hst⟩ := main w (hs rfl)
      refine ⟨w', ?_, fun e => absurd rfl e, fun _ => hst⟩
      simp only [execOp, hop, hx, hi, LVal, Sem.run_bind, hr, Result.andThen_ok, Sem.run_pure]
    · exact ha.elim
  · rename_i xs ts d' hop hd'
    rw [hd] at hd'; cases hd'
    rw [hf] at ha
    split at ha
    · rename_i v c' e
      cases e
      split at ha
      · rename_i x hvs
        have hkd : kindD C.tb o ch s' = .pure ∨ kindD C.tb o ch s' = .mem := by
          unfold kindD
          grind
        rcases hkd with hkd | hkd
        · exact .inl hkd
        right; right
        refine ⟨hkd, fun β ρ w ho hs hb => ?_⟩
        have hargs : xs.map ρ = #[x] := by
          have := vals_ok (β := β) (ρ := ρ) hh hvs fun x hx => ho x (by simp [hop, Op.operands, Call.operands]; simpa using hx)
          grind
        obtain ⟨w', hr, hst⟩ := semIs_run (req_cnd ha hh) (hs rfl)
        refine ⟨w', ?_, fun e => absurd rfl e, fun _ => hst⟩
        simp only [execOp, hop, resolve, invoke, builtin, Sem.run_bind, Sem.run_pure, Result.andThen_ok, hargs, hr, LVal]
      · exact ha.elim
    · exact ha.elim
  · exact ha.elim

end
end Lf

/-
  The lifting layer, part 20: a region whose order is drawn, told in one order.
-/
namespace Lf
open Go

theorem binds_any (e : Edge) : bindsAny e = Region.binds .any e := by
  unfold Region.binds bindsAny
  grind

theorem mem_waits {o : Oper} {k : Nat} (h : k ∈ waits o) : ∃ e ∈ o.after, e.on = k ∧ Region.binds .any e = true := by
  have key : ∀ l : List Edge, k ∈ waits.go l → ∃ e ∈ l, e.on = k ∧ Region.binds .any e = true := by
    intro l
    induction l with
    | nil => intro h; cases h
    | cons x l ih =>
      intro h
      simp only [waits.go] at h
      cases hx : bindsAny x with
      | false =>
        simp only [hx, cond_false] at h
        obtain ⟨e, h1, h2⟩ := ih h
        exact ⟨e, List.mem_cons_of_mem _ h1, h2⟩
      | true =>
        simp only [hx, cond_true] at h
        rcases List.mem_cons.1 h with e | h
        · exact ⟨x, List.mem_cons_self .., e.symm, by rw [← binds_any, hx]⟩
        · obtain ⟨e, h1, h2⟩ := ih h
          exact ⟨e, List.mem_cons_of_mem _ h1, h2⟩
  obtain ⟨e, h1, h2⟩ := key _ h
  grind

theorem dst_inj {t : Nat} : ∀ {L : List Oper} {i j : Nat} {o p : Oper}, (modsO L).Nodup → L[i]? = some o → L[j]? = some p → o.dst = some t → p.dst = some t → i = j
  | [], _, _, _, _, _, e, _, _, _ => by simp at e
  | x :: L, 0, 0, _, _, _, _, _, _, _ => rfl
  | x :: L, 0, j + 1, o, p, hn, e, e', h, h' => by
    simp at e e'
    subst e
    simp only [modsO, h] at hn
    exact absurd (modsO_mem (List.mem_of_getElem? e') h') (List.nodup_cons.1 hn).1
  | x :: L, i + 1, 0, o, p, hn, e, e', h, h' => by
    simp at e e'
    subst e'
    simp only [modsO, h'] at hn
    exact absurd (modsO_mem (List.mem_of_getElem? e) h) (List.nodup_cons.1 hn).1
  | x :: L, i + 1, j + 1, o, p, hn, e, e', h, h' => by
    have hn' : (modsO L).Nodup := by
      simp only [modsO] at hn
      grind
    have e1 : L[i]? = some o := by simpa using e
    have e2 : L[j]? = some p := by simpa using e'
    have := dst_inj hn' e1 e2 h h'
    omega

def Topo (L : List Oper) : List Nat → Prop
  | [] => True
  | i :: d => (∀ o, L[i]? = some o → ∀ k ∈ waits o, k ∈ d) ∧ Topo L d

theorem topo_first {L : List Oper} {ls : List Nat} : ∀ {d : List Nat}, Topo L d → (∃ i ∈ d, i ∉ ls) → ∃ i ∈ d, i ∉ ls ∧ ∀ o, L[i]? = some o → ∀ k ∈ waits o, k ∈ ls
  | [], _, ⟨i, hi, _⟩ => by cases hi
  | i :: d, ht, hx => by
    by_cases hd : ∃ j ∈ d, j ∉ ls
    · obtain ⟨j, h1, h2⟩ := topo_first ht.2 hd
      grind
    · have hall : ∀ j ∈ d, j ∈ ls := fun j hj => Classical.byContradiction fun e => hd ⟨j, hj, e⟩
      obtain ⟨j, hj, hn⟩ := hx
      rcases List.mem_cons.1 hj with rfl | hj
      · exact ⟨j, List.mem_cons_self .., hn, fun o ho k hk => hall k (ht.1 o ho k hk)⟩
      grind

def CurP (L : List Oper) (done ls : List Nat) (t : Nat) : Prop := ∀ i o, i ∈ done → i ∉ ls → L[i]? = some o → o.dst ≠ some t
def DnP (L : List Oper) (done : List Nat) (t : Nat) : Prop := ∃ i o, i ∈ done ∧ L[i]? = some o ∧ o.dst = some t
def NnP (C : Ctx) (L : List Oper) (done : List Nat) (k : Nat) : Prop := ∃ i o, i ∉ done ∧ L[i]? = some o ∧ privA C.priv o k
def LivP (C : Ctx) (L : List Oper) (done ls : List Nat) (k : Nat) : Prop := (∀ i o, i ∈ done → i ∉ ls → L[i]? = some o → ¬ privA C.priv o k) ∧ ¬ NnP C L done k

/-- The state that is told ('done': the operations told of) and memory ('ls': those carried out). -/
structure Sim (C : Ctx) (L : List Oper) (mok : List Nat) (n : Nat) (lv0 : Nat → Prop) (β0 : Nat → Nat) (a0 : Act) (h0 : Hp) (w0 : World) (done ls : List Nat) (listed : Array Bool) (β : Nat → Nat) (s : St) (a : Act) (h : Hp) (w : World) : Prop where
  lsz : listed.size = L.length
  lst : ∀ i, listed.getD i false = true ↔ i ∈ ls
  lnd : ls.Nodup
  lsub : ∀ i ∈ ls, i ∈ done
  dlt : ∀ i ∈ done, i < L.length
  clos : Clos L (· ∈ ls)
  dclos : Clos L (· ∈ done)
  topo : Topo L done
  rr : RR n (CurP L done ls) (LivP C L done ls) (DnP L done) (NnP C L done) β s a h w
  facts : ∀ i o, i ∈ done → i ∉ ls → L[i]? = some o → PFact C L o s h ∧ looksOk L (aheads L []) i o = true ∧ isWar (aheads L []) i o L 0 = false ∧ ∀ d, privA C.priv o d → d ∈ mok
  seg : Seg (modsO L) mok lv0 β0 a0 h0 w0 (live s (LivP C L done ls)) β a h w

section
variable {C : Ctx} {L : List Oper} {mok : List Nat} {n : Nat} {lv0 : Nat → Prop} {β0 : Nat → Nat} {a0 : Act} {h0 : Hp} {w0 : World} {done ls : List Nat} {listed : Array Bool} {β : Nat → Nat} {s : St} {a : Act} {h : Hp} {w : World}

theorem get_same {i : Nat} {o p : Oper} (h : L[i]? = some o) (h' : L[i]? = some p) : p = o := by grind

theorem curP_exec (hnd : (modsO L).Nodup) {i : Nat} {o : Oper} (hi : L[i]? = some o) (hd : i ∈ done) (t : Nat) : CurP L done (i :: ls) t ↔ (o.dst = some t ∨ CurP L done ls t) := by
  constructor
  · intro hc
    by_cases ht : o.dst = some t
    · exact .inl ht
    · refine .inr fun j p h1 h2 h3 => ?_
      by_cases hj : j = i
      · grind
      · exact hc j p h1 (fun e => by grind) h3
  · rintro (ht | hc) j p h1 h2 h3
    · intro e
      exact h2 (by rw [dst_inj hnd h3 hi e ht]; simp)
    · exact hc j p h1 (fun e => h2 (List.mem_cons_of_mem _ e)) h3

theorem livP_exec (hnd : (modsO L).Nodup) {i : Nat} {o : Oper} (hi : L[i]? = some o) (hd : i ∈ done) (k : Nat) : LivP C L done (i :: ls) k ↔ (privA C.priv o k ∨ LivP C L done ls k) := by
  constructor
  · rintro ⟨h1, h2⟩
    by_cases hp : privA C.priv o k
    · exact .inl hp
    · refine .inr ⟨fun j p e1 e2 e3 => ?_, h2⟩
      grind
  · rintro (hp | ⟨h1, h2⟩)
    · refine ⟨fun j p e1 e2 e3 e4 => e2 (by rw [dst_inj hnd e3 hi e4.2 hp.2]; simp), ?_⟩
      rintro ⟨j, p, e1, e2, e3⟩
      exact e1 (by rw [dst_inj hnd e2 hi e3.2 hp.2]; exact hd)
    · exact ⟨fun j p e1 e2 e3 => h1 j p e1 (fun e => e2 (List.mem_cons_of_mem _ e)) e3, h2⟩

theorem set_listed {i j : Nat} (hsz : listed.size = L.length) (hi : i < L.length) (hl : ∀ i, listed.getD i false = true ↔ i ∈ ls) : (listed.setIfInBounds i true).getD j false = true ↔ j ∈ i :: ls := by
  by_cases hj : j = i
  · subst hj
    simp [hsz, hi]
  · have := hl j
    simp [Array.getElem?_setIfInBounds_ne (Ne.symm hj), hj] at this ⊢
    exact this

theorem chainsD (hs : Sim C L mok n lv0 β0 a0 h0 w0 done ls listed β s a h w) {i : Nat} {o : Oper} (hi : L[i]? = some o) (hw : ∀ k ∈ waits o, k ∈ done) (hlk : looksOk L (aheads L []) i o = true) {ch : Chain}
    (hch : chainOf L L.length o = some ch) (hg : guardOk s ch = true) : ∀ p ∈ ch, DnP L done p.1 :=
  chain_D hs.rr hch hg fun j b p d e1 e2 e3 => ⟨j, p, rows_ahead (looks_guard hlk e1) (· ∈ done) hs.dclos (fun o' ho' => by grind), by rw [← nth_get]; exact e2, e3⟩

/-- A pending operation is carried out. -/
theorem pend_exec (ok : C.tb.Ok C.P) {ops : Array Oper} (hops : ops.toList = L) (hnd : (modsO L).Nodup)
    (hs : Sim C L mok n lv0 β0 a0 h0 w0 done ls listed β s a h w) {i : Nat} {o : Oper} (hi : L[i]? = some o) (hd : i ∈ done) (hn : i ∉ ls) (hw : ∀ k ∈ waits o, k ∈ ls)
    (next : Act → World → Prop) (Q : Exit → Act → World → Prop)
    (hk : ∀ β' a' w', Sim C L mok n lv0 β0 a0 h0 w0 done (i :: ls) (listed.setIfInBounds i true) β' s a' h w' → next a' w') : wpOp C.P ops Q i next a w := by
  obtain ⟨⟨ch, hch, hg, hpf⟩, hlk, hwar, hmm⟩ := hs.facts i o hd hn hi
  have hah : ∀ j ∈ aheadOf (aheads L []) i, j ∈ ls := fun j hj => rows_ahead hj (· ∈ ls) hs.clos (fun o' ho' => by grind)
  have hcur : ∀ t, Operand.tmp t ∈ o.op.operands → CurP L done ls t := fun t ht j p h1 h2 h3 h4 => by
    have := war_get h4 (hs.facts j p h1 h2 h3).2.2.1 i o hi ht
    grind
  have hgc : ∀ j b p d, o.guard = some (j, b) → nth L j = some p → p.dst = some d → CurP L done ls d := fun j b p d e1 e2 e3 j' p' h1 h2 h3 h4 => by
    rw [nth_get] at e2
    have := dst_inj hnd h3 e2 h4 e3
    subst this
    exact h2 (hah _ (looks_guard hlk e1))
  have hopnd : ∀ x ∈ o.op.operands, Opnd β s a.eval x := fun x hx => opnd_rr hs.rr fun t e => hcur t (e ▸ hx)
  have hw' := wanted_iff (ops := ops) hs.rr (by rw [hops]; exact hch) hg (by grind)
  have hoi : ops[i]? = some o := by grind
  have hilt : i < L.length := hs.dlt i hd
  have hncur : ∀ d, o.dst = some d → ¬ CurP L done ls d := fun d e hc => hc i o hd hn hi e
  -- what is so whichever it was
  have fin : ∀ β' a' w', RR n (CurP L done (i :: ls)) (LivP C L done (i :: ls)) (DnP L done) (NnP C L done) β' s a' h w' → Seg (modsO L) mok (live s (LivP C L done ls)) β a h w (live s (LivP C L done (i :: ls))) β' a' h w' → next a' w' := by
    intro β' a' w' hr hsg
    refine hk β' a' w' ⟨by simpa using hs.lsz, fun j => set_listed hs.lsz hilt hs.lst, List.nodup_cons.2 ⟨hn, hs.lnd⟩, fun j hj => ?_, hs.dlt, ?_, hs.dclos, hs.topo, hr, fun j p h1 h2 h3 => hs.facts j p h1 (fun e => h2 (List.mem_cons_of_mem _ e)) h3, hs.seg.trans hsg⟩
    · rcases List.mem_cons.1 hj with rfl | hj
      · exact hd
      · exact hs.lsub j hj
    · intro j p hj hjm k hk'
      rcases List.mem_cons.1 hjm with rfl | hjm
      · grind
      · exact List.mem_cons_of_mem _ (hs.clos j p hj hjm k hk')
  have hdl : ∀ d, o.dst = some d → d ∈ modsO L := fun d e => modsO_mem (List.mem_of_getElem? hi) e
  unfold wpOp
  simp only [hoi]
  rcases hpf with ⟨hval, _, l, hl, hrun, hprov, _⟩ | ⟨rfl, hval, d, cs, hp, hfd, hmd, hrun⟩
  · have hnp : ∀ k, ¬ privA C.priv o k := not_priv (val_not_priv hval)
    have hliv : ∀ k, LivP C L done (i :: ls) k ↔ LivP C L done ls k := fun k => by
      rw [livP_exec hnd hi hd k]
      grind
    have main : ∀ (v : Value) (w' : World), Step h h w w' → (holds s ch → v = LVal β l) → (¬ holds s ch → v = undef) → next (a.put o.dst v) w' := by
      intro v w' hst h1 h2
      refine fin β _ w' ?_ (((Seg.step hst).trans (Seg.put (lv := live s (LivP C L done ls)) hdl)).mono (fun _ e => e) (fun _ e => e) (fun _ e => e) (fun k e => ⟨e.1, (hliv k).1 e.2⟩))
      have hr := hs.rr.step hst
      cases hdst : o.dst with
      | none => exact hr.congr (fun t => by rw [curP_exec hnd hi hd t]; simp [hdst]) hliv (fun _ e => e) (fun _ e => e)
      | some d =>
        have := hr.exec (v := v) (hl d hdst) (hncur d hdst) (fun hh => ⟨h1 hh, fun k off e => (prov_rr hs.rr hprov hh hcur k off e).1⟩) h2
        refine this.congr (fun t => ?_) hliv (fun _ e => e) (fun _ e => e)
        rw [curP_exec hnd hi hd t, hdst]
        grind
    by_cases hh : holds s ch
    · rw [if_pos (hw'.2 hh)]
      left
      obtain ⟨w', hrw, hw1, hst⟩ := hrun hh β a.eval w hopnd (fun _ => hs.rr.sub) (fun _ => boxU_rr hs.rr hcur)
      unfold Oper.wp
      rw [hrw]
      have hst' : Step h h w w' := by
        cases hkd : kindD C.tb o ch s with
        | mem => exact hst hkd
        | pure => rw [hw1 (by rw [hkd]; simp)]; exact .refl hs.rr.sub
        | box => rw [hw1 (by rw [hkd]; simp)]; exact .refl hs.rr.sub
      exact main _ w' hst' (fun _ => rfl) (fun e => absurd hh e)
    · rw [if_neg (fun e => hh (hw'.1 e))]
      exact main _ w (.refl hs.rr.sub) (fun e => absurd e hh) (fun _ => rfl)
  · rw [if_pos (hw'.2 (holds_nil s))]
    left
    obtain ⟨t, hrw⟩ := hrun β a.eval w hopnd
    unfold Oper.wp
    rw [hrw]
    show next (a.put o.dst _) _
    have hnl : ¬ LivP C L done ls d := fun e => e.1 i o hd hn hi hp
    rw [hp.2]
    have hiff : ∀ k, privA C.priv o k ↔ k = d := fun k => ⟨fun e => by have := e.2; rw [hp.2] at this; cases this; rfl, fun e => e ▸ hp⟩
    refine fin _ _ _ ((hs.rr.execA t hfd hmd (hncur d hp.2) hnl).congr (fun t => ?_) (fun k => ?_) (fun _ e => e) (fun _ e => e)) ((segA (a := a) (β := β) t hs.rr.sub hmd hnl (hdl d hp.2) (hmm d hp)).mono (fun _ e => e) (fun _ e => e) (fun _ e => e) (fun k e => ⟨e.1, ?_⟩))
    · rw [curP_exec hnd hi hd t, hp.2]
      grind
    · rw [livP_exec hnd hi hd k, hiff]
    · have := e.2
      rw [livP_exec hnd hi hd k, hiff] at this
      exact this

end
end Lf

/-
  The lifting layer, part 21: an operation is told of.
-/
namespace Lf
open Go

section
variable {C : Ctx} {L : List Oper} {mok : List Nat} {n : Nat} {lv0 : Nat → Prop} {β0 : Nat → Nat} {a0 : Act} {h0 : Hp} {w0 : World} {done ls : List Nat} {listed : Array Bool} {β : Nat → Nat} {s : St} {a : Act} {h : Hp} {w : World}

/-- A fact stays where nothing that matters changes. -/
theorem pfact_like {D : Nat → Prop} {o : Oper} {s' : St} (k : Like D o s s') (hD : ∀ ch, chainOf L L.length o = some ch → guardOk s ch = true → ∀ p ∈ ch, D p.1) (hdD : ∀ d, o.dst = some d → D d)
    (hm : ∀ t, Operand.tmp t ∈ o.op.operands → ∀ b off c, (s.f t = some (.box b off, c) ∨ s.f t = some (.boxd b off, c)) → holds s c → s'.m b = s.m b) (hmd : ∀ d, privA C.priv o d → s'.m d = s.m d)
    (hp : PFact C L o s h) : PFact C L o s' h := by
  obtain ⟨ch, hch, hg, hpf⟩ := hp
  have hD := hD ch hch hg
  refine ⟨ch, hch, by rw [guardOk_like k hD]; exact hg, ?_⟩
  rcases hpf with ⟨hval, hrd, l, hl, hrun, hprov, hsh⟩ | ⟨rfl, hval, d, cs, hpa, hfd, hmd', hrun⟩
  · refine .inl ⟨hval, by rw [k.kind]; exact hrd, l, fun d e => by rw [k.dn d (hdD d e)]; exact hl d e, fun hh => ?_, k.prov hprov, fun hkd => hsh (by rw [← k.kind (s' := s')]; exact hkd)⟩
    rw [k.kind]
    exact runsK_like k (fun _ => hm) (fun _ => rfl) (hrun ((k.holds' hD).1 hh))
  · exact .inr ⟨rfl, hval, d, cs, hpa, by rw [k.dn d (hdD d hpa.2)]; exact hfd, by grind, alloc_like k hrun⟩

/-- What the others need. -/
theorem like_new (hnd : (modsO L).Nodup) (hs : Sim C L mok n lv0 β0 a0 h0 w0 done ls listed β s a h w) {i : Nat} {o : Oper} (hi : L[i]? = some o) (hnd' : i ∉ done) {s' : St} (hf : ∀ t, o.dst ≠ some t → s'.f t = s.f t)
    {j : Nat} {p : Oper} (hj : L[j]? = some p) (hjd : j ∈ done) (hno : ∀ t, Operand.tmp t ∈ p.op.operands → o.dst = some t → False) : Like (DnP L done) p s s' := by
  refine ⟨fun t ht => hf t fun e => ?_, fun t ht => hf t fun e => hno t ht e, fun t l c e q hq => hs.rr.chain t l c e q hq⟩
  obtain ⟨j', p', h1, h2, h3⟩ := ht
  have := dst_inj hnd h2 hi h3 e
  grind

theorem closD (hs : Sim C L mok n lv0 β0 a0 h0 w0 done ls listed β s a h w) {j : Nat} {p : Oper} (hj : L[j]? = some p) (hjd : j ∈ done) {i : Nat} (h : i ∈ aheadOf (aheads L []) j) : i ∈ done :=
  rows_ahead h (· ∈ done) hs.dclos fun o' ho' => hs.dclos j o' ho' hjd

theorem facts_lift (hnd : (modsO L).Nodup) (hs : Sim C L mok n lv0 β0 a0 h0 w0 done ls listed β s a h w) {i : Nat} {o : Oper} (hi : L[i]? = some o) (hid : i ∉ done) (hwar : isWar (aheads L []) i o L 0 = false)
    {s' : St} (hf : ∀ t, o.dst ≠ some t → s'.f t = s.f t) (hm : ∀ k, s'.m k = s.m k ∨ privA C.priv o k) {j : Nat} {p : Oper} (hjd : j ∈ done) (hjl : j ∉ ls) (hj : L[j]? = some p) :
    PFact C L p s' h ∧ looksOk L (aheads L []) j p = true ∧ isWar (aheads L []) j p L 0 = false ∧ ∀ d, privA C.priv p d → d ∈ mok := by
  obtain ⟨h1, h2, h3⟩ := hs.facts j p hjd hjl hj
  refine ⟨?_, h2, h3⟩
  have k : Like (DnP L done) p s s' := like_new hnd hs hi hid hf hj hjd fun t ht e => by
    have := war_get e hwar j p hj ht
    rw [Nat.zero_add] at this
    exact hid (closD hs hj hjd this)
  refine pfact_like k (fun ch hch hg => chainsD hs hj (hs.dclos j p hj hjd) h2 hch hg) (fun d e => ⟨j, p, hjd, hj, e⟩) (fun t ht b off c hfb hh => ?_) (fun d hp => ?_) h1
  · refine (hm b).resolve_right fun hp => ?_
    have hN : NnP C L done b := ⟨i, o, hid, hi, hp⟩
    rcases hfb with hfb | hfb
    · exact (hs.rr.nref b hN t _ c hfb hh off).1 rfl
    · exact (hs.rr.nref b hN t _ c hfb hh off).2 rfl
  · refine (hm d).resolve_right fun hp' => ?_
    have := dst_inj hnd hi hj hp'.2 hp.2
    grind

theorem sim_frame (hs : Sim C L mok n lv0 β0 a0 h0 w0 done ls listed β s a h w) {i : Nat} {o : Oper} (hi : L[i]? = some o) (hid : i ∉ done) (hw : ∀ k ∈ waits o, k ∈ done) {s' : St}
    (hr : RR n (CurP L (i :: done) ls) (LivP C L (i :: done) ls) (DnP L (i :: done)) (NnP C L (i :: done)) β s' a h w)
    (hfacts : ∀ j p, j ∈ i :: done → j ∉ ls → L[j]? = some p → PFact C L p s' h ∧ looksOk L (aheads L []) j p = true ∧ isWar (aheads L []) j p L 0 = false ∧ ∀ d, privA C.priv p d → d ∈ mok)
    (hseg : Seg (modsO L) mok lv0 β0 a0 h0 w0 (live s' (LivP C L (i :: done) ls)) β a h w) : Sim C L mok n lv0 β0 a0 h0 w0 (i :: done) ls listed β s' a h w := by
  refine ⟨hs.lsz, hs.lst, hs.lnd, fun j hj => List.mem_cons_of_mem _ (hs.lsub j hj), fun j hj => ?_, hs.clos, ?_, ⟨fun o' ho' => by grind, hs.topo⟩, hr, hfacts, hseg⟩
  · rcases List.mem_cons.1 hj with rfl | hj
    · grind
    · exact hs.dlt j hj
  · intro j p hj hjm k hk
    rcases List.mem_cons.1 hjm with rfl | hjm
    · grind
    · exact List.mem_cons_of_mem _ (hs.dclos j p hj hjm k hk)

theorem curP_lift (hs : Sim C L mok n lv0 β0 a0 h0 w0 done ls listed β s a h w) {i : Nat} {o : Oper} (hi : L[i]? = some o) (hid : i ∉ done) (t : Nat) : CurP L (i :: done) ls t ↔ (o.dst ≠ some t ∧ CurP L done ls t) := by
  constructor
  · exact fun hc => ⟨hc i o (List.mem_cons_self ..) (fun e => hid (hs.lsub i e)) hi, fun j p h1 h2 h3 => hc j p (List.mem_cons_of_mem _ h1) h2 h3⟩
  · rintro ⟨h1, h2⟩ j p e1 e2 e3
    rcases List.mem_cons.1 e1 with rfl | e1
    · grind
    · exact h2 j p e1 e2 e3

theorem nnP_lift (hnd : (modsO L).Nodup) {i : Nat} {o : Oper} (hi : L[i]? = some o) (hid : i ∉ done) (k : Nat) : NnP C L (i :: done) k ↔ (¬ privA C.priv o k ∧ NnP C L done k) := by
  constructor
  · rintro ⟨j, p, h1, h2, h3⟩
    refine ⟨fun e => ?_, j, p, fun e => h1 (List.mem_cons_of_mem _ e), h2, h3⟩
    exact h1 (by rw [dst_inj hnd h2 hi h3.2 e.2]; simp)
  · rintro ⟨h0, j, p, h1, h2, h3⟩
    refine ⟨j, p, fun e => ?_, h2, h3⟩
    grind

theorem livP_lift (hnd : (modsO L).Nodup) (hs : Sim C L mok n lv0 β0 a0 h0 w0 done ls listed β s a h w) {i : Nat} {o : Oper} (hi : L[i]? = some o) (hid : i ∉ done) (k : Nat) :
    LivP C L (i :: done) ls k ↔ (¬ privA C.priv o k ∧ LivP C L done ls k) := by
  constructor
  · rintro ⟨h1, h2⟩
    have hp : ¬ privA C.priv o k := h1 i o (List.mem_cons_self ..) (fun e => hid (hs.lsub i e)) hi
    exact ⟨hp, fun j p e1 e2 e3 => h1 j p (List.mem_cons_of_mem _ e1) e2 e3, fun e => h2 ((nnP_lift hnd hi hid k).2 ⟨hp, e⟩)⟩
  · rintro ⟨hp, h1, h2⟩
    refine ⟨fun j p e1 e2 e3 => ?_, fun e => h2 ((nnP_lift hnd hi hid k).1 e).2⟩
    grind

theorem dnP_mono {i : Nat} (t : Nat) (h : DnP L done t) : DnP L (i :: done) t := by
  obtain ⟨j, p, h1, h2, h3⟩ := h
  exact ⟨j, p, List.mem_cons_of_mem _ h1, h2, h3⟩

/-- A value or a private variable is told of. -/
theorem sim_lift (ok : C.tb.Ok C.P) (hnd : (modsO L).Nodup) (hlt : ∀ d ∈ modsO L, d < n) (hs : Sim C L mok n lv0 β0 a0 h0 w0 done ls listed β s a h w) {i : Nat} {o : Oper} (hi : L[i]? = some o) (hid : i ∉ done)
    (hw : ∀ k ∈ waits o, k ∈ done) (hlk : looksOk L (aheads L []) i o = true) (hwar : isWar (aheads L []) i o L 0 = false) (hvp : isVal C.tb o = true ∨ isPrivAlloc C.priv o = true) {K : St → Hp → Prop}
    (hkd : kindOk C L o s = true) (hv : opW C L mok o s h K) : ∃ s', K s' h ∧ Sim C L mok n lv0 β0 a0 h0 w0 (i :: done) ls listed β s' a h w := by
  unfold opW at hv
  split at hv
  · exact hv.elim
  rename_i ch hch
  cases hg : guardOk s ch with
  | false => simp [hg] at hv
  | true =>
  simp only [hg, cond_true] at hv
  have hD : ∀ p ∈ ch, DnP L done p.1 := chainsD hs hi hw hlk hch hg
  have hdD : ∀ d, o.dst = some d → ¬ DnP L done d := fun d e ⟨j, p, h1, h2, h3⟩ => hid (by rw [← dst_inj hnd h2 hi h3 e]; exact h1)
  have hdn : ∀ d, o.dst = some d → d < n := fun d e => hlt d (modsO_mem (List.mem_of_getElem? hi) e)
  have hself : ∀ {s' : St}, (∀ t, o.dst ≠ some t → s'.f t = s.f t) → Like (DnP L done) o s s' := fun hf => by
    refine ⟨fun t ⟨j, p, h1, h2, h3⟩ => hf t fun e => hid (by grind), fun t ht => hf t fun e => ?_, fun t l c e q hq => hs.rr.chain t l c e q hq⟩
    have := war_get e hwar i o hi ht
    rw [Nat.zero_add] at this
    exact hid (rows_ahead this (· ∈ done) hs.dclos fun o' ho' => by grind)
  cases hval : isVal C.tb o with
  | true =>
    simp only [hval, cond_true] at hv
    obtain ⟨l, hk, hrun, hprov, hsh⟩ := valW_more ok hv
    have hnp : ∀ k, ¬ privA C.priv o k := not_priv (val_not_priv hval)
    have hrd : isRead C.tb o = true ∨ kindD C.tb o ch s = .pure := by
      unfold kindOk at hkd
      grind
    have hf : ∀ t, o.dst ≠ some t → (s.put o.dst l ch).f t = s.f t := fun t ht => put_f s _ _ _ t ht
    have k := hself hf
    refine ⟨_, hk, sim_frame hs hi hid hw ?_ (fun j p h1 h2 h3 => ?_) ?_⟩
    · have hb : holds s ch → ∀ k o', (l = .box k o' ∨ l = .boxd k o') → ¬ NnP C L done k := fun hh b off e hN => by
        obtain ⟨x, hx, off', hev⟩ := hprov b off e
        rcases hev with hev | hev
        · obtain ⟨t, c, rfl, hfb, hc⟩ := ev_tmp hev (by simp) hh
          exact (hs.rr.nref b hN t _ c hfb hc off').1 rfl
        · obtain ⟨t, c, rfl, hfb, hc⟩ := ev_tmp hev (by simp) hh
          exact (hs.rr.nref b hN t _ c hfb hc off').2 rfl
      have hliv : ∀ k, LivP C L (i :: done) ls k ↔ LivP C L done ls k := fun k => by rw [livP_lift hnd hs hi hid k]; grind
      have hnn : ∀ k, NnP C L (i :: done) k → NnP C L done k := fun k e => ((nnP_lift hnd hi hid k).1 e).2
      cases hdst : o.dst with
      | none => exact hs.rr.congr (fun t => by rw [curP_lift hs hi hid t, hdst]; simp) hliv dnP_mono hnn
      | some d =>
        refine (hs.rr.lift (l := l) (ch := ch) (hdn d hdst) (hdD d hdst) hD hb).congr (fun t => ?_) hliv dnP_mono hnn
        rw [curP_lift hs hi hid t, hdst]
        grind
    · rcases List.mem_cons.1 h1 with rfl | h1
      · rw [get_same hi h3]
        refine ⟨⟨ch, hch, by rw [guardOk_like k hD]; exact hg, .inl ⟨hval, by rw [k.kind]; exact hrd, l, fun d e => by rw [e]; exact put_same _ _ _ _, fun hh => ?_, k.prov hprov, fun hkd => hsh (by rw [← k.kind (s' := s.put o.dst l ch)]; exact hkd)⟩⟩, hlk, hwar, fun d hp => absurd hp (hnp d)⟩
        rw [k.kind]
        exact runsK_like k (fun _ t _ b off c _ _ => by rw [put_m]) (fun _ => rfl) (hrun ((k.holds' hD).1 hh))
      · exact facts_lift hnd hs hi hid hwar hf (fun k => .inl (by rw [put_m])) h1 h2 h3
    · refine hs.seg.mono (fun _ e => e) (fun _ e => e) (fun _ e => e) (fun k e => ⟨?_, ((livP_lift hnd hs hi hid k).1 e.2).2⟩)
      have := e.1
      rwa [put_m] at this
  | false =>
    simp only [hval, cond_false] at hv
    have hpa : isPrivAlloc C.priv o = true := hvp.resolve_left (by rw [hval]; simp)
    have doNew : ∀ (d : Nat) (cs : List Value), K ((s.put (some d) (.box d 0) []).putM d cs) h → privA C.priv o d → ch = [] → has mok d = true →
        (∀ (β : Nat → Nat) (ρ : Operand → Value) (w : World), (∀ x ∈ o.op.operands, Opnd β s ρ x) →
          ∃ t, (execOp ρ o).run C.P w = .ok (.value (.pointer (some ⟨w.heap.size, 0, none⟩))) { w with heap := w.heap.push (.cells cs.toArray t (0, 0)) }) →
        ∃ s', K s' h ∧ Sim C L mok n lv0 β0 a0 h0 w0 (i :: done) ls listed β s' a h w := by
      intro d cs hk hp he hmd hrun
      subst he
      have hiff : ∀ k, privA C.priv o k ↔ k = d := fun k => ⟨fun e => by have := e.2; rw [hp.2] at this; cases this; rfl, fun e => e ▸ hp⟩
      have hf : ∀ t, o.dst ≠ some t → ((s.put (some d) (.box d 0) []).putM d cs).f t = s.f t := fun t ht => put_ne s _ _ fun e => ht (by rw [hp.2, e])
      have hm : ∀ k, k ≠ d → ((s.put (some d) (.box d 0) []).putM d cs).m k = s.m k := fun k hk => putM_ne _ _ hk
      have k := hself hf
      have hN : NnP C L done d := ⟨i, o, hid, hi, hp⟩
      refine ⟨_, hk, sim_frame hs hi hid hw ?_ (fun j p h1 h2 h3 => ?_) ?_⟩
      · refine (hs.rr.liftA cs (hdn d hp.2) (hdD d hp.2) hN).congr (fun t => ?_) (fun k => ?_) dnP_mono (fun k e => ?_)
        · rw [curP_lift hs hi hid t, hp.2]
          grind
        · rw [livP_lift hnd hs hi hid k, hiff]
        · have := (nnP_lift hnd hi hid k).1 e
          grind
      · rcases List.mem_cons.1 h1 with rfl | h1
        · rw [get_same hi h3]
          refine ⟨⟨[], hch, rfl, .inr ⟨rfl, hval, d, cs, hp, put_same _ _ _ _, putM_same _ _ _, alloc_like k hrun⟩⟩, hlk, hwar, fun d' hp' => ?_⟩
          rw [(hiff d').1 hp']
          exact (has_iff _ _).1 hmd
        · exact facts_lift hnd hs hi hid hwar hf (fun k => by
            grind) h1 h2 h3
      · refine hs.seg.mono (fun _ e => e) (fun _ e => e) (fun _ e => e) (fun k e => ?_)
        have hl := (livP_lift hnd hs hi hid k).1 e.2
        rw [hiff] at hl
        refine ⟨?_, hl.2⟩
        have := e.1
        grind
    split at hv
    · rename_i d hdst
      have hd0 : o.dst = some d ∧ has C.priv d = true := by
        unfold dstIn at hdst
        grind
      cases hmd : has mok d with
      | false => simp [hmd] at hv
      | true =>
        simp only [hmd, cond_true] at hv
        split at hv
        · rename_i t hop
          split at hv
          · rename_i e he
            refine doNew d (cellsL e.zero) hv ⟨hpa, hd0.1⟩ rfl hmd fun β ρ w _ => ⟨t, ?_⟩
            have e2 : (cellsL e.zero).toArray = e.zero.cells := by apply Array.ext'; simp [cells_list]
            rw [e2]
            simp [execOp, hop, Instr.alloc, run_zeroValue' ok he, newVar, run_newRow]
          · exact hv.elim
        · rename_i t x hop
          obtain ⟨v, hev, hv'⟩ := onV_some hv
          refine doNew d (cellsL v) hv' ⟨hpa, hd0.1⟩ rfl hmd fun β ρ w ho => ⟨t, ?_⟩
          have hx := ev_ok (ho x (by simp [hop, Op.operands])) (holds_nil s) hev
          have e2 : (cellsL v).toArray = v.cells := by apply Array.ext'; simp [cells_list]
          rw [e2]
          simp [execOp, hop, hx, LVal, Instr.box, newVar, run_newRow]
        · exact hv.elim
    · exact hv.elim
    · rename_i hdst
      exfalso
      unfold dstIn at hdst
      unfold isPrivAlloc at hpa
      grind

end
end Lf

/-
  The lifting layer, part 22: regions whose order is drawn.
-/
namespace Lf
open Go

theorem condP {b : Bool} {p : Prop} (h : cond b p False) : b = true ∧ p := by
  grind

theorem again_mem {C : Ctx} {m : Nat → Bool} {L : List Oper} {s : St} {h : Hp} : ∀ {ws : List Nat}, AgainAll C m L s h ws → ∀ {j : Nat} {p : Oper} {ch : Chain}, j ∈ ws → L[j]? = some p → chainOf L L.length p = some ch → Again C m p ch s h
  | [], _, _, _, _, hj, _, _ => by cases hj
  | r :: ws, ha, j, p, ch, hj, hp, hc => by
    obtain ⟨h1, h2⟩ := ha
    rcases List.mem_cons.1 hj with rfl | hj
    · rw [nth_get, hp] at h1
      grind
    · exact again_mem h2 hj hp hc

theorem again_dst {C : Ctx} {m : Nat → Bool} {p : Oper} {ch : Chain} {s : St} {h : Hp} (ha : Again C m p ch s h) : ∃ d, p.dst = some d := by
  cases hd : p.dst with
  | some d => simp
  | none =>
    unfold Again at ha
    grind

section
variable {C : Ctx} {L : List Oper} {mok : List Nat} {n : Nat} {lv0 : Nat → Prop} {β0 : Nat → Nat} {a0 : Act} {h0 : Hp} {w0 : World} {done ls : List Nat} {listed : Array Bool} {β : Nat → Nat} {s : St} {a : Act} {h : Hp} {w : World}

theorem curP_new (hnd : (modsO L).Nodup) {i : Nat} {o : Oper} (hi : L[i]? = some o) (hid : i ∉ done) (t : Nat) : CurP L (i :: done) (i :: ls) t ↔ (o.dst = some t ∨ CurP L done ls t) := by
  constructor
  · intro hc
    by_cases ht : o.dst = some t
    · exact .inl ht
    · exact .inr fun j p h1 h2 h3 => hc j p (List.mem_cons_of_mem _ h1) (fun e => by
        grind) h3
  · rintro (ht | hc) j p h1 h2 h3
    · intro e
      exact h2 (by rw [dst_inj hnd h3 hi e ht]; simp)
    · rcases List.mem_cons.1 h1 with e | h1
      · grind
      · exact hc j p h1 (fun e => h2 (List.mem_cons_of_mem _ e)) h3

theorem livP_new (hnd : (modsO L).Nodup) {i : Nat} {o : Oper} (hi : L[i]? = some o) (hid : i ∉ done) (k : Nat) : LivP C L (i :: done) (i :: ls) k ↔ (privA C.priv o k ∨ LivP C L done ls k) := by
  constructor
  · rintro ⟨h1, h2⟩
    by_cases hp : privA C.priv o k
    · exact .inl hp
    · exact .inr ⟨fun j p e1 e2 e3 => h1 j p (List.mem_cons_of_mem _ e1) (fun e => by
        grind) e3, fun e => h2 ((nnP_lift hnd hi hid k).2 ⟨hp, e⟩)⟩
  · rintro (hp | ⟨h1, h2⟩)
    · exact ⟨fun j p e1 e2 e3 e4 => e2 (by rw [dst_inj hnd e3 hi e4.2 hp.2]; simp), fun e => ((nnP_lift hnd hi hid k).1 e).1 hp⟩
    · refine ⟨fun j p e1 e2 e3 => ?_, fun e => h2 ((nnP_lift hnd hi hid k).1 e).2⟩
      grind

/-- A pending fact, behind an operation that was carried out. -/
theorem facts_exec (ok : C.tb.Ok C.P) (hnd : (modsO L).Nodup) (hs : Sim C L mok n lv0 β0 a0 h0 w0 done ls listed β s a h w) {i : Nat} {o : Oper} (hi : L[i]? = some o) (hid : i ∉ done) (hah : ∀ j ∈ aheadOf (aheads L []) i, j ∈ ls)
    {ws : List Nat} (hwatch : (isVal C.tb o = true ∨ isPrivAlloc C.priv o = true) ∨ ∀ j p, j ∈ done → L[j]? = some p → isVal C.tb p = true → isRead C.tb p = true → j ∈ ws ∨ j ∈ aheadOf (aheads L []) i)
    {l : List Nat} {β' : Nat → Nat} {s' : St} {a' : Act} {h' : Hp} {w' : World} (out : OpOut C l mok n (CurP L done ls) (LivP C L done ls) (DnP L done) (NnP C L done) o β s a h w β' s' a' h' w')
    (hag : AgainAll C (chg o s) L s' h' ws) {j : Nat} {p : Oper} (hjd : j ∈ done) (hjl : j ∉ ls) (hj : L[j]? = some p) :
    PFact C L p s' h' ∧ looksOk L (aheads L []) j p = true ∧ isWar (aheads L []) j p L 0 = false ∧ ∀ d, privA C.priv p d → d ∈ mok := by
  obtain ⟨⟨ch, hch, hg, hpf⟩, hlk, hrest⟩ := hs.facts j p hjd hjl hj
  refine ⟨?_, hlk, hrest⟩
  have k : Like (DnP L done) p s s' := like_new hnd hs hi hid out.f hj hjd fun t ht e => by
    rcases looks_slot hlk ht hi e with h1 | h1 | h1
    · exact hid (closD hs hj hjd h1)
    · exact hid (h1 ▸ hjd)
    grind
  have hD := chainsD hs hj (hs.dclos j p hj hjd) hlk hch hg
  have hdD : ∀ d, p.dst = some d → DnP L done d := fun d e => ⟨j, p, hjd, hj, e⟩
  have hmr : ∀ t, Operand.tmp t ∈ p.op.operands → ∀ b off c, (s.f t = some (.box b off, c) ∨ s.f t = some (.boxd b off, c)) → holds s c → s'.m b = s.m b ∨ (chg o s b = true ∧ isVal C.tb o = false) := by
    intro t ht b off c hfb hh
    rcases out.m b with e | e | e
    · exact .inl e
    · exfalso
      have hN : NnP C L done b := ⟨i, o, hid, hi, e⟩
      rcases hfb with hfb | hfb
      · exact (hs.rr.nref b hN t _ c hfb hh off).1 rfl
      · exact (hs.rr.nref b hN t _ c hfb hh off).2 rfl
    grind
  refine ⟨ch, hch, by rw [guardOk_like k hD]; exact hg, ?_⟩
  rcases hpf with ⟨hval, hrd, lv, hl, hrun, hprov, hsh⟩ | ⟨rfl, hval, d, cs, hpa, hfd, hmd', hrun⟩
  · have hsh' : LdSh C.tb p ch s' lv := fun hkd => hsh (by rw [← k.kind (s' := s')]; exact hkd)
    refine .inl ⟨hval, by rw [k.kind]; exact hrd, lv, fun d e => by rw [k.dn d (hdD d e)]; exact hl d e, fun hh' => ?_, k.prov hprov, hsh'⟩
    have hh := (k.holds' hD).1 hh'
    have hr := hrun hh
    have hkk : kindD C.tb p ch s' = kindD C.tb p ch s := k.kind
    rw [hkk]
    by_cases hpure : kindD C.tb p ch s = .pure
    · rw [hpure] at hr ⊢
      exact runsK_like k (fun e => absurd rfl e) (fun e => by cases e) hr
    · have hread := hrd.resolve_right hpure
      rcases hwatch with hvp | hwatch
      · have hns : ∀ b, ¬ (chg o s b = true ∧ isVal C.tb o = false) := by
          rintro b ⟨e1, e2⟩
          rcases hvp with e | e
          · grind
          · unfold chg at e1
            unfold isPrivAlloc at e
            grind
        have hhh : h' = h := by
          rcases hvp with e | e
          · exact out.hv e
          · exact out.hp e
        exact runsK_like k (fun _ t ht b off c hfb hc => (hmr t ht b off c hfb hc).resolve_right (hns b)) (fun _ => hhh) hr
      · have hws : j ∈ ws := (hwatch j p hjd hj hval hread).resolve_right fun e => hjl (hah j e)
        have ha := again_mem hag hws hj hch
        obtain ⟨d, hd⟩ := again_dst ha
        rcases again_sound rfl ok ha hd ⟨ch, by rw [k.dn d (hdD d hd)]; exact hl d hd⟩ hh' hsh' with h1 | ⟨h1, h2⟩ | ⟨h1, h2⟩
        · rw [hkk] at h1
          exact absurd h1 hpure
        · rw [hkk] at h1
          rw [h1] at hr ⊢
          exact runsK_like k (fun _ t ht b off c hfb hc => (hmr t ht b off c hfb hc).resolve_right fun e => by rw [h2 t b off c ht (by rw [k.op t ht]; exact hfb)] at e; cases e.1) (fun e => by cases e) hr
        grind
  · refine .inr ⟨rfl, hval, d, cs, hpa, by rw [k.dn d (hdD d hpa.2)]; exact hfd, ?_, alloc_like k hrun⟩
    rcases out.m d with e | e | e
    · rw [e]; exact hmd'
    · exact absurd hjd (by rw [dst_inj hnd hj hi hpa.2 e.2]; exact hid)
    · exact absurd hpa (e.2.2.2.1 j p hjd hjl hj)

/-- The next operation of the plan is carried out. -/
theorem sim_exec (ok : C.tb.Ok C.P) {ops : Array Oper} (hops : ops.toList = L) (hnd : (modsO L).Nodup) (hlt : ∀ d ∈ modsO L, d < n) (hs : Sim C L mok n lv0 β0 a0 h0 w0 done ls listed β s a h w) {i : Nat} {o : Oper} (hi : L[i]? = some o) (hid : i ∉ done)
    (hw : ∀ k ∈ waits o, k ∈ ls) (hlk : looksOk L (aheads L []) i o = true) {ws : List Nat}
    (hwatch : (isVal C.tb o = true ∨ isPrivAlloc C.priv o = true) ∨ ∀ j p, j ∈ done → L[j]? = some p → isVal C.tb p = true → isRead C.tb p = true → j ∈ ws ∨ j ∈ aheadOf (aheads L []) i)
    {K : St → Hp → Prop} (hK : ∀ s1 h1, K s1 h1 → AgainAll C (chg o s) L s1 h1 ws) (hv : opW C L mok o s h K) (next : Act → World → Prop) (Q : Exit → Act → World → Prop)
    (hn : ∀ s' h' β' a' w', K s' h' → Sim C L mok n lv0 β0 a0 h0 w0 (i :: done) (i :: ls) (listed.setIfInBounds i true) β' s' a' h' w' → next a' w') : wpOp C.P ops Q i next a w := by
  have hah : ∀ j ∈ aheadOf (aheads L []) i, j ∈ ls := fun j hj => rows_ahead hj (· ∈ ls) hs.clos (fun o' ho' => by grind)
  have hilt : i < L.length := (List.getElem?_eq_some_iff.1 hi).1
  have hmem := List.mem_of_getElem? hi
  refine op_exec (l := modsO L) ok (by grind) (by rw [hops]; exact hv) hs.rr (fun t ht j p h1 h2 h3 h4 => ?_) (fun j b p d e1 e2 e3 => ?_) (fun d e => ⟨hlt d (modsO_mem hmem e), ?_, modsO_mem hmem e⟩) (fun d hp => ?_) next Q fun s' h' β' a' w' hk out => ?_
  · have := war_get h4 (hs.facts j p h1 h2 h3).2.2.1 i o hi ht
    grind
  · rw [hops, nth_get] at e2
    have hjl := hah _ (looks_guard hlk e1)
    refine ⟨fun j' p' h1 h2 h3 h4 => ?_, j, p, hs.lsub j hjl, e2, e3⟩
    have := dst_inj hnd h3 e2 h4 e3
    grind
  · rintro ⟨j, p, h1, h2, h3⟩
    exact hid (by rw [← dst_inj hnd h2 hi h3 e]; exact h1)
  · have hN : NnP C L done d := ⟨i, o, hid, hi, hp⟩
    exact ⟨hN, fun e => e.2 hN⟩
  · refine hn s' h' β' a' w' hk ⟨by simpa using hs.lsz, fun j => set_listed hs.lsz hilt hs.lst, List.nodup_cons.2 ⟨fun e => hid (hs.lsub i e), hs.lnd⟩, fun j hj => ?_, fun j hj => ?_, ?_, ?_,
      ⟨fun o' ho' => by rw [get_same hi ho']; exact fun k hk => hs.lsub k (hw k hk), hs.topo⟩, out.rr.congr (fun t => curP_new hnd hi hid t) (fun k => livP_new hnd hi hid k) dnP_mono (fun k e => (nnP_lift hnd hi hid k).1 e), fun j p h1 h2 h3 => ?_,
      hs.seg.trans (out.seg.mono (fun _ e => e) (fun _ e => e) (fun _ e => e) (fun k e => ⟨e.1, (livP_new hnd hi hid k).1 e.2⟩))⟩
    · rcases List.mem_cons.1 hj with rfl | hj
      · simp
      · exact List.mem_cons_of_mem _ (hs.lsub j hj)
    · rcases List.mem_cons.1 hj with rfl | hj
      · exact hilt
      · exact hs.dlt j hj
    · intro j p hj hjm k hk'
      rcases List.mem_cons.1 hjm with rfl | hjm
      · grind
      · exact List.mem_cons_of_mem _ (hs.clos j p hj hjm k hk')
    · intro j p hj hjm k hk'
      rcases List.mem_cons.1 hjm with rfl | hjm
      · rw [get_same hi hj] at hk'
        exact List.mem_cons_of_mem _ (hs.lsub k (hw k hk'))
      · exact List.mem_cons_of_mem _ (hs.dclos j p hj hjm k hk')
    · have hne : j ≠ i := fun e => h2 (e ▸ List.mem_cons_self ..)
      exact facts_exec ok hnd hs hi hid hah hwatch out (hK _ _ hk) ((List.mem_cons.1 h1).resolve_left hne) (fun e => h2 (List.mem_cons_of_mem _ e)) h3

theorem ready_iff {ops : Array Oper} (hops : ops.toList = L) (hs : Sim C L mok n lv0 β0 a0 h0 w0 done ls listed β s a h w) {j : Nat} :
    j ∈ Region.ready .any ops listed ↔ j ∉ ls ∧ ∃ o, L[j]? = some o ∧ ∀ k ∈ waits o, k ∈ ls := by
  rw [mem_ready]
  have hget : ∀ j : Nat, ops[j]? = L[j]? := fun j => by grind
  constructor
  · rintro ⟨h1, o, ho, h2⟩
    rw [hget] at ho
    refine ⟨fun e => ?_, o, ho, fun k hk => ?_⟩
    · have hlt : j < listed.size := by rw [hs.lsz]; exact (List.getElem?_eq_some_iff.1 ho).1
      have := (hs.lst j).2 e
      grind
    · obtain ⟨e, he, rfl, hb⟩ := mem_waits hk
      exact (hs.lst _).1 (h2 e he hb)
  · rintro ⟨h1, o, ho, h2⟩
    refine ⟨?_, o, by grind, fun e he hb => (hs.lst _).2 (h2 _ (waits_mem he hb))⟩
    have hlt : j < listed.size := by rw [hs.lsz]; exact (List.getElem?_eq_some_iff.1 ho).1
    cases e : listed.getD j true with
    | false => rfl
    | true =>
      refine absurd ((hs.lst j).1 ?_) h1
      grind

theorem planEnd_mem {tb : Tb} {priv : List Nat} : ∀ {r : List (Nat × List Nat)} {done : List Nat} {last : Option Nat} {dE : List Nat} {lE : Option Nat}, planGo tb priv L (aheads L []) r done last = true → planEnd tb priv L (aheads L []) r done last = (dE, lE) →
    (∀ x, x ∈ dE ↔ x ∈ done ∨ x ∈ r.map (·.1)) ∧ (done.Nodup → dE.Nodup) ∧ (∀ e, last = some e → ∃ e', lE = some e' ∧ (e' = e ∨ Ahead L e' e))
  | [], done, last, dE, lE, _, he => by
    cases he
    grind
  | (i, ws) :: r, done, last, dE, lE, h, he => by
    obtain ⟨o, ho, _, _, hid, hlast, hc⟩ := planGo_cons h
    have key : ∀ l', planGo tb priv L (aheads L []) r (i :: done) l' = true → planEnd tb priv L (aheads L []) r (i :: done) l' = (dE, lE) → (l' = last ∨ l' = some i) →
        (∀ x, x ∈ dE ↔ x ∈ done ∨ x ∈ ((i, ws) :: r).map (·.1)) ∧ (done.Nodup → dE.Nodup) ∧ (∀ e, last = some e → ∃ e', lE = some e' ∧ (e' = e ∨ Ahead L e' e)) := by
      intro l' h1 h2 hl
      obtain ⟨g1, g2, g3⟩ := planEnd_mem h1 h2
      refine ⟨fun x => ?_, fun hn => g2 (List.nodup_cons.2 ⟨hid, hn⟩), fun e he' => ?_⟩
      · rw [g1, List.mem_cons, List.map_cons, List.mem_cons]
        constructor
        · rintro ((h | h) | h)
          · exact .inr (.inl h)
          · exact .inl h
          · exact .inr (.inr h)
        · rintro (h | h | h)
          · exact .inl (.inr h)
          · exact .inl (.inl h)
          · exact .inr h
      · rcases hl with rfl | rfl
        · exact g3 e he'
        · obtain ⟨e', e1, e2⟩ := g3 i rfl
          have hie := rows_ahead (hlast e he')
          refine ⟨e', e1, .inr ?_⟩
          rcases e2 with rfl | e2
          · exact hie
          · intro X hX hw
            exact hie X hX fun o' ho' k hk => hX i o' ho' (e2 X hX hw) k hk
    simp only [planEnd, nth_get, ho] at he
    grind

theorem ord_then (ok : C.tb.Ok C.P) {ops : Array Oper} (hops : ops.toList = L) (hnd : (modsO L).Nodup) (hlt : ∀ d ∈ modsO L, d < n) {K0 : St → Hp → Prop} {Q : Exit → Act → World → Prop} {dE : List Nat} {lE : Option Nat}
    (hLt : ∀ j, j < L.length → j ∉ dE → ∀ e, lE = some e → Ahead L j e)
    (fin : ∀ (fuel : Nat) (ls : List Nat) (listed : Array Bool) (β : Nat → Nat) (s : St) (a : Act) (h : Hp) (w : World), Sim C L mok n lv0 β0 a0 h0 w0 dE ls listed β s a h w → K0 s h → L.length ≤ fuel + ls.length → wpAny C.P .any ops Q fuel listed a w) :
    ∀ (fuel : Nat) (r : List (Nat × List Nat)) (done ls : List Nat) (listed : Array Bool) (last : Option Nat) (β : Nat → Nat) (s : St) (a : Act) (h : Hp) (w : World),
      Sim C L mok n lv0 β0 a0 h0 w0 done ls listed β s a h w → planGo C.tb C.priv L (aheads L []) r done last = true → planEnd C.tb C.priv L (aheads L []) r done last = (dE, lE) → ordW C L mok r s h K0 →
      L.length ≤ fuel + ls.length → wpAny C.P .any ops Q fuel listed a w := by
  intro fuel
  induction fuel with
  | zero =>
    intro r done ls listed last β s a h w hs hp he hv hf
    have hall : ∀ j, j < L.length → j ∈ ls := fun j hj => pigeon hs.lnd (fun x hx => hs.dlt x (hs.lsub x hx)) (by omega) hj
    cases r with
    | nil => cases he; exact fin 0 ls listed β s a h w hs hv hf
    | cons x r =>
      obtain ⟨i, ws⟩ := x
      obtain ⟨o, ho, _, _, hid, _⟩ := planGo_cons hp
      exact absurd (hs.lsub i (hall i (List.getElem?_eq_some_iff.1 ho).1)) hid
  | succ fuel ih =>
    intro r
    induction r with
    | nil =>
      intro done ls listed last β s a h w hs hp he hv hf
      cases he
      exact fin (fuel + 1) ls listed β s a h w hs hv hf
    | cons x r ihr =>
      intro done ls listed last β s a h w hs hp he hv hf
      obtain ⟨i, ws⟩ := x
      obtain ⟨o, ho, hw, hlk, hid, hlast, hc⟩ := planGo_cons hp
      obtain ⟨hmem, _, _⟩ := planEnd_mem hp he
      simp only [ordW, nth_get, ho] at hv
      obtain ⟨hkd, hv'⟩ := condP hv
      have rest : planGo C.tb C.priv L (aheads L []) r (i :: done) (some i) = true → planEnd C.tb C.priv L (aheads L []) r (i :: done) (some i) = (dE, lE) →
          ((isVal C.tb o = true ∨ isPrivAlloc C.priv o = true) ∨ ∀ j p, j ∈ done → L[j]? = some p → isVal C.tb p = true → isRead C.tb p = true → j ∈ ws ∨ j ∈ aheadOf (aheads L []) i) → wpAny C.P .any ops Q (fuel + 1) listed a w := by
        intro hp' he' hwatch
        have hAll : ∀ s1 h1, (match (generalizing := false) ws with
          | [] => ordW C L mok r s1 h1 K0
          | ws => AgainAll C (chg o s) L s1 h1 ws ∧ ordW C L mok r s1 h1 K0) → AgainAll C (chg o s) L s1 h1 ws ∧ ordW C L mok r s1 h1 K0 := by
          intro s1 h1 e
          cases ws with
          | nil => exact ⟨trivial, e⟩
          | cons x ws => exact e
        refine ⟨fun hr => ?_, fun j hj => ?_⟩
        · exfalso
          by_cases hx : ∃ j ∈ done, j ∉ ls
          · obtain ⟨j, h1, h2, h3⟩ := topo_first hs.topo hx
            have hi := List.getElem?_eq_getElem (hs.dlt j h1)
            have : j ∈ Region.ready .any ops listed := (ready_iff hops hs).2 ⟨h2, _, hi, h3 _ hi⟩
            grind
          · have : i ∈ Region.ready .any ops listed := (ready_iff hops hs).2 ⟨fun e => hid (hs.lsub i e), o, ho, fun k hk => Classical.byContradiction fun e => hx ⟨k, hw k hk, e⟩⟩
            grind
        · obtain ⟨h1, p, hp2, h2⟩ := (ready_iff hops hs).1 hj
          by_cases hjd : j ∈ done
          · exact pend_exec ok hops hnd hs hp2 hjd h1 h2 _ Q fun β' a' w' hs' => ih ((i, ws) :: r) done (j :: ls) _ last β' s a' h w' hs' hp he (by
              simp only [ordW, nth_get, ho]
              omega) (by simp; omega)
          · by_cases hji : j = i
            · subst hji
              rw [ho] at hp2; cases hp2
              exact sim_exec ok hops hnd hlt hs ho hid h2 hlk hwatch (fun s h e => (hAll s h e).1) hv' _ Q fun s' h' β' a' w' hk hs' => ih r (j :: done) (j :: ls) _ (some j) β' s' a' h' w' hs' hp' he' (hAll _ _ hk).2 (by simp; omega)
            · exfalso
              have hjl := (List.getElem?_eq_some_iff.1 hp2).1
              have hah : Ahead L j i := by
                by_cases hjr : j ∈ r.map (·.1)
                · exact plan_later hp' j hjr
                · have hjE : j ∉ dE := fun h => by
                    grind
                  obtain ⟨_, _, g3⟩ := planEnd_mem hp' he'
                  obtain ⟨e', e1, e2⟩ := g3 i rfl
                  have h1 := hLt j hjl hjE e' e1
                  rcases e2 with rfl | e2
                  · exact h1
                  · intro X hX hw
                    exact e2 X hX fun o' ho' k hk => hX e' o' ho' (h1 X hX hw) k hk
              have := hah (· ∈ ls) hs.clos fun o' ho' => by grind
              exact hid (hs.lsub i this)
      simp only [planEnd, nth_get, ho] at he
      rcases hc with ⟨hvp, hwar, hp'⟩ | ⟨hvp, hwar, hp'⟩ | ⟨hv1, hv2, hwt, hp'⟩
      · obtain ⟨s', hk, hs'⟩ := sim_lift ok hnd hlt hs ho hid hw hlk hwar hvp hkd hv'
        grind
      · grind
      · exact rest hp' (by grind) (.inr fun j p hjd hj hv1 hr1 => watched_get hwt j hjd p hj hv1 hr1)

theorem plan_idx {tb : Tb} {priv : List Nat} {rows : List (List Nat)} : ∀ {r : List (Nat × List Nat)} {done : List Nat} {last : Option Nat}, planGo tb priv L rows r done last = true →
    (r.map (·.1)).Nodup ∧ ∀ j ∈ r.map (·.1), j ∉ done ∧ j < L.length
  | [], _, _, _ => ⟨.nil, fun j hj => (nomatch hj)⟩
  | (i, ws) :: r, done, last, h => by
    obtain ⟨o, ho, _, _, hid, _, hc⟩ := planGo_cons h
    have main : ∀ last', planGo tb priv L rows r (i :: done) last' = true → _ := fun last' h' => plan_idx h'
    grind

theorem allocs_iff {priv : List Nat} {k : Nat} : ∀ {L : List Oper}, k ∈ allocsOf priv L ↔ ∃ (i : Nat) (o : Oper), L[i]? = some o ∧ privA priv o k
  | [] => by simp [allocsOf]
  | o :: L => by
    have ih := allocs_iff (priv := priv) (k := k) (L := L)
    have key : (∃ (i : Nat) (p : Oper), (o :: L)[i]? = some p ∧ privA priv p k) ↔ (privA priv o k ∨ ∃ (i : Nat) (p : Oper), L[i]? = some p ∧ privA priv p k) := by
      constructor
      · grind
      · rintro (h | ⟨i, p, h1, h2⟩)
        · exact ⟨0, o, by simp, h⟩
        · exact ⟨i + 1, p, by simpa using h1, h2⟩
    rw [key, ← ih]
    by_cases hp : ∃ d, privA priv o d
    · obtain ⟨d, hp⟩ := hp
      rw [privA_allocs hp, List.mem_cons]
      refine or_congr ⟨fun e => e ▸ hp, fun e => ?_⟩ .rfl
      have := e.2
      rw [hp.2] at this; cases this; rfl
    · rw [notA_allocs fun d e => hp ⟨d, e⟩]
      grind

end

theorem addE_get : ∀ (l : List Oper) (j i k : Nat), (addE l j i)[k]? = (l[k]?).map fun o => if k = j then { o with after := ⟨app o.after.toList [⟨i, .data⟩]⟩ } else o
  | [], _, _, k => by simp [addE]
  | o :: r, 0, i, 0 => by simp [addE]
  | o :: r, 0, i, k + 1 => by simp [addE]
  | o :: r, j + 1, i, 0 => by simp [addE]
  | o :: r, j + 1, i, k + 1 => by simp [addE, addE_get r j i k]

theorem addE_len : ∀ (l : List Oper) (j i : Nat), (addE l j i).length = l.length
  | [], _, _ => rfl
  | _ :: _, 0, _ => rfl
  | o :: r, j + 1, i => by simp [addE, addE_len r j i]

theorem addE_mods : ∀ (l : List Oper) (j i : Nat), modsO (addE l j i) = modsO l
  | [], _, _ => rfl
  | _ :: _, 0, _ => rfl
  | o :: r, j + 1, i => by simp only [addE, modsO, addE_mods r j i]

section
variable {P : Program} {Q : Exit → Act → World → Prop} {ops ops' : Array Oper} {i j : Nat}

theorem wpOp_addE (he : ops'.toList = addE ops.toList j i) {k : Nat} {K : Act → World → Prop} {a : Act} {w : World} (h : wpOp P ops' Q k K a w) : wpOp P ops Q k K a w := by
  have hget : ∀ k : Nat, ops'[k]? = (ops[k]?).map fun o => if k = j then { o with after := ⟨app o.after.toList [⟨i, .data⟩]⟩ } else o := fun k => by
    rw [← Array.getElem?_toList, he, addE_get, Array.getElem?_toList]
  have hy : ∀ tm, yielded ops' tm = yielded ops tm := fun tm => by
    funext q
    unfold yielded
    grind
  unfold wpOp at *
  rw [hget] at h
  cases ho : ops[k]? with
  | none => grind
  | some o =>
    rw [ho] at h
    simp only [Option.map_some, hy] at h
    by_cases e : k = j
    · rw [if_pos e] at h; exact h
    grind

theorem ready_addE (he : ops'.toList = addE ops.toList j i) {k : Nat} {listed : Array Bool} : (k ∈ Region.ready .any ops' listed → k ∈ Region.ready .any ops listed) ∧ (k ∈ Region.ready .any ops listed → (k ≠ j ∨ listed.getD i false = true) → k ∈ Region.ready .any ops' listed) := by
  have hget : ∀ k : Nat, ops'[k]? = (ops[k]?).map fun o => if k = j then { o with after := ⟨app o.after.toList [⟨i, .data⟩]⟩ } else o := fun k => by
    rw [← Array.getElem?_toList, he, addE_get, Array.getElem?_toList]
  simp only [mem_ready, hget]
  constructor
  · rintro ⟨h0, o', ho, h1⟩
    refine ⟨h0, ?_⟩
    cases e : ops[k]? with
    | none => grind
    | some o =>
      rw [e] at ho
      refine ⟨o, rfl, fun x hx => h1 x ?_⟩
      simp at ho
      subst ho
      split
      · rw [app_eq]; grind
      · exact hx
  · rintro ⟨h0, o, ho, h1⟩ hk
    refine ⟨h0, _, by rw [ho]; rfl, fun x hx hb => ?_⟩
    dsimp only at hx
    by_cases e : k = j
    · rw [if_pos e] at hx
      have hx : x ∈ (⟨app o.after.toList [⟨i, .data⟩]⟩ : Array Edge) := hx
      rw [app_eq] at hx
      simp at hx
      rcases hx with hx | hx
      · exact h1 x (by simpa using hx) hb
      · subst hx
        exact hk.resolve_left fun h => h e
    grind

theorem wpAny_one (he : ops'.toList = addE ops.toList j i) : ∀ (fuel : Nat) (listed : Array Bool) (a : Act) (w : World), listed.getD i false = true → wpAny P .any ops' Q fuel listed a w → wpAny P .any ops Q fuel listed a w := by
  have hr : ∀ listed : Array Bool, listed.getD i false = true → Region.ready .any ops listed = [] → Region.ready .any ops' listed = [] := fun listed hi h0 => by
    refine List.eq_nil_iff_forall_not_mem.2 fun k hk => ?_
    have := (ready_addE he).1 hk
    grind
  have hr' : ∀ listed : Array Bool, listed.getD i false = true → Region.ready .any ops' listed = [] → Region.ready .any ops listed = [] := fun listed hi h0 => by
    refine List.eq_nil_iff_forall_not_mem.2 fun k hk => ?_
    have := (ready_addE he).2 hk (.inr hi)
    grind
  intro fuel
  induction fuel with
  | zero => exact fun listed a w hi h => ⟨hr' listed hi h.1, h.2⟩
  | succ fuel ih =>
    intro listed a w hi h
    refine ⟨fun h0 => h.1 (hr listed hi h0), fun k hk => ?_⟩
    exact wpOp_mono (fun a w h => ih _ a w (getD_set_true hi) h) (wpOp_addE he (h.2 k ((ready_addE he).2 hk (.inr hi))))

end

/-! One more is waited for: what is told stays so. -/
section
variable {C : Ctx} {L : List Oper} {mok : List Nat} {n : Nat} {lv0 : Nat → Prop} {β0 : Nat → Nat} {a0 : Act} {h0 : Hp} {w0 : World} {done ls : List Nat} {listed : Array Bool} {β : Nat → Nat} {s : St} {a : Act} {h : Hp} {w : World} {i j : Nat}

theorem addE_ne {k : Nat} (hk : k ≠ j) : (addE L j i)[k]? = L[k]? := by
  rw [addE_get]
  grind

theorem addE_like (k : Nat) {o : Oper} : (addE L j i)[k]? = some o → ∃ p, L[k]? = some p ∧ o.dst = p.dst ∧ o.op = p.op ∧ o.guard = p.guard := by
  rw [addE_get]
  grind

theorem addE_like' (k : Nat) {p : Oper} (h : L[k]? = some p) : ∃ o, (addE L j i)[k]? = some o ∧ o.dst = p.dst ∧ o.op = p.op ∧ o.guard = p.guard := by
  rw [addE_get, h]
  grind

theorem chain_addE : ∀ (m : Nat) (o : Oper), chainOf (addE L j i) m o = chainOf L m o
  | 0, _ => rfl
  | m + 1, o => by
    unfold chainOf
    cases o.guard with
    | none => rfl
    | some g =>
      obtain ⟨q, b⟩ := g
      dsimp only
      rw [nth_get, nth_get]
      cases e : L[q]? with
      | none =>
        have : (addE L j i)[q]? = none := by rw [addE_get, e]; rfl
        rw [this]
      | some p =>
        obtain ⟨p', e1, e2, _, e4⟩ := addE_like' (i := i) (j := j) q e
        rw [e1]
        dsimp only
        have : ∀ m, chainOf L m p' = chainOf L m p := fun m => by cases m <;> simp [chainOf, e4]
        rw [chain_addE m p', this, e2]

theorem privA_like {priv : List Nat} {o p : Oper} (h1 : o.dst = p.dst) (h2 : o.op = p.op) (k : Nat) : privA priv o k ↔ privA priv p k := by
  unfold privA isPrivAlloc
  rw [h1, h2]

theorem keep_get {L0 : List Oper} {rows0 rows : List (List Nat)} : ∀ {done : List Nat}, keepOk L0 rows0 L rows done = true → ∀ k ∈ done, ∀ o, L[k]? = some o → isWar rows0 k o L0 0 = false → looksOk L rows k o = true ∧ isWar rows k o L 0 = false
  | [], _, k, hk, _, _, _ => by cases hk
  | q :: r, h, k, hk, o, ho, hw => by
    unfold keepOk at h
    obtain ⟨h1, h2⟩ := condT h
    rcases List.mem_cons.1 hk with rfl | hk
    · rw [nth_get, ho] at h1
      grind
    · exact keep_get h2 k hk o ho hw

theorem aft_get {rows : List (List Nat)} {i : Nat} {done : List Nat} : ∀ {m : Nat}, allAft rows i done m = true → ∀ k, k < m → k ∉ done → k ≠ i → i ∈ aheadOf rows k
  | 0, _, k, hk, _, _ => by omega
  | m + 1, h, k, hk, hd, hi => by
    unfold allAft at h
    obtain ⟨h1, h2⟩ := condT h
    by_cases e : k = m
    · subst e
      have e1 : has done k = false := by
        cases e : has done k with
        | false => rfl
        | true => exact absurd ((has_iff _ _).1 e) hd
      have e2 : Nat.beq k i = false := by
        cases e : Nat.beq k i with
        | false => rfl
        | true => exact absurd (Nat.eq_of_beq_eq_true e) hi
      rw [e1, e2] at h1
      exact (has_iff _ _).1 h1
    · exact aft_get h2 k (by omega) hd hi

theorem sim_add (hs : Sim C L mok n lv0 β0 a0 h0 w0 done ls listed β s a h w) (hj : j ∉ done) (hk : keepOk L (aheads L []) (addE L j i) (aheads (addE L j i) []) done = true) :
    Sim C (addE L j i) mok n lv0 β0 a0 h0 w0 done ls listed β s a h w := by
  have hne : ∀ q, q ∈ done → (addE L j i)[q]? = L[q]? := fun q hq => addE_ne fun e => hj (e ▸ hq)
  have hcur : CurP (addE L j i) done ls = CurP L done ls := funext fun t => propext ⟨fun h q o h1 h2 h3 => h q o h1 h2 ((hne q h1).trans h3), fun h q o h1 h2 h3 => h q o h1 h2 ((hne q h1).symm.trans h3)⟩
  have hdn : DnP (addE L j i) done = DnP L done := funext fun t => propext ⟨fun ⟨q, o, h1, h2, h3⟩ => ⟨q, o, h1, (hne q h1).symm.trans h2, h3⟩, fun ⟨q, o, h1, h2, h3⟩ => ⟨q, o, h1, (hne q h1).trans h2, h3⟩⟩
  have hnn : NnP C (addE L j i) done = NnP C L done := funext fun t => propext ⟨fun ⟨q, o, h1, h2, h3⟩ => by
      obtain ⟨p, e1, e2, e3, _⟩ := addE_like q h2
      exact ⟨q, p, h1, e1, (privA_like e2 e3 t).1 h3⟩, fun ⟨q, o, h1, h2, h3⟩ => by
      obtain ⟨p, e1, e2, e3, _⟩ := addE_like' (i := i) (j := j) q h2
      exact ⟨q, p, h1, e1, (privA_like e2 e3 t).2 h3⟩⟩
  have hlv : LivP C (addE L j i) done ls = LivP C L done ls := funext fun t => propext (by
    unfold LivP
    rw [hnn]
    grind)
  have hcl : ∀ X : List Nat, (∀ q ∈ X, q ∈ done) → Clos L (· ∈ X) → Clos (addE L j i) (· ∈ X) := fun X hX hc q o ho hq => hc q o ((hne q (hX q hq)).symm.trans ho) hq
  have htp : ∀ d : List Nat, (∀ q ∈ d, q ∈ done) → Topo L d → Topo (addE L j i) d := by
    intro d
    induction d with
    | nil => intro _ _; trivial
    | cons q d ih =>
      intro hd ht
      exact ⟨fun o ho => ht.1 o ((hne q (hd q (List.mem_cons_self ..))).symm.trans ho), ih (fun x hx => hd x (List.mem_cons_of_mem _ hx)) ht.2⟩
  refine ⟨by rw [addE_len]; exact hs.lsz, hs.lst, hs.lnd, hs.lsub, fun q hq => by rw [addE_len]; exact hs.dlt q hq, hcl ls hs.lsub hs.clos, hcl done (fun _ h => h) hs.dclos, htp done (fun _ h => h) hs.topo, ?_, fun q o h1 h2 h3 => ?_, ?_⟩
  · rw [hcur, hlv, hdn, hnn]; exact hs.rr
  · have h3' := (hne q h1).symm.trans h3
    obtain ⟨f1, f2, f3, f4⟩ := hs.facts q o h1 h2 h3'
    obtain ⟨g1, g2⟩ := keep_get hk q h1 o h3 f3
    refine ⟨?_, g1, g2, f4⟩
    unfold PFact at *
    rw [addE_len, chain_addE]
    exact f1
  · rw [addE_mods, hlv]; exact hs.seg
end

theorem nodup_sub {l m : List Nat} (hm : m.Nodup) (hl : l.Nodup) (hs : ∀ x ∈ l, x ∈ m) : l.length ≤ m.length := by
  induction l generalizing m with
  | nil => simp
  | cons a l ih =>
    obtain ⟨h1, h2⟩ := List.nodup_cons.1 hl
    have ha := hs a (List.mem_cons_self ..)
    have := ih (m := m.erase a) (hm.erase a) h2 fun x hx => (hm.mem_erase_iff).2 ⟨fun e => h1 (e ▸ hx), hs x (List.mem_cons_of_mem _ hx)⟩
    grind

theorem fin_all {C : Ctx} {L : List Oper} {mok : List Nat} {n : Nat} {lv0 : Nat → Prop} {β0 : Nat → Nat} {a0 : Act} {h0 : Hp} {w0 : World} {K : St → Hp → Prop} {Q : Exit → Act → World → Prop} {done ls : List Nat} {listed : Array Bool} {β : Nat → Nat} {s : St} {a : Act} {h : Hp} {w : World}
    (hs : Sim C L mok n lv0 β0 a0 h0 w0 done ls listed β s a h w) (hall : ∀ j, j < L.length → j ∈ done) (hdl : ∀ j ∈ done, j ∈ ls) (hk : K s h)
    (hQ : ∀ s' h' β' a' w', K s' h' → RR n (fun _ => True) (fun _ => True) (fun _ => True) (fun _ => False) β' s' a' h' w' → Seg (modsO L) mok lv0 β0 a0 h0 w0 (lives s') β' a' h' w' → Q .normal a' w') : Q .normal a w := by
  have hN : ∀ k, ¬ NnP C L done k := fun k ⟨j, p, h1, h2, _⟩ => h1 (hall j (List.getElem?_eq_some_iff.1 h2).1)
  have hL : ∀ k, True ↔ LivP C L done ls k := fun k => ⟨fun _ => ⟨fun j p h1 h2 _ => absurd (hdl j h1) h2, hN k⟩, fun _ => trivial⟩
  exact hQ s h β a w hk (hs.rr.congr (fun t => ⟨fun _ j p h1 h2 _ => absurd (hdl j h1) h2, fun _ => trivial⟩) hL (fun _ _ => trivial) (fun _ e => e.elim)) (hs.seg.mono (fun _ e => e) (fun _ e => e) (fun _ e => e) (fun k e => ⟨e.1, (hL k).1 trivial⟩))

/-- A region that draws its order, by its plan. -/
theorem regT_sound {C : Ctx} (ok : C.tb.Ok C.P) {mok : List Nat} {n : Nat} {lv0 : Nat → Prop} {β0 : Nat → Nat} {a0 : Act} {h0 : Hp} {w0 : World} {K : St → Hp → Prop} {Q : Exit → Act → World → Prop} :
    ∀ (A : Ann) (ops : Array Oper) (done : List Nat) (last : Option Nat), (modsO ops.toList).Nodup → (∀ d ∈ modsO ops.toList, d < n) → planT C.tb C.priv A ops.toList done last = true → done.Nodup →
    (∀ s' h' β' a' w', K s' h' → RR n (fun _ => True) (fun _ => True) (fun _ => True) (fun _ => False) β' s' a' h' w' → Seg (modsO ops.toList) mok lv0 β0 a0 h0 w0 (lives s') β' a' h' w' → Q .normal a' w') →
    ∀ (fuel : Nat) (ls : List Nat) (listed : Array Bool) (β : Nat → Nat) (s : St) (a : Act) (h : Hp) (w : World), Sim C ops.toList mok n lv0 β0 a0 h0 w0 done ls listed β s a h w → regW C mok K A ops.toList s h → ops.toList.length ≤ fuel + ls.length →
      wpAny C.P .any ops Q fuel listed a w := by
  intro A
  induction A with
  | rg ord =>
    intro ops done last hnd hlt hp hdn hQ fuel ls listed β s a h w hs hv hf
    unfold planT at hp
    obtain ⟨hlen, hp⟩ := condT hp
    have hlen := Nat.eq_of_beq_eq_true hlen
    have hall : ∀ dE lE, planEnd C.tb C.priv ops.toList (aheads ops.toList []) ord done last = (dE, lE) → ∀ j, j < ops.toList.length → j ∈ dE := fun dE lE he j hj => by
      obtain ⟨m1, m2, _⟩ := planEnd_mem hp he
      have hidx := plan_idx hp
      refine pigeon (m2 hdn) (fun x hx => ?_) ?_ hj
      · rcases (m1 x).1 hx with h1 | h1
        · exact hs.dlt x h1
        grind
      · have h1 : (done ++ ord.map (·.1)).Nodup := List.nodup_append.2 ⟨hdn, hidx.1, fun x hx y hy e => (hidx.2 y hy).1 (e ▸ hx)⟩
        have h2 := nodup_sub (m2 hdn) h1 fun x hx => by rw [List.mem_append] at hx; exact (m1 x).2 hx
        grind
    cases he : planEnd C.tb C.priv ops.toList (aheads ops.toList []) ord done last with
    | mk dE lE =>
      have hall := hall dE lE he
      refine ord_then (mok := mok) (K0 := K) ok rfl hnd hlt (dE := dE) (lE := lE) (fun j hj hn => absurd (hall j hj) hn) ?_ fuel ord done ls listed last β s a h w hs hp he hv hf
      clear hs hv hf
      intro fuel
      induction fuel with
      | zero =>
        intro ls listed β s a h w hs hv hf
        have hl : ∀ j, j < ops.toList.length → j ∈ ls := fun j hj => pigeon hs.lnd (fun x hx => hs.dlt x (hs.lsub x hx)) (by omega) hj
        refine ⟨List.eq_nil_iff_forall_not_mem.2 fun k hk => ?_, fin_all hs hall (fun j hj => hl j (hs.dlt j hj)) hv hQ⟩
        obtain ⟨h1, o, ho, _⟩ := (ready_iff rfl hs).1 hk
        grind
      | succ fuel ih =>
        intro ls listed β s a h w hs hv hf
        refine ⟨fun hr => fin_all hs hall (fun j hj => Classical.byContradiction fun e => ?_) hv hQ, fun j hj => ?_⟩
        · obtain ⟨i, h1, h2, h3⟩ := topo_first hs.topo ⟨j, hj, e⟩
          have hi := List.getElem?_eq_getElem (hs.dlt i h1)
          have : i ∈ Region.ready .any ops listed := (ready_iff rfl hs).2 ⟨h2, _, hi, h3 _ hi⟩
          grind
        · obtain ⟨h1, o, ho, h2⟩ := (ready_iff rfl hs).1 hj
          exact pend_exec ok rfl hnd hs ho (hall j (List.getElem?_eq_some_iff.1 ho).1) h1 h2 _ Q fun β' a' w' hs' => ih (j :: ls) _ β' s a' h w' hs' hv (by grind)
  | r2 pre i j x y ihx ihy =>
    intro ops done last hnd hlt hp hdn hQ fuel ls listed β s a h w hs hv hf
    unfold planT at hp
    obtain ⟨hpre, hp⟩ := condT hp
    cases he : planEnd C.tb C.priv ops.toList (aheads ops.toList []) pre done last with
    | mk dE lE =>
      rw [he] at hp
      dsimp only at hp
      obtain ⟨hno, hp⟩ := condT hp
      obtain ⟨hpx, hpy⟩ := condT hp
      obtain ⟨m1, m2, _⟩ := planEnd_mem hpre he
      unfold nodeOk at hno
      cases hij : Nat.beq i j with
      | true => grind
      | false =>
        rw [hij] at hno
        have hij : i ≠ j := fun e => by rw [e] at hij; simp at hij
        simp only [cond_false, nth_get] at hno
        cases hoi : ops.toList[i]? with
        | none => grind
        | some o =>
          cases hoj : ops.toList[j]? with
          | none => grind
          | some p =>
            rw [hoi, hoj] at hno
            dsimp only at hno
            cases hdi : has dE i with
            | true => grind
            | false =>
              cases hdj : has dE j with
              | true => grind
              | false =>
                rw [hdi, hdj] at hno
                simp only [cond_false] at hno
                have hdi := has_false hdi
                have hdj := has_false hdj
                obtain ⟨hwi, hno⟩ := condT hno
                obtain ⟨hwj, hno⟩ := condT hno
                obtain ⟨hla, hno⟩ := condT hno
                obtain ⟨ha1, hno⟩ := condT hno
                obtain ⟨ha2, hno⟩ := condT hno
                obtain ⟨hk1, hk2⟩ := condT hno
                refine ord_then (mok := mok) ok rfl hnd hlt (dE := dE) (lE := lE) (fun k hk hn e hle => ?_) ?_ fuel pre done ls listed last β s a h w hs hpre he hv hf
                · subst hle
                  by_cases hke : k = e
                  · subst hke
                    exact absurd ((has_iff _ _).1 (condT hla).1) hn
                  · exact rows_ahead (aft_get (condT hla).2 k hk hn hke)
                · clear hs hv hf
                  have hil : i < ops.toList.length := (List.getElem?_eq_some_iff.1 hoi).1
                  intro fuel
                  induction fuel with
                  | zero =>
                    intro ls listed β s a h w hs hv hf
                    exact absurd (hs.lsub i (pigeon hs.lnd (fun x hx => hs.dlt x (hs.lsub x hx)) (by omega) hil)) hdi
                  | succ fuel ih =>
                    intro ls listed β s a h w hs hv hf
                    have s1 := sim_add hs hdj hk1
                    have s2 := sim_add hs hdi hk2
                    have kx := ihx (addE ops.toList j i).toArray dE lE (by simpa [addE_mods] using hnd) (by simpa [addE_mods] using hlt) hpx (m2 hdn) (by simpa [addE_mods] using hQ) (fuel + 1) ls listed β s a h w s1 hv.1 (by simpa [addE_len] using hf)
                    have ky := ihy (addE ops.toList i j).toArray dE lE (by simpa [addE_mods] using hnd) (by simpa [addE_mods] using hlt) hpy (m2 hdn) (by simpa [addE_mods] using hQ) (fuel + 1) ls listed β s a h w s2 hv.2 (by simpa [addE_len] using hf)
                    have hset : ∀ {k : Nat}, k ∈ Region.ready .any ops listed → (listed.setIfInBounds k true).getD k false = true := fun {k} hk => by
                      have h0 := (mem_ready.1 hk).1
                      have hlt : k < listed.size := by
                        grind
                      simp [hlt]
                    refine ⟨fun hr => ?_, fun k hk => ?_⟩
                    · exfalso
                      by_cases hx : ∃ j ∈ dE, j ∉ ls
                      · obtain ⟨q, h1, h2, h3⟩ := topo_first hs.topo hx
                        have hi := List.getElem?_eq_getElem (hs.dlt q h1)
                        have : q ∈ Region.ready .any ops listed := (ready_iff rfl hs).2 ⟨h2, _, hi, h3 _ hi⟩
                        grind
                      · have : i ∈ Region.ready .any ops listed := (ready_iff rfl hs).2 ⟨fun e => hdi (hs.lsub i e), o, hoi, fun k hk => Classical.byContradiction fun e => hx ⟨k, allIn_mem hwi k hk, e⟩⟩
                        grind
                    · obtain ⟨h1, q, hq, h2⟩ := (ready_iff rfl hs).1 hk
                      by_cases hkd : k ∈ dE
                      · exact pend_exec ok rfl hnd hs hq hkd h1 h2 _ Q fun β' a' w' hs' => ih (k :: ls) _ β' s a' h w' hs' hv (by grind)
                      · by_cases hki : k = i
                        · subst hki
                          exact wpOp_mono (fun a w h => wpAny_one rfl _ _ a w (hset hk) h) (wpOp_addE rfl (kx.2 k ((ready_addE rfl).2 hk (.inl hij))))
                        · by_cases hkj : k = j
                          · subst hkj
                            exact wpOp_mono (fun a w h => wpAny_one rfl _ _ a w (hset hk) h) (wpOp_addE rfl (ky.2 k ((ready_addE rfl).2 hk (.inl fun e => hij e.symm))))
                          · exfalso
                            have hkl := (List.getElem?_eq_some_iff.1 hq).1
                            have hah := rows_ahead (aft_get ha1 k hkl hkd hki) (· ∈ ls) s1.clos fun o' ho' => by rw [addE_ne hkj, hq] at ho'; grind
                            exact hdi (hs.lsub i hah)
  | _ => intro ops done last _ _ hp; cases hp

/-- A region whose order is drawn. -/
theorem any_sound {C : Ctx} (ok : C.tb.Ok C.P) {ops : Array Oper} {mok : List Nat} {n : Nat} {A : Ann} {β : Nat → Nat} {s : St} {a : Act} {h : Hp} {w : World} {K : St → Hp → Prop} {Q : Exit → Act → World → Prop} {id : Nat}
    (h1 : nodup (modsO ops.toList) = true) (hp : planT C.tb C.priv A ops.toList [] none = true) (hlt : ∀ d ∈ modsO ops.toList, d < n) (hr : Rel n β s a h w) (hv : regW C mok K A ops.toList (s.dropB (allocsOf C.priv ops.toList)) h)
    (hQ : ∀ s' h' β' a' w', K s' h' → Rel n β' s'.clean a' h' w' → Seg (modsO ops.toList) mok (lives s) β a h w (lives s') β' a' h' w' → Q .normal a' w') : (Code.region id ops true).wp C.P Q a w := by
  have hnd := nodup_iff h1
  refine wp_region_any ok.mixed ?_
  have hst : Step h h w { w with drawn := w.drawn + 1 } := ⟨hr.sub, Nat.le_refl _, fun _ _ e => ⟨rfl, e⟩, rfl, rfl, rfl⟩
  have hr0 := (hr.step hst).start (allocsOf C.priv ops.toList)
  have hN : ∀ k, NnP C ops.toList [] k ↔ k ∈ allocsOf C.priv ops.toList := fun k => by
    rw [allocs_iff]
    exact ⟨fun ⟨i, o, _, h2, h3⟩ => ⟨i, o, h2, h3⟩, fun ⟨i, o, h2, h3⟩ => ⟨i, o, by simp, h2, h3⟩⟩
  have hL : ∀ k, LivP C ops.toList [] [] k ↔ k ∉ allocsOf C.priv ops.toList := fun k => by
    rw [← hN]
    exact ⟨fun e => e.2, fun e => ⟨fun i o h1 => absurd h1 List.not_mem_nil, e⟩⟩
  refine regT_sound (mok := mok) (n := n) (lv0 := lives s) (β0 := β) (a0 := a) (h0 := h) (w0 := w) (K := K) ok A ops [] none hnd hlt hp .nil (fun s' h' β' a' w' hk hr' hs' => hQ s' h' β' a' w' hk hr'.clean hs') ops.size [] _ β (s.dropB (allocsOf C.priv ops.toList)) a h _
    ⟨by simp, fun i => ?_, .nil, fun i e => absurd e List.not_mem_nil, fun i e => absurd e List.not_mem_nil, fun i o _ e => absurd e List.not_mem_nil, fun i o _ e => absurd e List.not_mem_nil, trivial, ?_, fun i o e => absurd e List.not_mem_nil, ?_⟩ hv (by simp)
  · by_cases hi : i < ops.size
    · simp [hi]
    · simp [hi]
  · exact hr0.congr (fun t => ⟨fun _ => trivial, fun _ i o e => absurd e List.not_mem_nil⟩) hL (fun _ e => e.elim) (fun k e => (hN k).1 e)
  · exact (Seg.step (lv := lives s) hst).mono (fun _ e => e) (fun _ e => e) (fun _ e => e) (fun k e => live_drop (l := allocsOf C.priv ops.toList) ⟨e.1, (hL k).1 e.2⟩)

end Lf

/-
  The lifting layer, part 23: code, and whole functions.
-/
namespace Lf
open Go

def exOf : Ex → Exit
  | .nrm => .normal
  | .ret => .ret
  | .ext i => .exit i
  | .gto i => .goto i

theorem least_ex {p : Nat → Prop} : (∃ n, p n) → ∃ n, p n ∧ ∀ m, p m → n ≤ m := by
  rintro ⟨n, hn⟩
  induction n using Nat.strongRecOn with
  | _ n ih =>
    grind

/-- A loop, by a count that its rounds make smaller. -/
theorem wp_loop_count {P : Program} {c : Code} {Q : Exit → Act → World → Prop} {a : Act} {w : World} (J : Nat → Act → World → Prop) (h0 : ∃ n, J n a w)
    (round : ∀ n a w, J n a w → c.wp P (Exit.then (fun a' w' => ∃ m, m < n ∧ J m a' w') Q) a w) : (Code.loop c).wp P Q a w := by
  classical
  let μ : Act → World → Nat := fun a w => if h : ∃ n, J n a w then Classical.choose (least_ex h) else 0
  have hμ : ∀ a w, (h : ∃ n, J n a w) → J (μ a w) a w ∧ ∀ m, J m a w → μ a w ≤ m := fun a w h => by
    have := Classical.choose_spec (least_ex h)
    simp only [μ, dif_pos h]
    exact this
  refine wp_loop (fun a w => ∃ n, J n a w) μ h0 fun a w hJ => ?_
  refine wp_mono (round (μ a w) a w (hμ a w hJ).1) fun e a' w' hq => ?_
  grind

section
variable {n : Nat} {β : Nat → Nat} {s : St} {a : Act} {h : Hp} {w : World}

/-- The second state has nothing but what stayed of the first one, and what is so now. -/
structure Mix (s s' s2 : St) (a' : Act) (n : Nat) (l mm : List Nat) : Prop where
  f : ∀ t v c, s2.f t = some (v, c) → c = [] ∧ ((s.f t = some (v, []) ∧ t ∉ l ∧ ∀ k o, (v = .box k o ∨ v = .boxd k o) → k ∉ l) ∨ (∃ x, v = .v x ∧ a'.eval (.tmp t) = x ∧ t < n))
  m : ∀ k cs, s2.m k = some cs → (s.m k = some cs ∧ k ∉ mm) ∨ s'.m k = some cs

theorem mix_rr {l mm : List Nat} {β' : Nat → Nat} {s' s2 : St} {a' : Act} {h' : Hp} {w' : World} (hr : Rel n β s a h w) (hs : Seg l mm (lives s) β a h w (lives s') β' a' h' w') (hr' : Rel n β' s' a' h' w') (hm : Mix s s' s2 a' n l mm) :
    Rel n β' s2 a' h' w' ∧ Seg l mm (lives s) β a h w (lives s2) β' a' h' w' := by
  have hkeep : ∀ k cs, s.m k = some cs → k ∉ mm → β' k = β k ∧ β k < w.heap.size ∧ h' (β k) = none ∧ ∃ ct, w'.heap[β k]? = some (.cells cs.toArray ct (0, 0)) := by
    intro k cs e hk
    obtain ⟨h1, ct, h2⟩ := hr.box k cs e trivial
    have hne : ∀ k' ∈ mm, lives s k' → β k' ≠ β k := fun k' hk' hl e' => hk (by rw [hr.inj k k' (by simp [e]) hl.1 trivial trivial e'.symm]; exact hk')
    refine ⟨hs.beta k (.inr hk), heap_lt h2, hs.unk _ (heap_lt h2) h1 hne, ct, ?_⟩
    rw [hs.keep _ (heap_lt h2) h1 hne]
    exact h2
  have hnew : ∀ k, s'.m k ≠ none → (s.m k ≠ none ∧ β' k = β k) ∨ w.heap.size ≤ β' k := fun k e => (hs.fresh k ⟨e, trivial⟩).imp (fun e => ⟨e.1.1, e.2⟩) id
  refine ⟨⟨hr'.sz, hr'.sub, fun t v c e => ?_, fun t v c e p hp => ?_, fun t v c e _ _ => ?_, fun t v c e _ hh => ?_, fun k cs e _ => ?_, fun k k' e e' _ _ he => ?_, fun _ e => e.elim, fun _ e => e.elim⟩, ?_⟩
  · obtain ⟨_, h1 | ⟨x, _, _, h1⟩⟩ := hm.f t v c e
    · exact hr.lt t v [] h1.1
    · exact h1
  · rw [(hm.f t v c e).1] at hp; cases hp
  · refine ⟨?_, fun _ _ _ => trivial⟩
    obtain ⟨_, ⟨h1, h2, h3⟩ | ⟨x, rfl, h1, _⟩⟩ := hm.f t v c e
    · rw [hs.tmp t h2, (hr.cur t v [] h1 trivial (holds_nil _)).1]
      cases v with
      | v x => rfl
      | box k o => simp only [LVal, hs.beta k (.inl (h3 k o (.inl rfl)))]
      | boxd k o => simp only [LVal, hs.beta k (.inl (h3 k o (.inr rfl)))]
    · exact h1
  · rw [(hm.f t v c e).1] at hh; exact absurd (holds_nil _) hh
  · rcases hm.m k cs e with ⟨h1, h2⟩ | h1
    · grind
    · exact hr'.box k cs h1 trivial
  · obtain ⟨cs, e⟩ := Option.ne_none_iff_exists'.1 e
    obtain ⟨cs', e'⟩ := Option.ne_none_iff_exists'.1 e'
    rcases hm.m k cs e with ⟨h1, h2⟩ | h1
    · obtain ⟨e1, e2, _⟩ := hkeep k cs h1 h2
      rcases hm.m k' cs' e' with ⟨h1', h2'⟩ | h1'
      · obtain ⟨e1', _⟩ := hkeep k' cs' h1' h2'
        rw [e1, e1'] at he
        exact hr.inj k k' (by simp [h1]) (by simp [h1']) trivial trivial he
      · rcases hnew k' (by simp [h1']) with ⟨e3, e4⟩ | e3
        · rw [e1, e4] at he
          exact hr.inj k k' (by simp [h1]) e3 trivial trivial he
        omega
    · rcases hm.m k' cs' e' with ⟨h1', h2'⟩ | h1'
      · obtain ⟨e1', e2', _⟩ := hkeep k' cs' h1' h2'
        rcases hnew k (by simp [h1]) with ⟨e3, e4⟩ | e3
        · rw [e1', e4] at he
          exact hr.inj k k' e3 (by simp [h1']) trivial trivial he
        omega
      · exact hr'.inj k k' (by simp [h1]) (by simp [h1']) trivial trivial he
  · refine ⟨hs.tmp, hs.beta, hs.size, hs.unk, hs.keep, fun k e => ?_, hs.os, hs.tape, hs.output, hs.defers⟩
    obtain ⟨cs, e⟩ := Option.ne_none_iff_exists'.1 e.1
    rcases hm.m k cs e with ⟨h1, h2⟩ | h1
    · exact .inl ⟨⟨by simp [h1], trivial⟩, (hkeep k cs h1 h2).1⟩
    · exact hs.fresh k ⟨by simp [h1], trivial⟩

def shO : Option Ty → Shape
  | some e => e.sh
  | none => shUnit

theorem shOf_eq (tb : Tb) (t : Nat) : shOf tb t = shO (tb.ty t) := by
  unfold shOf shO
  grind

theorem sh_leaf {P : Program} {tb : Tb} (ok : tb.Ok P) {t : Nat} (ha : isAggT tb t = false) : ∀ (x : (shOf tb t).T) (cs : Array Value), (shOf tb t).enc x ≠ .agg cs := by
  rw [shOf_eq]
  unfold isAggT at ha
  cases he : tb.ty t with
  | none => intro x cs e; cases e
  | some e =>
    rw [he] at ha
    intro x cs
    exact ((ok.leaf t e he ha).2 x).2 cs

theorem decK_is {tb : Tb} {t : Nat} {v : Value} {K : (shOf tb t).T → Prop} (h : decK tb t v K) : ∃ x, (shOf tb t).enc x = v ∧ K x := by
  unfold decK at h
  cases hi : isIfT tb t with
  | true => rw [hi] at h; exact h
  | false =>
    rw [hi] at h
    simp only [cond_false] at h
    split at h
    · rename_i x hx; exact ⟨x, (shOf tb t).ok v x hx, h⟩
    · exact h.elim

theorem cells_of {P : Program} {tb : Tb} (ok : tb.Ok P) {t : Nat} {cs : List Value} {v : Value} {x : (shOf tb t).T} (h1 : ofCells tb t cs = some v) (hv : (shOf tb t).enc x = v) : cellsL ((shOf tb t).enc x) = cs := by
  rw [hv]
  unfold ofCells at h1
  cases ha : isAggT tb t with
  | true =>
    rw [ha] at h1
    cases h1
    rfl
  | false =>
    rw [ha] at h1
    simp only [cond_false] at h1
    split at h1
    · cases h1
      have hne : ∀ cs, v ≠ .agg cs := fun cs e => sh_leaf ok ha x cs (hv.trans e)
      cases v <;> first | rfl | grind
    · cases h1

theorem getOne_mix {P : Program} {tb : Tb} (ok : tb.Ok P) {l mm : List Nat} {β' : Nat → Nat} {s' s2 : St} {a' : Act} {h' : Hp} {w' : World} (hr' : Rel n β' s' a' h' w') {j : J} {K : (shOf tb j.t).T → Prop} (hg : getOne tb s' j K)
    (hm : Mix s s' s2 a' n l mm) : ∃ x, K x ∧ Mix s s' (setOne tb j x s2) a' n l mm := by
  unfold getOne at hg
  cases hM : j.isM with
  | true =>
    rw [hM] at hg
    simp only [cond_true] at hg
    split at hg
    · rename_i cs hcs
      split at hg
      · rename_i v hv
        · obtain ⟨x, hx, hg⟩ := decK_is hg
          refine ⟨x, hg, ?_⟩
          have hc := cells_of ok hv hx
          unfold setOne
          rw [hM]
          simp only [cond_true, hc]
          refine ⟨hm.f, fun k cs' e => ?_⟩
          by_cases hk : k = j.i
          · subst hk
            rw [putM_same] at e; grind
          · rw [putM_ne _ _ hk] at e
            exact hm.m k cs' e
      · exact hg.elim
    · exact hg.elim
  | false =>
    rw [hM] at hg
    simp only [cond_false] at hg
    split at hg
    · rename_i v hv
      · obtain ⟨x, hx, hg⟩ := decK_is hg
        refine ⟨x, hg, ?_⟩
        unfold setOne
        rw [hM]
        simp only [cond_false]
        rw [hx]
        refine ⟨fun t u c e => ?_, fun k cs e => hm.m k cs (by rwa [put_m] at e)⟩
        by_cases ht : t = j.i
        · subst ht
          rw [put_same] at e; cases e
          exact ⟨rfl, .inr ⟨v, rfl, (hr'.cur j.i _ [] hv trivial (holds_nil _)).1, hr'.lt _ _ _ hv⟩⟩
        · rw [put_ne _ _ _ ht] at e
          exact hm.f t u c e
    · exact hg.elim

theorem getJ_mix {P : Program} {tb : Tb} (ok : tb.Ok P) {l mm : List Nat} {β' : Nat → Nat} {s' : St} {a' : Act} {h' : Hp} {w' : World} (hr' : Rel n β' s' a' h' w') : ∀ {js : List J} {s2 : St} {K : JTup tb js → Prop}, getJ tb js s' K →
    Mix s s' s2 a' n l mm → ∃ x, K x ∧ Mix s s' (setJ tb js x s2) a' n l mm
  | [], s2, K, hg, hm => ⟨(), hg, hm⟩
  | [j], s2, K, hg, hm => getOne_mix ok hr' hg hm
  | j :: j2 :: js, s2, K, hg, hm => by
    obtain ⟨x, hx, hm'⟩ := getOne_mix ok hr' hg hm
    obtain ⟨y, hy, hm2⟩ := getJ_mix ok hr' (js := j2 :: js) hx hm'
    exact ⟨(x, y), hy, hm2⟩

theorem forget_mix (hr : Rel n β s a h w) {l mm : List Nat} {s' : St} {a' : Act} : Mix s s' (s.forget l mm) a' n l mm := by
  refine ⟨fun t v c e => ?_, fun k cs e => ?_⟩
  · simp only [St.forget] at e
    cases ht : has l t with
    | true => simp [ht] at e
    | false =>
      simp only [ht, cond_false] at e
      obtain ⟨h1, h2⟩ := dropL'_some e
      have hc : c = [] := by
        cases c with
        | nil => rfl
        | cons p c => exact (hr.chain t v _ h1 p (List.mem_cons_self ..)).elim
      subst hc
      exact ⟨rfl, .inl ⟨h1, has_false ht, h2⟩⟩
  · simp only [St.forget] at e
    cases hk : has mm k with
    | true => simp [hk] at e
    | false =>
      simp only [hk, cond_false] at e
      exact .inl ⟨e, has_false hk⟩

theorem join_rel {P : Program} {tb : Tb} (ok : tb.Ok P) {l mm : List Nat} {β' : Nat → Nat} {s' : St} {a' : Act} {h' : Hp} {w' : World} (hr : Rel n β s a h w) (hs : Seg l mm (lives s) β a h w (lives s') β' a' h' w') (hr' : Rel n β' s' a' h' w')
    {js : List J} {K : JTup tb js → Prop} (hg : getJ tb js s' K) :
    ∃ x, K x ∧ Rel n β' (setJ tb js x (s.forget l mm)) a' h' w' ∧ Seg l mm (lives s) β a h w (lives (setJ tb js x (s.forget l mm))) β' a' h' w' := by
  obtain ⟨x, hx, hm⟩ := getJ_mix ok hr' hg (forget_mix (s' := s') (a' := a') hr)
  obtain ⟨h1, h2⟩ := mix_rr hr hs hr' hm
  grind

end

/-- A private variable is told. -/
theorem pub_rel {n : Nat} {β : Nat → Nat} {s : St} {a : Act} {h : Hp} {w : World} {l mm : List Nat} {β' : Nat → Nat} {s' : St} {a' : Act} {h' : Hp} {w' : World} {k : Nat} {K : St → Hp → Prop} (hk : k ∈ mm) (hs : Seg l mm (lives s) β a h w (lives s') β' a' h' w') (hr : Rel n β' s' a' h' w') (hp : pubW k s' h' K) :
    ∃ s2 h2, K s2 h2 ∧ Rel n β' s2 a' h2 w' ∧ Seg l mm (lives s) β a h w (lives s2) β' a' h2 w' := by
  unfold pubW at hp
  split at hp
  · rename_i k' off cs hf hm
    obtain ⟨h1, hp1⟩ := condP hp
    obtain ⟨h2, hp2⟩ := condP hp1
    clear hp hp1
    have h1 := Nat.eq_of_beq_eq_true h1
    have h2 := Nat.eq_of_beq_eq_true h2
    subst h1 h2
    obtain ⟨hn, ct, hw⟩ := hr.box k cs hm trivial
    have hset : ∀ x, (h'.set (β' k) (.cells cs.toArray ct (0, 0))) x = if x = β' k then some (.cells cs.toArray ct (0, 0)) else h' x := fun x => rfl
    have hmm : ∀ i cs', cond (Nat.beq i k) none (s'.m i) = some cs' → i ≠ k ∧ s'.m i = some cs' := fun i cs' e => by
      grind
    have hff : ∀ t v c, cond (Nat.beq t k) (some (LV.v (.pointer (some ⟨β' k, 0, none⟩)), ([] : Chain))) (s'.f t) = some (v, c) → (t = k ∧ v = LV.v (.pointer (some ⟨β' k, 0, none⟩)) ∧ c = []) ∨ s'.f t = some (v, c) := fun t v c e => by
      by_cases hi : t = k
      · grind
      · rw [beq_ne hi] at e; exact .inr e
    refine ⟨_, _, hp2 (β' k) ct hn, ⟨hr.sz, fun b o e => ?_, fun t v c e => ?_, fun t v c e p hpp => ?_, fun t v c e _ hh => ?_, fun t v c e _ hh => ?_, fun i cs' e _ => ?_, fun i j e e' _ _ he => ?_, fun _ e => e.elim, fun _ e => e.elim⟩, ?_⟩
    · rw [hset] at e
      split at e
      · grind
      · exact hr.sub b o e
    · rcases hff t v c e with ⟨rfl, _, _⟩ | e
      · exact hr.lt t _ _ hf
      · exact hr.lt t v c e
    · rcases hff t v c e with ⟨rfl, _, rfl⟩ | e
      · cases hpp
      · exact hr.chain t v c e p hpp
    · have hh' : holds s' c := by
        have : c = [] := by
          rcases hff t v c e with ⟨_, _, h⟩ | e
          · exact h
          · cases c with
            | nil => rfl
            | cons p c => exact (hr.chain t v _ e p (List.mem_cons_self ..)).elim
        subst this; exact holds_nil _
      rcases hff t v c e with ⟨rfl, rfl, rfl⟩ | e
      · refine ⟨?_, fun _ _ _ => trivial⟩
        exact (hr.cur t _ _ hf trivial (holds_nil _)).1
      · exact ⟨(hr.cur t v c e trivial hh').1, fun _ _ _ => trivial⟩
    · have : c = [] := by
        rcases hff t v c e with ⟨_, _, h⟩ | e
        · exact h
        · cases c with
          | nil => rfl
          | cons p c => exact (hr.chain t v _ e p (List.mem_cons_self ..)).elim
      subst this; exact absurd (holds_nil _) hh
    · obtain ⟨h1, h2⟩ := hmm i cs' e
      obtain ⟨h3, ct', h4⟩ := hr.box i cs' h2 trivial
      refine ⟨?_, ct', h4⟩
      rw [hset, if_neg]
      · exact h3
      · intro e'
        exact h1 (hr.inj i k (by simp [h2]) (by simp [hm]) trivial trivial e')
    · obtain ⟨ci, e⟩ := Option.ne_none_iff_exists'.1 e
      obtain ⟨cj, e'⟩ := Option.ne_none_iff_exists'.1 e'
      exact hr.inj i j (by grind) (by grind) trivial trivial he
    · refine ⟨hs.tmp, hs.beta, hs.size, fun b hb hn' hne => ?_, hs.keep, fun i hi => ?_, hs.os, hs.tape, hs.output, hs.defers⟩
      · rw [hset, if_neg]
        · exact hs.unk b hb hn' hne
        · rintro rfl
          rcases hs.fresh k ⟨by simp [hm], trivial⟩ with ⟨e1, e2⟩ | e1
          · grind
          · omega
      · obtain ⟨ci, e⟩ := Option.ne_none_iff_exists'.1 hi.1
        exact hs.fresh i ⟨by grind, trivial⟩
  · exact hp.elim

theorem app_mem {x y : List Nat} {d : Nat} : d ∈ app x y ↔ d ∈ x ∨ d ∈ y := by rw [app_eq, List.mem_append]

theorem condN {α : Type} {c : Bool} {x : Option α} {y : α} (e : cond c x none = some y) : c = true ∧ x = some y := by
  grind

theorem noLab_find {l : Nat} : ∀ {c : Code}, noLab c l = true → findLabel c l = none := by
  intro c
  induction c with
  | seq a b iha ihb =>
    intro e
    simp only [noLab] at e
    cases ha : noLab a l with
    | false => grind
    | true => rw [ha] at e; simp only [findLabel, iha ha]; exact ihb e
  | label l' =>
    intro e
    simp only [noLab] at e
    by_cases hl : l' = l
    · subst hl; simp at e
    · simp [findLabel, hl]
  | _ => intro _; rfl

theorem restOf_seq {x y : Code} {l : Nat} (hx : ∀ l', x ≠ .label l') : restOf (.seq x y) l = cond (noLab x l) (restOf y l) none := by
  cases x <;> first | rfl | grind

theorem liftM_fr {C : Ctx} {x y : Code} {l : Nat} {A : Ann} {mok : List Nat} {s : St} {E : Env} {h : Hp} (hx : ∀ l', x ≠ .label l') :
    liftM C (.seq x y) (.fr l) A mok s E h = liftM C x .full A.fst mok s (E.nrm fun s' h' => liftM C y (.fr l) A.snd mok s' E h') h := by
  cases x <;> first | rfl | exact absurd rfl (hx _)

theorem liftM_pr {C : Ctx} {x y : Code} {l : Nat} {A : Ann} {mok : List Nat} {s : St} {E : Env} {h : Hp} (hx : ∀ l', x ≠ .label l') :
    liftM C (.seq x y) (.pr l) A mok s E h = match (generalizing := false) A with
      | .gj _ js mm z _ => cond (allIn mm mok) (liftM C x .full .tt mok s (E.noGto.nrm fun s' h' =>
          JoinT (fun (R : JTup C.tb js → Hp → Prop) => liftM C y (.fr l) z mm s' (E.lab l fun s' h' => getJ C.tb js s' fun x => R x h') h')
            (fun x h' => liftM C y (.rs l) A.snd mok (setJ C.tb js x (s'.forget (mods y) mm)) E.noGto h')) h) False
      | _ => liftM C x .full A.fst mok s (E.noGto.nrm fun s' h' => liftM C y (.pr l) A.snd mok s' E h') h := by
  cases x <;> first | rfl | exact absurd rfl (hx _)

theorem jump_of_noGoto {l : Nat} {Q : Exit → Act → World → Prop} {J : Act → World → Prop} {e : Exit} {a : Act} {w : World} (he : Exit.noGoto Q e a w) : Exit.jump l J Q e a w := by
  cases e <;> first | exact he | exact he.elim

theorem liftM_rs {C : Ctx} {x y : Code} {l : Nat} {A : Ann} {mok : List Nat} {s : St} {E : Env} {h : Hp} (hx : ∀ l', x ≠ .label l') :
    liftM C (.seq x y) (.rs l) A mok s E h = liftM C y (.rs l) A mok s E h := by
  cases x <;> first | rfl | grind

theorem restOf_find {l : Nat} {r : Code} : ∀ {c : Code}, restOf c l = some r → findLabel c l = some (.seq .skip r) := by
  intro c
  induction c with
  | seq x y ihx ihy =>
    intro e
    by_cases hx : ∃ l', x = .label l'
    · obtain ⟨l', rfl⟩ := hx
      obtain ⟨h1, e⟩ := condN e
      obtain rfl : y = r := Option.some.inj e
      obtain rfl := Nat.eq_of_beq_eq_true h1
      simp [findLabel]
    · rw [restOf_seq (fun l' e => hx ⟨l', e⟩)] at e
      obtain ⟨h1, e⟩ := condN e
      simp only [findLabel, noLab_find h1]
      exact ihy e
  | _ => intro e; simp [restOf] at e

/-- What is told of code is so. -/
theorem liftM_sound {C : Ctx} (ok : C.tb.Ok C.P) {n : Nat} : ∀ (c : Code),
    (∀ (A : Ann) (mok : List Nat) (s : St) (E : Env) (h : Hp), (∀ d ∈ mods c, d < n) → liftM C c .full A mok s E h → ∀ (β : Nat → Nat) (a : Act) (w : World), Rel n β s a h w →
      ∀ Q : Exit → Act → World → Prop, (∀ e s' h' β' a' w', E e s' h' → Rel n β' s' a' h' w' → Seg (mods c) mok (lives s) β a h w (lives s') β' a' h' w' → Q (exOf e) a' w') → c.wp C.P Q a w) ∧
    ∀ l r, restOf c l = some r →
      (∀ (A : Ann) (mok : List Nat) (s : St) (E : Env) (h : Hp), (∀ d ∈ mods c, d < n) → liftM C c (.fr l) A mok s E h → ∀ (β : Nat → Nat) (a : Act) (w : World), Rel n β s a h w →
        ∀ Q : Exit → Act → World → Prop, (∀ s' h' β' a' w', E .nrm s' h' → Rel n β' s' a' h' w' → Seg (mods c) mok (lives s) β a h w (lives s') β' a' h' w' → r.wp C.P Q a' w') →
        (∀ e s' h' β' a' w', e ≠ .nrm → E e s' h' → Rel n β' s' a' h' w' → Seg (mods c) mok (lives s) β a h w (lives s') β' a' h' w' → Q (exOf e) a' w') → c.wp C.P Q a w) ∧
      (∀ (A : Ann) (mok : List Nat) (s : St) (E : Env) (h : Hp), (∀ d ∈ mods c, d < n) → liftM C c (.rs l) A mok s E h → ∀ (β : Nat → Nat) (a : Act) (w : World), Rel n β s a h w →
        ∀ Q : Exit → Act → World → Prop, (∀ e s' h' β' a' w', E e s' h' → Rel n β' s' a' h' w' → Seg (mods c) mok (lives s) β a h w (lives s') β' a' h' w' → Q (exOf e) a' w') → r.wp C.P Q a w) ∧
      (∀ (A : Ann) (mok : List Nat) (s : St) (E : Env) (h : Hp), (∀ d ∈ mods c, d < n) → liftM C c (.pr l) A mok s E h → ∀ (β : Nat → Nat) (a : Act) (w : World), Rel n β s a h w →
        ∀ Q : Exit → Act → World → Prop, (∀ e s' h' β' a' w', (∀ i, e ≠ .gto i) → E e s' h' → Rel n β' s' a' h' w' → Seg (mods c) mok (lives s) β a h w (lives s') β' a' h' w' → Q (exOf e) a' w') →
        c.wp C.P (Exit.jump l (fun a' w' => r.wp C.P (Exit.noGoto Q) a' w') Q) a w) := by
  intro c
  induction c with
  | skip =>
    refine ⟨?_, fun l r e => by simp [restOf] at e⟩
    intro A mok s E h _ hv β a w hr Q hQ; exact wp_skip (hQ .nrm s h β a w hv hr (Seg.refl _ _))
  | ret =>
    refine ⟨?_, fun l r e => by simp [restOf] at e⟩
    intro A mok s E h _ hv β a w hr Q hQ; exact wp_ret (hQ .ret s h β a w hv hr (Seg.refl _ _))
  | exit i =>
    refine ⟨?_, fun l r e => by simp [restOf] at e⟩
    intro A mok s E h _ hv β a w hr Q hQ; exact wp_exit (hQ (.ext i) s h β a w hv hr (Seg.refl _ _))
  | goto i =>
    refine ⟨?_, fun l r e => by simp [restOf] at e⟩
    intro A mok s E h _ hv β a w hr Q hQ; exact wp_goto (hQ (.gto i) s h β a w hv hr (Seg.refl _ _))
  | label i =>
    refine ⟨?_, fun l r e => by simp [restOf] at e⟩
    intro A mok s E h _ hv β a w hr Q hQ; exact wp_label (hQ .nrm s h β a w hv hr (Seg.refl _ _))
  | region id ops draw =>
    refine ⟨?_, fun l r e => by simp [restOf] at e⟩
    intro A mok s E h hlt hv β a w hr Q hQ
    have hclean : ∀ s' : St, ∀ k, lives s'.clean k ↔ lives s' k := fun s' k => .rfl
    cases draw with
    | true =>
      simp only [liftM] at hv
      obtain ⟨hp, hv⟩ := condP hv
      obtain ⟨h1, hp⟩ := condT hp
      exact any_sound ok h1 hp hlt hr hv fun s' h' β' a' w' hk hr' hs' => hQ .nrm s'.clean h' β' a' w' hk hr' hs'
    | false =>
      simp only [liftM] at hv
      obtain ⟨hp, hv⟩ := condP hv
      unfold seqOk at hp
      obtain ⟨h1, hp⟩ := condT hp
      have hst := hr.start (allocsOf C.priv ops.toList)
      have main : ∀ g : Bool, (g = false → noGuard ops.toList = true) → (g = true → (modsO ops.toList).Nodup ∧ guardsBack ops.toList 0 = true) → (Code.region id ops false).wp C.P Q a w := by
        intro g hg1 hg2
        refine wp_region ?_
        have := seq_sound (n := n) (mok := mok) (K := fun s' h' => E .nrm s'.clean h') (Q := Q) ok g hlt hg1 hg2 ops.toList [] β _ a h w rfl (nodup_iff h1) hv
          (hst.congr (fun _ => .rfl) (fun _ => .rfl) (fun _ e => e.elim) (fun _ e => e)) (fun s' h' β' a' w' hk hr' hs' => hQ .nrm s'.clean h' β' a' w' hk hr'.clean
            (hs'.mono (fun _ e => e) (fun _ e => e) (fun k e => live_drop e) (fun _ e => e)))
        rw [List.range_eq_range']
        simpa using this
      cases hng : noGuard ops.toList with
      | true => exact main false (fun _ => hng) (fun e => by cases e)
      | false =>
        rw [hng] at hp
        simp only [cond_false] at hp
        obtain ⟨h2, h3⟩ := condT hp
        exact main true (fun e => by cases e) (fun _ => ⟨nodup_iff h2, h3⟩)
  | seq x y ihx ihy =>
    have hmx : ∀ d ∈ mods x, d ∈ mods (.seq x y) := fun d hd => app_mem.2 (.inl hd)
    have hmy : ∀ d ∈ mods y, d ∈ mods (.seq x y) := fun d hd => app_mem.2 (.inr hd)
    refine ⟨?_, fun l r e => ?_⟩
    rotate_left
    · by_cases hx : ∃ l', x = .label l'
      · obtain ⟨l', rfl⟩ := hx
        obtain ⟨-, e⟩ := condN e
        obtain rfl : y = r := Option.some.inj e
        refine ⟨fun A mok s E h hlt hv β a w hr Q h1 _ => ?_, fun A mok s E h hlt hv β a w hr Q hQ => ?_, fun A mok s E h hlt hv => hv.elim⟩
        · exact wp_seq (wp_label (h1 s h β a w hv hr (Seg.refl _ _)))
        · exact ihy.1 _ _ _ _ _ (fun d hd => hlt d (hmy d hd)) hv β a w hr Q fun e s' h' β' a' w' he hr' hs' => hQ e s' h' β' a' w' he hr' (hs'.mono hmy (fun _ e => e) (fun _ e => e) (fun _ e => e))
      · rw [restOf_seq (fun l' e => hx ⟨l', e⟩)] at e
        obtain ⟨-, e⟩ := condN e
        refine ⟨fun A mok s E h hlt hv β a w hr Q h1 h2 => ?_, fun A mok s E h hlt hv β a w hr Q hQ => ?_, fun A mok s E h hlt hv β a w hr Q hQ => ?_⟩
        · rw [liftM_fr (fun l' e => hx ⟨l', e⟩)] at hv
          refine wp_seq ?_
          refine ihx.1 _ mok s _ h (fun d hd => hlt d (hmx d hd)) hv β a w hr _ fun e' s' h' β' a' w' he hr' hs' => ?_
          have hs1 := hs'.mono (mm' := mok) hmx (fun _ e => e) (fun _ e => e) (fun _ e => e)
          cases e' with
          | nrm =>
            exact ((ihy.2 l r e).1 _ mok _ E h' (fun d hd => hlt d (hmy d hd)) he β' a' w' hr' Q
              (fun s2 h2 β2 a2 w2 he2 hrr hss => h1 s2 h2 β2 a2 w2 he2 hrr (hs1.trans (hss.mono hmy (fun _ e => e) (fun _ e => e) (fun _ e => e))))
              (fun e2 s2 h2' β2 a2 w2 hne he2 hrr hss => h2 e2 s2 h2' β2 a2 w2 hne he2 hrr (hs1.trans (hss.mono hmy (fun _ e => e) (fun _ e => e) (fun _ e => e)))))
          | ret => exact h2 .ret s' h' β' a' w' (by simp) he hr' hs1
          | ext i => exact h2 (.ext i) s' h' β' a' w' (by simp) he hr' hs1
          | gto i => exact h2 (.gto i) s' h' β' a' w' (by simp) he hr' hs1
        · rw [liftM_rs (fun l' e => hx ⟨l', e⟩)] at hv
          exact (ihy.2 l r e).2.1 _ mok s E h (fun d hd => hlt d (hmy d hd)) hv β a w hr Q fun e' s' h' β' a' w' he hr' hs' => hQ e' s' h' β' a' w' he hr' (hs'.mono hmy (fun _ e => e) (fun _ e => e) (fun _ e => e))
        · rw [liftM_pr (fun l' e => hx ⟨l', e⟩)] at hv
          have hly : ∀ d ∈ mods y, d < n := fun d hd => hlt d (hmy d hd)
          refine wp_seq ?_
          split at hv
          · rename_i js mm z _
            obtain ⟨hmm, hv⟩ := condP hv
            have hmm' := allIn_mem hmm
            refine ihx.1 _ mok s _ h (fun d hd => hlt d (hmx d hd)) hv β a w hr _ fun e' s0 h0 β0 a0 w0 he hr0 hs0 => ?_
            have hs0' := hs0.mono (mm' := mok) hmx (fun _ e => e) (fun _ e => e) (fun _ e => e)
            cases e' with
            | nrm =>
              obtain ⟨R, hA, hB⟩ := he
              have joined : ∀ s' h' β' a' w', Rel n β' s' a' h' w' → Seg (mods y) mm (lives s0) β0 a0 h0 w0 (lives s') β' a' h' w' → getJ C.tb js s' (fun z => R z h') → r.wp C.P (Exit.noGoto Q) a' w' := by
                intro s' h' β' a' w' hr' hs' hg
                obtain ⟨z, hz, hr2, hs2⟩ := join_rel ok hr0 hs' hr' hg
                refine (ihy.2 l r e).2.1 _ mok _ _ h' hly (hB z h' hz) β' a' w' hr2 _ fun e s2 h2 β2 a2 w2 he hr3 hs3 => ?_
                have hs4 := hs0'.trans (((hs2.mono (l' := mods y) (mm' := mok) (fun _ e => e) hmm' (fun _ e => e) (fun _ e => e)).trans hs3).mono hmy (fun _ e => e) (fun _ e => e) (fun _ e => e))
                cases e with
                | nrm => exact hQ .nrm s2 h2 β2 a2 w2 (by simp) he hr3 hs4
                | ret => exact hQ .ret s2 h2 β2 a2 w2 (by simp) he hr3 hs4
                | ext i => exact hQ (.ext i) s2 h2 β2 a2 w2 (by simp) he hr3 hs4
                | gto i => exact he.elim
              refine (ihy.2 l r e).1 _ mm s0 _ h0 hly hA β0 a0 w0 hr0 _ (fun s' h' β' a' w' he hr' hs' => ?_) fun e s' h' β' a' w' hne he hr' hs' => ?_
              · exact wp_mono (joined s' h' β' a' w' hr' hs' he) fun _ _ _ => jump_of_noGoto
              · have hs4 := hs0'.trans (hs'.mono (mm' := mok) hmy hmm' (fun _ e => e) (fun _ e => e))
                cases e with
                | nrm => grind
                | ret => exact hQ .ret s' h' β' a' w' (by simp) he hr' hs4
                | ext i => exact hQ (.ext i) s' h' β' a' w' (by simp) he hr' hs4
                | gto i =>
                  by_cases hi : i = l
                  · subst hi
                    simp only [Env.lab, Nat.beq_refl, cond_true] at he
                    exact ⟨rfl, joined s' h' β' a' w' hr' hs' he⟩
                  · simp only [Env.lab, beq_ne hi, cond_false] at he
            | ret => exact hQ .ret s0 h0 β0 a0 w0 (by simp) he hr0 hs0'
            | ext i => exact hQ (.ext i) s0 h0 β0 a0 w0 (by simp) he hr0 hs0'
            | gto i => exact he.elim
          · refine ihx.1 _ mok s _ h (fun d hd => hlt d (hmx d hd)) hv β a w hr _ fun e' s0 h0 β0 a0 w0 he hr0 hs0 => ?_
            have hs0' := hs0.mono (mm' := mok) hmx (fun _ e => e) (fun _ e => e) (fun _ e => e)
            cases e' with
            | nrm => exact (ihy.2 l r e).2.2 _ mok s0 E h0 hly he β0 a0 w0 hr0 Q fun e' s' h' β' a' w' hne he hr' hs' => hQ e' s' h' β' a' w' hne he hr' (hs0'.trans (hs'.mono hmy (fun _ e => e) (fun _ e => e) (fun _ e => e)))
            | ret => exact hQ .ret s0 h0 β0 a0 w0 (by simp) he hr0 hs0'
            | ext i => exact hQ (.ext i) s0 h0 β0 a0 w0 (by simp) he hr0 hs0'
            | gto i => exact he.elim
    intro A mok s E h hlt hv β a w hr Q hQ
    have hlx : ∀ d ∈ mods x, d < n := fun d hd => hlt d (app_mem.2 (.inl hd))
    have hly : ∀ d ∈ mods y, d < n := fun d hd => hlt d (app_mem.2 (.inr hd))
    refine wp_seq ?_
    unfold liftM at hv
    split at hv
    · rename_i js mm _ _
      obtain ⟨hmm, R, hA, hB⟩ := condP hv
      have hmm' := allIn_mem hmm
      refine ihx.1 _ mm s _ h hlx hA β a w hr _ fun e s' h' β' a' w' he hr' hs' => ?_
      cases e with
      | nrm =>
        obtain ⟨z, hz, hr2, hs2⟩ := join_rel ok hr hs' hr' he
        refine ihy.1 _ mok _ E h' hly (hB z h' hz) β' a' w' hr2 Q fun e2 s2 h2 β2 a2 w2 he2 hrr hss => ?_
        exact hQ e2 s2 h2 β2 a2 w2 he2 hrr ((hs2.mono hmx hmm' (fun _ e => e) (fun _ e => e)).trans (hss.mono hmy (fun _ e => e) (fun _ e => e) (fun _ e => e)))
      | ret => exact hQ .ret s' h' β' a' w' he hr' (hs'.mono hmx hmm' (fun _ e => e) (fun _ e => e))
      | ext i => exact hQ (.ext i) s' h' β' a' w' he hr' (hs'.mono hmx hmm' (fun _ e => e) (fun _ e => e))
      | gto i => exact hQ (.gto i) s' h' β' a' w' he hr' (hs'.mono hmx hmm' (fun _ e => e) (fun _ e => e))
    · rename_i k _ _
      obtain ⟨hk, hv⟩ := condP hv
      have hk := (has_iff _ _).1 hk
      refine ihx.1 _ mok s _ h hlx hv β a w hr _ fun e s' h' β' a' w' he hr' hs' => ?_
      cases e with
      | nrm =>
        obtain ⟨s1, h1, he, hr1, hs1⟩ := pub_rel (K := fun s2 h2 => liftM C y .full _ mok s2 E h2) hk hs' hr' he
        refine ihy.1 _ mok _ E h1 hly he β' a' w' hr1 Q fun e2 s2 h2 β2 a2 w2 he2 hrr hss => ?_
        exact hQ e2 s2 h2 β2 a2 w2 he2 hrr ((hs1.mono hmx (fun _ e => e) (fun _ e => e) (fun _ e => e)).trans (hss.mono hmy (fun _ e => e) (fun _ e => e) (fun _ e => e)))
      | ret => exact hQ .ret s' h' β' a' w' he hr' (hs'.mono hmx (fun _ e => e) (fun _ e => e) (fun _ e => e))
      | ext i => exact hQ (.ext i) s' h' β' a' w' he hr' (hs'.mono hmx (fun _ e => e) (fun _ e => e) (fun _ e => e))
      | gto i => exact hQ (.gto i) s' h' β' a' w' he hr' (hs'.mono hmx (fun _ e => e) (fun _ e => e) (fun _ e => e))
    · refine ihx.1 _ mok s _ h hlx hv β a w hr _ fun e s' h' β' a' w' he hr' hs' => ?_
      cases e with
      | nrm =>
        refine ihy.1 _ mok _ E h' hly he β' a' w' hr' Q fun e2 s2 h2 β2 a2 w2 he2 hrr hss => ?_
        exact hQ e2 s2 h2 β2 a2 w2 he2 hrr ((hs'.mono hmx (fun _ e => e) (fun _ e => e) (fun _ e => e)).trans (hss.mono hmy (fun _ e => e) (fun _ e => e) (fun _ e => e)))
      | ret => exact hQ .ret s' h' β' a' w' he hr' (hs'.mono hmx (fun _ e => e) (fun _ e => e) (fun _ e => e))
      | ext i => exact hQ (.ext i) s' h' β' a' w' he hr' (hs'.mono hmx (fun _ e => e) (fun _ e => e) (fun _ e => e))
      | gto i => exact hQ (.gto i) s' h' β' a' w' he hr' (hs'.mono hmx (fun _ e => e) (fun _ e => e) (fun _ e => e))
  | cond c x y ihx ihy =>
    refine ⟨?_, fun l r e => by simp [restOf] at e⟩
    intro A mok s E h hlt hv β a w hr Q hQ
    have hlx : ∀ d ∈ mods x, d < n := fun d hd => hlt d (app_mem.2 (.inl hd))
    have hly : ∀ d ∈ mods y, d < n := fun d hd => hlt d (app_mem.2 (.inr hd))
    simp only [liftM] at hv
    obtain ⟨v, hev, hv⟩ := onV_some hv
    split at hv
    · rename_i t
      have hc := ev_ok (opnd_rr hr (x := c) fun _ _ => trivial) (holds_nil s) hev
      refine wp_cond_split (t := t) hc (fun ht => ?_) (fun ht => ?_)
      · rw [if_pos ht] at hv
        exact ihx.1 _ mok s E h hlx hv β a w hr Q fun e s' h' β' a' w' he hr' hs' => hQ e s' h' β' a' w' he hr' (hs'.mono (fun d hd => app_mem.2 (.inl hd)) (fun _ e => e) (fun _ e => e) (fun _ e => e))
      · rw [if_neg (by rw [ht]; simp)] at hv
        exact ihy.1 _ mok s E h hly hv β a w hr Q fun e s' h' β' a' w' he hr' hs' => hQ e s' h' β' a' w' he hr' (hs'.mono (fun d hd => app_mem.2 (.inr hd)) (fun _ e => e) (fun _ e => e) (fun _ e => e))
    · exact hv.elim
  | block id x ih =>
    refine ⟨?_, fun l r e => by simp [restOf] at e⟩
    intro A mok s E h hlt hv β a w hr Q hQ
    refine wp_block ?_
    unfold liftM at hv
    split at hv
    · rename_i js mm _
      obtain ⟨hmm, R, hA, hB⟩ := condP hv
      have hmm' := allIn_mem hmm
      refine ih.1 _ mm s _ h hlt hA β a w hr _ fun e s' h' β' a' w' he hr' hs' => ?_
      have joined : getJ C.tb js s' (fun x => R x h') → Q .normal a' w' := fun hg => by
        obtain ⟨z, hz, hr2, hs2⟩ := join_rel ok hr hs' hr' hg
        exact hQ .nrm _ h' β' a' w' (hB z h' hz) hr2 (hs2.mono (fun _ e => e) hmm' (fun _ e => e) (fun _ e => e))
      cases e with
      | nrm => exact joined he
      | ret => exact hQ .ret s' h' β' a' w' he hr' (hs'.mono (fun _ e => e) hmm' (fun _ e => e) (fun _ e => e))
      | ext i =>
        simp only [exOf, Exit.inBlock]
        by_cases hi : i = id
        · subst hi
          simp only [Env.blk, Nat.beq_refl, cond_true] at he
          grind
        · rw [if_neg hi]
          simp only [Env.blk, beq_ne hi, cond_false] at he
          exact hQ (.ext i) s' h' β' a' w' he hr' (hs'.mono (fun _ e => e) hmm' (fun _ e => e) (fun _ e => e))
      | gto i => exact hQ (.gto i) s' h' β' a' w' he hr' (hs'.mono (fun _ e => e) hmm' (fun _ e => e) (fun _ e => e))
    · refine ih.1 _ mok s _ h hlt hv β a w hr _ fun e s' h' β' a' w' he hr' hs' => ?_
      cases e with
      | nrm => exact hQ .nrm s' h' β' a' w' he hr' hs'
      | ret => exact hQ .ret s' h' β' a' w' he hr' hs'
      | ext i =>
        simp only [exOf, Exit.inBlock]
        by_cases hi : i = id
        · subst hi
          simp only [Env.blk, Nat.beq_refl, cond_true] at he
          rw [if_pos rfl]
          exact hQ .nrm s' h' β' a' w' he hr' hs'
        · rw [if_neg hi]
          simp only [Env.blk, beq_ne hi, cond_false] at he
          exact hQ (.ext i) s' h' β' a' w' he hr' hs'
      | gto i => exact hQ (.gto i) s' h' β' a' w' he hr' hs'
  | scope x ih =>
    refine ⟨?_, fun l r e => by simp [restOf] at e⟩
    intro A mok s E h hlt hv β a w hr Q hQ
    unfold liftM at hv
    split at hv
    · rename_i l _
      split at hv
      · rename_i r hrest
        refine wp_scope_jumps l (fun a' w' => r.wp C.P (Exit.noGoto Q) a' w') (fun _ _ => 0) (restOf_find hrest) ?_ fun a' w' hJ => wp_seq (wp_skip (wp_mono hJ fun _ _ _ => jump_of_noGoto))
        exact (ih.2 l r hrest).2.2 _ mok s E h hlt hv β a w hr Q fun e s' h' β' a' w' _ he hr' hs' => hQ e s' h' β' a' w' he hr' hs'
      · exact hv.elim
    · refine wp_scope_straight ?_
      refine ih.1 _ mok s _ h hlt hv β a w hr _ fun e s' h' β' a' w' he hr' hs' => ?_
      cases e with
      | nrm => exact hQ .nrm s' h' β' a' w' he hr' hs'
      | ret => exact hQ .ret s' h' β' a' w' he hr' hs'
      | ext i => exact hQ (.ext i) s' h' β' a' w' he hr' hs'
      | gto i => exact he.elim
  | loop x ih =>
    refine ⟨?_, fun l r e => by simp [restOf] at e⟩
    intro A mok s E h hlt hv β a w hr Q hQ
    unfold liftM at hv
    split at hv
    · rename_i js mm _
      obtain ⟨hmm, hv⟩ := condP hv
      have hmm' := allIn_mem hmm
      obtain ⟨x0, hx0, hr0, hs0⟩ := join_rel ok hr (Seg.refl (l := mods x) (mm := mm)) hr hv
      obtain ⟨I, μ, hI, hbody⟩ := hx0
      refine wp_loop_count (fun m a' w' => ∃ z h' β', I z h' ∧ μ z h' = m ∧ Rel n β' (setJ C.tb js z (s.forget (mods x) mm)) a' h' w' ∧ Seg (mods x) mm (lives s) β a h w (lives (setJ C.tb js z (s.forget (mods x) mm))) β' a' h' w')
        ⟨_, x0, h, β, hI, rfl, hr0, hs0⟩ ?_
      rintro m a' w' ⟨z, h', β', hz, rfl, hr1, hs1⟩
      refine ih.1 _ mm _ _ h' hlt (hbody z h' hz) β' a' w' hr1 _ fun e s2 h2 β2 a2 w2 he hr2 hs2 => ?_
      have hs12 := hs1.trans hs2
      cases e with
      | nrm =>
        obtain ⟨z2, hz2, hr3, hs3⟩ := join_rel ok hr hs12 hr2 he
        exact ⟨_, hz2.2, z2, h2, β2, hz2.1, rfl, hr3, hs3⟩
      | ret => exact hQ .ret s2 h2 β2 a2 w2 he hr2 (hs12.mono (fun _ e => e) hmm' (fun _ e => e) (fun _ e => e))
      | ext i => exact hQ (.ext i) s2 h2 β2 a2 w2 he hr2 (hs12.mono (fun _ e => e) hmm' (fun _ e => e) (fun _ e => e))
      | gto i => exact hQ (.gto i) s2 h2 β2 a2 w2 he hr2 (hs12.mono (fun _ e => e) hmm' (fun _ e => e) (fun _ e => e))
    · exact hv.elim
  | _ => exact ⟨fun A mok s E h _ hv => hv.elim, fun l r e => by simp [restOf] at e⟩

theorem lift_sound {C : Ctx} (ok : C.tb.Ok C.P) {n : Nat} (c : Code) (A : Ann) (mok : List Nat) (s : St) (E : Env) (h : Hp) (hlt : ∀ d ∈ mods c, d < n) (hv : liftM C c .full A mok s E h) (β : Nat → Nat) (a : Act) (w : World) (hr : Rel n β s a h w)
    (Q : Exit → Act → World → Prop) (hQ : ∀ e s' h' β' a' w', E e s' h' → Rel n β' s' a' h' w' → Seg (mods c) mok (lives s) β a h w (lives s') β' a' h' w' → Q (exOf e) a' w') : c.wp C.P Q a w :=
  (liftM_sound ok c).1 A mok s E h hlt hv β a w hr Q hQ

end Lf

/-
  The lifting layer, part 24: whole functions.
-/
namespace Lf
open Go

def resRun (tmps : Array Value) : ResultVar → Sem Value
  | .tmp t => pure (tmps.getD t undef)
  | .cell a t => do loadVar t (← asAddr (tmps.getD a undef))

def resVal : List Value → Value
  | [v] => v
  | vs => .tuple vs.toArray

theorem results_run {P : Program} {fn : Func} {tmps : Array Value} {vs : List Value} {w : World} (h : (fn.results.toList.mapM (resRun tmps)).run P w = .ok vs w) : (results fn tmps).run P w = .ok (resVal vs) w := by
  have e : results fn tmps = ((fn.results.mapM (resRun tmps)) >>= fun vs => pure (if h : vs.size = 1 then vs[0] else .tuple vs)) := by
    unfold results
    congr 1
  rw [e, Array.mapM_eq_mapM_toList, map_eq_pure_bind]
  simp only [Sem.run_bind, h, Result.andThen_ok, Sem.run_pure]
  cases vs with
  | nil => rfl
  | cons v vs => cases vs <;> simp [resVal]

theorem run_loadSh {P : Program} {tb : Tb} (ok : tb.Ok P) {t : Nat} {e : Ty} (he : tb.ty t = some e) {w : World} {a : Addr} {x : (shOf tb t).T}
    (hc : ∀ (j : Nat) (v : Value), (cellsL ((shOf tb t).enc x))[j]? = some v → w.cell? (a.add j) = some v) : (loadVar t a).run P w = .ok ((shOf tb t).enc x) w := by
  revert x
  rw [shOf_eq, he]
  intro x hc
  exact run_loadVar ok he hc

section
variable {C : Ctx} {n : Nat} {β : Nat → Nat} {s : St} {a : Act} {h : Hp} {w : World}

theorem retOne_run (ok : C.tb.Ok C.P) (hr : Rel n β s a h w) {r : ResultVar} {t : Nat} {K : (shOf C.tb t).T → Prop} (hv : retOne C s r t K) : ∃ x, K x ∧ (resRun a.tmps r).run C.P w = .ok ((shOf C.tb t).enc x) w := by
  cases r with
  | tmp i =>
    simp only [retOne] at hv
    split at hv
    · rename_i v hf
      · obtain ⟨x, hx, hv⟩ := decK_is hv
        refine ⟨x, hv, ?_⟩
        have := (hr.cur i _ [] hf trivial (holds_nil _)).1
        rw [hx]
        simp only [resRun, Sem.run_pure]
        exact congrArg (fun v => Result.ok v w) this
    · exact hv.elim
  | cell i ct =>
    simp only [retOne] at hv
    obtain ⟨h1, hv⟩ := condP hv
    have h1 := Nat.eq_of_beq_eq_true h1
    subst h1
    split at hv
    · rename_i k e hf he
      split at hv
      · rename_i cs hm
        split at hv
        · rename_i v hcs
          · obtain ⟨x, hx, hv⟩ := decK_is hv
            refine ⟨x, hv, ?_⟩
            have hc := cells_of ok hcs hx
            obtain ⟨_, t', hb⟩ := hr.box k cs hm trivial
            have := (hr.cur i _ [] hf trivial (holds_nil _)).1
            have h2 : a.tmps.getD i undef = .pointer (some ⟨β k, 0, none⟩) := this
            simp only [resRun, h2, asAddr, Sem.run_bind, Sem.run_pure, Result.andThen_ok]
            refine run_loadSh ok he fun j v hj => ?_
            rw [hc] at hj
            rw [box_add, box_cell hb]
            simpa using hj
        · exact hv.elim
      · exact hv.elim
    · exact hv.elim

theorem retW_run (ok : C.tb.Ok C.P) (hr : Rel n β s a h w) {rs : List ResultVar} {ts : List Nat} {K : (shRes C.tb ts).T → Hp → Prop} (hv : retW C s h rs ts K) :
    ∃ x vs, K x h ∧ (rs.mapM (resRun a.tmps)).run C.P w = .ok vs w ∧ resVal vs = (shRes C.tb ts).enc x := by
  have step : ∀ {r : ResultVar} {rs : List ResultVar} {v : Value} {vs : List Value}, (resRun a.tmps r).run C.P w = .ok v w → (rs.mapM (resRun a.tmps)).run C.P w = .ok vs w → ((r :: rs).mapM (resRun a.tmps)).run C.P w = .ok (v :: vs) w := by
    intro r rs v vs h1 h2
    simp only [List.mapM_cons, Sem.run_bind, h1, h2, Result.andThen_ok, Sem.run_pure]
  have nil : (([] : List ResultVar).mapM (resRun a.tmps)).run C.P w = .ok [] w := by simp
  unfold retW at hv
  split at hv
  · exact ⟨(), [], hv, nil, rfl⟩
  · obtain ⟨x, hk, h1⟩ := retOne_run ok hr hv
    exact ⟨x, _, hk, step h1 nil, rfl⟩
  · obtain ⟨x1, hv, h1⟩ := retOne_run ok hr hv
    obtain ⟨x2, hk, h2⟩ := retOne_run ok hr hv
    exact ⟨(x1, x2), _, hk, step h1 (step h2 nil), rfl⟩
  · obtain ⟨x1, hv, h1⟩ := retOne_run ok hr hv
    obtain ⟨x2, hv, h2⟩ := retOne_run ok hr hv
    obtain ⟨x3, hk, h3⟩ := retOne_run ok hr hv
    exact ⟨(x1, x2, x3), _, hk, step h1 (step h2 (step h3 nil)), rfl⟩
  · obtain ⟨x1, hv, h1⟩ := retOne_run ok hr hv
    obtain ⟨x2, hv, h2⟩ := retOne_run ok hr hv
    obtain ⟨x3, hv, h3⟩ := retOne_run ok hr hv
    obtain ⟨x4, hk, h4⟩ := retOne_run ok hr hv
    exact ⟨(x1, x2, x3, x4), _, hk, step h1 (step h2 (step h3 (step h4 nil))), rfl⟩
  · obtain ⟨x1, hv, h1⟩ := retOne_run ok hr hv
    obtain ⟨x2, hv, h2⟩ := retOne_run ok hr hv
    obtain ⟨x3, hv, h3⟩ := retOne_run ok hr hv
    obtain ⟨x4, hv, h4⟩ := retOne_run ok hr hv
    obtain ⟨x5, hk, h5⟩ := retOne_run ok hr hv
    exact ⟨(x1, x2, x3, x4, x5), _, hk, step h1 (step h2 (step h3 (step h4 (step h5 nil)))), rfl⟩
  · obtain ⟨x1, hv, h1⟩ := retOne_run ok hr hv
    obtain ⟨x2, hv, h2⟩ := retOne_run ok hr hv
    obtain ⟨x3, hv, h3⟩ := retOne_run ok hr hv
    obtain ⟨x4, hv, h4⟩ := retOne_run ok hr hv
    obtain ⟨x5, hv, h5⟩ := retOne_run ok hr hv
    obtain ⟨x6, hv, h6⟩ := retOne_run ok hr hv
    obtain ⟨x7, hk, h7⟩ := retOne_run ok hr hv
    exact ⟨(x1, x2, x3, x4, x5, x6, x7), _, hk, step h1 (step h2 (step h3 (step h4 (step h5 (step h6 (step h7 nil)))))), rfl⟩
  · exact hv.elim

end

theorem allLt_mem {n : Nat} {l : List Nat} (h : allLt n l = true) : ∀ d ∈ l, d < n := by
  induction l with
  | nil => simp
  | cons a l ih =>
    simp only [allLt] at h
    obtain ⟨h1, h2⟩ := condT h
    intro d hd
    rcases List.mem_cons.1 hd with rfl | hd
    · have : d + 1 ≤ n := by simpa [Nat.blt] using h1
      exact this
    grind

/-- What is told of a function is so. -/
theorem fun_sound {C : Ctx} (ok : C.tb.Ok C.P) {g : FuncId} {f : Func} {c : Code} {A : Ann} {args : List Value} {K : (shRes C.tb f.resultTypes.toList).T → Hp → Prop} {h : Hp} (hf : C.P.funcs[g]? = some f) (hb : f.body = some c)
    (hv : funW C f A args K h) : CallT C.P g args (shRes C.tb f.resultTypes.toList) K h := by
  intro w hs
  unfold funW at hv
  obtain ⟨hc, hv⟩ := condP hv
  obtain ⟨h1, h2⟩ := condT hc
  have h1 : args.length ≤ f.ntmps := Nat.le_of_ble_eq_true h1
  have hbody : bodyOf f = c := by unfold bodyOf; rw [hb]
  rw [hbody] at hv h2
  refine calls_of_wp hf hb ?_
  have hget : ∀ (t : Nat) (v : Value), args[t]? = some v → (args.toArray ++ Array.replicate (f.ntmps - args.toArray.size) undef)[t]? = some v := by
    grind
  have hargs : ∀ (t : Nat) (l : LV) (c : Chain), argsF args t = some (l, c) → ∃ v, args[t]? = some v ∧ l = .v v ∧ c = [] := by
    intro t l c e
    unfold argsF at e
    rw [nth_get] at e
    grind
  have hrel : Rel f.ntmps (fun _ => 0) { f := argsF args, m := fun _ => none } { tmps := args.toArray ++ Array.replicate (f.ntmps - args.toArray.size) undef, defers := [] } h w := by
    refine ⟨by simp; omega, hs, fun t l c e => ?_, fun t l c e p hp => ?_, fun t l c e _ _ => ?_, fun t l c e _ hh => ?_, fun k cs e _ => (by cases e), fun k k' e => absurd rfl e, fun _ e => e.elim, fun _ e => e.elim⟩
    · grind
    · grind
    · obtain ⟨v, h3, rfl, rfl⟩ := hargs t l c e
      refine ⟨?_, fun _ _ _ => trivial⟩
      simp only [Act.eval, LVal, Array.getD_eq_getD_getElem?, hget t v h3, Option.getD_some]
    · obtain ⟨v, h3, rfl, rfl⟩ := hargs t l c e
      exact absurd (holds_nil _) hh
  refine lift_sound ok c A C.priv _ _ h (allLt_mem h2) hv _ _ w hrel _ fun e s' h' β' a' w' he hr' hs' => ?_
  have hst : Step h h' w w' := ⟨hr'.sub, hs'.size, fun b hb hn => ⟨hs'.keep b hb hn (fun k _ hl => absurd rfl hl.1), hs'.unk b hb hn (fun k _ hl => absurd rfl hl.1)⟩, hs'.os, hs'.tape, hs'.output⟩
  have done : retW C s' h' f.results.toList f.resultTypes.toList K → a'.defers = [] ∧ ∃ v, (results f a'.tmps).run C.P w' = .ok v w' ∧ ∃ u h2, Ending.returned v = .returned u ∧ (∃ x, u = (shRes C.tb f.resultTypes.toList).enc x ∧ K x h2) ∧ Step h h2 w w' := by
    intro hw
    obtain ⟨x, vs, hk, hrun, hval⟩ := retW_run ok hr' hw
    exact ⟨hs'.defers, _, results_run hrun, _, h', rfl, ⟨x, hval, hk⟩, hst⟩
  cases e with
  | nrm => exact done he
  | ret => exact done he
  | ext i => exact he.elim
  | gto i => exact he.elim

end Lf

/-
  The lifting layer, part 4: the same words for several variables, one behind the other.
-/
namespace Lf
open Go

def JoinW0 (A : (Hp → Prop) → Prop) (B : Hp → Prop) : Prop :=
  JoinT (σ := Unit) (fun R => A (fun h => R () h)) (fun _ h => B  h)
theorem JoinW0.intro {A : (Hp → Prop) → Prop} {B : Hp → Prop} (R : Hp → Prop) (hA : A R) (hB : ∀ h, R h → B h) : JoinW0 A B :=
  ⟨fun _ h => R  h, hA, fun _ h hr => hB  h hr⟩
theorem JoinW0.direct {A : (Hp → Prop) → Prop} {B : Hp → Prop} (hA : A B) : JoinW0 A B := JoinW0.intro B hA (fun _ hr => hr)
def JoinW1 {α1 : Type} (A : (α1 → Hp → Prop) → Prop) (B : α1 → Hp → Prop) : Prop :=
  JoinT (σ := α1) (fun R => A (fun x1 h => R x1 h)) (fun p h => B p h)
theorem JoinW1.intro {α1 : Type} {A : (α1 → Hp → Prop) → Prop} {B : α1 → Hp → Prop} (R : α1 → Hp → Prop) (hA : A R) (hB : ∀ x1 h, R x1 h → B x1 h) : JoinW1 A B :=
  ⟨fun p h => R p h, hA, fun p h hr => hB p h hr⟩
theorem JoinW1.direct {α1 : Type} {A : (α1 → Hp → Prop) → Prop} {B : α1 → Hp → Prop} (hA : A B) : JoinW1 A B := JoinW1.intro B hA (fun _ _ hr => hr)
def LoopW1 {α1 : Type} (body : (α1 → Hp → Prop) → α1 → Hp → Prop) (x1 : α1) (h : Hp) : Prop :=
  LoopT (σ := α1) (fun R p h => body (fun x1 h => R x1 h) p h) x1 h
theorem LoopW1.intro {α1 : Type} {body : (α1 → Hp → Prop) → α1 → Hp → Prop} {x1 : α1} {h : Hp} (I : α1 → Hp → Prop) (μ : α1 → Hp → Nat)
    (h0 : I x1 h) (hr : ∀ x1 k, I x1 k → body (fun y1 k' => I y1 k' ∧ μ y1 k' < μ x1 k) x1 k) : LoopW1 body x1 h :=
  ⟨fun p h => I p h, fun p h => μ p h, h0, fun p k hk => hr p k hk⟩

def JoinW2 {α1 α2 : Type} (A : (α1 → α2 → Hp → Prop) → Prop) (B : α1 → α2 → Hp → Prop) : Prop :=
  JoinT (σ := α1 × α2) (fun R => A (fun x1 x2 h => R (x1, x2) h)) (fun p h => B p.1 p.2 h)
theorem JoinW2.intro {α1 α2 : Type} {A : (α1 → α2 → Hp → Prop) → Prop} {B : α1 → α2 → Hp → Prop} (R : α1 → α2 → Hp → Prop) (hA : A R) (hB : ∀ x1 x2 h, R x1 x2 h → B x1 x2 h) : JoinW2 A B :=
  ⟨fun p h => R p.1 p.2 h, hA, fun p h hr => hB p.1 p.2 h hr⟩
theorem JoinW2.direct {α1 α2 : Type} {A : (α1 → α2 → Hp → Prop) → Prop} {B : α1 → α2 → Hp → Prop} (hA : A B) : JoinW2 A B := JoinW2.intro B hA (fun _ _ _ hr => hr)
def LoopW2 {α1 α2 : Type} (body : (α1 → α2 → Hp → Prop) → α1 → α2 → Hp → Prop) (x1 : α1) (x2 : α2) (h : Hp) : Prop :=
  LoopT (σ := α1 × α2) (fun R p h => body (fun x1 x2 h => R (x1, x2) h) p.1 p.2 h) (x1, x2) h
theorem LoopW2.intro {α1 α2 : Type} {body : (α1 → α2 → Hp → Prop) → α1 → α2 → Hp → Prop} {x1 : α1} {x2 : α2} {h : Hp} (I : α1 → α2 → Hp → Prop) (μ : α1 → α2 → Hp → Nat)
    (h0 : I x1 x2 h) (hr : ∀ x1 x2 k, I x1 x2 k → body (fun y1 y2 k' => I y1 y2 k' ∧ μ y1 y2 k' < μ x1 x2 k) x1 x2 k) : LoopW2 body x1 x2 h :=
  ⟨fun p h => I p.1 p.2 h, fun p h => μ p.1 p.2 h, h0, fun p k hk => hr p.1 p.2 k hk⟩

def JoinW3 {α1 α2 α3 : Type} (A : (α1 → α2 → α3 → Hp → Prop) → Prop) (B : α1 → α2 → α3 → Hp → Prop) : Prop :=
  JoinT (σ := α1 × α2 × α3) (fun R => A (fun x1 x2 x3 h => R (x1, x2, x3) h)) (fun p h => B p.1 p.2.1 p.2.2 h)
theorem JoinW3.intro {α1 α2 α3 : Type} {A : (α1 → α2 → α3 → Hp → Prop) → Prop} {B : α1 → α2 → α3 → Hp → Prop} (R : α1 → α2 → α3 → Hp → Prop) (hA : A R) (hB : ∀ x1 x2 x3 h, R x1 x2 x3 h → B x1 x2 x3 h) : JoinW3 A B :=
  ⟨fun p h => R p.1 p.2.1 p.2.2 h, hA, fun p h hr => hB p.1 p.2.1 p.2.2 h hr⟩
theorem JoinW3.direct {α1 α2 α3 : Type} {A : (α1 → α2 → α3 → Hp → Prop) → Prop} {B : α1 → α2 → α3 → Hp → Prop} (hA : A B) : JoinW3 A B := JoinW3.intro B hA (fun _ _ _ _ hr => hr)
def LoopW3 {α1 α2 α3 : Type} (body : (α1 → α2 → α3 → Hp → Prop) → α1 → α2 → α3 → Hp → Prop) (x1 : α1) (x2 : α2) (x3 : α3) (h : Hp) : Prop :=
  LoopT (σ := α1 × α2 × α3) (fun R p h => body (fun x1 x2 x3 h => R (x1, x2, x3) h) p.1 p.2.1 p.2.2 h) (x1, x2, x3) h
theorem LoopW3.intro {α1 α2 α3 : Type} {body : (α1 → α2 → α3 → Hp → Prop) → α1 → α2 → α3 → Hp → Prop} {x1 : α1} {x2 : α2} {x3 : α3} {h : Hp} (I : α1 → α2 → α3 → Hp → Prop) (μ : α1 → α2 → α3 → Hp → Nat)
    (h0 : I x1 x2 x3 h) (hr : ∀ x1 x2 x3 k, I x1 x2 x3 k → body (fun y1 y2 y3 k' => I y1 y2 y3 k' ∧ μ y1 y2 y3 k' < μ x1 x2 x3 k) x1 x2 x3 k) : LoopW3 body x1 x2 x3 h :=
  ⟨fun p h => I p.1 p.2.1 p.2.2 h, fun p h => μ p.1 p.2.1 p.2.2 h, h0, fun p k hk => hr p.1 p.2.1 p.2.2 k hk⟩

def JoinW4 {α1 α2 α3 α4 : Type} (A : (α1 → α2 → α3 → α4 → Hp → Prop) → Prop) (B : α1 → α2 → α3 → α4 → Hp → Prop) : Prop :=
  JoinT (σ := α1 × α2 × α3 × α4) (fun R => A (fun x1 x2 x3 x4 h => R (x1, x2, x3, x4) h)) (fun p h => B p.1 p.2.1 p.2.2.1 p.2.2.2 h)
theorem JoinW4.intro {α1 α2 α3 α4 : Type} {A : (α1 → α2 → α3 → α4 → Hp → Prop) → Prop} {B : α1 → α2 → α3 → α4 → Hp → Prop} (R : α1 → α2 → α3 → α4 → Hp → Prop) (hA : A R) (hB : ∀ x1 x2 x3 x4 h, R x1 x2 x3 x4 h → B x1 x2 x3 x4 h) : JoinW4 A B :=
  ⟨fun p h => R p.1 p.2.1 p.2.2.1 p.2.2.2 h, hA, fun p h hr => hB p.1 p.2.1 p.2.2.1 p.2.2.2 h hr⟩
theorem JoinW4.direct {α1 α2 α3 α4 : Type} {A : (α1 → α2 → α3 → α4 → Hp → Prop) → Prop} {B : α1 → α2 → α3 → α4 → Hp → Prop} (hA : A B) : JoinW4 A B := JoinW4.intro B hA (fun _ _ _ _ _ hr => hr)
def JoinW5 {α1 α2 α3 α4 α5 : Type} (A : (α1 → α2 → α3 → α4 → α5 → Hp → Prop) → Prop) (B : α1 → α2 → α3 → α4 → α5 → Hp → Prop) : Prop :=
  JoinT (σ := α1 × α2 × α3 × α4 × α5) (fun R => A (fun x1 x2 x3 x4 x5 h => R (x1, x2, x3, x4, x5) h)) (fun p h => B p.1 p.2.1 p.2.2.1 p.2.2.2.1 p.2.2.2.2 h)
theorem JoinW5.intro {α1 α2 α3 α4 α5 : Type} {A : (α1 → α2 → α3 → α4 → α5 → Hp → Prop) → Prop} {B : α1 → α2 → α3 → α4 → α5 → Hp → Prop} (R : α1 → α2 → α3 → α4 → α5 → Hp → Prop) (hA : A R) (hB : ∀ x1 x2 x3 x4 x5 h, R x1 x2 x3 x4 x5 h → B x1 x2 x3 x4 x5 h) : JoinW5 A B :=
  ⟨fun p h => R p.1 p.2.1 p.2.2.1 p.2.2.2.1 p.2.2.2.2 h, hA, fun p h hr => hB p.1 p.2.1 p.2.2.1 p.2.2.2.1 p.2.2.2.2 h hr⟩
theorem JoinW5.direct {α1 α2 α3 α4 α5 : Type} {A : (α1 → α2 → α3 → α4 → α5 → Hp → Prop) → Prop} {B : α1 → α2 → α3 → α4 → α5 → Hp → Prop} (hA : A B) : JoinW5 A B := JoinW5.intro B hA (fun _ _ _ _ _ _ hr => hr)
def JoinW8 {α1 α2 α3 α4 α5 α6 α7 α8 : Type} (A : (α1 → α2 → α3 → α4 → α5 → α6 → α7 → α8 → Hp → Prop) → Prop) (B : α1 → α2 → α3 → α4 → α5 → α6 → α7 → α8 → Hp → Prop) : Prop :=
  JoinT (σ := α1 × α2 × α3 × α4 × α5 × α6 × α7 × α8) (fun R => A (fun x1 x2 x3 x4 x5 x6 x7 x8 h => R (x1, x2, x3, x4, x5, x6, x7, x8) h)) (fun p h => B p.1 p.2.1 p.2.2.1 p.2.2.2.1 p.2.2.2.2.1 p.2.2.2.2.2.1 p.2.2.2.2.2.2.1 p.2.2.2.2.2.2.2 h)
theorem JoinW8.intro {α1 α2 α3 α4 α5 α6 α7 α8 : Type} {A : (α1 → α2 → α3 → α4 → α5 → α6 → α7 → α8 → Hp → Prop) → Prop} {B : α1 → α2 → α3 → α4 → α5 → α6 → α7 → α8 → Hp → Prop} (R : α1 → α2 → α3 → α4 → α5 → α6 → α7 → α8 → Hp → Prop) (hA : A R) (hB : ∀ x1 x2 x3 x4 x5 x6 x7 x8 h, R x1 x2 x3 x4 x5 x6 x7 x8 h → B x1 x2 x3 x4 x5 x6 x7 x8 h) : JoinW8 A B :=
  ⟨fun p h => R p.1 p.2.1 p.2.2.1 p.2.2.2.1 p.2.2.2.2.1 p.2.2.2.2.2.1 p.2.2.2.2.2.2.1 p.2.2.2.2.2.2.2 h, hA, fun p h hr => hB p.1 p.2.1 p.2.2.1 p.2.2.2.1 p.2.2.2.2.1 p.2.2.2.2.2.1 p.2.2.2.2.2.2.1 p.2.2.2.2.2.2.2 h hr⟩
theorem JoinW8.direct {α1 α2 α3 α4 α5 α6 α7 α8 : Type} {A : (α1 → α2 → α3 → α4 → α5 → α6 → α7 → α8 → Hp → Prop) → Prop} {B : α1 → α2 → α3 → α4 → α5 → α6 → α7 → α8 → Hp → Prop} (hA : A B) : JoinW8 A B := JoinW8.intro B hA (fun _ _ _ _ _ _ _ _ _ hr => hr)
def JoinW9 {α1 α2 α3 α4 α5 α6 α7 α8 α9 : Type} (A : (α1 → α2 → α3 → α4 → α5 → α6 → α7 → α8 → α9 → Hp → Prop) → Prop) (B : α1 → α2 → α3 → α4 → α5 → α6 → α7 → α8 → α9 → Hp → Prop) : Prop :=
  JoinT (σ := α1 × α2 × α3 × α4 × α5 × α6 × α7 × α8 × α9) (fun R => A (fun x1 x2 x3 x4 x5 x6 x7 x8 x9 h => R (x1, x2, x3, x4, x5, x6, x7, x8, x9) h)) (fun p h => B p.1 p.2.1 p.2.2.1 p.2.2.2.1 p.2.2.2.2.1 p.2.2.2.2.2.1 p.2.2.2.2.2.2.1 p.2.2.2.2.2.2.2.1 p.2.2.2.2.2.2.2.2 h)
theorem JoinW9.intro {α1 α2 α3 α4 α5 α6 α7 α8 α9 : Type} {A : (α1 → α2 → α3 → α4 → α5 → α6 → α7 → α8 → α9 → Hp → Prop) → Prop} {B : α1 → α2 → α3 → α4 → α5 → α6 → α7 → α8 → α9 → Hp → Prop} (R : α1 → α2 → α3 → α4 → α5 → α6 → α7 → α8 → α9 → Hp → Prop) (hA : A R) (hB : ∀ x1 x2 x3 x4 x5 x6 x7 x8 x9 h, R x1 x2 x3 x4 x5 x6 x7 x8 x9 h → B x1 x2 x3 x4 x5 x6 x7 x8 x9 h) : JoinW9 A B :=
  ⟨fun p h => R p.1 p.2.1 p.2.2.1 p.2.2.2.1 p.2.2.2.2.1 p.2.2.2.2.2.1 p.2.2.2.2.2.2.1 p.2.2.2.2.2.2.2.1 p.2.2.2.2.2.2.2.2 h, hA, fun p h hr => hB p.1 p.2.1 p.2.2.1 p.2.2.2.1 p.2.2.2.2.1 p.2.2.2.2.2.1 p.2.2.2.2.2.2.1 p.2.2.2.2.2.2.2.1 p.2.2.2.2.2.2.2.2 h hr⟩
theorem JoinW9.direct {α1 α2 α3 α4 α5 α6 α7 α8 α9 : Type} {A : (α1 → α2 → α3 → α4 → α5 → α6 → α7 → α8 → α9 → Hp → Prop) → Prop} {B : α1 → α2 → α3 → α4 → α5 → α6 → α7 → α8 → α9 → Hp → Prop} (hA : A B) : JoinW9 A B := JoinW9.intro B hA (fun _ _ _ _ _ _ _ _ _ _ hr => hr)
def LoopW9 {α1 α2 α3 α4 α5 α6 α7 α8 α9 : Type} (body : (α1 → α2 → α3 → α4 → α5 → α6 → α7 → α8 → α9 → Hp → Prop) → α1 → α2 → α3 → α4 → α5 → α6 → α7 → α8 → α9 → Hp → Prop) (x1 : α1) (x2 : α2) (x3 : α3) (x4 : α4) (x5 : α5) (x6 : α6) (x7 : α7) (x8 : α8) (x9 : α9) (h : Hp) : Prop :=
  LoopT (σ := α1 × α2 × α3 × α4 × α5 × α6 × α7 × α8 × α9) (fun R p h => body (fun x1 x2 x3 x4 x5 x6 x7 x8 x9 h => R (x1, x2, x3, x4, x5, x6, x7, x8, x9) h) p.1 p.2.1 p.2.2.1 p.2.2.2.1 p.2.2.2.2.1 p.2.2.2.2.2.1 p.2.2.2.2.2.2.1 p.2.2.2.2.2.2.2.1 p.2.2.2.2.2.2.2.2 h) (x1, x2, x3, x4, x5, x6, x7, x8, x9) h
theorem LoopW9.intro {α1 α2 α3 α4 α5 α6 α7 α8 α9 : Type} {body : (α1 → α2 → α3 → α4 → α5 → α6 → α7 → α8 → α9 → Hp → Prop) → α1 → α2 → α3 → α4 → α5 → α6 → α7 → α8 → α9 → Hp → Prop} {x1 : α1} {x2 : α2} {x3 : α3} {x4 : α4} {x5 : α5} {x6 : α6} {x7 : α7} {x8 : α8} {x9 : α9} {h : Hp} (I : α1 → α2 → α3 → α4 → α5 → α6 → α7 → α8 → α9 → Hp → Prop) (μ : α1 → α2 → α3 → α4 → α5 → α6 → α7 → α8 → α9 → Hp → Nat)
    (h0 : I x1 x2 x3 x4 x5 x6 x7 x8 x9 h) (hr : ∀ x1 x2 x3 x4 x5 x6 x7 x8 x9 k, I x1 x2 x3 x4 x5 x6 x7 x8 x9 k → body (fun y1 y2 y3 y4 y5 y6 y7 y8 y9 k' => I y1 y2 y3 y4 y5 y6 y7 y8 y9 k' ∧ μ y1 y2 y3 y4 y5 y6 y7 y8 y9 k' < μ x1 x2 x3 x4 x5 x6 x7 x8 x9 k) x1 x2 x3 x4 x5 x6 x7 x8 x9 k) : LoopW9 body x1 x2 x3 x4 x5 x6 x7 x8 x9 h :=
  ⟨fun p h => I p.1 p.2.1 p.2.2.1 p.2.2.2.1 p.2.2.2.2.1 p.2.2.2.2.2.1 p.2.2.2.2.2.2.1 p.2.2.2.2.2.2.2.1 p.2.2.2.2.2.2.2.2 h, fun p h => μ p.1 p.2.1 p.2.2.1 p.2.2.2.1 p.2.2.2.2.1 p.2.2.2.2.2.1 p.2.2.2.2.2.2.1 p.2.2.2.2.2.2.2.1 p.2.2.2.2.2.2.2.2 h, h0, fun p k hk => hr p.1 p.2.1 p.2.2.1 p.2.2.2.1 p.2.2.2.2.1 p.2.2.2.2.2.1 p.2.2.2.2.2.2.1 p.2.2.2.2.2.2.2.1 p.2.2.2.2.2.2.2.2 k hk⟩

def Call2 (P : Program) (g : FuncId) (args : List Value) (s1 s2 : Shape) (K : s1.T → s2.T → Hp → Prop) (h : Hp) : Prop :=
  CallT P g args (shTup2 s1 s2) (fun p h' => K p.1 p.2 h') h
def Call3 (P : Program) (g : FuncId) (args : List Value) (s1 s2 s3 : Shape) (K : s1.T → s2.T → s3.T → Hp → Prop) (h : Hp) : Prop :=
  CallT P g args (shTup3 s1 s2 s3) (fun p h' => K p.1 p.2.1 p.2.2 h') h
def Call7 (P : Program) (g : FuncId) (args : List Value) (s1 s2 s3 s4 s5 s6 s7 : Shape) (K : s1.T → s2.T → s3.T → s4.T → s5.T → s6.T → s7.T → Hp → Prop) (h : Hp) : Prop :=
  CallT P g args (shTup7 s1 s2 s3 s4 s5 s6 s7) (fun p h' => K p.1 p.2.1 p.2.2.1 p.2.2.2.1 p.2.2.2.2.1 p.2.2.2.2.2.1 p.2.2.2.2.2.2 h') h

def Call0 (P : Program) (g : FuncId) (args : List Value) (K : Hp → Prop) (h : Hp) : Prop :=
  CallT P g args shUnit (fun _ h' => K h') h
end Lf

/-
  Slices that hold lists.
-/
namespace Lf
open Go

/-- The slice holds the list, each element as a row of 'sz' cells. -/
def Rw {α : Type} (h : Hp) (sz : Nat) (enc : α → List Value) (l : Sl) (xs : List α) : Prop :=
  l.len = xs.length ∧ RdCells h l.base (xs.length * sz) (xs.flatMap enc)

section
variable {α : Type} {h h' : Hp} {sz : Nat} {enc : α → List Value} {l : Sl} {xs : List α}

theorem hcell_mono (hl : h ≤ h') {a : Addr} {v : Value} (e : hcell h a = some v) : hcell h' a = some v := by
  unfold hcell at e ⊢
  split at e
  · rename_i c t f hb
    rw [hl _ _ hb]
    exact e
  · cases e

theorem ldIs_mono (hl : h ≤ h') {a : Addr} {cs : List Value} (e : LdIs h a cs) : LdIs h' a cs := fun i v hv => hcell_mono hl (e i v hv)

theorem Rw.mono (hl : h ≤ h') (r : Rw h sz enc l xs) : Rw h' sz enc l xs := by
  obtain ⟨h1, h2, h3⟩ := r
  refine ⟨h1, h2, h3.imp id ?_⟩
  rintro ⟨a, ha, hc⟩
  exact ⟨a, ha, ldIs_mono hl hc⟩

theorem flat_get (henc : ∀ x, (enc x).length = sz) : ∀ (xs : List α) (i : Nat) (x : α), xs[i]? = some x → ∀ j v, (enc x)[j]? = some v → (xs.flatMap enc)[i * sz + j]? = some v
  | [], i, x, hx, _, _, _ => by simp at hx
  | y :: xs, 0, x, hx, j, v, hv => by
    grind
  | y :: xs, i + 1, x, hx, j, v, hv => by
    have := flat_get henc xs i x (by simpa using hx) j v hv
    grind

theorem flat_at (henc : ∀ x, (enc x).length = sz) : ∀ (xs : List α) (i : Nat) (v : Value), (xs.flatMap enc)[i]? = some v → ∃ q x j, xs[q]? = some x ∧ (enc x)[j]? = some v ∧ i = q * sz + j
  | [], i, v, hv => by simp at hv
  | y :: xs, i, v, hv => by
    simp only [List.flatMap_cons] at hv
    by_cases hi : i < (enc y).length
    · rw [List.getElem?_append_left hi] at hv
      exact ⟨0, y, i, rfl, hv, by simp⟩
    · rw [List.getElem?_append_right (by omega)] at hv
      obtain ⟨q, x, j, h1, h2, h3⟩ := flat_at henc xs _ v hv
      rw [henc] at h3 hi
      exact ⟨q + 1, x, j, by simpa using h1, h2, by grind⟩

theorem Rw.read (r : Rw h sz enc l xs) (henc : ∀ x, (enc x).length = sz) (hsz : 0 < sz) {i : Int} (h0 : 0 ≤ i) (h1 : i < (l.len : Int)) :
    InB l.base l.len i ∧ ∃ x, xs[i.toNat]? = some x ∧ LdIs h (sat l.base sz i) (enc x) := by
  obtain ⟨h2, h3, h4⟩ := r
  have hi : i.toNat < xs.length := by omega
  have hne : xs.length * sz ≠ 0 := by
    have : 0 < xs.length := by omega
    exact Nat.ne_of_gt (Nat.mul_pos this hsz)
  obtain ⟨a, ha, hc⟩ := h4.resolve_left hne
  refine ⟨⟨by simp [ha], h0, h1⟩, xs[i.toNat], by simp [hi], fun j v hv => ?_⟩
  have := hc (i.toNat * sz + j) v (flat_get henc xs i.toNat _ (by simp [hi]) j v hv)
  unfold sat
  rw [ha, Option.getD_some, add_add]
  exact this

/-- A slice in a block of its own, that was not known at the start. -/
def Own (h0 h : Hp) (sz : Nat) (enc : α → List Value) (l : Sl) (xs : List α) : Prop :=
  l.len = xs.length ∧ l.len ≤ l.cap ∧ ((l.base = none ∧ l.cap = 0) ∨
    ∃ (b : Nat) (cs : List Value) (t : Nat), l.base = some ⟨b, 0, none⟩ ∧ h b = some (.cells cs.toArray t (0, 0)) ∧ cs.length = l.cap * sz ∧ cs.take (l.len * sz) = xs.flatMap enc ∧ h0 b = none)

theorem flat_len (henc : ∀ x, (enc x).length = sz) : ∀ xs : List α, (xs.flatMap enc).length = xs.length * sz
  | [] => by simp
  | x :: xs => by
    simp only [List.flatMap_cons, List.length_append, henc, flat_len henc xs, List.length_cons, Nat.add_mul, Nat.one_mul]
    omega

theorem flat_ok (hok : ∀ x, okCells (enc x) = true) : ∀ xs : List α, okCells (xs.flatMap enc) = true := by
  have app : ∀ a b : List Value, okCells a = true → okCells b = true → okCells (a ++ b) = true := by
    intro a b ha hb
    induction a with
    | nil => exact hb
    | cons v a ih => cases v <;> first | (exact ih ha) | (cases ha)
  intro xs
  induction xs with
  | nil => rfl
  | cons x xs ih => grind

theorem hcell_block0 {b : Nat} {cs : List Value} {t : Nat} (e : h b = some (.cells cs.toArray t (0, 0))) (i : Nat) : hcell h ⟨b, i, none⟩ = cs[i]? := by
  unfold hcell
  simp [e]

theorem Own.rw {h0 : Hp} (o : Own h0 h sz enc l xs) (henc : ∀ x, (enc x).length = sz) : Rw h sz enc l xs := by
  obtain ⟨h1, h2, h3⟩ := o
  refine ⟨h1, flat_len henc xs, ?_⟩
  rcases h3 with ⟨e, ec⟩ | ⟨b, cs, t, e, hb, hl, ht, _⟩
  · grind
  · right
    refine ⟨_, e, fun j v hv => ?_⟩
    rw [box_add, hcell_block0 hb, Nat.zero_add]
    grind

theorem Own.mono {h0 : Hp} (hl : h ≤ h') (o : Own h0 h sz enc l xs) : Own h0 h' sz enc l xs := by
  obtain ⟨h1, h2, h3⟩ := o
  refine ⟨h1, h2, h3.imp id ?_⟩
  rintro ⟨b, cs, t, e1, e2, e3⟩
  exact ⟨b, cs, t, e1, hl _ _ e2, e3⟩

theorem app_own {h0 : Hp} {zero : List Value} {bytes : Nat} {x : Sl} {ys : List α} {K : Sl → Hp → Prop} (hw : h0 ≤ h) (o : Own h0 h sz enc l xs) (r : Rw h sz enc x ys) (henc : ∀ x, (enc x).length = sz) (hok : ∀ x, okCells (enc x) = true)
    (hz : zero.length = sz) (hb : xs.length + ys.length ≤ 140737488355328 ∧ (xs.length + ys.length) * bytes ≤ 140737488355328)
    (hk : ∀ l' h', h0 ≤ h' → Own h0 h' sz enc l' (xs ++ ys) → (∀ b ob, h b = some ob → (∀ a, l.base = some a → a.block ≠ b) → h' b = some ob) → K l' h') : AppendW sz bytes zero l x K h := by
  have hrw := o.rw henc
  obtain ⟨h1, h2, h3⟩ := o
  obtain ⟨hx1, hx2⟩ := r
  refine ⟨ys.flatMap enc, by grind, xs.flatMap enc, by rw [h1]; exact hrw.2, by grind, flat_ok hok ys, fun hcap => ?_, fun hcap c b t hc hbn => ?_⟩
  · rcases h3 with ⟨e, ec⟩ | ⟨b, cs, t, e, hbk, hl, ht, hn⟩
    · -- nothing is put
      have e1 : ys.length = 0 := by omega
      have e2 : ys = [] := List.length_eq_zero_iff.1 e1
      subst e2
      refine ⟨fun a ha => (by grind), ?_⟩
      have e3 : putO h l.base (l.len * sz) (([] : List α).flatMap enc) = h := by rw [e]; rfl
      rw [e3, hx1]
      refine hk _ h hw ⟨by simp [h1], by simpa using h2, .inl ⟨e, ec⟩⟩ fun _ _ e _ => e
    · have hle : l.len * sz + (ys.flatMap enc).length ≤ cs.length := by
        rw [hl, flat_len henc, ← Nat.add_mul]
        exact Nat.mul_le_mul_right sz (by omega)
      obtain ⟨p1, p2⟩ := put_cells b t (ys.flatMap enc) h 0 (l.len * sz) cs (by simpa using hle) hbk
      have hst : ∀ (k : Nat), l.len * sz + k ≤ cs.length → StOk h (⟨b, l.len * sz, none⟩ : Addr) k := by
        intro k
        induction k with
        | zero => intro _; trivial
        | succ k ih =>
          intro hk'
          refine ⟨ih (by omega), ⟨cs[l.len * sz + k]'(by omega), ?_⟩, ?_⟩
          · rw [box_add, hcell_block0 hbk]
            simp
          · rw [box_add]
            unfold hfroz
            simp [hbk]
      refine ⟨fun a ha => ?_, ?_⟩
      · rw [e] at ha; cases ha
        rw [box_add, Nat.zero_add]
        refine hst _ ?_
        rw [hx1, ← flat_len henc ys]
        exact hle
      · have e3 : putO h l.base (l.len * sz) (ys.flatMap enc) = putL h ⟨b, l.len * sz, none⟩ (ys.flatMap enc) 0 := by
          rw [e]
          simp only [putO, box_add, Nat.zero_add]
        rw [e3]
        rw [Nat.add_zero] at p1
        refine hk _ _ (fun b' ob eb => ?_) ⟨by simp [h1, hx1], hcap, .inr ⟨b, _, t, e, p1, ?_, ?_, hn⟩⟩ fun b' ob eb hne => ?_
        · have hne : b' ≠ b := fun e' => by rw [e', hn] at eb; cases eb
          rw [p2 b' hne]
          exact hw _ _ eb
        · rw [layL_length _ _ _ hle, hl]
        · rw [layL_eq _ _ _ hle]
          have e4 : (l.len + x.len) * sz = (cs.take (l.len * sz) ++ ys.flatMap enc).length := by
            rw [List.length_append, ht, flat_len henc, flat_len henc, h1, hx1, Nat.add_mul]
          rw [e4, List.take_left, ht, List.flatMap_append]
        grind
  · have hh : ∀ b' ob, h b' = some ob → (h.set b (.cells (xs.flatMap enc ++ ys.flatMap enc ++ zerosL zero (c - (l.len + x.len))).toArray t (0, 0))) b' = some ob := fun b' ob eb => by
      have hne : b' ≠ b := fun e' => by grind
      simp [Hp.set, hne, eb]
    refine hk _ _ (fun b' ob eb => hh b' ob (hw _ _ eb)) ⟨by simp [h1, hx1], hc, .inr ⟨b, xs.flatMap enc ++ ys.flatMap enc ++ zerosL zero (c - (l.len + x.len)), t, rfl, by simp [Hp.set], ?_, ?_, ?_⟩⟩ fun b' ob eb _ => hh b' ob eb
    · have hzl : ∀ k, (zerosL zero k).length = k * sz := fun k => by simp [zerosL, hz]
      rw [List.length_append, List.length_append, flat_len henc, flat_len henc, hzl, ← Nat.add_mul, ← Nat.add_mul]
      grind
    · have e4 : (l.len + x.len) * sz = (xs.flatMap enc ++ ys.flatMap enc).length := by
        rw [List.length_append, flat_len henc, flat_len henc, h1, hx1, Nat.add_mul]
      grind
    · cases e0 : h0 b with
      | none => rfl
      | some ob => rw [hw _ _ e0] at hbn; cases hbn

end

/-- The slice holds a list of values of one type. -/
abbrev Rs (h : Hp) (sh : Shape) (sz : Nat) (l : Sl) (xs : List sh.T) : Prop := Rw h sz (fun x => cellsL (sh.enc x)) l xs

section
variable {h h' : Hp} {sh : Shape} {sz : Nat} {l : Sl} {xs : List sh.T} {K : sh.T → Prop} {i : Int}

theorem Rs.get (r : Rs h sh sz l xs) (henc : ∀ x, (cellsL (sh.enc x)).length = sz) (hsz : 0 < sz) (h0 : 0 ≤ i) (h1 : i < (xs.length : Int)) (hk : ∀ x, xs[i.toNat]? = some x → K x) :
    InB l.base l.len i ∧ LdW none sh h (sat l.base sz i) K := by
  obtain ⟨e1, x, hx, hl⟩ := Rw.read r henc hsz h0 (by rw [r.1]; exact h1)
  exact ⟨e1, x, hl, hk x hx⟩

theorem Rs.getC {c : Bool} (r : Rs h sh sz l xs) (x0 : sh.T) (henc : ∀ x, (cellsL (sh.enc x)).length = sz) (hsz : 0 < sz) (h0 : c = true → 0 ≤ i ∧ i < (xs.length : Int)) (hk : ∀ x, (c = true → xs[i.toNat]? = some x) → K x) :
    (c = true → InB l.base l.len i) ∧ LdW (some c) sh h (sat l.base sz i) K := by
  cases c with
  | false => exact ⟨fun e => (by cases e), x0, fun e => (by cases e), hk x0 fun e => (by cases e)⟩
  | true =>
    obtain ⟨e1, x, hx, hl⟩ := Rw.read r henc hsz (h0 rfl).1 (by rw [r.1]; exact (h0 rfl).2)
    exact ⟨fun _ => e1, x, fun _ => hl, hk x fun _ => hx⟩

theorem ld_at {a : Addr} (x : sh.T) (hl : LdIs h a (cellsL (sh.enc x))) (hk : K x) : LdW none sh h a K := ⟨x, hl, hk⟩

theorem letW {α : Type} {x : α} {K : α → Prop} (hk : K x) : LetW x K := fun _ e => e ▸ hk

theorem wrap64 {n : Int} (h0 : -9223372036854775808 ≤ n) (h1 : n < 9223372036854775808) : IntKind.wrap .i64 n = n := by
  unfold IntKind.wrap
  simp only [IntKind.signed, IntKind.bits]
  grind

end

/-- One block that was made here. -/
theorem new_row {α : Type} {h0 h : Hp} {sz : Nat} {enc : α → List Value} {cs : List Value} {xs : List α} {K : Addr → Hp → Prop} (hw : h0 ≤ h) (hc : cs = xs.flatMap enc) (henc : ∀ x, (enc x).length = sz)
    (hk : ∀ a h', h ≤ h' → Own h0 h' sz enc ⟨some a, xs.length, xs.length⟩ xs → K a h') : NewW cs K h := by
  intro b t hb
  have hle : h ≤ h.set b (.cells cs.toArray t (0, 0)) := fun b' o e => by
    have hne : b' ≠ b := fun e' => by grind
    simp [Hp.set, hne, e]
  refine hk _ _ hle ⟨rfl, Nat.le_refl _, .inr ⟨b, cs, t, rfl, by simp [Hp.set], ?_, ?_, ?_⟩⟩
  · rw [hc, flat_len henc]
  · have : (xs.length * sz) = (xs.flatMap enc).length := (flat_len henc xs).symm
    grind
  · cases e0 : h0 b with
    | none => rfl
    | some ob => rw [hw _ _ e0] at hb; cases hb

end Lf

/-
  What a change to a block that holds no cells leaves.
-/
namespace Lf
open Go

/-- All cells are as they were. -/
def CKeep (h h' : Hp) : Prop := ∀ a v, hcell h a = some v → hcell h' a = some v

theorem CKeep.of_le {h h' : Hp} (hl : h ≤ h') : CKeep h h' := fun _ _ e => hcell_mono hl e

theorem ldIs_ck {h h' : Hp} (hl : CKeep h h') {a : Addr} {cs : List Value} (e : LdIs h a cs) : LdIs h' a cs := fun i v hv => hl _ _ (e i v hv)

theorem Rw.ck {α : Type} {h h' : Hp} {sz : Nat} {enc : α → List Value} {l : Sl} {xs : List α} (hl : CKeep h h') (r : Rw h sz enc l xs) : Rw h' sz enc l xs := by
  obtain ⟨h1, h2, h3⟩ := r
  refine ⟨h1, h2, h3.imp id ?_⟩
  rintro ⟨a, ha, hc⟩
  exact ⟨a, ha, ldIs_ck hl hc⟩

theorem set_new {h : Hp} {b : Nat} {o : Obj} (hn : h b = none) : h ≤ h.set b o := fun b' o' e => by
  have hne : b' ≠ b := fun e' => by rw [e', hn] at e; cases e
  simp [Hp.set, hne, e]

theorem set_self {h : Hp} {b : Nat} {o : Obj} : (h.set b o) b = some o := by simp [Hp.set]

theorem none_of_le {h0 h : Hp} {b : Nat} (hl : h0 ≤ h) (hn : h b = none) : h0 b = none := by
  cases e : h0 b with
  | none => rfl
  | some o => rw [hl _ _ e] at hn; cases hn

theorem effT {α : Type} {A : (α → Hp → Prop) → Hp → Prop} {K : α → Hp → Prop} {h : Hp} (hk : A K h) : EffC (some true) A K h := ⟨fun _ => hk, fun e => by cases e⟩

theorem effB {α : Type} {b : Bool} {A : (α → Hp → Prop) → Hp → Prop} {K : α → Hp → Prop} {h : Hp} (hb : b = true) (hk : A K h) : EffC (some b) A K h := ⟨fun _ => hk, fun e => by rw [hb] at e; cases e⟩

theorem notNil {p : Addr} {c : Option Bool} {K : Addr → Prop} (hk : K p) : NilW c (some p) K := by
  refine ⟨p, ?_, hk⟩
  cases c with
  | none => rfl
  | some b => exact fun _ => rfl

theorem semIs_of_semW {P : Program} {s : Sem Value} {h : Hp} {v : Value} (hi : semW P s (fun u h' => u = v ∧ h' = h) h) : SemIs P s h v := by
  intro w hs
  obtain ⟨a, w', h', hr, ⟨ha, hh⟩, hst⟩ := semW_sound s hs hi
  subst ha; subst hh
  exact ⟨w', hr, hst⟩

theorem semIs_of_run {P : Program} {s : Sem Value} {h : Hp} {v : Value} (hi : ∀ w, s.run P w = .ok v w) : SemIs P s h v := fun w hs => ⟨w, hi w, .refl hs⟩

end Lf

/-
  From a call's text to a law's statement.
-/
namespace Lf
open Go Go.ChangeShapes Go.WideShapes Go.ChangeAt Go.RowKit

/-- All that is in memory. -/
def whole (W : World) : Hp := fun b => W.heap[b]?

theorem whole_sub (W : World) : Sub (whole W) W := fun _ _ e => e

theorem hcell_whole (W : World) (a : Addr) : hcell (whole W) a = W.cell? a := rfl

theorem below_of_step {W W' : World} {h' : Hp} (hle : whole W ≤ h') (st : Step (whole W) h' W W') : Below W.heap.size W W' :=
  ⟨st.os, st.tape, st.output, st.size, fun k hk => by
    cases e : W.heap[k]? with
    | some o => exact st.sub _ _ (hle _ _ e)
    | none => simp at e; omega⟩

theorem trodAll_stays {H : Type} {enc : TypeId × Value → H} {P : Program} (hl : laidOutB P = true) {W W' : World} {sp : Nat → Bool} (hb : Below W.heap.size W W') : ∀ {ts : List TypeId} {vs : List Value} {ds : List (DataW H)} {ps : List MemPlace},
    (∀ t ∈ ts, P.readableRec t = true ∧ t < P.types.size) → DataW.TrodAll enc P W 0 (fun _ => true) true ts vs ds ps → (∀ x ∈ ps, x.block < W.heap.size) → (∀ x ∈ ps, sp x.block = true) → DataW.TrodAll enc P W' 0 sp true ts vs ds ps
  | [], _, _, _, _, h, _, _ => by
    obtain ⟨rfl, rfl, rfl⟩ := trodAll_nil h
    exact trodAll_mk0
  | t :: ts, _, _, _, hr, h, hlt, hs => by
    obtain ⟨v, vs, d, ds, p, q, rfl, rfl, rfl, h1, h2⟩ := trodAll_cons h
    obtain ⟨hr1, hr2⟩ := hr t (List.mem_cons_self ..)
    exact ⟨p, q, WideElems.Trod_stays hl hr1 hr2 h1 (fun x hx => hb.same (hlt x (List.mem_append_left _ hx))) (fun x hx => hs x (List.mem_append_left _ hx)),
      trodAll_stays hl hb (fun t ht => hr t (List.mem_cons_of_mem _ ht)) h2 (fun x hx => hlt x (List.mem_append_right _ hx)) (fun x hx => hs x (List.mem_append_right _ hx)), rfl⟩

theorem law_post {H : Type} {enc : TypeId × Value → H} {P : Program} {f : Func} {s : ChangeSpec} {W W' : World} {h' : Hp} {args : Array Value} {ds gs : List (DataW H)} {before : List MemPlace} {t : TypeId} (hl : laidOutB P = true)
    (hrd : ∀ t ∈ f.params.toList, P.readableRec t = true ∧ t < P.types.size) (hvars : s.vars = []) (hres : f.resultTypes = #[t]) (ht : P.underlying t = some .bool)
    (hfn : gs = [] → s.fn H (ds ++ gs) = { results := [.lit (.bool true)], args := ds }) (hW : DataW.Whole enc P f.params.toList s.vars false W args.toList ds gs before) (hle : whole W ≤ h') (st : Step (whole W) h' W W') :
    s.post enc P f false true false false W args (.bool true) W' := by
  have hb := below_of_step hle st
  have hlt : ∀ p ∈ before, p.block < W.heap.size := fun p hp => hW.lt p hp
  have hW' := hW
  obtain ⟨p, q, hA, hV, rfl, hfz, hnd⟩ := hW'
  rw [hvars] at hV
  obtain ⟨rfl, rfl⟩ := trodVars_none hV
  rw [List.append_nil] at hlt
  have hsp := hfn rfl
  refine ⟨ds, [], p ++ [], [], p, [], hW, ?_, ?_, ?_, Below.frame hb _, fun e => (by cases e)⟩
  · rw [hsp, hres]
    exact trodAll_mk1 (shut_bool ht true)
  · rw [hsp]
    exact trodAll_stays hl hb hrd hA hlt (fun x hx => by grind)
  · rw [hsp, hvars]
    exact rfl

theorem inI_wf {x : Int} (h : (Lit.int .i64 x).wf = true) : -9223372036854775808 ≤ x ∧ x ≤ 9223372036854775807 := by
  simp [Lit.wf, IntKind.min, IntKind.max, IntKind.signed, IntKind.bits] at h
  omega

end Lf

/-
  From a call's text to a law's statement, where the row lists package-level variables.
-/
namespace Lf
open Go Go.ChangeShapes Go.WideShapes Go.ChangeAt Go.RowKit

/-- An input that fits: the world's shape in one pass. -/
theorem witness_zip {H : Type} {enc : TypeId × Value → H} {C : Checked} {os : Os} {f : FuncId} {fn : Func} {s : OpenSpec} {conds : List PathCond} {apart : Bool} {laid : List (String × DataW Unit)} (modest : Bool) (w0 : World) (args : Array Value) (hos : w0.os = os)
    (hv : (w0.forCall (fun _ _ => 0) ⟨#[], args, []⟩).variablesZipB C.prog = true)
    (hr : ((w0.forCall (fun _ _ => 0) ⟨#[], args, []⟩).heap.toList.drop C.prog.globals.size).take ((begin C.prog (fun _ _ => 0) default).world.heap.size - C.prog.globals.size) =
      (begin C.prog (fun _ _ => 0) default).world.heap.toList.drop C.prog.globals.size)
    (hok : Input.okWideB C.prog (w0.forCall (fun _ _ => 0) ⟨#[], args, []⟩) f ⟨#[], args, []⟩ = true)
    (hrow : s.preRow enc C.prog fn conds apart laid (w0.forCall (fun _ _ => 0) ⟨#[], args, []⟩).memory args) :
    ∃ (w : World) (tape : Tape) (i : Input), w.os = os ∧ (w.forCall tape i).Shaped C.prog ∧ i.vars = [] ∧ Input.okWide C.prog (w.forCall tape i) .any w.heap.size f i ∧
      s.preRow enc C.prog fn conds apart laid (w.forCall tape i).memory i.args ∧ ({ modest := modest } : Assume).holds C.prog (lone (Frame.enter C.prog f i.args .normal) [] (w.forCall tape i)) :=
  ⟨w0, fun _ _ => 0, ⟨#[], args, []⟩, hos, World.shaped_of_ZipB hv hr, (Input.okWide_of_okWideB (base := 0) hok).1, (Input.okWide_of_okWideB hok).2, hrow, by
    simp only [Assume.holds]
    exact ⟨by simp, by simp, fun _ => Modest.zero, by simp, by simp⟩⟩

theorem law_laid {H : Type} {enc : TypeId × Value → H} {C : Checked} {os : Os} {f : FuncId} {fn : Func} {cs : ChangeSpec} {F : Stop.Interp} {laid : List (String × DataW Unit)} {t : TypeId}
    (own : ownKnob C.prog.godebug = none) (started : os.Started) (noInit : C.prog.inits.idxOf? f = none) (hf : C.prog.funcs[f]? = some fn)
    (witness : ∃ (w : World) (tape : Tape) (i : Input), w.os = os ∧ (w.forCall tape i).Shaped C.prog ∧ i.vars = [] ∧ Input.okWide C.prog (w.forCall tape i) .any w.heap.size f i ∧
      (OpenSpec.ofChange cs).preRow enc C.prog fn [] false laid (w.forCall tape i).memory i.args ∧ ({} : Assume).holds C.prog (lone (Frame.enter C.prog f i.args .normal) [] (w.forCall tape i)))
    (hl : laidOutB C.prog = true) (hrd : ∀ t ∈ fn.params.toList, C.prog.readableRec t = true ∧ t < C.prog.types.size) (hvars : cs.vars = []) (hres : fn.resultTypes = #[t]) (ht : C.prog.underlying t = some .bool)
    (walk : ∀ (W : World) (base : Nat) (args : Array Value) (ds : List (DataW H)) (p : List MemPlace), (∀ (j : Nat) t v, fn.params[j]? = some t → args[j]? = some v → Value.okWide C.prog W .any base t v) → DataW.TrodAll enc C.prog W 0 (fun _ => true) true fn.params.toList args.toList ds p →
      laidMetH C.prog laid W → cs.fn H ds = { results := [.lit (.bool true)], args := ds } ∧ CallT C.prog f args.toList shBool (fun r h' => r = true ∧ whole W ≤ h') (whole W)) :
    ReturnsInHanded {} C os f .any ((OpenSpec.ofChange cs).preRow enc C.prog fn [] false laid) (((OpenSpec.ofChange cs).at F).post enc C.prog fn false true false false) := by
  refine returnsInHanded_of_row own started noInit hf witness ?_
  intro W base args ds gs before hval hW _ _ _ hL _ _
  have hW : DataW.Whole enc C.prog fn.params.toList cs.vars false W args.toList ds gs before := hW
  have hW' := hW
  obtain ⟨p, q, hA, hV, _, hfz, hnd⟩ := hW'
  obtain ⟨hsp, hc⟩ := walk W base args ds p hval hA hL
  have hc' := hc W (whole_sub W)
  simp only [Array.toArray_toList] at hc'
  refine hc'.mono fun e W' hh => ?_
  obtain ⟨v, h', rfl, ⟨x, rfl, rfl, hle⟩, hst⟩ := hh
  exact ⟨_, rfl, law_post hl hrd hvars hres ht (fun e => by rw [e, List.append_nil]; exact hsp) hW hle hst⟩

end Lf

/-
  What a row lists of package-level variables, as cells of memory.
-/
namespace Lf
open Go

section
variable {P : Program} {W : World}

theorem laid_head {n : String} {d : DataW Unit} {r : List (String × DataW Unit)} {g : Nat} {t : TypeId} (h : laidMet P ((n, d) :: r) W) (hg : P.globalNamed n = some g) (ht : (P.globals[g]?).map (·.type) = some t) :
    ∃ (cs : Array Value) (fuel : Nat) (p : List MemPlace), (∀ i v, cs.toList[i]? = some v → hcell (whole W) ⟨g, i, none⟩ = some v) ∧ DataW.trod (fun _ => ()) P W 0 (fun _ => true) false fuel t cs.toList = some (d, p) := by
  obtain ⟨ps, ⟨g0, t0, cs0, f0, p0, q0, hg0, ht0, hv0, hd0, _, _⟩, _, _⟩ := h
  obtain rfl := Option.some.inj (hg.symm.trans hg0)
  obtain rfl := Option.some.inj (ht.symm.trans ht0)
  refine ⟨cs0, f0, p0, fun i v e => ?_, hd0⟩
  rw [hcell_whole, World.var?_cell hg0 hv0 i]
  simpa using e

theorem ldIs_at {a : Addr} {cs : List Value} {b : Nat} (ha : a = ⟨b, 0, none⟩) (h : ∀ i v, cs[i]? = some v → hcell (whole W) ⟨b, i, none⟩ = some v) : LdIs (whole W) a cs := fun i v e => by
  subst ha
  rw [box_add, Nat.zero_add]
  exact h i v e

theorem laid_bool {n : String} {b : Bool} {r : List (String × DataW Unit)} {g : Nat} {t : TypeId} (h : laidMet P ((n, .lit (.bool b)) :: r) W) (hg : P.globalNamed n = some g) (ht : (P.globals[g]?).map (·.type) = some t) (hu : P.underlying t = some .bool) : LdIs (whole W) ⟨g, 0, none⟩ [.bool b] := by
  obtain ⟨cs, fuel, p, hc, hd⟩ := laid_head h hg ht
  obtain ⟨b', e1, e2⟩ := DataW.trod_bool hu hd
  cases e2
  exact ldIs_at rfl (e1 ▸ hc)

theorem laid_ints {n : String} {k : IntKind} {ns : List Int} {r : List (String × DataW Unit)} {g m : Nat} {t e : TypeId} (h : laidMet P ((n, .agg (ns.map fun x => .lit (.int k x))) :: r) W) (hg : P.globalNamed n = some g) (ht : (P.globals[g]?).map (·.type) = some t)
    (hu : P.underlying t = some (.array m e)) (he : P.underlying e = some (.int k)) (hc1 : P.cellsOf e = 1) (hcm : P.cellsOf t = m) : LdIs (whole W) ⟨g, 0, none⟩ (ns.map fun x => .int k x) := by
  obtain ⟨cs, fuel, p, hc, hd⟩ := laid_head h hg ht
  obtain ⟨xs, f, -, e2, e3, e4, e5⟩ := DataW.trod_array hu hd
  have e2 := (Prod.mk.inj e2).1
  injection e2 with e2
  have hl : ns.length = m := by rw [← e4, ← List.length_map (as := xs) (fun x => x.1), ← e2, List.length_map]
  refine ldIs_at rfl fun i v hv => hc i v ?_
  have hi : i < ns.length := by have := (List.getElem?_eq_some_iff.1 hv).1; simpa using this
  have h5 := e5 i (by omega)
  have hx : xs[i]? = some xs[i] := List.getElem?_eq_getElem (by omega)
  rw [hx, hc1, Nat.mul_one] at h5
  obtain ⟨z, z1, z2, -⟩ := DataW.trod_int he h5
  have hp : (ns.map fun x => (DataW.lit (.int k x) : DataW Unit))[i]? = (xs.map (·.1))[i]? := by rw [e2]
  rw [List.getElem?_map, List.getElem?_map, hx, List.getElem?_eq_getElem hi, z2] at hp
  injection hp with hp
  injection hp with hp
  injection hp with _ hp
  rw [List.getElem?_map, List.getElem?_eq_getElem hi] at hv
  have hv := Option.some.inj hv
  rw [← hv, hp]
  have := congrArg List.head? z1
  rw [List.head?_take, List.head?_drop] at this
  simpa using this

theorem laid_pairs {n : String} {rows : List (Nat × Nat)} {r : List (String × DataW Unit)} {g m : Nat} {t e u : TypeId} {fs : Array Field} {f0 f1 : Field} (h : laidMet P ((n, .agg (rows.map fun x => .agg [.lit (.int .u64 x.1), .lit (.int .u64 x.2)])) :: r) W) (hg : P.globalNamed n = some g) (ht : (P.globals[g]?).map (·.type) = some t)
    (hu : P.underlying t = some (.array m e)) (he : P.underlying e = some (.struct fs)) (hf0 : fs[0]? = some f0) (hf1 : fs[1]? = some f1) (t0 : f0.type = u) (t1 : f1.type = u) (o0 : f0.offset = 0) (o1 : f1.offset = 1) (hint : P.underlying u = some (.int .u64)) (hc1 : P.cellsOf u = 1) (hc2 : P.cellsOf e = 2) :
    LdIs (whole W) ⟨g, 0, none⟩ (rows.flatMap fun x => [Value.int .u64 (x.1 : Int), Value.int .u64 (x.2 : Int)]) := by
  obtain ⟨cs, fuel, p, hc, hd⟩ := laid_head h hg ht
  obtain ⟨xs, f, -, e2, e3, e4, e5⟩ := DataW.trod_array hu hd
  have e2 := (Prod.mk.inj e2).1
  injection e2 with e2
  have hl : rows.length = m := by rw [← e4, ← List.length_map (as := xs) (fun x => x.1), ← e2, List.length_map]
  refine ldIs_at rfl fun q v hv => hc q v ?_
  obtain ⟨i, x, j, hxi, hj, rfl⟩ := flat_at (sz := 2) (fun _ => rfl) rows q v hv
  have hi : i < rows.length := (List.getElem?_eq_some_iff.1 hxi).1
  have h5 := e5 i (by omega)
  have hx : xs[i]? = some xs[i] := List.getElem?_eq_getElem (by omega)
  rw [hx, hc2] at h5
  obtain ⟨ys, f', -, g2, g3, g4, g5⟩ := DataW.trod_struct he h5
  have hp : (rows.map fun x => (DataW.agg [.lit (.int .u64 x.1), .lit (.int .u64 x.2)] : DataW Unit))[i]? = (xs.map (·.1))[i]? := by rw [e2]
  rw [List.getElem?_map, List.getElem?_map, hx, hxi, g2] at hp
  injection hp with hp
  injection hp with hp
  have part : ∀ (k : Nat) (fk : Field) (z : Int), fs[k]? = some fk → fk.type = u → fk.offset = k → k < 2 → ([DataW.lit (.int .u64 x.1), .lit (.int .u64 x.2)] : List (DataW Unit))[k]? = some (.lit (.int .u64 z)) → cs.toList[i * 2 + k]? = some (.int .u64 z) := fun k fk z a1 a2 a3 a4 a5 => by
    have h6 := g5 k fk a1
    rw [hp, List.getElem?_map] at a5
    cases hy : ys[k]? with
    | none => rw [hy] at a5; cases a5
    | some y =>
      rw [hy] at a5 h6
      have a5 : y.1 = .lit (.int .u64 z) := Option.some.inj a5
      rw [a2, a3, hc1] at h6
      obtain ⟨w, w1, w2, -⟩ := DataW.trod_int hint h6
      rw [w2] at a5
      injection a5 with a5
      injection a5 with _ a5
      have := congrArg List.head? w1
      rw [List.head?_take, List.head?_drop] at this
      simp only [List.head?_cons] at this
      rw [List.getElem?_take_of_lt a4, List.getElem?_drop] at this
      rw [← a5]
      exact this
  rcases (show j = 0 ∨ j = 1 by have := (List.getElem?_eq_some_iff.1 hj).1; simp at this; omega) with rfl | rfl
  · have hj : v = .int .u64 x.1 := (Option.some.inj hj).symm
    rw [hj]
    exact part 0 f0 x.1 hf0 t0 o0 (by decide) rfl
  · have hj : v = .int .u64 x.2 := (Option.some.inj hj).symm
    rw [hj]
    exact part 1 f1 x.2 hf1 t1 o1 (by decide) rfl

/-- The first number of a structure. -/
theorem laid_first {n : String} {k : IntKind} {z : Int} {ds : List (DataW Unit)} {r : List (String × DataW Unit)} {g : Nat} {t : TypeId} {fs : Array Field} {f0 : Field} (h : laidMet P ((n, .agg (.lit (.int k z) :: ds)) :: r) W) (hg : P.globalNamed n = some g) (ht : (P.globals[g]?).map (·.type) = some t)
    (hu : P.underlying t = some (.struct fs)) (hf0 : fs[0]? = some f0) (o0 : f0.offset = 0) (hint : P.underlying f0.type = some (.int k)) (hc1 : P.cellsOf f0.type = 1) : LdIs (whole W) ⟨g, 0, none⟩ [.int k z] := by
  obtain ⟨cs, fuel, p, hc, hd⟩ := laid_head h hg ht
  obtain ⟨ys, f', -, g2, g3, g4, g5⟩ := DataW.trod_struct hu hd
  have g2 := (Prod.mk.inj g2).1
  injection g2 with g2
  have h6 := g5 0 f0 hf0
  cases ys with
  | nil => cases g2
  | cons y ys =>
    rw [o0, hc1] at h6
    obtain ⟨w, w1, w2, -⟩ := DataW.trod_int hint h6
    injection g2 with g2 _
    rw [w2] at g2
    injection g2 with g2
    injection g2 with _ g2
    refine one_cell' (hc 0 _ ?_)
    have := congrArg List.head? w1
    rw [List.head?_take, List.head?_drop] at this
    rw [g2]
    simpa using this
where
  one_cell' {h : Hp} {a : Addr} {v : Value} (e : hcell h a = some v) : LdIs h a [v] := fun i u hu => by
    cases i with
    | zero => cases hu; exact e
    | succ i => simp at hu

theorem trod_float {H : Type} {enc : TypeId × Value → H} {base : Nat} {spare : Nat → Bool} {held : Bool} {fuel : Nat} {t : TypeId} {cs : List Value} {x : DataW H × List MemPlace} {k : FloatKind} (ht : P.underlying t = some (.float k)) (h : DataW.trod enc P W base spare held fuel t cs = some x) : ∃ n, cs = [.float k n] ∧ x = (.lit (.float k n), []) := by
  cases fuel with
  | zero => simp [DataW.trod] at h
  | succ n =>
    unfold DataW.trod at h
    rw [ht] at h
    split at h <;> simp_all

theorem laid_floats {n : String} {k : FloatKind} {ns : List Nat} {r : List (String × DataW Unit)} {g : Nat} {t e : TypeId} (h : laidMet P ((n, .slice (ns.map fun x => .lit (.float k x)) []) :: r) W) (hg : P.globalNamed n = some g) (ht : (P.globals[g]?).map (·.type) = some t)
    (hu : P.underlying t = some (.slice e)) (he : P.underlying e = some (.float k)) (hc1 : P.cellsOf e = 1) : ∃ a c, LdIs (whole W) ⟨g, 0, none⟩ [.slice (some a) ns.length c] ∧ LdIs (whole W) a (ns.map fun x => .float k x) := by
  obtain ⟨cs, fuel, p, hc, hd⟩ := laid_head h hg ht
  rcases DataW.trod_slice hu hd with ⟨_, e2⟩ | ⟨a, len, cap, elems, rest, f, -, e1, e2, -, -, -, e3, e4, -, -⟩
  · cases e2
  · have e2 := (Prod.mk.inj e2).1
    injection e2 with e2 _
    have hl : ns.length = len := by rw [← e3, ← List.length_map (as := elems) (fun x => x.1), ← e2, List.length_map]
    refine ⟨a, cap, ldIs_at rfl fun i v hv => hc i v (by rw [e1, ← hl]; exact hv), fun i v hv => ?_⟩
    have hi : i < ns.length := by have := (List.getElem?_eq_some_iff.1 hv).1; simpa using this
    have h4 := e4 i (by omega)
    have hx : elems[i]? = some elems[i] := List.getElem?_eq_getElem (by omega)
    rw [hx, hc1, Nat.mul_one] at h4
    cases hcc : W.cells? 0 (a.add i) 1 with
    | none => rw [hcc] at h4; cases h4
    | some vs =>
      rw [hcc] at h4
      obtain ⟨z, z1, z2⟩ := trod_float he h4
      obtain ⟨_, _, h5⟩ := World.cells?_some hcc
      have hp : (ns.map fun x => (DataW.lit (.float k x) : DataW Unit))[i]? = (elems.map (·.1))[i]? := by rw [e2]
      rw [List.getElem?_map, List.getElem?_map, hx, List.getElem?_eq_getElem hi, z2] at hp
      injection hp with hp
      injection hp with hp
      injection hp with _ hp
      rw [List.getElem?_map, List.getElem?_eq_getElem hi] at hv
      have hv := Option.some.inj hv
      rw [← hv, hp]
      have h6 := h5 0 (by decide)
      rw [z1] at h6
      rw [hcell_whole]
      have h7 : (a.add i).add 0 = a.add i := by rw [add_add, Nat.add_zero]
      rw [h7] at h6
      exact h6
end
end Lf

/-
  Floats, rounded: the document's way, and IEEE 754's.
-/
namespace Lf
open Ieee

abbrev dbl : Format := double

theorem dbl_binade : dbl.binade = 4503599627370496 := rfl
theorem dbl_inf : dbl.infRung = 9218868437227405312 := rfl
theorem dbl_sign : dbl.signWeight = 9223372036854775808 := by decide
theorem dbl_least : dbl.leastPlace = -1074 := by decide

/-- How many binary digits. -/
def bitsN (m : Nat) : Nat := if m = 0 then 0 else m.log2 + 1

/-- How many of the last digits are left out. -/
def offD (m : Nat) (e : Int) : Int := if (bitsN m : Int) - 53 < -1074 - e then -1074 - e else (bitsN m : Int) - 53

/-- What is kept of a number. -/
def keptD (m : Nat) (off : Int) (more : Bool) : Nat :=
  if off ≤ 0 then m * 2 ^ (-off).toNat
  else
    let q := m / 2 ^ off.toNat
    let rest := m % 2 ^ off.toNat
    if 2 ^ (off.toNat - 1) < rest ∨ (rest = 2 ^ (off.toNat - 1) ∧ (more = true ∨ q % 2 = 1)) then q + 1 else q

/-- The rung. -/
def rungD (m : Nat) (e : Int) (more : Bool) : Nat :=
  let off := offD m e
  let q := keptD m off more
  if q < 4503599627370496 then q
  else if 2047 ≤ e + off + 1075 then 9218868437227405312
  else min ((e + off + 1075).toNat * 4503599627370496 + (q - 4503599627370496)) 9218868437227405312

theorem half_lt {n d : Nat} (h : n.log2 + 2 ≤ d) : 2 * n < 2 ^ d := by
  have h1 : n < 2 ^ (n.log2 + 1) := Nat.lt_log2_self
  have h2 : 2 ^ (n.log2 + 2) ≤ 2 ^ d := Nat.pow_le_pow_right (by decide) h
  rw [Nat.pow_succ] at h2
  omega

/-- Rounding to the nearest, said plainly. -/
theorem cut_even (s : Bool) (n d : Nat) : Toward.even.cut s n d = n / 2 ^ d + (if 2 ^ d < 2 * (n % 2 ^ d) ∨ (2 ^ d = 2 * (n % 2 ^ d) ∧ n / 2 ^ d % 2 = 1) then 1 else 0) := by
  have key : ∀ g : Nat, (let gap := 1 <<< g; n / gap + (decide (gap < 2 * (n % gap)) || (gap == 2 * (n % gap) && n / gap % 2 == 1)).toNat) = n / 2 ^ g + (if 2 ^ g < 2 * (n % 2 ^ g) ∨ (2 ^ g = 2 * (n % 2 ^ g) ∧ n / 2 ^ g % 2 = 1) then 1 else 0) := fun g => by
    simp only [Nat.one_shiftLeft]
    congr 1
    by_cases h : 2 ^ g < 2 * (n % 2 ^ g) ∨ (2 ^ g = 2 * (n % 2 ^ g) ∧ n / 2 ^ g % 2 = 1)
    · rw [if_pos h]
      have : (decide (2 ^ g < 2 * (n % 2 ^ g)) || (2 ^ g == 2 * (n % 2 ^ g) && n / 2 ^ g % 2 == 1)) = true := by simpa using h
      rw [this]; rfl
    · rw [if_neg h]
      have : (decide (2 ^ g < 2 * (n % 2 ^ g)) || (2 ^ g == 2 * (n % 2 ^ g) && n / 2 ^ g % 2 == 1)) = false := by
        rw [Bool.eq_false_iff]
        intro e
        exact h (by simpa using e)
      rw [this]; rfl
  show (let gap := 1 <<< min d (n.log2 + 2); n / gap + (decide (gap < 2 * (n % gap)) || (gap == 2 * (n % gap) && n / gap % 2 == 1)).toNat) = _
  rw [key]
  by_cases h : d ≤ n.log2 + 2
  · rw [Nat.min_eq_left h]
  · rw [Nat.min_eq_right (by omega)]
    have h1 := half_lt (n := n) (Nat.le_refl _)
    have h2 := half_lt (n := n) (d := d) (by omega)
    have e1 : n / 2 ^ (n.log2 + 2) = 0 := Nat.div_eq_of_lt (by omega)
    have e2 : n / 2 ^ d = 0 := Nat.div_eq_of_lt (by omega)
    have e3 : n % 2 ^ (n.log2 + 2) = n := Nat.mod_eq_of_lt (by omega)
    have e4 : n % 2 ^ d = n := Nat.mod_eq_of_lt (by omega)
    rw [e1, e2, e3, e4, if_neg (by omega), if_neg (by omega)]

theorem keptD_cut {m : Nat} {off : Int} {s : Bool} : keptD m off false = Toward.even.cut s (m <<< (-off).toNat) off.toNat := by
  rw [cut_even]
  unfold keptD
  by_cases h : off ≤ 0
  · rw [if_pos h, show off.toNat = 0 by omega, Nat.shiftLeft_eq]
    simp [Nat.mod_one]
  · rw [if_neg h, show (-off).toNat = 0 by omega, Nat.shiftLeft_zero]
    obtain ⟨d, hd⟩ : ∃ d, off.toNat = d + 1 := ⟨off.toNat - 1, by omega⟩
    rw [hd]
    dsimp only
    rw [Nat.add_sub_cancel]
    have hp : 2 ^ (d + 1) = 2 * 2 ^ d := by rw [Nat.pow_succ, Nat.mul_comm]
    generalize m % 2 ^ (d + 1) = r at *
    generalize m / 2 ^ (d + 1) = q at *
    generalize 2 ^ d = g at *
    rw [hp]
    by_cases h1 : g < r
    · rw [if_pos (.inl h1), if_pos (.inl (by omega))]
    · by_cases h2 : r = g ∧ q % 2 = 1
      · rw [if_pos (.inr ⟨h2.1, .inr h2.2⟩), if_pos (.inr ⟨by omega, h2.2⟩)]
      · rw [if_neg ?_, if_neg ?_]
        · rfl
        · rintro (h | ⟨h, h'⟩)
          · omega
          · exact h2 ⟨by omega, h'⟩
        · rintro (h | ⟨h, h' | h'⟩)
          · exact h1 h
          · cases h'
          · exact h2 ⟨h, h'⟩

theorem offD_eq {m : Nat} {e : Int} (hm : m ≠ 0) : max (e + (m.log2 : Int) - 52) (-1074) - e = offD m e := by
  unfold offD bitsN
  rw [if_neg hm]
  split <;> omega

/-- The document's rounding is IEEE 754's. -/
theorem nearest_rung {s : Bool} {m : Nat} {e : Int} (hm : m ≠ 0) : dbl.nearest s m e = dbl.word s (rungD m e false) := by
  unfold Format.nearest
  rw [if_neg hm]
  have hl : max (e + (m.log2 : Int) - (dbl.fractionBits : Int)) dbl.leastPlace = e + offD m e := by
    rw [dbl_least, ← offD_eq hm]
    show max (e + (m.log2 : Int) - ((52 : Nat) : Int)) (-1074) = _
    omega
  dsimp only
  rw [hl, show e - (e + offD m e) = -offD m e by omega, show e + offD m e - e = offD m e by omega, ← keptD_cut, dbl_least, dbl_binade, dbl_inf]
  congr 1
  unfold rungD
  dsimp only
  have hoff : -1074 - e ≤ offD m e := by unfold offD; split <;> omega
  generalize hq : keptD m (offD m e) false = q
  by_cases h1 : q < 4503599627370496
  · rw [if_pos h1]
    have : offD m e = -1074 - e := by
      refine Classical.byContradiction fun hne => ?_
      have hoe : offD m e = (bitsN m : Int) - 53 := by
        unfold offD at hne ⊢
        split
        · rename_i h; rw [if_pos h] at hne; exact absurd rfl hne
        · rfl
      have hb : bitsN m = m.log2 + 1 := by unfold bitsN; rw [if_neg hm]
      have h2 : 2 ^ m.log2 ≤ m := Nat.log2_self_le hm
      -- a full significand
      unfold keptD at hq
      by_cases hn : offD m e ≤ 0
      · rw [if_pos hn] at hq
        have hk : m.log2 + (-offD m e).toNat = 52 := by omega
        have h3 : 2 ^ m.log2 * 2 ^ (-offD m e).toNat ≤ m * 2 ^ (-offD m e).toNat := Nat.mul_le_mul_right _ h2
        rw [← Nat.pow_add, hk] at h3
        omega
      · rw [if_neg hn] at hq
        have hk : m.log2 = 52 + (offD m e).toNat := by omega
        have h3 : 4503599627370496 ≤ m / 2 ^ (offD m e).toNat := by
          rw [Nat.le_div_iff_mul_le (Nat.two_pow_pos _)]
          rw [hk, Nat.pow_add] at h2
          exact h2
        dsimp only at hq
        split at hq <;> omega
    rw [show (e + offD m e - -1074).toNat = 0 by omega, Nat.zero_mul, Nat.zero_add]
    omega
  · rw [if_neg h1]
    by_cases h2 : 2047 ≤ e + offD m e + 1075
    · rw [if_pos h2]
      have h3 : 2046 * 4503599627370496 ≤ (e + offD m e - -1074).toNat * 4503599627370496 := Nat.mul_le_mul_right _ (by omega)
      omega
    · rw [if_neg h2]
      have h3 : (e + offD m e + 1075).toNat = (e + offD m e - -1074).toNat + 1 := by omega
      rw [h3, Nat.add_mul, show (e + offD m e - -1074).toNat * 4503599627370496 + 1 * 4503599627370496 + (q - 4503599627370496) = (e + offD m e - -1074).toNat * 4503599627370496 + q by omega]
end Lf

/-
  Floats: what the document makes of two, and IEEE 754.
-/
namespace Lf
open Ieee


def isNaND (a : Nat) : Bool := decide (9218868437227405312 < a % 9223372036854775808)
def negD (a : Nat) : Bool := decide (9223372036854775808 ≤ a)
def partsM (b : Nat) : Nat := if b < 4503599627370496 then b else b % 4503599627370496 + 4503599627370496
def partsE (b : Nat) : Int := if b < 4503599627370496 then -1074 else ((b / 4503599627370496 : Nat) : Int) - 1075
def sgn (s : Bool) : Nat := if s then 9223372036854775808 else 0
def roundedD (s : Bool) (m : Nat) (e : Int) (more : Bool) : Nat := if m = 0 then sgn s else sgn s + rungD m e more

theorem word_eq {s : Bool} {r : Nat} : dbl.word s r = sgn s + r := by
  unfold Format.word sgn
  rw [dbl_sign]
  cases s <;> simp

theorem nearest_eq {s : Bool} {m : Nat} {e : Int} : dbl.nearest s m e = roundedD s m e false := by
  unfold roundedD
  by_cases h : m = 0
  · rw [if_pos h]; subst h; unfold Format.nearest; rw [if_pos rfl, word_eq, Nat.add_zero]
  · rw [if_neg h, nearest_rung h, word_eq]

theorem rungD_le {m : Nat} {e : Int} {b : Bool} : rungD m e b ≤ 9218868437227405312 := by
  unfold rungD
  dsimp only
  split
  · omega
  split
  · exact Nat.le_refl _
  · exact Nat.min_le_right _ _

theorem roundedD_mod {s : Bool} {m : Nat} {e : Int} {b : Bool} : roundedD s m e b % 9223372036854775808 ≤ 9218868437227405312 ∧ roundedD s m e b < 18446744073709551616 := by
  have h := rungD_le (m := m) (e := e) (b := b)
  unfold roundedD sgn
  split <;> split <;> omega

theorem read_eq {w : Nat} (h : w < 18446744073709551616) : dbl.read w = if w % 9223372036854775808 < 9218868437227405312 then .number (negD w) (partsM (w % 9223372036854775808)) (partsE (w % 9223372036854775808)) else if w % 9223372036854775808 = 9218868437227405312 then .infinity (negD w) else .nan (negD w) (w % 9223372036854775808 - 9218868437227405312) := by
  unfold Format.read
  have hs : (w / dbl.signWeight % 2 == 1) = negD w := by
    rw [dbl_sign]
    unfold negD
    by_cases h2 : 9223372036854775808 ≤ w
    · have : w / 9223372036854775808 = 1 := by omega
      rw [this, decide_eq_true h2]; rfl
    · have : w / 9223372036854775808 = 0 := by omega
      rw [this, decide_eq_false h2]; rfl
  rw [hs, dbl_sign, dbl_binade, dbl_inf, dbl_least]
  dsimp only
  generalize w % 9223372036854775808 = r
  unfold partsM partsE
  by_cases h1 : r < 4503599627370496
  · rw [if_pos h1, if_pos (show r < 9218868437227405312 by omega), if_pos h1, if_pos h1]
  · rw [if_neg h1, if_neg h1, if_neg h1]
    by_cases h2 : r < 9218868437227405312
    · rw [if_pos h2, if_pos h2, Nat.add_comm]
      congr 1
      omega
    · rw [if_neg h2, if_neg h2]

/-- What comes of it: a NaN is the one. -/
def outD (o : Option Nat) : Nat := o.getD 9221120237041090560

theorem shl (m k : Nat) : m <<< k = m * 2 ^ k := Nat.shiftLeft_eq m k

def addD (a b : Nat) : Nat :=
  if isNaND a = true ∨ isNaND b = true ∨ (a % 9223372036854775808 = 9218868437227405312 ∧ b % 9223372036854775808 = 9218868437227405312 ∧ a ≠ b) then 9221120237041090560
  else if a % 9223372036854775808 = 9218868437227405312 then a
  else if b % 9223372036854775808 = 9218868437227405312 then b
  else if a % 9223372036854775808 = 0 ∧ b % 9223372036854775808 = 0 then (if a = b then a else 0)
  else
    let k := min (partsE (a % 9223372036854775808)) (partsE (b % 9223372036854775808))
    let x := partsM (a % 9223372036854775808) * 2 ^ (partsE (a % 9223372036854775808) - k).toNat
    let y := partsM (b % 9223372036854775808) * 2 ^ (partsE (b % 9223372036854775808) - k).toNat
    if negD a = negD b then roundedD (negD a) (x + y) k false
    else if x = y then 0
    else if y < x then roundedD (negD a) (x - y) k false
    else roundedD (negD b) (y - x) k false

theorem neg_split {a : Nat} (h : a < 18446744073709551616) : a = sgn (negD a) + a % 9223372036854775808 := by
  unfold sgn negD
  by_cases h2 : 9223372036854775808 ≤ a
  · rw [decide_eq_true h2, if_pos rfl]; omega
  · rw [decide_eq_false h2, if_neg (by decide)]; omega

theorem signed_eq {s : Bool} {m k : Nat} : signed s m k = if s then -((m * 2 ^ k : Nat) : Int) else ((m * 2 ^ k : Nat) : Int) := by
  unfold signed
  rw [shl]

theorem read_num {w : Nat} (h : w < 18446744073709551616) (h1 : w % 9223372036854775808 < 9218868437227405312) : dbl.read w = .number (negD w) (partsM (w % 9223372036854775808)) (partsE (w % 9223372036854775808)) := by rw [read_eq h, if_pos h1]
theorem read_inf {w : Nat} (h : w < 18446744073709551616) (h1 : w % 9223372036854775808 = 9218868437227405312) : dbl.read w = .infinity (negD w) := by rw [read_eq h, if_neg (by omega), if_pos h1]
theorem read_nan {w : Nat} (h : w < 18446744073709551616) (h1 : 9218868437227405312 < w % 9223372036854775808) : dbl.read w = .nan (negD w) (w % 9223372036854775808 - 9218868437227405312) := by rw [read_eq h, if_neg (by omega), if_neg (by omega)]

theorem write_inf {w : Nat} (h : w < 18446744073709551616) (h1 : w % 9223372036854775808 = 9218868437227405312) : dbl.write (.infinity (negD w)) = w := by
  show dbl.word (negD w) dbl.infRung = w
  rw [word_eq, dbl_inf]
  have := neg_split h
  omega

theorem write_num {s : Bool} {m : Nat} {e : Int} : dbl.write (.number s m e) = roundedD s m e false := nearest_eq

/-- What is written is no NaN. -/
theorem not_nan {o : Option Datum} (ho : ∀ d, o = some d → (∃ s, d = .infinity s) ∨ ∃ s m e, d = .number s m e) : ∀ r, o.map dbl.write = some r → isNaND r = false := fun r hr => by
  cases o with
  | none => cases hr
  | some d =>
    have hr : dbl.write d = r := Option.some.inj hr
    subst hr
    rcases ho d rfl with ⟨s, rfl⟩ | ⟨s, m, e, rfl⟩
    · show isNaND (dbl.word s dbl.infRung) = false
      rw [word_eq, dbl_inf]
      cases s <;> decide
    · rw [write_num]
      have := (roundedD_mod (s := s) (m := m) (e := e) (b := false)).1
      unfold isNaND
      exact decide_eq_false (by omega)

theorem nan_not {r : Nat} (h : ¬ 9218868437227405312 < r % 9223372036854775808) : ¬ isNaND r = true := fun e => h (of_decide_eq_true e)

theorem parts_zero {r k : Nat} (hr : r < 9218868437227405312) : partsM r * 2 ^ k = 0 ↔ r = 0 := by
  have : partsM r = 0 ↔ r = 0 := by unfold partsM; split <;> omega
  rw [Nat.mul_eq_zero, this]
  have := Nat.two_pow_pos k
  constructor
  · rintro (h | h)
    · exact h
    · omega
  · exact .inl

theorem add_eq {a b : Nat} (ha : a < 18446744073709551616) (hb : b < 18446744073709551616) : outD (dbl.add a b) = addD a b ∧ ∀ r, dbl.add a b = some r → isNaND r = false := by
  unfold Format.add
  by_cases na : 9218868437227405312 < a % 9223372036854775808
  · rw [read_nan ha na]
    unfold addD
    rw [if_pos (.inl (decide_eq_true na))]
    exact ⟨rfl, fun r hr => by cases hr⟩
  by_cases nb : 9218868437227405312 < b % 9223372036854775808
  · rw [read_nan hb nb]
    have : ∀ d : Datum, d.sum (.nan (negD b) (b % 9223372036854775808 - 9218868437227405312)) = none := fun d => by cases d <;> rfl
    rw [this]
    unfold addD
    rw [if_pos (.inr (.inl (decide_eq_true nb)))]
    exact ⟨rfl, fun r hr => by cases hr⟩
  have na' := nan_not na
  have nb' := nan_not nb
  by_cases ia : a % 9223372036854775808 = 9218868437227405312
  · rw [read_inf ha ia]
    by_cases ib : b % 9223372036854775808 = 9218868437227405312
    · rw [read_inf hb ib]
      unfold addD
      by_cases hs : negD a = negD b
      · have hab : a = b := by rw [neg_split ha, neg_split hb, hs, ia, ib]
        have e1 : (Datum.infinity (negD a)).sum (.infinity (negD b)) = some (.infinity (negD a)) := by show (if negD a = negD b then _ else _) = _; rw [if_pos hs]
        rw [e1, if_neg (fun h => by rcases h with h | h | h; exact na' h; exact nb' h; exact h.2.2 hab), if_pos ia]
        exact ⟨write_inf ha ia, not_nan fun d hd => by cases hd; exact .inl ⟨_, rfl⟩⟩
      · have e1 : (Datum.infinity (negD a)).sum (.infinity (negD b)) = none := by show (if negD a = negD b then _ else _) = _; rw [if_neg hs]
        rw [e1, if_pos (.inr (.inr ⟨ia, ib, fun e => hs (by rw [e])⟩))]
        exact ⟨rfl, fun r hr => by cases hr⟩
    · rw [read_num hb (by omega)]
      unfold addD
      rw [if_neg (fun h => by rcases h with h | h | h; exact na' h; exact nb' h; exact ib h.2.1), if_pos ia]
      exact ⟨write_inf ha ia, not_nan (o := some (.infinity (negD a))) fun d hd => by cases hd; exact .inl ⟨_, rfl⟩⟩
  · rw [read_num ha (by omega)]
    by_cases ib : b % 9223372036854775808 = 9218868437227405312
    · rw [read_inf hb ib]
      unfold addD
      rw [if_neg (fun h => by rcases h with h | h | h; exact na' h; exact nb' h; exact ia h.1), if_neg ia, if_pos ib]
      exact ⟨write_inf hb ib, not_nan (o := some (.infinity (negD b))) fun d hd => by cases hd; exact .inl ⟨_, rfl⟩⟩
    · rw [read_num hb (by omega)]
      unfold addD
      rw [if_neg (fun h => by rcases h with h | h | h; exact na' h; exact nb' h; exact ia h.1), if_neg ia, if_neg ib]
      refine ⟨?_, not_nan fun d hd => .inr (by cases hd; exact ⟨_, _, _, rfl⟩)⟩
      have e1 : ∀ {s m i t n j}, outD ((Datum.sum (.number s m i) (.number t n j)).map dbl.write) = dbl.nearest (if signed s m (i - min i j).toNat + signed t n (j - min i j).toNat = 0 then s && t else decide (signed s m (i - min i j).toNat + signed t n (j - min i j).toNat < 0)) (signed s m (i - min i j).toNat + signed t n (j - min i j).toNat).natAbs (min i j) := rfl
      rw [e1, nearest_eq, signed_eq, signed_eq]
      by_cases hz : a % 9223372036854775808 = 0 ∧ b % 9223372036854775808 = 0
      · rw [if_pos hz, hz.1, hz.2, show partsM 0 = 0 from rfl]
        have ea := neg_split ha
        have eb := neg_split hb
        rw [hz.1, Nat.add_zero] at ea
        rw [hz.2, Nat.add_zero] at eb
        unfold roundedD
        cases h1 : negD a <;> cases h2 : negD b <;> rw [h1] at ea <;> rw [h2] at eb <;> simp [sgn] at ea eb ⊢ <;> simp [ea, eb]
      · rw [if_neg hz]
        dsimp only
        have hxa := parts_zero (r := a % 9223372036854775808) (k := (partsE (a % 9223372036854775808) - min (partsE (a % 9223372036854775808)) (partsE (b % 9223372036854775808))).toNat) (by omega)
        have hxb := parts_zero (r := b % 9223372036854775808) (k := (partsE (b % 9223372036854775808) - min (partsE (a % 9223372036854775808)) (partsE (b % 9223372036854775808))).toNat) (by omega)
        generalize min (partsE (a % 9223372036854775808)) (partsE (b % 9223372036854775808)) = k at *
        generalize partsM (a % 9223372036854775808) * 2 ^ (partsE (a % 9223372036854775808) - k).toNat = x at *
        generalize partsM (b % 9223372036854775808) * 2 ^ (partsE (b % 9223372036854775808) - k).toNat = y at *
        have hxy : ¬ (x = 0 ∧ y = 0) := fun h => hz ⟨hxa.1 h.1, hxb.1 h.2⟩
        have pick : ∀ {z : Int} {s t : Bool} {n : Nat}, z ≠ 0 → decide (z < 0) = t → z.natAbs = n → roundedD (if z = 0 then s else decide (z < 0)) z.natAbs k false = roundedD t n k false := fun h0 h1 h2 => by rw [if_neg h0, h1, h2]
        cases h1 : negD a <;> cases h2 : negD b
        · rw [if_pos rfl]
          exact pick (z := (x : Int) + (y : Int)) (by omega) (decide_eq_false (by omega)) (by omega)
        · rw [if_neg (show ¬ false = true by decide)]
          by_cases e : x = y
          · rw [if_pos e]
            show roundedD (if (x : Int) + -(y : Int) = 0 then _ else _) ((x : Int) + -(y : Int)).natAbs k false = 0
            rw [if_pos (by omega), show ((x : Int) + -(y : Int)).natAbs = 0 by omega]; rfl
          · rw [if_neg e]
            by_cases hlt : y < x
            · rw [if_pos hlt]
              exact pick (z := (x : Int) + -(y : Int)) (by omega) (decide_eq_false (by omega)) (by omega)
            · rw [if_neg hlt]
              exact pick (z := (x : Int) + -(y : Int)) (by omega) (decide_eq_true (by omega)) (by omega)
        · rw [if_neg (show ¬ true = false by decide)]
          by_cases e : x = y
          · rw [if_pos e]
            show roundedD (if -(x : Int) + (y : Int) = 0 then _ else _) (-(x : Int) + (y : Int)).natAbs k false = 0
            rw [if_pos (by omega), show (-(x : Int) + (y : Int)).natAbs = 0 by omega]; rfl
          · rw [if_neg e]
            by_cases hlt : y < x
            · rw [if_pos hlt]
              exact pick (z := -(x : Int) + (y : Int)) (by omega) (decide_eq_true (by omega)) (by omega)
            · rw [if_neg hlt]
              exact pick (z := -(x : Int) + (y : Int)) (by omega) (decide_eq_false (by omega)) (by omega)
        · rw [if_pos rfl]
          exact pick (z := -(x : Int) + -(y : Int)) (by omega) (decide_eq_true (by omega)) (by omega)
end Lf

/-
  Floats: products and quotients.
-/
namespace Lf
open Ieee

def mulD (a b : Nat) : Nat :=
  let s := negD a ^^ negD b
  if isNaND a = true ∨ isNaND b = true ∨ (a % 9223372036854775808 = 9218868437227405312 ∧ b % 9223372036854775808 = 0) ∨ (a % 9223372036854775808 = 0 ∧ b % 9223372036854775808 = 9218868437227405312) then 9221120237041090560
  else if a % 9223372036854775808 = 9218868437227405312 ∨ b % 9223372036854775808 = 9218868437227405312 then sgn s + 9218868437227405312
  else roundedD s (partsM (a % 9223372036854775808) * partsM (b % 9223372036854775808)) (partsE (a % 9223372036854775808) + partsE (b % 9223372036854775808)) false

def divD (a b : Nat) : Nat :=
  let s := negD a ^^ negD b
  if isNaND a = true ∨ isNaND b = true ∨ (a % 9223372036854775808 = 9218868437227405312 ∧ b % 9223372036854775808 = 9218868437227405312) ∨ (a % 9223372036854775808 = 0 ∧ b % 9223372036854775808 = 0) then 9221120237041090560
  else if a % 9223372036854775808 = 9218868437227405312 ∨ b % 9223372036854775808 = 0 then sgn s + 9218868437227405312
  else if b % 9223372036854775808 = 9218868437227405312 ∨ a % 9223372036854775808 = 0 then sgn s
  else roundedD s (partsM (a % 9223372036854775808) * 2 ^ 128 / partsM (b % 9223372036854775808)) (partsE (a % 9223372036854775808) - partsE (b % 9223372036854775808) - 128) (decide (0 < partsM (a % 9223372036854775808) * 2 ^ 128 % partsM (b % 9223372036854775808)))

theorem partsM_zero {r : Nat} (h : r < 9218868437227405312) : partsM r = 0 ↔ r = 0 := by unfold partsM; split <;> omega

theorem write_infS {s : Bool} : dbl.write (.infinity s) = sgn s + 9218868437227405312 := by
  show dbl.word s dbl.infRung = _
  rw [word_eq, dbl_inf]

theorem mul_eq {a b : Nat} (ha : a < 18446744073709551616) (hb : b < 18446744073709551616) : outD (dbl.mul a b) = mulD a b ∧ ∀ r, dbl.mul a b = some r → isNaND r = false := by
  unfold Format.mul
  by_cases na : 9218868437227405312 < a % 9223372036854775808
  · rw [read_nan ha na]
    unfold mulD
    dsimp only
    rw [if_pos (.inl (decide_eq_true na))]
    exact ⟨rfl, fun r hr => by cases hr⟩
  by_cases nb : 9218868437227405312 < b % 9223372036854775808
  · rw [read_nan hb nb]
    have : ∀ d : Datum, d.product (.nan (negD b) (b % 9223372036854775808 - 9218868437227405312)) = none := fun d => by cases d <;> rfl
    rw [this]
    unfold mulD
    dsimp only
    rw [if_pos (.inr (.inl (decide_eq_true nb)))]
    exact ⟨rfl, fun r hr => by cases hr⟩
  have na' := nan_not na
  have nb' := nan_not nb
  unfold mulD
  dsimp only
  by_cases ia : a % 9223372036854775808 = 9218868437227405312
  · rw [read_inf ha ia]
    by_cases ib : b % 9223372036854775808 = 9218868437227405312
    · rw [read_inf hb ib, if_neg (by rintro (h | h | h | h); exact na' h; exact nb' h; omega; omega), if_pos (.inl ia), ← write_infS]
      exact ⟨rfl, not_nan (o := some (.infinity (negD a ^^ negD b))) fun d hd => by cases hd; exact .inl ⟨_, rfl⟩⟩
    · have hp := partsM_zero (r := b % 9223372036854775808) (by omega)
      rw [read_num hb (by omega)]
      have e1 : (Datum.infinity (negD a)).product (.number (negD b) (partsM (b % 9223372036854775808)) (partsE (b % 9223372036854775808))) = if partsM (b % 9223372036854775808) = 0 then none else some (.infinity (negD a ^^ negD b)) := rfl
      rw [e1]
      by_cases z : b % 9223372036854775808 = 0
      · rw [if_pos (hp.2 z), if_pos (.inr (.inr (.inl ⟨ia, z⟩)))]
        exact ⟨rfl, fun r hr => by cases hr⟩
      · rw [if_neg (fun h => z (hp.1 h)), if_neg (by rintro (h | h | h | h); exact na' h; exact nb' h; exact z h.2; exact ib h.2), if_pos (.inl ia), ← write_infS]
        exact ⟨rfl, not_nan (o := some (.infinity (negD a ^^ negD b))) fun d hd => by cases hd; exact .inl ⟨_, rfl⟩⟩
  · have hpa := partsM_zero (r := a % 9223372036854775808) (by omega)
    rw [read_num ha (by omega)]
    by_cases ib : b % 9223372036854775808 = 9218868437227405312
    · rw [read_inf hb ib]
      have e1 : (Datum.number (negD a) (partsM (a % 9223372036854775808)) (partsE (a % 9223372036854775808))).product (.infinity (negD b)) = if partsM (a % 9223372036854775808) = 0 then none else some (.infinity (negD b ^^ negD a)) := rfl
      rw [e1]
      by_cases z : a % 9223372036854775808 = 0
      · rw [if_pos (hpa.2 z), if_pos (.inr (.inr (.inr ⟨z, ib⟩)))]
        exact ⟨rfl, fun r hr => by cases hr⟩
      · rw [if_neg (fun h => z (hpa.1 h)), if_neg (by rintro (h | h | h | h); exact na' h; exact nb' h; exact ia h.1; exact z h.1), if_pos (.inr ib), ← write_infS, Bool.xor_comm (negD a)]
        exact ⟨rfl, not_nan (o := some (.infinity (negD b ^^ negD a))) fun d hd => by cases hd; exact .inl ⟨_, rfl⟩⟩
    · rw [read_num hb (by omega), if_neg (by rintro (h | h | h | h); exact na' h; exact nb' h; exact ia h.1; exact ib h.2), if_neg (by rintro (h | h); exact ia h; exact ib h), ← write_num]
      exact ⟨rfl, not_nan (o := some (.number (negD a ^^ negD b) (partsM (a % 9223372036854775808) * partsM (b % 9223372036854775808)) (partsE (a % 9223372036854775808) + partsE (b % 9223372036854775808)))) fun d hd => .inr (by cases hd; exact ⟨_, _, _, rfl⟩)⟩

/-! A rest that is told by a mark. -/
theorem log2_shift {y k : Nat} (h : y / 2 ^ k ≠ 0) : (y / 2 ^ k).log2 + k = y.log2 := by
  have hy : y ≠ 0 := fun e => h (by rw [e]; exact Nat.zero_div _)
  have h1 := Nat.log2_self_le h
  have h2 : y / 2 ^ k < 2 ^ ((y / 2 ^ k).log2 + 1) := Nat.lt_log2_self
  have h3 : 2 ^ ((y / 2 ^ k).log2 + k) ≤ y := by
    rw [Nat.pow_add]
    exact (Nat.le_div_iff_mul_le (Nat.two_pow_pos k)).1 h1
  have h4 : y < 2 ^ ((y / 2 ^ k).log2 + 1 + k) := by
    rw [Nat.pow_add]
    exact (Nat.div_lt_iff_lt_mul (Nat.two_pow_pos k)).1 h2
  have h5 := (Nat.le_log2 hy).2 h3
  have h6 : y.log2 < (y / 2 ^ k).log2 + 1 + k := (Nat.log2_lt hy).2 h4
  omega

theorem keptD_shift {y k : Nat} {off : Int} {c : Bool} (h : (k : Int) + 1 ≤ off) : keptD (y / 2 ^ k) (off - k) (decide (0 < y % 2 ^ k) || c) = keptD y off c := by
  unfold keptD
  rw [if_neg (show ¬ off - (k : Int) ≤ 0 by omega), if_neg (show ¬ off ≤ 0 by omega)]
  obtain ⟨d, hd⟩ : ∃ d : Nat, off = (k : Int) + d + 1 := ⟨(off - k - 1).toNat, by omega⟩
  subst hd
  rw [show ((k : Int) + d + 1 - k).toNat = d + 1 by omega, show ((k : Int) + d + 1).toNat = k + (d + 1) by omega]
  dsimp only
  rw [Nat.add_sub_cancel, show k + (d + 1) - 1 = k + d by omega, Nat.div_div_eq_div_mul, ← Nat.pow_add]
  have e1 : y % 2 ^ (k + (d + 1)) = (y / 2 ^ k) % 2 ^ (d + 1) * 2 ^ k + y % 2 ^ k := by
    have h1 := Nat.div_add_mod y (2 ^ k)
    have h2 := Nat.div_add_mod (y / 2 ^ k) (2 ^ (d + 1))
    rw [Nat.pow_add, Nat.mod_mul, Nat.add_comm, Nat.mul_comm]
  rw [e1, Nat.pow_add 2 k d]
  have hk := Nat.two_pow_pos k
  have hl := Nat.mod_lt y hk
  generalize y / 2 ^ (k + (d + 1)) = q
  generalize (y / 2 ^ k) % 2 ^ (d + 1) = r
  generalize y % 2 ^ k = l at *
  generalize 2 ^ d = g
  generalize 2 ^ k = p at *
  have iff_ : (g < r ∨ r = g ∧ ((decide (0 < l) || c) = true ∨ q % 2 = 1)) ↔ (p * g < r * p + l ∨ r * p + l = p * g ∧ (c = true ∨ q % 2 = 1)) := by
    rcases Nat.lt_trichotomy r g with h1 | h1 | h1
    · have : (r + 1) * p ≤ g * p := Nat.mul_le_mul_right p h1
      rw [Nat.add_mul, Nat.one_mul, Nat.mul_comm g p] at this
      constructor
      · rintro (h | h) <;> omega
      · rintro (h | h) <;> omega
    · subst h1
      rw [Nat.mul_comm p r]
      by_cases hl0 : l = 0
      · subst hl0
        simp
      · have : 0 < l := by omega
        simp [this]
    · have : (g + 1) * p ≤ r * p := Nat.mul_le_mul_right p h1
      rw [Nat.add_mul, Nat.one_mul, Nat.mul_comm g p] at this
      exact ⟨fun _ => .inl (by omega), fun _ => .inl h1⟩
  by_cases hc : g < r ∨ r = g ∧ ((decide (0 < l) || c) = true ∨ q % 2 = 1)
  · rw [if_pos hc, if_pos (iff_.1 hc)]
  · rw [if_neg hc, if_neg (fun h => hc (iff_.2 h))]

theorem rungD_shift {y k : Nat} {e : Int} {c : Bool} (h : 9007199254740992 ≤ y / 2 ^ k) : rungD (y / 2 ^ k) (e + k) (decide (0 < y % 2 ^ k) || c) = rungD y e c := by
  have hx : y / 2 ^ k ≠ 0 := by omega
  have hy : y ≠ 0 := fun e => hx (by rw [e]; exact Nat.zero_div _)
  have hl := log2_shift hx
  have h53 : 53 ≤ (y / 2 ^ k).log2 := (Nat.le_log2 hx).2 (show 2 ^ 53 ≤ _ by omega)
  have ho : offD (y / 2 ^ k) (e + k) = offD y e - k := by
    unfold offD bitsN
    rw [if_neg hx, if_neg hy]
    split <;> split <;> omega
  have hge : (k : Int) + 1 ≤ offD y e := by
    unfold offD bitsN
    rw [if_neg hy]
    split <;> omega
  unfold rungD
  dsimp only
  rw [ho, keptD_shift hge, show e + (k : Int) + (offD y e - k) = e + offD y e by omega]

theorem div_eq {a b : Nat} (ha : a < 18446744073709551616) (hb : b < 18446744073709551616) : outD (dbl.div a b) = divD a b ∧ ∀ r, dbl.div a b = some r → isNaND r = false := by
  unfold Format.div
  by_cases na : 9218868437227405312 < a % 9223372036854775808
  · rw [read_nan ha na]
    unfold divD
    dsimp only
    rw [if_pos (.inl (decide_eq_true na))]
    exact ⟨rfl, fun r hr => by cases hr⟩
  by_cases nb : 9218868437227405312 < b % 9223372036854775808
  · rw [read_nan hb nb]
    have : ∀ d : Datum, d.quotient (dbl.fractionBits + 2) (.nan (negD b) (b % 9223372036854775808 - 9218868437227405312)) = none := fun d => by cases d <;> rfl
    rw [this]
    unfold divD
    dsimp only
    rw [if_pos (.inr (.inl (decide_eq_true nb)))]
    exact ⟨rfl, fun r hr => by cases hr⟩
  have na' := nan_not na
  have nb' := nan_not nb
  unfold divD
  dsimp only
  by_cases ia : a % 9223372036854775808 = 9218868437227405312
  · rw [read_inf ha ia]
    by_cases ib : b % 9223372036854775808 = 9218868437227405312
    · rw [read_inf hb ib, if_pos (.inr (.inr (.inl ⟨ia, ib⟩)))]
      exact ⟨rfl, fun r hr => by cases hr⟩
    · rw [read_num hb (by omega), if_neg (by rintro (h | h | h | h); exact na' h; exact nb' h; exact ib h.2; omega), if_pos (.inl ia), ← write_infS]
      exact ⟨rfl, not_nan (o := some (.infinity (negD a ^^ negD b))) fun d hd => by cases hd; exact .inl ⟨_, rfl⟩⟩
  · have hpa := partsM_zero (r := a % 9223372036854775808) (by omega)
    rw [read_num ha (by omega)]
    by_cases ib : b % 9223372036854775808 = 9218868437227405312
    · rw [read_inf hb ib, if_neg (by rintro (h | h | h | h); exact na' h; exact nb' h; exact ia h.1; omega), if_neg (by rintro (h | h); exact ia h; omega), if_pos (.inl ib)]
      have e1 : dbl.write (.number (negD a ^^ negD b) 0 0) = sgn (negD a ^^ negD b) := by rw [write_num]; rfl
      rw [← e1]
      exact ⟨rfl, not_nan (o := some (.number (negD a ^^ negD b) 0 0)) fun d hd => .inr (by cases hd; exact ⟨_, _, _, rfl⟩)⟩
    · have hpb := partsM_zero (r := b % 9223372036854775808) (by omega)
      rw [read_num hb (by omega)]
      have hma : partsM (a % 9223372036854775808) < 9007199254740992 := by unfold partsM; split <;> omega
      have hmb : partsM (b % 9223372036854775808) < 9007199254740992 := by unfold partsM; split <;> omega
      generalize partsE (a % 9223372036854775808) = i
      generalize partsE (b % 9223372036854775808) = j
      generalize partsM (a % 9223372036854775808) = m at *
      generalize partsM (b % 9223372036854775808) = n at *
      have e0 : (Datum.number (negD a) m i).quotient (dbl.fractionBits + 2) (.number (negD b) n j) = if n = 0 then if m = 0 then none else some (.infinity (negD a ^^ negD b))
          else some (.number (negD a ^^ negD b) (2 * ((m <<< (54 + n.log2 - m.log2)) / n) + ((m <<< (54 + n.log2 - m.log2)) % n != 0).toNat) (i - j - ((54 + n.log2 - m.log2 : Nat) : Int) - 1)) := rfl
      rw [e0]
      by_cases zb : b % 9223372036854775808 = 0
      · rw [if_pos (hpb.2 zb)]
        by_cases za : a % 9223372036854775808 = 0
        · rw [if_pos (hpa.2 za), if_pos (.inr (.inr (.inr ⟨za, zb⟩)))]
          exact ⟨rfl, fun r hr => by cases hr⟩
        · rw [if_neg (fun h => za (hpa.1 h)), if_neg (by rintro (h | h | h | h); exact na' h; exact nb' h; exact ia h.1; exact za h.1), if_pos (.inr zb), ← write_infS]
          exact ⟨rfl, not_nan (o := some (.infinity (negD a ^^ negD b))) fun d hd => by cases hd; exact .inl ⟨_, rfl⟩⟩
      · have hn : n ≠ 0 := fun h => zb (hpb.1 h)
        rw [if_neg hn, if_neg (by rintro (h | h | h | h); exact na' h; exact nb' h; exact ia h.1; exact zb h.2), if_neg (by rintro (h | h); exact ia h; exact zb h)]
        refine ⟨?_, not_nan (o := some (.number _ _ _)) fun d hd => .inr (by cases hd; exact ⟨_, _, _, rfl⟩)⟩
        show dbl.write (.number _ _ _) = _
        rw [write_num]
        by_cases za : a % 9223372036854775808 = 0
        · rw [if_pos (.inr za)]
          have hm : m = 0 := hpa.2 za
          subst hm
          unfold roundedD
          rw [if_pos (by simp)]
        · rw [if_neg (by rintro (h | h); exact ib h; exact za h)]
          have hm : m ≠ 0 := fun h => za (hpa.1 h)
          rw [shl]
          have hmore : m.log2 ≤ 52 := by
            have : m.log2 < 53 := (Nat.log2_lt hm).2 hma
            omega
          have hnl : n.log2 ≤ 52 := by
            have : n.log2 < 53 := (Nat.log2_lt hn).2 hmb
            omega
          obtain ⟨p, hp⟩ : ∃ p, p = 54 + n.log2 - m.log2 := ⟨_, rfl⟩
          rw [← hp]
          have hnp := Nat.pos_of_ne_zero hn
          -- the quotient has digits enough
          have hA : 9007199254740992 ≤ m * 2 ^ p / n := by
            rw [Nat.le_div_iff_mul_le hnp]
            have h1 : 2 ^ m.log2 ≤ m := Nat.log2_self_le hm
            have h2 : n < 2 ^ (n.log2 + 1) := Nat.lt_log2_self
            have h3 : 2 ^ m.log2 * 2 ^ p ≤ m * 2 ^ p := Nat.mul_le_mul_right _ h1
            rw [← Nat.pow_add, show m.log2 + p = 53 + (n.log2 + 1) by omega, Nat.pow_add 2 53] at h3
            have h4 : 2 ^ 53 * n ≤ 2 ^ 53 * 2 ^ (n.log2 + 1) := Nat.mul_le_mul_left _ (Nat.le_of_lt h2)
            omega
          have hk : p + (128 - p) = 128 := by omega
          have hq : m * 2 ^ 128 / n / 2 ^ (128 - p) = m * 2 ^ p / n := by
            rw [Nat.div_div_eq_div_mul, Nat.mul_comm n, ← Nat.div_div_eq_div_mul, ← hk, Nat.pow_add, ← Nat.mul_assoc, show p + (128 - p) - p = 128 - p by omega, Nat.mul_div_cancel _ (Nat.two_pow_pos _)]
          have hst : (decide (0 < m * 2 ^ 128 / n % 2 ^ (128 - p)) || decide (0 < m * 2 ^ 128 % n)) = (m * 2 ^ p % n != 0) := by
            have h1 := Nat.div_add_mod (m * 2 ^ 128) n
            have h2 := Nat.div_add_mod (m * 2 ^ 128 / n) (2 ^ (128 - p))
            have h3 := Nat.div_add_mod (m * 2 ^ p) n
            have h4 : m * 2 ^ 128 = m * 2 ^ p * 2 ^ (128 - p) := by rw [Nat.mul_assoc, ← Nat.pow_add, hk]
            rw [hq] at h2
            have hP := Nat.two_pow_pos (128 - p)
            generalize 2 ^ (128 - p) = P at *
            generalize m * 2 ^ 128 = X at *
            generalize m * 2 ^ p = Y at *
            have h5 := Nat.mod_lt X hnp
            have h6 := Nat.mod_lt Y hnp
            generalize X / n = B at *
            generalize Y / n = A at *
            generalize X % n = rx at *
            generalize Y % n = ry at *
            have h7 := Nat.mod_lt B hP
            generalize B % P = l at *
            -- Y P = (n A + ry) P = n (P A + l) + rx
            have h8 : n * l + rx = ry * P := by
              have e1 : X = n * (P * A + l) + rx := by rw [h2]; exact h1.symm
              have e2 : X = (n * A + ry) * P := by rw [h3]; exact h4
              rw [Nat.mul_add, Nat.add_assoc] at e1
              rw [Nat.add_mul, show n * A * P = n * (P * A) by rw [Nat.mul_assoc, Nat.mul_comm A P]] at e2
              omega
            by_cases hr : ry = 0
            · subst hr
              rw [Nat.zero_mul] at h8
              have h9 : rx = 0 := by omega
              have h10 : n * l = 0 := by omega
              have h11 : l = 0 := by
                rcases Nat.mul_eq_zero.1 h10 with h | h
                · omega
                · exact h
              subst h9 h11
              rfl
            · have h9 : 0 < ry * P := Nat.mul_pos (Nat.pos_of_ne_zero hr) hP
              have h10 : 0 < l ∨ 0 < rx := by
                refine Classical.byContradiction fun hh => ?_
                have : l = 0 := by omega
                subst this
                rw [Nat.mul_zero] at h8
                omega
              rw [show (ry != 0) = true by simp [hr]]
              rcases h10 with h | h <;> simp [h]
          have s1 := rungD_shift (y := m * 2 ^ 128 / n) (k := 128 - p) (e := i - j - 128) (c := decide (0 < m * 2 ^ 128 % n)) (by rw [hq]; exact hA)
          rw [hq, hst] at s1
          have hY2 : (2 * (m * 2 ^ p / n) + (m * 2 ^ p % n != 0).toNat) / 2 ^ 1 = m * 2 ^ p / n ∧ (2 * (m * 2 ^ p / n) + (m * 2 ^ p % n != 0).toNat) % 2 ^ 1 = (m * 2 ^ p % n != 0).toNat := by
            cases (m * 2 ^ p % n != 0) <;> simp <;> omega
          have s2 := rungD_shift (y := 2 * (m * 2 ^ p / n) + (m * 2 ^ p % n != 0).toNat) (k := 1) (e := i - j - (p : Int) - 1) (c := false) (by rw [hY2.1]; exact hA)
          rw [hY2.1, hY2.2] at s2
          have s3 : (decide (0 < (m * 2 ^ p % n != 0).toNat) || false) = (m * 2 ^ p % n != 0) := by cases (m * 2 ^ p % n != 0) <;> rfl
          rw [s3] at s2
          unfold roundedD
          have hB : m * 2 ^ 128 / n ≠ 0 := fun h => by rw [h, Nat.zero_div] at hq; omega
          rw [if_neg (by omega), if_neg hB, ← s1, ← s2]
          congr 2
          omega
end Lf

