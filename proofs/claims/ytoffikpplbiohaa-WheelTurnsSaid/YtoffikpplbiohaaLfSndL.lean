/-
  The lifting layer, part 16: one operation of a region.
-/
import Derived.Test.YtoffikpplbiohaaLfSndK
namespace Lf
open Go

section
variable {n : Nat} {Cur Liv D N : Nat → Prop} {β : Nat → Nat} {s : St} {a : Act} {h : Hp} {w : World}

theorem RR.putO (hr : RR n Cur Liv D N β s a h w) {dst : Option Nat} {l : LV} {ch : Chain} {v : Value} (hd : ∀ d, dst = some d → d < n ∧ ¬ D d) (hch : ∀ p ∈ ch, D p.1)
    (h1 : holds s ch → v = LVal β l ∧ ∀ k o, (l = .box k o ∨ l = .boxd k o) → Liv k ∧ ¬ N k) (h2 : ¬ holds s ch → v = undef) :
    RR n (fun t => dst = some t ∨ Cur t) Liv D N β (s.put dst l ch) (a.put dst v) h w := by
  cases dst with
  | none => exact hr.congr (fun t => by simp) (fun _ => .rfl) (fun _ e => e) (fun _ e => e)
  | some d =>
    obtain ⟨hdn, hD⟩ := hd d rfl
    have h3 := (hr.lift hdn hD hch fun hh k o e => (((h1 hh).2 k o e).2)).exec (v := v) (put_same s d l ch) (fun e => e.1 rfl)
      (fun hh => ⟨(h1 ((holds_put hD hch).1 hh)).1, fun k o e => ((h1 ((holds_put hD hch).1 hh)).2 k o e).1⟩) (fun hh => h2 fun e => hh ((holds_put hD hch).2 e))
    refine h3.congr (fun t => ?_) (fun _ => .rfl) (fun _ e => e) (fun _ e => e)
    by_cases ht : t = d
    · simp [ht]
    · simp [ht, Ne.symm ht]

theorem chain_D (hr : RR n Cur Liv D N β s a h w) {c : Chain} {ops : List Oper} {m : Nat} {o : Oper} (hch : chainOf ops m o = some c) (hg : guardOk s c = true)
    (hgd : ∀ j b p d, o.guard = some (j, b) → nth ops j = some p → p.dst = some d → D d) : ∀ p ∈ c, D p.1 := by
  cases m with
  | zero => simp [chainOf] at hch
  | succ m =>
    simp only [chainOf] at hch
    split at hch
    · cases hch; simp
    · rename_i j b hgu
      split at hch
      · rename_i p hp
        split at hch
        · rename_i d c' hd hc'
          cases hch
          simp only [guardOk] at hg
          split at hg
          · rename_i t c2 hf
            cases h1 : chEq c2 c' with
            | false => simp [h1] at hg
            | true =>
              have := chEq_eq h1
              subst this
              intro q hq
              rcases List.mem_cons.1 hq with rfl | hq
              · exact hgd j b p d hgu hp hd
              · exact hr.chain d _ _ hf q hq
          · cases hg
        · cases hch
      · cases hch

theorem wanted_iff (hr : RR n Cur Liv D N β s a h w) {ch : Chain} {ops : Array Oper} {m : Nat} {o : Oper} (hch : chainOf ops.toList m o = some ch) (hg : guardOk s ch = true)
    (hgc : ∀ j b p d, o.guard = some (j, b) → nth ops.toList j = some p → p.dst = some d → Cur d) : Region.wanted o (yielded ops a.tmps) = true ↔ holds s ch := by
  cases m with
  | zero => simp [chainOf] at hch
  | succ m =>
    simp only [chainOf] at hch
    split at hch
    · rename_i hgu
      cases hch
      simp [Region.wanted, hgu, holds_nil]
    · rename_i j b hgu
      split at hch
      · rename_i p hp
        split at hch
        · rename_i d c' hd hc'
          cases hch
          simp only [guardOk] at hg
          split at hg
          · rename_i t c2 hf
            cases h1 : chEq c2 c' with
            | false => simp [h1] at hg
            | true =>
              have := chEq_eq h1
              subst this
              have hC := hgc j b p d hgu hp hd
              have hlt : d < a.tmps.size := by rw [hr.sz]; exact hr.lt d _ _ hf
              have hpj : ops[j]? = some p := by rw [nth_get] at hp; simpa using hp
              have hy : yielded ops a.tmps j = match a.eval (.tmp d) with | .bool b => some b | _ => none := by
                unfold yielded
                simp only [hpj, Option.bind_some, hd, Act.eval]
                have : a.tmps[d]? = some (a.tmps[d]'hlt) := Array.getElem?_eq_getElem hlt
                simp only [this, Array.getD_eq_getD_getElem?, Option.getD_some]
                generalize a.tmps[d] = v
                cases v <;> rfl
              simp only [Region.wanted, hgu, hy]
              by_cases hh : holds s c2
              · have := (hr.cur d _ _ hf hC hh).1
                rw [this]
                simp only [LVal]
                constructor
                · intro e
                  have e : t = b := by simpa using e
                  subst e
                  intro q hq
                  rcases List.mem_cons.1 hq with rfl | hq
                  · simp [hb, hf]
                  · exact hh q hq
                · intro e
                  have := e (d, b) (List.mem_cons_self ..)
                  simp only [hb, hf] at this
                  simpa using this
              · have := hr.und d _ _ hf hC hh
                rw [this]
                simp only [undef]
                refine ⟨fun e => by simp at e, fun e => absurd (fun q hq => e q (List.mem_cons_of_mem _ hq)) hh⟩
          · cases hg
        · cases hch
      · cases hch

def privA (priv : List Nat) (o : Oper) (k : Nat) : Prop := isPrivAlloc priv o = true ∧ o.dst = some k

/-- What an operation leaves. -/
structure OpOut (C : Ctx) (l mok : List Nat) (n : Nat) (Cur Liv D N : Nat → Prop) (o : Oper) (β : Nat → Nat) (s : St) (a : Act) (h : Hp) (w : World) (β' : Nat → Nat) (s' : St) (a' : Act) (h' : Hp) (w' : World) : Prop where
  rr : RR n (fun t => o.dst = some t ∨ Cur t) (fun k => privA C.priv o k ∨ Liv k) D (fun k => ¬ privA C.priv o k ∧ N k) β' s' a' h' w'
  seg : Seg l mok (live s Liv) β a h w (live s' fun k => privA C.priv o k ∨ Liv k) β' a' h' w'
  f : ∀ t, o.dst ≠ some t → s'.f t = s.f t
  m : ∀ k, s'.m k = s.m k ∨ privA C.priv o k ∨ (isStore o = true ∧ isVal C.tb o = false ∧ s.m k ≠ none ∧ Liv k)
  hv : isVal C.tb o = true → h' = h
  hp : isPrivAlloc C.priv o = true → h' = h

theorem not_priv {C : Ctx} {o : Oper} (h : isPrivAlloc C.priv o = false) (k : Nat) : ¬ privA C.priv o k := fun e => by have := e.1; rw [h] at this; cases this

theorem outPlain {C : Ctx} {l mok : List Nat} {o : Oper} {s' : St} {a' : Act} {h' : Hp} {w' : World} (hp : isPrivAlloc C.priv o = false)
    (rr : RR n (fun t => o.dst = some t ∨ Cur t) Liv D N β s' a' h' w') (seg : Seg l mok (live s Liv) β a h w (live s' Liv) β a' h' w')
    (f : ∀ t, o.dst ≠ some t → s'.f t = s.f t) (m : ∀ k, s'.m k = s.m k ∨ (isStore o = true ∧ isVal C.tb o = false ∧ s.m k ≠ none ∧ Liv k)) (hv : isVal C.tb o = true → h' = h) :
    OpOut C l mok n Cur Liv D N o β s a h w β s' a' h' w' := by
  have e1 : ∀ k, (privA C.priv o k ∨ Liv k) ↔ Liv k := fun k => ⟨fun e => e.resolve_left (not_priv hp k), .inr⟩
  refine ⟨rr.congr (fun _ => .rfl) e1 (fun _ e => e) (fun _ e => e.2), seg.mono (fun _ e => e) (fun _ e => e) (fun _ e => e) (fun k e => ⟨e.1, (e1 k).1 e.2⟩), f, fun k => (m k).imp id .inr, hv, fun e => by rw [hp] at e; cases e⟩

theorem put_f (s : St) (d : Option Nat) (l : LV) (ch : Chain) (t : Nat) (h : d ≠ some t) : (s.put d l ch).f t = s.f t := by
  cases d with
  | none => rfl
  | some d => exact put_ne s l ch fun e => h (by rw [e])

theorem put_m (s : St) (d : Option Nat) (l : LV) (ch : Chain) : (s.put d l ch).m = s.m := by cases d <;> rfl

theorem val_not_priv {C : Ctx} {o : Oper} (h : isVal C.tb o = true) : isPrivAlloc C.priv o = false := by
  obtain ⟨dst, op, ty, pos, after, guard⟩ := o
  cases op <;> first | rfl | (simp [isVal] at h; done) | (cases dst <;> simp [isVal, isPrivAlloc] at h ⊢)

/-- The operands' private variables are made. -/
theorem prov_rr (hr : RR n Cur Liv D N β s a h w) {o : Oper} {ch : Chain} {l : LV} (hp : Prov o ch s l) (hh : holds s ch) (hcur : ∀ t, Operand.tmp t ∈ o.op.operands → Cur t) :
    ∀ k off, (l = .box k off ∨ l = .boxd k off) → Liv k ∧ ¬ N k := by
  intro k off e
  obtain ⟨x, hx, off', hev⟩ := hp k off e
  rcases hev with hev | hev
  · obtain ⟨t, c, rfl, hf, hc⟩ := ev_tmp hev (by simp) hh
    exact ⟨(hr.cur t _ c hf (hcur t hx) hc).2 k off' (.inl rfl), fun hN => (hr.nref k hN t _ c hf hc off').1 rfl⟩
  · obtain ⟨t, c, rfl, hf, hc⟩ := ev_tmp hev (by simp) hh
    exact ⟨(hr.cur t _ c hf (hcur t hx) hc).2 k off' (.inr rfl), fun hN => (hr.nref k hN t _ c hf hc off').2 rfl⟩

/-- The operation is carried out. -/
theorem op_exec {C : Ctx} (ok : C.tb.Ok C.P) {ops : Array Oper} {l mok : List Nat} {K : St → Hp → Prop} {i : Nat} {o : Oper} (hi : ops[i]? = some o) (hv : opW C ops.toList mok o s h K)
    (hr : RR n Cur Liv D N β s a h w) (hcur : ∀ t, Operand.tmp t ∈ o.op.operands → Cur t)
    (hgc : ∀ j b p d, o.guard = some (j, b) → nth ops.toList j = some p → p.dst = some d → Cur d ∧ D d) (hdn : ∀ d, o.dst = some d → d < n ∧ ¬ D d ∧ d ∈ l)
    (hN : ∀ d, privA C.priv o d → N d ∧ ¬ Liv d) (next : Act → World → Prop) (Q : Exit → Act → World → Prop)
    (hn : ∀ s' h' β' a' w', K s' h' → OpOut C l mok n Cur Liv D N o β s a h w β' s' a' h' w' → next a' w') : wpOp C.P ops Q i next a w := by
  unfold opW at hv
  split at hv
  · exact hv.elim
  rename_i ch hch
  cases hg : guardOk s ch with
  | false => simp [hg] at hv
  | true =>
  simp only [hg, cond_true] at hv
  have hgc' : ∀ j b p d, o.guard = some (j, b) → nth ops.toList j = some p → p.dst = some d → Cur d := fun j b p d e1 e2 e3 => (hgc j b p d e1 e2 e3).1
  have hw := wanted_iff hr hch hg hgc'
  have hD := chain_D hr hch hg fun j b p d e1 e2 e3 => (hgc j b p d e1 e2 e3).2
  have hopnd : ∀ x ∈ o.op.operands, Opnd β s a.eval x := fun x hx => opnd_rr hr fun t e => hcur t (e ▸ hx)
  have hd1 : ∀ d, o.dst = some d → d < n ∧ ¬ D d := fun d e => ⟨(hdn d e).1, (hdn d e).2.1⟩
  have hdl : ∀ d, o.dst = some d → d ∈ l := fun d e => (hdn d e).2.2
  unfold wpOp
  simp only [hi]
  have live_put : ∀ (l : LV) k, live (s.put o.dst l ch) Liv k ↔ live s Liv k := fun l k => by unfold live; rw [put_m]
  -- a value, and nothing else
  have doVal : ∀ (lv : LV) (h' : Hp) (v : Value) (w' : World), K (s.put o.dst lv ch) h' → isPrivAlloc C.priv o = false → (isVal C.tb o = true → h' = h) → Step h h' w w' →
      (holds s ch → v = LVal β lv ∧ ∀ k off, (lv = .box k off ∨ lv = .boxd k off) → Liv k ∧ ¬ N k) → (¬ holds s ch → v = undef) → next (a.put o.dst v) w' := by
    intro lv h' v w' hk hp hvv hst h1 h2
    refine hn _ _ β _ _ hk (outPlain hp ((hr.step hst).putO hd1 hD h1 h2) ?_ (fun t ht => put_f s _ _ _ t ht) (fun k => .inl (by rw [put_m])) hvv)
    refine ((Seg.step hst).trans (Seg.put (lv := live s Liv) hdl)).mono (fun _ e => e) (fun _ e => e) (fun _ e => e) (fun k e => (live_put lv k).1 e)
  cases hval : isVal C.tb o with
  | true =>
    simp only [hval, cond_true] at hv
    obtain ⟨lv, hk, hrun, hprov⟩ := valW_sound ok hv
    by_cases hh : holds s ch
    · rw [if_pos (hw.2 hh)]
      left
      obtain ⟨w', hrw, hw1, hst⟩ := hrun hh β a.eval w hopnd (fun _ => hr.sub) (fun _ => boxU_rr hr hcur)
      unfold Oper.wp
      rw [hrw]
      have hst' : Step h h w w' := by
        cases hkd : kindD C.tb o ch s with
        | mem => exact hst hkd
        | pure => rw [hw1 (by rw [hkd]; simp)]; exact .refl hr.sub
        | box => rw [hw1 (by rw [hkd]; simp)]; exact .refl hr.sub
      exact doVal lv h _ w' hk (val_not_priv hval) (fun _ => rfl) hst' (fun _ => ⟨rfl, prov_rr hr hprov hh hcur⟩) (fun e => absurd hh e)
    · rw [if_neg (fun e => hh (hw.1 e))]
      exact doVal lv h _ w hk (val_not_priv hval) (fun _ => rfl) (.refl hr.sub) (fun e => absurd e hh) (fun _ => rfl)
  | false =>
    simp only [hval, cond_false] at hv
    -- what changes memory that others know
    have doEff : isPrivAlloc C.priv o = false → (effW C.P C.tb o ch s h fun l h' => K (s.put o.dst l ch) h') →
        if Region.wanted o (yielded ops a.tmps) = true then o.wp C.P a w next Q ∨ o.asks C.P a w ∧ LetsOut Q else next (a.put o.dst undef) w := by
      intro hp hv
      obtain ⟨h1, h2⟩ := effW_sound ok hv
      by_cases hh : holds s ch
      · rw [if_pos (hw.2 hh)]
        left
        refine h1 hh β a w hopnd hr.sub next Q fun x h' w' hk hst => ?_
        exact doVal (.v x) h' x w' hk hp (fun e => by rw [hval] at e; cases e) hst (fun _ => ⟨rfl, fun k off e => by rcases e with e | e <;> cases e⟩) (fun e => absurd hh e)
      · rw [if_neg (fun e => hh (hw.1 e))]
        obtain ⟨x, hk⟩ := h2 hh
        exact doVal (.v x) h undef w hk hp (fun _ => rfl) (.refl hr.sub) (fun e => absurd e hh) (fun _ => rfl)
    -- a private variable is made
    have doNew : ∀ (d : Nat) (cs : List Value) (t : Nat), K ((s.put (some d) (.box d 0) []).putM d cs) h → privA C.priv o d → ch = [] → has mok d = true →
        (execOp a.eval o).run C.P w = .ok (.value (.pointer (some ⟨w.heap.size, 0, none⟩))) { w with heap := w.heap.push (.cells cs.toArray t (0, 0)) } →
        if Region.wanted o (yielded ops a.tmps) = true then o.wp C.P a w next Q ∨ o.asks C.P a w ∧ LetsOut Q else next (a.put o.dst undef) w := by
      intro d cs t hk hp he hmd hrun
      subst he
      rw [if_pos (hw.2 (holds_nil s))]
      left
      unfold Oper.wp
      rw [hrun]
      show next (a.put o.dst _) _
      rw [hp.2]
      obtain ⟨hdn1, hdD, hdl1⟩ := hdn d hp.2
      obtain ⟨hNd, hLd⟩ := hN d hp
      have hl := hr.liftA cs hdn1 hdD hNd
      have hfd : ((s.put (some d) (.box d 0) []).putM d cs).f d = some (.box d 0, []) := put_same s _ _ _
      have hmd' : ((s.put (some d) (.box d 0) []).putM d cs).m d = some cs := putM_same _ _ _
      have hx := hl.execA t hfd hmd' (fun e => e.1 rfl) (fun e => e.1 rfl)
      have hiff : ∀ k, privA C.priv o k ↔ k = d := fun k => ⟨fun e => by have := e.2; rw [hp.2] at this; cases this; rfl, fun e => e ▸ hp⟩
      refine hn _ _ _ _ _ hk ⟨hx.congr (fun t => ?_) (fun k => ?_) (fun _ e => e) (fun k e => ?_), ?_, fun t ht => ?_, fun k => ?_, fun _ => rfl, fun _ => rfl⟩
      · rw [hp.2]
        by_cases e : t = d
        · simp [e]
        · simp [e, Ne.symm e]
      · rw [hiff]
        by_cases e : k = d
        · simp [e]
        · simp [e]
      · rw [hiff] at e
        exact ⟨e.1, e.2⟩
      · refine (segA (s := (s.put (some d) (.box d 0) []).putM d cs) (Liv := fun k => k ≠ d ∧ Liv k) (β := β) (a := a) (l := l) (mm := mok) t hr.sub hmd' (fun e => e.1 rfl) hdl1 ((has_iff _ _).1 hmd)).mono
          (fun _ e => e) (fun _ e => e) (fun k e => ⟨fun e' => e.1 ?_, e.2.2⟩) (fun k e => ⟨e.1, ?_⟩)
        · rw [putM_ne _ _ e.2.1]; exact e'
        · rcases e.2 with e2 | e2
          · exact .inl ((hiff k).1 e2)
          · by_cases ek : k = d
            · exact .inl ek
            · exact .inr ⟨ek, e2⟩
      · exact put_ne s _ _ fun e => ht (by rw [hp.2, e])
      · by_cases ek : k = d
        · exact .inr (.inl ((hiff k).2 ek))
        · exact .inl (putM_ne _ _ ek)
    split at hv
    · rename_i d hdst
      have hd0 : o.dst = some d ∧ has C.priv d = true := by
        unfold dstIn at hdst
        split at hdst
        · rename_i d' e
          cases h1 : has C.priv d' with
          | true => simp [h1] at hdst; subst hdst; exact ⟨e, h1⟩
          | false => simp [h1] at hdst
        · cases hdst
      cases hmd : has mok d with
      | false => simp [hmd] at hv
      | true =>
        simp only [hmd, cond_true] at hv
        split at hv
        · rename_i t hop
          split at hv
          · rename_i e he
            refine doNew d (cellsL e.zero) t hv ⟨by simp [isPrivAlloc, hop, hd0], hd0.1⟩ rfl hmd ?_
            have e2 : (cellsL e.zero).toArray = e.zero.cells := by apply Array.ext'; simp [cells_list]
            rw [e2]
            simp [execOp, hop, Instr.alloc, run_zeroValue' ok he, newVar, run_newRow]
          · exact hv.elim
        · rename_i t x hop
          obtain ⟨v, hev, hv'⟩ := onV_some hv
          refine doNew d (cellsL v) t hv' ⟨by simp [isPrivAlloc, hop, hd0], hd0.1⟩ rfl hmd ?_
          have hx := ev_ok (hopnd x (by simp [hop, Op.operands])) (holds_nil s) hev
          have e2 : (cellsL v).toArray = v.cells := by apply Array.ext'; simp [cells_list]
          rw [e2]
          simp [execOp, hop, hx, LVal, Instr.box, newVar, run_newRow]
        · exact hv.elim
    · exact hv.elim
    · rename_i hdst
      have hpa : isPrivAlloc C.priv o = false := by
        unfold dstIn at hdst
        unfold isPrivAlloc
        split at hdst
        · rename_i d' e
          cases h1 : has C.priv d' with
          | true => simp [h1] at hdst
          | false => rw [e]; cases o.op <;> simp [h1]
        · rename_i e
          rw [e]; cases o.op <;> simp
      split at hv
      · rename_i t x y hop
        split at hv
        · rename_i k off v hex hey
          split at hv
          · rename_i cs e hmk hte
            cases h1 : has mok k with
            | false => simp [h1] at hv
            | true =>
            cases h2 : Nat.beq (cellsL v).length e.size with
            | false => simp [h1, h2] at hv
            | true =>
            cases h3 : Nat.ble (off + e.size) cs.length with
            | false => simp [h1, h2, h3] at hv
            | true =>
            cases h4 : okCells (cellsL v) with
            | false => simp [h1, h2, h3, h4] at hv
            | true =>
            simp only [h1, h2, h3, h4, cond_true] at hv
            rw [if_pos (hw.2 (holds_nil s))]
            left
            have hxm : x ∈ o.op.operands := by simp [hop, Op.operands]
            have hx := ev_ok (hopnd x hxm) (holds_nil s) hex
            have hy := ev_ok (hopnd y (by simp [hop, Op.operands])) (holds_nil s) hey
            obtain ⟨tt, c, rfl, hf, hc⟩ := ev_tmp hex (by simp) (holds_nil s)
            have hL : Liv k := (hr.cur tt _ c hf (hcur tt hxm) hc).2 k off (.inl rfl)
            obtain ⟨hb0, ct, hb1⟩ := hr.box k cs hmk hL
            have hlen0 : (cellsL v).length = e.size := Nat.eq_of_beq_eq_true h2
            obtain ⟨w', hrun, hb', hoth, hsub, hsize, h5, h6, h7⟩ := run_storeBox (P := C.P) (off := off) hr.sub hb1 hb0 h4 (by rw [hlen0]; exact Nat.le_of_ble_eq_true h3)
            have hsz := run_sizeOf' ok hte w
            have hlen : v.cells.size = e.size := by rw [← Array.length_toList, cells_list]; exact hlen0
            unfold Oper.wp
            have hrun2 : (execOp a.eval o).run C.P w = .ok .skip w' := by
              simp only [execOp, hop, hx, hy, LVal, Instr.storeAt, Instr.sureAddr, Sem.run_bind, Sem.run_pure, Result.andThen_ok, storeVar, hsz, hlen, ne_eq, not_true, if_false, cells_list]
              have : (if False then (stuck "storeVar: the value has not the size of the variable" : Sem Unit) else pure PUnit.unit).run C.P w = .ok () w := rfl
              first | rw [this] | skip
              simp only [hrun, Result.andThen_ok]
            rw [hrun2, Oper.upon_skip]
            have hr2 := (hr.storeM hmk hL hb' hoth hsub).putO (dst := o.dst) (l := .v (.tuple #[])) (ch := []) (v := undef) hd1 (by simp) (fun _ => ⟨rfl, fun k off e => by rcases e with e | e <;> cases e⟩) (fun e => absurd (holds_nil _) e)
            have hes : ((s.putM k (layL cs off (cellsL v))).put o.dst (.v (.tuple #[])) []) = ((s.put o.dst (.v (.tuple #[])) []).putM k (layL cs off (cellsL v))) := by cases o.dst <;> rfl
            rw [hes] at hr2
            have hsm : ∀ j, ((s.put o.dst (.v (.tuple #[])) []).putM k (layL cs off (cellsL v))).m j ≠ none → s.m j ≠ none := fun j hj => by
              by_cases ej : j = k
              · rw [ej, hmk]; simp
              · rw [putM_ne _ _ ej, put_m] at hj; exact hj
            refine hn _ _ _ _ _ hv (outPlain hpa hr2 ?_ (fun t ht => put_f s _ _ _ t ht) (fun j => ?_) (fun _ => rfl))
            · refine Seg.trans (lv1 := live s Liv) (β1 := β) (a1 := a) (h1 := h) (w1 := w') ⟨fun _ _ => rfl, fun _ _ => rfl, hsize, fun _ _ e => e, fun b hb hn hk => ?_, fun _ e => .inl ⟨e, rfl⟩, h5, h6, h7, rfl⟩ ((Seg.put (lv := live s Liv) hdl).mono (fun _ e => e) (fun _ e => e) (fun _ e => e) (fun j e => ⟨hsm j e.1, e.2⟩))
              exact hoth b hb (fun e => hk k ((has_iff _ _).1 h1) ⟨by rw [hmk]; simp, hL⟩ e.symm) hn
            · by_cases ej : j = k
              · subst ej
                exact .inr ⟨by simp [isStore, hop], hval, by rw [hmk]; simp, hL⟩
              · exact .inl (by rw [putM_ne _ _ ej, put_m])
          · exact hv.elim
        · exact doEff hpa hv
      · exact doEff hpa hv

end
end Lf
