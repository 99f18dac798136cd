/-
  Part 2 of the texts that the claim leans on.
-/
import Derived.MapKept
import Derived.Test.YtompbjaipbbbhaaMgGrRings0
/-
  The lifting layer, part 16: one operation of a region.
-/
namespace Lf
open Go

section
variable {n : Nat} {Cur Liv D N : Nat → Prop} {β : Nat → Nat} {s : St} {a : Act} {h : Hp} {w : World}

theorem RR.putO (hr : RR n Cur Liv D N β s a h w) {dst : Option Nat} {l : LV} {ch : Chain} {v : Value} (hd : ∀ d, dst = some d → d < n ∧ ¬ D d) (hch : ∀ p ∈ ch, D p.1)
    (h1 : holds s ch → v = LVal β l ∧ ∀ k o, (l = .box k o ∨ l = .boxd k o) → Liv k ∧ ¬ N k) (h2 : ¬ holds s ch → v = undef) :
    RR n (fun t => dst = some t ∨ Cur t) Liv D N β (s.put dst l ch) (a.put dst v) h w := by
  cases dst with
  | none => exact hr.congr (fun t => by simp) (fun _ => .rfl) (fun _ e => e) (fun _ e => e)
  | some d =>
    obtain ⟨hdn, hD⟩ := hd d rfl
    have h3 := (hr.lift hdn hD hch fun hh k o e => (((h1 hh).2 k o e).2)).exec (v := v) (put_same s d l ch) (fun e => e.1 rfl)
      (fun hh => ⟨(h1 ((holds_put hD hch).1 hh)).1, fun k o e => ((h1 ((holds_put hD hch).1 hh)).2 k o e).1⟩) (fun hh => h2 fun e => hh ((holds_put hD hch).2 e))
    refine h3.congr (fun t => ?_) (fun _ => .rfl) (fun _ e => e) (fun _ e => e)
    by_cases ht : t = d
    · simp [ht]
    · simp [ht, Ne.symm ht]

theorem chain_D (hr : RR n Cur Liv D N β s a h w) {c : Chain} {ops : List Oper} {m : Nat} {o : Oper} (hch : chainOf ops m o = some c) (hg : guardOk s c = true)
    (hgd : ∀ j b p d, o.guard = some (j, b) → nth ops j = some p → p.dst = some d → D d) : ∀ p ∈ c, D p.1 := by
  cases m with
  | zero => simp [chainOf] at hch
  | succ m =>
    simp only [chainOf] at hch
    split at hch
    · cases hch; simp
    · rename_i j b hgu
      split at hch
      · rename_i p hp
        split at hch
        · rename_i d c' hd hc'
          cases hch
          simp only [guardOk] at hg
          split at hg
          · rename_i t c2 hf
            cases h1 : chEq c2 c' with
            | false => simp [h1] at hg
            | true =>
              have := chEq_eq h1
              subst this
              intro q hq
              rcases List.mem_cons.1 hq with rfl | hq
              · exact hgd j b p d hgu hp hd
              · exact hr.chain d _ _ hf q hq
          · cases hg
        · cases hch
      · cases hch

theorem wanted_iff (hr : RR n Cur Liv D N β s a h w) {ch : Chain} {ops : Array Oper} {m : Nat} {o : Oper} (hch : chainOf ops.toList m o = some ch) (hg : guardOk s ch = true)
    (hgc : ∀ j b p d, o.guard = some (j, b) → nth ops.toList j = some p → p.dst = some d → Cur d) : Region.wanted o (yielded ops a.tmps) = true ↔ holds s ch := by
  cases m with
  | zero => simp [chainOf] at hch
  | succ m =>
    simp only [chainOf] at hch
    split at hch
    · rename_i hgu
      cases hch
      simp [Region.wanted, hgu, holds_nil]
    · rename_i j b hgu
      split at hch
      · rename_i p hp
        split at hch
        · rename_i d c' hd hc'
          cases hch
          simp only [guardOk] at hg
          split at hg
          · rename_i t c2 hf
            cases h1 : chEq c2 c' with
            | false => simp [h1] at hg
            | true =>
              have := chEq_eq h1
              subst this
              have hC := hgc j b p d hgu hp hd
              have hlt : d < a.tmps.size := by rw [hr.sz]; exact hr.lt d _ _ hf
              have hpj : ops[j]? = some p := by rw [nth_get] at hp; simpa using hp
              have hy : yielded ops a.tmps j = match a.eval (.tmp d) with | .bool b => some b | _ => none := by
                unfold yielded
                simp only [hpj, Option.bind_some, hd, Act.eval]
                have : a.tmps[d]? = some (a.tmps[d]'hlt) := Array.getElem?_eq_getElem hlt
                simp only [this, Array.getD_eq_getD_getElem?, Option.getD_some]
                generalize a.tmps[d] = v
                cases v <;> rfl
              simp only [Region.wanted, hgu, hy]
              by_cases hh : holds s c2
              · have := (hr.cur d _ _ hf hC hh).1
                rw [this]
                simp only [LVal]
                constructor
                · intro e
                  have e : t = b := by simpa using e
                  subst e
                  intro q hq
                  rcases List.mem_cons.1 hq with rfl | hq
                  · simp [hb, hf]
                  · exact hh q hq
                · intro e
                  have := e (d, b) (List.mem_cons_self ..)
                  simp only [hb, hf] at this
                  simpa using this
              · have := hr.und d _ _ hf hC hh
                rw [this]
                simp only [undef]
                refine ⟨fun e => by simp at e, fun e => absurd (fun q hq => e q (List.mem_cons_of_mem _ hq)) hh⟩
          · cases hg
        · cases hch
      · cases hch

def privA (priv : List Nat) (o : Oper) (k : Nat) : Prop := isPrivAlloc priv o = true ∧ o.dst = some k

/-- What an operation leaves. -/
structure OpOut (C : Ctx) (l mok : List Nat) (n : Nat) (Cur Liv D N : Nat → Prop) (o : Oper) (β : Nat → Nat) (s : St) (a : Act) (h : Hp) (w : World) (β' : Nat → Nat) (s' : St) (a' : Act) (h' : Hp) (w' : World) : Prop where
  rr : RR n (fun t => o.dst = some t ∨ Cur t) (fun k => privA C.priv o k ∨ Liv k) D (fun k => ¬ privA C.priv o k ∧ N k) β' s' a' h' w'
  seg : Seg l mok (live s Liv) β a h w (live s' fun k => privA C.priv o k ∨ Liv k) β' a' h' w'
  f : ∀ t, o.dst ≠ some t → s'.f t = s.f t
  m : ∀ k, s'.m k = s.m k ∨ privA C.priv o k ∨ (isStore o = true ∧ isVal C.tb o = false ∧ s.m k ≠ none ∧ Liv k)
  hv : isVal C.tb o = true → h' = h
  hp : isPrivAlloc C.priv o = true → h' = h

theorem not_priv {C : Ctx} {o : Oper} (h : isPrivAlloc C.priv o = false) (k : Nat) : ¬ privA C.priv o k := fun e => by have := e.1; rw [h] at this; cases this

theorem outPlain {C : Ctx} {l mok : List Nat} {o : Oper} {s' : St} {a' : Act} {h' : Hp} {w' : World} (hp : isPrivAlloc C.priv o = false)
    (rr : RR n (fun t => o.dst = some t ∨ Cur t) Liv D N β s' a' h' w') (seg : Seg l mok (live s Liv) β a h w (live s' Liv) β a' h' w')
    (f : ∀ t, o.dst ≠ some t → s'.f t = s.f t) (m : ∀ k, s'.m k = s.m k ∨ (isStore o = true ∧ isVal C.tb o = false ∧ s.m k ≠ none ∧ Liv k)) (hv : isVal C.tb o = true → h' = h) :
    OpOut C l mok n Cur Liv D N o β s a h w β s' a' h' w' := by
  have e1 : ∀ k, (privA C.priv o k ∨ Liv k) ↔ Liv k := fun k => ⟨fun e => e.resolve_left (not_priv hp k), .inr⟩
  refine ⟨rr.congr (fun _ => .rfl) e1 (fun _ e => e) (fun _ e => e.2), seg.mono (fun _ e => e) (fun _ e => e) (fun _ e => e) (fun k e => ⟨e.1, (e1 k).1 e.2⟩), f, fun k => (m k).imp id .inr, hv, fun e => by rw [hp] at e; cases e⟩

theorem put_f (s : St) (d : Option Nat) (l : LV) (ch : Chain) (t : Nat) (h : d ≠ some t) : (s.put d l ch).f t = s.f t := by
  cases d with
  | none => rfl
  | some d => exact put_ne s l ch fun e => h (by rw [e])

theorem put_m (s : St) (d : Option Nat) (l : LV) (ch : Chain) : (s.put d l ch).m = s.m := by cases d <;> rfl

theorem val_not_priv {C : Ctx} {o : Oper} (h : isVal C.tb o = true) : isPrivAlloc C.priv o = false := by
  obtain ⟨dst, op, ty, pos, after, guard⟩ := o
  cases op <;> first | rfl | (simp [isVal] at h; done) | (cases dst <;> simp [isVal, isPrivAlloc] at h ⊢)

/-- The operands' private variables are made. -/
theorem prov_rr (hr : RR n Cur Liv D N β s a h w) {o : Oper} {ch : Chain} {l : LV} (hp : Prov o ch s l) (hh : holds s ch) (hcur : ∀ t, Operand.tmp t ∈ o.op.operands → Cur t) :
    ∀ k off, (l = .box k off ∨ l = .boxd k off) → Liv k ∧ ¬ N k := by
  intro k off e
  obtain ⟨x, hx, off', hev⟩ := hp k off e
  rcases hev with hev | hev
  · obtain ⟨t, c, rfl, hf, hc⟩ := ev_tmp hev (by simp) hh
    exact ⟨(hr.cur t _ c hf (hcur t hx) hc).2 k off' (.inl rfl), fun hN => (hr.nref k hN t _ c hf hc off').1 rfl⟩
  · obtain ⟨t, c, rfl, hf, hc⟩ := ev_tmp hev (by simp) hh
    exact ⟨(hr.cur t _ c hf (hcur t hx) hc).2 k off' (.inr rfl), fun hN => (hr.nref k hN t _ c hf hc off').2 rfl⟩

/-- The operation is carried out. -/
theorem op_exec {C : Ctx} (ok : C.tb.Ok C.P) {ops : Array Oper} {l mok : List Nat} {K : St → Hp → Prop} {i : Nat} {o : Oper} (hi : ops[i]? = some o) (hv : opW C ops.toList mok o s h K)
    (hr : RR n Cur Liv D N β s a h w) (hcur : ∀ t, Operand.tmp t ∈ o.op.operands → Cur t)
    (hgc : ∀ j b p d, o.guard = some (j, b) → nth ops.toList j = some p → p.dst = some d → Cur d ∧ D d) (hdn : ∀ d, o.dst = some d → d < n ∧ ¬ D d ∧ d ∈ l)
    (hN : ∀ d, privA C.priv o d → N d ∧ ¬ Liv d) (next : Act → World → Prop) (Q : Exit → Act → World → Prop)
    (hn : ∀ s' h' β' a' w', K s' h' → OpOut C l mok n Cur Liv D N o β s a h w β' s' a' h' w' → next a' w') : wpOp C.P ops Q i next a w := by
  unfold opW at hv
  split at hv
  · exact hv.elim
  rename_i ch hch
  cases hg : guardOk s ch with
  | false => simp [hg] at hv
  | true =>
  simp only [hg, cond_true] at hv
  have hgc' : ∀ j b p d, o.guard = some (j, b) → nth ops.toList j = some p → p.dst = some d → Cur d := fun j b p d e1 e2 e3 => (hgc j b p d e1 e2 e3).1
  have hw := wanted_iff hr hch hg hgc'
  have hD := chain_D hr hch hg fun j b p d e1 e2 e3 => (hgc j b p d e1 e2 e3).2
  have hopnd : ∀ x ∈ o.op.operands, Opnd β s a.eval x := fun x hx => opnd_rr hr fun t e => hcur t (e ▸ hx)
  have hd1 : ∀ d, o.dst = some d → d < n ∧ ¬ D d := fun d e => ⟨(hdn d e).1, (hdn d e).2.1⟩
  have hdl : ∀ d, o.dst = some d → d ∈ l := fun d e => (hdn d e).2.2
  unfold wpOp
  simp only [hi]
  have live_put : ∀ (l : LV) k, live (s.put o.dst l ch) Liv k ↔ live s Liv k := fun l k => by unfold live; rw [put_m]
  -- a value, and nothing else
  have doVal : ∀ (lv : LV) (h' : Hp) (v : Value) (w' : World), K (s.put o.dst lv ch) h' → isPrivAlloc C.priv o = false → (isVal C.tb o = true → h' = h) → Step h h' w w' →
      (holds s ch → v = LVal β lv ∧ ∀ k off, (lv = .box k off ∨ lv = .boxd k off) → Liv k ∧ ¬ N k) → (¬ holds s ch → v = undef) → next (a.put o.dst v) w' := by
    intro lv h' v w' hk hp hvv hst h1 h2
    refine hn _ _ β _ _ hk (outPlain hp ((hr.step hst).putO hd1 hD h1 h2) ?_ (fun t ht => put_f s _ _ _ t ht) (fun k => .inl (by rw [put_m])) hvv)
    refine ((Seg.step hst).trans (Seg.put (lv := live s Liv) hdl)).mono (fun _ e => e) (fun _ e => e) (fun _ e => e) (fun k e => (live_put lv k).1 e)
  cases hval : isVal C.tb o with
  | true =>
    simp only [hval, cond_true] at hv
    obtain ⟨lv, hk, hrun, hprov⟩ := valW_sound ok hv
    by_cases hh : holds s ch
    · rw [if_pos (hw.2 hh)]
      left
      obtain ⟨w', hrw, hw1, hst⟩ := hrun hh β a.eval w hopnd (fun _ => hr.sub) (fun _ => boxU_rr hr hcur)
      unfold Oper.wp
      rw [hrw]
      have hst' : Step h h w w' := by
        cases hkd : kindD C.tb o ch s with
        | mem => exact hst hkd
        | pure => rw [hw1 (by rw [hkd]; simp)]; exact .refl hr.sub
        | box => rw [hw1 (by rw [hkd]; simp)]; exact .refl hr.sub
      exact doVal lv h _ w' hk (val_not_priv hval) (fun _ => rfl) hst' (fun _ => ⟨rfl, prov_rr hr hprov hh hcur⟩) (fun e => absurd hh e)
    · rw [if_neg (fun e => hh (hw.1 e))]
      exact doVal lv h _ w hk (val_not_priv hval) (fun _ => rfl) (.refl hr.sub) (fun e => absurd e hh) (fun _ => rfl)
  | false =>
    simp only [hval, cond_false] at hv
    -- what changes memory that others know
    have doEff0 : isPrivAlloc C.priv o = false → (EffOk C.P o ch s h fun l h' => K (s.put o.dst l ch) h') →
        if Region.wanted o (yielded ops a.tmps) = true then o.wp C.P a w next Q ∨ o.asks C.P a w ∧ LetsOut Q else next (a.put o.dst undef) w := by
      intro hp hv
      obtain ⟨h1, h2⟩ := hv
      by_cases hh : holds s ch
      · rw [if_pos (hw.2 hh)]
        left
        refine h1 hh β a w hopnd hr.sub next Q fun x h' w' hk hst => ?_
        exact doVal (.v x) h' x w' hk hp (fun e => by rw [hval] at e; cases e) hst (fun _ => ⟨rfl, fun k off e => by rcases e with e | e <;> cases e⟩) (fun e => absurd hh e)
      · rw [if_neg (fun e => hh (hw.1 e))]
        obtain ⟨x, hk⟩ := h2 hh
        exact doVal (.v x) h undef w hk hp (fun _ => rfl) (.refl hr.sub) (fun e => absurd e hh) (fun _ => rfl)
    have doEff : isPrivAlloc C.priv o = false → (effW C.P C.tb o ch s h fun l h' => K (s.put o.dst l ch) h') →
        if Region.wanted o (yielded ops a.tmps) = true then o.wp C.P a w next Q ∨ o.asks C.P a w ∧ LetsOut Q else next (a.put o.dst undef) w := fun hp hv => doEff0 hp (effW_sound ok hv)
    -- a private variable is made
    have doNew : ∀ (d : Nat) (cs : List Value) (t : Nat), K ((s.put (some d) (.box d 0) []).putM d cs) h → privA C.priv o d → ch = [] → has mok d = true →
        (execOp a.eval o).run C.P w = .ok (.value (.pointer (some ⟨w.heap.size, 0, none⟩))) { w with heap := w.heap.push (.cells cs.toArray t (0, 0)) } →
        if Region.wanted o (yielded ops a.tmps) = true then o.wp C.P a w next Q ∨ o.asks C.P a w ∧ LetsOut Q else next (a.put o.dst undef) w := by
      intro d cs t hk hp he hmd hrun
      subst he
      rw [if_pos (hw.2 (holds_nil s))]
      left
      unfold Oper.wp
      rw [hrun]
      show next (a.put o.dst _) _
      rw [hp.2]
      obtain ⟨hdn1, hdD, hdl1⟩ := hdn d hp.2
      obtain ⟨hNd, hLd⟩ := hN d hp
      have hl := hr.liftA cs hdn1 hdD hNd
      have hfd : ((s.put (some d) (.box d 0) []).putM d cs).f d = some (.box d 0, []) := put_same s _ _ _
      have hmd' : ((s.put (some d) (.box d 0) []).putM d cs).m d = some cs := putM_same _ _ _
      have hx := hl.execA t hfd hmd' (fun e => e.1 rfl) (fun e => e.1 rfl)
      have hiff : ∀ k, privA C.priv o k ↔ k = d := fun k => ⟨fun e => by have := e.2; rw [hp.2] at this; cases this; rfl, fun e => e ▸ hp⟩
      refine hn _ _ _ _ _ hk ⟨hx.congr (fun t => ?_) (fun k => ?_) (fun _ e => e) (fun k e => ?_), ?_, fun t ht => ?_, fun k => ?_, fun _ => rfl, fun _ => rfl⟩
      · rw [hp.2]
        by_cases e : t = d
        · simp [e]
        · simp [e, Ne.symm e]
      · rw [hiff]
        by_cases e : k = d
        · simp [e]
        · simp [e]
      · rw [hiff] at e
        exact ⟨e.1, e.2⟩
      · refine (segA (s := (s.put (some d) (.box d 0) []).putM d cs) (Liv := fun k => k ≠ d ∧ Liv k) (β := β) (a := a) (l := l) (mm := mok) t hr.sub hmd' (fun e => e.1 rfl) hdl1 ((has_iff _ _).1 hmd)).mono
          (fun _ e => e) (fun _ e => e) (fun k e => ⟨fun e' => e.1 ?_, e.2.2⟩) (fun k e => ⟨e.1, ?_⟩)
        · rw [putM_ne _ _ e.2.1]; exact e'
        · rcases e.2 with e2 | e2
          · exact .inl ((hiff k).1 e2)
          · by_cases ek : k = d
            · exact .inl ek
            · exact .inr ⟨ek, e2⟩
      · exact put_ne s _ _ fun e => ht (by rw [hp.2, e])
      · by_cases ek : k = d
        · exact .inr (.inl ((hiff k).2 ek))
        · exact .inl (putM_ne _ _ ek)
    split at hv
    · rename_i d hdst
      have hd0 : o.dst = some d ∧ has C.priv d = true := by
        unfold dstIn at hdst
        split at hdst
        · rename_i d' e
          cases h1 : has C.priv d' with
          | true => simp [h1] at hdst; subst hdst; exact ⟨e, h1⟩
          | false => simp [h1] at hdst
        · cases hdst
      cases hmd : has mok d with
      | false => simp [hmd] at hv
      | true =>
        simp only [hmd, cond_true] at hv
        split at hv
        · rename_i t hop
          split at hv
          · rename_i e he
            refine doNew d (cellsL e.zero) t hv ⟨by simp [isPrivAlloc, hop, hd0], hd0.1⟩ rfl hmd ?_
            have e2 : (cellsL e.zero).toArray = e.zero.cells := by apply Array.ext'; simp [cells_list]
            rw [e2]
            simp [execOp, hop, Instr.alloc, run_zeroValue' ok he, newVar, run_newRow]
          · exact hv.elim
        · rename_i t x hop
          obtain ⟨v, hev, hv'⟩ := onV_some hv
          refine doNew d (cellsL v) t hv' ⟨by simp [isPrivAlloc, hop, hd0], hd0.1⟩ rfl hmd ?_
          have hx := ev_ok (hopnd x (by simp [hop, Op.operands])) (holds_nil s) hev
          have e2 : (cellsL v).toArray = v.cells := by apply Array.ext'; simp [cells_list]
          rw [e2]
          simp [execOp, hop, hx, LVal, Instr.box, newVar, run_newRow]
        · exact hv.elim
    · exact hv.elim
    · rename_i hdst
      have hpa : isPrivAlloc C.priv o = false := by
        unfold dstIn at hdst
        unfold isPrivAlloc
        split at hdst
        · rename_i d' e
          cases h1 : has C.priv d' with
          | true => simp [h1] at hdst
          | false => rw [e]; cases o.op <;> simp [h1]
        · rename_i e
          rw [e]; cases o.op <;> simp
      split at hv
      · rename_i t x y hop
        split at hv
        · rename_i k off v hex hey
          split at hv
          · rename_i cs e hmk hte
            cases h1 : has mok k with
            | false => simp [h1] at hv
            | true =>
            cases h2 : Nat.beq (cellsL v).length e.size with
            | false => simp [h1, h2] at hv
            | true =>
            cases h3 : Nat.ble (off + e.size) cs.length with
            | false => simp [h1, h2, h3] at hv
            | true =>
            cases h4 : okCells (cellsL v) with
            | false => simp [h1, h2, h3, h4] at hv
            | true =>
            simp only [h1, h2, h3, h4, cond_true] at hv
            rw [if_pos (hw.2 (holds_nil s))]
            left
            have hxm : x ∈ o.op.operands := by simp [hop, Op.operands]
            have hx := ev_ok (hopnd x hxm) (holds_nil s) hex
            have hy := ev_ok (hopnd y (by simp [hop, Op.operands])) (holds_nil s) hey
            obtain ⟨tt, c, rfl, hf, hc⟩ := ev_tmp hex (by simp) (holds_nil s)
            have hL : Liv k := (hr.cur tt _ c hf (hcur tt hxm) hc).2 k off (.inl rfl)
            obtain ⟨hb0, ct, hb1⟩ := hr.box k cs hmk hL
            have hlen0 : (cellsL v).length = e.size := Nat.eq_of_beq_eq_true h2
            obtain ⟨w', hrun, hb', hoth, hsub, hsize, h5, h6, h7⟩ := run_storeBox (P := C.P) (off := off) hr.sub hb1 hb0 h4 (by rw [hlen0]; exact Nat.le_of_ble_eq_true h3)
            have hsz := run_sizeOf' ok hte w
            have hlen : v.cells.size = e.size := by rw [← Array.length_toList, cells_list]; exact hlen0
            unfold Oper.wp
            have hrun2 : (execOp a.eval o).run C.P w = .ok .skip w' := by
              simp only [execOp, hop, hx, hy, LVal, Instr.storeAt, Instr.sureAddr, Sem.run_bind, Sem.run_pure, Result.andThen_ok, storeVar, hsz, hlen, ne_eq, not_true, if_false, cells_list]
              have : (if False then (stuck "storeVar: the value has not the size of the variable" : Sem Unit) else pure PUnit.unit).run C.P w = .ok () w := rfl
              first | rw [this] | skip
              simp only [hrun, Result.andThen_ok]
            rw [hrun2, Oper.upon_skip]
            have hr2 := (hr.storeM hmk hL hb' hoth hsub).putO (dst := o.dst) (l := .v (.tuple #[])) (ch := []) (v := undef) hd1 (by simp) (fun _ => ⟨rfl, fun k off e => by rcases e with e | e <;> cases e⟩) (fun e => absurd (holds_nil _) e)
            have hes : ((s.putM k (layL cs off (cellsL v))).put o.dst (.v (.tuple #[])) []) = ((s.put o.dst (.v (.tuple #[])) []).putM k (layL cs off (cellsL v))) := by cases o.dst <;> rfl
            rw [hes] at hr2
            have hsm : ∀ j, ((s.put o.dst (.v (.tuple #[])) []).putM k (layL cs off (cellsL v))).m j ≠ none → s.m j ≠ none := fun j hj => by
              by_cases ej : j = k
              · rw [ej, hmk]; simp
              · rw [putM_ne _ _ ej, put_m] at hj; exact hj
            refine hn _ _ _ _ _ hv (outPlain hpa hr2 ?_ (fun t ht => put_f s _ _ _ t ht) (fun j => ?_) (fun _ => rfl))
            · refine Seg.trans (lv1 := live s Liv) (β1 := β) (a1 := a) (h1 := h) (w1 := w') ⟨fun _ _ => rfl, fun _ _ => rfl, hsize, fun _ _ e => e, fun b hb hn hk => ?_, fun _ e => .inl ⟨e, rfl⟩, h5, h6, h7, rfl⟩ ((Seg.put (lv := live s Liv) hdl).mono (fun _ e => e) (fun _ e => e) (fun _ e => e) (fun j e => ⟨hsm j e.1, e.2⟩))
              exact hoth b hb (fun e => hk k ((has_iff _ _).1 h1) ⟨by rw [hmk]; simp, hL⟩ e.symm) hn
            · by_cases ej : j = k
              · subst ej
                exact .inr ⟨by simp [isStore, hop], hval, by rw [hmk]; simp, hL⟩
              · exact .inl (by rw [putM_ne _ _ ej, put_m])
          · exact hv.elim
        · exact doEff hpa hv
      · exact doEff0 hpa (entW_sound hv)
      · exact doEff hpa hv

end
end Lf

/-
  The lifting layer, part 17: regions as they stand.
-/
namespace Lf
open Go

abbrev Rel (n : Nat) (β : Nat → Nat) (s : St) (a : Act) (h : Hp) (w : World) : Prop :=
  RR n (fun _ => True) (fun _ => True) (fun _ => False) (fun _ => False) β s a h w

abbrev lives (s : St) : Nat → Prop := live s fun _ => True

section
variable {n : Nat} {Cur Liv D N : Nat → Prop} {β : Nat → Nat} {s : St} {a : Act} {h : Hp} {w : World}

theorem holds_any {s s' : St} : holds s [] ↔ holds s' [] := ⟨fun _ => holds_nil _, fun _ => holds_nil _⟩

theorem clean_f {s : St} {t : Nat} {l : LV} {c : Chain} (e : s.clean.f t = some (l, c)) : s.f t = some (l, []) ∧ c = [] := by
  simp only [St.clean] at e
  split at e
  · rename_i l' hf
    cases e
    exact ⟨hf, rfl⟩
  · cases e

theorem RR.clean (hr : RR n (fun _ => True) (fun _ => True) D N β s a h w) : Rel n β s.clean a h w := by
  refine ⟨hr.sz, hr.sub, fun t l c e => hr.lt t l _ (clean_f e).1, fun t l c e p hp => ?_, fun t l c e _ _ => hr.cur t l _ (clean_f e).1 trivial (holds_nil _), fun t l c e _ hh => ?_, hr.box, hr.inj, fun _ e => e.elim, fun _ e => e.elim⟩
  · rw [(clean_f e).2] at hp; cases hp
  · rw [(clean_f e).2] at hh; exact absurd (holds_nil _) hh

theorem dropL'_some {l : List Nat} {x : Option (LV × Chain)} {v : LV} {c : Chain} (e : dropL' l x = some (v, c)) : x = some (v, c) ∧ ∀ k o, (v = .box k o ∨ v = .boxd k o) → k ∉ l := by
  unfold dropL' at e
  split at e
  · rename_i k o c'
    cases hk : has l k with
    | true => simp [hk] at e
    | false =>
      simp only [hk, cond_false] at e
      cases e
      refine ⟨rfl, fun k' o' e' => ?_⟩
      rcases e' with e' | e' <;> cases e'
      exact has_false hk
  · rename_i k o c'
    cases hk : has l k with
    | true => simp [hk] at e
    | false =>
      simp only [hk, cond_false] at e
      cases e
      refine ⟨rfl, fun k' o' e' => ?_⟩
      rcases e' with e' | e' <;> cases e'
      exact has_false hk
  · cases e
    exact ⟨rfl, fun k' o' e' => by rcases e' with e' | e' <;> cases e'⟩
  · cases e

theorem drop_f {l : List Nat} {t : Nat} {v : LV} {c : Chain} (e : (s.dropB l).f t = some (v, c)) : s.f t = some (v, c) ∧ ∀ k o, (v = .box k o ∨ v = .boxd k o) → k ∉ l := by
  cases l with
  | nil => exact ⟨e, fun _ _ _ e => by cases e⟩
  | cons x l => exact dropL'_some e

theorem drop_m {l : List Nat} {k : Nat} {cs : List Value} (e : (s.dropB l).m k = some cs) : s.m k = some cs ∧ k ∉ l := by
  cases l with
  | nil => exact ⟨e, fun e => by cases e⟩
  | cons x l =>
    simp only [St.dropB] at e
    cases hk : has (x :: l) k with
    | true => simp [hk] at e
    | false =>
      simp only [hk, cond_false] at e
      exact ⟨e, has_false hk⟩

theorem RR.start (hr : Rel n β s a h w) (l : List Nat) : RR n (fun _ => True) (fun k => k ∉ l) (fun _ => False) (fun k => k ∈ l) β (s.dropB l) a h w := by
  refine ⟨hr.sz, hr.sub, fun t v c e => hr.lt t v c (drop_f e).1, fun t v c e => hr.chain t v c (drop_f e).1, fun t v c e _ hh => ?_, fun t v c e _ hh => ?_, fun k cs e _ => hr.box k cs (drop_m e).1 trivial, fun k k' e e' _ _ he => ?_, fun k hk => ?_, fun k hk t v c e _ o => ?_⟩
  · have hc : c = [] := by
      cases c with
      | nil => rfl
      | cons p c => exact (hr.chain t v _ (drop_f e).1 p (List.mem_cons_self ..)).elim
    subst hc
    exact ⟨(hr.cur t v [] (drop_f e).1 trivial (holds_nil _)).1, (drop_f e).2⟩
  · have hc : c = [] := by
      cases c with
      | nil => rfl
      | cons p c => exact (hr.chain t v _ (drop_f e).1 p (List.mem_cons_self ..)).elim
    subst hc
    exact absurd (holds_nil _) hh
  · obtain ⟨cs, e1⟩ := Option.ne_none_iff_exists'.1 e
    obtain ⟨cs', e1'⟩ := Option.ne_none_iff_exists'.1 e'
    exact hr.inj k k' (by simp [(drop_m e1).1]) (by simp [(drop_m e1').1]) trivial trivial he
  · cases e : (s.dropB l).m k with
    | none => rfl
    | some cs => exact absurd hk (drop_m e).2
  · exact ⟨fun e' => (drop_f e).2 k o (.inl e') hk, fun e' => (drop_f e).2 k o (.inr e') hk⟩

theorem live_drop {l : List Nat} {k : Nat} (e : live (s.dropB l) (fun k => k ∉ l) k) : lives s k := by
  obtain ⟨cs, e1⟩ := Option.ne_none_iff_exists'.1 e.1
  exact ⟨by simp [(drop_m e1).1], trivial⟩

theorem modsO_append : ∀ (x y : List Oper), modsO (x ++ y) = modsO x ++ modsO y
  | [], y => rfl
  | o :: x, y => by
    simp only [List.cons_append, modsO, modsO_append x y]
    cases o.dst <;> rfl

theorem modsO_mem {l : List Oper} {o : Oper} {d : Nat} (hm : o ∈ l) (hd : o.dst = some d) : d ∈ modsO l := by
  induction l with
  | nil => cases hm
  | cons p l ih =>
    rcases List.mem_cons.1 hm with rfl | hm
    · simp [modsO, hd]
    · have := ih hm
      simp only [modsO]
      cases p.dst <;> simp [this]

theorem nodup_iff : ∀ {l : List Nat}, nodup l = true → l.Nodup
  | [], _ => .nil
  | a :: l, h => by
    simp only [nodup] at h
    cases ha : has l a with
    | true => simp [ha] at h
    | false =>
      simp only [ha, cond_false] at h
      exact List.nodup_cons.2 ⟨has_false ha, nodup_iff h⟩

theorem noGuard_mem {l : List Oper} {o : Oper} (h : noGuard l = true) (hm : o ∈ l) : o.guard = none := by
  induction l with
  | nil => cases hm
  | cons p l ih =>
    simp only [noGuard] at h
    split at h
    · rename_i hp
      rcases List.mem_cons.1 hm with rfl | hm
      · exact hp
      · exact ih h hm
    · cases h

theorem guardsBack_get : ∀ {l : List Oper} {i j : Nat} {o : Oper} {g : Nat} {b : Bool}, guardsBack l i = true → l[j]? = some o → o.guard = some (g, b) → g < i + j
  | [], _, _, _, _, _, _, e, _ => by simp at e
  | p :: l, i, 0, o, g, b, h, e, hg => by
    simp at e
    subst e
    simp only [guardsBack, hg] at h
    cases hb : Nat.blt g i with
    | true => simp [Nat.blt] at hb; omega
    | false => simp [hb] at h
  | p :: l, i, j + 1, o, g, b, h, e, hg => by
    simp at e
    have h' : guardsBack l (i + 1) = true := by
      simp only [guardsBack] at h
      split at h
      · exact h
      · rename_i j' b' _
        cases hb : Nat.blt j' i with
        | true => simpa [hb] using h
        | false => simp [hb] at h
    have := guardsBack_get h' e hg
    omega

theorem privA_allocs {priv : List Nat} {o : Oper} {d : Nat} {r : List Oper} (h : privA priv o d) : allocsOf priv (o :: r) = d :: allocsOf priv r := by
  simp [allocsOf, h.1, h.2]

theorem notA_allocs {priv : List Nat} {o : Oper} {r : List Oper} (h : ∀ d, ¬ privA priv o d) : allocsOf priv (o :: r) = allocsOf priv r := by
  cases hp : isPrivAlloc priv o with
  | false => simp [allocsOf, hp]
  | true =>
    cases hd : o.dst with
    | none => simp [allocsOf, hp, hd]
    | some d => exact absurd ⟨hp, hd⟩ (h d)

theorem seq_sound {C : Ctx} (ok : C.tb.Ok C.P) {ops : Array Oper} {mok : List Nat} {K : St → Hp → Prop} {Q : Exit → Act → World → Prop} (g : Bool)
    (hlt : ∀ d ∈ modsO ops.toList, d < n) (hg : g = false → noGuard ops.toList = true) (hg' : g = true → (modsO ops.toList).Nodup ∧ guardsBack ops.toList 0 = true) :
    ∀ (r pre : List Oper) (β : Nat → Nat) (s : St) (a : Act) (h : Hp) (w : World), ops.toList = pre ++ r → (allocsOf C.priv r).Nodup → seqW C ops.toList mok r s h K →
      RR n (fun _ => True) (fun k => k ∉ allocsOf C.priv r) (fun t => g = true ∧ t ∈ modsO pre) (fun k => k ∈ allocsOf C.priv r) β s a h w →
      (∀ s' h' β' a' w', K s' h' → RR n (fun _ => True) (fun _ => True) (fun t => g = true ∧ t ∈ modsO ops.toList) (fun _ => False) β' s' a' h' w' →
        Seg (modsO ops.toList) mok (live s fun k => k ∉ allocsOf C.priv r) β a h w (lives s') β' a' h' w' → Q .normal a' w') →
      wpOps C.P ops Q (List.range' pre.length r.length) a w
  | [], pre, β, s, a, h, w, hops, _, hv, hr, hn => by
    simp only [List.length_nil, List.range'_zero]
    rw [List.append_nil] at hops
    exact hn s h β a w hv (hr.congr (fun _ => .rfl) (fun k => by simp [allocsOf]) (fun t e => by rw [hops]; exact e) (fun k e => e.elim)) ((Seg.refl _ _).mono (fun _ e => e) (fun _ e => e) (fun _ e => e) (fun k e => ⟨e.1, by simp [allocsOf]⟩))
  | o :: r, pre, β, s, a, h, w, hops, hnd, hv, hr, hn => by
    simp only [List.length_cons, List.range'_succ, wpOps_cons]
    have hi : ops[pre.length]? = some o := by
      have : ops.toList[pre.length]? = some o := by rw [hops]; simp
      simpa using this
    have hmem : o ∈ ops.toList := by rw [hops]; simp
    have hA : ∀ k, (privA C.priv o k ∨ k ∉ allocsOf C.priv (o :: r)) ↔ k ∉ allocsOf C.priv r := by
      intro k
      by_cases hp : ∃ d, privA C.priv o d
      · obtain ⟨d, hp⟩ := hp
        rw [privA_allocs hp] at hnd ⊢
        have hnd := List.nodup_cons.1 hnd
        constructor
        · rintro (e | e)
          · have : k = d := by have h1 := e.2; rw [hp.2] at h1; cases h1; rfl
            rw [this]; exact hnd.1
          · exact fun e' => e (List.mem_cons_of_mem _ e')
        · intro e
          by_cases ek : k = d
          · rw [ek]; exact .inl hp
          · exact .inr fun e' => by rcases List.mem_cons.1 e' with e' | e'
                                    · exact ek e'
                                    · exact e e'
      · have hp' : ∀ d, ¬ privA C.priv o d := fun d e => hp ⟨d, e⟩
        rw [notA_allocs hp']
        exact ⟨fun e => e.resolve_left (hp' k), .inr⟩
    have hA' : ∀ k, k ∈ allocsOf C.priv r → ¬ privA C.priv o k ∧ k ∈ allocsOf C.priv (o :: r) := fun k hk =>
      ⟨fun e => (hA k).1 (.inl e) hk, Classical.byContradiction fun e => (hA k).1 (.inr e) hk⟩
    have hnd' : (allocsOf C.priv r).Nodup := by
      by_cases hp : ∃ d, privA C.priv o d
      · obtain ⟨d, hp⟩ := hp
        rw [privA_allocs hp] at hnd
        exact (List.nodup_cons.1 hnd).2
      · rwa [notA_allocs fun d e => hp ⟨d, e⟩] at hnd
    refine op_exec (l := modsO ops.toList) ok hi hv hr (fun _ _ => trivial) (fun j b p d e1 e2 e3 => ⟨trivial, ?_⟩) (fun d e => ⟨hlt d (modsO_mem hmem e), fun e' => ?_, modsO_mem hmem e⟩) (fun d hp => ?_) _ Q fun s' h' β' a' w' hk out => ?_
    · cases g with
      | false => rw [noGuard_mem (hg rfl) hmem] at e1; cases e1
      | true =>
        refine ⟨rfl, ?_⟩
        have hj := guardsBack_get (j := pre.length) (hg' rfl).2 (by rw [hops]; simp) e1
        rw [nth_get, hops, List.getElem?_append_left (by omega)] at e2
        exact modsO_mem (List.mem_of_getElem? e2) e3
    · have hN := (hg' e'.1).1
      rw [hops, modsO_append] at hN
      have h1 : d ∈ modsO (o :: r) := modsO_mem (List.mem_cons_self ..) e
      exact (List.nodup_append.1 hN).2.2 d e'.2 d h1 rfl
    · have : d ∈ allocsOf C.priv (o :: r) := by rw [privA_allocs hp]; simp
      exact ⟨this, fun e => e this⟩
    · have hops' : ops.toList = (pre ++ [o]) ++ r := by rw [hops]; simp
      have := seq_sound ok g hlt hg hg' r (pre ++ [o]) β' s' a' h' w' hops' hnd' hk
        (out.rr.congr (fun t => by simp) (fun k => (hA k).symm) (fun t e => ⟨e.1, by rw [modsO_append]; exact List.mem_append_left _ e.2⟩) hA')
        (fun s2 h2 β2 a2 w2 hk2 hr2 hs2 => hn s2 h2 β2 a2 w2 hk2 hr2 (out.seg.trans (hs2.mono (fun _ e => e) (fun _ e => e) (fun k e => ⟨e.1, (hA k).2 e.2⟩) (fun _ e => e))))
      simpa using this

end
end Lf

/-
  The lifting layer, part 18: what stands ahead of what.
-/
namespace Lf
open Go

theorem condT {b x : Bool} (h : cond b x false = true) : b = true ∧ x = true := by
  cases b
  · cases h
  · exact ⟨rfl, h⟩

theorem nodup_bound : ∀ (n : Nat) (l : List Nat), l.Nodup → (∀ x ∈ l, x < n) → l.length ≤ n
  | 0, l, _, h => by
    cases l with
    | nil => simp
    | cons a l => exact absurd (h a (List.mem_cons_self ..)) (Nat.not_lt_zero _)
  | n + 1, l, hn, h => by
    by_cases hm : n ∈ l
    · have h1 := nodup_bound n (l.erase n) (hn.erase n) (fun x hx => by
        have h2 := (hn.mem_erase_iff).1 hx
        have := h x h2.2
        have := h2.1
        omega)
      rw [List.length_erase_of_mem hm] at h1
      omega
    · have := nodup_bound n l hn (fun x hx => by
        have h1 := h x hx
        have : x ≠ n := fun e => hm (e ▸ hx)
        omega)
      omega

theorem pigeon {n : Nat} {l : List Nat} (hn : l.Nodup) (h : ∀ x ∈ l, x < n) (hl : n ≤ l.length) {j : Nat} (hj : j < n) : j ∈ l := by
  refine Classical.byContradiction fun e => ?_
  have := nodup_bound n (j :: l) (List.nodup_cons.2 ⟨e, hn⟩) (fun x hx => by
    rcases List.mem_cons.1 hx with rfl | hx
    · exact hj
    · exact h x hx)
  simp at this
  omega

def Clos (L : List Oper) (X : Nat → Prop) : Prop := ∀ i o, L[i]? = some o → X i → ∀ j ∈ waits o, X j

def Ahead (L : List Oper) (i j : Nat) : Prop := ∀ X : Nat → Prop, Clos L X → (∀ o, L[i]? = some o → ∀ k ∈ waits o, X k) → X j

theorem allIn_mem {l m : List Nat} (h : allIn l m = true) : ∀ x ∈ l, x ∈ m := by
  induction l with
  | nil => intro x hx; cases hx
  | cons a l ih =>
    simp only [allIn] at h
    cases ha : has m a with
    | false => simp [ha] at h
    | true =>
      simp only [ha, cond_true] at h
      intro x hx
      rcases List.mem_cons.1 hx with rfl | hx
      · exact (has_iff _ _).1 ha
      · exact ih h x hx

theorem waits_mem {o : Oper} {e : Edge} (he : e ∈ o.after) (hb : Region.binds .any e = true) : e.on ∈ waits o := by
  have key : ∀ l : List Edge, e ∈ l → e.on ∈ waits.go l := by
    intro l
    induction l with
    | nil => intro h; cases h
    | cons x l ih =>
      intro h
      simp only [waits.go]
      rcases List.mem_cons.1 h with rfl | h
      · have : bindsAny e = true := by
          unfold Region.binds at hb
          unfold bindsAny
          cases hg : e.ground <;> simp [hg] at hb ⊢
        simp [this]
      · cases bindsAny x
        · exact ih h
        · exact List.mem_cons_of_mem _ (ih h)
  exact key _ (by simpa using he)

theorem union_mem {acc : List (List Nat)} : ∀ {l : List Nat} {j : Nat}, j ∈ aheads.union l acc → j ∈ l ∨ ∃ k ∈ l, ∃ x, nth acc k = some x ∧ j ∈ x
  | [], j, h => by simp [aheads.union] at h
  | k :: l, j, h => by
    simp only [aheads.union, app_eq] at h
    rcases List.mem_cons.1 h with rfl | h
    · exact .inl (List.mem_cons_self ..)
    · rcases List.mem_append.1 h with h | h
      · split at h
        · rename_i x hx
          exact .inr ⟨k, List.mem_cons_self .., x, hx, h⟩
        · cases h
      · rcases union_mem h with h | ⟨k', h1, h2⟩
        · exact .inl (List.mem_cons_of_mem _ h)
        · exact .inr ⟨k', List.mem_cons_of_mem _ h1, h2⟩

theorem aheads_ok {L : List Oper} : ∀ (r pre : List Oper) (acc : List (List Nat)), L = pre ++ r → acc.length = pre.length → (∀ i x, nth acc i = some x → ∀ j ∈ x, Ahead L i j) →
    ∀ i x, nth (aheads r acc) i = some x → ∀ j ∈ x, Ahead L i j
  | [], _, acc, _, _, h => h
  | o :: r, pre, acc, hL, hl, h => by
    refine aheads_ok r (pre ++ [o]) _ (by simp [hL]) (by simp [app_eq, hl]) fun i x hx j hj => ?_
    rw [nth_get, app_eq] at hx
    rcases Nat.lt_trichotomy i acc.length with hi | hi | hi
    · rw [List.getElem?_append_left hi, ← nth_get] at hx
      exact h i x hx j hj
    · subst hi
      simp at hx
      subst hx
      intro X hX hw
      have ho : L[acc.length]? = some o := by rw [hL, hl]; simp
      rcases union_mem hj with hj | ⟨k, hk, y, hy, hjy⟩
      · exact hw o ho j hj
      · exact h k y hy j hjy X hX fun o' ho' k' hk' => hX k o' ho' (hw o ho k hk) k' hk'
    · rw [List.getElem?_append_right (Nat.le_of_lt hi), List.getElem?_eq_none (by simp; omega)] at hx
      cases hx

theorem rows_ahead {L : List Oper} {i j : Nat} (h : j ∈ aheadOf (aheads L []) i) : Ahead L i j := by
  unfold aheadOf at h
  split at h
  · rename_i x hx
    exact aheads_ok L [] [] rfl rfl (fun i x hx => by simp [nth] at hx) i x hx j h
  · cases h

theorem sndL_eq : ∀ l : List (Nat × Operand), sndL l = l.map (·.2)
  | [] => rfl
  | (_, x) :: l => by simp [sndL, sndL_eq l]

theorem optL_eq : ∀ l : Option Operand, optL l = l.toArray.toList
  | none => rfl
  | some x => rfl

theorem opndsL_mem {op : Op} {l : List Operand} (h : opndsL op = some l) : ∀ x ∈ op.operands, x ∈ l := by
  cases op with
  | call c =>
    obtain ⟨callee, args, ats⟩ := c
    cases callee with
    | value f => cases h; intro x hx; simpa [Op.operands, Call.operands] using hx
    | builtin b => cases h; intro x hx; simpa [Op.operands, Call.operands] using hx
    | invoke r m => cases h
  | build t ps => cases h; intro x hx; simpa [Op.operands, sndL_eq] using hx
  | buildSlice t n ps => cases h; intro x hx; simpa [Op.operands, sndL_eq] using hx
  | makeFunc fn a b => cases h; intro x hx; simpa [Op.operands, app_eq] using hx
  | makeMap t r => cases h; intro x hx; simpa [Op.operands, optL_eq] using hx
  | slice t x lo hi mx => cases h; intro x hx; simpa [Op.operands, app_eq, optL_eq, or_assoc] using hx
  | alloc t => cases h; intro x hx; simp [Op.operands] at hx
  | _ => first | (cases h; done) | (cases h; intro x hx; simpa [Op.operands] using hx)

theorem slotOk_get {rows : List (List Nat)} {i t : Nat} : ∀ {l : List Oper} {j0 : Nat}, slotOk rows i t l j0 = true → ∀ j p, l[j]? = some p → p.dst = some t →
    j0 + j ∈ aheadOf rows i ∨ i = j0 + j ∨ i ∈ aheadOf rows (j0 + j)
  | [], _, _, j, p, e, _ => by simp at e
  | q :: l, j0, h, j, p, e, hd => by
    simp only [slotOk] at h
    cases h1 : (cond (dstIs q t) (cond (has (aheadOf rows i) j0) true (cond (Nat.beq i j0) true (has (aheadOf rows j0) i))) true) with
    | false => rw [h1] at h; cases h
    | true =>
      rw [h1] at h
      cases j with
      | zero =>
        simp at e
        subst e
        have : dstIs q t = true := by simp [dstIs, hd]
        rw [this] at h1
        simp only [cond_true] at h1
        cases h2 : has (aheadOf rows i) j0 with
        | true => exact .inl ((has_iff _ _).1 h2)
        | false =>
          rw [h2] at h1
          simp only [cond_false] at h1
          cases h3 : Nat.beq i j0 with
          | true => exact .inr (.inl (Nat.eq_of_beq_eq_true h3))
          | false =>
            rw [h3] at h1
            exact .inr (.inr ((has_iff _ _).1 h1))
      | succ j =>
        have := slotOk_get (l := l) (j0 := j0 + 1) h j p (by simpa using e) hd
        rwa [show j0 + 1 + j = j0 + (j + 1) from by omega] at this

theorem looksGo_mem {L : List Oper} {rows : List (List Nat)} {i t : Nat} : ∀ {l : List Operand}, looksOk.go L rows i l = true → Operand.tmp t ∈ l → slotOk rows i t L 0 = true
  | [], _, hm => by cases hm
  | x :: l, h, hm => by
    cases x with
    | tmp u =>
      simp only [looksOk.go] at h
      cases h1 : slotOk rows i u L 0 with
      | false => simp [h1] at h
      | true =>
        simp only [h1, cond_true] at h
        rcases List.mem_cons.1 hm with e | hm
        · cases e; exact h1
        · exact looksGo_mem h hm
    | _ =>
      simp only [looksOk.go] at h
      rcases List.mem_cons.1 hm with e | hm
      · cases e
      · exact looksGo_mem h hm

theorem looks_slot {L : List Oper} {rows : List (List Nat)} {i t : Nat} {o : Oper} (h : looksOk L rows i o = true) (hm : Operand.tmp t ∈ o.op.operands) {j : Nat} {p : Oper} (hj : L[j]? = some p) (hd : p.dst = some t) :
    j ∈ aheadOf rows i ∨ i = j ∨ i ∈ aheadOf rows j := by
  unfold looksOk at h
  split at h
  · rename_i l hl
    cases h1 : looksOk.go L rows i l with
    | false => simp [h1] at h
    | true =>
      have := slotOk_get (looksGo_mem h1 (opndsL_mem hl _ hm)) j p hj hd
      simpa using this
  · cases h

theorem looks_guard {L : List Oper} {rows : List (List Nat)} {i j : Nat} {b : Bool} {o : Oper} (h : looksOk L rows i o = true) (hg : o.guard = some (j, b)) : j ∈ aheadOf rows i := by
  unfold looksOk at h
  split at h
  · rename_i l hl
    cases h1 : looksOk.go L rows i l with
    | false => simp [h1] at h
    | true =>
      simp only [h1, cond_true, hg] at h
      exact (has_iff _ _).1 h
  · cases h

theorem looksAt_mem {o : Oper} {t : Nat} (hm : Operand.tmp t ∈ o.op.operands) : looksAt o t = true := by
  unfold looksAt
  split
  · rename_i l hl
    have hm' := opndsL_mem hl _ hm
    clear hl hm
    induction l with
    | nil => cases hm'
    | cons x l ih =>
      rcases List.mem_cons.1 hm' with e | hm'
      · subst e; simp [looksAt.go]
      · have := ih hm'
        cases x <;> simp only [looksAt.go]
        · rw [this]; simp
        all_goals exact this
  · rfl

theorem war_get {rows : List (List Nat)} {j d : Nat} {o : Oper} (hd : o.dst = some d) : ∀ {l : List Oper} {i0 : Nat}, isWar rows j o l i0 = false → ∀ i p, l[i]? = some p → Operand.tmp d ∈ p.op.operands → j ∈ aheadOf rows (i0 + i)
  | [], _, _, i, p, e, _ => by simp at e
  | q :: l, i0, h, i, p, e, hm => by
    simp only [isWar, hd] at h
    cases h1 : (cond (looksAt q d) (cond (has (aheadOf rows i0) j) false true) false) with
    | true => rw [h1] at h; cases h
    | false =>
      rw [h1] at h
      cases i with
      | zero =>
        simp at e
        subst e
        rw [looksAt_mem hm] at h1
        simp only [cond_true] at h1
        cases h2 : has (aheadOf rows i0) j with
        | true => exact (has_iff _ _).1 h2
        | false => rw [h2] at h1; cases h1
      | succ i =>
        have := war_get hd (l := l) (i0 := i0 + 1) h i p (by simpa using e) hm
        rwa [show i0 + 1 + i = i0 + (i + 1) from by omega] at this

/-- What a plan's first step tells. -/
theorem planGo_cons {tb : Tb} {priv : List Nat} {ops : List Oper} {rows : List (List Nat)} {i : Nat} {ws : List Nat} {r : List (Nat × List Nat)} {done : List Nat} {last : Option Nat}
    (h : planGo tb priv ops rows ((i, ws) :: r) done last = true) : ∃ o, ops[i]? = some o ∧ (∀ k ∈ waits o, k ∈ done) ∧ looksOk ops rows i o = true ∧ i ∉ done ∧ (∀ e, last = some e → e ∈ aheadOf rows i) ∧
      (((isVal tb o = true ∨ isPrivAlloc priv o = true) ∧ isWar rows i o ops 0 = false ∧ planGo tb priv ops rows r (i :: done) last = true) ∨
       ((isVal tb o = true ∨ isPrivAlloc priv o = true) ∧ isWar rows i o ops 0 = true ∧ planGo tb priv ops rows r (i :: done) (some i) = true) ∨
       (isVal tb o = false ∧ isPrivAlloc priv o = false ∧ planGo.watched tb ops rows ws i done = true ∧ planGo tb priv ops rows r (i :: done) (some i) = true)) := by
  simp only [planGo] at h
  split at h
  · rename_i o ho
    rw [nth_get] at ho
    obtain ⟨h12, h⟩ := condT h
    obtain ⟨h1, h2⟩ := condT h12
    cases h3 : has done i with
    | true => simp [h3] at h
    | false =>
      simp only [h3, cond_false] at h
      obtain ⟨h4, h⟩ := condT h
      refine ⟨o, ho, allIn_mem h1, h2, has_false h3, fun e he => ?_, ?_⟩
      · subst he
        exact (has_iff _ _).1 h4
      · have hvp : ∀ x, (cond (isVal tb o) true (isPrivAlloc priv o)) = x → (x = true → isVal tb o = true ∨ isPrivAlloc priv o = true) ∧ (x = false → isVal tb o = false ∧ isPrivAlloc priv o = false) := by
          intro x e
          cases hv : isVal tb o <;> rw [hv] at e <;> simp at e <;> subst e <;> simp
        split at h
        · rename_i e1 e2
          exact .inl ⟨(hvp _ e1).1 rfl, e2, h⟩
        · rename_i e1 e2
          exact .inr (.inl ⟨(hvp _ e1).1 rfl, e2, h⟩)
        · rename_i e1
          cases h5 : planGo.watched tb ops rows ws i done with
          | false => simp [h5] at h
          | true =>
            simp only [h5, cond_true] at h
            exact .inr (.inr ⟨((hvp _ e1).2 rfl).1, ((hvp _ e1).2 rfl).2, rfl, h⟩)
  · cases h

theorem watched_get {tb : Tb} {ops : List Oper} {rows : List (List Nat)} {ws : List Nat} {e : Nat} : ∀ {l : List Nat}, planGo.watched tb ops rows ws e l = true → ∀ i ∈ l, ∀ o, ops[i]? = some o → isVal tb o = true → isRead tb o = true →
    i ∈ ws ∨ i ∈ aheadOf rows e
  | [], _, i, hi, _, _, _, _ => by cases hi
  | r :: l, h, i, hi, o, ho, hv, hrd => by
    simp only [planGo.watched] at h
    obtain ⟨h2, h⟩ := condT h
    rcases List.mem_cons.1 hi with rfl | hi
    · rw [nth_get, ho] at h2
      simp only [hv, hrd, cond_true] at h2
      cases h3 : has ws i with
      | true => exact .inl ((has_iff _ _).1 h3)
      | false =>
        rw [h3] at h2
        exact .inr ((has_iff _ _).1 h2)
    · exact watched_get h i hi o ho hv hrd

/-- Whatever comes behind a change in the plan waits for it. -/
theorem plan_later {tb : Tb} {priv : List Nat} {L : List Oper} : ∀ {r : List (Nat × List Nat)} {done : List Nat} {e : Nat}, planGo tb priv L (aheads L []) r done (some e) = true →
    ∀ j ∈ r.map (·.1), Ahead L j e
  | [], _, _, _, j, hj => by cases hj
  | (i, ws) :: r, done, e, h, j, hj => by
    obtain ⟨o, ho, _, _, _, hlast, hc⟩ := planGo_cons h
    have hie := rows_ahead (hlast e rfl)
    rcases List.mem_cons.1 hj with rfl | hj
    · exact hie
    · have step : ∀ e', (e' = e ∨ e' = i) → planGo tb priv L (aheads L []) r (i :: done) (some e') = true → Ahead L j e := by
        intro e' he' h'
        have h1 := plan_later h' j hj
        rcases he' with rfl | rfl
        · exact h1
        · intro X hX hw
          have hXi : X e' := h1 X hX hw
          exact hie X hX fun o' ho' k hk => hX e' o' ho' hXi k hk
      rcases hc with ⟨_, _, h'⟩ | ⟨_, _, h'⟩ | ⟨_, _, _, h'⟩
      · exact step e (.inl rfl) h'
      · exact step i (.inr rfl) h'
      · exact step i (.inr rfl) h'

end Lf

/-
  The lifting layer, part 19: what is told of operations that are still to be carried out.
-/
namespace Lf
open Go

/-- The shape of what is loaded from memory that others know. -/
def LdSh (tb : Tb) (o : Oper) (ch : Chain) (s : St) (l : LV) : Prop :=
  kindD tb o ch s = .mem → ∀ t x, o.op = .load t x → ∃ (e : Ty) (y : e.sh.T), tb.ty t = some e ∧ l = .v (e.sh.enc y)

theorem valW_more {P : Program} {tb : Tb} (ok : tb.Ok P) {o : Oper} {ch : Chain} {s : St} {h : Hp} {K : LV → Prop} (hv : valW P tb o ch s h K) :
    ∃ l, K l ∧ (holds s ch → RunsK (kindD tb o ch s) P o s h l) ∧ Prov o ch s l ∧ LdSh tb o ch s l := by
  by_cases hl : ∃ t x a, o.op = .load t x ∧ ev s ch x = some (.v (.pointer (some a)))
  · obtain ⟨t, x, a, hop, hx⟩ := hl
    unfold valW at hv
    simp only [hop, hx] at hv
    split at hv
    · rename_i e hte
      obtain ⟨y, hr, hk⟩ := hv
      refine ⟨.v (e.sh.enc y), hk, fun hh => ?_, prov_v _ _ _ _, fun _ t' x' e' => ?_⟩
      · intro β ρ w ho hs hb
        have hkd : kindD tb o ch s = .mem := by simp [kindD, hop, hx]
        have hx' := ev_ok (ho x (by simp [hop, Op.operands])) hh hx
        have hr' := run_loadVar ok hte (fun j v hj => hcell_sub (hs hkd) (req_cnd hr hh j v hj))
        refine ⟨w, ?_, fun _ => rfl, fun e => .refl (hs e)⟩
        simp only [execOp, hop, hx', LVal, Instr.loadAt, Instr.sureAddr, Sem.run_bind, Sem.run_pure, Result.andThen_ok, hr']
      · rw [hop] at e'
        cases e'
        exact ⟨e, y, hte, rfl⟩
    · exact hv.elim
  · obtain ⟨l, hk, hr, hp⟩ := valW_sound ok hv
    refine ⟨l, hk, hr, hp, fun hkd t x hop => ?_⟩
    refine absurd ?_ hl
    unfold valW at hv
    simp only [hop] at hv
    simp only [kindD, hop] at hkd
    split at hv
    · rename_i a hx
      exact ⟨t, x, a, hop, hx⟩
    · rename_i k off hx
      rw [hx] at hkd; cases hkd
    · rename_i k off hx
      rw [hx] at hkd; cases hkd
    · exact hv.elim

/-- An operation that is told of, but still to be carried out. -/
def PFact (C : Ctx) (L : List Oper) (o : Oper) (s : St) (h : Hp) : Prop :=
  ∃ ch, chainOf L L.length o = some ch ∧ guardOk s ch = true ∧
    ((isVal C.tb o = true ∧ (isRead C.tb o = true ∨ kindD C.tb o ch s = .pure) ∧ ∃ l, (∀ d, o.dst = some d → s.f d = some (l, ch)) ∧ (holds s ch → RunsK (kindD C.tb o ch s) C.P o s h l) ∧ Prov o ch s l ∧ LdSh C.tb o ch s l) ∨
     (ch = [] ∧ isVal C.tb o = false ∧ ∃ d cs, privA C.priv o d ∧ s.f d = some (.box d 0, []) ∧ s.m d = some cs ∧
        ∀ (β : Nat → Nat) (ρ : Operand → Value) (w : World), (∀ x ∈ o.op.operands, Opnd β s ρ x) →
          ∃ t, (execOp ρ o).run C.P w = .ok (.value (.pointer (some ⟨w.heap.size, 0, none⟩))) { w with heap := w.heap.push (.cells cs.toArray t (0, 0)) }))

section
variable {C : Ctx} {L : List Oper} {o : Oper} {s s' : St} {h h' : Hp} {D : Nat → Prop}

/-- The two states agree where the operation looks. -/
structure Like (D : Nat → Prop) (o : Oper) (s s' : St) : Prop where
  dn : ∀ t, D t → s'.f t = s.f t
  op : ∀ t, Operand.tmp t ∈ o.op.operands → s'.f t = s.f t
  ch : ∀ t l c, s.f t = some (l, c) → ∀ p ∈ c, D p.1

theorem Like.holds' (k : Like D o s s') {c : Chain} (hc : ∀ p ∈ c, D p.1) : holds s' c ↔ holds s c := holds_congr fun p hp => k.dn _ (hc p hp)

theorem Like.opnd (k : Like D o s s') {β : Nat → Nat} {ρ : Operand → Value} {x : Operand} (hx : x ∈ o.op.operands) (ho : Opnd β s' ρ x) : Opnd β s ρ x := by
  cases x with
  | tmp t => exact fun l c e hc => ho l c (by rw [k.op t hx]; exact e) ((k.holds' (k.ch t l c e)).2 hc)
  | const v => exact ho
  | global g => exact ho
  | func f => exact ho

theorem Like.ev' (k : Like D o s s') {ch : Chain} {x : Operand} (hx : x ∈ o.op.operands) : ev s' ch x = ev s ch x := by
  cases x with
  | tmp t => simp only [ev, k.op t hx]
  | const v => rfl
  | global g => rfl
  | func f => rfl

theorem vals_congr {s s' : St} {ch : Chain} : ∀ {l : List Operand}, (∀ x ∈ l, ev s' ch x = ev s ch x) → vals s' ch l = vals s ch l
  | [], _ => rfl
  | x :: l, h => by
    simp only [vals]
    rw [h x (List.mem_cons_self ..), vals_congr fun y hy => h y (List.mem_cons_of_mem _ hy)]

theorem Like.kind (k : Like D o s s') {tb : Tb} {ch : Chain} : kindD tb o ch s' = kindD tb o ch s := by
  unfold kindD
  cases hop : o.op with
  | load t x => simp only [k.ev' (ch := ch) (x := x) (by simp [hop, Op.operands])]
  | binOp op t x y u => simp only [k.ev' (ch := ch) (x := x) (by simp [hop, Op.operands]), k.ev' (ch := ch) (x := y) (by simp [hop, Op.operands])]
  | convert a b x => simp only [k.ev' (ch := ch) (x := x) (by simp [hop, Op.operands])]
  | call c =>
    obtain ⟨callee, xs, ts⟩ := c
    cases callee with
    | builtin b =>
      cases b with
      | len =>
        have : vals s' ch xs.toList = vals s ch xs.toList := vals_congr fun x hx => k.ev' (by simp [hop, Op.operands, Call.operands]; simpa using hx)
        simp only [this]
      | _ => rfl
    | _ => rfl
  | _ => rfl

theorem Like.prov (k : Like D o s s') {ch : Chain} {l : LV} (hp : Prov o ch s l) : Prov o ch s' l := fun b off e => by
  obtain ⟨x, hx, off', h⟩ := hp b off e
  exact ⟨x, hx, off', by rw [k.ev' hx]; exact h⟩

theorem guardOk_like (k : Like D o s s') : ∀ {ch : Chain}, (∀ p ∈ ch, D p.1) → guardOk s' ch = guardOk s ch
  | [], _ => rfl
  | (d, b) :: c, hc => by
    simp only [guardOk, k.dn d (hc (d, b) (List.mem_cons_self ..)), guardOk_like k fun p hp => hc p (List.mem_cons_of_mem _ hp)]

theorem boxU_like (k : Like D o s s') {β : Nat → Nat} {w : World} (hm : ∀ t, Operand.tmp t ∈ o.op.operands → ∀ b off c, (s.f t = some (.box b off, c) ∨ s.f t = some (.boxd b off, c)) → holds s c → s'.m b = s.m b)
    (hb : BoxU β s' o w) : BoxU β s o w := by
  intro t ht b off c hf hc cs hcs
  refine hb t ht b off c (by rw [k.op t ht]; exact hf) ?_ cs (by rw [hm t ht b off c hf hc]; exact hcs)
  rcases hf with hf | hf
  · exact (k.holds' (k.ch t _ c hf)).2 hc
  · exact (k.holds' (k.ch t _ c hf)).2 hc

/-- Nothing that matters has changed. -/
theorem runsK_like (k : Like D o s s') {kd : Kd} {P : Program} {l : LV} (hm : kd ≠ .pure → ∀ t, Operand.tmp t ∈ o.op.operands → ∀ b off c, (s.f t = some (.box b off, c) ∨ s.f t = some (.boxd b off, c)) → holds s c → s'.m b = s.m b)
    (hh : kd = .mem → h' = h) (hr : RunsK kd P o s h l) : RunsK kd P o s' h' l := by
  intro β ρ w ho hs hb
  obtain ⟨w', h1, h2, h3⟩ := hr β ρ w (fun x hx => k.opnd hx (ho x hx)) (fun e => by rw [← hh e]; exact hs e) (fun e => boxU_like k (hm e) (hb e))
  exact ⟨w', h1, h2, fun e => by rw [hh e]; exact h3 e⟩

theorem alloc_like (k : Like D o s s') {P : Program} {cs : List Value}
    (hr : ∀ (β : Nat → Nat) (ρ : Operand → Value) (w : World), (∀ x ∈ o.op.operands, Opnd β s ρ x) →
          ∃ t, (execOp ρ o).run P w = .ok (.value (.pointer (some ⟨w.heap.size, 0, none⟩))) { w with heap := w.heap.push (.cells cs.toArray t (0, 0)) }) :
    ∀ (β : Nat → Nat) (ρ : Operand → Value) (w : World), (∀ x ∈ o.op.operands, Opnd β s' ρ x) →
          ∃ t, (execOp ρ o).run P w = .ok (.value (.pointer (some ⟨w.heap.size, 0, none⟩))) { w with heap := w.heap.push (.cells cs.toArray t (0, 0)) } :=
  fun β ρ w ho => hr β ρ w fun x hx => k.opnd hx (ho x hx)

theorem again_sound {tb : Tb} (hC : C.tb = tb) (ok : tb.Ok C.P) {mch : Bool} {ch : Chain} {l : LV} {d : Nat} (ha : Again C mch o ch s' h') (hd : o.dst = some d) (hf : ∃ c, s'.f d = some (l, c)) (hh : holds s' ch)
    (hs : LdSh tb o ch s' l) : kindD tb o ch s' = .pure ∨ (kindD tb o ch s' = .box ∧ mch = false) ∨ (kindD tb o ch s' = .mem ∧ RunsK .mem C.P o s' h' l) := by
  subst hC
  obtain ⟨c, hf⟩ := hf
  unfold Again at ha
  split at ha
  · rename_i t x d' hop hd'
    rw [hd] at hd'; cases hd'
    rw [hf] at ha
    split at ha
    · rename_i v c' e
      cases e
      split at ha
      · rename_i a hx
        right; right
        have hkd : kindD C.tb o ch s' = .mem := by simp [kindD, hop, hx]
        obtain ⟨e, y, hte, hl⟩ := hs hkd t x hop
        cases hl
        refine ⟨hkd, fun β ρ w ho hs hb => ?_⟩
        have hx' := ev_ok (ho x (by simp [hop, Op.operands])) hh hx
        have hr := run_loadVar ok hte (fun j v hj => hcell_sub (hs rfl) (req_cnd ha hh j v hj))
        refine ⟨w, ?_, fun e => absurd rfl e, fun _ => .refl (hs rfl)⟩
        simp only [execOp, hop, hx', LVal, Instr.loadAt, Instr.sureAddr, Sem.run_bind, Sem.run_pure, Result.andThen_ok, hr]
      · rename_i k off hx
        cases mch with
        | true => exact ha.elim
        | false => exact .inr (.inl ⟨by simp [kindD, hop, hx], rfl⟩)
      · rename_i k off hx
        cases mch with
        | true => exact ha.elim
        | false => exact .inr (.inl ⟨by simp [kindD, hop, hx], rfl⟩)
      · exact ha.elim
    · exact ha.elim
  · rename_i t x i cok d' hop hd'
    rw [hd] at hd'; cases hd'
    rw [hf] at ha
    split at ha
    · rename_i v c' e
      cases e
      obtain ⟨a, hea, ha1⟩ := onV_some ha
      obtain ⟨b, heb, ha2⟩ := onV_some ha1
      have hl := req_cnd ha2 hh
      right; right
      have main : ∀ w, Sub h' w → ∃ w', (Instr.lookup t a b cok).run C.P w = .ok v w' ∧ Step h' h' w w' := by
        intro w hsub
        unfold AgainLook at hl
        split at hl
        · rename_i m e he
          split at hl
          · rename_i k u hu
            split at hl
            · rename_i ke ue hk hue
              cases hkd : isKeyD ke.und with
              | true =>
                simp only [hkd, cond_true] at hl
                cases cok with
                | true =>
                  simp only [cond_true] at hl
                  split at hl
                  · rename_i x1 y1
                    exact ⟨w, by rw [run_lookup ok he hu hk hue hkd hsub hl]; rfl, .refl hsub⟩
                  · exact hl.elim
                | false =>
                  simp only [cond_false] at hl
                  obtain ⟨y1, hl⟩ := hl
                  exact ⟨w, by rw [run_lookup ok he hu hk hue hkd hsub hl]; rfl, .refl hsub⟩
              | false =>
                simp only [hkd, cond_false] at hl
                exact semIs_run hl hsub
            · exact hl.elim
          · exact hl.elim
        · exact hl.elim
      refine ⟨by simp [kindD, hop], fun β ρ w ho hs hb => ?_⟩
      have hx := ev_ok (ho x (by simp [hop, Op.operands])) hh hea
      have hi := ev_ok (ho i (by simp [hop, Op.operands])) hh heb
      obtain ⟨w', hr, hst⟩ := main w (hs rfl)
      refine ⟨w', ?_, fun e => absurd rfl e, fun _ => hst⟩
      simp only [execOp, hop, hx, hi, LVal, Sem.run_bind, hr, Result.andThen_ok, Sem.run_pure]
    · exact ha.elim
  · rename_i xs ts d' hop hd'
    rw [hd] at hd'; cases hd'
    rw [hf] at ha
    split at ha
    · rename_i v c' e
      cases e
      split at ha
      · rename_i x hvs
        have hkd : kindD C.tb o ch s' = .pure ∨ kindD C.tb o ch s' = .mem := by
          unfold kindD
          rw [hop]
          simp only []
          repeat' split
          all_goals simp
        rcases hkd with hkd | hkd
        · exact .inl hkd
        right; right
        refine ⟨hkd, fun β ρ w ho hs hb => ?_⟩
        have hargs : xs.map ρ = #[x] := by
          have := vals_ok (β := β) (ρ := ρ) hh hvs fun x hx => ho x (by simp [hop, Op.operands, Call.operands]; simpa using hx)
          apply Array.ext'; simpa using this
        obtain ⟨w', hr, hst⟩ := semIs_run (req_cnd ha hh) (hs rfl)
        refine ⟨w', ?_, fun e => absurd rfl e, fun _ => hst⟩
        simp only [execOp, hop, resolve, invoke, builtin, Sem.run_bind, Sem.run_pure, Result.andThen_ok, hargs, hr, LVal]
      · exact ha.elim
    · exact ha.elim
  · exact ha.elim

end
end Lf

/-
  The lifting layer, part 20: a region whose order is drawn, told in one order.
-/
namespace Lf
open Go

theorem binds_any (e : Edge) : bindsAny e = Region.binds .any e := by
  unfold Region.binds bindsAny
  cases e.ground <;> rfl

theorem mem_waits {o : Oper} {k : Nat} (h : k ∈ waits o) : ∃ e ∈ o.after, e.on = k ∧ Region.binds .any e = true := by
  have key : ∀ l : List Edge, k ∈ waits.go l → ∃ e ∈ l, e.on = k ∧ Region.binds .any e = true := by
    intro l
    induction l with
    | nil => intro h; cases h
    | cons x l ih =>
      intro h
      simp only [waits.go] at h
      cases hx : bindsAny x with
      | false =>
        simp only [hx, cond_false] at h
        obtain ⟨e, h1, h2⟩ := ih h
        exact ⟨e, List.mem_cons_of_mem _ h1, h2⟩
      | true =>
        simp only [hx, cond_true] at h
        rcases List.mem_cons.1 h with e | h
        · exact ⟨x, List.mem_cons_self .., e.symm, by rw [← binds_any, hx]⟩
        · obtain ⟨e, h1, h2⟩ := ih h
          exact ⟨e, List.mem_cons_of_mem _ h1, h2⟩
  obtain ⟨e, h1, h2⟩ := key _ h
  exact ⟨e, by simpa using h1, h2⟩

theorem dst_inj {t : Nat} : ∀ {L : List Oper} {i j : Nat} {o p : Oper}, (modsO L).Nodup → L[i]? = some o → L[j]? = some p → o.dst = some t → p.dst = some t → i = j
  | [], _, _, _, _, _, e, _, _, _ => by simp at e
  | x :: L, 0, 0, _, _, _, _, _, _, _ => rfl
  | x :: L, 0, j + 1, o, p, hn, e, e', h, h' => by
    simp at e e'
    subst e
    simp only [modsO, h] at hn
    exact absurd (modsO_mem (List.mem_of_getElem? e') h') (List.nodup_cons.1 hn).1
  | x :: L, i + 1, 0, o, p, hn, e, e', h, h' => by
    simp at e e'
    subst e'
    simp only [modsO, h'] at hn
    exact absurd (modsO_mem (List.mem_of_getElem? e) h) (List.nodup_cons.1 hn).1
  | x :: L, i + 1, j + 1, o, p, hn, e, e', h, h' => by
    have hn' : (modsO L).Nodup := by
      simp only [modsO] at hn
      split at hn
      · exact (List.nodup_cons.1 hn).2
      · exact hn
    have e1 : L[i]? = some o := by simpa using e
    have e2 : L[j]? = some p := by simpa using e'
    have := dst_inj hn' e1 e2 h h'
    omega

def Topo (L : List Oper) : List Nat → Prop
  | [] => True
  | i :: d => (∀ o, L[i]? = some o → ∀ k ∈ waits o, k ∈ d) ∧ Topo L d

theorem topo_first {L : List Oper} {ls : List Nat} : ∀ {d : List Nat}, Topo L d → (∃ i ∈ d, i ∉ ls) → ∃ i ∈ d, i ∉ ls ∧ ∀ o, L[i]? = some o → ∀ k ∈ waits o, k ∈ ls
  | [], _, ⟨i, hi, _⟩ => by cases hi
  | i :: d, ht, hx => by
    by_cases hd : ∃ j ∈ d, j ∉ ls
    · obtain ⟨j, h1, h2⟩ := topo_first ht.2 hd
      exact ⟨j, List.mem_cons_of_mem _ h1, h2⟩
    · have hall : ∀ j ∈ d, j ∈ ls := fun j hj => Classical.byContradiction fun e => hd ⟨j, hj, e⟩
      obtain ⟨j, hj, hn⟩ := hx
      rcases List.mem_cons.1 hj with rfl | hj
      · exact ⟨j, List.mem_cons_self .., hn, fun o ho k hk => hall k (ht.1 o ho k hk)⟩
      · exact absurd (hall j hj) hn

def CurP (L : List Oper) (done ls : List Nat) (t : Nat) : Prop := ∀ i o, i ∈ done → i ∉ ls → L[i]? = some o → o.dst ≠ some t
def DnP (L : List Oper) (done : List Nat) (t : Nat) : Prop := ∃ i o, i ∈ done ∧ L[i]? = some o ∧ o.dst = some t
def NnP (C : Ctx) (L : List Oper) (done : List Nat) (k : Nat) : Prop := ∃ i o, i ∉ done ∧ L[i]? = some o ∧ privA C.priv o k
def LivP (C : Ctx) (L : List Oper) (done ls : List Nat) (k : Nat) : Prop := (∀ i o, i ∈ done → i ∉ ls → L[i]? = some o → ¬ privA C.priv o k) ∧ ¬ NnP C L done k

/-- The state that is told ('done': the operations told of) and memory ('ls': those carried out). -/
structure Sim (C : Ctx) (L : List Oper) (mok : List Nat) (n : Nat) (lv0 : Nat → Prop) (β0 : Nat → Nat) (a0 : Act) (h0 : Hp) (w0 : World) (done ls : List Nat) (listed : Array Bool) (β : Nat → Nat) (s : St) (a : Act) (h : Hp) (w : World) : Prop where
  lsz : listed.size = L.length
  lst : ∀ i, listed.getD i false = true ↔ i ∈ ls
  lnd : ls.Nodup
  lsub : ∀ i ∈ ls, i ∈ done
  dlt : ∀ i ∈ done, i < L.length
  clos : Clos L (· ∈ ls)
  dclos : Clos L (· ∈ done)
  topo : Topo L done
  rr : RR n (CurP L done ls) (LivP C L done ls) (DnP L done) (NnP C L done) β s a h w
  facts : ∀ i o, i ∈ done → i ∉ ls → L[i]? = some o → PFact C L o s h ∧ looksOk L (aheads L []) i o = true ∧ isWar (aheads L []) i o L 0 = false ∧ ∀ d, privA C.priv o d → d ∈ mok
  seg : Seg (modsO L) mok lv0 β0 a0 h0 w0 (live s (LivP C L done ls)) β a h w

section
variable {C : Ctx} {L : List Oper} {mok : List Nat} {n : Nat} {lv0 : Nat → Prop} {β0 : Nat → Nat} {a0 : Act} {h0 : Hp} {w0 : World} {done ls : List Nat} {listed : Array Bool} {β : Nat → Nat} {s : St} {a : Act} {h : Hp} {w : World}

theorem get_same {i : Nat} {o p : Oper} (h : L[i]? = some o) (h' : L[i]? = some p) : p = o := by rw [h] at h'; cases h'; rfl

theorem curP_exec (hnd : (modsO L).Nodup) {i : Nat} {o : Oper} (hi : L[i]? = some o) (hd : i ∈ done) (t : Nat) : CurP L done (i :: ls) t ↔ (o.dst = some t ∨ CurP L done ls t) := by
  constructor
  · intro hc
    by_cases ht : o.dst = some t
    · exact .inl ht
    · refine .inr fun j p h1 h2 h3 => ?_
      by_cases hj : j = i
      · subst hj; rw [get_same hi h3]; exact ht
      · exact hc j p h1 (fun e => by rcases List.mem_cons.1 e with e | e
                                     · exact hj e
                                     · exact h2 e) h3
  · rintro (ht | hc) j p h1 h2 h3
    · intro e
      exact h2 (by rw [dst_inj hnd h3 hi e ht]; exact List.mem_cons_self ..)
    · exact hc j p h1 (fun e => h2 (List.mem_cons_of_mem _ e)) h3

theorem livP_exec (hnd : (modsO L).Nodup) {i : Nat} {o : Oper} (hi : L[i]? = some o) (hd : i ∈ done) (k : Nat) : LivP C L done (i :: ls) k ↔ (privA C.priv o k ∨ LivP C L done ls k) := by
  constructor
  · rintro ⟨h1, h2⟩
    by_cases hp : privA C.priv o k
    · exact .inl hp
    · refine .inr ⟨fun j p e1 e2 e3 => ?_, h2⟩
      by_cases hj : j = i
      · subst hj; rw [get_same hi e3]; exact hp
      · exact h1 j p e1 (fun e => by rcases List.mem_cons.1 e with e | e
                                     · exact hj e
                                     · exact e2 e) e3
  · rintro (hp | ⟨h1, h2⟩)
    · refine ⟨fun j p e1 e2 e3 e4 => e2 (by rw [dst_inj hnd e3 hi e4.2 hp.2]; exact List.mem_cons_self ..), ?_⟩
      rintro ⟨j, p, e1, e2, e3⟩
      exact e1 (by rw [dst_inj hnd e2 hi e3.2 hp.2]; exact hd)
    · exact ⟨fun j p e1 e2 e3 => h1 j p e1 (fun e => e2 (List.mem_cons_of_mem _ e)) e3, h2⟩

theorem set_listed {i j : Nat} (hsz : listed.size = L.length) (hi : i < L.length) (hl : ∀ i, listed.getD i false = true ↔ i ∈ ls) : (listed.setIfInBounds i true).getD j false = true ↔ j ∈ i :: ls := by
  by_cases hj : j = i
  · subst hj
    simp [hsz, hi]
  · have := hl j
    simp [Array.getElem?_setIfInBounds_ne (Ne.symm hj), hj] at this ⊢
    exact this

theorem chainsD (hs : Sim C L mok n lv0 β0 a0 h0 w0 done ls listed β s a h w) {i : Nat} {o : Oper} (hi : L[i]? = some o) (hw : ∀ k ∈ waits o, k ∈ done) (hlk : looksOk L (aheads L []) i o = true) {ch : Chain}
    (hch : chainOf L L.length o = some ch) (hg : guardOk s ch = true) : ∀ p ∈ ch, DnP L done p.1 :=
  chain_D hs.rr hch hg fun j b p d e1 e2 e3 => ⟨j, p, rows_ahead (looks_guard hlk e1) (· ∈ done) hs.dclos (fun o' ho' => by rw [get_same hi ho']; exact hw), by rw [← nth_get]; exact e2, e3⟩

/-- A pending operation is carried out. -/
theorem pend_exec (ok : C.tb.Ok C.P) {ops : Array Oper} (hops : ops.toList = L) (hnd : (modsO L).Nodup)
    (hs : Sim C L mok n lv0 β0 a0 h0 w0 done ls listed β s a h w) {i : Nat} {o : Oper} (hi : L[i]? = some o) (hd : i ∈ done) (hn : i ∉ ls) (hw : ∀ k ∈ waits o, k ∈ ls)
    (next : Act → World → Prop) (Q : Exit → Act → World → Prop)
    (hk : ∀ β' a' w', Sim C L mok n lv0 β0 a0 h0 w0 done (i :: ls) (listed.setIfInBounds i true) β' s a' h w' → next a' w') : wpOp C.P ops Q i next a w := by
  obtain ⟨⟨ch, hch, hg, hpf⟩, hlk, hwar, hmm⟩ := hs.facts i o hd hn hi
  have hah : ∀ j ∈ aheadOf (aheads L []) i, j ∈ ls := fun j hj => rows_ahead hj (· ∈ ls) hs.clos (fun o' ho' => by rw [get_same hi ho']; exact hw)
  have hcur : ∀ t, Operand.tmp t ∈ o.op.operands → CurP L done ls t := fun t ht j p h1 h2 h3 h4 => by
    have := war_get h4 (hs.facts j p h1 h2 h3).2.2.1 i o hi ht
    rw [Nat.zero_add] at this
    exact h2 (hah j this)
  have hgc : ∀ j b p d, o.guard = some (j, b) → nth L j = some p → p.dst = some d → CurP L done ls d := fun j b p d e1 e2 e3 j' p' h1 h2 h3 h4 => by
    rw [nth_get] at e2
    have := dst_inj hnd h3 e2 h4 e3
    subst this
    exact h2 (hah _ (looks_guard hlk e1))
  have hopnd : ∀ x ∈ o.op.operands, Opnd β s a.eval x := fun x hx => opnd_rr hs.rr fun t e => hcur t (e ▸ hx)
  have hw' := wanted_iff (ops := ops) hs.rr (by rw [hops]; exact hch) hg (by rw [hops]; exact hgc)
  have hoi : ops[i]? = some o := by rw [← hops] at hi; simpa using hi
  have hilt : i < L.length := hs.dlt i hd
  have hncur : ∀ d, o.dst = some d → ¬ CurP L done ls d := fun d e hc => hc i o hd hn hi e
  -- what is so whichever it was
  have fin : ∀ β' a' w', RR n (CurP L done (i :: ls)) (LivP C L done (i :: ls)) (DnP L done) (NnP C L done) β' s a' h w' → Seg (modsO L) mok (live s (LivP C L done ls)) β a h w (live s (LivP C L done (i :: ls))) β' a' h w' → next a' w' := by
    intro β' a' w' hr hsg
    refine hk β' a' w' ⟨by simpa using hs.lsz, fun j => set_listed hs.lsz hilt hs.lst, List.nodup_cons.2 ⟨hn, hs.lnd⟩, fun j hj => ?_, hs.dlt, ?_, hs.dclos, hs.topo, hr, fun j p h1 h2 h3 => hs.facts j p h1 (fun e => h2 (List.mem_cons_of_mem _ e)) h3, hs.seg.trans hsg⟩
    · rcases List.mem_cons.1 hj with rfl | hj
      · exact hd
      · exact hs.lsub j hj
    · intro j p hj hjm k hk'
      rcases List.mem_cons.1 hjm with rfl | hjm
      · rw [get_same hi hj] at hk'
        exact List.mem_cons_of_mem _ (hw k hk')
      · exact List.mem_cons_of_mem _ (hs.clos j p hj hjm k hk')
  have hdl : ∀ d, o.dst = some d → d ∈ modsO L := fun d e => modsO_mem (List.mem_of_getElem? hi) e
  unfold wpOp
  simp only [hoi]
  rcases hpf with ⟨hval, _, l, hl, hrun, hprov, _⟩ | ⟨rfl, hval, d, cs, hp, hfd, hmd, hrun⟩
  · have hnp : ∀ k, ¬ privA C.priv o k := not_priv (val_not_priv hval)
    have hliv : ∀ k, LivP C L done (i :: ls) k ↔ LivP C L done ls k := fun k => by
      rw [livP_exec hnd hi hd k]
      exact ⟨fun e => e.resolve_left (hnp k), .inr⟩
    have main : ∀ (v : Value) (w' : World), Step h h w w' → (holds s ch → v = LVal β l) → (¬ holds s ch → v = undef) → next (a.put o.dst v) w' := by
      intro v w' hst h1 h2
      refine fin β _ w' ?_ (((Seg.step hst).trans (Seg.put (lv := live s (LivP C L done ls)) hdl)).mono (fun _ e => e) (fun _ e => e) (fun _ e => e) (fun k e => ⟨e.1, (hliv k).1 e.2⟩))
      have hr := hs.rr.step hst
      cases hdst : o.dst with
      | none => exact hr.congr (fun t => by rw [curP_exec hnd hi hd t]; simp [hdst]) hliv (fun _ e => e) (fun _ e => e)
      | some d =>
        have := hr.exec (v := v) (hl d hdst) (hncur d hdst) (fun hh => ⟨h1 hh, fun k off e => (prov_rr hs.rr hprov hh hcur k off e).1⟩) h2
        refine this.congr (fun t => ?_) hliv (fun _ e => e) (fun _ e => e)
        rw [curP_exec hnd hi hd t, hdst]
        constructor
        · rintro (e | e)
          · cases e; exact .inl rfl
          · exact .inr e
        · rintro (e | e)
          · exact .inl (by rw [e])
          · exact .inr e
    by_cases hh : holds s ch
    · rw [if_pos (hw'.2 hh)]
      left
      obtain ⟨w', hrw, hw1, hst⟩ := hrun hh β a.eval w hopnd (fun _ => hs.rr.sub) (fun _ => boxU_rr hs.rr hcur)
      unfold Oper.wp
      rw [hrw]
      have hst' : Step h h w w' := by
        cases hkd : kindD C.tb o ch s with
        | mem => exact hst hkd
        | pure => rw [hw1 (by rw [hkd]; simp)]; exact .refl hs.rr.sub
        | box => rw [hw1 (by rw [hkd]; simp)]; exact .refl hs.rr.sub
      exact main _ w' hst' (fun _ => rfl) (fun e => absurd hh e)
    · rw [if_neg (fun e => hh (hw'.1 e))]
      exact main _ w (.refl hs.rr.sub) (fun e => absurd e hh) (fun _ => rfl)
  · rw [if_pos (hw'.2 (holds_nil s))]
    left
    obtain ⟨t, hrw⟩ := hrun β a.eval w hopnd
    unfold Oper.wp
    rw [hrw]
    show next (a.put o.dst _) _
    have hnl : ¬ LivP C L done ls d := fun e => e.1 i o hd hn hi hp
    rw [hp.2]
    have hiff : ∀ k, privA C.priv o k ↔ k = d := fun k => ⟨fun e => by have := e.2; rw [hp.2] at this; cases this; rfl, fun e => e ▸ hp⟩
    refine fin _ _ _ ((hs.rr.execA t hfd hmd (hncur d hp.2) hnl).congr (fun t => ?_) (fun k => ?_) (fun _ e => e) (fun _ e => e)) ((segA (a := a) (β := β) t hs.rr.sub hmd hnl (hdl d hp.2) (hmm d hp)).mono (fun _ e => e) (fun _ e => e) (fun _ e => e) (fun k e => ⟨e.1, ?_⟩))
    · rw [curP_exec hnd hi hd t, hp.2]
      constructor
      · rintro (e | e)
        · cases e; exact .inl rfl
        · exact .inr e
      · rintro (e | e)
        · exact .inl (by rw [e])
        · exact .inr e
    · rw [livP_exec hnd hi hd k, hiff]
    · have := e.2
      rw [livP_exec hnd hi hd k, hiff] at this
      exact this

end
end Lf

/-
  The lifting layer, part 21: an operation is told of.
-/
namespace Lf
open Go

section
variable {C : Ctx} {L : List Oper} {mok : List Nat} {n : Nat} {lv0 : Nat → Prop} {β0 : Nat → Nat} {a0 : Act} {h0 : Hp} {w0 : World} {done ls : List Nat} {listed : Array Bool} {β : Nat → Nat} {s : St} {a : Act} {h : Hp} {w : World}

/-- A fact stays where nothing that matters changes. -/
theorem pfact_like {D : Nat → Prop} {o : Oper} {s' : St} (k : Like D o s s') (hD : ∀ ch, chainOf L L.length o = some ch → guardOk s ch = true → ∀ p ∈ ch, D p.1) (hdD : ∀ d, o.dst = some d → D d)
    (hm : ∀ t, Operand.tmp t ∈ o.op.operands → ∀ b off c, (s.f t = some (.box b off, c) ∨ s.f t = some (.boxd b off, c)) → holds s c → s'.m b = s.m b) (hmd : ∀ d, privA C.priv o d → s'.m d = s.m d)
    (hp : PFact C L o s h) : PFact C L o s' h := by
  obtain ⟨ch, hch, hg, hpf⟩ := hp
  have hD := hD ch hch hg
  refine ⟨ch, hch, by rw [guardOk_like k hD]; exact hg, ?_⟩
  rcases hpf with ⟨hval, hrd, l, hl, hrun, hprov, hsh⟩ | ⟨rfl, hval, d, cs, hpa, hfd, hmd', hrun⟩
  · refine .inl ⟨hval, by rw [k.kind]; exact hrd, l, fun d e => by rw [k.dn d (hdD d e)]; exact hl d e, fun hh => ?_, k.prov hprov, fun hkd => hsh (by rw [← k.kind (s' := s')]; exact hkd)⟩
    rw [k.kind]
    exact runsK_like k (fun _ => hm) (fun _ => rfl) (hrun ((k.holds' hD).1 hh))
  · exact .inr ⟨rfl, hval, d, cs, hpa, by rw [k.dn d (hdD d hpa.2)]; exact hfd, by rw [hmd d hpa]; exact hmd', alloc_like k hrun⟩

/-- What the others need. -/
theorem like_new (hnd : (modsO L).Nodup) (hs : Sim C L mok n lv0 β0 a0 h0 w0 done ls listed β s a h w) {i : Nat} {o : Oper} (hi : L[i]? = some o) (hnd' : i ∉ done) {s' : St} (hf : ∀ t, o.dst ≠ some t → s'.f t = s.f t)
    {j : Nat} {p : Oper} (hj : L[j]? = some p) (hjd : j ∈ done) (hno : ∀ t, Operand.tmp t ∈ p.op.operands → o.dst = some t → False) : Like (DnP L done) p s s' := by
  refine ⟨fun t ht => hf t fun e => ?_, fun t ht => hf t fun e => hno t ht e, fun t l c e q hq => hs.rr.chain t l c e q hq⟩
  obtain ⟨j', p', h1, h2, h3⟩ := ht
  have := dst_inj hnd h2 hi h3 e
  subst this
  exact hnd' h1

theorem closD (hs : Sim C L mok n lv0 β0 a0 h0 w0 done ls listed β s a h w) {j : Nat} {p : Oper} (hj : L[j]? = some p) (hjd : j ∈ done) {i : Nat} (h : i ∈ aheadOf (aheads L []) j) : i ∈ done :=
  rows_ahead h (· ∈ done) hs.dclos fun o' ho' => hs.dclos j o' ho' hjd

theorem facts_lift (hnd : (modsO L).Nodup) (hs : Sim C L mok n lv0 β0 a0 h0 w0 done ls listed β s a h w) {i : Nat} {o : Oper} (hi : L[i]? = some o) (hid : i ∉ done) (hwar : isWar (aheads L []) i o L 0 = false)
    {s' : St} (hf : ∀ t, o.dst ≠ some t → s'.f t = s.f t) (hm : ∀ k, s'.m k = s.m k ∨ privA C.priv o k) {j : Nat} {p : Oper} (hjd : j ∈ done) (hjl : j ∉ ls) (hj : L[j]? = some p) :
    PFact C L p s' h ∧ looksOk L (aheads L []) j p = true ∧ isWar (aheads L []) j p L 0 = false ∧ ∀ d, privA C.priv p d → d ∈ mok := by
  obtain ⟨h1, h2, h3⟩ := hs.facts j p hjd hjl hj
  refine ⟨?_, h2, h3⟩
  have k : Like (DnP L done) p s s' := like_new hnd hs hi hid hf hj hjd fun t ht e => by
    have := war_get e hwar j p hj ht
    rw [Nat.zero_add] at this
    exact hid (closD hs hj hjd this)
  refine pfact_like k (fun ch hch hg => chainsD hs hj (hs.dclos j p hj hjd) h2 hch hg) (fun d e => ⟨j, p, hjd, hj, e⟩) (fun t ht b off c hfb hh => ?_) (fun d hp => ?_) h1
  · refine (hm b).resolve_right fun hp => ?_
    have hN : NnP C L done b := ⟨i, o, hid, hi, hp⟩
    rcases hfb with hfb | hfb
    · exact (hs.rr.nref b hN t _ c hfb hh off).1 rfl
    · exact (hs.rr.nref b hN t _ c hfb hh off).2 rfl
  · refine (hm d).resolve_right fun hp' => ?_
    have := dst_inj hnd hi hj hp'.2 hp.2
    subst this
    exact hid hjd

theorem sim_frame (hs : Sim C L mok n lv0 β0 a0 h0 w0 done ls listed β s a h w) {i : Nat} {o : Oper} (hi : L[i]? = some o) (hid : i ∉ done) (hw : ∀ k ∈ waits o, k ∈ done) {s' : St}
    (hr : RR n (CurP L (i :: done) ls) (LivP C L (i :: done) ls) (DnP L (i :: done)) (NnP C L (i :: done)) β s' a h w)
    (hfacts : ∀ j p, j ∈ i :: done → j ∉ ls → L[j]? = some p → PFact C L p s' h ∧ looksOk L (aheads L []) j p = true ∧ isWar (aheads L []) j p L 0 = false ∧ ∀ d, privA C.priv p d → d ∈ mok)
    (hseg : Seg (modsO L) mok lv0 β0 a0 h0 w0 (live s' (LivP C L (i :: done) ls)) β a h w) : Sim C L mok n lv0 β0 a0 h0 w0 (i :: done) ls listed β s' a h w := by
  refine ⟨hs.lsz, hs.lst, hs.lnd, fun j hj => List.mem_cons_of_mem _ (hs.lsub j hj), fun j hj => ?_, hs.clos, ?_, ⟨fun o' ho' => by rw [get_same hi ho']; exact hw, hs.topo⟩, hr, hfacts, hseg⟩
  · rcases List.mem_cons.1 hj with rfl | hj
    · exact (List.getElem?_eq_some_iff.1 hi).1
    · exact hs.dlt j hj
  · intro j p hj hjm k hk
    rcases List.mem_cons.1 hjm with rfl | hjm
    · rw [get_same hi hj] at hk
      exact List.mem_cons_of_mem _ (hw k hk)
    · exact List.mem_cons_of_mem _ (hs.dclos j p hj hjm k hk)

theorem curP_lift (hs : Sim C L mok n lv0 β0 a0 h0 w0 done ls listed β s a h w) {i : Nat} {o : Oper} (hi : L[i]? = some o) (hid : i ∉ done) (t : Nat) : CurP L (i :: done) ls t ↔ (o.dst ≠ some t ∧ CurP L done ls t) := by
  constructor
  · exact fun hc => ⟨hc i o (List.mem_cons_self ..) (fun e => hid (hs.lsub i e)) hi, fun j p h1 h2 h3 => hc j p (List.mem_cons_of_mem _ h1) h2 h3⟩
  · rintro ⟨h1, h2⟩ j p e1 e2 e3
    rcases List.mem_cons.1 e1 with rfl | e1
    · rw [get_same hi e3]; exact h1
    · exact h2 j p e1 e2 e3

theorem nnP_lift (hnd : (modsO L).Nodup) {i : Nat} {o : Oper} (hi : L[i]? = some o) (hid : i ∉ done) (k : Nat) : NnP C L (i :: done) k ↔ (¬ privA C.priv o k ∧ NnP C L done k) := by
  constructor
  · rintro ⟨j, p, h1, h2, h3⟩
    refine ⟨fun e => ?_, j, p, fun e => h1 (List.mem_cons_of_mem _ e), h2, h3⟩
    exact h1 (by rw [dst_inj hnd h2 hi h3.2 e.2]; exact List.mem_cons_self ..)
  · rintro ⟨h0, j, p, h1, h2, h3⟩
    refine ⟨j, p, fun e => ?_, h2, h3⟩
    rcases List.mem_cons.1 e with rfl | e
    · rw [get_same hi h2] at h3; exact h0 h3
    · exact h1 e

theorem livP_lift (hnd : (modsO L).Nodup) (hs : Sim C L mok n lv0 β0 a0 h0 w0 done ls listed β s a h w) {i : Nat} {o : Oper} (hi : L[i]? = some o) (hid : i ∉ done) (k : Nat) :
    LivP C L (i :: done) ls k ↔ (¬ privA C.priv o k ∧ LivP C L done ls k) := by
  constructor
  · rintro ⟨h1, h2⟩
    have hp : ¬ privA C.priv o k := h1 i o (List.mem_cons_self ..) (fun e => hid (hs.lsub i e)) hi
    exact ⟨hp, fun j p e1 e2 e3 => h1 j p (List.mem_cons_of_mem _ e1) e2 e3, fun e => h2 ((nnP_lift hnd hi hid k).2 ⟨hp, e⟩)⟩
  · rintro ⟨hp, h1, h2⟩
    refine ⟨fun j p e1 e2 e3 => ?_, fun e => h2 ((nnP_lift hnd hi hid k).1 e).2⟩
    rcases List.mem_cons.1 e1 with rfl | e1
    · rw [get_same hi e3]; exact hp
    · exact h1 j p e1 e2 e3

theorem dnP_mono {i : Nat} (t : Nat) (h : DnP L done t) : DnP L (i :: done) t := by
  obtain ⟨j, p, h1, h2, h3⟩ := h
  exact ⟨j, p, List.mem_cons_of_mem _ h1, h2, h3⟩

/-- A value or a private variable is told of. -/
theorem sim_lift (ok : C.tb.Ok C.P) (hnd : (modsO L).Nodup) (hlt : ∀ d ∈ modsO L, d < n) (hs : Sim C L mok n lv0 β0 a0 h0 w0 done ls listed β s a h w) {i : Nat} {o : Oper} (hi : L[i]? = some o) (hid : i ∉ done)
    (hw : ∀ k ∈ waits o, k ∈ done) (hlk : looksOk L (aheads L []) i o = true) (hwar : isWar (aheads L []) i o L 0 = false) (hvp : isVal C.tb o = true ∨ isPrivAlloc C.priv o = true) {K : St → Hp → Prop}
    (hkd : kindOk C L o s = true) (hv : opW C L mok o s h K) : ∃ s', K s' h ∧ Sim C L mok n lv0 β0 a0 h0 w0 (i :: done) ls listed β s' a h w := by
  unfold opW at hv
  split at hv
  · exact hv.elim
  rename_i ch hch
  cases hg : guardOk s ch with
  | false => simp [hg] at hv
  | true =>
  simp only [hg, cond_true] at hv
  have hD : ∀ p ∈ ch, DnP L done p.1 := chainsD hs hi hw hlk hch hg
  have hdD : ∀ d, o.dst = some d → ¬ DnP L done d := fun d e ⟨j, p, h1, h2, h3⟩ => hid (by rw [← dst_inj hnd h2 hi h3 e]; exact h1)
  have hdn : ∀ d, o.dst = some d → d < n := fun d e => hlt d (modsO_mem (List.mem_of_getElem? hi) e)
  have hself : ∀ {s' : St}, (∀ t, o.dst ≠ some t → s'.f t = s.f t) → Like (DnP L done) o s s' := fun hf => by
    refine ⟨fun t ⟨j, p, h1, h2, h3⟩ => hf t fun e => hid (by rw [← dst_inj hnd h2 hi h3 e]; exact h1), fun t ht => hf t fun e => ?_, fun t l c e q hq => hs.rr.chain t l c e q hq⟩
    have := war_get e hwar i o hi ht
    rw [Nat.zero_add] at this
    exact hid (rows_ahead this (· ∈ done) hs.dclos fun o' ho' => by rw [get_same hi ho']; exact hw)
  cases hval : isVal C.tb o with
  | true =>
    simp only [hval, cond_true] at hv
    obtain ⟨l, hk, hrun, hprov, hsh⟩ := valW_more ok hv
    have hnp : ∀ k, ¬ privA C.priv o k := not_priv (val_not_priv hval)
    have hrd : isRead C.tb o = true ∨ kindD C.tb o ch s = .pure := by
      unfold kindOk at hkd
      rw [hval, hch] at hkd
      cases hr : isRead C.tb o with
      | true => exact .inl rfl
      | false =>
        rw [hr] at hkd
        simp only [cond_true, cond_false] at hkd
        cases hk' : kindD C.tb o ch s with
        | pure => exact .inr rfl
        | box => rw [hk'] at hkd; cases hkd
        | mem => rw [hk'] at hkd; cases hkd
    have hf : ∀ t, o.dst ≠ some t → (s.put o.dst l ch).f t = s.f t := fun t ht => put_f s _ _ _ t ht
    have k := hself hf
    refine ⟨_, hk, sim_frame hs hi hid hw ?_ (fun j p h1 h2 h3 => ?_) ?_⟩
    · have hb : holds s ch → ∀ k o', (l = .box k o' ∨ l = .boxd k o') → ¬ NnP C L done k := fun hh b off e hN => by
        obtain ⟨x, hx, off', hev⟩ := hprov b off e
        rcases hev with hev | hev
        · obtain ⟨t, c, rfl, hfb, hc⟩ := ev_tmp hev (by simp) hh
          exact (hs.rr.nref b hN t _ c hfb hc off').1 rfl
        · obtain ⟨t, c, rfl, hfb, hc⟩ := ev_tmp hev (by simp) hh
          exact (hs.rr.nref b hN t _ c hfb hc off').2 rfl
      have hliv : ∀ k, LivP C L (i :: done) ls k ↔ LivP C L done ls k := fun k => by rw [livP_lift hnd hs hi hid k]; exact ⟨fun e => e.2, fun e => ⟨hnp k, e⟩⟩
      have hnn : ∀ k, NnP C L (i :: done) k → NnP C L done k := fun k e => ((nnP_lift hnd hi hid k).1 e).2
      cases hdst : o.dst with
      | none => exact hs.rr.congr (fun t => by rw [curP_lift hs hi hid t, hdst]; simp) hliv dnP_mono hnn
      | some d =>
        refine (hs.rr.lift (l := l) (ch := ch) (hdn d hdst) (hdD d hdst) hD hb).congr (fun t => ?_) hliv dnP_mono hnn
        rw [curP_lift hs hi hid t, hdst]
        exact ⟨fun e => ⟨fun e' => e.1 (by rw [e']), e.2⟩, fun e => ⟨fun e' => e.1 (by cases e'; rfl), e.2⟩⟩
    · rcases List.mem_cons.1 h1 with rfl | h1
      · rw [get_same hi h3]
        refine ⟨⟨ch, hch, by rw [guardOk_like k hD]; exact hg, .inl ⟨hval, by rw [k.kind]; exact hrd, l, fun d e => by rw [e]; exact put_same _ _ _ _, fun hh => ?_, k.prov hprov, fun hkd => hsh (by rw [← k.kind (s' := s.put o.dst l ch)]; exact hkd)⟩⟩, hlk, hwar, fun d hp => absurd hp (hnp d)⟩
        rw [k.kind]
        exact runsK_like k (fun _ t _ b off c _ _ => by rw [put_m]) (fun _ => rfl) (hrun ((k.holds' hD).1 hh))
      · exact facts_lift hnd hs hi hid hwar hf (fun k => .inl (by rw [put_m])) h1 h2 h3
    · refine hs.seg.mono (fun _ e => e) (fun _ e => e) (fun _ e => e) (fun k e => ⟨?_, ((livP_lift hnd hs hi hid k).1 e.2).2⟩)
      have := e.1
      rwa [put_m] at this
  | false =>
    simp only [hval, cond_false] at hv
    have hpa : isPrivAlloc C.priv o = true := hvp.resolve_left (by rw [hval]; simp)
    have doNew : ∀ (d : Nat) (cs : List Value), K ((s.put (some d) (.box d 0) []).putM d cs) h → privA C.priv o d → ch = [] → has mok d = true →
        (∀ (β : Nat → Nat) (ρ : Operand → Value) (w : World), (∀ x ∈ o.op.operands, Opnd β s ρ x) →
          ∃ t, (execOp ρ o).run C.P w = .ok (.value (.pointer (some ⟨w.heap.size, 0, none⟩))) { w with heap := w.heap.push (.cells cs.toArray t (0, 0)) }) →
        ∃ s', K s' h ∧ Sim C L mok n lv0 β0 a0 h0 w0 (i :: done) ls listed β s' a h w := by
      intro d cs hk hp he hmd hrun
      subst he
      have hiff : ∀ k, privA C.priv o k ↔ k = d := fun k => ⟨fun e => by have := e.2; rw [hp.2] at this; cases this; rfl, fun e => e ▸ hp⟩
      have hf : ∀ t, o.dst ≠ some t → ((s.put (some d) (.box d 0) []).putM d cs).f t = s.f t := fun t ht => put_ne s _ _ fun e => ht (by rw [hp.2, e])
      have hm : ∀ k, k ≠ d → ((s.put (some d) (.box d 0) []).putM d cs).m k = s.m k := fun k hk => putM_ne _ _ hk
      have k := hself hf
      have hN : NnP C L done d := ⟨i, o, hid, hi, hp⟩
      refine ⟨_, hk, sim_frame hs hi hid hw ?_ (fun j p h1 h2 h3 => ?_) ?_⟩
      · refine (hs.rr.liftA cs (hdn d hp.2) (hdD d hp.2) hN).congr (fun t => ?_) (fun k => ?_) dnP_mono (fun k e => ?_)
        · rw [curP_lift hs hi hid t, hp.2]
          exact ⟨fun e => ⟨fun e' => e.1 (by rw [e']), e.2⟩, fun e => ⟨fun e' => e.1 (by cases e'; rfl), e.2⟩⟩
        · rw [livP_lift hnd hs hi hid k, hiff]
        · have := (nnP_lift hnd hi hid k).1 e
          rw [hiff] at this
          exact this
      · rcases List.mem_cons.1 h1 with rfl | h1
        · rw [get_same hi h3]
          refine ⟨⟨[], hch, rfl, .inr ⟨rfl, hval, d, cs, hp, put_same _ _ _ _, putM_same _ _ _, alloc_like k hrun⟩⟩, hlk, hwar, fun d' hp' => ?_⟩
          rw [(hiff d').1 hp']
          exact (has_iff _ _).1 hmd
        · exact facts_lift hnd hs hi hid hwar hf (fun k => by
            by_cases ek : k = d
            · exact .inr ((hiff k).2 ek)
            · exact .inl (hm k ek)) h1 h2 h3
      · refine hs.seg.mono (fun _ e => e) (fun _ e => e) (fun _ e => e) (fun k e => ?_)
        have hl := (livP_lift hnd hs hi hid k).1 e.2
        rw [hiff] at hl
        refine ⟨?_, hl.2⟩
        have := e.1
        rwa [hm k hl.1] at this
    split at hv
    · rename_i d hdst
      have hd0 : o.dst = some d ∧ has C.priv d = true := by
        unfold dstIn at hdst
        split at hdst
        · rename_i d' e
          cases h1 : has C.priv d' with
          | true => simp [h1] at hdst; subst hdst; exact ⟨e, h1⟩
          | false => simp [h1] at hdst
        · cases hdst
      cases hmd : has mok d with
      | false => simp [hmd] at hv
      | true =>
        simp only [hmd, cond_true] at hv
        split at hv
        · rename_i t hop
          split at hv
          · rename_i e he
            refine doNew d (cellsL e.zero) hv ⟨hpa, hd0.1⟩ rfl hmd fun β ρ w _ => ⟨t, ?_⟩
            have e2 : (cellsL e.zero).toArray = e.zero.cells := by apply Array.ext'; simp [cells_list]
            rw [e2]
            simp [execOp, hop, Instr.alloc, run_zeroValue' ok he, newVar, run_newRow]
          · exact hv.elim
        · rename_i t x hop
          obtain ⟨v, hev, hv'⟩ := onV_some hv
          refine doNew d (cellsL v) hv' ⟨hpa, hd0.1⟩ rfl hmd fun β ρ w ho => ⟨t, ?_⟩
          have hx := ev_ok (ho x (by simp [hop, Op.operands])) (holds_nil s) hev
          have e2 : (cellsL v).toArray = v.cells := by apply Array.ext'; simp [cells_list]
          rw [e2]
          simp [execOp, hop, hx, LVal, Instr.box, newVar, run_newRow]
        · exact hv.elim
    · exact hv.elim
    · rename_i hdst
      exfalso
      unfold dstIn at hdst
      unfold isPrivAlloc at hpa
      split at hdst
      · rename_i d' e
        cases h1 : has C.priv d' with
        | true => simp [h1] at hdst
        | false => rw [e] at hpa; cases hop : o.op <;> simp [hop, h1] at hpa
      · rename_i e
        rw [e] at hpa; cases hop : o.op <;> simp [hop] at hpa

end
end Lf

/-
  The lifting layer, part 22: regions whose order is drawn.
-/
namespace Lf
open Go

theorem condP {b : Bool} {p : Prop} (h : cond b p False) : b = true ∧ p := by
  cases b
  · exact h.elim
  · exact ⟨rfl, h⟩

theorem again_mem {C : Ctx} {m : Bool} {L : List Oper} {s : St} {h : Hp} : ∀ {ws : List Nat}, AgainAll C m L s h ws → ∀ {j : Nat} {p : Oper} {ch : Chain}, j ∈ ws → L[j]? = some p → chainOf L L.length p = some ch → Again C m p ch s h
  | [], _, _, _, _, hj, _, _ => by cases hj
  | r :: ws, ha, j, p, ch, hj, hp, hc => by
    obtain ⟨h1, h2⟩ := ha
    rcases List.mem_cons.1 hj with rfl | hj
    · rw [nth_get, hp] at h1
      simp only [hc] at h1
      exact h1
    · exact again_mem h2 hj hp hc

theorem again_dst {C : Ctx} {m : Bool} {p : Oper} {ch : Chain} {s : St} {h : Hp} (ha : Again C m p ch s h) : ∃ d, p.dst = some d := by
  cases hd : p.dst with
  | some d => exact ⟨d, rfl⟩
  | none =>
    unfold Again at ha
    rw [hd] at ha
    split at ha
    · rename_i e; cases e
    · rename_i e; cases e
    · rename_i e; cases e
    · exact ha.elim

section
variable {C : Ctx} {L : List Oper} {mok : List Nat} {n : Nat} {lv0 : Nat → Prop} {β0 : Nat → Nat} {a0 : Act} {h0 : Hp} {w0 : World} {done ls : List Nat} {listed : Array Bool} {β : Nat → Nat} {s : St} {a : Act} {h : Hp} {w : World}

theorem curP_new (hnd : (modsO L).Nodup) {i : Nat} {o : Oper} (hi : L[i]? = some o) (hid : i ∉ done) (t : Nat) : CurP L (i :: done) (i :: ls) t ↔ (o.dst = some t ∨ CurP L done ls t) := by
  constructor
  · intro hc
    by_cases ht : o.dst = some t
    · exact .inl ht
    · exact .inr fun j p h1 h2 h3 => hc j p (List.mem_cons_of_mem _ h1) (fun e => by
        rcases List.mem_cons.1 e with e | e
        · exact hid (e ▸ h1)
        · exact h2 e) h3
  · rintro (ht | hc) j p h1 h2 h3
    · intro e
      exact h2 (by rw [dst_inj hnd h3 hi e ht]; exact List.mem_cons_self ..)
    · rcases List.mem_cons.1 h1 with e | h1
      · exact absurd (e ▸ List.mem_cons_self ..) h2
      · exact hc j p h1 (fun e => h2 (List.mem_cons_of_mem _ e)) h3

theorem livP_new (hnd : (modsO L).Nodup) {i : Nat} {o : Oper} (hi : L[i]? = some o) (hid : i ∉ done) (k : Nat) : LivP C L (i :: done) (i :: ls) k ↔ (privA C.priv o k ∨ LivP C L done ls k) := by
  constructor
  · rintro ⟨h1, h2⟩
    by_cases hp : privA C.priv o k
    · exact .inl hp
    · exact .inr ⟨fun j p e1 e2 e3 => h1 j p (List.mem_cons_of_mem _ e1) (fun e => by
        rcases List.mem_cons.1 e with e | e
        · exact hid (e ▸ e1)
        · exact e2 e) e3, fun e => h2 ((nnP_lift hnd hi hid k).2 ⟨hp, e⟩)⟩
  · rintro (hp | ⟨h1, h2⟩)
    · exact ⟨fun j p e1 e2 e3 e4 => e2 (by rw [dst_inj hnd e3 hi e4.2 hp.2]; exact List.mem_cons_self ..), fun e => ((nnP_lift hnd hi hid k).1 e).1 hp⟩
    · refine ⟨fun j p e1 e2 e3 => ?_, fun e => h2 ((nnP_lift hnd hi hid k).1 e).2⟩
      rcases List.mem_cons.1 e1 with e | e1
      · exact absurd (e ▸ List.mem_cons_self ..) e2
      · exact h1 j p e1 (fun e => e2 (List.mem_cons_of_mem _ e)) e3

/-- A pending fact, behind an operation that was carried out. -/
theorem facts_exec (ok : C.tb.Ok C.P) (hnd : (modsO L).Nodup) (hs : Sim C L mok n lv0 β0 a0 h0 w0 done ls listed β s a h w) {i : Nat} {o : Oper} (hi : L[i]? = some o) (hid : i ∉ done) (hah : ∀ j ∈ aheadOf (aheads L []) i, j ∈ ls)
    {ws : List Nat} (hwatch : (isVal C.tb o = true ∨ isPrivAlloc C.priv o = true) ∨ ∀ j p, j ∈ done → L[j]? = some p → isVal C.tb p = true → isRead C.tb p = true → j ∈ ws ∨ j ∈ aheadOf (aheads L []) i)
    {l : List Nat} {β' : Nat → Nat} {s' : St} {a' : Act} {h' : Hp} {w' : World} (out : OpOut C l mok n (CurP L done ls) (LivP C L done ls) (DnP L done) (NnP C L done) o β s a h w β' s' a' h' w')
    (hag : AgainAll C (isStore o) L s' h' ws) {j : Nat} {p : Oper} (hjd : j ∈ done) (hjl : j ∉ ls) (hj : L[j]? = some p) :
    PFact C L p s' h' ∧ looksOk L (aheads L []) j p = true ∧ isWar (aheads L []) j p L 0 = false ∧ ∀ d, privA C.priv p d → d ∈ mok := by
  obtain ⟨⟨ch, hch, hg, hpf⟩, hlk, hrest⟩ := hs.facts j p hjd hjl hj
  refine ⟨?_, hlk, hrest⟩
  have k : Like (DnP L done) p s s' := like_new hnd hs hi hid out.f hj hjd fun t ht e => by
    rcases looks_slot hlk ht hi e with h1 | h1 | h1
    · exact hid (closD hs hj hjd h1)
    · exact hid (h1 ▸ hjd)
    · exact hjl (hah j h1)
  have hD := chainsD hs hj (hs.dclos j p hj hjd) hlk hch hg
  have hdD : ∀ d, p.dst = some d → DnP L done d := fun d e => ⟨j, p, hjd, hj, e⟩
  have hmr : ∀ t, Operand.tmp t ∈ p.op.operands → ∀ b off c, (s.f t = some (.box b off, c) ∨ s.f t = some (.boxd b off, c)) → holds s c → s'.m b = s.m b ∨ (isStore o = true ∧ isVal C.tb o = false) := by
    intro t ht b off c hfb hh
    rcases out.m b with e | e | e
    · exact .inl e
    · exfalso
      have hN : NnP C L done b := ⟨i, o, hid, hi, e⟩
      rcases hfb with hfb | hfb
      · exact (hs.rr.nref b hN t _ c hfb hh off).1 rfl
      · exact (hs.rr.nref b hN t _ c hfb hh off).2 rfl
    · exact .inr ⟨e.1, e.2.1⟩
  refine ⟨ch, hch, by rw [guardOk_like k hD]; exact hg, ?_⟩
  rcases hpf with ⟨hval, hrd, lv, hl, hrun, hprov, hsh⟩ | ⟨rfl, hval, d, cs, hpa, hfd, hmd', hrun⟩
  · have hsh' : LdSh C.tb p ch s' lv := fun hkd => hsh (by rw [← k.kind (s' := s')]; exact hkd)
    refine .inl ⟨hval, by rw [k.kind]; exact hrd, lv, fun d e => by rw [k.dn d (hdD d e)]; exact hl d e, fun hh' => ?_, k.prov hprov, hsh'⟩
    have hh := (k.holds' hD).1 hh'
    have hr := hrun hh
    have hkk : kindD C.tb p ch s' = kindD C.tb p ch s := k.kind
    rw [hkk]
    by_cases hpure : kindD C.tb p ch s = .pure
    · rw [hpure] at hr ⊢
      exact runsK_like k (fun e => absurd rfl e) (fun e => by cases e) hr
    · have hread := hrd.resolve_right hpure
      rcases hwatch with hvp | hwatch
      · have hns : ¬ (isStore o = true ∧ isVal C.tb o = false) := by
          rintro ⟨e1, e2⟩
          rcases hvp with e | e
          · rw [e] at e2; cases e2
          · unfold isStore at e1
            unfold isPrivAlloc at e
            cases hop : o.op <;> rw [hop] at e1 e <;> first | (cases e1; done) | (cases hd : o.dst <;> simp at e)
        have hhh : h' = h := by
          rcases hvp with e | e
          · exact out.hv e
          · exact out.hp e
        exact runsK_like k (fun _ t ht b off c hfb hc => (hmr t ht b off c hfb hc).resolve_right hns) (fun _ => hhh) hr
      · have hws : j ∈ ws := (hwatch j p hjd hj hval hread).resolve_right fun e => hjl (hah j e)
        have ha := again_mem hag hws hj hch
        obtain ⟨d, hd⟩ := again_dst ha
        rcases again_sound rfl ok ha hd ⟨ch, by rw [k.dn d (hdD d hd)]; exact hl d hd⟩ hh' hsh' with h1 | ⟨h1, h2⟩ | ⟨h1, h2⟩
        · rw [hkk] at h1
          exact absurd h1 hpure
        · rw [hkk] at h1
          rw [h1] at hr ⊢
          exact runsK_like k (fun _ t ht b off c hfb hc => (hmr t ht b off c hfb hc).resolve_right fun e => by rw [h2] at e; cases e.1) (fun e => by cases e) hr
        · rw [hkk] at h1
          rw [h1]
          exact h2
  · refine .inr ⟨rfl, hval, d, cs, hpa, by rw [k.dn d (hdD d hpa.2)]; exact hfd, ?_, alloc_like k hrun⟩
    rcases out.m d with e | e | e
    · rw [e]; exact hmd'
    · exact absurd hjd (by rw [dst_inj hnd hj hi hpa.2 e.2]; exact hid)
    · exact absurd hpa (e.2.2.2.1 j p hjd hjl hj)

/-- The next operation of the plan is carried out. -/
theorem sim_exec (ok : C.tb.Ok C.P) {ops : Array Oper} (hops : ops.toList = L) (hnd : (modsO L).Nodup) (hlt : ∀ d ∈ modsO L, d < n) (hs : Sim C L mok n lv0 β0 a0 h0 w0 done ls listed β s a h w) {i : Nat} {o : Oper} (hi : L[i]? = some o) (hid : i ∉ done)
    (hw : ∀ k ∈ waits o, k ∈ ls) (hlk : looksOk L (aheads L []) i o = true) {ws : List Nat}
    (hwatch : (isVal C.tb o = true ∨ isPrivAlloc C.priv o = true) ∨ ∀ j p, j ∈ done → L[j]? = some p → isVal C.tb p = true → isRead C.tb p = true → j ∈ ws ∨ j ∈ aheadOf (aheads L []) i)
    {K : St → Hp → Prop} (hK : ∀ s h, K s h → AgainAll C (isStore o) L s h ws) (hv : opW C L mok o s h K) (next : Act → World → Prop) (Q : Exit → Act → World → Prop)
    (hn : ∀ s' h' β' a' w', K s' h' → Sim C L mok n lv0 β0 a0 h0 w0 (i :: done) (i :: ls) (listed.setIfInBounds i true) β' s' a' h' w' → next a' w') : wpOp C.P ops Q i next a w := by
  have hah : ∀ j ∈ aheadOf (aheads L []) i, j ∈ ls := fun j hj => rows_ahead hj (· ∈ ls) hs.clos (fun o' ho' => by rw [get_same hi ho']; exact hw)
  have hilt : i < L.length := (List.getElem?_eq_some_iff.1 hi).1
  have hmem := List.mem_of_getElem? hi
  refine op_exec (l := modsO L) ok (by rw [← hops] at hi; simpa using hi) (by rw [hops]; exact hv) hs.rr (fun t ht j p h1 h2 h3 h4 => ?_) (fun j b p d e1 e2 e3 => ?_) (fun d e => ⟨hlt d (modsO_mem hmem e), ?_, modsO_mem hmem e⟩) (fun d hp => ?_) next Q fun s' h' β' a' w' hk out => ?_
  · have := war_get h4 (hs.facts j p h1 h2 h3).2.2.1 i o hi ht
    rw [Nat.zero_add] at this
    exact h2 (hah j this)
  · rw [hops, nth_get] at e2
    have hjl := hah _ (looks_guard hlk e1)
    refine ⟨fun j' p' h1 h2 h3 h4 => ?_, j, p, hs.lsub j hjl, e2, e3⟩
    have := dst_inj hnd h3 e2 h4 e3
    subst this
    exact h2 hjl
  · rintro ⟨j, p, h1, h2, h3⟩
    exact hid (by rw [← dst_inj hnd h2 hi h3 e]; exact h1)
  · have hN : NnP C L done d := ⟨i, o, hid, hi, hp⟩
    exact ⟨hN, fun e => e.2 hN⟩
  · refine hn s' h' β' a' w' hk ⟨by simpa using hs.lsz, fun j => set_listed hs.lsz hilt hs.lst, List.nodup_cons.2 ⟨fun e => hid (hs.lsub i e), hs.lnd⟩, fun j hj => ?_, fun j hj => ?_, ?_, ?_,
      ⟨fun o' ho' => by rw [get_same hi ho']; exact fun k hk => hs.lsub k (hw k hk), hs.topo⟩, out.rr.congr (fun t => curP_new hnd hi hid t) (fun k => livP_new hnd hi hid k) dnP_mono (fun k e => (nnP_lift hnd hi hid k).1 e), fun j p h1 h2 h3 => ?_,
      hs.seg.trans (out.seg.mono (fun _ e => e) (fun _ e => e) (fun _ e => e) (fun k e => ⟨e.1, (livP_new hnd hi hid k).1 e.2⟩))⟩
    · rcases List.mem_cons.1 hj with rfl | hj
      · exact List.mem_cons_self ..
      · exact List.mem_cons_of_mem _ (hs.lsub j hj)
    · rcases List.mem_cons.1 hj with rfl | hj
      · exact hilt
      · exact hs.dlt j hj
    · intro j p hj hjm k hk'
      rcases List.mem_cons.1 hjm with rfl | hjm
      · rw [get_same hi hj] at hk'
        exact List.mem_cons_of_mem _ (hw k hk')
      · exact List.mem_cons_of_mem _ (hs.clos j p hj hjm k hk')
    · intro j p hj hjm k hk'
      rcases List.mem_cons.1 hjm with rfl | hjm
      · rw [get_same hi hj] at hk'
        exact List.mem_cons_of_mem _ (hs.lsub k (hw k hk'))
      · exact List.mem_cons_of_mem _ (hs.dclos j p hj hjm k hk')
    · have hne : j ≠ i := fun e => h2 (e ▸ List.mem_cons_self ..)
      exact facts_exec ok hnd hs hi hid hah hwatch out (hK _ _ hk) ((List.mem_cons.1 h1).resolve_left hne) (fun e => h2 (List.mem_cons_of_mem _ e)) h3

theorem ready_iff {ops : Array Oper} (hops : ops.toList = L) (hs : Sim C L mok n lv0 β0 a0 h0 w0 done ls listed β s a h w) {j : Nat} :
    j ∈ Region.ready .any ops listed ↔ j ∉ ls ∧ ∃ o, L[j]? = some o ∧ ∀ k ∈ waits o, k ∈ ls := by
  rw [mem_ready]
  have hget : ∀ j : Nat, ops[j]? = L[j]? := fun j => by rw [← hops, Array.getElem?_toList]
  constructor
  · rintro ⟨h1, o, ho, h2⟩
    rw [hget] at ho
    refine ⟨fun e => ?_, o, ho, fun k hk => ?_⟩
    · have hlt : j < listed.size := by rw [hs.lsz]; exact (List.getElem?_eq_some_iff.1 ho).1
      have := (hs.lst j).2 e
      have h3 : listed.getD j true = listed.getD j false := by simp only [Array.getD, hlt, dif_pos]
      rw [h3, this] at h1
      cases h1
    · obtain ⟨e, he, rfl, hb⟩ := mem_waits hk
      exact (hs.lst _).1 (h2 e he hb)
  · rintro ⟨h1, o, ho, h2⟩
    refine ⟨?_, o, by rw [hget]; exact ho, fun e he hb => (hs.lst _).2 (h2 _ (waits_mem he hb))⟩
    have hlt : j < listed.size := by rw [hs.lsz]; exact (List.getElem?_eq_some_iff.1 ho).1
    cases e : listed.getD j true with
    | false => rfl
    | true =>
      refine absurd ((hs.lst j).1 ?_) h1
      simpa [hlt] using e

theorem ord_sim (ok : C.tb.Ok C.P) {ops : Array Oper} (hops : ops.toList = L) (hnd : (modsO L).Nodup) (hlt : ∀ d ∈ modsO L, d < n) {K0 : St → Hp → Prop} {Q : Exit → Act → World → Prop}
    (hQ : ∀ s' h' β' a' w', K0 s' h' → RR n (fun _ => True) (fun _ => True) (fun _ => True) (fun _ => False) β' s' a' h' w' → Seg (modsO L) mok lv0 β0 a0 h0 w0 (lives s') β' a' h' w' → Q .normal a' w') :
    ∀ (fuel : Nat) (r : List (Nat × List Nat)) (done ls : List Nat) (listed : Array Bool) (last : Option Nat) (β : Nat → Nat) (s : St) (a : Act) (h : Hp) (w : World),
      Sim C L mok n lv0 β0 a0 h0 w0 done ls listed β s a h w → planGo C.tb C.priv L (aheads L []) r done last = true → (∀ j, j < L.length → j ∈ done ∨ j ∈ r.map (·.1)) → ordW C L mok r s h K0 →
      L.length ≤ fuel + ls.length → wpAny C.P .any ops Q fuel listed a w := by
  have finish : ∀ (done ls : List Nat) (listed : Array Bool) (β : Nat → Nat) (s : St) (a : Act) (h : Hp) (w : World), Sim C L mok n lv0 β0 a0 h0 w0 done ls listed β s a h w → (∀ j, j < L.length → j ∈ done) → (∀ j ∈ done, j ∈ ls) →
      K0 s h → Q .normal a w := by
    intro done ls listed β s a h w hs hall hdl hk
    have hN : ∀ k, ¬ NnP C L done k := fun k ⟨j, p, h1, h2, _⟩ => h1 (hall j (List.getElem?_eq_some_iff.1 h2).1)
    have hL : ∀ k, True ↔ LivP C L done ls k := fun k => ⟨fun _ => ⟨fun j p h1 h2 _ => absurd (hdl j h1) h2, hN k⟩, fun _ => trivial⟩
    exact hQ s h β a w hk (hs.rr.congr (fun t => ⟨fun _ j p h1 h2 _ => absurd (hdl j h1) h2, fun _ => trivial⟩) hL (fun _ _ => trivial) (fun _ e => e.elim)) (hs.seg.mono (fun _ e => e) (fun _ e => e) (fun _ e => e) (fun k e => ⟨e.1, (hL k).1 trivial⟩))
  intro fuel
  induction fuel with
  | zero =>
    intro r done ls listed last β s a h w hs hp hcov hv hf
    have hall : ∀ j, j < L.length → j ∈ ls := fun j hj => pigeon hs.lnd (fun x hx => hs.dlt x (hs.lsub x hx)) (by omega) hj
    have hrdy : Region.ready .any ops listed = [] := by
      cases hr : Region.ready .any ops listed with
      | nil => rfl
      | cons j js =>
        have : j ∈ Region.ready .any ops listed := by rw [hr]; exact List.mem_cons_self ..
        obtain ⟨h1, o, ho, _⟩ := (ready_iff hops hs).1 this
        exact absurd (hall j (List.getElem?_eq_some_iff.1 ho).1) h1
    refine ⟨hrdy, ?_⟩
    cases r with
    | nil => exact finish done ls listed β s a h w hs (fun j hj => hs.lsub j (hall j hj)) (fun j hj => hall j (hs.dlt j hj)) hv
    | cons x r =>
      obtain ⟨i, ws⟩ := x
      obtain ⟨o, ho, _, _, hid, _⟩ := planGo_cons hp
      exact absurd (hs.lsub i (hall i (List.getElem?_eq_some_iff.1 ho).1)) hid
  | succ fuel ih =>
    intro r
    induction r with
    | nil =>
      intro done ls listed last β s a h w hs hp hcov hv hf
      have hall : ∀ j, j < L.length → j ∈ done := fun j hj => (hcov j hj).resolve_right (by simp)
      refine ⟨fun hr => finish done ls listed β s a h w hs hall (fun j hj => Classical.byContradiction fun e => ?_) hv, fun j hj => ?_⟩
      · obtain ⟨i, h1, h2, h3⟩ := topo_first hs.topo ⟨j, hj, e⟩
        have hi := List.getElem?_eq_getElem (hs.dlt i h1)
        have : i ∈ Region.ready .any ops listed := (ready_iff hops hs).2 ⟨h2, _, hi, h3 _ hi⟩
        rw [hr] at this
        cases this
      · obtain ⟨h1, o, ho, h2⟩ := (ready_iff hops hs).1 hj
        exact pend_exec ok hops hnd hs ho (hall j (List.getElem?_eq_some_iff.1 ho).1) h1 h2 _ Q fun β' a' w' hs' => ih [] done (j :: ls) _ last β' s a' h w' hs' hp hcov hv (by simp; omega)
    | cons x r ihr =>
      intro done ls listed last β s a h w hs hp hcov hv hf
      obtain ⟨i, ws⟩ := x
      obtain ⟨o, ho, hw, hlk, hid, hlast, hc⟩ := planGo_cons hp
      have hcov' : ∀ j, j < L.length → j ∈ i :: done ∨ j ∈ r.map (·.1) := fun j hj => by
        rcases hcov j hj with e | e
        · exact .inl (List.mem_cons_of_mem _ e)
        · rcases List.mem_cons.1 e with e | e
          · exact .inl (e ▸ List.mem_cons_self ..)
          · exact .inr e
      simp only [ordW, nth_get, ho] at hv
      obtain ⟨hkd, hv'⟩ := condP hv
      have rest : planGo C.tb C.priv L (aheads L []) r (i :: done) (some i) = true →
          ((isVal C.tb o = true ∨ isPrivAlloc C.priv o = true) ∨ ∀ j p, j ∈ done → L[j]? = some p → isVal C.tb p = true → isRead C.tb p = true → j ∈ ws ∨ j ∈ aheadOf (aheads L []) i) → wpAny C.P .any ops Q (fuel + 1) listed a w := by
        intro hp' hwatch
        have hAll : ∀ s h, (match (generalizing := false) ws with
          | [] => ordW C L mok r s h K0
          | ws => AgainAll C (isStore o) L s h ws ∧ ordW C L mok r s h K0) → AgainAll C (isStore o) L s h ws ∧ ordW C L mok r s h K0 := by
          intro s h e
          cases ws with
          | nil => exact ⟨trivial, e⟩
          | cons x ws => exact e
        refine ⟨fun hr => ?_, fun j hj => ?_⟩
        · exfalso
          by_cases hx : ∃ j ∈ done, j ∉ ls
          · obtain ⟨j, h1, h2, h3⟩ := topo_first hs.topo hx
            have hi := List.getElem?_eq_getElem (hs.dlt j h1)
            have : j ∈ Region.ready .any ops listed := (ready_iff hops hs).2 ⟨h2, _, hi, h3 _ hi⟩
            rw [hr] at this
            cases this
          · have : i ∈ Region.ready .any ops listed := (ready_iff hops hs).2 ⟨fun e => hid (hs.lsub i e), o, ho, fun k hk => Classical.byContradiction fun e => hx ⟨k, hw k hk, e⟩⟩
            rw [hr] at this
            cases this
        · obtain ⟨h1, p, hp2, h2⟩ := (ready_iff hops hs).1 hj
          by_cases hjd : j ∈ done
          · exact pend_exec ok hops hnd hs hp2 hjd h1 h2 _ Q fun β' a' w' hs' => ih ((i, ws) :: r) done (j :: ls) _ last β' s a' h w' hs' hp hcov (by
              simp only [ordW, nth_get, ho]
              rw [hkd]
              exact hv') (by simp; omega)
          · by_cases hji : j = i
            · subst hji
              rw [ho] at hp2; cases hp2
              exact sim_exec ok hops hnd hlt hs ho hid h2 hlk hwatch (fun s h e => (hAll s h e).1) hv' _ Q fun s' h' β' a' w' hk hs' => ih r (j :: done) (j :: ls) _ (some j) β' s' a' h' w' hs' hp' hcov' (hAll _ _ hk).2 (by simp; omega)
            · exfalso
              have hjr : j ∈ r.map (·.1) := ((hcov' j (List.getElem?_eq_some_iff.1 hp2).1).resolve_left fun e => by
                rcases List.mem_cons.1 e with e | e
                · exact hji e
                · exact hjd e)
              have := plan_later hp' j hjr (· ∈ ls) hs.clos fun o' ho' => by rw [get_same hp2 ho']; exact h2
              exact hid (hs.lsub i this)
      rcases hc with ⟨hvp, hwar, hp'⟩ | ⟨hvp, _, hp'⟩ | ⟨_, _, hwt, hp'⟩
      · obtain ⟨s', hk, hs'⟩ := sim_lift ok hnd hlt hs ho hid hw hlk hwar hvp hkd hv'
        refine ihr (i :: done) ls listed last β s' a h w hs' hp' hcov' ?_ hf
        cases ws with
        | nil => exact hk
        | cons x ws => exact hk.2
      · exact rest hp' (.inl hvp)
      · exact rest hp' (.inr fun j p hjd hj hv1 hr1 => watched_get hwt j hjd p hj hv1 hr1)

theorem plan_idx {tb : Tb} {priv : List Nat} {rows : List (List Nat)} : ∀ {r : List (Nat × List Nat)} {done : List Nat} {last : Option Nat}, planGo tb priv L rows r done last = true →
    (r.map (·.1)).Nodup ∧ ∀ j ∈ r.map (·.1), j ∉ done ∧ j < L.length
  | [], _, _, _ => ⟨.nil, fun j hj => (nomatch hj)⟩
  | (i, ws) :: r, done, last, h => by
    obtain ⟨o, ho, _, _, hid, _, hc⟩ := planGo_cons h
    have main : ∀ last', planGo tb priv L rows r (i :: done) last' = true → _ := fun last' h' => plan_idx h'
    have : (r.map (·.1)).Nodup ∧ ∀ j ∈ r.map (·.1), j ∉ i :: done ∧ j < L.length := by
      rcases hc with ⟨_, _, h'⟩ | ⟨_, _, h'⟩ | ⟨_, _, _, h'⟩
      · exact main _ h'
      · exact main _ h'
      · exact main _ h'
    refine ⟨List.nodup_cons.2 ⟨fun e => (this.2 i e).1 (List.mem_cons_self ..), this.1⟩, fun j hj => ?_⟩
    rcases List.mem_cons.1 hj with rfl | hj
    · exact ⟨hid, (List.getElem?_eq_some_iff.1 ho).1⟩
    · exact ⟨fun e => (this.2 j hj).1 (List.mem_cons_of_mem _ e), (this.2 j hj).2⟩

theorem allocs_iff {priv : List Nat} {k : Nat} : ∀ {L : List Oper}, k ∈ allocsOf priv L ↔ ∃ (i : Nat) (o : Oper), L[i]? = some o ∧ privA priv o k
  | [] => by simp [allocsOf]
  | o :: L => by
    have ih := allocs_iff (priv := priv) (k := k) (L := L)
    have key : (∃ (i : Nat) (p : Oper), (o :: L)[i]? = some p ∧ privA priv p k) ↔ (privA priv o k ∨ ∃ (i : Nat) (p : Oper), L[i]? = some p ∧ privA priv p k) := by
      constructor
      · rintro ⟨i, p, h1, h2⟩
        cases i with
        | zero => simp at h1; subst h1; exact .inl h2
        | succ i => exact .inr ⟨i, p, by simpa using h1, h2⟩
      · rintro (h | ⟨i, p, h1, h2⟩)
        · exact ⟨0, o, by simp, h⟩
        · exact ⟨i + 1, p, by simpa using h1, h2⟩
    rw [key, ← ih]
    by_cases hp : ∃ d, privA priv o d
    · obtain ⟨d, hp⟩ := hp
      rw [privA_allocs hp, List.mem_cons]
      refine or_congr ⟨fun e => e ▸ hp, fun e => ?_⟩ .rfl
      have := e.2
      rw [hp.2] at this; cases this; rfl
    · rw [notA_allocs fun d e => hp ⟨d, e⟩]
      exact ⟨.inr, fun e => e.resolve_left fun e => hp ⟨k, e⟩⟩

end

/-- A region whose order is drawn. -/
theorem any_sound {C : Ctx} (ok : C.tb.Ok C.P) {ops : Array Oper} {mok : List Nat} {n : Nat} {ord : List (Nat × List Nat)} {β : Nat → Nat} {s : St} {a : Act} {h : Hp} {w : World} {K : St → Hp → Prop} {Q : Exit → Act → World → Prop} {id : Nat}
    (hp : planOk C.tb C.priv ops.toList ord = true) (hlt : ∀ d ∈ modsO ops.toList, d < n) (hr : Rel n β s a h w) (hv : ordW C ops.toList mok ord (s.dropB (allocsOf C.priv ops.toList)) h K)
    (hQ : ∀ s' h' β' a' w', K s' h' → Rel n β' s'.clean a' h' w' → Seg (modsO ops.toList) mok (lives s) β a h w (lives s') β' a' h' w' → Q .normal a' w') : (Code.region id ops true).wp C.P Q a w := by
  unfold planOk at hp
  obtain ⟨h1, hp⟩ := condT hp
  obtain ⟨h2, hp⟩ := condT hp
  have hnd := nodup_iff h1
  refine wp_region_any ok.mixed ?_
  have hst : Step h h w { w with drawn := w.drawn + 1 } := ⟨hr.sub, Nat.le_refl _, fun _ _ e => ⟨rfl, e⟩, rfl, rfl, rfl⟩
  have hr0 := (hr.step hst).start (allocsOf C.priv ops.toList)
  have hN : ∀ k, NnP C ops.toList [] k ↔ k ∈ allocsOf C.priv ops.toList := fun k => by
    rw [allocs_iff]
    exact ⟨fun ⟨i, o, _, h2, h3⟩ => ⟨i, o, h2, h3⟩, fun ⟨i, o, h2, h3⟩ => ⟨i, o, by simp, h2, h3⟩⟩
  have hL : ∀ k, LivP C ops.toList [] [] k ↔ k ∉ allocsOf C.priv ops.toList := fun k => by
    rw [← hN]
    exact ⟨fun e => e.2, fun e => ⟨fun i o h1 => absurd h1 List.not_mem_nil, e⟩⟩
  have hidx := plan_idx hp
  refine ord_sim (L := ops.toList) (mok := mok) (n := n) (lv0 := lives s) (β0 := β) (a0 := a) (h0 := h) (w0 := w) ok rfl hnd hlt (K0 := K) (fun s' h' β' a' w' hk hr' hs' => hQ s' h' β' a' w' hk hr'.clean hs') ops.size ord [] [] _ none β (s.dropB (allocsOf C.priv ops.toList)) a h _
    ⟨by simp, fun i => ?_, .nil, fun i e => absurd e List.not_mem_nil, fun i e => absurd e List.not_mem_nil, fun i o _ e => absurd e List.not_mem_nil, fun i o _ e => absurd e List.not_mem_nil, trivial, ?_, fun i o e => absurd e List.not_mem_nil, ?_⟩ hp (fun j hj => .inr (pigeon hidx.1 (fun x hx => (hidx.2 x hx).2) ?_ hj)) hv (by simp)
  · by_cases hi : i < ops.size
    · simp [hi]
    · simp [hi]
  · exact hr0.congr (fun t => ⟨fun _ => trivial, fun _ i o e => absurd e List.not_mem_nil⟩) hL (fun _ e => e.elim) (fun k e => (hN k).1 e)
  · exact (Seg.step (lv := lives s) hst).mono (fun _ e => e) (fun _ e => e) (fun _ e => e) (fun k e => live_drop (l := allocsOf C.priv ops.toList) ⟨e.1, (hL k).1 e.2⟩)
  · have := Nat.eq_of_beq_eq_true h2
    simp [this]

end Lf

/-
  The lifting layer, part 23: code, and whole functions.
-/
namespace Lf
open Go

def exOf : Ex → Exit
  | .nrm => .normal
  | .ret => .ret
  | .ext i => .exit i
  | .gto i => .goto i

theorem least_ex {p : Nat → Prop} : (∃ n, p n) → ∃ n, p n ∧ ∀ m, p m → n ≤ m := by
  rintro ⟨n, hn⟩
  induction n using Nat.strongRecOn with
  | _ n ih =>
    by_cases h : ∃ m, m < n ∧ p m
    · obtain ⟨m, h1, h2⟩ := h
      exact ih m h1 h2
    · exact ⟨n, hn, fun m hm => Nat.le_of_not_lt fun e => h ⟨m, e, hm⟩⟩

/-- A loop, by a count that its rounds make smaller. -/
theorem wp_loop_count {P : Program} {c : Code} {Q : Exit → Act → World → Prop} {a : Act} {w : World} (J : Nat → Act → World → Prop) (h0 : ∃ n, J n a w)
    (round : ∀ n a w, J n a w → c.wp P (Exit.then (fun a' w' => ∃ m, m < n ∧ J m a' w') Q) a w) : (Code.loop c).wp P Q a w := by
  classical
  let μ : Act → World → Nat := fun a w => if h : ∃ n, J n a w then Classical.choose (least_ex h) else 0
  have hμ : ∀ a w, (h : ∃ n, J n a w) → J (μ a w) a w ∧ ∀ m, J m a w → μ a w ≤ m := fun a w h => by
    have := Classical.choose_spec (least_ex h)
    simp only [μ, dif_pos h]
    exact this
  refine wp_loop (fun a w => ∃ n, J n a w) μ h0 fun a w hJ => ?_
  refine wp_mono (round (μ a w) a w (hμ a w hJ).1) fun e a' w' hq => ?_
  cases e with
  | normal =>
    obtain ⟨m, h1, h2⟩ := hq
    exact ⟨⟨m, h2⟩, Nat.lt_of_le_of_lt ((hμ a' w' ⟨m, h2⟩).2 m h2) h1⟩
  | _ => exact hq

section
variable {n : Nat} {β : Nat → Nat} {s : St} {a : Act} {h : Hp} {w : World}

/-- The second state has nothing but what stayed of the first one, and what is so now. -/
structure Mix (s s' s2 : St) (a' : Act) (n : Nat) (l mm : List Nat) : Prop where
  f : ∀ t v c, s2.f t = some (v, c) → c = [] ∧ ((s.f t = some (v, []) ∧ t ∉ l ∧ ∀ k o, (v = .box k o ∨ v = .boxd k o) → k ∉ l) ∨ (∃ x, v = .v x ∧ a'.eval (.tmp t) = x ∧ t < n))
  m : ∀ k cs, s2.m k = some cs → (s.m k = some cs ∧ k ∉ mm) ∨ s'.m k = some cs

theorem mix_rr {l mm : List Nat} {β' : Nat → Nat} {s' s2 : St} {a' : Act} {h' : Hp} {w' : World} (hr : Rel n β s a h w) (hs : Seg l mm (lives s) β a h w (lives s') β' a' h' w') (hr' : Rel n β' s' a' h' w') (hm : Mix s s' s2 a' n l mm) :
    Rel n β' s2 a' h' w' ∧ Seg l mm (lives s) β a h w (lives s2) β' a' h' w' := by
  have hkeep : ∀ k cs, s.m k = some cs → k ∉ mm → β' k = β k ∧ β k < w.heap.size ∧ h' (β k) = none ∧ ∃ ct, w'.heap[β k]? = some (.cells cs.toArray ct (0, 0)) := by
    intro k cs e hk
    obtain ⟨h1, ct, h2⟩ := hr.box k cs e trivial
    refine ⟨hs.beta k (.inr hk), heap_lt h2, hs.unk _ (heap_lt h2) h1, ct, ?_⟩
    rw [hs.keep _ (heap_lt h2) h1 fun k' hk' hl e' => hk (by rw [hr.inj k k' (by simp [e]) hl.1 trivial trivial e'.symm]; exact hk')]
    exact h2
  have hnew : ∀ k, s'.m k ≠ none → (s.m k ≠ none ∧ β' k = β k) ∨ w.heap.size ≤ β' k := fun k e => (hs.fresh k ⟨e, trivial⟩).imp (fun e => ⟨e.1.1, e.2⟩) id
  refine ⟨⟨hr'.sz, hr'.sub, fun t v c e => ?_, fun t v c e p hp => ?_, fun t v c e _ _ => ?_, fun t v c e _ hh => ?_, fun k cs e _ => ?_, fun k k' e e' _ _ he => ?_, fun _ e => e.elim, fun _ e => e.elim⟩, ?_⟩
  · obtain ⟨_, h1 | ⟨x, _, _, h1⟩⟩ := hm.f t v c e
    · exact hr.lt t v [] h1.1
    · exact h1
  · rw [(hm.f t v c e).1] at hp; cases hp
  · refine ⟨?_, fun _ _ _ => trivial⟩
    obtain ⟨_, ⟨h1, h2, h3⟩ | ⟨x, rfl, h1, _⟩⟩ := hm.f t v c e
    · rw [hs.tmp t h2, (hr.cur t v [] h1 trivial (holds_nil _)).1]
      cases v with
      | v x => rfl
      | box k o => simp only [LVal, hs.beta k (.inl (h3 k o (.inl rfl)))]
      | boxd k o => simp only [LVal, hs.beta k (.inl (h3 k o (.inr rfl)))]
    · exact h1
  · rw [(hm.f t v c e).1] at hh; exact absurd (holds_nil _) hh
  · rcases hm.m k cs e with ⟨h1, h2⟩ | h1
    · obtain ⟨e1, _, e2, e3⟩ := hkeep k cs h1 h2
      rw [e1]
      exact ⟨e2, e3⟩
    · exact hr'.box k cs h1 trivial
  · obtain ⟨cs, e⟩ := Option.ne_none_iff_exists'.1 e
    obtain ⟨cs', e'⟩ := Option.ne_none_iff_exists'.1 e'
    rcases hm.m k cs e with ⟨h1, h2⟩ | h1
    · obtain ⟨e1, e2, _⟩ := hkeep k cs h1 h2
      rcases hm.m k' cs' e' with ⟨h1', h2'⟩ | h1'
      · obtain ⟨e1', _⟩ := hkeep k' cs' h1' h2'
        rw [e1, e1'] at he
        exact hr.inj k k' (by simp [h1]) (by simp [h1']) trivial trivial he
      · rcases hnew k' (by simp [h1']) with ⟨e3, e4⟩ | e3
        · rw [e1, e4] at he
          exact hr.inj k k' (by simp [h1]) e3 trivial trivial he
        · rw [e1] at he; omega
    · rcases hm.m k' cs' e' with ⟨h1', h2'⟩ | h1'
      · obtain ⟨e1', e2', _⟩ := hkeep k' cs' h1' h2'
        rcases hnew k (by simp [h1]) with ⟨e3, e4⟩ | e3
        · rw [e1', e4] at he
          exact hr.inj k k' e3 (by simp [h1']) trivial trivial he
        · rw [e1'] at he; omega
      · exact hr'.inj k k' (by simp [h1]) (by simp [h1']) trivial trivial he
  · refine ⟨hs.tmp, hs.beta, hs.size, hs.unk, hs.keep, fun k e => ?_, hs.os, hs.tape, hs.output, hs.defers⟩
    obtain ⟨cs, e⟩ := Option.ne_none_iff_exists'.1 e.1
    rcases hm.m k cs e with ⟨h1, h2⟩ | h1
    · exact .inl ⟨⟨by simp [h1], trivial⟩, (hkeep k cs h1 h2).1⟩
    · exact hs.fresh k ⟨by simp [h1], trivial⟩

def shO : Option Ty → Shape
  | some e => e.sh
  | none => shUnit

theorem shOf_eq (tb : Tb) (t : Nat) : shOf tb t = shO (tb.ty t) := by
  unfold shOf shO
  cases tb.ty t <;> rfl

theorem sh_leaf {P : Program} {tb : Tb} (ok : tb.Ok P) {t : Nat} (ha : isAggT tb t = false) : ∀ (x : (shOf tb t).T) (cs : Array Value), (shOf tb t).enc x ≠ .agg cs := by
  rw [shOf_eq]
  unfold isAggT at ha
  cases he : tb.ty t with
  | none => intro x cs e; cases e
  | some e =>
    rw [he] at ha
    intro x cs
    exact ((ok.leaf t e he ha).2 x).2 cs

theorem cells_of {P : Program} {tb : Tb} (ok : tb.Ok P) {t : Nat} {cs : List Value} {v : Value} {x : (shOf tb t).T} (h1 : ofCells tb t cs = some v) (h2 : (shOf tb t).dec v = some x) : cellsL ((shOf tb t).enc x) = cs := by
  have hv := (shOf tb t).ok v x h2
  rw [hv]
  unfold ofCells at h1
  cases ha : isAggT tb t with
  | true =>
    rw [ha] at h1
    cases h1
    rfl
  | false =>
    rw [ha] at h1
    simp only [cond_false] at h1
    split at h1
    · cases h1
      have hne : ∀ cs, v ≠ .agg cs := fun cs e => sh_leaf ok ha x cs (hv.trans e)
      cases v <;> first | rfl | exact absurd rfl (hne _)
    · cases h1

/-- What is taken over at a join. -/
structure Got (s s' s2 : St) (a' : Act) (n : Nat) (l mm : List Nat) : Prop where
  mix : Mix s s' s2 a' n l mm

theorem getOne_mix {P : Program} {tb : Tb} (ok : tb.Ok P) {l mm : List Nat} {β' : Nat → Nat} {s' s2 : St} {a' : Act} {h' : Hp} {w' : World} (hr' : Rel n β' s' a' h' w') {j : J} {K : (shOf tb j.t).T → Prop} (hg : getOne tb s' j K)
    (hm : Mix s s' s2 a' n l mm) : ∃ x, K x ∧ Mix s s' (setOne tb j x s2) a' n l mm := by
  unfold getOne at hg
  cases hM : j.isM with
  | true =>
    rw [hM] at hg
    simp only [cond_true] at hg
    split at hg
    · rename_i cs hcs
      split at hg
      · rename_i v hv
        split at hg
        · rename_i x hx
          refine ⟨x, hg, ?_⟩
          have hc := cells_of ok hv hx
          unfold setOne
          rw [hM]
          simp only [cond_true, hc]
          refine ⟨hm.f, fun k cs' e => ?_⟩
          by_cases hk : k = j.i
          · subst hk
            rw [putM_same] at e; cases e
            exact .inr hcs
          · rw [putM_ne _ _ hk] at e
            exact hm.m k cs' e
        · exact hg.elim
      · exact hg.elim
    · exact hg.elim
  | false =>
    rw [hM] at hg
    simp only [cond_false] at hg
    split at hg
    · rename_i v hv
      split at hg
      · rename_i x hx
        refine ⟨x, hg, ?_⟩
        unfold setOne
        rw [hM]
        simp only [cond_false]
        rw [(shOf tb j.t).ok v x hx]
        refine ⟨fun t u c e => ?_, fun k cs e => hm.m k cs (by rwa [put_m] at e)⟩
        by_cases ht : t = j.i
        · subst ht
          rw [put_same] at e; cases e
          exact ⟨rfl, .inr ⟨v, rfl, (hr'.cur j.i _ [] hv trivial (holds_nil _)).1, hr'.lt _ _ _ hv⟩⟩
        · rw [put_ne _ _ _ ht] at e
          exact hm.f t u c e
      · exact hg.elim
    · exact hg.elim

theorem getJ_mix {P : Program} {tb : Tb} (ok : tb.Ok P) {l mm : List Nat} {β' : Nat → Nat} {s' : St} {a' : Act} {h' : Hp} {w' : World} (hr' : Rel n β' s' a' h' w') : ∀ {js : List J} {s2 : St} {K : JTup tb js → Prop}, getJ tb js s' K →
    Mix s s' s2 a' n l mm → ∃ x, K x ∧ Mix s s' (setJ tb js x s2) a' n l mm
  | [], s2, K, hg, hm => ⟨(), hg, hm⟩
  | [j], s2, K, hg, hm => getOne_mix ok hr' hg hm
  | j :: j2 :: js, s2, K, hg, hm => by
    obtain ⟨x, hx, hm'⟩ := getOne_mix ok hr' hg hm
    obtain ⟨y, hy, hm2⟩ := getJ_mix ok hr' (js := j2 :: js) hx hm'
    exact ⟨(x, y), hy, hm2⟩

theorem forget_mix (hr : Rel n β s a h w) {l mm : List Nat} {s' : St} {a' : Act} : Mix s s' (s.forget l mm) a' n l mm := by
  refine ⟨fun t v c e => ?_, fun k cs e => ?_⟩
  · simp only [St.forget] at e
    cases ht : has l t with
    | true => simp [ht] at e
    | false =>
      simp only [ht, cond_false] at e
      obtain ⟨h1, h2⟩ := dropL'_some e
      have hc : c = [] := by
        cases c with
        | nil => rfl
        | cons p c => exact (hr.chain t v _ h1 p (List.mem_cons_self ..)).elim
      subst hc
      exact ⟨rfl, .inl ⟨h1, has_false ht, h2⟩⟩
  · simp only [St.forget] at e
    cases hk : has mm k with
    | true => simp [hk] at e
    | false =>
      simp only [hk, cond_false] at e
      exact .inl ⟨e, has_false hk⟩

theorem join_rel {P : Program} {tb : Tb} (ok : tb.Ok P) {l mm : List Nat} {β' : Nat → Nat} {s' : St} {a' : Act} {h' : Hp} {w' : World} (hr : Rel n β s a h w) (hs : Seg l mm (lives s) β a h w (lives s') β' a' h' w') (hr' : Rel n β' s' a' h' w')
    {js : List J} {K : JTup tb js → Prop} (hg : getJ tb js s' K) :
    ∃ x, K x ∧ Rel n β' (setJ tb js x (s.forget l mm)) a' h' w' ∧ Seg l mm (lives s) β a h w (lives (setJ tb js x (s.forget l mm))) β' a' h' w' := by
  obtain ⟨x, hx, hm⟩ := getJ_mix ok hr' hg (forget_mix (s' := s') (a' := a') hr)
  obtain ⟨h1, h2⟩ := mix_rr hr hs hr' hm
  exact ⟨x, hx, h1, h2⟩

end

theorem app_mem {x y : List Nat} {d : Nat} : d ∈ app x y ↔ d ∈ x ∨ d ∈ y := by rw [app_eq, List.mem_append]

/-- What is told of code is so. -/
theorem lift_sound {C : Ctx} (ok : C.tb.Ok C.P) {n : Nat} : ∀ (c : Code) (A : Ann) (mok : List Nat) (s : St) (E : Env) (h : Hp), (∀ d ∈ mods c, d < n) → lift C c A mok s E h → ∀ (β : Nat → Nat) (a : Act) (w : World), Rel n β s a h w →
    ∀ Q : Exit → Act → World → Prop, (∀ e s' h' β' a' w', E e s' h' → Rel n β' s' a' h' w' → Seg (mods c) mok (lives s) β a h w (lives s') β' a' h' w' → Q (exOf e) a' w') → c.wp C.P Q a w := by
  intro c
  induction c with
  | skip => intro A mok s E h _ hv β a w hr Q hQ; exact wp_skip (hQ .nrm s h β a w hv hr (Seg.refl _ _))
  | ret => intro A mok s E h _ hv β a w hr Q hQ; exact wp_ret (hQ .ret s h β a w hv hr (Seg.refl _ _))
  | exit i => intro A mok s E h _ hv β a w hr Q hQ; exact wp_exit (hQ (.ext i) s h β a w hv hr (Seg.refl _ _))
  | goto i => intro A mok s E h _ hv β a w hr Q hQ; exact wp_goto (hQ (.gto i) s h β a w hv hr (Seg.refl _ _))
  | label i => intro A mok s E h _ hv β a w hr Q hQ; exact wp_label (hQ .nrm s h β a w hv hr (Seg.refl _ _))
  | region id ops draw =>
    intro A mok s E h hlt hv β a w hr Q hQ
    have hclean : ∀ s' : St, ∀ k, lives s'.clean k ↔ lives s' k := fun s' k => .rfl
    cases draw with
    | true =>
      simp only [lift] at hv
      split at hv
      · rename_i ord
        obtain ⟨hp, hv⟩ := condP hv
        exact any_sound ok hp hlt hr hv fun s' h' β' a' w' hk hr' hs' => hQ .nrm s'.clean h' β' a' w' hk hr' hs'
      · exact hv.elim
    | false =>
      simp only [lift] at hv
      obtain ⟨hp, hv⟩ := condP hv
      unfold seqOk at hp
      obtain ⟨h1, hp⟩ := condT hp
      have hst := hr.start (allocsOf C.priv ops.toList)
      have main : ∀ g : Bool, (g = false → noGuard ops.toList = true) → (g = true → (modsO ops.toList).Nodup ∧ guardsBack ops.toList 0 = true) → (Code.region id ops false).wp C.P Q a w := by
        intro g hg1 hg2
        refine wp_region ?_
        have := seq_sound (n := n) (mok := mok) (K := fun s' h' => E .nrm s'.clean h') (Q := Q) ok g hlt hg1 hg2 ops.toList [] β _ a h w rfl (nodup_iff h1) hv
          (hst.congr (fun _ => .rfl) (fun _ => .rfl) (fun _ e => e.elim) (fun _ e => e)) (fun s' h' β' a' w' hk hr' hs' => hQ .nrm s'.clean h' β' a' w' hk hr'.clean
            (hs'.mono (fun _ e => e) (fun _ e => e) (fun k e => live_drop e) (fun _ e => e)))
        rw [List.range_eq_range']
        simpa using this
      cases hng : noGuard ops.toList with
      | true => exact main false (fun _ => hng) (fun e => by cases e)
      | false =>
        rw [hng] at hp
        simp only [cond_false] at hp
        obtain ⟨h2, h3⟩ := condT hp
        exact main true (fun e => by cases e) (fun _ => ⟨nodup_iff h2, h3⟩)
  | seq x y ihx ihy =>
    intro A mok s E h hlt hv β a w hr Q hQ
    have hlx : ∀ d ∈ mods x, d < n := fun d hd => hlt d (app_mem.2 (.inl hd))
    have hly : ∀ d ∈ mods y, d < n := fun d hd => hlt d (app_mem.2 (.inr hd))
    have hmx : ∀ d ∈ mods x, d ∈ mods (.seq x y) := fun d hd => app_mem.2 (.inl hd)
    have hmy : ∀ d ∈ mods y, d ∈ mods (.seq x y) := fun d hd => app_mem.2 (.inr hd)
    refine wp_seq ?_
    unfold lift at hv
    split at hv
    · rename_i js mm _ _
      obtain ⟨hmm, R, hA, hB⟩ := condP hv
      have hmm' := allIn_mem hmm
      refine ihx _ mm s _ h hlx hA β a w hr _ fun e s' h' β' a' w' he hr' hs' => ?_
      cases e with
      | nrm =>
        obtain ⟨z, hz, hr2, hs2⟩ := join_rel ok hr hs' hr' he
        refine ihy _ mok _ E h' hly (hB z h' hz) β' a' w' hr2 Q fun e2 s2 h2 β2 a2 w2 he2 hrr hss => ?_
        exact hQ e2 s2 h2 β2 a2 w2 he2 hrr ((hs2.mono hmx hmm' (fun _ e => e) (fun _ e => e)).trans (hss.mono hmy (fun _ e => e) (fun _ e => e) (fun _ e => e)))
      | ret => exact hQ .ret s' h' β' a' w' he hr' (hs'.mono hmx hmm' (fun _ e => e) (fun _ e => e))
      | ext i => exact hQ (.ext i) s' h' β' a' w' he hr' (hs'.mono hmx hmm' (fun _ e => e) (fun _ e => e))
      | gto i => exact hQ (.gto i) s' h' β' a' w' he hr' (hs'.mono hmx hmm' (fun _ e => e) (fun _ e => e))
    · refine ihx _ mok s _ h hlx hv β a w hr _ fun e s' h' β' a' w' he hr' hs' => ?_
      cases e with
      | nrm =>
        refine ihy _ mok _ E h' hly he β' a' w' hr' Q fun e2 s2 h2 β2 a2 w2 he2 hrr hss => ?_
        exact hQ e2 s2 h2 β2 a2 w2 he2 hrr ((hs'.mono hmx (fun _ e => e) (fun _ e => e) (fun _ e => e)).trans (hss.mono hmy (fun _ e => e) (fun _ e => e) (fun _ e => e)))
      | ret => exact hQ .ret s' h' β' a' w' he hr' (hs'.mono hmx (fun _ e => e) (fun _ e => e) (fun _ e => e))
      | ext i => exact hQ (.ext i) s' h' β' a' w' he hr' (hs'.mono hmx (fun _ e => e) (fun _ e => e) (fun _ e => e))
      | gto i => exact hQ (.gto i) s' h' β' a' w' he hr' (hs'.mono hmx (fun _ e => e) (fun _ e => e) (fun _ e => e))
  | cond c x y ihx ihy =>
    intro A mok s E h hlt hv β a w hr Q hQ
    have hlx : ∀ d ∈ mods x, d < n := fun d hd => hlt d (app_mem.2 (.inl hd))
    have hly : ∀ d ∈ mods y, d < n := fun d hd => hlt d (app_mem.2 (.inr hd))
    simp only [lift] at hv
    obtain ⟨v, hev, hv⟩ := onV_some hv
    split at hv
    · rename_i t
      have hc := ev_ok (opnd_rr hr (x := c) fun _ _ => trivial) (holds_nil s) hev
      refine wp_cond_split (t := t) hc (fun ht => ?_) (fun ht => ?_)
      · rw [if_pos ht] at hv
        exact ihx _ mok s E h hlx hv β a w hr Q fun e s' h' β' a' w' he hr' hs' => hQ e s' h' β' a' w' he hr' (hs'.mono (fun d hd => app_mem.2 (.inl hd)) (fun _ e => e) (fun _ e => e) (fun _ e => e))
      · rw [if_neg (by rw [ht]; simp)] at hv
        exact ihy _ mok s E h hly hv β a w hr Q fun e s' h' β' a' w' he hr' hs' => hQ e s' h' β' a' w' he hr' (hs'.mono (fun d hd => app_mem.2 (.inr hd)) (fun _ e => e) (fun _ e => e) (fun _ e => e))
    · exact hv.elim
  | block id x ih =>
    intro A mok s E h hlt hv β a w hr Q hQ
    refine wp_block ?_
    unfold lift at hv
    split at hv
    · rename_i js mm _
      obtain ⟨hmm, R, hA, hB⟩ := condP hv
      have hmm' := allIn_mem hmm
      refine ih _ mm s _ h hlt hA β a w hr _ fun e s' h' β' a' w' he hr' hs' => ?_
      have joined : getJ C.tb js s' (fun x => R x h') → Q .normal a' w' := fun hg => by
        obtain ⟨z, hz, hr2, hs2⟩ := join_rel ok hr hs' hr' hg
        exact hQ .nrm _ h' β' a' w' (hB z h' hz) hr2 (hs2.mono (fun _ e => e) hmm' (fun _ e => e) (fun _ e => e))
      cases e with
      | nrm => exact joined he
      | ret => exact hQ .ret s' h' β' a' w' he hr' (hs'.mono (fun _ e => e) hmm' (fun _ e => e) (fun _ e => e))
      | ext i =>
        simp only [exOf, Exit.inBlock]
        by_cases hi : i = id
        · subst hi
          simp only [Env.blk, Nat.beq_refl, cond_true] at he
          simpa using joined he
        · rw [if_neg hi]
          simp only [Env.blk, beq_ne hi, cond_false] at he
          exact hQ (.ext i) s' h' β' a' w' he hr' (hs'.mono (fun _ e => e) hmm' (fun _ e => e) (fun _ e => e))
      | gto i => exact hQ (.gto i) s' h' β' a' w' he hr' (hs'.mono (fun _ e => e) hmm' (fun _ e => e) (fun _ e => e))
    · refine ih _ mok s _ h hlt hv β a w hr _ fun e s' h' β' a' w' he hr' hs' => ?_
      cases e with
      | nrm => exact hQ .nrm s' h' β' a' w' he hr' hs'
      | ret => exact hQ .ret s' h' β' a' w' he hr' hs'
      | ext i =>
        simp only [exOf, Exit.inBlock]
        by_cases hi : i = id
        · subst hi
          simp only [Env.blk, Nat.beq_refl, cond_true] at he
          rw [if_pos rfl]
          exact hQ .nrm s' h' β' a' w' he hr' hs'
        · rw [if_neg hi]
          simp only [Env.blk, beq_ne hi, cond_false] at he
          exact hQ (.ext i) s' h' β' a' w' he hr' hs'
      | gto i => exact hQ (.gto i) s' h' β' a' w' he hr' hs'
  | scope x ih =>
    intro A mok s E h hlt hv β a w hr Q hQ
    refine wp_scope_straight ?_
    unfold lift at hv
    refine ih _ mok s _ h hlt hv β a w hr _ fun e s' h' β' a' w' he hr' hs' => ?_
    cases e with
    | nrm => exact hQ .nrm s' h' β' a' w' he hr' hs'
    | ret => exact hQ .ret s' h' β' a' w' he hr' hs'
    | ext i => exact hQ (.ext i) s' h' β' a' w' he hr' hs'
    | gto i => exact he.elim
  | loop x ih =>
    intro A mok s E h hlt hv β a w hr Q hQ
    unfold lift at hv
    split at hv
    · rename_i js mm _
      obtain ⟨hmm, hv⟩ := condP hv
      have hmm' := allIn_mem hmm
      obtain ⟨x0, hx0, hr0, hs0⟩ := join_rel ok hr (Seg.refl (l := mods x) (mm := mm)) hr hv
      obtain ⟨I, μ, hI, hbody⟩ := hx0
      refine wp_loop_count (fun m a' w' => ∃ z h' β', I z h' ∧ μ z h' = m ∧ Rel n β' (setJ C.tb js z (s.forget (mods x) mm)) a' h' w' ∧ Seg (mods x) mm (lives s) β a h w (lives (setJ C.tb js z (s.forget (mods x) mm))) β' a' h' w')
        ⟨_, x0, h, β, hI, rfl, hr0, hs0⟩ ?_
      rintro m a' w' ⟨z, h', β', hz, rfl, hr1, hs1⟩
      refine ih _ mm _ _ h' hlt (hbody z h' hz) β' a' w' hr1 _ fun e s2 h2 β2 a2 w2 he hr2 hs2 => ?_
      have hs12 := hs1.trans hs2
      cases e with
      | nrm =>
        obtain ⟨z2, hz2, hr3, hs3⟩ := join_rel ok hr hs12 hr2 he
        exact ⟨_, hz2.2, z2, h2, β2, hz2.1, rfl, hr3, hs3⟩
      | ret => exact hQ .ret s2 h2 β2 a2 w2 he hr2 (hs12.mono (fun _ e => e) hmm' (fun _ e => e) (fun _ e => e))
      | ext i => exact hQ (.ext i) s2 h2 β2 a2 w2 he hr2 (hs12.mono (fun _ e => e) hmm' (fun _ e => e) (fun _ e => e))
      | gto i => exact hQ (.gto i) s2 h2 β2 a2 w2 he hr2 (hs12.mono (fun _ e => e) hmm' (fun _ e => e) (fun _ e => e))
    · exact hv.elim
  | _ => intro A mok s E h _ hv; exact hv.elim

end Lf

/-
  The lifting layer, part 24: whole functions.
-/
namespace Lf
open Go

def resRun (tmps : Array Value) : ResultVar → Sem Value
  | .tmp t => pure (tmps.getD t undef)
  | .cell a t => do loadVar t (← asAddr (tmps.getD a undef))

def resVal : List Value → Value
  | [v] => v
  | vs => .tuple vs.toArray

theorem results_run {P : Program} {fn : Func} {tmps : Array Value} {vs : List Value} {w : World} (h : (fn.results.toList.mapM (resRun tmps)).run P w = .ok vs w) : (results fn tmps).run P w = .ok (resVal vs) w := by
  have e : results fn tmps = ((fn.results.mapM (resRun tmps)) >>= fun vs => pure (if h : vs.size = 1 then vs[0] else .tuple vs)) := by
    unfold results
    congr 1
  rw [e, Array.mapM_eq_mapM_toList, map_eq_pure_bind]
  simp only [Sem.run_bind, h, Result.andThen_ok, Sem.run_pure]
  cases vs with
  | nil => rfl
  | cons v vs => cases vs <;> simp [resVal]

theorem run_loadSh {P : Program} {tb : Tb} (ok : tb.Ok P) {t : Nat} {e : Ty} (he : tb.ty t = some e) {w : World} {a : Addr} {x : (shOf tb t).T}
    (hc : ∀ (j : Nat) (v : Value), (cellsL ((shOf tb t).enc x))[j]? = some v → w.cell? (a.add j) = some v) : (loadVar t a).run P w = .ok ((shOf tb t).enc x) w := by
  revert x
  rw [shOf_eq, he]
  intro x hc
  exact run_loadVar ok he hc

section
variable {C : Ctx} {n : Nat} {β : Nat → Nat} {s : St} {a : Act} {h : Hp} {w : World}

theorem retOne_run (ok : C.tb.Ok C.P) (hr : Rel n β s a h w) {r : ResultVar} {t : Nat} {K : (shOf C.tb t).T → Prop} (hv : retOne C s r t K) : ∃ x, K x ∧ (resRun a.tmps r).run C.P w = .ok ((shOf C.tb t).enc x) w := by
  cases r with
  | tmp i =>
    simp only [retOne] at hv
    split at hv
    · rename_i v hf
      split at hv
      · rename_i x hx
        refine ⟨x, hv, ?_⟩
        have := (hr.cur i _ [] hf trivial (holds_nil _)).1
        rw [(shOf C.tb t).ok v x hx]
        simp only [resRun, Sem.run_pure]
        exact congrArg (fun v => Result.ok v w) this
      · exact hv.elim
    · exact hv.elim
  | cell i ct =>
    simp only [retOne] at hv
    obtain ⟨h1, hv⟩ := condP hv
    have h1 := Nat.eq_of_beq_eq_true h1
    subst h1
    split at hv
    · rename_i k e hf he
      split at hv
      · rename_i cs hm
        split at hv
        · rename_i v hcs
          split at hv
          · rename_i x hx
            refine ⟨x, hv, ?_⟩
            have hc := cells_of ok hcs hx
            obtain ⟨_, t', hb⟩ := hr.box k cs hm trivial
            have := (hr.cur i _ [] hf trivial (holds_nil _)).1
            have h2 : a.tmps.getD i undef = .pointer (some ⟨β k, 0, none⟩) := this
            simp only [resRun, h2, asAddr, Sem.run_bind, Sem.run_pure, Result.andThen_ok]
            refine run_loadSh ok he fun j v hj => ?_
            rw [hc] at hj
            rw [box_add, box_cell hb]
            simpa using hj
          · exact hv.elim
        · exact hv.elim
      · exact hv.elim
    · exact hv.elim

theorem retW_run (ok : C.tb.Ok C.P) (hr : Rel n β s a h w) {rs : List ResultVar} {ts : List Nat} {K : (shRes C.tb ts).T → Hp → Prop} (hv : retW C s h rs ts K) :
    ∃ x vs, K x h ∧ (rs.mapM (resRun a.tmps)).run C.P w = .ok vs w ∧ resVal vs = (shRes C.tb ts).enc x := by
  have step : ∀ {r : ResultVar} {rs : List ResultVar} {v : Value} {vs : List Value}, (resRun a.tmps r).run C.P w = .ok v w → (rs.mapM (resRun a.tmps)).run C.P w = .ok vs w → ((r :: rs).mapM (resRun a.tmps)).run C.P w = .ok (v :: vs) w := by
    intro r rs v vs h1 h2
    simp only [List.mapM_cons, Sem.run_bind, h1, h2, Result.andThen_ok, Sem.run_pure]
  have nil : (([] : List ResultVar).mapM (resRun a.tmps)).run C.P w = .ok [] w := by simp only [List.mapM_nil, Sem.run_pure]
  unfold retW at hv
  split at hv
  · exact ⟨(), [], hv, nil, rfl⟩
  · obtain ⟨x, hk, h1⟩ := retOne_run ok hr hv
    exact ⟨x, _, hk, step h1 nil, rfl⟩
  · obtain ⟨x1, hv, h1⟩ := retOne_run ok hr hv
    obtain ⟨x2, hk, h2⟩ := retOne_run ok hr hv
    exact ⟨(x1, x2), _, hk, step h1 (step h2 nil), rfl⟩
  · obtain ⟨x1, hv, h1⟩ := retOne_run ok hr hv
    obtain ⟨x2, hv, h2⟩ := retOne_run ok hr hv
    obtain ⟨x3, hk, h3⟩ := retOne_run ok hr hv
    exact ⟨(x1, x2, x3), _, hk, step h1 (step h2 (step h3 nil)), rfl⟩
  · obtain ⟨x1, hv, h1⟩ := retOne_run ok hr hv
    obtain ⟨x2, hv, h2⟩ := retOne_run ok hr hv
    obtain ⟨x3, hv, h3⟩ := retOne_run ok hr hv
    obtain ⟨x4, hk, h4⟩ := retOne_run ok hr hv
    exact ⟨(x1, x2, x3, x4), _, hk, step h1 (step h2 (step h3 (step h4 nil))), rfl⟩
  · obtain ⟨x1, hv, h1⟩ := retOne_run ok hr hv
    obtain ⟨x2, hv, h2⟩ := retOne_run ok hr hv
    obtain ⟨x3, hv, h3⟩ := retOne_run ok hr hv
    obtain ⟨x4, hv, h4⟩ := retOne_run ok hr hv
    obtain ⟨x5, hk, h5⟩ := retOne_run ok hr hv
    exact ⟨(x1, x2, x3, x4, x5), _, hk, step h1 (step h2 (step h3 (step h4 (step h5 nil)))), rfl⟩
  · exact hv.elim

end

theorem allLt_mem {n : Nat} {l : List Nat} (h : allLt n l = true) : ∀ d ∈ l, d < n := by
  induction l with
  | nil => intro d hd; cases hd
  | cons a l ih =>
    simp only [allLt] at h
    obtain ⟨h1, h2⟩ := condT h
    intro d hd
    rcases List.mem_cons.1 hd with rfl | hd
    · have : d + 1 ≤ n := by simpa [Nat.blt] using h1
      exact this
    · exact ih h2 d hd

/-- What is told of a function is so. -/
theorem fun_sound {C : Ctx} (ok : C.tb.Ok C.P) {g : FuncId} {f : Func} {c : Code} {A : Ann} {args : List Value} {K : (shRes C.tb f.resultTypes.toList).T → Hp → Prop} {h : Hp} (hf : C.P.funcs[g]? = some f) (hb : f.body = some c)
    (hv : funW C f A args K h) : CallT C.P g args (shRes C.tb f.resultTypes.toList) K h := by
  intro w hs
  unfold funW at hv
  obtain ⟨hc, hv⟩ := condP hv
  obtain ⟨h1, h2⟩ := condT hc
  have h1 : args.length ≤ f.ntmps := Nat.le_of_ble_eq_true h1
  have hbody : bodyOf f = c := by unfold bodyOf; rw [hb]
  rw [hbody] at hv h2
  refine calls_of_wp hf hb ?_
  have hget : ∀ (t : Nat) (v : Value), args[t]? = some v → (args.toArray ++ Array.replicate (f.ntmps - args.toArray.size) undef)[t]? = some v := by
    intro t v e
    have hlt : t < args.length := (List.getElem?_eq_some_iff.1 e).1
    rw [Array.getElem?_append_left (by simpa using hlt)]
    simpa using e
  have hargs : ∀ (t : Nat) (l : LV) (c : Chain), argsF args t = some (l, c) → ∃ v, args[t]? = some v ∧ l = .v v ∧ c = [] := by
    intro t l c e
    unfold argsF at e
    rw [nth_get] at e
    split at e
    · rename_i v hv
      cases e
      exact ⟨v, hv, rfl, rfl⟩
    · cases e
  have hrel : Rel f.ntmps (fun _ => 0) { f := argsF args, m := fun _ => none } { tmps := args.toArray ++ Array.replicate (f.ntmps - args.toArray.size) undef, defers := [] } h w := by
    refine ⟨by simp; omega, hs, fun t l c e => ?_, fun t l c e p hp => ?_, fun t l c e _ _ => ?_, fun t l c e _ hh => ?_, fun k cs e _ => (by cases e), fun k k' e => absurd rfl e, fun _ e => e.elim, fun _ e => e.elim⟩
    · obtain ⟨v, h3, _, _⟩ := hargs t l c e
      have := (List.getElem?_eq_some_iff.1 h3).1
      omega
    · obtain ⟨v, h3, _, rfl⟩ := hargs t l c e
      cases hp
    · obtain ⟨v, h3, rfl, rfl⟩ := hargs t l c e
      refine ⟨?_, fun _ _ _ => trivial⟩
      simp only [Act.eval, LVal, Array.getD_eq_getD_getElem?, hget t v h3, Option.getD_some]
    · obtain ⟨v, h3, rfl, rfl⟩ := hargs t l c e
      exact absurd (holds_nil _) hh
  refine lift_sound ok c A C.priv _ _ h (allLt_mem h2) hv _ _ w hrel _ fun e s' h' β' a' w' he hr' hs' => ?_
  have hst : Step h h' w w' := ⟨hr'.sub, hs'.size, fun b hb hn => ⟨hs'.keep b hb hn (fun k _ hl => absurd rfl hl.1), hs'.unk b hb hn⟩, hs'.os, hs'.tape, hs'.output⟩
  have done : retW C s' h' f.results.toList f.resultTypes.toList K → a'.defers = [] ∧ ∃ v, (results f a'.tmps).run C.P w' = .ok v w' ∧ ∃ u h2, Ending.returned v = .returned u ∧ (∃ x, u = (shRes C.tb f.resultTypes.toList).enc x ∧ K x h2) ∧ Step h h2 w w' := by
    intro hw
    obtain ⟨x, vs, hk, hrun, hval⟩ := retW_run ok hr' hw
    exact ⟨hs'.defers, _, results_run hrun, _, h', rfl, ⟨x, hval, hk⟩, hst⟩
  cases e with
  | nrm => exact done he
  | ret => exact done he
  | ext i => exact he.elim
  | gto i => exact he.elim

end Lf

/-
  The lifting layer, part 4: the same words for several variables, one behind the other.
-/
namespace Lf
open Go

def JoinW0 (A : (Hp → Prop) → Prop) (B : Hp → Prop) : Prop :=
  JoinT (σ := Unit) (fun R => A (fun h => R () h)) (fun _ h => B  h)
theorem JoinW0.intro {A : (Hp → Prop) → Prop} {B : Hp → Prop} (R : Hp → Prop) (hA : A R) (hB : ∀ h, R h → B h) : JoinW0 A B :=
  ⟨fun _ h => R  h, hA, fun _ h hr => hB  h hr⟩
theorem JoinW0.direct {A : (Hp → Prop) → Prop} {B : Hp → Prop} (hA : A B) : JoinW0 A B := JoinW0.intro B hA (fun _ hr => hr)
def LoopW0 (body : (Hp → Prop) → Hp → Prop)  (h : Hp) : Prop :=
  LoopT (σ := Unit) (fun R _ h => body (fun h => R () h)  h) () h
theorem LoopW0.intro {body : (Hp → Prop) → Hp → Prop} {h : Hp} (I : Hp → Prop) (μ : Hp → Nat)
    (h0 : I  h) (hr : ∀  k, I  k → body (fun  k' => I  k' ∧ μ  k' < μ  k)  k) : LoopW0 body  h :=
  ⟨fun _ h => I  h, fun _ h => μ  h, h0, fun _ k hk => hr  k hk⟩

def JoinW1 {α1 : Type} (A : (α1 → Hp → Prop) → Prop) (B : α1 → Hp → Prop) : Prop :=
  JoinT (σ := α1) (fun R => A (fun x1 h => R x1 h)) (fun p h => B p h)
theorem JoinW1.intro {α1 : Type} {A : (α1 → Hp → Prop) → Prop} {B : α1 → Hp → Prop} (R : α1 → Hp → Prop) (hA : A R) (hB : ∀ x1 h, R x1 h → B x1 h) : JoinW1 A B :=
  ⟨fun p h => R p h, hA, fun p h hr => hB p h hr⟩
theorem JoinW1.direct {α1 : Type} {A : (α1 → Hp → Prop) → Prop} {B : α1 → Hp → Prop} (hA : A B) : JoinW1 A B := JoinW1.intro B hA (fun _ _ hr => hr)
def LoopW1 {α1 : Type} (body : (α1 → Hp → Prop) → α1 → Hp → Prop) (x1 : α1) (h : Hp) : Prop :=
  LoopT (σ := α1) (fun R p h => body (fun x1 h => R x1 h) p h) x1 h
theorem LoopW1.intro {α1 : Type} {body : (α1 → Hp → Prop) → α1 → Hp → Prop} {x1 : α1} {h : Hp} (I : α1 → Hp → Prop) (μ : α1 → Hp → Nat)
    (h0 : I x1 h) (hr : ∀ x1 k, I x1 k → body (fun y1 k' => I y1 k' ∧ μ y1 k' < μ x1 k) x1 k) : LoopW1 body x1 h :=
  ⟨fun p h => I p h, fun p h => μ p h, h0, fun p k hk => hr p k hk⟩

def JoinW2 {α1 α2 : Type} (A : (α1 → α2 → Hp → Prop) → Prop) (B : α1 → α2 → Hp → Prop) : Prop :=
  JoinT (σ := α1 × α2) (fun R => A (fun x1 x2 h => R (x1, x2) h)) (fun p h => B p.1 p.2 h)
theorem JoinW2.intro {α1 α2 : Type} {A : (α1 → α2 → Hp → Prop) → Prop} {B : α1 → α2 → Hp → Prop} (R : α1 → α2 → Hp → Prop) (hA : A R) (hB : ∀ x1 x2 h, R x1 x2 h → B x1 x2 h) : JoinW2 A B :=
  ⟨fun p h => R p.1 p.2 h, hA, fun p h hr => hB p.1 p.2 h hr⟩
theorem JoinW2.direct {α1 α2 : Type} {A : (α1 → α2 → Hp → Prop) → Prop} {B : α1 → α2 → Hp → Prop} (hA : A B) : JoinW2 A B := JoinW2.intro B hA (fun _ _ _ hr => hr)
def LoopW2 {α1 α2 : Type} (body : (α1 → α2 → Hp → Prop) → α1 → α2 → Hp → Prop) (x1 : α1) (x2 : α2) (h : Hp) : Prop :=
  LoopT (σ := α1 × α2) (fun R p h => body (fun x1 x2 h => R (x1, x2) h) p.1 p.2 h) (x1, x2) h
theorem LoopW2.intro {α1 α2 : Type} {body : (α1 → α2 → Hp → Prop) → α1 → α2 → Hp → Prop} {x1 : α1} {x2 : α2} {h : Hp} (I : α1 → α2 → Hp → Prop) (μ : α1 → α2 → Hp → Nat)
    (h0 : I x1 x2 h) (hr : ∀ x1 x2 k, I x1 x2 k → body (fun y1 y2 k' => I y1 y2 k' ∧ μ y1 y2 k' < μ x1 x2 k) x1 x2 k) : LoopW2 body x1 x2 h :=
  ⟨fun p h => I p.1 p.2 h, fun p h => μ p.1 p.2 h, h0, fun p k hk => hr p.1 p.2 k hk⟩

def JoinW3 {α1 α2 α3 : Type} (A : (α1 → α2 → α3 → Hp → Prop) → Prop) (B : α1 → α2 → α3 → Hp → Prop) : Prop :=
  JoinT (σ := α1 × α2 × α3) (fun R => A (fun x1 x2 x3 h => R (x1, x2, x3) h)) (fun p h => B p.1 p.2.1 p.2.2 h)
theorem JoinW3.intro {α1 α2 α3 : Type} {A : (α1 → α2 → α3 → Hp → Prop) → Prop} {B : α1 → α2 → α3 → Hp → Prop} (R : α1 → α2 → α3 → Hp → Prop) (hA : A R) (hB : ∀ x1 x2 x3 h, R x1 x2 x3 h → B x1 x2 x3 h) : JoinW3 A B :=
  ⟨fun p h => R p.1 p.2.1 p.2.2 h, hA, fun p h hr => hB p.1 p.2.1 p.2.2 h hr⟩
theorem JoinW3.direct {α1 α2 α3 : Type} {A : (α1 → α2 → α3 → Hp → Prop) → Prop} {B : α1 → α2 → α3 → Hp → Prop} (hA : A B) : JoinW3 A B := JoinW3.intro B hA (fun _ _ _ _ hr => hr)
def LoopW3 {α1 α2 α3 : Type} (body : (α1 → α2 → α3 → Hp → Prop) → α1 → α2 → α3 → Hp → Prop) (x1 : α1) (x2 : α2) (x3 : α3) (h : Hp) : Prop :=
  LoopT (σ := α1 × α2 × α3) (fun R p h => body (fun x1 x2 x3 h => R (x1, x2, x3) h) p.1 p.2.1 p.2.2 h) (x1, x2, x3) h
theorem LoopW3.intro {α1 α2 α3 : Type} {body : (α1 → α2 → α3 → Hp → Prop) → α1 → α2 → α3 → Hp → Prop} {x1 : α1} {x2 : α2} {x3 : α3} {h : Hp} (I : α1 → α2 → α3 → Hp → Prop) (μ : α1 → α2 → α3 → Hp → Nat)
    (h0 : I x1 x2 x3 h) (hr : ∀ x1 x2 x3 k, I x1 x2 x3 k → body (fun y1 y2 y3 k' => I y1 y2 y3 k' ∧ μ y1 y2 y3 k' < μ x1 x2 x3 k) x1 x2 x3 k) : LoopW3 body x1 x2 x3 h :=
  ⟨fun p h => I p.1 p.2.1 p.2.2 h, fun p h => μ p.1 p.2.1 p.2.2 h, h0, fun p k hk => hr p.1 p.2.1 p.2.2 k hk⟩

def JoinW4 {α1 α2 α3 α4 : Type} (A : (α1 → α2 → α3 → α4 → Hp → Prop) → Prop) (B : α1 → α2 → α3 → α4 → Hp → Prop) : Prop :=
  JoinT (σ := α1 × α2 × α3 × α4) (fun R => A (fun x1 x2 x3 x4 h => R (x1, x2, x3, x4) h)) (fun p h => B p.1 p.2.1 p.2.2.1 p.2.2.2 h)
theorem JoinW4.intro {α1 α2 α3 α4 : Type} {A : (α1 → α2 → α3 → α4 → Hp → Prop) → Prop} {B : α1 → α2 → α3 → α4 → Hp → Prop} (R : α1 → α2 → α3 → α4 → Hp → Prop) (hA : A R) (hB : ∀ x1 x2 x3 x4 h, R x1 x2 x3 x4 h → B x1 x2 x3 x4 h) : JoinW4 A B :=
  ⟨fun p h => R p.1 p.2.1 p.2.2.1 p.2.2.2 h, hA, fun p h hr => hB p.1 p.2.1 p.2.2.1 p.2.2.2 h hr⟩
theorem JoinW4.direct {α1 α2 α3 α4 : Type} {A : (α1 → α2 → α3 → α4 → Hp → Prop) → Prop} {B : α1 → α2 → α3 → α4 → Hp → Prop} (hA : A B) : JoinW4 A B := JoinW4.intro B hA (fun _ _ _ _ _ hr => hr)
def LoopW4 {α1 α2 α3 α4 : Type} (body : (α1 → α2 → α3 → α4 → Hp → Prop) → α1 → α2 → α3 → α4 → Hp → Prop) (x1 : α1) (x2 : α2) (x3 : α3) (x4 : α4) (h : Hp) : Prop :=
  LoopT (σ := α1 × α2 × α3 × α4) (fun R p h => body (fun x1 x2 x3 x4 h => R (x1, x2, x3, x4) h) p.1 p.2.1 p.2.2.1 p.2.2.2 h) (x1, x2, x3, x4) h
theorem LoopW4.intro {α1 α2 α3 α4 : Type} {body : (α1 → α2 → α3 → α4 → Hp → Prop) → α1 → α2 → α3 → α4 → Hp → Prop} {x1 : α1} {x2 : α2} {x3 : α3} {x4 : α4} {h : Hp} (I : α1 → α2 → α3 → α4 → Hp → Prop) (μ : α1 → α2 → α3 → α4 → Hp → Nat)
    (h0 : I x1 x2 x3 x4 h) (hr : ∀ x1 x2 x3 x4 k, I x1 x2 x3 x4 k → body (fun y1 y2 y3 y4 k' => I y1 y2 y3 y4 k' ∧ μ y1 y2 y3 y4 k' < μ x1 x2 x3 x4 k) x1 x2 x3 x4 k) : LoopW4 body x1 x2 x3 x4 h :=
  ⟨fun p h => I p.1 p.2.1 p.2.2.1 p.2.2.2 h, fun p h => μ p.1 p.2.1 p.2.2.1 p.2.2.2 h, h0, fun p k hk => hr p.1 p.2.1 p.2.2.1 p.2.2.2 k hk⟩

def JoinW5 {α1 α2 α3 α4 α5 : Type} (A : (α1 → α2 → α3 → α4 → α5 → Hp → Prop) → Prop) (B : α1 → α2 → α3 → α4 → α5 → Hp → Prop) : Prop :=
  JoinT (σ := α1 × α2 × α3 × α4 × α5) (fun R => A (fun x1 x2 x3 x4 x5 h => R (x1, x2, x3, x4, x5) h)) (fun p h => B p.1 p.2.1 p.2.2.1 p.2.2.2.1 p.2.2.2.2 h)
theorem JoinW5.intro {α1 α2 α3 α4 α5 : Type} {A : (α1 → α2 → α3 → α4 → α5 → Hp → Prop) → Prop} {B : α1 → α2 → α3 → α4 → α5 → Hp → Prop} (R : α1 → α2 → α3 → α4 → α5 → Hp → Prop) (hA : A R) (hB : ∀ x1 x2 x3 x4 x5 h, R x1 x2 x3 x4 x5 h → B x1 x2 x3 x4 x5 h) : JoinW5 A B :=
  ⟨fun p h => R p.1 p.2.1 p.2.2.1 p.2.2.2.1 p.2.2.2.2 h, hA, fun p h hr => hB p.1 p.2.1 p.2.2.1 p.2.2.2.1 p.2.2.2.2 h hr⟩
theorem JoinW5.direct {α1 α2 α3 α4 α5 : Type} {A : (α1 → α2 → α3 → α4 → α5 → Hp → Prop) → Prop} {B : α1 → α2 → α3 → α4 → α5 → Hp → Prop} (hA : A B) : JoinW5 A B := JoinW5.intro B hA (fun _ _ _ _ _ _ hr => hr)
def LoopW5 {α1 α2 α3 α4 α5 : Type} (body : (α1 → α2 → α3 → α4 → α5 → Hp → Prop) → α1 → α2 → α3 → α4 → α5 → Hp → Prop) (x1 : α1) (x2 : α2) (x3 : α3) (x4 : α4) (x5 : α5) (h : Hp) : Prop :=
  LoopT (σ := α1 × α2 × α3 × α4 × α5) (fun R p h => body (fun x1 x2 x3 x4 x5 h => R (x1, x2, x3, x4, x5) h) p.1 p.2.1 p.2.2.1 p.2.2.2.1 p.2.2.2.2 h) (x1, x2, x3, x4, x5) h
theorem LoopW5.intro {α1 α2 α3 α4 α5 : Type} {body : (α1 → α2 → α3 → α4 → α5 → Hp → Prop) → α1 → α2 → α3 → α4 → α5 → Hp → Prop} {x1 : α1} {x2 : α2} {x3 : α3} {x4 : α4} {x5 : α5} {h : Hp} (I : α1 → α2 → α3 → α4 → α5 → Hp → Prop) (μ : α1 → α2 → α3 → α4 → α5 → Hp → Nat)
    (h0 : I x1 x2 x3 x4 x5 h) (hr : ∀ x1 x2 x3 x4 x5 k, I x1 x2 x3 x4 x5 k → body (fun y1 y2 y3 y4 y5 k' => I y1 y2 y3 y4 y5 k' ∧ μ y1 y2 y3 y4 y5 k' < μ x1 x2 x3 x4 x5 k) x1 x2 x3 x4 x5 k) : LoopW5 body x1 x2 x3 x4 x5 h :=
  ⟨fun p h => I p.1 p.2.1 p.2.2.1 p.2.2.2.1 p.2.2.2.2 h, fun p h => μ p.1 p.2.1 p.2.2.1 p.2.2.2.1 p.2.2.2.2 h, h0, fun p k hk => hr p.1 p.2.1 p.2.2.1 p.2.2.2.1 p.2.2.2.2 k hk⟩

def JoinW6 {α1 α2 α3 α4 α5 α6 : Type} (A : (α1 → α2 → α3 → α4 → α5 → α6 → Hp → Prop) → Prop) (B : α1 → α2 → α3 → α4 → α5 → α6 → Hp → Prop) : Prop :=
  JoinT (σ := α1 × α2 × α3 × α4 × α5 × α6) (fun R => A (fun x1 x2 x3 x4 x5 x6 h => R (x1, x2, x3, x4, x5, x6) h)) (fun p h => B p.1 p.2.1 p.2.2.1 p.2.2.2.1 p.2.2.2.2.1 p.2.2.2.2.2 h)
theorem JoinW6.intro {α1 α2 α3 α4 α5 α6 : Type} {A : (α1 → α2 → α3 → α4 → α5 → α6 → Hp → Prop) → Prop} {B : α1 → α2 → α3 → α4 → α5 → α6 → Hp → Prop} (R : α1 → α2 → α3 → α4 → α5 → α6 → Hp → Prop) (hA : A R) (hB : ∀ x1 x2 x3 x4 x5 x6 h, R x1 x2 x3 x4 x5 x6 h → B x1 x2 x3 x4 x5 x6 h) : JoinW6 A B :=
  ⟨fun p h => R p.1 p.2.1 p.2.2.1 p.2.2.2.1 p.2.2.2.2.1 p.2.2.2.2.2 h, hA, fun p h hr => hB p.1 p.2.1 p.2.2.1 p.2.2.2.1 p.2.2.2.2.1 p.2.2.2.2.2 h hr⟩
theorem JoinW6.direct {α1 α2 α3 α4 α5 α6 : Type} {A : (α1 → α2 → α3 → α4 → α5 → α6 → Hp → Prop) → Prop} {B : α1 → α2 → α3 → α4 → α5 → α6 → Hp → Prop} (hA : A B) : JoinW6 A B := JoinW6.intro B hA (fun _ _ _ _ _ _ _ hr => hr)
def LoopW6 {α1 α2 α3 α4 α5 α6 : Type} (body : (α1 → α2 → α3 → α4 → α5 → α6 → Hp → Prop) → α1 → α2 → α3 → α4 → α5 → α6 → Hp → Prop) (x1 : α1) (x2 : α2) (x3 : α3) (x4 : α4) (x5 : α5) (x6 : α6) (h : Hp) : Prop :=
  LoopT (σ := α1 × α2 × α3 × α4 × α5 × α6) (fun R p h => body (fun x1 x2 x3 x4 x5 x6 h => R (x1, x2, x3, x4, x5, x6) h) p.1 p.2.1 p.2.2.1 p.2.2.2.1 p.2.2.2.2.1 p.2.2.2.2.2 h) (x1, x2, x3, x4, x5, x6) h
theorem LoopW6.intro {α1 α2 α3 α4 α5 α6 : Type} {body : (α1 → α2 → α3 → α4 → α5 → α6 → Hp → Prop) → α1 → α2 → α3 → α4 → α5 → α6 → Hp → Prop} {x1 : α1} {x2 : α2} {x3 : α3} {x4 : α4} {x5 : α5} {x6 : α6} {h : Hp} (I : α1 → α2 → α3 → α4 → α5 → α6 → Hp → Prop) (μ : α1 → α2 → α3 → α4 → α5 → α6 → Hp → Nat)
    (h0 : I x1 x2 x3 x4 x5 x6 h) (hr : ∀ x1 x2 x3 x4 x5 x6 k, I x1 x2 x3 x4 x5 x6 k → body (fun y1 y2 y3 y4 y5 y6 k' => I y1 y2 y3 y4 y5 y6 k' ∧ μ y1 y2 y3 y4 y5 y6 k' < μ x1 x2 x3 x4 x5 x6 k) x1 x2 x3 x4 x5 x6 k) : LoopW6 body x1 x2 x3 x4 x5 x6 h :=
  ⟨fun p h => I p.1 p.2.1 p.2.2.1 p.2.2.2.1 p.2.2.2.2.1 p.2.2.2.2.2 h, fun p h => μ p.1 p.2.1 p.2.2.1 p.2.2.2.1 p.2.2.2.2.1 p.2.2.2.2.2 h, h0, fun p k hk => hr p.1 p.2.1 p.2.2.1 p.2.2.2.1 p.2.2.2.2.1 p.2.2.2.2.2 k hk⟩

def JoinW7 {α1 α2 α3 α4 α5 α6 α7 : Type} (A : (α1 → α2 → α3 → α4 → α5 → α6 → α7 → Hp → Prop) → Prop) (B : α1 → α2 → α3 → α4 → α5 → α6 → α7 → Hp → Prop) : Prop :=
  JoinT (σ := α1 × α2 × α3 × α4 × α5 × α6 × α7) (fun R => A (fun x1 x2 x3 x4 x5 x6 x7 h => R (x1, x2, x3, x4, x5, x6, x7) h)) (fun p h => B p.1 p.2.1 p.2.2.1 p.2.2.2.1 p.2.2.2.2.1 p.2.2.2.2.2.1 p.2.2.2.2.2.2 h)
theorem JoinW7.intro {α1 α2 α3 α4 α5 α6 α7 : Type} {A : (α1 → α2 → α3 → α4 → α5 → α6 → α7 → Hp → Prop) → Prop} {B : α1 → α2 → α3 → α4 → α5 → α6 → α7 → Hp → Prop} (R : α1 → α2 → α3 → α4 → α5 → α6 → α7 → Hp → Prop) (hA : A R) (hB : ∀ x1 x2 x3 x4 x5 x6 x7 h, R x1 x2 x3 x4 x5 x6 x7 h → B x1 x2 x3 x4 x5 x6 x7 h) : JoinW7 A B :=
  ⟨fun p h => R p.1 p.2.1 p.2.2.1 p.2.2.2.1 p.2.2.2.2.1 p.2.2.2.2.2.1 p.2.2.2.2.2.2 h, hA, fun p h hr => hB p.1 p.2.1 p.2.2.1 p.2.2.2.1 p.2.2.2.2.1 p.2.2.2.2.2.1 p.2.2.2.2.2.2 h hr⟩
theorem JoinW7.direct {α1 α2 α3 α4 α5 α6 α7 : Type} {A : (α1 → α2 → α3 → α4 → α5 → α6 → α7 → Hp → Prop) → Prop} {B : α1 → α2 → α3 → α4 → α5 → α6 → α7 → Hp → Prop} (hA : A B) : JoinW7 A B := JoinW7.intro B hA (fun _ _ _ _ _ _ _ _ hr => hr)
def LoopW7 {α1 α2 α3 α4 α5 α6 α7 : Type} (body : (α1 → α2 → α3 → α4 → α5 → α6 → α7 → Hp → Prop) → α1 → α2 → α3 → α4 → α5 → α6 → α7 → Hp → Prop) (x1 : α1) (x2 : α2) (x3 : α3) (x4 : α4) (x5 : α5) (x6 : α6) (x7 : α7) (h : Hp) : Prop :=
  LoopT (σ := α1 × α2 × α3 × α4 × α5 × α6 × α7) (fun R p h => body (fun x1 x2 x3 x4 x5 x6 x7 h => R (x1, x2, x3, x4, x5, x6, x7) h) p.1 p.2.1 p.2.2.1 p.2.2.2.1 p.2.2.2.2.1 p.2.2.2.2.2.1 p.2.2.2.2.2.2 h) (x1, x2, x3, x4, x5, x6, x7) h
theorem LoopW7.intro {α1 α2 α3 α4 α5 α6 α7 : Type} {body : (α1 → α2 → α3 → α4 → α5 → α6 → α7 → Hp → Prop) → α1 → α2 → α3 → α4 → α5 → α6 → α7 → Hp → Prop} {x1 : α1} {x2 : α2} {x3 : α3} {x4 : α4} {x5 : α5} {x6 : α6} {x7 : α7} {h : Hp} (I : α1 → α2 → α3 → α4 → α5 → α6 → α7 → Hp → Prop) (μ : α1 → α2 → α3 → α4 → α5 → α6 → α7 → Hp → Nat)
    (h0 : I x1 x2 x3 x4 x5 x6 x7 h) (hr : ∀ x1 x2 x3 x4 x5 x6 x7 k, I x1 x2 x3 x4 x5 x6 x7 k → body (fun y1 y2 y3 y4 y5 y6 y7 k' => I y1 y2 y3 y4 y5 y6 y7 k' ∧ μ y1 y2 y3 y4 y5 y6 y7 k' < μ x1 x2 x3 x4 x5 x6 x7 k) x1 x2 x3 x4 x5 x6 x7 k) : LoopW7 body x1 x2 x3 x4 x5 x6 x7 h :=
  ⟨fun p h => I p.1 p.2.1 p.2.2.1 p.2.2.2.1 p.2.2.2.2.1 p.2.2.2.2.2.1 p.2.2.2.2.2.2 h, fun p h => μ p.1 p.2.1 p.2.2.1 p.2.2.2.1 p.2.2.2.2.1 p.2.2.2.2.2.1 p.2.2.2.2.2.2 h, h0, fun p k hk => hr p.1 p.2.1 p.2.2.1 p.2.2.2.1 p.2.2.2.2.1 p.2.2.2.2.2.1 p.2.2.2.2.2.2 k hk⟩

def JoinW8 {α1 α2 α3 α4 α5 α6 α7 α8 : Type} (A : (α1 → α2 → α3 → α4 → α5 → α6 → α7 → α8 → Hp → Prop) → Prop) (B : α1 → α2 → α3 → α4 → α5 → α6 → α7 → α8 → Hp → Prop) : Prop :=
  JoinT (σ := α1 × α2 × α3 × α4 × α5 × α6 × α7 × α8) (fun R => A (fun x1 x2 x3 x4 x5 x6 x7 x8 h => R (x1, x2, x3, x4, x5, x6, x7, x8) h)) (fun p h => B p.1 p.2.1 p.2.2.1 p.2.2.2.1 p.2.2.2.2.1 p.2.2.2.2.2.1 p.2.2.2.2.2.2.1 p.2.2.2.2.2.2.2 h)
theorem JoinW8.intro {α1 α2 α3 α4 α5 α6 α7 α8 : Type} {A : (α1 → α2 → α3 → α4 → α5 → α6 → α7 → α8 → Hp → Prop) → Prop} {B : α1 → α2 → α3 → α4 → α5 → α6 → α7 → α8 → Hp → Prop} (R : α1 → α2 → α3 → α4 → α5 → α6 → α7 → α8 → Hp → Prop) (hA : A R) (hB : ∀ x1 x2 x3 x4 x5 x6 x7 x8 h, R x1 x2 x3 x4 x5 x6 x7 x8 h → B x1 x2 x3 x4 x5 x6 x7 x8 h) : JoinW8 A B :=
  ⟨fun p h => R p.1 p.2.1 p.2.2.1 p.2.2.2.1 p.2.2.2.2.1 p.2.2.2.2.2.1 p.2.2.2.2.2.2.1 p.2.2.2.2.2.2.2 h, hA, fun p h hr => hB p.1 p.2.1 p.2.2.1 p.2.2.2.1 p.2.2.2.2.1 p.2.2.2.2.2.1 p.2.2.2.2.2.2.1 p.2.2.2.2.2.2.2 h hr⟩
theorem JoinW8.direct {α1 α2 α3 α4 α5 α6 α7 α8 : Type} {A : (α1 → α2 → α3 → α4 → α5 → α6 → α7 → α8 → Hp → Prop) → Prop} {B : α1 → α2 → α3 → α4 → α5 → α6 → α7 → α8 → Hp → Prop} (hA : A B) : JoinW8 A B := JoinW8.intro B hA (fun _ _ _ _ _ _ _ _ _ hr => hr)
def LoopW8 {α1 α2 α3 α4 α5 α6 α7 α8 : Type} (body : (α1 → α2 → α3 → α4 → α5 → α6 → α7 → α8 → Hp → Prop) → α1 → α2 → α3 → α4 → α5 → α6 → α7 → α8 → Hp → Prop) (x1 : α1) (x2 : α2) (x3 : α3) (x4 : α4) (x5 : α5) (x6 : α6) (x7 : α7) (x8 : α8) (h : Hp) : Prop :=
  LoopT (σ := α1 × α2 × α3 × α4 × α5 × α6 × α7 × α8) (fun R p h => body (fun x1 x2 x3 x4 x5 x6 x7 x8 h => R (x1, x2, x3, x4, x5, x6, x7, x8) h) p.1 p.2.1 p.2.2.1 p.2.2.2.1 p.2.2.2.2.1 p.2.2.2.2.2.1 p.2.2.2.2.2.2.1 p.2.2.2.2.2.2.2 h) (x1, x2, x3, x4, x5, x6, x7, x8) h
theorem LoopW8.intro {α1 α2 α3 α4 α5 α6 α7 α8 : Type} {body : (α1 → α2 → α3 → α4 → α5 → α6 → α7 → α8 → Hp → Prop) → α1 → α2 → α3 → α4 → α5 → α6 → α7 → α8 → Hp → Prop} {x1 : α1} {x2 : α2} {x3 : α3} {x4 : α4} {x5 : α5} {x6 : α6} {x7 : α7} {x8 : α8} {h : Hp} (I : α1 → α2 → α3 → α4 → α5 → α6 → α7 → α8 → Hp → Prop) (μ : α1 → α2 → α3 → α4 → α5 → α6 → α7 → α8 → Hp → Nat)
    (h0 : I x1 x2 x3 x4 x5 x6 x7 x8 h) (hr : ∀ x1 x2 x3 x4 x5 x6 x7 x8 k, I x1 x2 x3 x4 x5 x6 x7 x8 k → body (fun y1 y2 y3 y4 y5 y6 y7 y8 k' => I y1 y2 y3 y4 y5 y6 y7 y8 k' ∧ μ y1 y2 y3 y4 y5 y6 y7 y8 k' < μ x1 x2 x3 x4 x5 x6 x7 x8 k) x1 x2 x3 x4 x5 x6 x7 x8 k) : LoopW8 body x1 x2 x3 x4 x5 x6 x7 x8 h :=
  ⟨fun p h => I p.1 p.2.1 p.2.2.1 p.2.2.2.1 p.2.2.2.2.1 p.2.2.2.2.2.1 p.2.2.2.2.2.2.1 p.2.2.2.2.2.2.2 h, fun p h => μ p.1 p.2.1 p.2.2.1 p.2.2.2.1 p.2.2.2.2.1 p.2.2.2.2.2.1 p.2.2.2.2.2.2.1 p.2.2.2.2.2.2.2 h, h0, fun p k hk => hr p.1 p.2.1 p.2.2.1 p.2.2.2.1 p.2.2.2.2.1 p.2.2.2.2.2.1 p.2.2.2.2.2.2.1 p.2.2.2.2.2.2.2 k hk⟩

def JoinW9 {α1 α2 α3 α4 α5 α6 α7 α8 α9 : Type} (A : (α1 → α2 → α3 → α4 → α5 → α6 → α7 → α8 → α9 → Hp → Prop) → Prop) (B : α1 → α2 → α3 → α4 → α5 → α6 → α7 → α8 → α9 → Hp → Prop) : Prop :=
  JoinT (σ := α1 × α2 × α3 × α4 × α5 × α6 × α7 × α8 × α9) (fun R => A (fun x1 x2 x3 x4 x5 x6 x7 x8 x9 h => R (x1, x2, x3, x4, x5, x6, x7, x8, x9) h)) (fun p h => B p.1 p.2.1 p.2.2.1 p.2.2.2.1 p.2.2.2.2.1 p.2.2.2.2.2.1 p.2.2.2.2.2.2.1 p.2.2.2.2.2.2.2.1 p.2.2.2.2.2.2.2.2 h)
theorem JoinW9.intro {α1 α2 α3 α4 α5 α6 α7 α8 α9 : Type} {A : (α1 → α2 → α3 → α4 → α5 → α6 → α7 → α8 → α9 → Hp → Prop) → Prop} {B : α1 → α2 → α3 → α4 → α5 → α6 → α7 → α8 → α9 → Hp → Prop} (R : α1 → α2 → α3 → α4 → α5 → α6 → α7 → α8 → α9 → Hp → Prop) (hA : A R) (hB : ∀ x1 x2 x3 x4 x5 x6 x7 x8 x9 h, R x1 x2 x3 x4 x5 x6 x7 x8 x9 h → B x1 x2 x3 x4 x5 x6 x7 x8 x9 h) : JoinW9 A B :=
  ⟨fun p h => R p.1 p.2.1 p.2.2.1 p.2.2.2.1 p.2.2.2.2.1 p.2.2.2.2.2.1 p.2.2.2.2.2.2.1 p.2.2.2.2.2.2.2.1 p.2.2.2.2.2.2.2.2 h, hA, fun p h hr => hB p.1 p.2.1 p.2.2.1 p.2.2.2.1 p.2.2.2.2.1 p.2.2.2.2.2.1 p.2.2.2.2.2.2.1 p.2.2.2.2.2.2.2.1 p.2.2.2.2.2.2.2.2 h hr⟩
theorem JoinW9.direct {α1 α2 α3 α4 α5 α6 α7 α8 α9 : Type} {A : (α1 → α2 → α3 → α4 → α5 → α6 → α7 → α8 → α9 → Hp → Prop) → Prop} {B : α1 → α2 → α3 → α4 → α5 → α6 → α7 → α8 → α9 → Hp → Prop} (hA : A B) : JoinW9 A B := JoinW9.intro B hA (fun _ _ _ _ _ _ _ _ _ _ hr => hr)
def LoopW9 {α1 α2 α3 α4 α5 α6 α7 α8 α9 : Type} (body : (α1 → α2 → α3 → α4 → α5 → α6 → α7 → α8 → α9 → Hp → Prop) → α1 → α2 → α3 → α4 → α5 → α6 → α7 → α8 → α9 → Hp → Prop) (x1 : α1) (x2 : α2) (x3 : α3) (x4 : α4) (x5 : α5) (x6 : α6) (x7 : α7) (x8 : α8) (x9 : α9) (h : Hp) : Prop :=
  LoopT (σ := α1 × α2 × α3 × α4 × α5 × α6 × α7 × α8 × α9) (fun R p h => body (fun x1 x2 x3 x4 x5 x6 x7 x8 x9 h => R (x1, x2, x3, x4, x5, x6, x7, x8, x9) h) p.1 p.2.1 p.2.2.1 p.2.2.2.1 p.2.2.2.2.1 p.2.2.2.2.2.1 p.2.2.2.2.2.2.1 p.2.2.2.2.2.2.2.1 p.2.2.2.2.2.2.2.2 h) (x1, x2, x3, x4, x5, x6, x7, x8, x9) h
theorem LoopW9.intro {α1 α2 α3 α4 α5 α6 α7 α8 α9 : Type} {body : (α1 → α2 → α3 → α4 → α5 → α6 → α7 → α8 → α9 → Hp → Prop) → α1 → α2 → α3 → α4 → α5 → α6 → α7 → α8 → α9 → Hp → Prop} {x1 : α1} {x2 : α2} {x3 : α3} {x4 : α4} {x5 : α5} {x6 : α6} {x7 : α7} {x8 : α8} {x9 : α9} {h : Hp} (I : α1 → α2 → α3 → α4 → α5 → α6 → α7 → α8 → α9 → Hp → Prop) (μ : α1 → α2 → α3 → α4 → α5 → α6 → α7 → α8 → α9 → Hp → Nat)
    (h0 : I x1 x2 x3 x4 x5 x6 x7 x8 x9 h) (hr : ∀ x1 x2 x3 x4 x5 x6 x7 x8 x9 k, I x1 x2 x3 x4 x5 x6 x7 x8 x9 k → body (fun y1 y2 y3 y4 y5 y6 y7 y8 y9 k' => I y1 y2 y3 y4 y5 y6 y7 y8 y9 k' ∧ μ y1 y2 y3 y4 y5 y6 y7 y8 y9 k' < μ x1 x2 x3 x4 x5 x6 x7 x8 x9 k) x1 x2 x3 x4 x5 x6 x7 x8 x9 k) : LoopW9 body x1 x2 x3 x4 x5 x6 x7 x8 x9 h :=
  ⟨fun p h => I p.1 p.2.1 p.2.2.1 p.2.2.2.1 p.2.2.2.2.1 p.2.2.2.2.2.1 p.2.2.2.2.2.2.1 p.2.2.2.2.2.2.2.1 p.2.2.2.2.2.2.2.2 h, fun p h => μ p.1 p.2.1 p.2.2.1 p.2.2.2.1 p.2.2.2.2.1 p.2.2.2.2.2.1 p.2.2.2.2.2.2.1 p.2.2.2.2.2.2.2.1 p.2.2.2.2.2.2.2.2 h, h0, fun p k hk => hr p.1 p.2.1 p.2.2.1 p.2.2.2.1 p.2.2.2.2.1 p.2.2.2.2.2.1 p.2.2.2.2.2.2.1 p.2.2.2.2.2.2.2.1 p.2.2.2.2.2.2.2.2 k hk⟩

def JoinW10 {α1 α2 α3 α4 α5 α6 α7 α8 α9 α10 : Type} (A : (α1 → α2 → α3 → α4 → α5 → α6 → α7 → α8 → α9 → α10 → Hp → Prop) → Prop) (B : α1 → α2 → α3 → α4 → α5 → α6 → α7 → α8 → α9 → α10 → Hp → Prop) : Prop :=
  JoinT (σ := α1 × α2 × α3 × α4 × α5 × α6 × α7 × α8 × α9 × α10) (fun R => A (fun x1 x2 x3 x4 x5 x6 x7 x8 x9 x10 h => R (x1, x2, x3, x4, x5, x6, x7, x8, x9, x10) h)) (fun p h => B p.1 p.2.1 p.2.2.1 p.2.2.2.1 p.2.2.2.2.1 p.2.2.2.2.2.1 p.2.2.2.2.2.2.1 p.2.2.2.2.2.2.2.1 p.2.2.2.2.2.2.2.2.1 p.2.2.2.2.2.2.2.2.2 h)
theorem JoinW10.intro {α1 α2 α3 α4 α5 α6 α7 α8 α9 α10 : Type} {A : (α1 → α2 → α3 → α4 → α5 → α6 → α7 → α8 → α9 → α10 → Hp → Prop) → Prop} {B : α1 → α2 → α3 → α4 → α5 → α6 → α7 → α8 → α9 → α10 → Hp → Prop} (R : α1 → α2 → α3 → α4 → α5 → α6 → α7 → α8 → α9 → α10 → Hp → Prop) (hA : A R) (hB : ∀ x1 x2 x3 x4 x5 x6 x7 x8 x9 x10 h, R x1 x2 x3 x4 x5 x6 x7 x8 x9 x10 h → B x1 x2 x3 x4 x5 x6 x7 x8 x9 x10 h) : JoinW10 A B :=
  ⟨fun p h => R p.1 p.2.1 p.2.2.1 p.2.2.2.1 p.2.2.2.2.1 p.2.2.2.2.2.1 p.2.2.2.2.2.2.1 p.2.2.2.2.2.2.2.1 p.2.2.2.2.2.2.2.2.1 p.2.2.2.2.2.2.2.2.2 h, hA, fun p h hr => hB p.1 p.2.1 p.2.2.1 p.2.2.2.1 p.2.2.2.2.1 p.2.2.2.2.2.1 p.2.2.2.2.2.2.1 p.2.2.2.2.2.2.2.1 p.2.2.2.2.2.2.2.2.1 p.2.2.2.2.2.2.2.2.2 h hr⟩
theorem JoinW10.direct {α1 α2 α3 α4 α5 α6 α7 α8 α9 α10 : Type} {A : (α1 → α2 → α3 → α4 → α5 → α6 → α7 → α8 → α9 → α10 → Hp → Prop) → Prop} {B : α1 → α2 → α3 → α4 → α5 → α6 → α7 → α8 → α9 → α10 → Hp → Prop} (hA : A B) : JoinW10 A B := JoinW10.intro B hA (fun _ _ _ _ _ _ _ _ _ _ _ hr => hr)
def LoopW10 {α1 α2 α3 α4 α5 α6 α7 α8 α9 α10 : Type} (body : (α1 → α2 → α3 → α4 → α5 → α6 → α7 → α8 → α9 → α10 → Hp → Prop) → α1 → α2 → α3 → α4 → α5 → α6 → α7 → α8 → α9 → α10 → Hp → Prop) (x1 : α1) (x2 : α2) (x3 : α3) (x4 : α4) (x5 : α5) (x6 : α6) (x7 : α7) (x8 : α8) (x9 : α9) (x10 : α10) (h : Hp) : Prop :=
  LoopT (σ := α1 × α2 × α3 × α4 × α5 × α6 × α7 × α8 × α9 × α10) (fun R p h => body (fun x1 x2 x3 x4 x5 x6 x7 x8 x9 x10 h => R (x1, x2, x3, x4, x5, x6, x7, x8, x9, x10) h) p.1 p.2.1 p.2.2.1 p.2.2.2.1 p.2.2.2.2.1 p.2.2.2.2.2.1 p.2.2.2.2.2.2.1 p.2.2.2.2.2.2.2.1 p.2.2.2.2.2.2.2.2.1 p.2.2.2.2.2.2.2.2.2 h) (x1, x2, x3, x4, x5, x6, x7, x8, x9, x10) h
theorem LoopW10.intro {α1 α2 α3 α4 α5 α6 α7 α8 α9 α10 : Type} {body : (α1 → α2 → α3 → α4 → α5 → α6 → α7 → α8 → α9 → α10 → Hp → Prop) → α1 → α2 → α3 → α4 → α5 → α6 → α7 → α8 → α9 → α10 → Hp → Prop} {x1 : α1} {x2 : α2} {x3 : α3} {x4 : α4} {x5 : α5} {x6 : α6} {x7 : α7} {x8 : α8} {x9 : α9} {x10 : α10} {h : Hp} (I : α1 → α2 → α3 → α4 → α5 → α6 → α7 → α8 → α9 → α10 → Hp → Prop) (μ : α1 → α2 → α3 → α4 → α5 → α6 → α7 → α8 → α9 → α10 → Hp → Nat)
    (h0 : I x1 x2 x3 x4 x5 x6 x7 x8 x9 x10 h) (hr : ∀ x1 x2 x3 x4 x5 x6 x7 x8 x9 x10 k, I x1 x2 x3 x4 x5 x6 x7 x8 x9 x10 k → body (fun y1 y2 y3 y4 y5 y6 y7 y8 y9 y10 k' => I y1 y2 y3 y4 y5 y6 y7 y8 y9 y10 k' ∧ μ y1 y2 y3 y4 y5 y6 y7 y8 y9 y10 k' < μ x1 x2 x3 x4 x5 x6 x7 x8 x9 x10 k) x1 x2 x3 x4 x5 x6 x7 x8 x9 x10 k) : LoopW10 body x1 x2 x3 x4 x5 x6 x7 x8 x9 x10 h :=
  ⟨fun p h => I p.1 p.2.1 p.2.2.1 p.2.2.2.1 p.2.2.2.2.1 p.2.2.2.2.2.1 p.2.2.2.2.2.2.1 p.2.2.2.2.2.2.2.1 p.2.2.2.2.2.2.2.2.1 p.2.2.2.2.2.2.2.2.2 h, fun p h => μ p.1 p.2.1 p.2.2.1 p.2.2.2.1 p.2.2.2.2.1 p.2.2.2.2.2.1 p.2.2.2.2.2.2.1 p.2.2.2.2.2.2.2.1 p.2.2.2.2.2.2.2.2.1 p.2.2.2.2.2.2.2.2.2 h, h0, fun p k hk => hr p.1 p.2.1 p.2.2.1 p.2.2.2.1 p.2.2.2.2.1 p.2.2.2.2.2.1 p.2.2.2.2.2.2.1 p.2.2.2.2.2.2.2.1 p.2.2.2.2.2.2.2.2.1 p.2.2.2.2.2.2.2.2.2 k hk⟩

def JoinW11 {α1 α2 α3 α4 α5 α6 α7 α8 α9 α10 α11 : Type} (A : (α1 → α2 → α3 → α4 → α5 → α6 → α7 → α8 → α9 → α10 → α11 → Hp → Prop) → Prop) (B : α1 → α2 → α3 → α4 → α5 → α6 → α7 → α8 → α9 → α10 → α11 → Hp → Prop) : Prop :=
  JoinT (σ := α1 × α2 × α3 × α4 × α5 × α6 × α7 × α8 × α9 × α10 × α11) (fun R => A (fun x1 x2 x3 x4 x5 x6 x7 x8 x9 x10 x11 h => R (x1, x2, x3, x4, x5, x6, x7, x8, x9, x10, x11) h)) (fun p h => B p.1 p.2.1 p.2.2.1 p.2.2.2.1 p.2.2.2.2.1 p.2.2.2.2.2.1 p.2.2.2.2.2.2.1 p.2.2.2.2.2.2.2.1 p.2.2.2.2.2.2.2.2.1 p.2.2.2.2.2.2.2.2.2.1 p.2.2.2.2.2.2.2.2.2.2 h)
theorem JoinW11.intro {α1 α2 α3 α4 α5 α6 α7 α8 α9 α10 α11 : Type} {A : (α1 → α2 → α3 → α4 → α5 → α6 → α7 → α8 → α9 → α10 → α11 → Hp → Prop) → Prop} {B : α1 → α2 → α3 → α4 → α5 → α6 → α7 → α8 → α9 → α10 → α11 → Hp → Prop} (R : α1 → α2 → α3 → α4 → α5 → α6 → α7 → α8 → α9 → α10 → α11 → Hp → Prop) (hA : A R) (hB : ∀ x1 x2 x3 x4 x5 x6 x7 x8 x9 x10 x11 h, R x1 x2 x3 x4 x5 x6 x7 x8 x9 x10 x11 h → B x1 x2 x3 x4 x5 x6 x7 x8 x9 x10 x11 h) : JoinW11 A B :=
  ⟨fun p h => R p.1 p.2.1 p.2.2.1 p.2.2.2.1 p.2.2.2.2.1 p.2.2.2.2.2.1 p.2.2.2.2.2.2.1 p.2.2.2.2.2.2.2.1 p.2.2.2.2.2.2.2.2.1 p.2.2.2.2.2.2.2.2.2.1 p.2.2.2.2.2.2.2.2.2.2 h, hA, fun p h hr => hB p.1 p.2.1 p.2.2.1 p.2.2.2.1 p.2.2.2.2.1 p.2.2.2.2.2.1 p.2.2.2.2.2.2.1 p.2.2.2.2.2.2.2.1 p.2.2.2.2.2.2.2.2.1 p.2.2.2.2.2.2.2.2.2.1 p.2.2.2.2.2.2.2.2.2.2 h hr⟩
theorem JoinW11.direct {α1 α2 α3 α4 α5 α6 α7 α8 α9 α10 α11 : Type} {A : (α1 → α2 → α3 → α4 → α5 → α6 → α7 → α8 → α9 → α10 → α11 → Hp → Prop) → Prop} {B : α1 → α2 → α3 → α4 → α5 → α6 → α7 → α8 → α9 → α10 → α11 → Hp → Prop} (hA : A B) : JoinW11 A B := JoinW11.intro B hA (fun _ _ _ _ _ _ _ _ _ _ _ _ hr => hr)
def LoopW11 {α1 α2 α3 α4 α5 α6 α7 α8 α9 α10 α11 : Type} (body : (α1 → α2 → α3 → α4 → α5 → α6 → α7 → α8 → α9 → α10 → α11 → Hp → Prop) → α1 → α2 → α3 → α4 → α5 → α6 → α7 → α8 → α9 → α10 → α11 → Hp → Prop) (x1 : α1) (x2 : α2) (x3 : α3) (x4 : α4) (x5 : α5) (x6 : α6) (x7 : α7) (x8 : α8) (x9 : α9) (x10 : α10) (x11 : α11) (h : Hp) : Prop :=
  LoopT (σ := α1 × α2 × α3 × α4 × α5 × α6 × α7 × α8 × α9 × α10 × α11) (fun R p h => body (fun x1 x2 x3 x4 x5 x6 x7 x8 x9 x10 x11 h => R (x1, x2, x3, x4, x5, x6, x7, x8, x9, x10, x11) h) p.1 p.2.1 p.2.2.1 p.2.2.2.1 p.2.2.2.2.1 p.2.2.2.2.2.1 p.2.2.2.2.2.2.1 p.2.2.2.2.2.2.2.1 p.2.2.2.2.2.2.2.2.1 p.2.2.2.2.2.2.2.2.2.1 p.2.2.2.2.2.2.2.2.2.2 h) (x1, x2, x3, x4, x5, x6, x7, x8, x9, x10, x11) h
theorem LoopW11.intro {α1 α2 α3 α4 α5 α6 α7 α8 α9 α10 α11 : Type} {body : (α1 → α2 → α3 → α4 → α5 → α6 → α7 → α8 → α9 → α10 → α11 → Hp → Prop) → α1 → α2 → α3 → α4 → α5 → α6 → α7 → α8 → α9 → α10 → α11 → Hp → Prop} {x1 : α1} {x2 : α2} {x3 : α3} {x4 : α4} {x5 : α5} {x6 : α6} {x7 : α7} {x8 : α8} {x9 : α9} {x10 : α10} {x11 : α11} {h : Hp} (I : α1 → α2 → α3 → α4 → α5 → α6 → α7 → α8 → α9 → α10 → α11 → Hp → Prop) (μ : α1 → α2 → α3 → α4 → α5 → α6 → α7 → α8 → α9 → α10 → α11 → Hp → Nat)
    (h0 : I x1 x2 x3 x4 x5 x6 x7 x8 x9 x10 x11 h) (hr : ∀ x1 x2 x3 x4 x5 x6 x7 x8 x9 x10 x11 k, I x1 x2 x3 x4 x5 x6 x7 x8 x9 x10 x11 k → body (fun y1 y2 y3 y4 y5 y6 y7 y8 y9 y10 y11 k' => I y1 y2 y3 y4 y5 y6 y7 y8 y9 y10 y11 k' ∧ μ y1 y2 y3 y4 y5 y6 y7 y8 y9 y10 y11 k' < μ x1 x2 x3 x4 x5 x6 x7 x8 x9 x10 x11 k) x1 x2 x3 x4 x5 x6 x7 x8 x9 x10 x11 k) : LoopW11 body x1 x2 x3 x4 x5 x6 x7 x8 x9 x10 x11 h :=
  ⟨fun p h => I p.1 p.2.1 p.2.2.1 p.2.2.2.1 p.2.2.2.2.1 p.2.2.2.2.2.1 p.2.2.2.2.2.2.1 p.2.2.2.2.2.2.2.1 p.2.2.2.2.2.2.2.2.1 p.2.2.2.2.2.2.2.2.2.1 p.2.2.2.2.2.2.2.2.2.2 h, fun p h => μ p.1 p.2.1 p.2.2.1 p.2.2.2.1 p.2.2.2.2.1 p.2.2.2.2.2.1 p.2.2.2.2.2.2.1 p.2.2.2.2.2.2.2.1 p.2.2.2.2.2.2.2.2.1 p.2.2.2.2.2.2.2.2.2.1 p.2.2.2.2.2.2.2.2.2.2 h, h0, fun p k hk => hr p.1 p.2.1 p.2.2.1 p.2.2.2.1 p.2.2.2.2.1 p.2.2.2.2.2.1 p.2.2.2.2.2.2.1 p.2.2.2.2.2.2.2.1 p.2.2.2.2.2.2.2.2.1 p.2.2.2.2.2.2.2.2.2.1 p.2.2.2.2.2.2.2.2.2.2 k hk⟩

def JoinW12 {α1 α2 α3 α4 α5 α6 α7 α8 α9 α10 α11 α12 : Type} (A : (α1 → α2 → α3 → α4 → α5 → α6 → α7 → α8 → α9 → α10 → α11 → α12 → Hp → Prop) → Prop) (B : α1 → α2 → α3 → α4 → α5 → α6 → α7 → α8 → α9 → α10 → α11 → α12 → Hp → Prop) : Prop :=
  JoinT (σ := α1 × α2 × α3 × α4 × α5 × α6 × α7 × α8 × α9 × α10 × α11 × α12) (fun R => A (fun x1 x2 x3 x4 x5 x6 x7 x8 x9 x10 x11 x12 h => R (x1, x2, x3, x4, x5, x6, x7, x8, x9, x10, x11, x12) h)) (fun p h => B p.1 p.2.1 p.2.2.1 p.2.2.2.1 p.2.2.2.2.1 p.2.2.2.2.2.1 p.2.2.2.2.2.2.1 p.2.2.2.2.2.2.2.1 p.2.2.2.2.2.2.2.2.1 p.2.2.2.2.2.2.2.2.2.1 p.2.2.2.2.2.2.2.2.2.2.1 p.2.2.2.2.2.2.2.2.2.2.2 h)
theorem JoinW12.intro {α1 α2 α3 α4 α5 α6 α7 α8 α9 α10 α11 α12 : Type} {A : (α1 → α2 → α3 → α4 → α5 → α6 → α7 → α8 → α9 → α10 → α11 → α12 → Hp → Prop) → Prop} {B : α1 → α2 → α3 → α4 → α5 → α6 → α7 → α8 → α9 → α10 → α11 → α12 → Hp → Prop} (R : α1 → α2 → α3 → α4 → α5 → α6 → α7 → α8 → α9 → α10 → α11 → α12 → Hp → Prop) (hA : A R) (hB : ∀ x1 x2 x3 x4 x5 x6 x7 x8 x9 x10 x11 x12 h, R x1 x2 x3 x4 x5 x6 x7 x8 x9 x10 x11 x12 h → B x1 x2 x3 x4 x5 x6 x7 x8 x9 x10 x11 x12 h) : JoinW12 A B :=
  ⟨fun p h => R p.1 p.2.1 p.2.2.1 p.2.2.2.1 p.2.2.2.2.1 p.2.2.2.2.2.1 p.2.2.2.2.2.2.1 p.2.2.2.2.2.2.2.1 p.2.2.2.2.2.2.2.2.1 p.2.2.2.2.2.2.2.2.2.1 p.2.2.2.2.2.2.2.2.2.2.1 p.2.2.2.2.2.2.2.2.2.2.2 h, hA, fun p h hr => hB p.1 p.2.1 p.2.2.1 p.2.2.2.1 p.2.2.2.2.1 p.2.2.2.2.2.1 p.2.2.2.2.2.2.1 p.2.2.2.2.2.2.2.1 p.2.2.2.2.2.2.2.2.1 p.2.2.2.2.2.2.2.2.2.1 p.2.2.2.2.2.2.2.2.2.2.1 p.2.2.2.2.2.2.2.2.2.2.2 h hr⟩
theorem JoinW12.direct {α1 α2 α3 α4 α5 α6 α7 α8 α9 α10 α11 α12 : Type} {A : (α1 → α2 → α3 → α4 → α5 → α6 → α7 → α8 → α9 → α10 → α11 → α12 → Hp → Prop) → Prop} {B : α1 → α2 → α3 → α4 → α5 → α6 → α7 → α8 → α9 → α10 → α11 → α12 → Hp → Prop} (hA : A B) : JoinW12 A B := JoinW12.intro B hA (fun _ _ _ _ _ _ _ _ _ _ _ _ _ hr => hr)
def LoopW12 {α1 α2 α3 α4 α5 α6 α7 α8 α9 α10 α11 α12 : Type} (body : (α1 → α2 → α3 → α4 → α5 → α6 → α7 → α8 → α9 → α10 → α11 → α12 → Hp → Prop) → α1 → α2 → α3 → α4 → α5 → α6 → α7 → α8 → α9 → α10 → α11 → α12 → Hp → Prop) (x1 : α1) (x2 : α2) (x3 : α3) (x4 : α4) (x5 : α5) (x6 : α6) (x7 : α7) (x8 : α8) (x9 : α9) (x10 : α10) (x11 : α11) (x12 : α12) (h : Hp) : Prop :=
  LoopT (σ := α1 × α2 × α3 × α4 × α5 × α6 × α7 × α8 × α9 × α10 × α11 × α12) (fun R p h => body (fun x1 x2 x3 x4 x5 x6 x7 x8 x9 x10 x11 x12 h => R (x1, x2, x3, x4, x5, x6, x7, x8, x9, x10, x11, x12) h) p.1 p.2.1 p.2.2.1 p.2.2.2.1 p.2.2.2.2.1 p.2.2.2.2.2.1 p.2.2.2.2.2.2.1 p.2.2.2.2.2.2.2.1 p.2.2.2.2.2.2.2.2.1 p.2.2.2.2.2.2.2.2.2.1 p.2.2.2.2.2.2.2.2.2.2.1 p.2.2.2.2.2.2.2.2.2.2.2 h) (x1, x2, x3, x4, x5, x6, x7, x8, x9, x10, x11, x12) h
theorem LoopW12.intro {α1 α2 α3 α4 α5 α6 α7 α8 α9 α10 α11 α12 : Type} {body : (α1 → α2 → α3 → α4 → α5 → α6 → α7 → α8 → α9 → α10 → α11 → α12 → Hp → Prop) → α1 → α2 → α3 → α4 → α5 → α6 → α7 → α8 → α9 → α10 → α11 → α12 → Hp → Prop} {x1 : α1} {x2 : α2} {x3 : α3} {x4 : α4} {x5 : α5} {x6 : α6} {x7 : α7} {x8 : α8} {x9 : α9} {x10 : α10} {x11 : α11} {x12 : α12} {h : Hp} (I : α1 → α2 → α3 → α4 → α5 → α6 → α7 → α8 → α9 → α10 → α11 → α12 → Hp → Prop) (μ : α1 → α2 → α3 → α4 → α5 → α6 → α7 → α8 → α9 → α10 → α11 → α12 → Hp → Nat)
    (h0 : I x1 x2 x3 x4 x5 x6 x7 x8 x9 x10 x11 x12 h) (hr : ∀ x1 x2 x3 x4 x5 x6 x7 x8 x9 x10 x11 x12 k, I x1 x2 x3 x4 x5 x6 x7 x8 x9 x10 x11 x12 k → body (fun y1 y2 y3 y4 y5 y6 y7 y8 y9 y10 y11 y12 k' => I y1 y2 y3 y4 y5 y6 y7 y8 y9 y10 y11 y12 k' ∧ μ y1 y2 y3 y4 y5 y6 y7 y8 y9 y10 y11 y12 k' < μ x1 x2 x3 x4 x5 x6 x7 x8 x9 x10 x11 x12 k) x1 x2 x3 x4 x5 x6 x7 x8 x9 x10 x11 x12 k) : LoopW12 body x1 x2 x3 x4 x5 x6 x7 x8 x9 x10 x11 x12 h :=
  ⟨fun p h => I p.1 p.2.1 p.2.2.1 p.2.2.2.1 p.2.2.2.2.1 p.2.2.2.2.2.1 p.2.2.2.2.2.2.1 p.2.2.2.2.2.2.2.1 p.2.2.2.2.2.2.2.2.1 p.2.2.2.2.2.2.2.2.2.1 p.2.2.2.2.2.2.2.2.2.2.1 p.2.2.2.2.2.2.2.2.2.2.2 h, fun p h => μ p.1 p.2.1 p.2.2.1 p.2.2.2.1 p.2.2.2.2.1 p.2.2.2.2.2.1 p.2.2.2.2.2.2.1 p.2.2.2.2.2.2.2.1 p.2.2.2.2.2.2.2.2.1 p.2.2.2.2.2.2.2.2.2.1 p.2.2.2.2.2.2.2.2.2.2.1 p.2.2.2.2.2.2.2.2.2.2.2 h, h0, fun p k hk => hr p.1 p.2.1 p.2.2.1 p.2.2.2.1 p.2.2.2.2.1 p.2.2.2.2.2.1 p.2.2.2.2.2.2.1 p.2.2.2.2.2.2.2.1 p.2.2.2.2.2.2.2.2.1 p.2.2.2.2.2.2.2.2.2.1 p.2.2.2.2.2.2.2.2.2.2.1 p.2.2.2.2.2.2.2.2.2.2.2 k hk⟩

def Call2 (P : Program) (g : FuncId) (args : List Value) (s1 s2 : Shape) (K : s1.T → s2.T → Hp → Prop) (h : Hp) : Prop :=
  CallT P g args (shTup2 s1 s2) (fun p h' => K p.1 p.2 h') h
def SemV2 (c : Option Bool) (P : Program) (s : Sem Value) (s1 s2 : Shape) (h : Hp) (K : s1.T → s2.T → Prop) : Prop :=
  SemV c P s (shTup2 s1 s2) h (fun p => K p.1 p.2)
def SemE2 (P : Program) (s : Sem Value) (s1 s2 : Shape) (K : s1.T → s2.T → Hp → Prop) (h : Hp) : Prop :=
  SemE P s (shTup2 s1 s2) (fun p h' => K p.1 p.2 h') h
def CallV2 (P : Program) (tb : Tb) (f : Value) (args : List Value) (s1 s2 : Shape) (K : s1.T → s2.T → Hp → Prop) (h : Hp) : Prop :=
  CallV P tb f args (shTup2 s1 s2) (fun p h' => K p.1 p.2 h') h

def Call3 (P : Program) (g : FuncId) (args : List Value) (s1 s2 s3 : Shape) (K : s1.T → s2.T → s3.T → Hp → Prop) (h : Hp) : Prop :=
  CallT P g args (shTup3 s1 s2 s3) (fun p h' => K p.1 p.2.1 p.2.2 h') h
def SemV3 (c : Option Bool) (P : Program) (s : Sem Value) (s1 s2 s3 : Shape) (h : Hp) (K : s1.T → s2.T → s3.T → Prop) : Prop :=
  SemV c P s (shTup3 s1 s2 s3) h (fun p => K p.1 p.2.1 p.2.2)
def SemE3 (P : Program) (s : Sem Value) (s1 s2 s3 : Shape) (K : s1.T → s2.T → s3.T → Hp → Prop) (h : Hp) : Prop :=
  SemE P s (shTup3 s1 s2 s3) (fun p h' => K p.1 p.2.1 p.2.2 h') h
def CallV3 (P : Program) (tb : Tb) (f : Value) (args : List Value) (s1 s2 s3 : Shape) (K : s1.T → s2.T → s3.T → Hp → Prop) (h : Hp) : Prop :=
  CallV P tb f args (shTup3 s1 s2 s3) (fun p h' => K p.1 p.2.1 p.2.2 h') h

def Call4 (P : Program) (g : FuncId) (args : List Value) (s1 s2 s3 s4 : Shape) (K : s1.T → s2.T → s3.T → s4.T → Hp → Prop) (h : Hp) : Prop :=
  CallT P g args (shTup4 s1 s2 s3 s4) (fun p h' => K p.1 p.2.1 p.2.2.1 p.2.2.2 h') h
def SemV4 (c : Option Bool) (P : Program) (s : Sem Value) (s1 s2 s3 s4 : Shape) (h : Hp) (K : s1.T → s2.T → s3.T → s4.T → Prop) : Prop :=
  SemV c P s (shTup4 s1 s2 s3 s4) h (fun p => K p.1 p.2.1 p.2.2.1 p.2.2.2)
def SemE4 (P : Program) (s : Sem Value) (s1 s2 s3 s4 : Shape) (K : s1.T → s2.T → s3.T → s4.T → Hp → Prop) (h : Hp) : Prop :=
  SemE P s (shTup4 s1 s2 s3 s4) (fun p h' => K p.1 p.2.1 p.2.2.1 p.2.2.2 h') h
def CallV4 (P : Program) (tb : Tb) (f : Value) (args : List Value) (s1 s2 s3 s4 : Shape) (K : s1.T → s2.T → s3.T → s4.T → Hp → Prop) (h : Hp) : Prop :=
  CallV P tb f args (shTup4 s1 s2 s3 s4) (fun p h' => K p.1 p.2.1 p.2.2.1 p.2.2.2 h') h

def Call5 (P : Program) (g : FuncId) (args : List Value) (s1 s2 s3 s4 s5 : Shape) (K : s1.T → s2.T → s3.T → s4.T → s5.T → Hp → Prop) (h : Hp) : Prop :=
  CallT P g args (shTup5 s1 s2 s3 s4 s5) (fun p h' => K p.1 p.2.1 p.2.2.1 p.2.2.2.1 p.2.2.2.2 h') h
def SemV5 (c : Option Bool) (P : Program) (s : Sem Value) (s1 s2 s3 s4 s5 : Shape) (h : Hp) (K : s1.T → s2.T → s3.T → s4.T → s5.T → Prop) : Prop :=
  SemV c P s (shTup5 s1 s2 s3 s4 s5) h (fun p => K p.1 p.2.1 p.2.2.1 p.2.2.2.1 p.2.2.2.2)
def SemE5 (P : Program) (s : Sem Value) (s1 s2 s3 s4 s5 : Shape) (K : s1.T → s2.T → s3.T → s4.T → s5.T → Hp → Prop) (h : Hp) : Prop :=
  SemE P s (shTup5 s1 s2 s3 s4 s5) (fun p h' => K p.1 p.2.1 p.2.2.1 p.2.2.2.1 p.2.2.2.2 h') h
def CallV5 (P : Program) (tb : Tb) (f : Value) (args : List Value) (s1 s2 s3 s4 s5 : Shape) (K : s1.T → s2.T → s3.T → s4.T → s5.T → Hp → Prop) (h : Hp) : Prop :=
  CallV P tb f args (shTup5 s1 s2 s3 s4 s5) (fun p h' => K p.1 p.2.1 p.2.2.1 p.2.2.2.1 p.2.2.2.2 h') h

def Call0 (P : Program) (g : FuncId) (args : List Value) (K : Hp → Prop) (h : Hp) : Prop :=
  CallT P g args shUnit (fun _ h' => K h') h
def SemE0 (P : Program) (s : Sem Value) (_ : Shape) (K : Hp → Prop) (h : Hp) : Prop := SemE P s shUnit (fun _ h' => K h') h
def CallV0 (P : Program) (tb : Tb) (f : Value) (args : List Value) (K : Hp → Prop) (h : Hp) : Prop :=
  CallV P tb f args shUnit (fun _ h' => K h') h
end Lf

/-
  Slices that hold lists.
-/
namespace Lf
open Go

/-- The slice holds the list, each element as a row of 'sz' cells. -/
def Rw {α : Type} (h : Hp) (sz : Nat) (enc : α → List Value) (l : Sl) (xs : List α) : Prop :=
  l.len = xs.length ∧ RdCells h l.base (xs.length * sz) (xs.flatMap enc)

section
variable {α : Type} {h h' : Hp} {sz : Nat} {enc : α → List Value} {l : Sl} {xs : List α}

theorem hcell_mono (hl : h ≤ h') {a : Addr} {v : Value} (e : hcell h a = some v) : hcell h' a = some v := by
  unfold hcell at e ⊢
  split at e
  · rename_i c t f hb
    rw [hl _ _ hb]
    exact e
  · cases e

theorem ldIs_mono (hl : h ≤ h') {a : Addr} {cs : List Value} (e : LdIs h a cs) : LdIs h' a cs := fun i v hv => hcell_mono hl (e i v hv)

theorem Rw.mono (hl : h ≤ h') (r : Rw h sz enc l xs) : Rw h' sz enc l xs := by
  obtain ⟨h1, h2, h3⟩ := r
  refine ⟨h1, h2, h3.imp id ?_⟩
  rintro ⟨a, ha, hc⟩
  exact ⟨a, ha, ldIs_mono hl hc⟩

theorem flat_get (henc : ∀ x, (enc x).length = sz) : ∀ (xs : List α) (i : Nat) (x : α), xs[i]? = some x → ∀ j v, (enc x)[j]? = some v → (xs.flatMap enc)[i * sz + j]? = some v
  | [], i, x, hx, _, _, _ => by simp at hx
  | y :: xs, 0, x, hx, j, v, hv => by
    simp at hx
    subst hx
    have hj : j < (enc y).length := (List.getElem?_eq_some_iff.1 hv).1
    simp only [List.flatMap_cons, Nat.zero_mul, Nat.zero_add]
    rw [List.getElem?_append_left hj]
    exact hv
  | y :: xs, i + 1, x, hx, j, v, hv => by
    have := flat_get henc xs i x (by simpa using hx) j v hv
    simp only [List.flatMap_cons]
    have e : (i + 1) * sz + j = sz + (i * sz + j) := by rw [Nat.add_mul]; omega
    rw [List.getElem?_append_right (by rw [henc, e]; omega), henc, e, Nat.add_sub_cancel_left]
    exact this

theorem flat_at (henc : ∀ x, (enc x).length = sz) : ∀ (xs : List α) (i : Nat) (v : Value), (xs.flatMap enc)[i]? = some v → ∃ q x j, xs[q]? = some x ∧ (enc x)[j]? = some v ∧ i = q * sz + j
  | [], i, v, hv => by simp at hv
  | y :: xs, i, v, hv => by
    simp only [List.flatMap_cons] at hv
    by_cases hi : i < (enc y).length
    · rw [List.getElem?_append_left hi] at hv
      exact ⟨0, y, i, rfl, hv, by simp⟩
    · rw [List.getElem?_append_right (by omega)] at hv
      obtain ⟨q, x, j, h1, h2, h3⟩ := flat_at henc xs _ v hv
      rw [henc] at h3 hi
      exact ⟨q + 1, x, j, by simpa using h1, h2, by rw [Nat.add_mul]; omega⟩

theorem Rw.read (r : Rw h sz enc l xs) (henc : ∀ x, (enc x).length = sz) (hsz : 0 < sz) {i : Int} (h0 : 0 ≤ i) (h1 : i < (l.len : Int)) :
    InB l.base l.len i ∧ ∃ x, xs[i.toNat]? = some x ∧ LdIs h (sat l.base sz i) (enc x) := by
  obtain ⟨h2, h3, h4⟩ := r
  have hi : i.toNat < xs.length := by omega
  have hne : xs.length * sz ≠ 0 := by
    have : 0 < xs.length := by omega
    exact Nat.ne_of_gt (Nat.mul_pos this hsz)
  obtain ⟨a, ha, hc⟩ := h4.resolve_left hne
  refine ⟨⟨by simp [ha], h0, h1⟩, xs[i.toNat], by simp [hi], fun j v hv => ?_⟩
  have := hc (i.toNat * sz + j) v (flat_get henc xs i.toNat _ (by simp [hi]) j v hv)
  unfold sat
  rw [ha, Option.getD_some, add_add]
  exact this

/-- A slice in a block of its own, that was not known at the start. -/
def Own (h0 h : Hp) (sz : Nat) (enc : α → List Value) (l : Sl) (xs : List α) : Prop :=
  l.len = xs.length ∧ l.len ≤ l.cap ∧ ((l.base = none ∧ l.cap = 0) ∨
    ∃ (b : Nat) (cs : List Value) (t : Nat), l.base = some ⟨b, 0, none⟩ ∧ h b = some (.cells cs.toArray t (0, 0)) ∧ cs.length = l.cap * sz ∧ cs.take (l.len * sz) = xs.flatMap enc ∧ h0 b = none)

theorem flat_len (henc : ∀ x, (enc x).length = sz) : ∀ xs : List α, (xs.flatMap enc).length = xs.length * sz
  | [] => by simp
  | x :: xs => by
    simp only [List.flatMap_cons, List.length_append, henc, flat_len henc xs, List.length_cons, Nat.add_mul, Nat.one_mul]
    omega

theorem flat_ok (hok : ∀ x, okCells (enc x) = true) : ∀ xs : List α, okCells (xs.flatMap enc) = true := by
  have app : ∀ a b : List Value, okCells a = true → okCells b = true → okCells (a ++ b) = true := by
    intro a b ha hb
    induction a with
    | nil => exact hb
    | cons v a ih => cases v <;> first | (exact ih ha) | (cases ha)
  intro xs
  induction xs with
  | nil => rfl
  | cons x xs ih => exact app _ _ (hok x) ih

theorem hcell_block0 {b : Nat} {cs : List Value} {t : Nat} (e : h b = some (.cells cs.toArray t (0, 0))) (i : Nat) : hcell h ⟨b, i, none⟩ = cs[i]? := by
  unfold hcell
  simp [e]

theorem Own.rw {h0 : Hp} (o : Own h0 h sz enc l xs) (henc : ∀ x, (enc x).length = sz) : Rw h sz enc l xs := by
  obtain ⟨h1, h2, h3⟩ := o
  refine ⟨h1, flat_len henc xs, ?_⟩
  rcases h3 with ⟨e, ec⟩ | ⟨b, cs, t, e, hb, hl, ht, _⟩
  · left
    have : xs.length = 0 := by omega
    rw [this, Nat.zero_mul]
  · right
    refine ⟨_, e, fun j v hv => ?_⟩
    rw [box_add, hcell_block0 hb, Nat.zero_add]
    rw [← ht, List.getElem?_take] at hv
    split at hv
    · exact hv
    · cases hv

theorem Own.mono {h0 : Hp} (hl : h ≤ h') (o : Own h0 h sz enc l xs) : Own h0 h' sz enc l xs := by
  obtain ⟨h1, h2, h3⟩ := o
  refine ⟨h1, h2, h3.imp id ?_⟩
  rintro ⟨b, cs, t, e1, e2, e3⟩
  exact ⟨b, cs, t, e1, hl _ _ e2, e3⟩

theorem app_own {h0 : Hp} {zero : List Value} {bytes : Nat} {x : Sl} {ys : List α} {K : Sl → Hp → Prop} (hw : h0 ≤ h) (o : Own h0 h sz enc l xs) (r : Rw h sz enc x ys) (henc : ∀ x, (enc x).length = sz) (hok : ∀ x, okCells (enc x) = true)
    (hz : zero.length = sz) (hb : xs.length + ys.length ≤ 140737488355328 ∧ (xs.length + ys.length) * bytes ≤ 140737488355328)
    (hk : ∀ l' h', h0 ≤ h' → Own h0 h' sz enc l' (xs ++ ys) → (∀ b ob, h b = some ob → (∀ a, l.base = some a → a.block ≠ b) → h' b = some ob) → K l' h') : AppendW sz bytes zero l x K h := by
  have hrw := o.rw henc
  obtain ⟨h1, h2, h3⟩ := o
  obtain ⟨hx1, hx2⟩ := r
  refine ⟨ys.flatMap enc, by rw [hx1]; exact hx2, xs.flatMap enc, by rw [h1]; exact hrw.2, by rw [h1, hx1]; exact hb, flat_ok hok ys, fun hcap => ?_, fun hcap c b t hc hbn => ?_⟩
  · rcases h3 with ⟨e, ec⟩ | ⟨b, cs, t, e, hbk, hl, ht, hn⟩
    · -- nothing is put
      have e1 : ys.length = 0 := by omega
      have e2 : ys = [] := List.length_eq_zero_iff.1 e1
      subst e2
      refine ⟨fun a ha => (by rw [e] at ha; cases ha), ?_⟩
      have e3 : putO h l.base (l.len * sz) (([] : List α).flatMap enc) = h := by rw [e]; rfl
      rw [e3, hx1]
      refine hk _ h hw ⟨by simp [h1], by simpa using h2, .inl ⟨e, ec⟩⟩ fun _ _ e _ => e
    · have hle : l.len * sz + (ys.flatMap enc).length ≤ cs.length := by
        rw [hl, flat_len henc, ← Nat.add_mul]
        exact Nat.mul_le_mul_right sz (by omega)
      obtain ⟨p1, p2⟩ := put_cells b t (ys.flatMap enc) h 0 (l.len * sz) cs (by simpa using hle) hbk
      have hst : ∀ (k : Nat), l.len * sz + k ≤ cs.length → StOk h (⟨b, l.len * sz, none⟩ : Addr) k := by
        intro k
        induction k with
        | zero => intro _; trivial
        | succ k ih =>
          intro hk'
          refine ⟨ih (by omega), ⟨cs[l.len * sz + k]'(by omega), ?_⟩, ?_⟩
          · rw [box_add, hcell_block0 hbk]
            simp
          · rw [box_add]
            unfold hfroz
            simp [hbk]
      refine ⟨fun a ha => ?_, ?_⟩
      · rw [e] at ha; cases ha
        rw [box_add, Nat.zero_add]
        refine hst _ ?_
        rw [hx1, ← flat_len henc ys]
        exact hle
      · have e3 : putO h l.base (l.len * sz) (ys.flatMap enc) = putL h ⟨b, l.len * sz, none⟩ (ys.flatMap enc) 0 := by
          rw [e]
          simp only [putO, box_add, Nat.zero_add]
        rw [e3]
        rw [Nat.add_zero] at p1
        refine hk _ _ (fun b' ob eb => ?_) ⟨by simp [h1, hx1], hcap, .inr ⟨b, _, t, e, p1, ?_, ?_, hn⟩⟩ fun b' ob eb hne => ?_
        · have hne : b' ≠ b := fun e' => by rw [e', hn] at eb; cases eb
          rw [p2 b' hne]
          exact hw _ _ eb
        · rw [layL_length _ _ _ hle, hl]
        · rw [layL_eq _ _ _ hle]
          have e4 : (l.len + x.len) * sz = (cs.take (l.len * sz) ++ ys.flatMap enc).length := by
            rw [List.length_append, ht, flat_len henc, flat_len henc, h1, hx1, Nat.add_mul]
          rw [e4, List.take_left, ht, List.flatMap_append]
        · rw [p2 b' fun e' => hne _ e e'.symm]
          exact eb
  · have hh : ∀ b' ob, h b' = some ob → (h.set b (.cells (xs.flatMap enc ++ ys.flatMap enc ++ zerosL zero (c - (l.len + x.len))).toArray t (0, 0))) b' = some ob := fun b' ob eb => by
      have hne : b' ≠ b := fun e' => by rw [e', hbn] at eb; cases eb
      simp [Hp.set, hne, eb]
    refine hk _ _ (fun b' ob eb => hh b' ob (hw _ _ eb)) ⟨by simp [h1, hx1], hc, .inr ⟨b, xs.flatMap enc ++ ys.flatMap enc ++ zerosL zero (c - (l.len + x.len)), t, rfl, by simp [Hp.set], ?_, ?_, ?_⟩⟩ fun b' ob eb _ => hh b' ob eb
    · have hzl : ∀ k, (zerosL zero k).length = k * sz := fun k => by simp [zerosL, hz]
      rw [List.length_append, List.length_append, flat_len henc, flat_len henc, hzl, ← Nat.add_mul, ← Nat.add_mul]
      show _ = c * sz
      congr 1
      omega
    · have e4 : (l.len + x.len) * sz = (xs.flatMap enc ++ ys.flatMap enc).length := by
        rw [List.length_append, flat_len henc, flat_len henc, h1, hx1, Nat.add_mul]
      show List.take ((l.len + x.len) * sz) _ = _
      rw [e4, List.take_left, List.flatMap_append]
    · cases e0 : h0 b with
      | none => rfl
      | some ob => rw [hw _ _ e0] at hbn; cases hbn

end

/-- The slice holds a list of values of one type. -/
abbrev Rs (h : Hp) (sh : Shape) (sz : Nat) (l : Sl) (xs : List sh.T) : Prop := Rw h sz (fun x => cellsL (sh.enc x)) l xs

section
variable {h h' : Hp} {sh : Shape} {sz : Nat} {l : Sl} {xs : List sh.T} {K : sh.T → Prop} {i : Int}

theorem Rs.get (r : Rs h sh sz l xs) (henc : ∀ x, (cellsL (sh.enc x)).length = sz) (hsz : 0 < sz) (h0 : 0 ≤ i) (h1 : i < (xs.length : Int)) (hk : ∀ x, xs[i.toNat]? = some x → K x) :
    InB l.base l.len i ∧ LdW none sh h (sat l.base sz i) K := by
  obtain ⟨e1, x, hx, hl⟩ := Rw.read r henc hsz h0 (by rw [r.1]; exact h1)
  exact ⟨e1, x, hl, hk x hx⟩

theorem Rs.getC {c : Bool} (r : Rs h sh sz l xs) (x0 : sh.T) (henc : ∀ x, (cellsL (sh.enc x)).length = sz) (hsz : 0 < sz) (h0 : c = true → 0 ≤ i ∧ i < (xs.length : Int)) (hk : ∀ x, (c = true → xs[i.toNat]? = some x) → K x) :
    (c = true → InB l.base l.len i) ∧ LdW (some c) sh h (sat l.base sz i) K := by
  cases c with
  | false => exact ⟨fun e => (by cases e), x0, fun e => (by cases e), hk x0 fun e => (by cases e)⟩
  | true =>
    obtain ⟨e1, x, hx, hl⟩ := Rw.read r henc hsz (h0 rfl).1 (by rw [r.1]; exact (h0 rfl).2)
    exact ⟨fun _ => e1, x, fun _ => hl, hk x fun _ => hx⟩

theorem ld_at {a : Addr} (x : sh.T) (hl : LdIs h a (cellsL (sh.enc x))) (hk : K x) : LdW none sh h a K := ⟨x, hl, hk⟩

theorem letW {α : Type} {x : α} {K : α → Prop} (hk : K x) : LetW x K := fun _ e => e ▸ hk

theorem wrap64 {n : Int} (h0 : -9223372036854775808 ≤ n) (h1 : n < 9223372036854775808) : IntKind.wrap .i64 n = n := by
  unfold IntKind.wrap
  simp only [IntKind.signed, IntKind.bits]
  first | omega | (simp; omega)

end

theorem nodup_len : ∀ (ys xs : List Int), ys.Nodup → (∀ y ∈ ys, y ∈ xs) → ys.length ≤ xs.length
  | [], xs, _, _ => Nat.zero_le _
  | y :: ys, xs, hn, hs => by
    have hn' := List.nodup_cons.1 hn
    have hy := hs y (List.mem_cons_self ..)
    have := nodup_len ys (xs.erase y) hn'.2 fun z hz => by
      have hne : z ≠ y := fun e => hn'.1 (e ▸ hz)
      exact (List.mem_erase_of_ne hne).2 (hs z (List.mem_cons_of_mem _ hz))
    rw [List.length_erase_of_mem hy] at this
    have hpos : 0 < xs.length := List.length_pos_of_mem hy
    simp only [List.length_cons]
    omega

theorem asc_nodup {ys : List Int} (h : ys.Pairwise (· < ·)) : ys.Nodup := h.imp fun hab => Int.ne_of_lt hab

theorem asc_snoc {ys : List Int} {x : Int} (h : ys.Pairwise (· < ·)) (hx : ∀ z, ys.getLast? = some z → z < x) : (ys ++ [x]).Pairwise (· < ·) := by
  refine List.pairwise_append.2 ⟨h, List.pairwise_singleton _ _, fun a ha b hb => ?_⟩
  rw [List.mem_singleton.1 hb]
  cases hl : ys.getLast? with
  | none => rw [List.getLast?_eq_none_iff.1 hl] at ha; cases ha
  | some z =>
    have hz := hx z hl
    obtain ⟨ys', rfl⟩ := List.getLast?_eq_some_iff.1 hl
    rcases List.mem_append.1 ha with ha | ha
    · have := (List.pairwise_append.1 h).2.2 a ha z (List.mem_singleton.2 rfl)
      omega
    · rw [List.mem_singleton.1 ha]; exact hz

/-- One block that was made here. -/
theorem new_row {α : Type} {h0 h : Hp} {sz : Nat} {enc : α → List Value} {cs : List Value} {xs : List α} {K : Addr → Hp → Prop} (hw : h0 ≤ h) (hc : cs = xs.flatMap enc) (henc : ∀ x, (enc x).length = sz)
    (hk : ∀ a h', h ≤ h' → Own h0 h' sz enc ⟨some a, xs.length, xs.length⟩ xs → K a h') : NewW cs K h := by
  intro b t hb
  have hle : h ≤ h.set b (.cells cs.toArray t (0, 0)) := fun b' o e => by
    have hne : b' ≠ b := fun e' => by rw [e', hb] at e; cases e
    simp [Hp.set, hne, e]
  refine hk _ _ hle ⟨rfl, Nat.le_refl _, .inr ⟨b, cs, t, rfl, by simp [Hp.set], ?_, ?_, ?_⟩⟩
  · rw [hc, flat_len henc]
  · have : (xs.length * sz) = (xs.flatMap enc).length := (flat_len henc xs).symm
    show List.take (xs.length * sz) cs = _
    rw [this, hc, List.take_length]
  · cases e0 : h0 b with
    | none => rfl
    | some ob => rw [hw _ _ e0] at hb; cases hb

end Lf

/-
  What a change to a block that holds no cells leaves.
-/
namespace Lf
open Go

/-- All cells are as they were. -/
def CKeep (h h' : Hp) : Prop := ∀ a v, hcell h a = some v → hcell h' a = some v

theorem CKeep.of_le {h h' : Hp} (hl : h ≤ h') : CKeep h h' := fun _ _ e => hcell_mono hl e

theorem ldIs_ck {h h' : Hp} (hl : CKeep h h') {a : Addr} {cs : List Value} (e : LdIs h a cs) : LdIs h' a cs := fun i v hv => hl _ _ (e i v hv)

theorem Rw.ck {α : Type} {h h' : Hp} {sz : Nat} {enc : α → List Value} {l : Sl} {xs : List α} (hl : CKeep h h') (r : Rw h sz enc l xs) : Rw h' sz enc l xs := by
  obtain ⟨h1, h2, h3⟩ := r
  refine ⟨h1, h2, h3.imp id ?_⟩
  rintro ⟨a, ha, hc⟩
  exact ⟨a, ha, ldIs_ck hl hc⟩

theorem ck_set {h : Hp} {m : Nat} {o o' : Obj} (e : h m = some o) (hc : isCells o = false) : CKeep h (h.set m o') := by
  intro a v hv
  obtain ⟨c, t, fr, hb, hsp, hg⟩ := hcell_block hv
  have hne : a.block ≠ m := fun e' => by rw [e', e] at hb; cases hb; cases hc
  unfold hcell at hv ⊢
  have : (h.set m o') a.block = h a.block := by simp [Hp.set, hne]
  rw [this]
  exact hv

theorem set_new {h : Hp} {b : Nat} {o : Obj} (hn : h b = none) : h ≤ h.set b o := fun b' o' e => by
  have hne : b' ≠ b := fun e' => by rw [e', hn] at e; cases e
  simp [Hp.set, hne, e]

theorem set_self {h : Hp} {b : Nat} {o : Obj} : (h.set b o) b = some o := by simp [Hp.set]

theorem set_over {h h0 : Hp} {b : Nat} {o : Obj} (hl : h0 ≤ h) (hn : h0 b = none) : h0 ≤ h.set b o := fun b' o' e => by
  have hne : b' ≠ b := fun e' => by rw [e', hn] at e; cases e
  simp only [Hp.set, hne, if_false]
  exact hl _ _ e

theorem none_of_le {h0 h : Hp} {b : Nat} (hl : h0 ≤ h) (hn : h b = none) : h0 b = none := by
  cases e : h0 b with
  | none => rfl
  | some o => rw [hl _ _ e] at hn; cases hn

theorem ldIs_new {h : Hp} {b t : Nat} {cs : List Value} : LdIs (h.set b (.cells cs.toArray t (0, 0))) ⟨b, 0, none⟩ cs := fun i v hv => by
  rw [box_add, hcell_block0 set_self, Nat.zero_add]
  exact hv

theorem effT {α : Type} {A : (α → Hp → Prop) → Hp → Prop} {K : α → Hp → Prop} {h : Hp} (hk : A K h) : EffC (some true) A K h := ⟨fun _ => hk, fun e => by cases e⟩

theorem effB {α : Type} {b : Bool} {A : (α → Hp → Prop) → Hp → Prop} {K : α → Hp → Prop} {h : Hp} (hb : b = true) (hk : A K h) : EffC (some b) A K h := ⟨fun _ => hk, fun e => by rw [hb] at e; cases e⟩

theorem notNil {p : Addr} {c : Option Bool} {K : Addr → Prop} (hk : K p) : NilW c (some p) K := by
  refine ⟨p, ?_, hk⟩
  cases c with
  | none => rfl
  | some b => exact fun _ => rfl

theorem semW_und {P : Program} {t : Nat} {d : TypeDesc} (hu : P.underlying t = some d) {K : TypeDesc → Hp → Prop} {h : Hp} (hk : K d h) : semW P (underlying t) K h := by
  show semW P (match P.underlying t with
    | some d => Sem.pure d
    | none => _) K h
  rw [hu]
  exact hk

theorem semW_zero {P : Program} {tb : Tb} (ok : tb.Ok P) {t : Nat} {e : Ty} (he : tb.ty t = some e) {K : Value → Hp → Prop} {h : Hp} (hk : K e.zero h) : semW P (zeroValue t) K h := by
  obtain ⟨i, e1, _, _, e4⟩ := ok.info t e he
  have key : semW P (match P.info? t with
    | some d => (match d.zero with
      | some v => Sem.pure v
      | none => unsupported (.resourceLimit "a value of more than 2^22 cells"))
    | none => stuck "no such type") K h := by
    rw [e1]
    dsimp only
    rw [e4]
    exact hk
  cases hi : P.info? t with
  | none => rw [e1] at hi; cases hi
  | some d =>
    rw [hi] at key
    show semW P (Sem.bind (match P.info? t with
      | some d => Sem.pure d
      | none => _) _) K h
    rw [hi]
    exact key

theorem semIs_of_semW {P : Program} {s : Sem Value} {h : Hp} {v : Value} (hi : semW P s (fun u h' => u = v ∧ h' = h) h) : SemIs P s h v := by
  intro w hs
  obtain ⟨a, w', h', hr, ⟨ha, hh⟩, hst⟩ := semW_sound s hs hi
  subst ha; subst hh
  exact ⟨w', hr, hst⟩

theorem semIs_of_run {P : Program} {s : Sem Value} {h : Hp} {v : Value} (hi : ∀ w, s.run P w = .ok v w) : SemIs P s h v := fun w hs => ⟨w, hi w, .refl hs⟩

theorem semIs_nilSl {P : Program} {t e : Nat} {x y : Operand} {h : Hp} (hu : P.underlying t = some (.slice e)) (s : Sl) : SemIs P (binS .eql t x y s.v (.slice none 0 0)) h (.bool s.base.isNone) := by
  have key : ∀ d, semW P (Op.equalIn (d + 1) t s.v (.slice none 0 0)) (fun u h' => u = s.base.isNone ∧ h' = h) h := by
    intro d
    unfold Op.equalIn
    refine (semW_bind _ _).2 (semW_und hu ?_)
    cases hb : s.base with
    | none => simp only [Sl.v, hb]; exact ⟨rfl, rfl⟩
    | some a => simp only [Sl.v, hb]; exact ⟨rfl, rfl⟩
  refine semIs_of_semW ?_
  show semW P (Sem.bind (Op.equal t s.v (.slice none 0 0)) fun b => Sem.pure (Value.bool b)) _ h
  refine (semW_bind _ _).2 (semW_mono _ (fun a k hk => ?_) (key 9999))
  obtain ⟨rfl, rfl⟩ := hk
  exact ⟨rfl, rfl⟩

end Lf

/-
  Maps whose keys are whole numbers.
-/
namespace Lf
open Go

section
variable {V : Type}

/-- The place of a key. -/
def kidx (a : Int) : List (Int × V) → Option (Nat × V)
  | [] => none
  | (k, v) :: r => if a = k then some (0, v) else (kidx a r).map fun p => (p.1 + 1, p.2)

def kget (a : Int) : List (Int × V) → Option V
  | [] => none
  | (k, v) :: r => if a = k then some v else kget a r

def kset (a : Int) (v : V) : List (Int × V) → List (Int × V)
  | [] => [(a, v)]
  | (k, u) :: r => if a = k then (a, v) :: r else (k, u) :: kset a v r

def kdel (a : Int) : List (Int × V) → List (Int × V)
  | [] => []
  | (k, u) :: r => if a = k then r else (k, u) :: kdel a r

theorem kget_set (a b : Int) (v : V) : ∀ l : List (Int × V), kget a (kset b v l) = if a = b then some v else kget a l
  | [] => by simp [kset, kget]
  | (k, u) :: r => by
    simp only [kset]
    by_cases h : b = k
    · rw [if_pos h]
      subst h
      simp only [kget]
      split <;> rfl
    · rw [if_neg h]
      simp only [kget, kget_set a b v r]
      by_cases h2 : a = k
      · subst h2
        rw [if_pos rfl, if_neg fun e => h e.symm, if_pos rfl]
      · rw [if_neg h2, if_neg h2]

theorem kget_none {a : Int} : ∀ {l : List (Int × V)}, a ∉ l.map (·.1) → kget a l = none
  | [], _ => rfl
  | (k, u) :: r, h => by
    simp only [List.map_cons, List.mem_cons, not_or] at h
    simp only [kget]
    rw [if_neg h.1]
    exact kget_none h.2

theorem kget_mem {a : Int} {v : V} : ∀ {l : List (Int × V)}, kget a l = some v → (a, v) ∈ l
  | (k, u) :: r, h => by
    simp only [kget] at h
    split at h
    · rename_i e
      cases h
      subst e
      exact List.mem_cons_self ..
    · exact List.mem_cons_of_mem _ (kget_mem h)

theorem kget_of_mem {a : Int} {v : V} : ∀ {l : List (Int × V)}, (l.map (·.1)).Nodup → (a, v) ∈ l → kget a l = some v
  | (k, u) :: r, hn, h => by
    simp only [List.map_cons, List.nodup_cons] at hn
    simp only [kget]
    rcases List.mem_cons.1 h with e | h
    · cases e
      rw [if_pos rfl]
    · have : a ≠ k := fun e => hn.1 (by rw [← e]; exact List.mem_map_of_mem (f := (·.1)) h)
      rw [if_neg this]
      exact kget_of_mem hn.2 h

theorem kget_del (a b : Int) : ∀ l : List (Int × V), (l.map (·.1)).Nodup → kget a (kdel b l) = if a = b then none else kget a l
  | [], _ => by simp [kdel, kget]
  | (k, u) :: r, hn => by
    simp only [List.map_cons, List.nodup_cons] at hn
    simp only [kdel]
    by_cases h : b = k
    · rw [if_pos h]
      subst h
      simp only [kget]
      by_cases h2 : a = b
      · subst h2
        rw [if_pos rfl]
        exact kget_none hn.1
      · rw [if_neg h2, if_neg h2]
    · rw [if_neg h]
      simp only [kget, kget_del a b r hn.2]
      by_cases h2 : a = k
      · subst h2
        rw [if_pos rfl, if_neg fun e => h e.symm, if_pos rfl]
      · rw [if_neg h2, if_neg h2]

theorem kset_keys (b : Int) (v : V) : ∀ (l : List (Int × V)) (a : Int), a ∈ (kset b v l).map (·.1) ↔ a = b ∨ a ∈ l.map (·.1)
  | [], a => by simp [kset]
  | (k, u) :: r, a => by
    simp only [kset]
    by_cases h : b = k
    · subst h
      simp
    · rw [if_neg h]
      simp only [List.map_cons, List.mem_cons, kset_keys b v r a]
      constructor
      · rintro (e | e | e)
        · exact .inr (.inl e)
        · exact .inl e
        · exact .inr (.inr e)
      · rintro (e | e | e)
        · exact .inr (.inl e)
        · exact .inl e
        · exact .inr (.inr e)

theorem kset_nodup (b : Int) (v : V) : ∀ {l : List (Int × V)}, (l.map (·.1)).Nodup → ((kset b v l).map (·.1)).Nodup
  | [], _ => by simp [kset]
  | (k, u) :: r, hn => by
    simp only [List.map_cons, List.nodup_cons] at hn
    simp only [kset]
    by_cases h : b = k
    · subst h
      simp only [if_true, List.map_cons, List.nodup_cons]
      exact hn
    · rw [if_neg h]
      simp only [List.map_cons, List.nodup_cons]
      refine ⟨fun e => ?_, kset_nodup b v hn.2⟩
      rcases (kset_keys b v r k).1 e with e | e
      · exact h e.symm
      · exact hn.1 e

theorem kdel_sub (b : Int) : ∀ (l : List (Int × V)), (kdel b l).Sublist l
  | [] => .slnil
  | (k, u) :: r => by
    simp only [kdel]
    split
    · exact .cons _ (List.Sublist.refl r)
    · exact .cons_cons _ (kdel_sub b r)

theorem kdel_nodup (b : Int) {l : List (Int × V)} (h : (l.map (·.1)).Nodup) : ((kdel b l).map (·.1)).Nodup := h.sublist ((kdel_sub b l).map _)

theorem kdel_none {b : Int} : ∀ {l : List (Int × V)}, kget b l = none → kdel b l = l
  | [], _ => rfl
  | (k, u) :: r, h => by
    simp only [kget] at h
    simp only [kdel]
    split at h
    · cases h
    · rename_i e
      rw [if_neg e, kdel_none h]

theorem kidx_get (a : Int) : ∀ l : List (Int × V), kget a l = (kidx a l).map (·.2)
  | [] => rfl
  | (k, v) :: r => by
    simp only [kget, kidx]
    split
    · rfl
    · rw [kidx_get a r]
      simp [Function.comp_def]

/-- The map holds the pairs. -/
def MapKv (h : Hp) (m : Nat) (k : IntKind) (ev : V → Value) (kvs : List (Int × V)) : Prop :=
  ∃ (mes : List MapEntry) (ck : Nat), h m = some (.map mes.toArray ck) ∧ mes.map (fun e => (e.key, e.val)) = kvs.map fun p => (Value.int k p.1, ev p.2)

variable {h : Hp} {m : Nat} {k : IntKind} {ev : V → Value} {kvs : List (Int × V)}

theorem find_kv (a : Int) : ∀ (mes : List MapEntry) (kvs : List (Int × V)) (j : Nat), mes.map (fun e => (e.key, e.val)) = kvs.map (fun p => (Value.int k p.1, ev p.2)) →
    Instr.findNow (.int k) (.int k a) mes j = some ((kidx a kvs).map fun p => (p.1 + j, ev p.2))
  | [], [], j, _ => rfl
  | [], _ :: _, j, h => by simp at h
  | _ :: _, [], j, h => by simp at h
  | e :: mes, (b, v) :: r, j, h => by
    simp only [List.map_cons, List.cons.injEq, Prod.mk.injEq] at h
    obtain ⟨⟨h1, h2⟩, h3⟩ := h
    simp only [Instr.findNow, h1, Instr.sameNow, if_true, kidx]
    by_cases hab : a = b
    · simp [hab, h2]
    · have hf : (a == b) = false := by simpa using hab
      rw [hf, if_neg hab]
      simp only
      rw [find_kv a mes r (j + 1) h3]
      cases kidx a r with
      | none => rfl
      | some p => simp; omega

theorem lookW_kv {kd : IntKind} {sh : Shape} {kvs : List (Int × sh.T)} {a : Int} {z : sh.T} {zero : Value} {K : sh.T → Bool → Prop} (hm : MapKv h m kd sh.enc kvs) (hz : sh.enc z = zero) (h0 : kget a kvs = none → K z false)
    (h1 : ∀ v, kget a kvs = some v → K v true) : LookW none (.int kd) sh zero (some m) (.int kd a) h K := by
  obtain ⟨mes, ck, e1, e2⟩ := hm
  have hf := find_kv (ev := sh.enc) a mes kvs 0 e2
  have hg := kidx_get a kvs
  cases hi : kidx a kvs with
  | none =>
    rw [hi] at hf hg
    exact ⟨z, false, ⟨mes, .inr ⟨m, ck, rfl, e1⟩, .inl ⟨hf, hz, rfl⟩⟩, h0 hg⟩
  | some p =>
    rw [hi] at hf hg
    exact ⟨p.2, true, ⟨mes, .inr ⟨m, ck, rfl, e1⟩, .inr ⟨_, hf, rfl⟩⟩, h1 p.2 hg⟩

theorem kset_none {a : Int} {v : V} : ∀ {l : List (Int × V)}, kidx a l = none → kset a v l = l ++ [(a, v)]
  | [], _ => rfl
  | (k, u) :: r, h => by
    simp only [kidx] at h
    split at h
    · cases h
    · rename_i e
      simp only [kset]
      rw [if_neg e, kset_none (by simpa using h)]
      rfl

theorem kset_mod {a : Int} {v u : V} {ev : V → Value} : ∀ {mes : List MapEntry} {l : List (Int × V)} {i : Nat}, mes.map (fun e => (e.key, e.val)) = l.map (fun p => (Value.int k p.1, ev p.2)) → kidx a l = some (i, u) →
    (mes.modify i fun e => { e with key := .int k a, val := ev v }).map (fun e => (e.key, e.val)) = (kset a v l).map fun p => (Value.int k p.1, ev p.2)
  | _, [], _, _, h => by simp [kidx] at h
  | [], _ :: _, _, h, _ => by simp at h
  | e :: mes, (b, w) :: r, i, h, hi => by
    simp only [List.map_cons, List.cons.injEq] at h
    simp only [kidx] at hi
    simp only [kset]
    split at hi
    · rename_i hab
      cases hi
      rw [if_pos hab]
      simp [h.2]
    · rename_i hab
      rw [if_neg hab]
      cases hr : kidx a r with
      | none => rw [hr] at hi; simp at hi
      | some p =>
        rw [hr] at hi
        simp at hi
        obtain ⟨rfl, rfl⟩ := hi
        simp only [List.modify_succ_cons, List.map_cons, h.1]
        rw [kset_mod h.2 hr]

theorem kdel_erase {a : Int} {u : V} {ev : V → Value} : ∀ {mes : List MapEntry} {l : List (Int × V)} {i : Nat}, mes.map (fun e => (e.key, e.val)) = l.map (fun p => (Value.int k p.1, ev p.2)) → kidx a l = some (i, u) →
    (mes.eraseIdx i).map (fun e => (e.key, e.val)) = (kdel a l).map fun p => (Value.int k p.1, ev p.2)
  | _, [], _, _, h => by simp [kidx] at h
  | [], _ :: _, _, h, _ => by simp at h
  | e :: mes, (b, w) :: r, i, h, hi => by
    simp only [List.map_cons, List.cons.injEq] at h
    simp only [kidx] at hi
    simp only [kdel]
    split at hi
    · rename_i hab
      cases hi
      rw [if_pos hab]
      simp [h.2]
    · rename_i hab
      rw [if_neg hab]
      cases hr : kidx a r with
      | none => rw [hr] at hi; simp at hi
      | some p =>
        rw [hr] at hi
        simp at hi
        obtain ⟨rfl, rfl⟩ := hi
        simp only [List.eraseIdx_cons_succ, List.map_cons, h.1]
        rw [kdel_erase h.2 hr]

theorem mapSet_kv {a : Int} {v : V} {K : Hp → Prop} (hm : MapKv h m k ev kvs) (hk : ∀ o, isCells o = false → MapKv (h.set m o) m k ev (kset a v kvs) → K (h.set m o)) : MapSetW (.int k) (some m) (.int k a) (ev v) K h := by
  obtain ⟨mes, ck, e1, e2⟩ := hm
  have hf := find_kv (ev := ev) a mes kvs 0 e2
  refine ⟨m, mes.toArray, ck, rfl, e1, ?_⟩
  cases hi : kidx a kvs with
  | none =>
    rw [hi] at hf
    refine .inl ⟨hf, hk _ rfl ⟨mes ++ [{ key := .int k a, val := ev v, born := ck }], ck + 1, ?_, ?_⟩⟩
    · rw [set_self]; simp
    · rw [kset_none hi]; simp [e2]
  | some p =>
    rw [hi] at hf
    refine .inr ⟨p.1, ev p.2, hf, hk _ rfl ⟨mes.modify p.1 fun e => { e with key := .int k a, val := ev v }, ck, ?_, kset_mod (u := p.2) e2 hi⟩⟩
    rw [set_self]; simp

theorem mapDel_kv {a : Int} {K : Hp → Prop} (hm : MapKv h m k ev kvs) (hk : ∀ o, isCells o = false → MapKv (h.set m o) m k ev (kdel a kvs) → K (h.set m o)) : MapDelW (.int k) (some m) (.int k a) K h := by
  obtain ⟨mes, ck, e1, e2⟩ := hm
  have hf := find_kv (ev := ev) a mes kvs 0 e2
  refine .inr ⟨m, mes.toArray, ck, rfl, e1, ?_⟩
  cases hi : kidx a kvs with
  | none =>
    rw [hi] at hf
    refine .inl ⟨hf, hk _ rfl ⟨mes, ck, set_self, ?_⟩⟩
    rw [kdel_none (by rw [kidx_get, hi]; rfl)]
    exact e2
  | some p =>
    rw [hi] at hf
    refine .inr ⟨p.1, ev p.2, hf, hk _ rfl ⟨mes.eraseIdx p.1, ck, ?_, kdel_erase (u := p.2) e2 hi⟩⟩
    rw [set_self]; simp

end
end Lf

/-
  Parts of slices.
-/
namespace Lf
open Go

theorem ldIs_drop {h : Hp} {a : Addr} {cs : List Value} (e : LdIs h a cs) (n : Nat) : LdIs h (a.add n) (cs.drop n) := fun i v hv => by
  rw [add_add]
  exact e (n + i) v (by simpa [List.getElem?_drop] using hv)

theorem flat_drop {α : Type} {sz : Nat} {enc : α → List Value} (henc : ∀ x, (enc x).length = sz) : ∀ (xs : List α) (n : Nat), (xs.drop n).flatMap enc = (xs.flatMap enc).drop (n * sz)
  | [], n => by simp
  | x :: xs, 0 => by simp
  | x :: xs, n + 1 => by
    simp only [List.drop_succ_cons, List.flatMap_cons]
    have e : (enc x).drop (n * sz + sz) = [] := List.drop_eq_nil_of_le (by rw [henc]; omega)
    rw [flat_drop henc xs n, Nat.add_mul, Nat.one_mul, List.drop_append, henc, e, List.nil_append, Nat.add_sub_cancel]

theorem flat_take {α : Type} {sz : Nat} {enc : α → List Value} (henc : ∀ x, (enc x).length = sz) : ∀ (xs : List α) (n : Nat), (xs.take n).flatMap enc = (xs.flatMap enc).take (n * sz)
  | [], n => by simp
  | x :: xs, 0 => by simp
  | x :: xs, n + 1 => by
    simp only [List.take_succ_cons, List.flatMap_cons]
    have e : (enc x).take (n * sz + sz) = enc x := List.take_of_length_le (by rw [henc]; omega)
    rw [flat_take henc xs n, Nat.add_mul, Nat.one_mul, List.take_append, henc, e, Nat.add_sub_cancel]

/-- A part of a slice holds a part of the list. -/
theorem Rw.cut {α : Type} {h : Hp} {sz : Nat} {enc : α → List Value} {l : Sl} {xs : List α} (r : Rw h sz enc l xs) (henc : ∀ x, (enc x).length = sz) {a b c n m : Nat} (hab : a ≤ b) (hb : b ≤ xs.length) (hc : b ≤ c) (hn : n = b - a) :
    Rw h sz enc ⟨sbase l.base sz a c, n, m⟩ ((xs.drop a).take (b - a)) := by
  obtain ⟨h1, h2, h3⟩ := r
  have hlen : ((xs.drop a).take (b - a)).length = b - a := by rw [List.length_take, List.length_drop]; omega
  refine ⟨hn.trans hlen.symm, flat_len henc _, ?_⟩
  rw [hlen]
  by_cases h0 : (b - a) * sz = 0
  · exact .inl h0
  · right
    have hba : b - a ≠ 0 := fun e => h0 (by rw [e, Nat.zero_mul])
    have hsz : sz ≠ 0 := fun e => h0 (by rw [e, Nat.mul_zero])
    have hx : xs.length * sz ≠ 0 := Nat.mul_ne_zero (by omega) hsz
    obtain ⟨p, hp, hl⟩ := h3.resolve_left hx
    refine ⟨p.add (a * sz), ?_, fun i v hv => ?_⟩
    · unfold sbase
      rw [if_neg (show ¬ c = a by omega), hp]
      rfl
    · rw [flat_take henc, flat_drop henc, List.getElem?_take] at hv
      split at hv
      · exact ldIs_drop hl (a * sz) i v hv
      · cases hv

theorem Rw.head {α : Type} {h : Hp} {sz : Nat} {enc : α → List Value} {l : Sl} {xs : List α} (r : Rw h sz enc l xs) (henc : ∀ x, (enc x).length = sz) {b c n m : Nat} (hb : b ≤ xs.length) (hc : b ≤ c) (hn : n = b) :
    Rw h sz enc ⟨sbase l.base sz 0 c, n, m⟩ (xs.take b) := by
  have := r.cut (m := m) henc (Nat.zero_le b) hb hc (n := n) (by omega)
  simpa using this

theorem min2_le {x y : Int} : min2I x y ≤ x ∧ min2I x y ≤ y ∧ (min2I x y = x ∨ min2I x y = y) := by
  unfold min2I
  split <;> omega

end Lf

/-
  Blocks that are written: what stays.
-/
namespace Lf
open Go

/-- From one partial memory to the next: of the known blocks, none but those of the first list has changed; the second list has old ones of the first list, and new ones. -/
structure Mv (F : List Nat) (h : Hp) (F' : List Nat) (h' : Hp) : Prop where
  keep : ∀ b o, h b = some o → b ∉ F → h' b = some o
  from_ : ∀ b ∈ F', b ∈ F ∨ h b = none

theorem Mv.refl (F : List Nat) (h : Hp) : Mv F h F h := ⟨fun _ _ e _ => e, fun _ e => .inl e⟩

theorem Mv.trans {F F' F'' : List Nat} {h h' h'' : Hp} (a : Mv F h F' h') (b : Mv F' h' F'' h'') : Mv F h F'' h'' := by
  refine ⟨fun i o e hn => b.keep i o (a.keep i o e hn) fun hf => ?_, fun i hi => ?_⟩
  · rcases a.from_ i hf with h1 | h1
    · exact hn h1
    · rw [h1] at e; cases e
  · rcases b.from_ i hi with h1 | h1
    · exact a.from_ i h1
    · cases e : h i with
      | none => exact .inr rfl
      | some o =>
        left
        refine Classical.byContradiction fun hn => ?_
        rw [a.keep i o e hn] at h1; cases h1

theorem Mv.of_le {h h' : Hp} (F : List Nat) (hl : h ≤ h') : Mv F h F h' := ⟨fun b o e _ => hl b o e, fun _ e => .inl e⟩

theorem Mv.le {F F' : List Nat} {h0 h h' : Hp} (a : Mv F h F' h') (hl : h0 ≤ h) (hf : ∀ b ∈ F, h0 b = none) : h0 ≤ h' ∧ ∀ b ∈ F', h0 b = none := by
  refine ⟨fun b o e => a.keep b o (hl b o e) fun hb => (by rw [hf b hb] at e; cases e), fun b hb => ?_⟩
  rcases a.from_ b hb with h1 | h1
  · exact hf b h1
  · exact none_of_le hl h1

/-- More may have changed. -/
theorem Mv.wide {F F' : List Nat} {h h' : Hp} (a : Mv F h F' h') (G : List Nat) : Mv (F ++ G) h (F' ++ G) h' :=
  ⟨fun b o e hn => a.keep b o e fun hb => hn (List.mem_append_left _ hb), fun b hb => by
    rcases List.mem_append.1 hb with hb | hb
    · rcases a.from_ b hb with h1 | h1
      · exact .inl (List.mem_append_left _ h1)
      · exact .inr h1
    · exact .inl (List.mem_append_right _ hb)⟩

theorem Mv.sub {F F' G G' : List Nat} {h h' : Hp} (a : Mv F h F' h') (h1 : ∀ b ∈ F, b ∈ G) (h2 : ∀ b ∈ G', b ∈ F' ∨ b ∈ G ∨ h b = none) : Mv G h G' h' :=
  ⟨fun b o e hn => a.keep b o e fun hb => hn (h1 b hb), fun b hb => by
    rcases h2 b hb with h3 | h3
    · rcases a.from_ b h3 with h4 | h4
      · exact .inl (h1 b h4)
      · exact .inr h4
    · exact h3⟩

theorem Mv.set {h : Hp} {b : Nat} {o : Obj} : Mv [b] h [b] (h.set b o) := by
  refine ⟨fun i x e hn => ?_, fun i hi => .inl hi⟩
  have hne : i ≠ b := fun e' => hn (by rw [e']; exact List.mem_singleton.2 rfl)
  simp only [Hp.set, hne, if_false]
  exact e

theorem Mv.new {h : Hp} {b : Nat} {o : Obj} (hn : h b = none) : Mv [] h [b] (h.set b o) :=
  ⟨fun i x e _ => set_new hn i x e, fun i hi => .inr (by rw [List.mem_singleton.1 hi]; exact hn)⟩

/-- A block of cells. -/
def Blk (h : Hp) (b : Nat) (cs : List Value) : Prop := ∃ t, h b = some (.cells cs.toArray t (0, 0))

theorem Blk.mv {F F' : List Nat} {h h' : Hp} {b : Nat} {cs : List Value} (k : Blk h b cs) (a : Mv F h F' h') (hn : b ∉ F) : Blk h' b cs := by
  obtain ⟨t, e⟩ := k
  exact ⟨t, a.keep b _ e hn⟩

theorem Blk.le {h h' : Hp} {b : Nat} {cs : List Value} (k : Blk h b cs) (hl : h ≤ h') : Blk h' b cs := by
  obtain ⟨t, e⟩ := k
  exact ⟨t, hl _ _ e⟩

theorem Blk.known {h : Hp} {b : Nat} {cs : List Value} (k : Blk h b cs) : h b ≠ none := by
  obtain ⟨t, e⟩ := k
  rw [e]; simp

/-- A place in a block. -/
def at_ (b off : Nat) : Addr := ⟨b, off, none⟩

theorem Blk.ldIs {h : Hp} {b : Nat} {cs : List Value} (k : Blk h b cs) {off n : Nat} {vs : List Value} (e : (cs.drop off).take n = vs) : LdIs h ⟨b, off, none⟩ vs := by
  obtain ⟨t, hb⟩ := k
  intro i v hv
  rw [box_add, hcell_block0 hb]
  rw [← e, List.getElem?_take] at hv
  split at hv
  · rw [List.getElem?_drop] at hv
    exact hv
  · cases hv

theorem Blk.stOk {h : Hp} {b : Nat} {cs : List Value} (k : Blk h b cs) {off : Nat} : ∀ n, off + n ≤ cs.length → StOk h ⟨b, off, none⟩ n
  | 0, _ => trivial
  | n + 1, hn => by
    obtain ⟨t, hb⟩ := k
    refine ⟨Blk.stOk ⟨t, hb⟩ n (by omega), ⟨cs[off + n]'(by omega), ?_⟩, ?_⟩
    · rw [box_add, hcell_block0 hb]
      simp
    · rw [box_add]
      unfold hfroz
      simp [hb]

/-- Cells are laid into a block. -/
theorem Blk.put {h : Hp} {b : Nat} {cs new : List Value} (k : Blk h b cs) {off : Nat} (hl : off + new.length ≤ cs.length) :
    Blk (putL h ⟨b, off, none⟩ new 0) b (cs.take off ++ new ++ cs.drop (off + new.length)) ∧ ∀ b', b' ≠ b → (putL h ⟨b, off, none⟩ new 0) b' = h b' := by
  obtain ⟨t, hb⟩ := k
  obtain ⟨p1, p2⟩ := put_cells b t new h 0 off cs (by simpa using hl) hb
  rw [Nat.add_zero, layL_eq _ _ _ hl] at p1
  exact ⟨⟨t, p1⟩, p2⟩

theorem Mv.of_other {h h' : Hp} {b : Nat} (ho : ∀ b', b' ≠ b → h' b' = h b') : Mv [b] h [b] h' :=
  ⟨fun i o e hn => by rw [ho i fun e' => hn (by rw [e']; exact List.mem_singleton.2 rfl)]; exact e, fun i hi => .inl hi⟩

theorem stW_blk {h : Hp} {b : Nat} {cs new : List Value} {off : Nat} {K : Hp → Prop} (k : Blk h b cs) (hl : off + new.length ≤ cs.length)
    (hk : ∀ h', Mv [b] h [b] h' → Blk h' b (cs.take off ++ new ++ cs.drop (off + new.length)) → K h') : StW h ⟨b, off, none⟩ new K := by
  obtain ⟨p1, p2⟩ := k.put hl
  exact ⟨k.stOk _ hl, hk _ (Mv.of_other p2) p1⟩

section
variable {α : Type} {h : Hp} {sz : Nat} {enc : α → List Value} {l : Sl} {xs : List α}

/-- A slice in a block of its own: 'F' has it, if there is one. -/
def OwnF (h : Hp) (sz : Nat) (enc : α → List Value) (l : Sl) (xs : List α) (F : List Nat) : Prop :=
  l.len = xs.length ∧ l.len ≤ l.cap ∧ ((l.base = none ∧ l.cap = 0 ∧ F = []) ∨
    ∃ (b : Nat) (cs : List Value), l.base = some ⟨b, 0, none⟩ ∧ F = [b] ∧ Blk h b cs ∧ cs.length = l.cap * sz ∧ cs.take (l.len * sz) = xs.flatMap enc)

theorem OwnF.own {F : List Nat} {h0 : Hp} (o : OwnF h sz enc l xs F) (hf : ∀ b ∈ F, h0 b = none) : Own h0 h sz enc l xs := by
  obtain ⟨h1, h2, h3⟩ := o
  refine ⟨h1, h2, ?_⟩
  rcases h3 with ⟨e1, e2, _⟩ | ⟨b, cs, e1, rfl, ⟨t, e3⟩, e4, e5⟩
  · exact .inl ⟨e1, e2⟩
  · exact .inr ⟨b, cs, t, e1, e3, e4, e5, hf b (List.mem_singleton.2 rfl)⟩

theorem OwnF.rw {F : List Nat} (o : OwnF h sz enc l xs F) (henc : ∀ x, (enc x).length = sz) : Rw h sz enc l xs := (o.own (h0 := fun _ => none) fun _ _ => rfl).rw henc

theorem Own.ownF {h0 : Hp} (o : Own h0 h sz enc l xs) : ∃ F, OwnF h sz enc l xs F ∧ ∀ b ∈ F, h0 b = none := by
  obtain ⟨h1, h2, h3⟩ := o
  rcases h3 with ⟨e1, e2⟩ | ⟨b, cs, t, e1, e3, e4, e5, e6⟩
  · exact ⟨[], ⟨h1, h2, .inl ⟨e1, e2, rfl⟩⟩, fun b hb => by cases hb⟩
  · exact ⟨[b], ⟨h1, h2, .inr ⟨b, cs, e1, rfl, ⟨t, e3⟩, e4, e5⟩⟩, fun b' hb => by rw [List.mem_singleton.1 hb]; exact e6⟩

theorem OwnF.known {F : List Nat} (o : OwnF h sz enc l xs F) : ∀ b ∈ F, h b ≠ none := by
  obtain ⟨_, _, h3⟩ := o
  rcases h3 with ⟨_, _, rfl⟩ | ⟨b, cs, _, rfl, e3, _, _⟩
  · intro b hb; cases hb
  · intro b' hb; rw [List.mem_singleton.1 hb]; exact e3.known

theorem OwnF.same {F : List Nat} {h' : Hp} (o : OwnF h sz enc l xs F) (hs : ∀ b ∈ F, h' b = h b) : OwnF h' sz enc l xs F := by
  obtain ⟨h1, h2, h3⟩ := o
  refine ⟨h1, h2, h3.imp id ?_⟩
  rintro ⟨b, cs, e1, rfl, ⟨t, e3⟩, e4⟩
  exact ⟨b, cs, e1, rfl, ⟨t, by rw [hs b (List.mem_singleton.2 rfl)]; exact e3⟩, e4⟩

theorem OwnF.mv {F G G' : List Nat} {h' : Hp} (o : OwnF h sz enc l xs F) (a : Mv G h G' h') (hd : ∀ b ∈ F, b ∉ G) : OwnF h' sz enc l xs F := by
  obtain ⟨h1, h2, h3⟩ := o
  refine ⟨h1, h2, h3.imp id ?_⟩
  rintro ⟨b, cs, e1, rfl, e3, e4⟩
  exact ⟨b, cs, e1, rfl, e3.mv a (hd b (List.mem_singleton.2 rfl)), e4⟩

theorem newF {cs : List Value} {K : Addr → Hp → Prop} (hc : cs = xs.flatMap enc) (henc : ∀ x, (enc x).length = sz)
    (hk : ∀ b h', h b = none → h ≤ h' → Mv [] h [b] h' → OwnF h' sz enc ⟨some ⟨b, 0, none⟩, xs.length, xs.length⟩ xs [b] → K ⟨b, 0, none⟩ h') : NewW cs K h := by
  intro b t hb
  refine hk b _ hb (set_new hb) (Mv.new hb) ⟨rfl, Nat.le_refl _, .inr ⟨b, cs, rfl, rfl, ⟨t, set_self⟩, ?_, ?_⟩⟩
  · rw [hc, flat_len henc]
  · have : (xs.length * sz) = (xs.flatMap enc).length := (flat_len henc xs).symm
    show List.take (xs.length * sz) cs = _
    rw [this, hc, List.take_length]

/-- Append. -/
theorem appF {F : List Nat} {zero : List Value} {bytes : Nat} {x : Sl} {ys : List α} {K : Sl → Hp → Prop} (o : OwnF h sz enc l xs F) (r : Rw h sz enc x ys) (henc : ∀ x, (enc x).length = sz) (hok : ∀ x, okCells (enc x) = true)
    (hz : zero.length = sz) (hb : xs.length + ys.length ≤ 140737488355328 ∧ (xs.length + ys.length) * bytes ≤ 140737488355328)
    (hk : ∀ l' h' F', OwnF h' sz enc l' (xs ++ ys) F' → Mv F h F' h' → K l' h') : AppendW sz bytes zero l x K h := by
  have hrw := o.rw henc
  obtain ⟨h1, h2, h3⟩ := o
  obtain ⟨hx1, hx2⟩ := r
  refine ⟨ys.flatMap enc, by rw [hx1]; exact hx2, xs.flatMap enc, by rw [h1]; exact hrw.2, by rw [h1, hx1]; exact hb, flat_ok hok ys, fun hcap => ?_, fun hcap c b t hc hbn => ?_⟩
  · rcases h3 with ⟨e, ec, rfl⟩ | ⟨b, cs, e, rfl, hbk, hl, ht⟩
    · have e1 : ys.length = 0 := by omega
      have e2 : ys = [] := List.length_eq_zero_iff.1 e1
      subst e2
      refine ⟨fun a ha => (by rw [e] at ha; cases ha), ?_⟩
      have e3 : putO h l.base (l.len * sz) (([] : List α).flatMap enc) = h := by rw [e]; rfl
      rw [e3, hx1]
      exact hk _ h [] ⟨by simp [h1], by simpa using h2, .inl ⟨e, ec, rfl⟩⟩ (Mv.refl _ _)
    · have hle : l.len * sz + (ys.flatMap enc).length ≤ cs.length := by
        rw [hl, flat_len henc, ← Nat.add_mul]
        exact Nat.mul_le_mul_right sz (by omega)
      obtain ⟨p1, p2⟩ := hbk.put hle
      refine ⟨fun a ha => ?_, ?_⟩
      · rw [e] at ha; cases ha
        rw [box_add, Nat.zero_add]
        refine hbk.stOk _ ?_
        rw [hx1, ← flat_len henc ys]
        exact hle
      · have e3 : putO h l.base (l.len * sz) (ys.flatMap enc) = putL h ⟨b, l.len * sz, none⟩ (ys.flatMap enc) 0 := by
          rw [e]
          simp only [putO, box_add, Nat.zero_add]
        rw [e3]
        refine hk _ _ [b] ⟨by simp [h1, hx1], hcap, .inr ⟨b, _, e, rfl, p1, ?_, ?_⟩⟩ (Mv.of_other p2)
        · rw [← hl]
          simp only [List.length_append, List.length_take, List.length_drop]
          omega
        · have e4 : (l.len + x.len) * sz = (cs.take (l.len * sz) ++ ys.flatMap enc).length := by
            rw [List.length_append, ht, flat_len henc, flat_len henc, h1, hx1, Nat.add_mul]
          show List.take ((l.len + x.len) * sz) _ = _
          rw [e4, List.take_left, ht, List.flatMap_append]
  · have hn : Mv F h [b] (h.set b (.cells (xs.flatMap enc ++ ys.flatMap enc ++ zerosL zero (c - (l.len + x.len))).toArray t (0, 0))) :=
      (Mv.new hbn).sub (fun b hb => by cases hb) fun b hb => .inl hb
    refine hk _ _ [b] ⟨by simp [h1, hx1], hc, .inr ⟨b, xs.flatMap enc ++ ys.flatMap enc ++ zerosL zero (c - (l.len + x.len)), rfl, rfl, ⟨t, set_self⟩, ?_, ?_⟩⟩ hn
    · rw [List.length_append, List.length_append, flat_len henc, flat_len henc, zerosL_len, hz, ← Nat.add_mul, ← Nat.add_mul]
      show _ = c * sz
      congr 1
      omega
    · have e4 : (l.len + x.len) * sz = (xs.flatMap enc ++ ys.flatMap enc).length := by
        rw [List.length_append, flat_len henc, flat_len henc, h1, hx1, Nat.add_mul]
      show List.take ((l.len + x.len) * sz) _ = _
      rw [e4, List.take_left, List.flatMap_append]

end
end Lf

/-
  Maps whose keys are whole numbers, entry by entry.
-/
namespace Lf
open Go Go.MapKept

section
variable {V : Type} {h : Hp} {m : Nat} {k : IntKind} {ev : V → Value} {kvs : List (Int × V)}

/-- The map holds the pairs, each entry under a stamp of its own. -/
def MapS (h : Hp) (m : Nat) (k : IntKind) (ev : V → Value) (kvs : List (Int × V)) : Prop :=
  ∃ (mes : List MapEntry) (ck : Nat), h m = some (.map mes.toArray ck) ∧ mes.map (fun e => (e.key, e.val)) = kvs.map (fun p => (Value.int k p.1, ev p.2)) ∧
    (∀ x ∈ mes, x.born < ck) ∧ (mes.map (·.born)).Nodup ∧ (kvs.map (·.1)).Nodup

theorem MapS.kv (s : MapS h m k ev kvs) : MapKv h m k ev kvs := by
  obtain ⟨mes, ck, h1, h2, _⟩ := s
  exact ⟨mes, ck, h1, h2⟩

theorem MapS.nodup (s : MapS h m k ev kvs) : (kvs.map (·.1)).Nodup := by
  obtain ⟨mes, ck, h1, h2, _, _, h3⟩ := s
  exact h3

theorem MapS.same {h' : Hp} (s : MapS h m k ev kvs) (e : h' m = h m) : MapS h' m k ev kvs := by
  obtain ⟨mes, ck, h1, h2⟩ := s
  exact ⟨mes, ck, by rw [e]; exact h1, h2⟩

theorem MapS.mono {h' : Hp} (s : MapS h m k ev kvs) (hl : h ≤ h') : MapS h' m k ev kvs := by
  obtain ⟨mes, ck, h1, h2⟩ := s
  exact ⟨mes, ck, hl _ _ h1, h2⟩

theorem MapS.mv {h' : Hp} {F F' : List Nat} (s : MapS h m k ev kvs) (a : Mv F h F' h') (hn : m ∉ F) : MapS h' m k ev kvs := by
  obtain ⟨mes, ck, h1, h2⟩ := s
  exact ⟨mes, ck, a.keep _ _ h1 hn, h2⟩

theorem MapS.known (s : MapS h m k ev kvs) : h m ≠ none := by
  obtain ⟨mes, ck, h1, h2⟩ := s
  rw [h1]; simp

theorem MapS.new {b : Nat} : MapS (h.set b (.map #[] 0)) b k ev [] := ⟨[], 0, set_self, rfl, fun _ h => (by cases h), List.nodup_nil, List.nodup_nil⟩

theorem modify_born {mes : List MapEntry} {i : Nat} {a : Int} {v : Value} : (mes.modify i fun e => { e with key := .int k a, val := v }).map (·.born) = mes.map (·.born) := by
  induction mes generalizing i with
  | nil => simp
  | cons x r ih =>
    cases i with
    | zero => simp
    | succ i => simp [ih]

theorem mapSet_s {a : Int} {v : V} {K : Hp → Prop} (hm : MapS h m k ev kvs) (hk : ∀ o, isCells o = false → MapS (h.set m o) m k ev (kset a v kvs) → K (h.set m o)) : MapSetW (.int k) (some m) (.int k a) (ev v) K h := by
  obtain ⟨mes, ck, e1, e2, e3, e4, e5⟩ := hm
  have hf := find_kv (ev := ev) a mes kvs 0 e2
  refine ⟨m, mes.toArray, ck, rfl, e1, ?_⟩
  cases hi : kidx a kvs with
  | none =>
    rw [hi] at hf
    refine .inl ⟨hf, hk _ rfl ⟨mes ++ [{ key := .int k a, val := ev v, born := ck }], ck + 1, ?_, ?_, fun x hx => ?_, ?_, kset_nodup a v e5⟩⟩
    · rw [set_self]; simp
    · rw [kset_none hi]; simp [e2]
    · rcases List.mem_append.1 hx with hx | hx
      · exact Nat.lt_succ_of_lt (e3 x hx)
      · rw [List.mem_singleton.1 hx]; exact Nat.lt_succ_self _
    · rw [List.map_append]
      refine List.nodup_append.2 ⟨e4, by simp, fun x hx y hy => ?_⟩
      simp at hy
      subst hy
      obtain ⟨z, hz, rfl⟩ := List.mem_map.1 hx
      exact Nat.ne_of_lt (e3 z hz)
  | some p =>
    rw [hi] at hf
    refine .inr ⟨p.1, ev p.2, hf, hk _ rfl ⟨mes.modify p.1 fun e => { e with key := .int k a, val := ev v }, ck, ?_, kset_mod (u := p.2) e2 hi, fun x hx => ?_, ?_, kset_nodup a v e5⟩⟩
    · rw [set_self]; simp
    · have : x.born ∈ (mes.modify p.1 fun e => { e with key := .int k a, val := ev v }).map (·.born) := List.mem_map_of_mem (f := (·.born)) hx
      rw [modify_born] at this
      obtain ⟨z, hz, hzb⟩ := List.mem_map.1 this
      rw [← hzb]
      exact e3 z hz
    · rw [modify_born]; exact e4

/-- A map is stepped over: so many keys have come. -/
def Walk (h : Hp) (r m : Nat) (k : IntKind) (ev : V → Value) (kvs : List (Int × V)) (ks : List Int) : Prop :=
  ∃ (mes done : List MapEntry) (ck : Nat), h m = some (.map mes.toArray ck) ∧ mes.map (fun e => (e.key, e.val)) = kvs.map (fun p => (Value.int k p.1, ev p.2)) ∧
    (∀ x ∈ mes, x.born < ck) ∧ (mes.map (·.born)).Nodup ∧ (kvs.map (·.1)).Nodup ∧
    h r = some (.mapIter (some m) ck (done.map (·.born)).toArray ck) ∧ (∀ x ∈ done, x ∈ mes) ∧ done.map (·.key) = ks.map (Value.int k)

theorem Walk.map {r : Nat} {ks : List Int} (w : Walk h r m k ev kvs ks) : MapS h m k ev kvs := by
  obtain ⟨mes, done, ck, h1, h2, h3, h4, h5, _⟩ := w
  exact ⟨mes, ck, h1, h2, h3, h4, h5⟩

theorem Walk.mv {r : Nat} {ks : List Int} {h' : Hp} {F F' : List Nat} (w : Walk h r m k ev kvs ks) (a : Mv F h F' h') (hm : m ∉ F) (hr : r ∉ F) : Walk h' r m k ev kvs ks := by
  obtain ⟨mes, done, ck, h1, h2, h3, h4, h5, h6, h7⟩ := w
  exact ⟨mes, done, ck, a.keep _ _ h1 hm, h2, h3, h4, h5, a.keep _ _ h6 hr, h7⟩

theorem Walk.known {r : Nat} {ks : List Int} (w : Walk h r m k ev kvs ks) : h r ≠ none := by
  obtain ⟨mes, done, ck, h1, h2, h3, h4, h5, h6, h7⟩ := w
  rw [h6]; simp

theorem range_ok {P : Program} {t : Nat} {kt vt : Nat} {K : Option Addr → Hp → Prop} (ht : P.underlying t = some (.map kt vt)) (s : MapS h m k ev kvs)
    (hk : ∀ r h', h r = none → h ≤ h' → Mv [] h [r] h' → Walk h' r m k ev kvs [] → K (some ⟨r, 0, none⟩) h') : SemE P (Instr.range t (.map (some m))) shPtr K h := by
  obtain ⟨mes, ck, e1, e2, e3, e4, e5⟩ := s
  unfold SemE Instr.range
  refine (semW_bind _ _).2 (semW_und ht ?_)
  dsimp only
  refine ⟨_, e1, rfl, ?_⟩
  intro r hr
  exact ⟨some ⟨r, 0, none⟩, rfl, hk r _ hr (set_new hr) (Mv.new hr) ⟨mes, [], ck, set_new hr _ _ e1, e2, e3, e4, e5, set_self, fun _ h => (by cases h), rfl⟩⟩

theorem semW_choose {P : Program} {n : Nat} {β : Type} {f : Nat → Sem β} {K : β → Hp → Prop} (hn : 0 < n) (hk : ∀ i, i < n → semW P (f i) K h) : semW P (choose (.mapNext n) >>= f) K h := by
  show semW P (.choose (.mapNext n) f) K h
  simp only [semW]
  split
  · exact hk 0 hn
  · exact fun t => hk _ (Nat.mod_lt _ hn)

theorem key_inj {mes : List MapEntry} (nd : (mes.map (·.key)).Nodup) {x y : MapEntry} (hx : x ∈ mes) (hy : y ∈ mes) (e : x.key = y.key) : x = y := by
  obtain ⟨i, hi, rfl⟩ := List.mem_iff_getElem.1 hx
  obtain ⟨j, hj, rfl⟩ := List.mem_iff_getElem.1 hy
  have : i = j := by
    refine (List.getElem_inj (xs := mes.map (·.key)) (h₀ := by simpa using hi) (h₁ := by simpa using hj) nd).1 ?_
    simpa using e
  subst this
  rfl

theorem keys_nodup {ks : List Int} (nd : ks.Nodup) : (ks.map (Value.int k)).Nodup := by
  refine List.pairwise_map.2 (nd.imp fun hne e => hne ?_)
  cases e
  rfl

theorem keys_of {mes : List MapEntry} (e : mes.map (fun e => (e.key, e.val)) = kvs.map (fun p => (Value.int k p.1, ev p.2))) : mes.map (·.key) = (kvs.map (·.1)).map (Value.int k) := by
  have := congrArg (List.map Prod.fst) e
  simpa [List.map_map, Function.comp_def] using this

theorem born_inj {mes : List MapEntry} (nd : (mes.map (·.born)).Nodup) {x y : MapEntry} (hx : x ∈ mes) (hy : y ∈ mes) (e : x.born = y.born) : x = y := by
  obtain ⟨i, hi, rfl⟩ := List.mem_iff_getElem.1 hx
  obtain ⟨j, hj, rfl⟩ := List.mem_iff_getElem.1 hy
  have : i = j := by
    refine (List.getElem_inj (xs := mes.map (·.born)) (h₀ := by simpa using hi) (h₁ := by simpa using hj) nd).1 ?_
    simpa using e
  subst this
  rfl

theorem next_ok {P : Program} {t r : Nat} {ks : List Int} {K : NextR → Hp → Prop} (w : Walk h r m k ev kvs ks)
    (h0 : ∀ rest, (∀ p ∈ kvs, p.1 ∈ ks) → K ⟨false, rest⟩ h)
    (h1 : ∀ a v rest h', (a, v) ∈ kvs → a ∉ ks → Mv [r] h [r] h' → Walk h' r m k ev kvs (ks ++ [a]) → K ⟨true, rest⟩ h') : SemE P (Instr.next (.pointer (some ⟨r, 0, none⟩)) false t) shNext K h := by
  obtain ⟨mes, done, ck, e1, e2, e3, e4, e5, e6, e7, e8⟩ := w
  have hko := keys_of e2
  unfold SemE
  refine ⟨_, e6, rfl, ?_⟩
  show semW P (α := Value) (.getObj m fun o => _) _ h
  refine ⟨_, e1, rfl, ?_⟩
  have hnone : ¬ ((!(done.map (·.born)).toArray.isEmpty && !mes.toArray.isEmpty && mes.toArray.all fun x => decide (x.born ≥ ck)) = true) := by
    intro hh
    simp only [Bool.and_eq_true] at hh
    obtain ⟨⟨_, hne⟩, hall⟩ := hh
    cases mes with
    | nil => simp at hne
    | cons x r =>
      simp only [List.all_toArray, List.all_cons, Bool.and_eq_true, decide_eq_true_eq] at hall
      have := e3 x (List.mem_cons_self ..)
      omega
  show semW P (α := Value) (if _ then _ else _) _ h
  rw [if_neg hnone]
  dsimp only
  have hold : ((mes.toArray.filter fun e => !((done.map (·.born)).toArray.contains e.born)).filter fun x => decide (x.born < ck)) = (mes.filter fun e => !((done.map (·.born)).contains e.born)).toArray := by
    have e9 : (mes.toArray.filter fun e => !((done.map (·.born)).toArray.contains e.born)) = (mes.filter fun e => !((done.map (·.born)).contains e.born)).toArray := by simp
    rw [e9, List.filter_toArray]
    congr 1
    refine List.filter_eq_self.2 fun x hx => ?_
    exact decide_eq_true (e3 x (List.mem_filter.1 hx).1)
  have hnew : ((mes.toArray.filter fun e => !((done.map (·.born)).toArray.contains e.born)).filter fun x => decide (x.born ≥ ck)) = #[] := by
    have e9 : (mes.toArray.filter fun e => !((done.map (·.born)).toArray.contains e.born)) = (mes.filter fun e => !((done.map (·.born)).contains e.born)).toArray := by simp
    rw [e9, List.filter_toArray]
    have : (mes.filter fun e => !((done.map (·.born)).contains e.born)).filter (fun x => decide (x.born ≥ ck)) = [] := by
      refine List.filter_eq_nil_iff.2 fun x hx => ?_
      have := e3 x (List.mem_filter.1 hx).1
      simp; omega
    rw [this]
  rw [hold, hnew]
  generalize hleft : (mes.filter fun e => !((done.map (·.born)).contains e.born)) = left
  have hmemL : ∀ x, x ∈ left ↔ x ∈ mes ∧ x.born ∉ done.map (·.born) := fun x => by
    rw [← hleft, List.mem_filter]
    simp [List.contains_iff_mem]
  cases left with
  | nil =>
    refine semW_choose (n := _) (by simp) fun i hi => ?_
    have hi0 : i = 0 := by simp at hi; omega
    subst hi0
    have hc : ((if (([] : List MapEntry).toArray.isEmpty) = true then #[(none : Option MapEntry)] else #[]) ++ Array.map some (([] : List MapEntry).toArray ++ #[]))[0]? = some none := by simp
    rw [hc]
    refine ⟨⟨false, []⟩, rfl, h0 [] fun p hp => ?_⟩
    have : (Value.int k p.1, ev p.2) ∈ mes.map (fun e => (e.key, e.val)) := by rw [e2]; exact List.mem_map_of_mem (f := fun p => (Value.int k p.1, ev p.2)) hp
    obtain ⟨e, he, hee⟩ := List.mem_map.1 this
    have hin : e.born ∈ done.map (·.born) := Classical.byContradiction fun hn => by
      have := (hmemL e).2 ⟨he, hn⟩
      cases this
    obtain ⟨d, hd, hdb⟩ := List.mem_map.1 hin
    have hde : d = e := born_inj e4 (e7 d hd) he hdb
    subst hde
    have hk2 : d.key ∈ ks.map (Value.int k) := by rw [← e8]; exact List.mem_map_of_mem (f := (·.key)) hd
    obtain ⟨a, ha, hae⟩ := List.mem_map.1 hk2
    rw [← hae] at hee
    have : a = p.1 := by
      have := congrArg Prod.fst hee
      cases this
      rfl
    rw [← this]
    exact ha
  | cons x0 xr =>
    have hcand : ((if ((x0 :: xr).toArray.isEmpty) = true then #[(none : Option MapEntry)] else #[]) ++ Array.map some ((x0 :: xr).toArray ++ #[])) = ((x0 :: xr).map some).toArray := by simp
    rw [hcand]
    refine semW_choose (n := _) (by simp) fun i hi => ?_
    have hi' : i < (x0 :: xr).length := by simpa using hi
    have hget : ((x0 :: xr).map some).toArray[i]? = some (some ((x0 :: xr)[i])) := by
      rw [List.getElem?_toArray, List.getElem?_map, List.getElem?_eq_getElem hi']
      rfl
    rw [hget]
    generalize hx : (x0 :: xr)[i] = e
    have heL : e ∈ x0 :: xr := by rw [← hx]; exact List.getElem_mem hi'
    obtain ⟨he, hnb⟩ := (hmemL e).1 heL
    have : (e.key, e.val) ∈ kvs.map (fun p => (Value.int k p.1, ev p.2)) := by rw [← e2]; exact List.mem_map_of_mem (f := fun e => (e.key, e.val)) he
    obtain ⟨p, hp, hpe⟩ := List.mem_map.1 this
    have hke : e.key = .int k p.1 := (congrArg Prod.fst hpe).symm
    have hndk : (mes.map (·.key)).Nodup := by rw [hko]; exact keys_nodup e5
    refine ⟨⟨_, e6, rfl⟩, ⟨true, [e.key, e.val]⟩, rfl, ?_⟩
    refine h1 p.1 p.2 _ _ hp (fun ha => ?_) (Mv.of_other fun b hb => by simp [Hp.set, hb]) ?_
    · have : Value.int k p.1 ∈ done.map (·.key) := by rw [e8]; exact List.mem_map_of_mem (f := Value.int k) ha
      obtain ⟨d, hd, hdk⟩ := List.mem_map.1 this
      have := key_inj hndk (e7 d hd) he (hdk.trans hke.symm)
      subst this
      exact hnb (List.mem_map_of_mem (f := (·.born)) hd)
    · have hmr : m ≠ r := fun e' => by rw [e', e6] at e1; cases e1
      refine ⟨mes, done ++ [e], ck, ?_, e2, e3, e4, e5, ?_, fun x hx => ?_, ?_⟩
      · simp [Hp.set, hmr, e1]
      · rw [set_self]; simp
      · rcases List.mem_append.1 hx with hx | hx
        · exact e7 x hx
        · rw [List.mem_singleton.1 hx]; exact he
      · rw [List.map_append, e8, List.map_append]
        simp [hke]

theorem entry_ok {P : Program} {r : Nat} {ks : List Int} {a : Int} {K : Int → Value → Hp → Prop} (w : Walk h r m k ev kvs (ks ++ [a])) (hk : ∀ v, (a, v) ∈ kvs → K a (ev v) h) :
    SemE2 P (Instr.entry (.pointer (some ⟨r, 0, none⟩))) (shInt k) shVal K h := by
  obtain ⟨mes, done, ck, e1, e2, e3, e4, e5, e6, e7, e8⟩ := w
  have hne : done ≠ [] := fun e => by rw [e] at e8; simp at e8
  obtain ⟨d0, e, rfl⟩ : ∃ d0 e, done = d0 ++ [e] := ⟨done.dropLast, done.getLast hne, (List.dropLast_concat_getLast hne).symm⟩
  have hek : e.key = .int k a := by
    rw [List.map_append, List.map_append] at e8
    have := congrArg List.getLast? e8
    simpa using this
  have he : e ∈ mes := e7 e (by simp)
  unfold SemE2 SemE
  refine ⟨_, e6, rfl, ?_⟩
  have hb : ((d0 ++ [e]).map (·.born)).toArray.back? = some e.born := by simp
  show semW P (α := Value) (match ((d0 ++ [e]).map (·.born)).toArray.back? with | some stamp => _ | _ => _) _ h
  rw [hb]
  refine ⟨_, e1, rfl, ?_⟩
  show semW P (α := Value) (if (ck != ck) = true then _ else _) _ h
  rw [if_neg (by simp)]
  have hf : mes.toArray.find? (·.born == e.born) = some e := by
    rw [List.find?_toArray]
    cases hff : mes.find? (·.born == e.born) with
    | none =>
      have := List.find?_eq_none.1 hff e he
      simp at this
    | some x =>
      have h1 := List.find?_some hff
      have h2 := List.mem_of_find?_eq_some hff
      have : x = e := born_inj e4 h2 he (by simpa using h1)
      rw [this]
  show semW P (α := Value) (match mes.toArray.find? (·.born == e.born) with | some e => _ | none => _) _ h
  rw [hf]
  have : (e.key, e.val) ∈ kvs.map (fun p => (Value.int k p.1, ev p.2)) := by rw [← e2]; exact List.mem_map_of_mem (f := fun e => (e.key, e.val)) he
  obtain ⟨p, hp, hpe⟩ := List.mem_map.1 this
  rw [hek] at hpe
  have hpa : p.1 = a := by
    have := congrArg Prod.fst hpe
    cases this
    rfl
  have hpv : ev p.2 = e.val := congrArg Prod.snd hpe
  refine ⟨(a, e.val), ?_, ?_⟩
  · rw [hek]
  · rw [← hpv]
    refine hk p.2 ?_
    rw [← hpa]
    exact hp

end
end Lf

/-
  Rings of a function that is not told everywhere.
-/
namespace Lf

section
variable {N : Int → Option Int}

/-- So many steps on. -/
def itN (N : Int → Option Int) : Nat → Int → Option Int
  | 0, p => some p
  | n + 1, p => (N p).bind (itN N n)

theorem itN_add : ∀ (m n : Nat) (p : Int), itN N (m + n) p = (itN N m p).bind (itN N n)
  | 0, n, p => by simp [itN]
  | m + 1, n, p => by
    rw [show m + 1 + n = (m + n) + 1 by omega]
    simp only [itN]
    cases N p with
    | none => rfl
    | some q => exact itN_add m n q

theorem itN_succ (n : Nat) (p : Int) : itN N (n + 1) p = (itN N n p).bind N := by
  rw [itN_add n 1 p]
  congr 1
  funext x
  simp only [itN]
  cases N x <;> rfl

/-- One goes on for ever. -/
def Inf (N : Int → Option Int) (p : Int) : Prop := ∀ n, itN N n p ≠ none

theorem inf_step {p q : Int} (h : N p = some q) : Inf N p ↔ Inf N q := by
  constructor
  · intro hp n
    have := hp (n + 1)
    simp only [itN, h] at this
    exact this
  · intro hq n
    cases n with
    | zero => simp [itN]
    | succ n => simp only [itN, h]; exact hq n

theorem not_inf {p : Int} (h : N p = none) : ¬ Inf N p := fun hp => hp 1 (by simp [itN, h])

theorem inf_reach {p x : Int} {n : Nat} (h : itN N n p = some x) : Inf N p ↔ Inf N x := by
  induction n generalizing p with
  | zero => cases h; exact Iff.rfl
  | succ n ih =>
    simp only [itN] at h
    cases hp : N p with
    | none => rw [hp] at h; cases h
    | some q => rw [hp] at h; exact (inf_step hp).trans (ih h)

/-- A ring. -/
structure Cyc (N : Int → Option Int) (c : List Int) : Prop where
  ne : 0 < c.length
  nd : c.Nodup
  nx : ∀ i, i < c.length → N (c.getD i 0) = some (c.getD ((i + 1) % c.length) 0)

theorem getD_eq {c : List Int} {i : Nat} (h : i < c.length) : c.getD i 0 = c[i] := by simp [h]

theorem getD_mem {c : List Int} {i : Nat} (h : i < c.length) : c.getD i 0 ∈ c := by rw [getD_eq h]; exact List.getElem_mem h

theorem mem_getD {c : List Int} {x : Int} (h : x ∈ c) : ∃ i, i < c.length ∧ c.getD i 0 = x := by
  obtain ⟨i, hi, e⟩ := List.mem_iff_getElem.1 h
  exact ⟨i, hi, by rw [getD_eq hi]; exact e⟩

theorem getD_inj {c : List Int} (nd : c.Nodup) {i j : Nat} (hi : i < c.length) (hj : j < c.length) (h : c.getD i 0 = c.getD j 0) : i = j := by
  rw [getD_eq hi, getD_eq hj] at h
  exact (List.getElem_inj nd).1 h

theorem Cyc.it {c : List Int} (h : Cyc N c) : ∀ (j : Nat) {i : Nat}, i < c.length → itN N j (c.getD i 0) = some (c.getD ((i + j) % c.length) 0)
  | 0, i, hi => by simp only [itN, Nat.add_zero, Nat.mod_eq_of_lt hi]
  | j + 1, i, hi => by
    simp only [itN, h.nx i hi, Option.bind_some]
    rw [h.it j (Nat.mod_lt _ h.ne)]
    congr 2
    rw [Nat.mod_add_mod]
    congr 1
    omega

theorem Cyc.inf {c : List Int} (h : Cyc N c) {x : Int} (hx : x ∈ c) : Inf N x := by
  obtain ⟨i, hi, rfl⟩ := mem_getD hx
  intro n
  rw [h.it n hi]
  simp

theorem Cyc.stay {c : List Int} (h : Cyc N c) {x y : Int} (hx : x ∈ c) {n : Nat} (e : itN N n x = some y) : y ∈ c := by
  obtain ⟨i, hi, rfl⟩ := mem_getD hx
  rw [h.it n hi] at e
  cases e
  exact getD_mem (Nat.mod_lt _ h.ne)

/-- From one of the ring one comes to each. -/
theorem Cyc.all {c : List Int} (h : Cyc N c) {x y : Int} (hx : x ∈ c) (hy : y ∈ c) : ∃ n, itN N n x = some y := by
  obtain ⟨i, hi, rfl⟩ := mem_getD hx
  obtain ⟨j, hj, rfl⟩ := mem_getD hy
  refine ⟨c.length - i + j, ?_⟩
  rw [h.it _ hi]
  have : i + (c.length - i + j) = c.length + j := by omega
  rw [this, Nat.add_mod_left, Nat.mod_eq_of_lt hj]

theorem getD_rot {c : List Int} {a i : Nat} (ha : a ≤ c.length) (hi : i < c.length) : (c.drop a ++ c.take a).getD i 0 = c.getD ((a + i) % c.length) 0 := by
  have hl : (c.drop a).length = c.length - a := List.length_drop
  have ht : (c.take a).length = a := by rw [List.length_take]; omega
  by_cases h : i < c.length - a
  · have e1 : (c.drop a ++ c.take a)[i]? = c[a + i]? := by rw [List.getElem?_append_left (by omega), List.getElem?_drop]
    rw [List.getD_eq_getElem?_getD, List.getD_eq_getElem?_getD, e1, Nat.mod_eq_of_lt (by omega)]
  · have e1 : (c.drop a ++ c.take a)[i]? = c[i - (c.length - a)]? := by
      rw [List.getElem?_append_right (by omega), hl, List.getElem?_take, if_pos (by omega)]
    have e2 : (a + i) % c.length = i - (c.length - a) := by
      have : a + i = (i - (c.length - a)) + c.length := by omega
      rw [this, Nat.add_mod_right, Nat.mod_eq_of_lt (by omega)]
    rw [List.getD_eq_getElem?_getD, List.getD_eq_getElem?_getD, e1, e2]

theorem rot_perm (c : List Int) (a : Nat) : (c.drop a ++ c.take a).Perm c := by
  have := @List.perm_append_comm _ (c.drop a) (c.take a)
  rw [List.take_append_drop] at this
  exact this

theorem Cyc.rot {c : List Int} (h : Cyc N c) {a : Nat} (ha : a ≤ c.length) : Cyc N (c.drop a ++ c.take a) := by
  have hl : (c.drop a ++ c.take a).length = c.length := (rot_perm c a).length_eq
  have h0 := h.ne
  refine ⟨by rw [hl]; exact h.ne, (rot_perm c a).nodup_iff.2 h.nd, fun i hi => ?_⟩
  rw [hl] at hi ⊢
  have h1 : (i + 1) % c.length < c.length := Nat.mod_lt _ h0
  rw [getD_rot ha hi, getD_rot ha h1, h.nx _ (Nat.mod_lt _ h0), Nat.mod_add_mod, Nat.add_mod_mod]
  rfl

/-- A ring that is told from its least number on. -/
structure Ring (N : Int → Option Int) (c : List Int) : Prop extends Cyc N c where
  low : ∀ x ∈ c, c.getD 0 0 ≤ x

theorem ring_one {c d : List Int} (hc : Ring N c) (hd : Ring N d) {x : Int} (h1 : x ∈ c) (h2 : x ∈ d) : c = d := by
  have hcd : ∀ y, y ∈ c → y ∈ d := fun y hy => by
    obtain ⟨n, hn⟩ := hc.all h1 hy
    exact hd.stay h2 hn
  have hdc : ∀ y, y ∈ d → y ∈ c := fun y hy => by
    obtain ⟨n, hn⟩ := hd.all h2 hy
    exact hc.stay h1 hn
  have h0 : c.getD 0 0 = d.getD 0 0 := by
    have a := hc.low _ (hdc _ (getD_mem hd.ne))
    have b := hd.low _ (hcd _ (getD_mem hc.ne))
    omega
  have hcn := hc.ne
  have hdn := hd.ne
  have hci : ∀ i, itN N i (c.getD 0 0) = some (c.getD (i % c.length) 0) := fun i => by have := hc.toCyc.it i hc.ne; rwa [Nat.zero_add] at this
  have hdi : ∀ i, itN N i (c.getD 0 0) = some (d.getD (i % d.length) 0) := fun i => by rw [h0]; have := hd.toCyc.it i hd.ne; rwa [Nat.zero_add] at this
  have key : ∀ i, c.getD (i % c.length) 0 = d.getD (i % d.length) 0 := fun i => Option.some.inj ((hci i).symm.trans (hdi i))
  have hlen : c.length = d.length := by
    rcases Nat.lt_trichotomy c.length d.length with h | h | h
    · have := key c.length
      rw [Nat.mod_self, Nat.mod_eq_of_lt h, h0] at this
      have := getD_inj hd.nd hdn h this
      omega
    · exact h
    · have := key d.length
      rw [Nat.mod_self, Nat.mod_eq_of_lt h, ← h0] at this
      have := getD_inj hc.nd h hcn this
      omega
  refine List.ext_getElem hlen fun i hi hj => ?_
  have := key i
  rw [Nat.mod_eq_of_lt hi, Nat.mod_eq_of_lt hj, getD_eq hi, getD_eq hj] at this
  exact this

/-- What is told of the ring that is come to from the first number that goes on for ever. -/
def Told (N : Int → Option Int) (ks : List Int) (out : List Int) : Prop :=
  (out = [] ∧ ∀ p ∈ ks, ¬ Inf N p) ∨ (Ring N out ∧ ∃ p ∈ ks, Inf N p ∧ (∀ q ∈ ks, q < p → ¬ Inf N q) ∧ ∃ n x, itN N n p = some x ∧ x ∈ out)

theorem told_one {ks a b : List Int} (ha : Told N ks a) (hb : Told N ks b) : a = b := by
  rcases ha with ⟨rfl, h1⟩ | ⟨ra, p, hp, ip, lp, n, x, ex, hx⟩
  · rcases hb with ⟨rfl, _⟩ | ⟨_, q, hq, iq, _⟩
    · rfl
    · exact absurd iq (h1 q hq)
  · rcases hb with ⟨_, h1⟩ | ⟨rb, q, hq, iq, lq, m, y, ey, hy⟩
    · exact absurd ip (h1 p hp)
    · have epq : p = q := by
        rcases Int.lt_trichotomy p q with h | h | h
        · exact absurd ip (lq p hp h)
        · exact h
        · exact absurd iq (lp q hq h)
      subst epq
      by_cases hnm : n ≤ m
      · have e : itN N (m - n) x = some y := by
          have := itN_add (N := N) n (m - n) p
          rw [show n + (m - n) = m by omega, ey, ex] at this
          exact this.symm
        exact ring_one ra rb (ra.stay hx e) hy
      · have e : itN N (n - m) y = some x := by
          have := itN_add (N := N) m (n - m) p
          rw [show m + (n - m) = n by omega, ex, ey] at this
          exact this.symm
        exact ring_one ra rb hx (rb.stay hy e)

end
end Lf

