/-
  Part 2 of the texts that the claim leans on.
-/
import Derived.ProofKit
import Derived.SizedLaws
import Derived.Shelf.Strings.OnBuilder
import Derived.Shelf.Strconv.Atoi
import Derived.Shelf.LaysM
import Derived.Shelf.Strconv.Itoa3
import Derived.Shelf.LaysC
import Derived.Shelf.Strconv.AtoiErr
import Derived.Shelf.Strings.Prefix
import Derived.Test.YtompbjaipbbbhaaDoorProg
import Derived.Test.YtompbjaipbbbhaaDoorMgDoReturns0
/-
  The lifting layer, part 16: one operation of a region.
-/
namespace Lf
open Go

section
variable {n : Nat} {Cur Liv D N : Nat → Prop} {β : Nat → Nat} {s : St} {a : Act} {h : Hp} {w : World}

theorem RR.putO (hr : RR n Cur Liv D N β s a h w) {dst : Option Nat} {l : LV} {ch : Chain} {v : Value} (hd : ∀ d, dst = some d → d < n ∧ ¬ D d) (hch : ∀ p ∈ ch, D p.1)
    (h1 : holds s ch → v = LVal β l ∧ ∀ k o, (l = .box k o ∨ l = .boxd k o) → Liv k ∧ ¬ N k) (h2 : ¬ holds s ch → v = undef) :
    RR n (fun t => dst = some t ∨ Cur t) Liv D N β (s.put dst l ch) (a.put dst v) h w := by
  cases dst with
  | none => exact hr.congr (fun t => by simp) (fun _ => .rfl) (fun _ e => e) (fun _ e => e)
  | some d =>
    obtain ⟨hdn, hD⟩ := hd d rfl
    have h3 := (hr.lift hdn hD hch fun hh k o e => (((h1 hh).2 k o e).2)).exec (v := v) (put_same s d l ch) (fun e => e.1 rfl)
      (fun hh => ⟨(h1 ((holds_put hD hch).1 hh)).1, fun k o e => ((h1 ((holds_put hD hch).1 hh)).2 k o e).1⟩) (fun hh => h2 fun e => hh ((holds_put hD hch).2 e))
    refine h3.congr (fun t => ?_) (fun _ => .rfl) (fun _ e => e) (fun _ e => e)
    by_cases ht : t = d
    · simp [ht]
    · simp [ht, Ne.symm ht]

theorem chain_D (hr : RR n Cur Liv D N β s a h w) {c : Chain} {ops : List Oper} {m : Nat} {o : Oper} (hch : chainOf ops m o = some c) (hg : guardOk s c = true)
    (hgd : ∀ j b p d, o.guard = some (j, b) → nth ops j = some p → p.dst = some d → D d) : ∀ p ∈ c, D p.1 := by
  cases m with
  | zero => simp [chainOf] at hch
  | succ m =>
    simp only [chainOf] at hch
    split at hch
    · cases hch; simp
    · rename_i j b hgu
      split at hch
      · rename_i p hp
        split at hch
        · rename_i d c' hd hc'
          cases hch
          simp only [guardOk] at hg
          split at hg
          · rename_i t c2 hf
            cases h1 : chEq c2 c' with
            | false => simp [h1] at hg
            | true =>
              have := chEq_eq h1
              subst this
              intro q hq
              rcases List.mem_cons.1 hq with rfl | hq
              · exact hgd j b p d hgu hp hd
              · exact hr.chain d _ _ hf q hq
          · cases hg
        · cases hch
      · cases hch

theorem wanted_iff (hr : RR n Cur Liv D N β s a h w) {ch : Chain} {ops : Array Oper} {m : Nat} {o : Oper} (hch : chainOf ops.toList m o = some ch) (hg : guardOk s ch = true)
    (hgc : ∀ j b p d, o.guard = some (j, b) → nth ops.toList j = some p → p.dst = some d → Cur d) : Region.wanted o (yielded ops a.tmps) = true ↔ holds s ch := by
  cases m with
  | zero => simp [chainOf] at hch
  | succ m =>
    simp only [chainOf] at hch
    split at hch
    · rename_i hgu
      cases hch
      simp [Region.wanted, hgu, holds_nil]
    · rename_i j b hgu
      split at hch
      · rename_i p hp
        split at hch
        · rename_i d c' hd hc'
          cases hch
          simp only [guardOk] at hg
          split at hg
          · rename_i t c2 hf
            cases h1 : chEq c2 c' with
            | false => simp [h1] at hg
            | true =>
              have := chEq_eq h1
              subst this
              have hC := hgc j b p d hgu hp hd
              have hlt : d < a.tmps.size := by rw [hr.sz]; exact hr.lt d _ _ hf
              have hpj : ops[j]? = some p := by rw [nth_get] at hp; simpa using hp
              have hy : yielded ops a.tmps j = match a.eval (.tmp d) with | .bool b => some b | _ => none := by
                unfold yielded
                simp only [hpj, Option.bind_some, hd, Act.eval]
                have : a.tmps[d]? = some (a.tmps[d]'hlt) := Array.getElem?_eq_getElem hlt
                simp only [this, Array.getD_eq_getD_getElem?, Option.getD_some]
                generalize a.tmps[d] = v
                cases v <;> rfl
              simp only [Region.wanted, hgu, hy]
              by_cases hh : holds s c2
              · have := (hr.cur d _ _ hf hC hh).1
                rw [this]
                simp only [LVal]
                constructor
                · intro e
                  have e : t = b := by simpa using e
                  subst e
                  intro q hq
                  rcases List.mem_cons.1 hq with rfl | hq
                  · simp [hb, hf]
                  · exact hh q hq
                · intro e
                  have := e (d, b) (List.mem_cons_self ..)
                  simp only [hb, hf] at this
                  simpa using this
              · have := hr.und d _ _ hf hC hh
                rw [this]
                simp only [undef]
                refine ⟨fun e => by simp at e, fun e => absurd (fun q hq => e q (List.mem_cons_of_mem _ hq)) hh⟩
          · cases hg
        · cases hch
      · cases hch

def privA (priv : List Nat) (o : Oper) (k : Nat) : Prop := isPrivAlloc priv o = true ∧ o.dst = some k

/-- What an operation leaves. -/
structure OpOut (C : Ctx) (l mok : List Nat) (n : Nat) (Cur Liv D N : Nat → Prop) (o : Oper) (β : Nat → Nat) (s : St) (a : Act) (h : Hp) (w : World) (β' : Nat → Nat) (s' : St) (a' : Act) (h' : Hp) (w' : World) : Prop where
  rr : RR n (fun t => o.dst = some t ∨ Cur t) (fun k => privA C.priv o k ∨ Liv k) D (fun k => ¬ privA C.priv o k ∧ N k) β' s' a' h' w'
  seg : Seg l mok (live s Liv) β a h w (live s' fun k => privA C.priv o k ∨ Liv k) β' a' h' w'
  f : ∀ t, o.dst ≠ some t → s'.f t = s.f t
  m : ∀ k, s'.m k = s.m k ∨ privA C.priv o k ∨ (isStore o = true ∧ isVal C.tb o = false ∧ s.m k ≠ none ∧ Liv k)
  hv : isVal C.tb o = true → h' = h
  hp : isPrivAlloc C.priv o = true → h' = h

theorem not_priv {C : Ctx} {o : Oper} (h : isPrivAlloc C.priv o = false) (k : Nat) : ¬ privA C.priv o k := fun e => by have := e.1; rw [h] at this; cases this

theorem outPlain {C : Ctx} {l mok : List Nat} {o : Oper} {s' : St} {a' : Act} {h' : Hp} {w' : World} (hp : isPrivAlloc C.priv o = false)
    (rr : RR n (fun t => o.dst = some t ∨ Cur t) Liv D N β s' a' h' w') (seg : Seg l mok (live s Liv) β a h w (live s' Liv) β a' h' w')
    (f : ∀ t, o.dst ≠ some t → s'.f t = s.f t) (m : ∀ k, s'.m k = s.m k ∨ (isStore o = true ∧ isVal C.tb o = false ∧ s.m k ≠ none ∧ Liv k)) (hv : isVal C.tb o = true → h' = h) :
    OpOut C l mok n Cur Liv D N o β s a h w β s' a' h' w' := by
  have e1 : ∀ k, (privA C.priv o k ∨ Liv k) ↔ Liv k := fun k => ⟨fun e => e.resolve_left (not_priv hp k), .inr⟩
  refine ⟨rr.congr (fun _ => .rfl) e1 (fun _ e => e) (fun _ e => e.2), seg.mono (fun _ e => e) (fun _ e => e) (fun _ e => e) (fun k e => ⟨e.1, (e1 k).1 e.2⟩), f, fun k => (m k).imp id .inr, hv, fun e => by rw [hp] at e; cases e⟩

theorem put_f (s : St) (d : Option Nat) (l : LV) (ch : Chain) (t : Nat) (h : d ≠ some t) : (s.put d l ch).f t = s.f t := by
  cases d with
  | none => rfl
  | some d => exact put_ne s l ch fun e => h (by rw [e])

theorem put_m (s : St) (d : Option Nat) (l : LV) (ch : Chain) : (s.put d l ch).m = s.m := by cases d <;> rfl

theorem val_not_priv {C : Ctx} {o : Oper} (h : isVal C.tb o = true) : isPrivAlloc C.priv o = false := by
  obtain ⟨dst, op, ty, pos, after, guard⟩ := o
  cases op <;> first | rfl | (simp [isVal] at h; done) | (cases dst <;> simp [isVal, isPrivAlloc] at h ⊢)

/-- The operands' private variables are made. -/
theorem prov_rr (hr : RR n Cur Liv D N β s a h w) {o : Oper} {ch : Chain} {l : LV} (hp : Prov o ch s l) (hh : holds s ch) (hcur : ∀ t, Operand.tmp t ∈ o.op.operands → Cur t) :
    ∀ k off, (l = .box k off ∨ l = .boxd k off) → Liv k ∧ ¬ N k := by
  intro k off e
  obtain ⟨x, hx, off', hev⟩ := hp k off e
  rcases hev with hev | hev
  · obtain ⟨t, c, rfl, hf, hc⟩ := ev_tmp hev (by simp) hh
    exact ⟨(hr.cur t _ c hf (hcur t hx) hc).2 k off' (.inl rfl), fun hN => (hr.nref k hN t _ c hf hc off').1 rfl⟩
  · obtain ⟨t, c, rfl, hf, hc⟩ := ev_tmp hev (by simp) hh
    exact ⟨(hr.cur t _ c hf (hcur t hx) hc).2 k off' (.inr rfl), fun hN => (hr.nref k hN t _ c hf hc off').2 rfl⟩

/-- The operation is carried out. -/
theorem op_exec {C : Ctx} (ok : C.tb.Ok C.P) {ops : Array Oper} {l mok : List Nat} {K : St → Hp → Prop} {i : Nat} {o : Oper} (hi : ops[i]? = some o) (hv : opW C ops.toList mok o s h K)
    (hr : RR n Cur Liv D N β s a h w) (hcur : ∀ t, Operand.tmp t ∈ o.op.operands → Cur t)
    (hgc : ∀ j b p d, o.guard = some (j, b) → nth ops.toList j = some p → p.dst = some d → Cur d ∧ D d) (hdn : ∀ d, o.dst = some d → d < n ∧ ¬ D d ∧ d ∈ l)
    (hN : ∀ d, privA C.priv o d → N d ∧ ¬ Liv d) (next : Act → World → Prop) (Q : Exit → Act → World → Prop)
    (hn : ∀ s' h' β' a' w', K s' h' → OpOut C l mok n Cur Liv D N o β s a h w β' s' a' h' w' → next a' w') : wpOp C.P ops Q i next a w := by
  unfold opW at hv
  split at hv
  · exact hv.elim
  rename_i ch hch
  cases hg : guardOk s ch with
  | false => simp [hg] at hv
  | true =>
  simp only [hg, cond_true] at hv
  have hgc' : ∀ j b p d, o.guard = some (j, b) → nth ops.toList j = some p → p.dst = some d → Cur d := fun j b p d e1 e2 e3 => (hgc j b p d e1 e2 e3).1
  have hw := wanted_iff hr hch hg hgc'
  have hD := chain_D hr hch hg fun j b p d e1 e2 e3 => (hgc j b p d e1 e2 e3).2
  have hopnd : ∀ x ∈ o.op.operands, Opnd β s a.eval x := fun x hx => opnd_rr hr fun t e => hcur t (e ▸ hx)
  have hd1 : ∀ d, o.dst = some d → d < n ∧ ¬ D d := fun d e => ⟨(hdn d e).1, (hdn d e).2.1⟩
  have hdl : ∀ d, o.dst = some d → d ∈ l := fun d e => (hdn d e).2.2
  unfold wpOp
  simp only [hi]
  have live_put : ∀ (l : LV) k, live (s.put o.dst l ch) Liv k ↔ live s Liv k := fun l k => by unfold live; rw [put_m]
  -- a value, and nothing else
  have doVal : ∀ (lv : LV) (h' : Hp) (v : Value) (w' : World), K (s.put o.dst lv ch) h' → isPrivAlloc C.priv o = false → (isVal C.tb o = true → h' = h) → Step h h' w w' →
      (holds s ch → v = LVal β lv ∧ ∀ k off, (lv = .box k off ∨ lv = .boxd k off) → Liv k ∧ ¬ N k) → (¬ holds s ch → v = undef) → next (a.put o.dst v) w' := by
    intro lv h' v w' hk hp hvv hst h1 h2
    refine hn _ _ β _ _ hk (outPlain hp ((hr.step hst).putO hd1 hD h1 h2) ?_ (fun t ht => put_f s _ _ _ t ht) (fun k => .inl (by rw [put_m])) hvv)
    refine ((Seg.step hst).trans (Seg.put (lv := live s Liv) hdl)).mono (fun _ e => e) (fun _ e => e) (fun _ e => e) (fun k e => (live_put lv k).1 e)
  cases hval : isVal C.tb o with
  | true =>
    simp only [hval, cond_true] at hv
    obtain ⟨lv, hk, hrun, hprov⟩ := valW_sound ok hv
    by_cases hh : holds s ch
    · rw [if_pos (hw.2 hh)]
      left
      obtain ⟨w', hrw, hw1, hst⟩ := hrun hh β a.eval w hopnd (fun _ => hr.sub) (fun _ => boxU_rr hr hcur)
      unfold Oper.wp
      rw [hrw]
      have hst' : Step h h w w' := by
        cases hkd : kindD C.tb o ch s with
        | mem => exact hst hkd
        | pure => rw [hw1 (by rw [hkd]; simp)]; exact .refl hr.sub
        | box => rw [hw1 (by rw [hkd]; simp)]; exact .refl hr.sub
      exact doVal lv h _ w' hk (val_not_priv hval) (fun _ => rfl) hst' (fun _ => ⟨rfl, prov_rr hr hprov hh hcur⟩) (fun e => absurd hh e)
    · rw [if_neg (fun e => hh (hw.1 e))]
      exact doVal lv h _ w hk (val_not_priv hval) (fun _ => rfl) (.refl hr.sub) (fun e => absurd e hh) (fun _ => rfl)
  | false =>
    simp only [hval, cond_false] at hv
    -- what changes memory that others know
    have doEff0 : isPrivAlloc C.priv o = false → (EffOk C.P o ch s h fun l h' => K (s.put o.dst l ch) h') →
        if Region.wanted o (yielded ops a.tmps) = true then o.wp C.P a w next Q ∨ o.asks C.P a w ∧ LetsOut Q else next (a.put o.dst undef) w := by
      intro hp hv
      obtain ⟨h1, h2⟩ := hv
      by_cases hh : holds s ch
      · rw [if_pos (hw.2 hh)]
        left
        refine h1 hh β a w hopnd hr.sub next Q fun x h' w' hk hst => ?_
        exact doVal (.v x) h' x w' hk hp (fun e => by rw [hval] at e; cases e) hst (fun _ => ⟨rfl, fun k off e => by rcases e with e | e <;> cases e⟩) (fun e => absurd hh e)
      · rw [if_neg (fun e => hh (hw.1 e))]
        obtain ⟨x, hk⟩ := h2 hh
        exact doVal (.v x) h undef w hk hp (fun _ => rfl) (.refl hr.sub) (fun e => absurd e hh) (fun _ => rfl)
    have doEff : isPrivAlloc C.priv o = false → (effW C.P C.tb o ch s h fun l h' => K (s.put o.dst l ch) h') →
        if Region.wanted o (yielded ops a.tmps) = true then o.wp C.P a w next Q ∨ o.asks C.P a w ∧ LetsOut Q else next (a.put o.dst undef) w := fun hp hv => doEff0 hp (effW_sound ok hv)
    -- a private variable is made
    have doNew : ∀ (d : Nat) (cs : List Value) (t : Nat), K ((s.put (some d) (.box d 0) []).putM d cs) h → privA C.priv o d → ch = [] → has mok d = true →
        (execOp a.eval o).run C.P w = .ok (.value (.pointer (some ⟨w.heap.size, 0, none⟩))) { w with heap := w.heap.push (.cells cs.toArray t (0, 0)) } →
        if Region.wanted o (yielded ops a.tmps) = true then o.wp C.P a w next Q ∨ o.asks C.P a w ∧ LetsOut Q else next (a.put o.dst undef) w := by
      intro d cs t hk hp he hmd hrun
      subst he
      rw [if_pos (hw.2 (holds_nil s))]
      left
      unfold Oper.wp
      rw [hrun]
      show next (a.put o.dst _) _
      rw [hp.2]
      obtain ⟨hdn1, hdD, hdl1⟩ := hdn d hp.2
      obtain ⟨hNd, hLd⟩ := hN d hp
      have hl := hr.liftA cs hdn1 hdD hNd
      have hfd : ((s.put (some d) (.box d 0) []).putM d cs).f d = some (.box d 0, []) := put_same s _ _ _
      have hmd' : ((s.put (some d) (.box d 0) []).putM d cs).m d = some cs := putM_same _ _ _
      have hx := hl.execA t hfd hmd' (fun e => e.1 rfl) (fun e => e.1 rfl)
      have hiff : ∀ k, privA C.priv o k ↔ k = d := fun k => ⟨fun e => by have := e.2; rw [hp.2] at this; cases this; rfl, fun e => e ▸ hp⟩
      refine hn _ _ _ _ _ hk ⟨hx.congr (fun t => ?_) (fun k => ?_) (fun _ e => e) (fun k e => ?_), ?_, fun t ht => ?_, fun k => ?_, fun _ => rfl, fun _ => rfl⟩
      · rw [hp.2]
        by_cases e : t = d
        · simp [e]
        · simp [e, Ne.symm e]
      · rw [hiff]
        by_cases e : k = d
        · simp [e]
        · simp [e]
      · rw [hiff] at e
        exact ⟨e.1, e.2⟩
      · refine (segA (s := (s.put (some d) (.box d 0) []).putM d cs) (Liv := fun k => k ≠ d ∧ Liv k) (β := β) (a := a) (l := l) (mm := mok) t hr.sub hmd' (fun e => e.1 rfl) hdl1 ((has_iff _ _).1 hmd)).mono
          (fun _ e => e) (fun _ e => e) (fun k e => ⟨fun e' => e.1 ?_, e.2.2⟩) (fun k e => ⟨e.1, ?_⟩)
        · rw [putM_ne _ _ e.2.1]; exact e'
        · rcases e.2 with e2 | e2
          · exact .inl ((hiff k).1 e2)
          · by_cases ek : k = d
            · exact .inl ek
            · exact .inr ⟨ek, e2⟩
      · exact put_ne s _ _ fun e => ht (by rw [hp.2, e])
      · by_cases ek : k = d
        · exact .inr (.inl ((hiff k).2 ek))
        · exact .inl (putM_ne _ _ ek)
    split at hv
    · rename_i d hdst
      have hd0 : o.dst = some d ∧ has C.priv d = true := by
        unfold dstIn at hdst
        split at hdst
        · rename_i d' e
          cases h1 : has C.priv d' with
          | true => simp [h1] at hdst; subst hdst; exact ⟨e, h1⟩
          | false => simp [h1] at hdst
        · cases hdst
      cases hmd : has mok d with
      | false => simp [hmd] at hv
      | true =>
        simp only [hmd, cond_true] at hv
        split at hv
        · rename_i t hop
          split at hv
          · rename_i e he
            refine doNew d (cellsL e.zero) t hv ⟨by simp [isPrivAlloc, hop, hd0], hd0.1⟩ rfl hmd ?_
            have e2 : (cellsL e.zero).toArray = e.zero.cells := by apply Array.ext'; simp [cells_list]
            rw [e2]
            simp [execOp, hop, Instr.alloc, run_zeroValue' ok he, newVar, run_newRow]
          · exact hv.elim
        · rename_i t x hop
          obtain ⟨v, hev, hv'⟩ := onV_some hv
          refine doNew d (cellsL v) t hv' ⟨by simp [isPrivAlloc, hop, hd0], hd0.1⟩ rfl hmd ?_
          have hx := ev_ok (hopnd x (by simp [hop, Op.operands])) (holds_nil s) hev
          have e2 : (cellsL v).toArray = v.cells := by apply Array.ext'; simp [cells_list]
          rw [e2]
          simp [execOp, hop, hx, LVal, Instr.box, newVar, run_newRow]
        · exact hv.elim
    · exact hv.elim
    · rename_i hdst
      have hpa : isPrivAlloc C.priv o = false := by
        unfold dstIn at hdst
        unfold isPrivAlloc
        split at hdst
        · rename_i d' e
          cases h1 : has C.priv d' with
          | true => simp [h1] at hdst
          | false => rw [e]; cases o.op <;> simp [h1]
        · rename_i e
          rw [e]; cases o.op <;> simp
      split at hv
      · rename_i t x y hop
        split at hv
        · rename_i k off v hex hey
          split at hv
          · rename_i cs e hmk hte
            cases h1 : has mok k with
            | false => simp [h1] at hv
            | true =>
            cases h2 : Nat.beq (cellsL v).length e.size with
            | false => simp [h1, h2] at hv
            | true =>
            cases h3 : Nat.ble (off + e.size) cs.length with
            | false => simp [h1, h2, h3] at hv
            | true =>
            cases h4 : okCells (cellsL v) with
            | false => simp [h1, h2, h3, h4] at hv
            | true =>
            simp only [h1, h2, h3, h4, cond_true] at hv
            rw [if_pos (hw.2 (holds_nil s))]
            left
            have hxm : x ∈ o.op.operands := by simp [hop, Op.operands]
            have hx := ev_ok (hopnd x hxm) (holds_nil s) hex
            have hy := ev_ok (hopnd y (by simp [hop, Op.operands])) (holds_nil s) hey
            obtain ⟨tt, c, rfl, hf, hc⟩ := ev_tmp hex (by simp) (holds_nil s)
            have hL : Liv k := (hr.cur tt _ c hf (hcur tt hxm) hc).2 k off (.inl rfl)
            obtain ⟨hb0, ct, hb1⟩ := hr.box k cs hmk hL
            have hlen0 : (cellsL v).length = e.size := Nat.eq_of_beq_eq_true h2
            obtain ⟨w', hrun, hb', hoth, hsub, hsize, h5, h6, h7⟩ := run_storeBox (P := C.P) (off := off) hr.sub hb1 hb0 h4 (by rw [hlen0]; exact Nat.le_of_ble_eq_true h3)
            have hsz := run_sizeOf' ok hte w
            have hlen : v.cells.size = e.size := by rw [← Array.length_toList, cells_list]; exact hlen0
            unfold Oper.wp
            have hrun2 : (execOp a.eval o).run C.P w = .ok .skip w' := by
              simp only [execOp, hop, hx, hy, LVal, Instr.storeAt, Instr.sureAddr, Sem.run_bind, Sem.run_pure, Result.andThen_ok, storeVar, hsz, hlen, ne_eq, not_true, if_false, cells_list]
              have : (if False then (stuck "storeVar: the value has not the size of the variable" : Sem Unit) else pure PUnit.unit).run C.P w = .ok () w := rfl
              first | rw [this] | skip
              simp only [hrun, Result.andThen_ok]
            rw [hrun2, Oper.upon_skip]
            have hr2 := (hr.storeM hmk hL hb' hoth hsub).putO (dst := o.dst) (l := .v (.tuple #[])) (ch := []) (v := undef) hd1 (by simp) (fun _ => ⟨rfl, fun k off e => by rcases e with e | e <;> cases e⟩) (fun e => absurd (holds_nil _) e)
            have hes : ((s.putM k (layL cs off (cellsL v))).put o.dst (.v (.tuple #[])) []) = ((s.put o.dst (.v (.tuple #[])) []).putM k (layL cs off (cellsL v))) := by cases o.dst <;> rfl
            rw [hes] at hr2
            have hsm : ∀ j, ((s.put o.dst (.v (.tuple #[])) []).putM k (layL cs off (cellsL v))).m j ≠ none → s.m j ≠ none := fun j hj => by
              by_cases ej : j = k
              · rw [ej, hmk]; simp
              · rw [putM_ne _ _ ej, put_m] at hj; exact hj
            refine hn _ _ _ _ _ hv (outPlain hpa hr2 ?_ (fun t ht => put_f s _ _ _ t ht) (fun j => ?_) (fun _ => rfl))
            · refine Seg.trans (lv1 := live s Liv) (β1 := β) (a1 := a) (h1 := h) (w1 := w') ⟨fun _ _ => rfl, fun _ _ => rfl, hsize, fun _ _ e => e, fun b hb hn hk => ?_, fun _ e => .inl ⟨e, rfl⟩, h5, h6, h7, rfl⟩ ((Seg.put (lv := live s Liv) hdl).mono (fun _ e => e) (fun _ e => e) (fun _ e => e) (fun j e => ⟨hsm j e.1, e.2⟩))
              exact hoth b hb (fun e => hk k ((has_iff _ _).1 h1) ⟨by rw [hmk]; simp, hL⟩ e.symm) hn
            · by_cases ej : j = k
              · subst ej
                exact .inr ⟨by simp [isStore, hop], hval, by rw [hmk]; simp, hL⟩
              · exact .inl (by rw [putM_ne _ _ ej, put_m])
          · exact hv.elim
        · exact doEff hpa hv
      · exact doEff0 hpa (entW_sound hv)
      · exact doEff hpa hv

end
end Lf

/-
  The lifting layer, part 17: regions as they stand.
-/
namespace Lf
open Go

abbrev Rel (n : Nat) (β : Nat → Nat) (s : St) (a : Act) (h : Hp) (w : World) : Prop :=
  RR n (fun _ => True) (fun _ => True) (fun _ => False) (fun _ => False) β s a h w

abbrev lives (s : St) : Nat → Prop := live s fun _ => True

section
variable {n : Nat} {Cur Liv D N : Nat → Prop} {β : Nat → Nat} {s : St} {a : Act} {h : Hp} {w : World}

theorem holds_any {s s' : St} : holds s [] ↔ holds s' [] := ⟨fun _ => holds_nil _, fun _ => holds_nil _⟩

theorem clean_f {s : St} {t : Nat} {l : LV} {c : Chain} (e : s.clean.f t = some (l, c)) : s.f t = some (l, []) ∧ c = [] := by
  simp only [St.clean] at e
  split at e
  · rename_i l' hf
    cases e
    exact ⟨hf, rfl⟩
  · cases e

theorem RR.clean (hr : RR n (fun _ => True) (fun _ => True) D N β s a h w) : Rel n β s.clean a h w := by
  refine ⟨hr.sz, hr.sub, fun t l c e => hr.lt t l _ (clean_f e).1, fun t l c e p hp => ?_, fun t l c e _ _ => hr.cur t l _ (clean_f e).1 trivial (holds_nil _), fun t l c e _ hh => ?_, hr.box, hr.inj, fun _ e => e.elim, fun _ e => e.elim⟩
  · rw [(clean_f e).2] at hp; cases hp
  · rw [(clean_f e).2] at hh; exact absurd (holds_nil _) hh

theorem dropL'_some {l : List Nat} {x : Option (LV × Chain)} {v : LV} {c : Chain} (e : dropL' l x = some (v, c)) : x = some (v, c) ∧ ∀ k o, (v = .box k o ∨ v = .boxd k o) → k ∉ l := by
  unfold dropL' at e
  split at e
  · rename_i k o c'
    cases hk : has l k with
    | true => simp [hk] at e
    | false =>
      simp only [hk, cond_false] at e
      cases e
      refine ⟨rfl, fun k' o' e' => ?_⟩
      rcases e' with e' | e' <;> cases e'
      exact has_false hk
  · rename_i k o c'
    cases hk : has l k with
    | true => simp [hk] at e
    | false =>
      simp only [hk, cond_false] at e
      cases e
      refine ⟨rfl, fun k' o' e' => ?_⟩
      rcases e' with e' | e' <;> cases e'
      exact has_false hk
  · cases e
    exact ⟨rfl, fun k' o' e' => by rcases e' with e' | e' <;> cases e'⟩
  · cases e

theorem drop_f {l : List Nat} {t : Nat} {v : LV} {c : Chain} (e : (s.dropB l).f t = some (v, c)) : s.f t = some (v, c) ∧ ∀ k o, (v = .box k o ∨ v = .boxd k o) → k ∉ l := by
  cases l with
  | nil => exact ⟨e, fun _ _ _ e => by cases e⟩
  | cons x l => exact dropL'_some e

theorem drop_m {l : List Nat} {k : Nat} {cs : List Value} (e : (s.dropB l).m k = some cs) : s.m k = some cs ∧ k ∉ l := by
  cases l with
  | nil => exact ⟨e, fun e => by cases e⟩
  | cons x l =>
    simp only [St.dropB] at e
    cases hk : has (x :: l) k with
    | true => simp [hk] at e
    | false =>
      simp only [hk, cond_false] at e
      exact ⟨e, has_false hk⟩

theorem RR.start (hr : Rel n β s a h w) (l : List Nat) : RR n (fun _ => True) (fun k => k ∉ l) (fun _ => False) (fun k => k ∈ l) β (s.dropB l) a h w := by
  refine ⟨hr.sz, hr.sub, fun t v c e => hr.lt t v c (drop_f e).1, fun t v c e => hr.chain t v c (drop_f e).1, fun t v c e _ hh => ?_, fun t v c e _ hh => ?_, fun k cs e _ => hr.box k cs (drop_m e).1 trivial, fun k k' e e' _ _ he => ?_, fun k hk => ?_, fun k hk t v c e _ o => ?_⟩
  · have hc : c = [] := by
      cases c with
      | nil => rfl
      | cons p c => exact (hr.chain t v _ (drop_f e).1 p (List.mem_cons_self ..)).elim
    subst hc
    exact ⟨(hr.cur t v [] (drop_f e).1 trivial (holds_nil _)).1, (drop_f e).2⟩
  · have hc : c = [] := by
      cases c with
      | nil => rfl
      | cons p c => exact (hr.chain t v _ (drop_f e).1 p (List.mem_cons_self ..)).elim
    subst hc
    exact absurd (holds_nil _) hh
  · obtain ⟨cs, e1⟩ := Option.ne_none_iff_exists'.1 e
    obtain ⟨cs', e1'⟩ := Option.ne_none_iff_exists'.1 e'
    exact hr.inj k k' (by simp [(drop_m e1).1]) (by simp [(drop_m e1').1]) trivial trivial he
  · cases e : (s.dropB l).m k with
    | none => rfl
    | some cs => exact absurd hk (drop_m e).2
  · exact ⟨fun e' => (drop_f e).2 k o (.inl e') hk, fun e' => (drop_f e).2 k o (.inr e') hk⟩

theorem live_drop {l : List Nat} {k : Nat} (e : live (s.dropB l) (fun k => k ∉ l) k) : lives s k := by
  obtain ⟨cs, e1⟩ := Option.ne_none_iff_exists'.1 e.1
  exact ⟨by simp [(drop_m e1).1], trivial⟩

theorem modsO_append : ∀ (x y : List Oper), modsO (x ++ y) = modsO x ++ modsO y
  | [], y => rfl
  | o :: x, y => by
    simp only [List.cons_append, modsO, modsO_append x y]
    cases o.dst <;> rfl

theorem modsO_mem {l : List Oper} {o : Oper} {d : Nat} (hm : o ∈ l) (hd : o.dst = some d) : d ∈ modsO l := by
  induction l with
  | nil => cases hm
  | cons p l ih =>
    rcases List.mem_cons.1 hm with rfl | hm
    · simp [modsO, hd]
    · have := ih hm
      simp only [modsO]
      cases p.dst <;> simp [this]

theorem nodup_iff : ∀ {l : List Nat}, nodup l = true → l.Nodup
  | [], _ => .nil
  | a :: l, h => by
    simp only [nodup] at h
    cases ha : has l a with
    | true => simp [ha] at h
    | false =>
      simp only [ha, cond_false] at h
      exact List.nodup_cons.2 ⟨has_false ha, nodup_iff h⟩

theorem noGuard_mem {l : List Oper} {o : Oper} (h : noGuard l = true) (hm : o ∈ l) : o.guard = none := by
  induction l with
  | nil => cases hm
  | cons p l ih =>
    simp only [noGuard] at h
    split at h
    · rename_i hp
      rcases List.mem_cons.1 hm with rfl | hm
      · exact hp
      · exact ih h hm
    · cases h

theorem guardsBack_get : ∀ {l : List Oper} {i j : Nat} {o : Oper} {g : Nat} {b : Bool}, guardsBack l i = true → l[j]? = some o → o.guard = some (g, b) → g < i + j
  | [], _, _, _, _, _, _, e, _ => by simp at e
  | p :: l, i, 0, o, g, b, h, e, hg => by
    simp at e
    subst e
    simp only [guardsBack, hg] at h
    cases hb : Nat.blt g i with
    | true => simp [Nat.blt] at hb; omega
    | false => simp [hb] at h
  | p :: l, i, j + 1, o, g, b, h, e, hg => by
    simp at e
    have h' : guardsBack l (i + 1) = true := by
      simp only [guardsBack] at h
      split at h
      · exact h
      · rename_i j' b' _
        cases hb : Nat.blt j' i with
        | true => simpa [hb] using h
        | false => simp [hb] at h
    have := guardsBack_get h' e hg
    omega

theorem privA_allocs {priv : List Nat} {o : Oper} {d : Nat} {r : List Oper} (h : privA priv o d) : allocsOf priv (o :: r) = d :: allocsOf priv r := by
  simp [allocsOf, h.1, h.2]

theorem notA_allocs {priv : List Nat} {o : Oper} {r : List Oper} (h : ∀ d, ¬ privA priv o d) : allocsOf priv (o :: r) = allocsOf priv r := by
  cases hp : isPrivAlloc priv o with
  | false => simp [allocsOf, hp]
  | true =>
    cases hd : o.dst with
    | none => simp [allocsOf, hp, hd]
    | some d => exact absurd ⟨hp, hd⟩ (h d)

theorem seq_sound {C : Ctx} (ok : C.tb.Ok C.P) {ops : Array Oper} {mok : List Nat} {K : St → Hp → Prop} {Q : Exit → Act → World → Prop} (g : Bool)
    (hlt : ∀ d ∈ modsO ops.toList, d < n) (hg : g = false → noGuard ops.toList = true) (hg' : g = true → (modsO ops.toList).Nodup ∧ guardsBack ops.toList 0 = true) :
    ∀ (r pre : List Oper) (β : Nat → Nat) (s : St) (a : Act) (h : Hp) (w : World), ops.toList = pre ++ r → (allocsOf C.priv r).Nodup → seqW C ops.toList mok r s h K →
      RR n (fun _ => True) (fun k => k ∉ allocsOf C.priv r) (fun t => g = true ∧ t ∈ modsO pre) (fun k => k ∈ allocsOf C.priv r) β s a h w →
      (∀ s' h' β' a' w', K s' h' → RR n (fun _ => True) (fun _ => True) (fun t => g = true ∧ t ∈ modsO ops.toList) (fun _ => False) β' s' a' h' w' →
        Seg (modsO ops.toList) mok (live s fun k => k ∉ allocsOf C.priv r) β a h w (lives s') β' a' h' w' → Q .normal a' w') →
      wpOps C.P ops Q (List.range' pre.length r.length) a w
  | [], pre, β, s, a, h, w, hops, _, hv, hr, hn => by
    simp only [List.length_nil, List.range'_zero]
    rw [List.append_nil] at hops
    exact hn s h β a w hv (hr.congr (fun _ => .rfl) (fun k => by simp [allocsOf]) (fun t e => by rw [hops]; exact e) (fun k e => e.elim)) ((Seg.refl _ _).mono (fun _ e => e) (fun _ e => e) (fun _ e => e) (fun k e => ⟨e.1, by simp [allocsOf]⟩))
  | o :: r, pre, β, s, a, h, w, hops, hnd, hv, hr, hn => by
    simp only [List.length_cons, List.range'_succ, wpOps_cons]
    have hi : ops[pre.length]? = some o := by
      have : ops.toList[pre.length]? = some o := by rw [hops]; simp
      simpa using this
    have hmem : o ∈ ops.toList := by rw [hops]; simp
    have hA : ∀ k, (privA C.priv o k ∨ k ∉ allocsOf C.priv (o :: r)) ↔ k ∉ allocsOf C.priv r := by
      intro k
      by_cases hp : ∃ d, privA C.priv o d
      · obtain ⟨d, hp⟩ := hp
        rw [privA_allocs hp] at hnd ⊢
        have hnd := List.nodup_cons.1 hnd
        constructor
        · rintro (e | e)
          · have : k = d := by have h1 := e.2; rw [hp.2] at h1; cases h1; rfl
            rw [this]; exact hnd.1
          · exact fun e' => e (List.mem_cons_of_mem _ e')
        · intro e
          by_cases ek : k = d
          · rw [ek]; exact .inl hp
          · exact .inr fun e' => by rcases List.mem_cons.1 e' with e' | e'
                                    · exact ek e'
                                    · exact e e'
      · have hp' : ∀ d, ¬ privA C.priv o d := fun d e => hp ⟨d, e⟩
        rw [notA_allocs hp']
        exact ⟨fun e => e.resolve_left (hp' k), .inr⟩
    have hA' : ∀ k, k ∈ allocsOf C.priv r → ¬ privA C.priv o k ∧ k ∈ allocsOf C.priv (o :: r) := fun k hk =>
      ⟨fun e => (hA k).1 (.inl e) hk, Classical.byContradiction fun e => (hA k).1 (.inr e) hk⟩
    have hnd' : (allocsOf C.priv r).Nodup := by
      by_cases hp : ∃ d, privA C.priv o d
      · obtain ⟨d, hp⟩ := hp
        rw [privA_allocs hp] at hnd
        exact (List.nodup_cons.1 hnd).2
      · rwa [notA_allocs fun d e => hp ⟨d, e⟩] at hnd
    refine op_exec (l := modsO ops.toList) ok hi hv hr (fun _ _ => trivial) (fun j b p d e1 e2 e3 => ⟨trivial, ?_⟩) (fun d e => ⟨hlt d (modsO_mem hmem e), fun e' => ?_, modsO_mem hmem e⟩) (fun d hp => ?_) _ Q fun s' h' β' a' w' hk out => ?_
    · cases g with
      | false => rw [noGuard_mem (hg rfl) hmem] at e1; cases e1
      | true =>
        refine ⟨rfl, ?_⟩
        have hj := guardsBack_get (j := pre.length) (hg' rfl).2 (by rw [hops]; simp) e1
        rw [nth_get, hops, List.getElem?_append_left (by omega)] at e2
        exact modsO_mem (List.mem_of_getElem? e2) e3
    · have hN := (hg' e'.1).1
      rw [hops, modsO_append] at hN
      have h1 : d ∈ modsO (o :: r) := modsO_mem (List.mem_cons_self ..) e
      exact (List.nodup_append.1 hN).2.2 d e'.2 d h1 rfl
    · have : d ∈ allocsOf C.priv (o :: r) := by rw [privA_allocs hp]; simp
      exact ⟨this, fun e => e this⟩
    · have hops' : ops.toList = (pre ++ [o]) ++ r := by rw [hops]; simp
      have := seq_sound ok g hlt hg hg' r (pre ++ [o]) β' s' a' h' w' hops' hnd' hk
        (out.rr.congr (fun t => by simp) (fun k => (hA k).symm) (fun t e => ⟨e.1, by rw [modsO_append]; exact List.mem_append_left _ e.2⟩) hA')
        (fun s2 h2 β2 a2 w2 hk2 hr2 hs2 => hn s2 h2 β2 a2 w2 hk2 hr2 (out.seg.trans (hs2.mono (fun _ e => e) (fun _ e => e) (fun k e => ⟨e.1, (hA k).2 e.2⟩) (fun _ e => e))))
      simpa using this

end
end Lf

/-
  The lifting layer, part 18: what stands ahead of what.
-/
namespace Lf
open Go

theorem condT {b x : Bool} (h : cond b x false = true) : b = true ∧ x = true := by
  cases b
  · cases h
  · exact ⟨rfl, h⟩

theorem nodup_bound : ∀ (n : Nat) (l : List Nat), l.Nodup → (∀ x ∈ l, x < n) → l.length ≤ n
  | 0, l, _, h => by
    cases l with
    | nil => simp
    | cons a l => exact absurd (h a (List.mem_cons_self ..)) (Nat.not_lt_zero _)
  | n + 1, l, hn, h => by
    by_cases hm : n ∈ l
    · have h1 := nodup_bound n (l.erase n) (hn.erase n) (fun x hx => by
        have h2 := (hn.mem_erase_iff).1 hx
        have := h x h2.2
        have := h2.1
        omega)
      rw [List.length_erase_of_mem hm] at h1
      omega
    · have := nodup_bound n l hn (fun x hx => by
        have h1 := h x hx
        have : x ≠ n := fun e => hm (e ▸ hx)
        omega)
      omega

theorem pigeon {n : Nat} {l : List Nat} (hn : l.Nodup) (h : ∀ x ∈ l, x < n) (hl : n ≤ l.length) {j : Nat} (hj : j < n) : j ∈ l := by
  refine Classical.byContradiction fun e => ?_
  have := nodup_bound n (j :: l) (List.nodup_cons.2 ⟨e, hn⟩) (fun x hx => by
    rcases List.mem_cons.1 hx with rfl | hx
    · exact hj
    · exact h x hx)
  simp at this
  omega

def Clos (L : List Oper) (X : Nat → Prop) : Prop := ∀ i o, L[i]? = some o → X i → ∀ j ∈ waits o, X j

def Ahead (L : List Oper) (i j : Nat) : Prop := ∀ X : Nat → Prop, Clos L X → (∀ o, L[i]? = some o → ∀ k ∈ waits o, X k) → X j

theorem allIn_mem {l m : List Nat} (h : allIn l m = true) : ∀ x ∈ l, x ∈ m := by
  induction l with
  | nil => intro x hx; cases hx
  | cons a l ih =>
    simp only [allIn] at h
    cases ha : has m a with
    | false => simp [ha] at h
    | true =>
      simp only [ha, cond_true] at h
      intro x hx
      rcases List.mem_cons.1 hx with rfl | hx
      · exact (has_iff _ _).1 ha
      · exact ih h x hx

theorem waits_mem {o : Oper} {e : Edge} (he : e ∈ o.after) (hb : Region.binds .any e = true) : e.on ∈ waits o := by
  have key : ∀ l : List Edge, e ∈ l → e.on ∈ waits.go l := by
    intro l
    induction l with
    | nil => intro h; cases h
    | cons x l ih =>
      intro h
      simp only [waits.go]
      rcases List.mem_cons.1 h with rfl | h
      · have : bindsAny e = true := by
          unfold Region.binds at hb
          unfold bindsAny
          cases hg : e.ground <;> simp [hg] at hb ⊢
        simp [this]
      · cases bindsAny x
        · exact ih h
        · exact List.mem_cons_of_mem _ (ih h)
  exact key _ (by simpa using he)

theorem union_mem {acc : List (List Nat)} : ∀ {l : List Nat} {j : Nat}, j ∈ aheads.union l acc → j ∈ l ∨ ∃ k ∈ l, ∃ x, nth acc k = some x ∧ j ∈ x
  | [], j, h => by simp [aheads.union] at h
  | k :: l, j, h => by
    simp only [aheads.union, app_eq] at h
    rcases List.mem_cons.1 h with rfl | h
    · exact .inl (List.mem_cons_self ..)
    · rcases List.mem_append.1 h with h | h
      · split at h
        · rename_i x hx
          exact .inr ⟨k, List.mem_cons_self .., x, hx, h⟩
        · cases h
      · rcases union_mem h with h | ⟨k', h1, h2⟩
        · exact .inl (List.mem_cons_of_mem _ h)
        · exact .inr ⟨k', List.mem_cons_of_mem _ h1, h2⟩

theorem aheads_ok {L : List Oper} : ∀ (r pre : List Oper) (acc : List (List Nat)), L = pre ++ r → acc.length = pre.length → (∀ i x, nth acc i = some x → ∀ j ∈ x, Ahead L i j) →
    ∀ i x, nth (aheads r acc) i = some x → ∀ j ∈ x, Ahead L i j
  | [], _, acc, _, _, h => h
  | o :: r, pre, acc, hL, hl, h => by
    refine aheads_ok r (pre ++ [o]) _ (by simp [hL]) (by simp [app_eq, hl]) fun i x hx j hj => ?_
    rw [nth_get, app_eq] at hx
    rcases Nat.lt_trichotomy i acc.length with hi | hi | hi
    · rw [List.getElem?_append_left hi, ← nth_get] at hx
      exact h i x hx j hj
    · subst hi
      simp at hx
      subst hx
      intro X hX hw
      have ho : L[acc.length]? = some o := by rw [hL, hl]; simp
      rcases union_mem hj with hj | ⟨k, hk, y, hy, hjy⟩
      · exact hw o ho j hj
      · exact h k y hy j hjy X hX fun o' ho' k' hk' => hX k o' ho' (hw o ho k hk) k' hk'
    · rw [List.getElem?_append_right (Nat.le_of_lt hi), List.getElem?_eq_none (by simp; omega)] at hx
      cases hx

theorem rows_ahead {L : List Oper} {i j : Nat} (h : j ∈ aheadOf (aheads L []) i) : Ahead L i j := by
  unfold aheadOf at h
  split at h
  · rename_i x hx
    exact aheads_ok L [] [] rfl rfl (fun i x hx => by simp [nth] at hx) i x hx j h
  · cases h

theorem sndL_eq : ∀ l : List (Nat × Operand), sndL l = l.map (·.2)
  | [] => rfl
  | (_, x) :: l => by simp [sndL, sndL_eq l]

theorem optL_eq : ∀ l : Option Operand, optL l = l.toArray.toList
  | none => rfl
  | some x => rfl

theorem opndsL_mem {op : Op} {l : List Operand} (h : opndsL op = some l) : ∀ x ∈ op.operands, x ∈ l := by
  cases op with
  | call c =>
    obtain ⟨callee, args, ats⟩ := c
    cases callee with
    | value f => cases h; intro x hx; simpa [Op.operands, Call.operands] using hx
    | builtin b => cases h; intro x hx; simpa [Op.operands, Call.operands] using hx
    | invoke r m => cases h
  | build t ps => cases h; intro x hx; simpa [Op.operands, sndL_eq] using hx
  | buildSlice t n ps => cases h; intro x hx; simpa [Op.operands, sndL_eq] using hx
  | makeFunc fn a b => cases h; intro x hx; simpa [Op.operands, app_eq] using hx
  | makeMap t r => cases h; intro x hx; simpa [Op.operands, optL_eq] using hx
  | slice t x lo hi mx => cases h; intro x hx; simpa [Op.operands, app_eq, optL_eq, or_assoc] using hx
  | alloc t => cases h; intro x hx; simp [Op.operands] at hx
  | _ => first | (cases h; done) | (cases h; intro x hx; simpa [Op.operands] using hx)

theorem slotOk_get {rows : List (List Nat)} {i t : Nat} : ∀ {l : List Oper} {j0 : Nat}, slotOk rows i t l j0 = true → ∀ j p, l[j]? = some p → p.dst = some t →
    j0 + j ∈ aheadOf rows i ∨ i = j0 + j ∨ i ∈ aheadOf rows (j0 + j)
  | [], _, _, j, p, e, _ => by simp at e
  | q :: l, j0, h, j, p, e, hd => by
    simp only [slotOk] at h
    cases h1 : (cond (dstIs q t) (cond (has (aheadOf rows i) j0) true (cond (Nat.beq i j0) true (has (aheadOf rows j0) i))) true) with
    | false => rw [h1] at h; cases h
    | true =>
      rw [h1] at h
      cases j with
      | zero =>
        simp at e
        subst e
        have : dstIs q t = true := by simp [dstIs, hd]
        rw [this] at h1
        simp only [cond_true] at h1
        cases h2 : has (aheadOf rows i) j0 with
        | true => exact .inl ((has_iff _ _).1 h2)
        | false =>
          rw [h2] at h1
          simp only [cond_false] at h1
          cases h3 : Nat.beq i j0 with
          | true => exact .inr (.inl (Nat.eq_of_beq_eq_true h3))
          | false =>
            rw [h3] at h1
            exact .inr (.inr ((has_iff _ _).1 h1))
      | succ j =>
        have := slotOk_get (l := l) (j0 := j0 + 1) h j p (by simpa using e) hd
        rwa [show j0 + 1 + j = j0 + (j + 1) from by omega] at this

theorem looksGo_mem {L : List Oper} {rows : List (List Nat)} {i t : Nat} : ∀ {l : List Operand}, looksOk.go L rows i l = true → Operand.tmp t ∈ l → slotOk rows i t L 0 = true
  | [], _, hm => by cases hm
  | x :: l, h, hm => by
    cases x with
    | tmp u =>
      simp only [looksOk.go] at h
      cases h1 : slotOk rows i u L 0 with
      | false => simp [h1] at h
      | true =>
        simp only [h1, cond_true] at h
        rcases List.mem_cons.1 hm with e | hm
        · cases e; exact h1
        · exact looksGo_mem h hm
    | _ =>
      simp only [looksOk.go] at h
      rcases List.mem_cons.1 hm with e | hm
      · cases e
      · exact looksGo_mem h hm

theorem looks_slot {L : List Oper} {rows : List (List Nat)} {i t : Nat} {o : Oper} (h : looksOk L rows i o = true) (hm : Operand.tmp t ∈ o.op.operands) {j : Nat} {p : Oper} (hj : L[j]? = some p) (hd : p.dst = some t) :
    j ∈ aheadOf rows i ∨ i = j ∨ i ∈ aheadOf rows j := by
  unfold looksOk at h
  split at h
  · rename_i l hl
    cases h1 : looksOk.go L rows i l with
    | false => simp [h1] at h
    | true =>
      have := slotOk_get (looksGo_mem h1 (opndsL_mem hl _ hm)) j p hj hd
      simpa using this
  · cases h

theorem looks_guard {L : List Oper} {rows : List (List Nat)} {i j : Nat} {b : Bool} {o : Oper} (h : looksOk L rows i o = true) (hg : o.guard = some (j, b)) : j ∈ aheadOf rows i := by
  unfold looksOk at h
  split at h
  · rename_i l hl
    cases h1 : looksOk.go L rows i l with
    | false => simp [h1] at h
    | true =>
      simp only [h1, cond_true, hg] at h
      exact (has_iff _ _).1 h
  · cases h

theorem looksAt_mem {o : Oper} {t : Nat} (hm : Operand.tmp t ∈ o.op.operands) : looksAt o t = true := by
  unfold looksAt
  split
  · rename_i l hl
    have hm' := opndsL_mem hl _ hm
    clear hl hm
    induction l with
    | nil => cases hm'
    | cons x l ih =>
      rcases List.mem_cons.1 hm' with e | hm'
      · subst e; simp [looksAt.go]
      · have := ih hm'
        cases x <;> simp only [looksAt.go]
        · rw [this]; simp
        all_goals exact this
  · rfl

theorem war_get {rows : List (List Nat)} {j d : Nat} {o : Oper} (hd : o.dst = some d) : ∀ {l : List Oper} {i0 : Nat}, isWar rows j o l i0 = false → ∀ i p, l[i]? = some p → Operand.tmp d ∈ p.op.operands → j ∈ aheadOf rows (i0 + i)
  | [], _, _, i, p, e, _ => by simp at e
  | q :: l, i0, h, i, p, e, hm => by
    simp only [isWar, hd] at h
    cases h1 : (cond (looksAt q d) (cond (has (aheadOf rows i0) j) false true) false) with
    | true => rw [h1] at h; cases h
    | false =>
      rw [h1] at h
      cases i with
      | zero =>
        simp at e
        subst e
        rw [looksAt_mem hm] at h1
        simp only [cond_true] at h1
        cases h2 : has (aheadOf rows i0) j with
        | true => exact (has_iff _ _).1 h2
        | false => rw [h2] at h1; cases h1
      | succ i =>
        have := war_get hd (l := l) (i0 := i0 + 1) h i p (by simpa using e) hm
        rwa [show i0 + 1 + i = i0 + (i + 1) from by omega] at this

/-- What a plan's first step tells. -/
theorem planGo_cons {tb : Tb} {priv : List Nat} {ops : List Oper} {rows : List (List Nat)} {i : Nat} {ws : List Nat} {r : List (Nat × List Nat)} {done : List Nat} {last : Option Nat}
    (h : planGo tb priv ops rows ((i, ws) :: r) done last = true) : ∃ o, ops[i]? = some o ∧ (∀ k ∈ waits o, k ∈ done) ∧ looksOk ops rows i o = true ∧ i ∉ done ∧ (∀ e, last = some e → e ∈ aheadOf rows i) ∧
      (((isVal tb o = true ∨ isPrivAlloc priv o = true) ∧ isWar rows i o ops 0 = false ∧ planGo tb priv ops rows r (i :: done) last = true) ∨
       ((isVal tb o = true ∨ isPrivAlloc priv o = true) ∧ isWar rows i o ops 0 = true ∧ planGo tb priv ops rows r (i :: done) (some i) = true) ∨
       (isVal tb o = false ∧ isPrivAlloc priv o = false ∧ planGo.watched tb ops rows ws i done = true ∧ planGo tb priv ops rows r (i :: done) (some i) = true)) := by
  simp only [planGo] at h
  split at h
  · rename_i o ho
    rw [nth_get] at ho
    obtain ⟨h12, h⟩ := condT h
    obtain ⟨h1, h2⟩ := condT h12
    cases h3 : has done i with
    | true => simp [h3] at h
    | false =>
      simp only [h3, cond_false] at h
      obtain ⟨h4, h⟩ := condT h
      refine ⟨o, ho, allIn_mem h1, h2, has_false h3, fun e he => ?_, ?_⟩
      · subst he
        exact (has_iff _ _).1 h4
      · have hvp : ∀ x, (cond (isVal tb o) true (isPrivAlloc priv o)) = x → (x = true → isVal tb o = true ∨ isPrivAlloc priv o = true) ∧ (x = false → isVal tb o = false ∧ isPrivAlloc priv o = false) := by
          intro x e
          cases hv : isVal tb o <;> rw [hv] at e <;> simp at e <;> subst e <;> simp
        split at h
        · rename_i e1 e2
          exact .inl ⟨(hvp _ e1).1 rfl, e2, h⟩
        · rename_i e1 e2
          exact .inr (.inl ⟨(hvp _ e1).1 rfl, e2, h⟩)
        · rename_i e1
          cases h5 : planGo.watched tb ops rows ws i done with
          | false => simp [h5] at h
          | true =>
            simp only [h5, cond_true] at h
            exact .inr (.inr ⟨((hvp _ e1).2 rfl).1, ((hvp _ e1).2 rfl).2, rfl, h⟩)
  · cases h

theorem watched_get {tb : Tb} {ops : List Oper} {rows : List (List Nat)} {ws : List Nat} {e : Nat} : ∀ {l : List Nat}, planGo.watched tb ops rows ws e l = true → ∀ i ∈ l, ∀ o, ops[i]? = some o → isVal tb o = true → isRead tb o = true →
    i ∈ ws ∨ i ∈ aheadOf rows e
  | [], _, i, hi, _, _, _, _ => by cases hi
  | r :: l, h, i, hi, o, ho, hv, hrd => by
    simp only [planGo.watched] at h
    obtain ⟨h2, h⟩ := condT h
    rcases List.mem_cons.1 hi with rfl | hi
    · rw [nth_get, ho] at h2
      simp only [hv, hrd, cond_true] at h2
      cases h3 : has ws i with
      | true => exact .inl ((has_iff _ _).1 h3)
      | false =>
        rw [h3] at h2
        exact .inr ((has_iff _ _).1 h2)
    · exact watched_get h i hi o ho hv hrd

/-- Whatever comes behind a change in the plan waits for it. -/
theorem plan_later {tb : Tb} {priv : List Nat} {L : List Oper} : ∀ {r : List (Nat × List Nat)} {done : List Nat} {e : Nat}, planGo tb priv L (aheads L []) r done (some e) = true →
    ∀ j ∈ r.map (·.1), Ahead L j e
  | [], _, _, _, j, hj => by cases hj
  | (i, ws) :: r, done, e, h, j, hj => by
    obtain ⟨o, ho, _, _, _, hlast, hc⟩ := planGo_cons h
    have hie := rows_ahead (hlast e rfl)
    rcases List.mem_cons.1 hj with rfl | hj
    · exact hie
    · have step : ∀ e', (e' = e ∨ e' = i) → planGo tb priv L (aheads L []) r (i :: done) (some e') = true → Ahead L j e := by
        intro e' he' h'
        have h1 := plan_later h' j hj
        rcases he' with rfl | rfl
        · exact h1
        · intro X hX hw
          have hXi : X e' := h1 X hX hw
          exact hie X hX fun o' ho' k hk => hX e' o' ho' hXi k hk
      rcases hc with ⟨_, _, h'⟩ | ⟨_, _, h'⟩ | ⟨_, _, _, h'⟩
      · exact step e (.inl rfl) h'
      · exact step i (.inr rfl) h'
      · exact step i (.inr rfl) h'

end Lf

/-
  The lifting layer, part 19: what is told of operations that are still to be carried out.
-/
namespace Lf
open Go

/-- The shape of what is loaded from memory that others know. -/
def LdSh (tb : Tb) (o : Oper) (ch : Chain) (s : St) (l : LV) : Prop :=
  kindD tb o ch s = .mem → ∀ t x, o.op = .load t x → ∃ (e : Ty) (y : e.sh.T), tb.ty t = some e ∧ l = .v (e.sh.enc y)

theorem valW_more {P : Program} {tb : Tb} (ok : tb.Ok P) {o : Oper} {ch : Chain} {s : St} {h : Hp} {K : LV → Prop} (hv : valW P tb o ch s h K) :
    ∃ l, K l ∧ (holds s ch → RunsK (kindD tb o ch s) P o s h l) ∧ Prov o ch s l ∧ LdSh tb o ch s l := by
  by_cases hl : ∃ t x a, o.op = .load t x ∧ ev s ch x = some (.v (.pointer (some a)))
  · obtain ⟨t, x, a, hop, hx⟩ := hl
    unfold valW at hv
    simp only [hop, hx] at hv
    split at hv
    · rename_i e hte
      obtain ⟨y, hr, hk⟩ := hv
      refine ⟨.v (e.sh.enc y), hk, fun hh => ?_, prov_v _ _ _ _, fun _ t' x' e' => ?_⟩
      · intro β ρ w ho hs hb
        have hkd : kindD tb o ch s = .mem := by simp [kindD, hop, hx]
        have hx' := ev_ok (ho x (by simp [hop, Op.operands])) hh hx
        have hr' := run_loadVar ok hte (fun j v hj => hcell_sub (hs hkd) (req_cnd hr hh j v hj))
        refine ⟨w, ?_, fun _ => rfl, fun e => .refl (hs e)⟩
        simp only [execOp, hop, hx', LVal, Instr.loadAt, Instr.sureAddr, Sem.run_bind, Sem.run_pure, Result.andThen_ok, hr']
      · rw [hop] at e'
        cases e'
        exact ⟨e, y, hte, rfl⟩
    · exact hv.elim
  · obtain ⟨l, hk, hr, hp⟩ := valW_sound ok hv
    refine ⟨l, hk, hr, hp, fun hkd t x hop => ?_⟩
    refine absurd ?_ hl
    unfold valW at hv
    simp only [hop] at hv
    simp only [kindD, hop] at hkd
    split at hv
    · rename_i a hx
      exact ⟨t, x, a, hop, hx⟩
    · rename_i k off hx
      rw [hx] at hkd; cases hkd
    · rename_i k off hx
      rw [hx] at hkd; cases hkd
    · exact hv.elim

/-- An operation that is told of, but still to be carried out. -/
def PFact (C : Ctx) (L : List Oper) (o : Oper) (s : St) (h : Hp) : Prop :=
  ∃ ch, chainOf L L.length o = some ch ∧ guardOk s ch = true ∧
    ((isVal C.tb o = true ∧ (isRead C.tb o = true ∨ kindD C.tb o ch s = .pure) ∧ ∃ l, (∀ d, o.dst = some d → s.f d = some (l, ch)) ∧ (holds s ch → RunsK (kindD C.tb o ch s) C.P o s h l) ∧ Prov o ch s l ∧ LdSh C.tb o ch s l) ∨
     (ch = [] ∧ isVal C.tb o = false ∧ ∃ d cs, privA C.priv o d ∧ s.f d = some (.box d 0, []) ∧ s.m d = some cs ∧
        ∀ (β : Nat → Nat) (ρ : Operand → Value) (w : World), (∀ x ∈ o.op.operands, Opnd β s ρ x) →
          ∃ t, (execOp ρ o).run C.P w = .ok (.value (.pointer (some ⟨w.heap.size, 0, none⟩))) { w with heap := w.heap.push (.cells cs.toArray t (0, 0)) }))

section
variable {C : Ctx} {L : List Oper} {o : Oper} {s s' : St} {h h' : Hp} {D : Nat → Prop}

/-- The two states agree where the operation looks. -/
structure Like (D : Nat → Prop) (o : Oper) (s s' : St) : Prop where
  dn : ∀ t, D t → s'.f t = s.f t
  op : ∀ t, Operand.tmp t ∈ o.op.operands → s'.f t = s.f t
  ch : ∀ t l c, s.f t = some (l, c) → ∀ p ∈ c, D p.1

theorem Like.holds' (k : Like D o s s') {c : Chain} (hc : ∀ p ∈ c, D p.1) : holds s' c ↔ holds s c := holds_congr fun p hp => k.dn _ (hc p hp)

theorem Like.opnd (k : Like D o s s') {β : Nat → Nat} {ρ : Operand → Value} {x : Operand} (hx : x ∈ o.op.operands) (ho : Opnd β s' ρ x) : Opnd β s ρ x := by
  cases x with
  | tmp t => exact fun l c e hc => ho l c (by rw [k.op t hx]; exact e) ((k.holds' (k.ch t l c e)).2 hc)
  | const v => exact ho
  | global g => exact ho
  | func f => exact ho

theorem Like.ev' (k : Like D o s s') {ch : Chain} {x : Operand} (hx : x ∈ o.op.operands) : ev s' ch x = ev s ch x := by
  cases x with
  | tmp t => simp only [ev, k.op t hx]
  | const v => rfl
  | global g => rfl
  | func f => rfl

theorem vals_congr {s s' : St} {ch : Chain} : ∀ {l : List Operand}, (∀ x ∈ l, ev s' ch x = ev s ch x) → vals s' ch l = vals s ch l
  | [], _ => rfl
  | x :: l, h => by
    simp only [vals]
    rw [h x (List.mem_cons_self ..), vals_congr fun y hy => h y (List.mem_cons_of_mem _ hy)]

theorem Like.kind (k : Like D o s s') {tb : Tb} {ch : Chain} : kindD tb o ch s' = kindD tb o ch s := by
  unfold kindD
  cases hop : o.op with
  | load t x => simp only [k.ev' (ch := ch) (x := x) (by simp [hop, Op.operands])]
  | binOp op t x y u => simp only [k.ev' (ch := ch) (x := x) (by simp [hop, Op.operands]), k.ev' (ch := ch) (x := y) (by simp [hop, Op.operands])]
  | convert a b x => simp only [k.ev' (ch := ch) (x := x) (by simp [hop, Op.operands])]
  | call c =>
    obtain ⟨callee, xs, ts⟩ := c
    cases callee with
    | builtin b =>
      cases b with
      | len =>
        have : vals s' ch xs.toList = vals s ch xs.toList := vals_congr fun x hx => k.ev' (by simp [hop, Op.operands, Call.operands]; simpa using hx)
        simp only [this]
      | _ => rfl
    | _ => rfl
  | _ => rfl

theorem Like.prov (k : Like D o s s') {ch : Chain} {l : LV} (hp : Prov o ch s l) : Prov o ch s' l := fun b off e => by
  obtain ⟨x, hx, off', h⟩ := hp b off e
  exact ⟨x, hx, off', by rw [k.ev' hx]; exact h⟩

theorem guardOk_like (k : Like D o s s') : ∀ {ch : Chain}, (∀ p ∈ ch, D p.1) → guardOk s' ch = guardOk s ch
  | [], _ => rfl
  | (d, b) :: c, hc => by
    simp only [guardOk, k.dn d (hc (d, b) (List.mem_cons_self ..)), guardOk_like k fun p hp => hc p (List.mem_cons_of_mem _ hp)]

theorem boxU_like (k : Like D o s s') {β : Nat → Nat} {w : World} (hm : ∀ t, Operand.tmp t ∈ o.op.operands → ∀ b off c, (s.f t = some (.box b off, c) ∨ s.f t = some (.boxd b off, c)) → holds s c → s'.m b = s.m b)
    (hb : BoxU β s' o w) : BoxU β s o w := by
  intro t ht b off c hf hc cs hcs
  refine hb t ht b off c (by rw [k.op t ht]; exact hf) ?_ cs (by rw [hm t ht b off c hf hc]; exact hcs)
  rcases hf with hf | hf
  · exact (k.holds' (k.ch t _ c hf)).2 hc
  · exact (k.holds' (k.ch t _ c hf)).2 hc

/-- Nothing that matters has changed. -/
theorem runsK_like (k : Like D o s s') {kd : Kd} {P : Program} {l : LV} (hm : kd ≠ .pure → ∀ t, Operand.tmp t ∈ o.op.operands → ∀ b off c, (s.f t = some (.box b off, c) ∨ s.f t = some (.boxd b off, c)) → holds s c → s'.m b = s.m b)
    (hh : kd = .mem → h' = h) (hr : RunsK kd P o s h l) : RunsK kd P o s' h' l := by
  intro β ρ w ho hs hb
  obtain ⟨w', h1, h2, h3⟩ := hr β ρ w (fun x hx => k.opnd hx (ho x hx)) (fun e => by rw [← hh e]; exact hs e) (fun e => boxU_like k (hm e) (hb e))
  exact ⟨w', h1, h2, fun e => by rw [hh e]; exact h3 e⟩

theorem alloc_like (k : Like D o s s') {P : Program} {cs : List Value}
    (hr : ∀ (β : Nat → Nat) (ρ : Operand → Value) (w : World), (∀ x ∈ o.op.operands, Opnd β s ρ x) →
          ∃ t, (execOp ρ o).run P w = .ok (.value (.pointer (some ⟨w.heap.size, 0, none⟩))) { w with heap := w.heap.push (.cells cs.toArray t (0, 0)) }) :
    ∀ (β : Nat → Nat) (ρ : Operand → Value) (w : World), (∀ x ∈ o.op.operands, Opnd β s' ρ x) →
          ∃ t, (execOp ρ o).run P w = .ok (.value (.pointer (some ⟨w.heap.size, 0, none⟩))) { w with heap := w.heap.push (.cells cs.toArray t (0, 0)) } :=
  fun β ρ w ho => hr β ρ w fun x hx => k.opnd hx (ho x hx)

theorem again_sound {tb : Tb} (hC : C.tb = tb) (ok : tb.Ok C.P) {mch : Bool} {ch : Chain} {l : LV} {d : Nat} (ha : Again C mch o ch s' h') (hd : o.dst = some d) (hf : ∃ c, s'.f d = some (l, c)) (hh : holds s' ch)
    (hs : LdSh tb o ch s' l) : kindD tb o ch s' = .pure ∨ (kindD tb o ch s' = .box ∧ mch = false) ∨ (kindD tb o ch s' = .mem ∧ RunsK .mem C.P o s' h' l) := by
  subst hC
  obtain ⟨c, hf⟩ := hf
  unfold Again at ha
  split at ha
  · rename_i t x d' hop hd'
    rw [hd] at hd'; cases hd'
    rw [hf] at ha
    split at ha
    · rename_i v c' e
      cases e
      split at ha
      · rename_i a hx
        right; right
        have hkd : kindD C.tb o ch s' = .mem := by simp [kindD, hop, hx]
        obtain ⟨e, y, hte, hl⟩ := hs hkd t x hop
        cases hl
        refine ⟨hkd, fun β ρ w ho hs hb => ?_⟩
        have hx' := ev_ok (ho x (by simp [hop, Op.operands])) hh hx
        have hr := run_loadVar ok hte (fun j v hj => hcell_sub (hs rfl) (req_cnd ha hh j v hj))
        refine ⟨w, ?_, fun e => absurd rfl e, fun _ => .refl (hs rfl)⟩
        simp only [execOp, hop, hx', LVal, Instr.loadAt, Instr.sureAddr, Sem.run_bind, Sem.run_pure, Result.andThen_ok, hr]
      · rename_i k off hx
        cases mch with
        | true => exact ha.elim
        | false => exact .inr (.inl ⟨by simp [kindD, hop, hx], rfl⟩)
      · rename_i k off hx
        cases mch with
        | true => exact ha.elim
        | false => exact .inr (.inl ⟨by simp [kindD, hop, hx], rfl⟩)
      · exact ha.elim
    · exact ha.elim
  · rename_i t x i cok d' hop hd'
    rw [hd] at hd'; cases hd'
    rw [hf] at ha
    split at ha
    · rename_i v c' e
      cases e
      obtain ⟨a, hea, ha1⟩ := onV_some ha
      obtain ⟨b, heb, ha2⟩ := onV_some ha1
      have hl := req_cnd ha2 hh
      right; right
      have main : ∀ w, Sub h' w → ∃ w', (Instr.lookup t a b cok).run C.P w = .ok v w' ∧ Step h' h' w w' := by
        intro w hsub
        unfold AgainLook at hl
        split at hl
        · rename_i m e he
          split at hl
          · rename_i k u hu
            split at hl
            · rename_i ke ue hk hue
              cases hkd : isKeyD ke.und with
              | true =>
                simp only [hkd, cond_true] at hl
                cases cok with
                | true =>
                  simp only [cond_true] at hl
                  split at hl
                  · rename_i x1 y1
                    exact ⟨w, by rw [run_lookup ok he hu hk hue hkd hsub hl]; rfl, .refl hsub⟩
                  · exact hl.elim
                | false =>
                  simp only [cond_false] at hl
                  obtain ⟨y1, hl⟩ := hl
                  exact ⟨w, by rw [run_lookup ok he hu hk hue hkd hsub hl]; rfl, .refl hsub⟩
              | false =>
                simp only [hkd, cond_false] at hl
                exact semIs_run hl hsub
            · exact hl.elim
          · exact hl.elim
        · exact hl.elim
      refine ⟨by simp [kindD, hop], fun β ρ w ho hs hb => ?_⟩
      have hx := ev_ok (ho x (by simp [hop, Op.operands])) hh hea
      have hi := ev_ok (ho i (by simp [hop, Op.operands])) hh heb
      obtain ⟨w', hr, hst⟩ := main w (hs rfl)
      refine ⟨w', ?_, fun e => absurd rfl e, fun _ => hst⟩
      simp only [execOp, hop, hx, hi, LVal, Sem.run_bind, hr, Result.andThen_ok, Sem.run_pure]
    · exact ha.elim
  · rename_i xs ts d' hop hd'
    rw [hd] at hd'; cases hd'
    rw [hf] at ha
    split at ha
    · rename_i v c' e
      cases e
      split at ha
      · rename_i x hvs
        have hkd : kindD C.tb o ch s' = .pure ∨ kindD C.tb o ch s' = .mem := by
          unfold kindD
          rw [hop]
          simp only []
          repeat' split
          all_goals simp
        rcases hkd with hkd | hkd
        · exact .inl hkd
        right; right
        refine ⟨hkd, fun β ρ w ho hs hb => ?_⟩
        have hargs : xs.map ρ = #[x] := by
          have := vals_ok (β := β) (ρ := ρ) hh hvs fun x hx => ho x (by simp [hop, Op.operands, Call.operands]; simpa using hx)
          apply Array.ext'; simpa using this
        obtain ⟨w', hr, hst⟩ := semIs_run (req_cnd ha hh) (hs rfl)
        refine ⟨w', ?_, fun e => absurd rfl e, fun _ => hst⟩
        simp only [execOp, hop, resolve, invoke, builtin, Sem.run_bind, Sem.run_pure, Result.andThen_ok, hargs, hr, LVal]
      · exact ha.elim
    · exact ha.elim
  · exact ha.elim

end
end Lf

/-
  The lifting layer, part 20: a region whose order is drawn, told in one order.
-/
namespace Lf
open Go

theorem binds_any (e : Edge) : bindsAny e = Region.binds .any e := by
  unfold Region.binds bindsAny
  cases e.ground <;> rfl

theorem mem_waits {o : Oper} {k : Nat} (h : k ∈ waits o) : ∃ e ∈ o.after, e.on = k ∧ Region.binds .any e = true := by
  have key : ∀ l : List Edge, k ∈ waits.go l → ∃ e ∈ l, e.on = k ∧ Region.binds .any e = true := by
    intro l
    induction l with
    | nil => intro h; cases h
    | cons x l ih =>
      intro h
      simp only [waits.go] at h
      cases hx : bindsAny x with
      | false =>
        simp only [hx, cond_false] at h
        obtain ⟨e, h1, h2⟩ := ih h
        exact ⟨e, List.mem_cons_of_mem _ h1, h2⟩
      | true =>
        simp only [hx, cond_true] at h
        rcases List.mem_cons.1 h with e | h
        · exact ⟨x, List.mem_cons_self .., e.symm, by rw [← binds_any, hx]⟩
        · obtain ⟨e, h1, h2⟩ := ih h
          exact ⟨e, List.mem_cons_of_mem _ h1, h2⟩
  obtain ⟨e, h1, h2⟩ := key _ h
  exact ⟨e, by simpa using h1, h2⟩

theorem dst_inj {t : Nat} : ∀ {L : List Oper} {i j : Nat} {o p : Oper}, (modsO L).Nodup → L[i]? = some o → L[j]? = some p → o.dst = some t → p.dst = some t → i = j
  | [], _, _, _, _, _, e, _, _, _ => by simp at e
  | x :: L, 0, 0, _, _, _, _, _, _, _ => rfl
  | x :: L, 0, j + 1, o, p, hn, e, e', h, h' => by
    simp at e e'
    subst e
    simp only [modsO, h] at hn
    exact absurd (modsO_mem (List.mem_of_getElem? e') h') (List.nodup_cons.1 hn).1
  | x :: L, i + 1, 0, o, p, hn, e, e', h, h' => by
    simp at e e'
    subst e'
    simp only [modsO, h'] at hn
    exact absurd (modsO_mem (List.mem_of_getElem? e) h) (List.nodup_cons.1 hn).1
  | x :: L, i + 1, j + 1, o, p, hn, e, e', h, h' => by
    have hn' : (modsO L).Nodup := by
      simp only [modsO] at hn
      split at hn
      · exact (List.nodup_cons.1 hn).2
      · exact hn
    have e1 : L[i]? = some o := by simpa using e
    have e2 : L[j]? = some p := by simpa using e'
    have := dst_inj hn' e1 e2 h h'
    omega

def Topo (L : List Oper) : List Nat → Prop
  | [] => True
  | i :: d => (∀ o, L[i]? = some o → ∀ k ∈ waits o, k ∈ d) ∧ Topo L d

theorem topo_first {L : List Oper} {ls : List Nat} : ∀ {d : List Nat}, Topo L d → (∃ i ∈ d, i ∉ ls) → ∃ i ∈ d, i ∉ ls ∧ ∀ o, L[i]? = some o → ∀ k ∈ waits o, k ∈ ls
  | [], _, ⟨i, hi, _⟩ => by cases hi
  | i :: d, ht, hx => by
    by_cases hd : ∃ j ∈ d, j ∉ ls
    · obtain ⟨j, h1, h2⟩ := topo_first ht.2 hd
      exact ⟨j, List.mem_cons_of_mem _ h1, h2⟩
    · have hall : ∀ j ∈ d, j ∈ ls := fun j hj => Classical.byContradiction fun e => hd ⟨j, hj, e⟩
      obtain ⟨j, hj, hn⟩ := hx
      rcases List.mem_cons.1 hj with rfl | hj
      · exact ⟨j, List.mem_cons_self .., hn, fun o ho k hk => hall k (ht.1 o ho k hk)⟩
      · exact absurd (hall j hj) hn

def CurP (L : List Oper) (done ls : List Nat) (t : Nat) : Prop := ∀ i o, i ∈ done → i ∉ ls → L[i]? = some o → o.dst ≠ some t
def DnP (L : List Oper) (done : List Nat) (t : Nat) : Prop := ∃ i o, i ∈ done ∧ L[i]? = some o ∧ o.dst = some t
def NnP (C : Ctx) (L : List Oper) (done : List Nat) (k : Nat) : Prop := ∃ i o, i ∉ done ∧ L[i]? = some o ∧ privA C.priv o k
def LivP (C : Ctx) (L : List Oper) (done ls : List Nat) (k : Nat) : Prop := (∀ i o, i ∈ done → i ∉ ls → L[i]? = some o → ¬ privA C.priv o k) ∧ ¬ NnP C L done k

/-- The state that is told ('done': the operations told of) and memory ('ls': those carried out). -/
structure Sim (C : Ctx) (L : List Oper) (mok : List Nat) (n : Nat) (lv0 : Nat → Prop) (β0 : Nat → Nat) (a0 : Act) (h0 : Hp) (w0 : World) (done ls : List Nat) (listed : Array Bool) (β : Nat → Nat) (s : St) (a : Act) (h : Hp) (w : World) : Prop where
  lsz : listed.size = L.length
  lst : ∀ i, listed.getD i false = true ↔ i ∈ ls
  lnd : ls.Nodup
  lsub : ∀ i ∈ ls, i ∈ done
  dlt : ∀ i ∈ done, i < L.length
  clos : Clos L (· ∈ ls)
  dclos : Clos L (· ∈ done)
  topo : Topo L done
  rr : RR n (CurP L done ls) (LivP C L done ls) (DnP L done) (NnP C L done) β s a h w
  facts : ∀ i o, i ∈ done → i ∉ ls → L[i]? = some o → PFact C L o s h ∧ looksOk L (aheads L []) i o = true ∧ isWar (aheads L []) i o L 0 = false ∧ ∀ d, privA C.priv o d → d ∈ mok
  seg : Seg (modsO L) mok lv0 β0 a0 h0 w0 (live s (LivP C L done ls)) β a h w

section
variable {C : Ctx} {L : List Oper} {mok : List Nat} {n : Nat} {lv0 : Nat → Prop} {β0 : Nat → Nat} {a0 : Act} {h0 : Hp} {w0 : World} {done ls : List Nat} {listed : Array Bool} {β : Nat → Nat} {s : St} {a : Act} {h : Hp} {w : World}

theorem get_same {i : Nat} {o p : Oper} (h : L[i]? = some o) (h' : L[i]? = some p) : p = o := by rw [h] at h'; cases h'; rfl

theorem curP_exec (hnd : (modsO L).Nodup) {i : Nat} {o : Oper} (hi : L[i]? = some o) (hd : i ∈ done) (t : Nat) : CurP L done (i :: ls) t ↔ (o.dst = some t ∨ CurP L done ls t) := by
  constructor
  · intro hc
    by_cases ht : o.dst = some t
    · exact .inl ht
    · refine .inr fun j p h1 h2 h3 => ?_
      by_cases hj : j = i
      · subst hj; rw [get_same hi h3]; exact ht
      · exact hc j p h1 (fun e => by rcases List.mem_cons.1 e with e | e
                                     · exact hj e
                                     · exact h2 e) h3
  · rintro (ht | hc) j p h1 h2 h3
    · intro e
      exact h2 (by rw [dst_inj hnd h3 hi e ht]; exact List.mem_cons_self ..)
    · exact hc j p h1 (fun e => h2 (List.mem_cons_of_mem _ e)) h3

theorem livP_exec (hnd : (modsO L).Nodup) {i : Nat} {o : Oper} (hi : L[i]? = some o) (hd : i ∈ done) (k : Nat) : LivP C L done (i :: ls) k ↔ (privA C.priv o k ∨ LivP C L done ls k) := by
  constructor
  · rintro ⟨h1, h2⟩
    by_cases hp : privA C.priv o k
    · exact .inl hp
    · refine .inr ⟨fun j p e1 e2 e3 => ?_, h2⟩
      by_cases hj : j = i
      · subst hj; rw [get_same hi e3]; exact hp
      · exact h1 j p e1 (fun e => by rcases List.mem_cons.1 e with e | e
                                     · exact hj e
                                     · exact e2 e) e3
  · rintro (hp | ⟨h1, h2⟩)
    · refine ⟨fun j p e1 e2 e3 e4 => e2 (by rw [dst_inj hnd e3 hi e4.2 hp.2]; exact List.mem_cons_self ..), ?_⟩
      rintro ⟨j, p, e1, e2, e3⟩
      exact e1 (by rw [dst_inj hnd e2 hi e3.2 hp.2]; exact hd)
    · exact ⟨fun j p e1 e2 e3 => h1 j p e1 (fun e => e2 (List.mem_cons_of_mem _ e)) e3, h2⟩

theorem set_listed {i j : Nat} (hsz : listed.size = L.length) (hi : i < L.length) (hl : ∀ i, listed.getD i false = true ↔ i ∈ ls) : (listed.setIfInBounds i true).getD j false = true ↔ j ∈ i :: ls := by
  by_cases hj : j = i
  · subst hj
    simp [hsz, hi]
  · have := hl j
    simp [Array.getElem?_setIfInBounds_ne (Ne.symm hj), hj] at this ⊢
    exact this

theorem chainsD (hs : Sim C L mok n lv0 β0 a0 h0 w0 done ls listed β s a h w) {i : Nat} {o : Oper} (hi : L[i]? = some o) (hw : ∀ k ∈ waits o, k ∈ done) (hlk : looksOk L (aheads L []) i o = true) {ch : Chain}
    (hch : chainOf L L.length o = some ch) (hg : guardOk s ch = true) : ∀ p ∈ ch, DnP L done p.1 :=
  chain_D hs.rr hch hg fun j b p d e1 e2 e3 => ⟨j, p, rows_ahead (looks_guard hlk e1) (· ∈ done) hs.dclos (fun o' ho' => by rw [get_same hi ho']; exact hw), by rw [← nth_get]; exact e2, e3⟩

/-- A pending operation is carried out. -/
theorem pend_exec (ok : C.tb.Ok C.P) {ops : Array Oper} (hops : ops.toList = L) (hnd : (modsO L).Nodup)
    (hs : Sim C L mok n lv0 β0 a0 h0 w0 done ls listed β s a h w) {i : Nat} {o : Oper} (hi : L[i]? = some o) (hd : i ∈ done) (hn : i ∉ ls) (hw : ∀ k ∈ waits o, k ∈ ls)
    (next : Act → World → Prop) (Q : Exit → Act → World → Prop)
    (hk : ∀ β' a' w', Sim C L mok n lv0 β0 a0 h0 w0 done (i :: ls) (listed.setIfInBounds i true) β' s a' h w' → next a' w') : wpOp C.P ops Q i next a w := by
  obtain ⟨⟨ch, hch, hg, hpf⟩, hlk, hwar, hmm⟩ := hs.facts i o hd hn hi
  have hah : ∀ j ∈ aheadOf (aheads L []) i, j ∈ ls := fun j hj => rows_ahead hj (· ∈ ls) hs.clos (fun o' ho' => by rw [get_same hi ho']; exact hw)
  have hcur : ∀ t, Operand.tmp t ∈ o.op.operands → CurP L done ls t := fun t ht j p h1 h2 h3 h4 => by
    have := war_get h4 (hs.facts j p h1 h2 h3).2.2.1 i o hi ht
    rw [Nat.zero_add] at this
    exact h2 (hah j this)
  have hgc : ∀ j b p d, o.guard = some (j, b) → nth L j = some p → p.dst = some d → CurP L done ls d := fun j b p d e1 e2 e3 j' p' h1 h2 h3 h4 => by
    rw [nth_get] at e2
    have := dst_inj hnd h3 e2 h4 e3
    subst this
    exact h2 (hah _ (looks_guard hlk e1))
  have hopnd : ∀ x ∈ o.op.operands, Opnd β s a.eval x := fun x hx => opnd_rr hs.rr fun t e => hcur t (e ▸ hx)
  have hw' := wanted_iff (ops := ops) hs.rr (by rw [hops]; exact hch) hg (by rw [hops]; exact hgc)
  have hoi : ops[i]? = some o := by rw [← hops] at hi; simpa using hi
  have hilt : i < L.length := hs.dlt i hd
  have hncur : ∀ d, o.dst = some d → ¬ CurP L done ls d := fun d e hc => hc i o hd hn hi e
  -- what is so whichever it was
  have fin : ∀ β' a' w', RR n (CurP L done (i :: ls)) (LivP C L done (i :: ls)) (DnP L done) (NnP C L done) β' s a' h w' → Seg (modsO L) mok (live s (LivP C L done ls)) β a h w (live s (LivP C L done (i :: ls))) β' a' h w' → next a' w' := by
    intro β' a' w' hr hsg
    refine hk β' a' w' ⟨by simpa using hs.lsz, fun j => set_listed hs.lsz hilt hs.lst, List.nodup_cons.2 ⟨hn, hs.lnd⟩, fun j hj => ?_, hs.dlt, ?_, hs.dclos, hs.topo, hr, fun j p h1 h2 h3 => hs.facts j p h1 (fun e => h2 (List.mem_cons_of_mem _ e)) h3, hs.seg.trans hsg⟩
    · rcases List.mem_cons.1 hj with rfl | hj
      · exact hd
      · exact hs.lsub j hj
    · intro j p hj hjm k hk'
      rcases List.mem_cons.1 hjm with rfl | hjm
      · rw [get_same hi hj] at hk'
        exact List.mem_cons_of_mem _ (hw k hk')
      · exact List.mem_cons_of_mem _ (hs.clos j p hj hjm k hk')
  have hdl : ∀ d, o.dst = some d → d ∈ modsO L := fun d e => modsO_mem (List.mem_of_getElem? hi) e
  unfold wpOp
  simp only [hoi]
  rcases hpf with ⟨hval, _, l, hl, hrun, hprov, _⟩ | ⟨rfl, hval, d, cs, hp, hfd, hmd, hrun⟩
  · have hnp : ∀ k, ¬ privA C.priv o k := not_priv (val_not_priv hval)
    have hliv : ∀ k, LivP C L done (i :: ls) k ↔ LivP C L done ls k := fun k => by
      rw [livP_exec hnd hi hd k]
      exact ⟨fun e => e.resolve_left (hnp k), .inr⟩
    have main : ∀ (v : Value) (w' : World), Step h h w w' → (holds s ch → v = LVal β l) → (¬ holds s ch → v = undef) → next (a.put o.dst v) w' := by
      intro v w' hst h1 h2
      refine fin β _ w' ?_ (((Seg.step hst).trans (Seg.put (lv := live s (LivP C L done ls)) hdl)).mono (fun _ e => e) (fun _ e => e) (fun _ e => e) (fun k e => ⟨e.1, (hliv k).1 e.2⟩))
      have hr := hs.rr.step hst
      cases hdst : o.dst with
      | none => exact hr.congr (fun t => by rw [curP_exec hnd hi hd t]; simp [hdst]) hliv (fun _ e => e) (fun _ e => e)
      | some d =>
        have := hr.exec (v := v) (hl d hdst) (hncur d hdst) (fun hh => ⟨h1 hh, fun k off e => (prov_rr hs.rr hprov hh hcur k off e).1⟩) h2
        refine this.congr (fun t => ?_) hliv (fun _ e => e) (fun _ e => e)
        rw [curP_exec hnd hi hd t, hdst]
        constructor
        · rintro (e | e)
          · cases e; exact .inl rfl
          · exact .inr e
        · rintro (e | e)
          · exact .inl (by rw [e])
          · exact .inr e
    by_cases hh : holds s ch
    · rw [if_pos (hw'.2 hh)]
      left
      obtain ⟨w', hrw, hw1, hst⟩ := hrun hh β a.eval w hopnd (fun _ => hs.rr.sub) (fun _ => boxU_rr hs.rr hcur)
      unfold Oper.wp
      rw [hrw]
      have hst' : Step h h w w' := by
        cases hkd : kindD C.tb o ch s with
        | mem => exact hst hkd
        | pure => rw [hw1 (by rw [hkd]; simp)]; exact .refl hs.rr.sub
        | box => rw [hw1 (by rw [hkd]; simp)]; exact .refl hs.rr.sub
      exact main _ w' hst' (fun _ => rfl) (fun e => absurd hh e)
    · rw [if_neg (fun e => hh (hw'.1 e))]
      exact main _ w (.refl hs.rr.sub) (fun e => absurd e hh) (fun _ => rfl)
  · rw [if_pos (hw'.2 (holds_nil s))]
    left
    obtain ⟨t, hrw⟩ := hrun β a.eval w hopnd
    unfold Oper.wp
    rw [hrw]
    show next (a.put o.dst _) _
    have hnl : ¬ LivP C L done ls d := fun e => e.1 i o hd hn hi hp
    rw [hp.2]
    have hiff : ∀ k, privA C.priv o k ↔ k = d := fun k => ⟨fun e => by have := e.2; rw [hp.2] at this; cases this; rfl, fun e => e ▸ hp⟩
    refine fin _ _ _ ((hs.rr.execA t hfd hmd (hncur d hp.2) hnl).congr (fun t => ?_) (fun k => ?_) (fun _ e => e) (fun _ e => e)) ((segA (a := a) (β := β) t hs.rr.sub hmd hnl (hdl d hp.2) (hmm d hp)).mono (fun _ e => e) (fun _ e => e) (fun _ e => e) (fun k e => ⟨e.1, ?_⟩))
    · rw [curP_exec hnd hi hd t, hp.2]
      constructor
      · rintro (e | e)
        · cases e; exact .inl rfl
        · exact .inr e
      · rintro (e | e)
        · exact .inl (by rw [e])
        · exact .inr e
    · rw [livP_exec hnd hi hd k, hiff]
    · have := e.2
      rw [livP_exec hnd hi hd k, hiff] at this
      exact this

end
end Lf

/-
  The lifting layer, part 21: an operation is told of.
-/
namespace Lf
open Go

section
variable {C : Ctx} {L : List Oper} {mok : List Nat} {n : Nat} {lv0 : Nat → Prop} {β0 : Nat → Nat} {a0 : Act} {h0 : Hp} {w0 : World} {done ls : List Nat} {listed : Array Bool} {β : Nat → Nat} {s : St} {a : Act} {h : Hp} {w : World}

/-- A fact stays where nothing that matters changes. -/
theorem pfact_like {D : Nat → Prop} {o : Oper} {s' : St} (k : Like D o s s') (hD : ∀ ch, chainOf L L.length o = some ch → guardOk s ch = true → ∀ p ∈ ch, D p.1) (hdD : ∀ d, o.dst = some d → D d)
    (hm : ∀ t, Operand.tmp t ∈ o.op.operands → ∀ b off c, (s.f t = some (.box b off, c) ∨ s.f t = some (.boxd b off, c)) → holds s c → s'.m b = s.m b) (hmd : ∀ d, privA C.priv o d → s'.m d = s.m d)
    (hp : PFact C L o s h) : PFact C L o s' h := by
  obtain ⟨ch, hch, hg, hpf⟩ := hp
  have hD := hD ch hch hg
  refine ⟨ch, hch, by rw [guardOk_like k hD]; exact hg, ?_⟩
  rcases hpf with ⟨hval, hrd, l, hl, hrun, hprov, hsh⟩ | ⟨rfl, hval, d, cs, hpa, hfd, hmd', hrun⟩
  · refine .inl ⟨hval, by rw [k.kind]; exact hrd, l, fun d e => by rw [k.dn d (hdD d e)]; exact hl d e, fun hh => ?_, k.prov hprov, fun hkd => hsh (by rw [← k.kind (s' := s')]; exact hkd)⟩
    rw [k.kind]
    exact runsK_like k (fun _ => hm) (fun _ => rfl) (hrun ((k.holds' hD).1 hh))
  · exact .inr ⟨rfl, hval, d, cs, hpa, by rw [k.dn d (hdD d hpa.2)]; exact hfd, by rw [hmd d hpa]; exact hmd', alloc_like k hrun⟩

/-- What the others need. -/
theorem like_new (hnd : (modsO L).Nodup) (hs : Sim C L mok n lv0 β0 a0 h0 w0 done ls listed β s a h w) {i : Nat} {o : Oper} (hi : L[i]? = some o) (hnd' : i ∉ done) {s' : St} (hf : ∀ t, o.dst ≠ some t → s'.f t = s.f t)
    {j : Nat} {p : Oper} (hj : L[j]? = some p) (hjd : j ∈ done) (hno : ∀ t, Operand.tmp t ∈ p.op.operands → o.dst = some t → False) : Like (DnP L done) p s s' := by
  refine ⟨fun t ht => hf t fun e => ?_, fun t ht => hf t fun e => hno t ht e, fun t l c e q hq => hs.rr.chain t l c e q hq⟩
  obtain ⟨j', p', h1, h2, h3⟩ := ht
  have := dst_inj hnd h2 hi h3 e
  subst this
  exact hnd' h1

theorem closD (hs : Sim C L mok n lv0 β0 a0 h0 w0 done ls listed β s a h w) {j : Nat} {p : Oper} (hj : L[j]? = some p) (hjd : j ∈ done) {i : Nat} (h : i ∈ aheadOf (aheads L []) j) : i ∈ done :=
  rows_ahead h (· ∈ done) hs.dclos fun o' ho' => hs.dclos j o' ho' hjd

theorem facts_lift (hnd : (modsO L).Nodup) (hs : Sim C L mok n lv0 β0 a0 h0 w0 done ls listed β s a h w) {i : Nat} {o : Oper} (hi : L[i]? = some o) (hid : i ∉ done) (hwar : isWar (aheads L []) i o L 0 = false)
    {s' : St} (hf : ∀ t, o.dst ≠ some t → s'.f t = s.f t) (hm : ∀ k, s'.m k = s.m k ∨ privA C.priv o k) {j : Nat} {p : Oper} (hjd : j ∈ done) (hjl : j ∉ ls) (hj : L[j]? = some p) :
    PFact C L p s' h ∧ looksOk L (aheads L []) j p = true ∧ isWar (aheads L []) j p L 0 = false ∧ ∀ d, privA C.priv p d → d ∈ mok := by
  obtain ⟨h1, h2, h3⟩ := hs.facts j p hjd hjl hj
  refine ⟨?_, h2, h3⟩
  have k : Like (DnP L done) p s s' := like_new hnd hs hi hid hf hj hjd fun t ht e => by
    have := war_get e hwar j p hj ht
    rw [Nat.zero_add] at this
    exact hid (closD hs hj hjd this)
  refine pfact_like k (fun ch hch hg => chainsD hs hj (hs.dclos j p hj hjd) h2 hch hg) (fun d e => ⟨j, p, hjd, hj, e⟩) (fun t ht b off c hfb hh => ?_) (fun d hp => ?_) h1
  · refine (hm b).resolve_right fun hp => ?_
    have hN : NnP C L done b := ⟨i, o, hid, hi, hp⟩
    rcases hfb with hfb | hfb
    · exact (hs.rr.nref b hN t _ c hfb hh off).1 rfl
    · exact (hs.rr.nref b hN t _ c hfb hh off).2 rfl
  · refine (hm d).resolve_right fun hp' => ?_
    have := dst_inj hnd hi hj hp'.2 hp.2
    subst this
    exact hid hjd

theorem sim_frame (hs : Sim C L mok n lv0 β0 a0 h0 w0 done ls listed β s a h w) {i : Nat} {o : Oper} (hi : L[i]? = some o) (hid : i ∉ done) (hw : ∀ k ∈ waits o, k ∈ done) {s' : St}
    (hr : RR n (CurP L (i :: done) ls) (LivP C L (i :: done) ls) (DnP L (i :: done)) (NnP C L (i :: done)) β s' a h w)
    (hfacts : ∀ j p, j ∈ i :: done → j ∉ ls → L[j]? = some p → PFact C L p s' h ∧ looksOk L (aheads L []) j p = true ∧ isWar (aheads L []) j p L 0 = false ∧ ∀ d, privA C.priv p d → d ∈ mok)
    (hseg : Seg (modsO L) mok lv0 β0 a0 h0 w0 (live s' (LivP C L (i :: done) ls)) β a h w) : Sim C L mok n lv0 β0 a0 h0 w0 (i :: done) ls listed β s' a h w := by
  refine ⟨hs.lsz, hs.lst, hs.lnd, fun j hj => List.mem_cons_of_mem _ (hs.lsub j hj), fun j hj => ?_, hs.clos, ?_, ⟨fun o' ho' => by rw [get_same hi ho']; exact hw, hs.topo⟩, hr, hfacts, hseg⟩
  · rcases List.mem_cons.1 hj with rfl | hj
    · exact (List.getElem?_eq_some_iff.1 hi).1
    · exact hs.dlt j hj
  · intro j p hj hjm k hk
    rcases List.mem_cons.1 hjm with rfl | hjm
    · rw [get_same hi hj] at hk
      exact List.mem_cons_of_mem _ (hw k hk)
    · exact List.mem_cons_of_mem _ (hs.dclos j p hj hjm k hk)

theorem curP_lift (hs : Sim C L mok n lv0 β0 a0 h0 w0 done ls listed β s a h w) {i : Nat} {o : Oper} (hi : L[i]? = some o) (hid : i ∉ done) (t : Nat) : CurP L (i :: done) ls t ↔ (o.dst ≠ some t ∧ CurP L done ls t) := by
  constructor
  · exact fun hc => ⟨hc i o (List.mem_cons_self ..) (fun e => hid (hs.lsub i e)) hi, fun j p h1 h2 h3 => hc j p (List.mem_cons_of_mem _ h1) h2 h3⟩
  · rintro ⟨h1, h2⟩ j p e1 e2 e3
    rcases List.mem_cons.1 e1 with rfl | e1
    · rw [get_same hi e3]; exact h1
    · exact h2 j p e1 e2 e3

theorem nnP_lift (hnd : (modsO L).Nodup) {i : Nat} {o : Oper} (hi : L[i]? = some o) (hid : i ∉ done) (k : Nat) : NnP C L (i :: done) k ↔ (¬ privA C.priv o k ∧ NnP C L done k) := by
  constructor
  · rintro ⟨j, p, h1, h2, h3⟩
    refine ⟨fun e => ?_, j, p, fun e => h1 (List.mem_cons_of_mem _ e), h2, h3⟩
    exact h1 (by rw [dst_inj hnd h2 hi h3.2 e.2]; exact List.mem_cons_self ..)
  · rintro ⟨h0, j, p, h1, h2, h3⟩
    refine ⟨j, p, fun e => ?_, h2, h3⟩
    rcases List.mem_cons.1 e with rfl | e
    · rw [get_same hi h2] at h3; exact h0 h3
    · exact h1 e

theorem livP_lift (hnd : (modsO L).Nodup) (hs : Sim C L mok n lv0 β0 a0 h0 w0 done ls listed β s a h w) {i : Nat} {o : Oper} (hi : L[i]? = some o) (hid : i ∉ done) (k : Nat) :
    LivP C L (i :: done) ls k ↔ (¬ privA C.priv o k ∧ LivP C L done ls k) := by
  constructor
  · rintro ⟨h1, h2⟩
    have hp : ¬ privA C.priv o k := h1 i o (List.mem_cons_self ..) (fun e => hid (hs.lsub i e)) hi
    exact ⟨hp, fun j p e1 e2 e3 => h1 j p (List.mem_cons_of_mem _ e1) e2 e3, fun e => h2 ((nnP_lift hnd hi hid k).2 ⟨hp, e⟩)⟩
  · rintro ⟨hp, h1, h2⟩
    refine ⟨fun j p e1 e2 e3 => ?_, fun e => h2 ((nnP_lift hnd hi hid k).1 e).2⟩
    rcases List.mem_cons.1 e1 with rfl | e1
    · rw [get_same hi e3]; exact hp
    · exact h1 j p e1 e2 e3

theorem dnP_mono {i : Nat} (t : Nat) (h : DnP L done t) : DnP L (i :: done) t := by
  obtain ⟨j, p, h1, h2, h3⟩ := h
  exact ⟨j, p, List.mem_cons_of_mem _ h1, h2, h3⟩

/-- A value or a private variable is told of. -/
theorem sim_lift (ok : C.tb.Ok C.P) (hnd : (modsO L).Nodup) (hlt : ∀ d ∈ modsO L, d < n) (hs : Sim C L mok n lv0 β0 a0 h0 w0 done ls listed β s a h w) {i : Nat} {o : Oper} (hi : L[i]? = some o) (hid : i ∉ done)
    (hw : ∀ k ∈ waits o, k ∈ done) (hlk : looksOk L (aheads L []) i o = true) (hwar : isWar (aheads L []) i o L 0 = false) (hvp : isVal C.tb o = true ∨ isPrivAlloc C.priv o = true) {K : St → Hp → Prop}
    (hkd : kindOk C L o s = true) (hv : opW C L mok o s h K) : ∃ s', K s' h ∧ Sim C L mok n lv0 β0 a0 h0 w0 (i :: done) ls listed β s' a h w := by
  unfold opW at hv
  split at hv
  · exact hv.elim
  rename_i ch hch
  cases hg : guardOk s ch with
  | false => simp [hg] at hv
  | true =>
  simp only [hg, cond_true] at hv
  have hD : ∀ p ∈ ch, DnP L done p.1 := chainsD hs hi hw hlk hch hg
  have hdD : ∀ d, o.dst = some d → ¬ DnP L done d := fun d e ⟨j, p, h1, h2, h3⟩ => hid (by rw [← dst_inj hnd h2 hi h3 e]; exact h1)
  have hdn : ∀ d, o.dst = some d → d < n := fun d e => hlt d (modsO_mem (List.mem_of_getElem? hi) e)
  have hself : ∀ {s' : St}, (∀ t, o.dst ≠ some t → s'.f t = s.f t) → Like (DnP L done) o s s' := fun hf => by
    refine ⟨fun t ⟨j, p, h1, h2, h3⟩ => hf t fun e => hid (by rw [← dst_inj hnd h2 hi h3 e]; exact h1), fun t ht => hf t fun e => ?_, fun t l c e q hq => hs.rr.chain t l c e q hq⟩
    have := war_get e hwar i o hi ht
    rw [Nat.zero_add] at this
    exact hid (rows_ahead this (· ∈ done) hs.dclos fun o' ho' => by rw [get_same hi ho']; exact hw)
  cases hval : isVal C.tb o with
  | true =>
    simp only [hval, cond_true] at hv
    obtain ⟨l, hk, hrun, hprov, hsh⟩ := valW_more ok hv
    have hnp : ∀ k, ¬ privA C.priv o k := not_priv (val_not_priv hval)
    have hrd : isRead C.tb o = true ∨ kindD C.tb o ch s = .pure := by
      unfold kindOk at hkd
      rw [hval, hch] at hkd
      cases hr : isRead C.tb o with
      | true => exact .inl rfl
      | false =>
        rw [hr] at hkd
        simp only [cond_true, cond_false] at hkd
        cases hk' : kindD C.tb o ch s with
        | pure => exact .inr rfl
        | box => rw [hk'] at hkd; cases hkd
        | mem => rw [hk'] at hkd; cases hkd
    have hf : ∀ t, o.dst ≠ some t → (s.put o.dst l ch).f t = s.f t := fun t ht => put_f s _ _ _ t ht
    have k := hself hf
    refine ⟨_, hk, sim_frame hs hi hid hw ?_ (fun j p h1 h2 h3 => ?_) ?_⟩
    · have hb : holds s ch → ∀ k o', (l = .box k o' ∨ l = .boxd k o') → ¬ NnP C L done k := fun hh b off e hN => by
        obtain ⟨x, hx, off', hev⟩ := hprov b off e
        rcases hev with hev | hev
        · obtain ⟨t, c, rfl, hfb, hc⟩ := ev_tmp hev (by simp) hh
          exact (hs.rr.nref b hN t _ c hfb hc off').1 rfl
        · obtain ⟨t, c, rfl, hfb, hc⟩ := ev_tmp hev (by simp) hh
          exact (hs.rr.nref b hN t _ c hfb hc off').2 rfl
      have hliv : ∀ k, LivP C L (i :: done) ls k ↔ LivP C L done ls k := fun k => by rw [livP_lift hnd hs hi hid k]; exact ⟨fun e => e.2, fun e => ⟨hnp k, e⟩⟩
      have hnn : ∀ k, NnP C L (i :: done) k → NnP C L done k := fun k e => ((nnP_lift hnd hi hid k).1 e).2
      cases hdst : o.dst with
      | none => exact hs.rr.congr (fun t => by rw [curP_lift hs hi hid t, hdst]; simp) hliv dnP_mono hnn
      | some d =>
        refine (hs.rr.lift (l := l) (ch := ch) (hdn d hdst) (hdD d hdst) hD hb).congr (fun t => ?_) hliv dnP_mono hnn
        rw [curP_lift hs hi hid t, hdst]
        exact ⟨fun e => ⟨fun e' => e.1 (by rw [e']), e.2⟩, fun e => ⟨fun e' => e.1 (by cases e'; rfl), e.2⟩⟩
    · rcases List.mem_cons.1 h1 with rfl | h1
      · rw [get_same hi h3]
        refine ⟨⟨ch, hch, by rw [guardOk_like k hD]; exact hg, .inl ⟨hval, by rw [k.kind]; exact hrd, l, fun d e => by rw [e]; exact put_same _ _ _ _, fun hh => ?_, k.prov hprov, fun hkd => hsh (by rw [← k.kind (s' := s.put o.dst l ch)]; exact hkd)⟩⟩, hlk, hwar, fun d hp => absurd hp (hnp d)⟩
        rw [k.kind]
        exact runsK_like k (fun _ t _ b off c _ _ => by rw [put_m]) (fun _ => rfl) (hrun ((k.holds' hD).1 hh))
      · exact facts_lift hnd hs hi hid hwar hf (fun k => .inl (by rw [put_m])) h1 h2 h3
    · refine hs.seg.mono (fun _ e => e) (fun _ e => e) (fun _ e => e) (fun k e => ⟨?_, ((livP_lift hnd hs hi hid k).1 e.2).2⟩)
      have := e.1
      rwa [put_m] at this
  | false =>
    simp only [hval, cond_false] at hv
    have hpa : isPrivAlloc C.priv o = true := hvp.resolve_left (by rw [hval]; simp)
    have doNew : ∀ (d : Nat) (cs : List Value), K ((s.put (some d) (.box d 0) []).putM d cs) h → privA C.priv o d → ch = [] → has mok d = true →
        (∀ (β : Nat → Nat) (ρ : Operand → Value) (w : World), (∀ x ∈ o.op.operands, Opnd β s ρ x) →
          ∃ t, (execOp ρ o).run C.P w = .ok (.value (.pointer (some ⟨w.heap.size, 0, none⟩))) { w with heap := w.heap.push (.cells cs.toArray t (0, 0)) }) →
        ∃ s', K s' h ∧ Sim C L mok n lv0 β0 a0 h0 w0 (i :: done) ls listed β s' a h w := by
      intro d cs hk hp he hmd hrun
      subst he
      have hiff : ∀ k, privA C.priv o k ↔ k = d := fun k => ⟨fun e => by have := e.2; rw [hp.2] at this; cases this; rfl, fun e => e ▸ hp⟩
      have hf : ∀ t, o.dst ≠ some t → ((s.put (some d) (.box d 0) []).putM d cs).f t = s.f t := fun t ht => put_ne s _ _ fun e => ht (by rw [hp.2, e])
      have hm : ∀ k, k ≠ d → ((s.put (some d) (.box d 0) []).putM d cs).m k = s.m k := fun k hk => putM_ne _ _ hk
      have k := hself hf
      have hN : NnP C L done d := ⟨i, o, hid, hi, hp⟩
      refine ⟨_, hk, sim_frame hs hi hid hw ?_ (fun j p h1 h2 h3 => ?_) ?_⟩
      · refine (hs.rr.liftA cs (hdn d hp.2) (hdD d hp.2) hN).congr (fun t => ?_) (fun k => ?_) dnP_mono (fun k e => ?_)
        · rw [curP_lift hs hi hid t, hp.2]
          exact ⟨fun e => ⟨fun e' => e.1 (by rw [e']), e.2⟩, fun e => ⟨fun e' => e.1 (by cases e'; rfl), e.2⟩⟩
        · rw [livP_lift hnd hs hi hid k, hiff]
        · have := (nnP_lift hnd hi hid k).1 e
          rw [hiff] at this
          exact this
      · rcases List.mem_cons.1 h1 with rfl | h1
        · rw [get_same hi h3]
          refine ⟨⟨[], hch, rfl, .inr ⟨rfl, hval, d, cs, hp, put_same _ _ _ _, putM_same _ _ _, alloc_like k hrun⟩⟩, hlk, hwar, fun d' hp' => ?_⟩
          rw [(hiff d').1 hp']
          exact (has_iff _ _).1 hmd
        · exact facts_lift hnd hs hi hid hwar hf (fun k => by
            by_cases ek : k = d
            · exact .inr ((hiff k).2 ek)
            · exact .inl (hm k ek)) h1 h2 h3
      · refine hs.seg.mono (fun _ e => e) (fun _ e => e) (fun _ e => e) (fun k e => ?_)
        have hl := (livP_lift hnd hs hi hid k).1 e.2
        rw [hiff] at hl
        refine ⟨?_, hl.2⟩
        have := e.1
        rwa [hm k hl.1] at this
    split at hv
    · rename_i d hdst
      have hd0 : o.dst = some d ∧ has C.priv d = true := by
        unfold dstIn at hdst
        split at hdst
        · rename_i d' e
          cases h1 : has C.priv d' with
          | true => simp [h1] at hdst; subst hdst; exact ⟨e, h1⟩
          | false => simp [h1] at hdst
        · cases hdst
      cases hmd : has mok d with
      | false => simp [hmd] at hv
      | true =>
        simp only [hmd, cond_true] at hv
        split at hv
        · rename_i t hop
          split at hv
          · rename_i e he
            refine doNew d (cellsL e.zero) hv ⟨hpa, hd0.1⟩ rfl hmd fun β ρ w _ => ⟨t, ?_⟩
            have e2 : (cellsL e.zero).toArray = e.zero.cells := by apply Array.ext'; simp [cells_list]
            rw [e2]
            simp [execOp, hop, Instr.alloc, run_zeroValue' ok he, newVar, run_newRow]
          · exact hv.elim
        · rename_i t x hop
          obtain ⟨v, hev, hv'⟩ := onV_some hv
          refine doNew d (cellsL v) hv' ⟨hpa, hd0.1⟩ rfl hmd fun β ρ w ho => ⟨t, ?_⟩
          have hx := ev_ok (ho x (by simp [hop, Op.operands])) (holds_nil s) hev
          have e2 : (cellsL v).toArray = v.cells := by apply Array.ext'; simp [cells_list]
          rw [e2]
          simp [execOp, hop, hx, LVal, Instr.box, newVar, run_newRow]
        · exact hv.elim
    · exact hv.elim
    · rename_i hdst
      exfalso
      unfold dstIn at hdst
      unfold isPrivAlloc at hpa
      split at hdst
      · rename_i d' e
        cases h1 : has C.priv d' with
        | true => simp [h1] at hdst
        | false => rw [e] at hpa; cases hop : o.op <;> simp [hop, h1] at hpa
      · rename_i e
        rw [e] at hpa; cases hop : o.op <;> simp [hop] at hpa

end
end Lf

/-
  The lifting layer, part 22: regions whose order is drawn.
-/
namespace Lf
open Go

theorem condP {b : Bool} {p : Prop} (h : cond b p False) : b = true ∧ p := by
  cases b
  · exact h.elim
  · exact ⟨rfl, h⟩

theorem again_mem {C : Ctx} {m : Bool} {L : List Oper} {s : St} {h : Hp} : ∀ {ws : List Nat}, AgainAll C m L s h ws → ∀ {j : Nat} {p : Oper} {ch : Chain}, j ∈ ws → L[j]? = some p → chainOf L L.length p = some ch → Again C m p ch s h
  | [], _, _, _, _, hj, _, _ => by cases hj
  | r :: ws, ha, j, p, ch, hj, hp, hc => by
    obtain ⟨h1, h2⟩ := ha
    rcases List.mem_cons.1 hj with rfl | hj
    · rw [nth_get, hp] at h1
      simp only [hc] at h1
      exact h1
    · exact again_mem h2 hj hp hc

theorem again_dst {C : Ctx} {m : Bool} {p : Oper} {ch : Chain} {s : St} {h : Hp} (ha : Again C m p ch s h) : ∃ d, p.dst = some d := by
  cases hd : p.dst with
  | some d => exact ⟨d, rfl⟩
  | none =>
    unfold Again at ha
    rw [hd] at ha
    split at ha
    · rename_i e; cases e
    · rename_i e; cases e
    · rename_i e; cases e
    · exact ha.elim

section
variable {C : Ctx} {L : List Oper} {mok : List Nat} {n : Nat} {lv0 : Nat → Prop} {β0 : Nat → Nat} {a0 : Act} {h0 : Hp} {w0 : World} {done ls : List Nat} {listed : Array Bool} {β : Nat → Nat} {s : St} {a : Act} {h : Hp} {w : World}

theorem curP_new (hnd : (modsO L).Nodup) {i : Nat} {o : Oper} (hi : L[i]? = some o) (hid : i ∉ done) (t : Nat) : CurP L (i :: done) (i :: ls) t ↔ (o.dst = some t ∨ CurP L done ls t) := by
  constructor
  · intro hc
    by_cases ht : o.dst = some t
    · exact .inl ht
    · exact .inr fun j p h1 h2 h3 => hc j p (List.mem_cons_of_mem _ h1) (fun e => by
        rcases List.mem_cons.1 e with e | e
        · exact hid (e ▸ h1)
        · exact h2 e) h3
  · rintro (ht | hc) j p h1 h2 h3
    · intro e
      exact h2 (by rw [dst_inj hnd h3 hi e ht]; exact List.mem_cons_self ..)
    · rcases List.mem_cons.1 h1 with e | h1
      · exact absurd (e ▸ List.mem_cons_self ..) h2
      · exact hc j p h1 (fun e => h2 (List.mem_cons_of_mem _ e)) h3

theorem livP_new (hnd : (modsO L).Nodup) {i : Nat} {o : Oper} (hi : L[i]? = some o) (hid : i ∉ done) (k : Nat) : LivP C L (i :: done) (i :: ls) k ↔ (privA C.priv o k ∨ LivP C L done ls k) := by
  constructor
  · rintro ⟨h1, h2⟩
    by_cases hp : privA C.priv o k
    · exact .inl hp
    · exact .inr ⟨fun j p e1 e2 e3 => h1 j p (List.mem_cons_of_mem _ e1) (fun e => by
        rcases List.mem_cons.1 e with e | e
        · exact hid (e ▸ e1)
        · exact e2 e) e3, fun e => h2 ((nnP_lift hnd hi hid k).2 ⟨hp, e⟩)⟩
  · rintro (hp | ⟨h1, h2⟩)
    · exact ⟨fun j p e1 e2 e3 e4 => e2 (by rw [dst_inj hnd e3 hi e4.2 hp.2]; exact List.mem_cons_self ..), fun e => ((nnP_lift hnd hi hid k).1 e).1 hp⟩
    · refine ⟨fun j p e1 e2 e3 => ?_, fun e => h2 ((nnP_lift hnd hi hid k).1 e).2⟩
      rcases List.mem_cons.1 e1 with e | e1
      · exact absurd (e ▸ List.mem_cons_self ..) e2
      · exact h1 j p e1 (fun e => e2 (List.mem_cons_of_mem _ e)) e3

/-- A pending fact, behind an operation that was carried out. -/
theorem facts_exec (ok : C.tb.Ok C.P) (hnd : (modsO L).Nodup) (hs : Sim C L mok n lv0 β0 a0 h0 w0 done ls listed β s a h w) {i : Nat} {o : Oper} (hi : L[i]? = some o) (hid : i ∉ done) (hah : ∀ j ∈ aheadOf (aheads L []) i, j ∈ ls)
    {ws : List Nat} (hwatch : (isVal C.tb o = true ∨ isPrivAlloc C.priv o = true) ∨ ∀ j p, j ∈ done → L[j]? = some p → isVal C.tb p = true → isRead C.tb p = true → j ∈ ws ∨ j ∈ aheadOf (aheads L []) i)
    {l : List Nat} {β' : Nat → Nat} {s' : St} {a' : Act} {h' : Hp} {w' : World} (out : OpOut C l mok n (CurP L done ls) (LivP C L done ls) (DnP L done) (NnP C L done) o β s a h w β' s' a' h' w')
    (hag : AgainAll C (isStore o) L s' h' ws) {j : Nat} {p : Oper} (hjd : j ∈ done) (hjl : j ∉ ls) (hj : L[j]? = some p) :
    PFact C L p s' h' ∧ looksOk L (aheads L []) j p = true ∧ isWar (aheads L []) j p L 0 = false ∧ ∀ d, privA C.priv p d → d ∈ mok := by
  obtain ⟨⟨ch, hch, hg, hpf⟩, hlk, hrest⟩ := hs.facts j p hjd hjl hj
  refine ⟨?_, hlk, hrest⟩
  have k : Like (DnP L done) p s s' := like_new hnd hs hi hid out.f hj hjd fun t ht e => by
    rcases looks_slot hlk ht hi e with h1 | h1 | h1
    · exact hid (closD hs hj hjd h1)
    · exact hid (h1 ▸ hjd)
    · exact hjl (hah j h1)
  have hD := chainsD hs hj (hs.dclos j p hj hjd) hlk hch hg
  have hdD : ∀ d, p.dst = some d → DnP L done d := fun d e => ⟨j, p, hjd, hj, e⟩
  have hmr : ∀ t, Operand.tmp t ∈ p.op.operands → ∀ b off c, (s.f t = some (.box b off, c) ∨ s.f t = some (.boxd b off, c)) → holds s c → s'.m b = s.m b ∨ (isStore o = true ∧ isVal C.tb o = false) := by
    intro t ht b off c hfb hh
    rcases out.m b with e | e | e
    · exact .inl e
    · exfalso
      have hN : NnP C L done b := ⟨i, o, hid, hi, e⟩
      rcases hfb with hfb | hfb
      · exact (hs.rr.nref b hN t _ c hfb hh off).1 rfl
      · exact (hs.rr.nref b hN t _ c hfb hh off).2 rfl
    · exact .inr ⟨e.1, e.2.1⟩
  refine ⟨ch, hch, by rw [guardOk_like k hD]; exact hg, ?_⟩
  rcases hpf with ⟨hval, hrd, lv, hl, hrun, hprov, hsh⟩ | ⟨rfl, hval, d, cs, hpa, hfd, hmd', hrun⟩
  · have hsh' : LdSh C.tb p ch s' lv := fun hkd => hsh (by rw [← k.kind (s' := s')]; exact hkd)
    refine .inl ⟨hval, by rw [k.kind]; exact hrd, lv, fun d e => by rw [k.dn d (hdD d e)]; exact hl d e, fun hh' => ?_, k.prov hprov, hsh'⟩
    have hh := (k.holds' hD).1 hh'
    have hr := hrun hh
    have hkk : kindD C.tb p ch s' = kindD C.tb p ch s := k.kind
    rw [hkk]
    by_cases hpure : kindD C.tb p ch s = .pure
    · rw [hpure] at hr ⊢
      exact runsK_like k (fun e => absurd rfl e) (fun e => by cases e) hr
    · have hread := hrd.resolve_right hpure
      rcases hwatch with hvp | hwatch
      · have hns : ¬ (isStore o = true ∧ isVal C.tb o = false) := by
          rintro ⟨e1, e2⟩
          rcases hvp with e | e
          · rw [e] at e2; cases e2
          · unfold isStore at e1
            unfold isPrivAlloc at e
            cases hop : o.op <;> rw [hop] at e1 e <;> first | (cases e1; done) | (cases hd : o.dst <;> simp at e)
        have hhh : h' = h := by
          rcases hvp with e | e
          · exact out.hv e
          · exact out.hp e
        exact runsK_like k (fun _ t ht b off c hfb hc => (hmr t ht b off c hfb hc).resolve_right hns) (fun _ => hhh) hr
      · have hws : j ∈ ws := (hwatch j p hjd hj hval hread).resolve_right fun e => hjl (hah j e)
        have ha := again_mem hag hws hj hch
        obtain ⟨d, hd⟩ := again_dst ha
        rcases again_sound rfl ok ha hd ⟨ch, by rw [k.dn d (hdD d hd)]; exact hl d hd⟩ hh' hsh' with h1 | ⟨h1, h2⟩ | ⟨h1, h2⟩
        · rw [hkk] at h1
          exact absurd h1 hpure
        · rw [hkk] at h1
          rw [h1] at hr ⊢
          exact runsK_like k (fun _ t ht b off c hfb hc => (hmr t ht b off c hfb hc).resolve_right fun e => by rw [h2] at e; cases e.1) (fun e => by cases e) hr
        · rw [hkk] at h1
          rw [h1]
          exact h2
  · refine .inr ⟨rfl, hval, d, cs, hpa, by rw [k.dn d (hdD d hpa.2)]; exact hfd, ?_, alloc_like k hrun⟩
    rcases out.m d with e | e | e
    · rw [e]; exact hmd'
    · exact absurd hjd (by rw [dst_inj hnd hj hi hpa.2 e.2]; exact hid)
    · exact absurd hpa (e.2.2.2.1 j p hjd hjl hj)

/-- The next operation of the plan is carried out. -/
theorem sim_exec (ok : C.tb.Ok C.P) {ops : Array Oper} (hops : ops.toList = L) (hnd : (modsO L).Nodup) (hlt : ∀ d ∈ modsO L, d < n) (hs : Sim C L mok n lv0 β0 a0 h0 w0 done ls listed β s a h w) {i : Nat} {o : Oper} (hi : L[i]? = some o) (hid : i ∉ done)
    (hw : ∀ k ∈ waits o, k ∈ ls) (hlk : looksOk L (aheads L []) i o = true) {ws : List Nat}
    (hwatch : (isVal C.tb o = true ∨ isPrivAlloc C.priv o = true) ∨ ∀ j p, j ∈ done → L[j]? = some p → isVal C.tb p = true → isRead C.tb p = true → j ∈ ws ∨ j ∈ aheadOf (aheads L []) i)
    {K : St → Hp → Prop} (hK : ∀ s h, K s h → AgainAll C (isStore o) L s h ws) (hv : opW C L mok o s h K) (next : Act → World → Prop) (Q : Exit → Act → World → Prop)
    (hn : ∀ s' h' β' a' w', K s' h' → Sim C L mok n lv0 β0 a0 h0 w0 (i :: done) (i :: ls) (listed.setIfInBounds i true) β' s' a' h' w' → next a' w') : wpOp C.P ops Q i next a w := by
  have hah : ∀ j ∈ aheadOf (aheads L []) i, j ∈ ls := fun j hj => rows_ahead hj (· ∈ ls) hs.clos (fun o' ho' => by rw [get_same hi ho']; exact hw)
  have hilt : i < L.length := (List.getElem?_eq_some_iff.1 hi).1
  have hmem := List.mem_of_getElem? hi
  refine op_exec (l := modsO L) ok (by rw [← hops] at hi; simpa using hi) (by rw [hops]; exact hv) hs.rr (fun t ht j p h1 h2 h3 h4 => ?_) (fun j b p d e1 e2 e3 => ?_) (fun d e => ⟨hlt d (modsO_mem hmem e), ?_, modsO_mem hmem e⟩) (fun d hp => ?_) next Q fun s' h' β' a' w' hk out => ?_
  · have := war_get h4 (hs.facts j p h1 h2 h3).2.2.1 i o hi ht
    rw [Nat.zero_add] at this
    exact h2 (hah j this)
  · rw [hops, nth_get] at e2
    have hjl := hah _ (looks_guard hlk e1)
    refine ⟨fun j' p' h1 h2 h3 h4 => ?_, j, p, hs.lsub j hjl, e2, e3⟩
    have := dst_inj hnd h3 e2 h4 e3
    subst this
    exact h2 hjl
  · rintro ⟨j, p, h1, h2, h3⟩
    exact hid (by rw [← dst_inj hnd h2 hi h3 e]; exact h1)
  · have hN : NnP C L done d := ⟨i, o, hid, hi, hp⟩
    exact ⟨hN, fun e => e.2 hN⟩
  · refine hn s' h' β' a' w' hk ⟨by simpa using hs.lsz, fun j => set_listed hs.lsz hilt hs.lst, List.nodup_cons.2 ⟨fun e => hid (hs.lsub i e), hs.lnd⟩, fun j hj => ?_, fun j hj => ?_, ?_, ?_,
      ⟨fun o' ho' => by rw [get_same hi ho']; exact fun k hk => hs.lsub k (hw k hk), hs.topo⟩, out.rr.congr (fun t => curP_new hnd hi hid t) (fun k => livP_new hnd hi hid k) dnP_mono (fun k e => (nnP_lift hnd hi hid k).1 e), fun j p h1 h2 h3 => ?_,
      hs.seg.trans (out.seg.mono (fun _ e => e) (fun _ e => e) (fun _ e => e) (fun k e => ⟨e.1, (livP_new hnd hi hid k).1 e.2⟩))⟩
    · rcases List.mem_cons.1 hj with rfl | hj
      · exact List.mem_cons_self ..
      · exact List.mem_cons_of_mem _ (hs.lsub j hj)
    · rcases List.mem_cons.1 hj with rfl | hj
      · exact hilt
      · exact hs.dlt j hj
    · intro j p hj hjm k hk'
      rcases List.mem_cons.1 hjm with rfl | hjm
      · rw [get_same hi hj] at hk'
        exact List.mem_cons_of_mem _ (hw k hk')
      · exact List.mem_cons_of_mem _ (hs.clos j p hj hjm k hk')
    · intro j p hj hjm k hk'
      rcases List.mem_cons.1 hjm with rfl | hjm
      · rw [get_same hi hj] at hk'
        exact List.mem_cons_of_mem _ (hs.lsub k (hw k hk'))
      · exact List.mem_cons_of_mem _ (hs.dclos j p hj hjm k hk')
    · have hne : j ≠ i := fun e => h2 (e ▸ List.mem_cons_self ..)
      exact facts_exec ok hnd hs hi hid hah hwatch out (hK _ _ hk) ((List.mem_cons.1 h1).resolve_left hne) (fun e => h2 (List.mem_cons_of_mem _ e)) h3

theorem ready_iff {ops : Array Oper} (hops : ops.toList = L) (hs : Sim C L mok n lv0 β0 a0 h0 w0 done ls listed β s a h w) {j : Nat} :
    j ∈ Region.ready .any ops listed ↔ j ∉ ls ∧ ∃ o, L[j]? = some o ∧ ∀ k ∈ waits o, k ∈ ls := by
  rw [mem_ready]
  have hget : ∀ j : Nat, ops[j]? = L[j]? := fun j => by rw [← hops, Array.getElem?_toList]
  constructor
  · rintro ⟨h1, o, ho, h2⟩
    rw [hget] at ho
    refine ⟨fun e => ?_, o, ho, fun k hk => ?_⟩
    · have hlt : j < listed.size := by rw [hs.lsz]; exact (List.getElem?_eq_some_iff.1 ho).1
      have := (hs.lst j).2 e
      have h3 : listed.getD j true = listed.getD j false := by simp only [Array.getD, hlt, dif_pos]
      rw [h3, this] at h1
      cases h1
    · obtain ⟨e, he, rfl, hb⟩ := mem_waits hk
      exact (hs.lst _).1 (h2 e he hb)
  · rintro ⟨h1, o, ho, h2⟩
    refine ⟨?_, o, by rw [hget]; exact ho, fun e he hb => (hs.lst _).2 (h2 _ (waits_mem he hb))⟩
    have hlt : j < listed.size := by rw [hs.lsz]; exact (List.getElem?_eq_some_iff.1 ho).1
    cases e : listed.getD j true with
    | false => rfl
    | true =>
      refine absurd ((hs.lst j).1 ?_) h1
      simpa [hlt] using e

theorem ord_sim (ok : C.tb.Ok C.P) {ops : Array Oper} (hops : ops.toList = L) (hnd : (modsO L).Nodup) (hlt : ∀ d ∈ modsO L, d < n) {K0 : St → Hp → Prop} {Q : Exit → Act → World → Prop}
    (hQ : ∀ s' h' β' a' w', K0 s' h' → RR n (fun _ => True) (fun _ => True) (fun _ => True) (fun _ => False) β' s' a' h' w' → Seg (modsO L) mok lv0 β0 a0 h0 w0 (lives s') β' a' h' w' → Q .normal a' w') :
    ∀ (fuel : Nat) (r : List (Nat × List Nat)) (done ls : List Nat) (listed : Array Bool) (last : Option Nat) (β : Nat → Nat) (s : St) (a : Act) (h : Hp) (w : World),
      Sim C L mok n lv0 β0 a0 h0 w0 done ls listed β s a h w → planGo C.tb C.priv L (aheads L []) r done last = true → (∀ j, j < L.length → j ∈ done ∨ j ∈ r.map (·.1)) → ordW C L mok r s h K0 →
      L.length ≤ fuel + ls.length → wpAny C.P .any ops Q fuel listed a w := by
  have finish : ∀ (done ls : List Nat) (listed : Array Bool) (β : Nat → Nat) (s : St) (a : Act) (h : Hp) (w : World), Sim C L mok n lv0 β0 a0 h0 w0 done ls listed β s a h w → (∀ j, j < L.length → j ∈ done) → (∀ j ∈ done, j ∈ ls) →
      K0 s h → Q .normal a w := by
    intro done ls listed β s a h w hs hall hdl hk
    have hN : ∀ k, ¬ NnP C L done k := fun k ⟨j, p, h1, h2, _⟩ => h1 (hall j (List.getElem?_eq_some_iff.1 h2).1)
    have hL : ∀ k, True ↔ LivP C L done ls k := fun k => ⟨fun _ => ⟨fun j p h1 h2 _ => absurd (hdl j h1) h2, hN k⟩, fun _ => trivial⟩
    exact hQ s h β a w hk (hs.rr.congr (fun t => ⟨fun _ j p h1 h2 _ => absurd (hdl j h1) h2, fun _ => trivial⟩) hL (fun _ _ => trivial) (fun _ e => e.elim)) (hs.seg.mono (fun _ e => e) (fun _ e => e) (fun _ e => e) (fun k e => ⟨e.1, (hL k).1 trivial⟩))
  intro fuel
  induction fuel with
  | zero =>
    intro r done ls listed last β s a h w hs hp hcov hv hf
    have hall : ∀ j, j < L.length → j ∈ ls := fun j hj => pigeon hs.lnd (fun x hx => hs.dlt x (hs.lsub x hx)) (by omega) hj
    have hrdy : Region.ready .any ops listed = [] := by
      cases hr : Region.ready .any ops listed with
      | nil => rfl
      | cons j js =>
        have : j ∈ Region.ready .any ops listed := by rw [hr]; exact List.mem_cons_self ..
        obtain ⟨h1, o, ho, _⟩ := (ready_iff hops hs).1 this
        exact absurd (hall j (List.getElem?_eq_some_iff.1 ho).1) h1
    refine ⟨hrdy, ?_⟩
    cases r with
    | nil => exact finish done ls listed β s a h w hs (fun j hj => hs.lsub j (hall j hj)) (fun j hj => hall j (hs.dlt j hj)) hv
    | cons x r =>
      obtain ⟨i, ws⟩ := x
      obtain ⟨o, ho, _, _, hid, _⟩ := planGo_cons hp
      exact absurd (hs.lsub i (hall i (List.getElem?_eq_some_iff.1 ho).1)) hid
  | succ fuel ih =>
    intro r
    induction r with
    | nil =>
      intro done ls listed last β s a h w hs hp hcov hv hf
      have hall : ∀ j, j < L.length → j ∈ done := fun j hj => (hcov j hj).resolve_right (by simp)
      refine ⟨fun hr => finish done ls listed β s a h w hs hall (fun j hj => Classical.byContradiction fun e => ?_) hv, fun j hj => ?_⟩
      · obtain ⟨i, h1, h2, h3⟩ := topo_first hs.topo ⟨j, hj, e⟩
        have hi := List.getElem?_eq_getElem (hs.dlt i h1)
        have : i ∈ Region.ready .any ops listed := (ready_iff hops hs).2 ⟨h2, _, hi, h3 _ hi⟩
        rw [hr] at this
        cases this
      · obtain ⟨h1, o, ho, h2⟩ := (ready_iff hops hs).1 hj
        exact pend_exec ok hops hnd hs ho (hall j (List.getElem?_eq_some_iff.1 ho).1) h1 h2 _ Q fun β' a' w' hs' => ih [] done (j :: ls) _ last β' s a' h w' hs' hp hcov hv (by simp; omega)
    | cons x r ihr =>
      intro done ls listed last β s a h w hs hp hcov hv hf
      obtain ⟨i, ws⟩ := x
      obtain ⟨o, ho, hw, hlk, hid, hlast, hc⟩ := planGo_cons hp
      have hcov' : ∀ j, j < L.length → j ∈ i :: done ∨ j ∈ r.map (·.1) := fun j hj => by
        rcases hcov j hj with e | e
        · exact .inl (List.mem_cons_of_mem _ e)
        · rcases List.mem_cons.1 e with e | e
          · exact .inl (e ▸ List.mem_cons_self ..)
          · exact .inr e
      simp only [ordW, nth_get, ho] at hv
      obtain ⟨hkd, hv'⟩ := condP hv
      have rest : planGo C.tb C.priv L (aheads L []) r (i :: done) (some i) = true →
          ((isVal C.tb o = true ∨ isPrivAlloc C.priv o = true) ∨ ∀ j p, j ∈ done → L[j]? = some p → isVal C.tb p = true → isRead C.tb p = true → j ∈ ws ∨ j ∈ aheadOf (aheads L []) i) → wpAny C.P .any ops Q (fuel + 1) listed a w := by
        intro hp' hwatch
        have hAll : ∀ s h, (match (generalizing := false) ws with
          | [] => ordW C L mok r s h K0
          | ws => AgainAll C (isStore o) L s h ws ∧ ordW C L mok r s h K0) → AgainAll C (isStore o) L s h ws ∧ ordW C L mok r s h K0 := by
          intro s h e
          cases ws with
          | nil => exact ⟨trivial, e⟩
          | cons x ws => exact e
        refine ⟨fun hr => ?_, fun j hj => ?_⟩
        · exfalso
          by_cases hx : ∃ j ∈ done, j ∉ ls
          · obtain ⟨j, h1, h2, h3⟩ := topo_first hs.topo hx
            have hi := List.getElem?_eq_getElem (hs.dlt j h1)
            have : j ∈ Region.ready .any ops listed := (ready_iff hops hs).2 ⟨h2, _, hi, h3 _ hi⟩
            rw [hr] at this
            cases this
          · have : i ∈ Region.ready .any ops listed := (ready_iff hops hs).2 ⟨fun e => hid (hs.lsub i e), o, ho, fun k hk => Classical.byContradiction fun e => hx ⟨k, hw k hk, e⟩⟩
            rw [hr] at this
            cases this
        · obtain ⟨h1, p, hp2, h2⟩ := (ready_iff hops hs).1 hj
          by_cases hjd : j ∈ done
          · exact pend_exec ok hops hnd hs hp2 hjd h1 h2 _ Q fun β' a' w' hs' => ih ((i, ws) :: r) done (j :: ls) _ last β' s a' h w' hs' hp hcov (by
              simp only [ordW, nth_get, ho]
              rw [hkd]
              exact hv') (by simp; omega)
          · by_cases hji : j = i
            · subst hji
              rw [ho] at hp2; cases hp2
              exact sim_exec ok hops hnd hlt hs ho hid h2 hlk hwatch (fun s h e => (hAll s h e).1) hv' _ Q fun s' h' β' a' w' hk hs' => ih r (j :: done) (j :: ls) _ (some j) β' s' a' h' w' hs' hp' hcov' (hAll _ _ hk).2 (by simp; omega)
            · exfalso
              have hjr : j ∈ r.map (·.1) := ((hcov' j (List.getElem?_eq_some_iff.1 hp2).1).resolve_left fun e => by
                rcases List.mem_cons.1 e with e | e
                · exact hji e
                · exact hjd e)
              have := plan_later hp' j hjr (· ∈ ls) hs.clos fun o' ho' => by rw [get_same hp2 ho']; exact h2
              exact hid (hs.lsub i this)
      rcases hc with ⟨hvp, hwar, hp'⟩ | ⟨hvp, _, hp'⟩ | ⟨_, _, hwt, hp'⟩
      · obtain ⟨s', hk, hs'⟩ := sim_lift ok hnd hlt hs ho hid hw hlk hwar hvp hkd hv'
        refine ihr (i :: done) ls listed last β s' a h w hs' hp' hcov' ?_ hf
        cases ws with
        | nil => exact hk
        | cons x ws => exact hk.2
      · exact rest hp' (.inl hvp)
      · exact rest hp' (.inr fun j p hjd hj hv1 hr1 => watched_get hwt j hjd p hj hv1 hr1)

theorem plan_idx {tb : Tb} {priv : List Nat} {rows : List (List Nat)} : ∀ {r : List (Nat × List Nat)} {done : List Nat} {last : Option Nat}, planGo tb priv L rows r done last = true →
    (r.map (·.1)).Nodup ∧ ∀ j ∈ r.map (·.1), j ∉ done ∧ j < L.length
  | [], _, _, _ => ⟨.nil, fun j hj => (nomatch hj)⟩
  | (i, ws) :: r, done, last, h => by
    obtain ⟨o, ho, _, _, hid, _, hc⟩ := planGo_cons h
    have main : ∀ last', planGo tb priv L rows r (i :: done) last' = true → _ := fun last' h' => plan_idx h'
    have : (r.map (·.1)).Nodup ∧ ∀ j ∈ r.map (·.1), j ∉ i :: done ∧ j < L.length := by
      rcases hc with ⟨_, _, h'⟩ | ⟨_, _, h'⟩ | ⟨_, _, _, h'⟩
      · exact main _ h'
      · exact main _ h'
      · exact main _ h'
    refine ⟨List.nodup_cons.2 ⟨fun e => (this.2 i e).1 (List.mem_cons_self ..), this.1⟩, fun j hj => ?_⟩
    rcases List.mem_cons.1 hj with rfl | hj
    · exact ⟨hid, (List.getElem?_eq_some_iff.1 ho).1⟩
    · exact ⟨fun e => (this.2 j hj).1 (List.mem_cons_of_mem _ e), (this.2 j hj).2⟩

theorem allocs_iff {priv : List Nat} {k : Nat} : ∀ {L : List Oper}, k ∈ allocsOf priv L ↔ ∃ (i : Nat) (o : Oper), L[i]? = some o ∧ privA priv o k
  | [] => by simp [allocsOf]
  | o :: L => by
    have ih := allocs_iff (priv := priv) (k := k) (L := L)
    have key : (∃ (i : Nat) (p : Oper), (o :: L)[i]? = some p ∧ privA priv p k) ↔ (privA priv o k ∨ ∃ (i : Nat) (p : Oper), L[i]? = some p ∧ privA priv p k) := by
      constructor
      · rintro ⟨i, p, h1, h2⟩
        cases i with
        | zero => simp at h1; subst h1; exact .inl h2
        | succ i => exact .inr ⟨i, p, by simpa using h1, h2⟩
      · rintro (h | ⟨i, p, h1, h2⟩)
        · exact ⟨0, o, by simp, h⟩
        · exact ⟨i + 1, p, by simpa using h1, h2⟩
    rw [key, ← ih]
    by_cases hp : ∃ d, privA priv o d
    · obtain ⟨d, hp⟩ := hp
      rw [privA_allocs hp, List.mem_cons]
      refine or_congr ⟨fun e => e ▸ hp, fun e => ?_⟩ .rfl
      have := e.2
      rw [hp.2] at this; cases this; rfl
    · rw [notA_allocs fun d e => hp ⟨d, e⟩]
      exact ⟨.inr, fun e => e.resolve_left fun e => hp ⟨k, e⟩⟩

end

/-- A region whose order is drawn. -/
theorem any_sound {C : Ctx} (ok : C.tb.Ok C.P) {ops : Array Oper} {mok : List Nat} {n : Nat} {ord : List (Nat × List Nat)} {β : Nat → Nat} {s : St} {a : Act} {h : Hp} {w : World} {K : St → Hp → Prop} {Q : Exit → Act → World → Prop} {id : Nat}
    (hp : planOk C.tb C.priv ops.toList ord = true) (hlt : ∀ d ∈ modsO ops.toList, d < n) (hr : Rel n β s a h w) (hv : ordW C ops.toList mok ord (s.dropB (allocsOf C.priv ops.toList)) h K)
    (hQ : ∀ s' h' β' a' w', K s' h' → Rel n β' s'.clean a' h' w' → Seg (modsO ops.toList) mok (lives s) β a h w (lives s') β' a' h' w' → Q .normal a' w') : (Code.region id ops true).wp C.P Q a w := by
  unfold planOk at hp
  obtain ⟨h1, hp⟩ := condT hp
  obtain ⟨h2, hp⟩ := condT hp
  have hnd := nodup_iff h1
  refine wp_region_any ok.mixed ?_
  have hst : Step h h w { w with drawn := w.drawn + 1 } := ⟨hr.sub, Nat.le_refl _, fun _ _ e => ⟨rfl, e⟩, rfl, rfl, rfl⟩
  have hr0 := (hr.step hst).start (allocsOf C.priv ops.toList)
  have hN : ∀ k, NnP C ops.toList [] k ↔ k ∈ allocsOf C.priv ops.toList := fun k => by
    rw [allocs_iff]
    exact ⟨fun ⟨i, o, _, h2, h3⟩ => ⟨i, o, h2, h3⟩, fun ⟨i, o, h2, h3⟩ => ⟨i, o, by simp, h2, h3⟩⟩
  have hL : ∀ k, LivP C ops.toList [] [] k ↔ k ∉ allocsOf C.priv ops.toList := fun k => by
    rw [← hN]
    exact ⟨fun e => e.2, fun e => ⟨fun i o h1 => absurd h1 List.not_mem_nil, e⟩⟩
  have hidx := plan_idx hp
  refine ord_sim (L := ops.toList) (mok := mok) (n := n) (lv0 := lives s) (β0 := β) (a0 := a) (h0 := h) (w0 := w) ok rfl hnd hlt (K0 := K) (fun s' h' β' a' w' hk hr' hs' => hQ s' h' β' a' w' hk hr'.clean hs') ops.size ord [] [] _ none β (s.dropB (allocsOf C.priv ops.toList)) a h _
    ⟨by simp, fun i => ?_, .nil, fun i e => absurd e List.not_mem_nil, fun i e => absurd e List.not_mem_nil, fun i o _ e => absurd e List.not_mem_nil, fun i o _ e => absurd e List.not_mem_nil, trivial, ?_, fun i o e => absurd e List.not_mem_nil, ?_⟩ hp (fun j hj => .inr (pigeon hidx.1 (fun x hx => (hidx.2 x hx).2) ?_ hj)) hv (by simp)
  · by_cases hi : i < ops.size
    · simp [hi]
    · simp [hi]
  · exact hr0.congr (fun t => ⟨fun _ => trivial, fun _ i o e => absurd e List.not_mem_nil⟩) hL (fun _ e => e.elim) (fun k e => (hN k).1 e)
  · exact (Seg.step (lv := lives s) hst).mono (fun _ e => e) (fun _ e => e) (fun _ e => e) (fun k e => live_drop (l := allocsOf C.priv ops.toList) ⟨e.1, (hL k).1 e.2⟩)
  · have := Nat.eq_of_beq_eq_true h2
    simp [this]

end Lf

/-
  The lifting layer, part 23: code, and whole functions.
-/
namespace Lf
open Go

def exOf : Ex → Exit
  | .nrm => .normal
  | .ret => .ret
  | .ext i => .exit i
  | .gto i => .goto i

theorem least_ex {p : Nat → Prop} : (∃ n, p n) → ∃ n, p n ∧ ∀ m, p m → n ≤ m := by
  rintro ⟨n, hn⟩
  induction n using Nat.strongRecOn with
  | _ n ih =>
    by_cases h : ∃ m, m < n ∧ p m
    · obtain ⟨m, h1, h2⟩ := h
      exact ih m h1 h2
    · exact ⟨n, hn, fun m hm => Nat.le_of_not_lt fun e => h ⟨m, e, hm⟩⟩

/-- A loop, by a count that its rounds make smaller. -/
theorem wp_loop_count {P : Program} {c : Code} {Q : Exit → Act → World → Prop} {a : Act} {w : World} (J : Nat → Act → World → Prop) (h0 : ∃ n, J n a w)
    (round : ∀ n a w, J n a w → c.wp P (Exit.then (fun a' w' => ∃ m, m < n ∧ J m a' w') Q) a w) : (Code.loop c).wp P Q a w := by
  classical
  let μ : Act → World → Nat := fun a w => if h : ∃ n, J n a w then Classical.choose (least_ex h) else 0
  have hμ : ∀ a w, (h : ∃ n, J n a w) → J (μ a w) a w ∧ ∀ m, J m a w → μ a w ≤ m := fun a w h => by
    have := Classical.choose_spec (least_ex h)
    simp only [μ, dif_pos h]
    exact this
  refine wp_loop (fun a w => ∃ n, J n a w) μ h0 fun a w hJ => ?_
  refine wp_mono (round (μ a w) a w (hμ a w hJ).1) fun e a' w' hq => ?_
  cases e with
  | normal =>
    obtain ⟨m, h1, h2⟩ := hq
    exact ⟨⟨m, h2⟩, Nat.lt_of_le_of_lt ((hμ a' w' ⟨m, h2⟩).2 m h2) h1⟩
  | _ => exact hq

section
variable {n : Nat} {β : Nat → Nat} {s : St} {a : Act} {h : Hp} {w : World}

/-- The second state has nothing but what stayed of the first one, and what is so now. -/
structure Mix (s s' s2 : St) (a' : Act) (n : Nat) (l mm : List Nat) : Prop where
  f : ∀ t v c, s2.f t = some (v, c) → c = [] ∧ ((s.f t = some (v, []) ∧ t ∉ l ∧ ∀ k o, (v = .box k o ∨ v = .boxd k o) → k ∉ l) ∨ (∃ x, v = .v x ∧ a'.eval (.tmp t) = x ∧ t < n))
  m : ∀ k cs, s2.m k = some cs → (s.m k = some cs ∧ k ∉ mm) ∨ s'.m k = some cs

theorem mix_rr {l mm : List Nat} {β' : Nat → Nat} {s' s2 : St} {a' : Act} {h' : Hp} {w' : World} (hr : Rel n β s a h w) (hs : Seg l mm (lives s) β a h w (lives s') β' a' h' w') (hr' : Rel n β' s' a' h' w') (hm : Mix s s' s2 a' n l mm) :
    Rel n β' s2 a' h' w' ∧ Seg l mm (lives s) β a h w (lives s2) β' a' h' w' := by
  have hkeep : ∀ k cs, s.m k = some cs → k ∉ mm → β' k = β k ∧ β k < w.heap.size ∧ h' (β k) = none ∧ ∃ ct, w'.heap[β k]? = some (.cells cs.toArray ct (0, 0)) := by
    intro k cs e hk
    obtain ⟨h1, ct, h2⟩ := hr.box k cs e trivial
    refine ⟨hs.beta k (.inr hk), heap_lt h2, hs.unk _ (heap_lt h2) h1, ct, ?_⟩
    rw [hs.keep _ (heap_lt h2) h1 fun k' hk' hl e' => hk (by rw [hr.inj k k' (by simp [e]) hl.1 trivial trivial e'.symm]; exact hk')]
    exact h2
  have hnew : ∀ k, s'.m k ≠ none → (s.m k ≠ none ∧ β' k = β k) ∨ w.heap.size ≤ β' k := fun k e => (hs.fresh k ⟨e, trivial⟩).imp (fun e => ⟨e.1.1, e.2⟩) id
  refine ⟨⟨hr'.sz, hr'.sub, fun t v c e => ?_, fun t v c e p hp => ?_, fun t v c e _ _ => ?_, fun t v c e _ hh => ?_, fun k cs e _ => ?_, fun k k' e e' _ _ he => ?_, fun _ e => e.elim, fun _ e => e.elim⟩, ?_⟩
  · obtain ⟨_, h1 | ⟨x, _, _, h1⟩⟩ := hm.f t v c e
    · exact hr.lt t v [] h1.1
    · exact h1
  · rw [(hm.f t v c e).1] at hp; cases hp
  · refine ⟨?_, fun _ _ _ => trivial⟩
    obtain ⟨_, ⟨h1, h2, h3⟩ | ⟨x, rfl, h1, _⟩⟩ := hm.f t v c e
    · rw [hs.tmp t h2, (hr.cur t v [] h1 trivial (holds_nil _)).1]
      cases v with
      | v x => rfl
      | box k o => simp only [LVal, hs.beta k (.inl (h3 k o (.inl rfl)))]
      | boxd k o => simp only [LVal, hs.beta k (.inl (h3 k o (.inr rfl)))]
    · exact h1
  · rw [(hm.f t v c e).1] at hh; exact absurd (holds_nil _) hh
  · rcases hm.m k cs e with ⟨h1, h2⟩ | h1
    · obtain ⟨e1, _, e2, e3⟩ := hkeep k cs h1 h2
      rw [e1]
      exact ⟨e2, e3⟩
    · exact hr'.box k cs h1 trivial
  · obtain ⟨cs, e⟩ := Option.ne_none_iff_exists'.1 e
    obtain ⟨cs', e'⟩ := Option.ne_none_iff_exists'.1 e'
    rcases hm.m k cs e with ⟨h1, h2⟩ | h1
    · obtain ⟨e1, e2, _⟩ := hkeep k cs h1 h2
      rcases hm.m k' cs' e' with ⟨h1', h2'⟩ | h1'
      · obtain ⟨e1', _⟩ := hkeep k' cs' h1' h2'
        rw [e1, e1'] at he
        exact hr.inj k k' (by simp [h1]) (by simp [h1']) trivial trivial he
      · rcases hnew k' (by simp [h1']) with ⟨e3, e4⟩ | e3
        · rw [e1, e4] at he
          exact hr.inj k k' (by simp [h1]) e3 trivial trivial he
        · rw [e1] at he; omega
    · rcases hm.m k' cs' e' with ⟨h1', h2'⟩ | h1'
      · obtain ⟨e1', e2', _⟩ := hkeep k' cs' h1' h2'
        rcases hnew k (by simp [h1]) with ⟨e3, e4⟩ | e3
        · rw [e1', e4] at he
          exact hr.inj k k' e3 (by simp [h1']) trivial trivial he
        · rw [e1'] at he; omega
      · exact hr'.inj k k' (by simp [h1]) (by simp [h1']) trivial trivial he
  · refine ⟨hs.tmp, hs.beta, hs.size, hs.unk, hs.keep, fun k e => ?_, hs.os, hs.tape, hs.output, hs.defers⟩
    obtain ⟨cs, e⟩ := Option.ne_none_iff_exists'.1 e.1
    rcases hm.m k cs e with ⟨h1, h2⟩ | h1
    · exact .inl ⟨⟨by simp [h1], trivial⟩, (hkeep k cs h1 h2).1⟩
    · exact hs.fresh k ⟨by simp [h1], trivial⟩

def shO : Option Ty → Shape
  | some e => e.sh
  | none => shUnit

theorem shOf_eq (tb : Tb) (t : Nat) : shOf tb t = shO (tb.ty t) := by
  unfold shOf shO
  cases tb.ty t <;> rfl

theorem sh_leaf {P : Program} {tb : Tb} (ok : tb.Ok P) {t : Nat} (ha : isAggT tb t = false) : ∀ (x : (shOf tb t).T) (cs : Array Value), (shOf tb t).enc x ≠ .agg cs := by
  rw [shOf_eq]
  unfold isAggT at ha
  cases he : tb.ty t with
  | none => intro x cs e; cases e
  | some e =>
    rw [he] at ha
    intro x cs
    exact ((ok.leaf t e he ha).2 x).2 cs

theorem cells_of {P : Program} {tb : Tb} (ok : tb.Ok P) {t : Nat} {cs : List Value} {v : Value} {x : (shOf tb t).T} (h1 : ofCells tb t cs = some v) (h2 : (shOf tb t).dec v = some x) : cellsL ((shOf tb t).enc x) = cs := by
  have hv := (shOf tb t).ok v x h2
  rw [hv]
  unfold ofCells at h1
  cases ha : isAggT tb t with
  | true =>
    rw [ha] at h1
    cases h1
    rfl
  | false =>
    rw [ha] at h1
    simp only [cond_false] at h1
    split at h1
    · cases h1
      have hne : ∀ cs, v ≠ .agg cs := fun cs e => sh_leaf ok ha x cs (hv.trans e)
      cases v <;> first | rfl | exact absurd rfl (hne _)
    · cases h1

/-- What is taken over at a join. -/
structure Got (s s' s2 : St) (a' : Act) (n : Nat) (l mm : List Nat) : Prop where
  mix : Mix s s' s2 a' n l mm

theorem getOne_mix {P : Program} {tb : Tb} (ok : tb.Ok P) {l mm : List Nat} {β' : Nat → Nat} {s' s2 : St} {a' : Act} {h' : Hp} {w' : World} (hr' : Rel n β' s' a' h' w') {j : J} {K : (shOf tb j.t).T → Prop} (hg : getOne tb s' j K)
    (hm : Mix s s' s2 a' n l mm) : ∃ x, K x ∧ Mix s s' (setOne tb j x s2) a' n l mm := by
  unfold getOne at hg
  cases hM : j.isM with
  | true =>
    rw [hM] at hg
    simp only [cond_true] at hg
    split at hg
    · rename_i cs hcs
      split at hg
      · rename_i v hv
        split at hg
        · rename_i x hx
          refine ⟨x, hg, ?_⟩
          have hc := cells_of ok hv hx
          unfold setOne
          rw [hM]
          simp only [cond_true, hc]
          refine ⟨hm.f, fun k cs' e => ?_⟩
          by_cases hk : k = j.i
          · subst hk
            rw [putM_same] at e; cases e
            exact .inr hcs
          · rw [putM_ne _ _ hk] at e
            exact hm.m k cs' e
        · exact hg.elim
      · exact hg.elim
    · exact hg.elim
  | false =>
    rw [hM] at hg
    simp only [cond_false] at hg
    split at hg
    · rename_i v hv
      split at hg
      · rename_i x hx
        refine ⟨x, hg, ?_⟩
        unfold setOne
        rw [hM]
        simp only [cond_false]
        rw [(shOf tb j.t).ok v x hx]
        refine ⟨fun t u c e => ?_, fun k cs e => hm.m k cs (by rwa [put_m] at e)⟩
        by_cases ht : t = j.i
        · subst ht
          rw [put_same] at e; cases e
          exact ⟨rfl, .inr ⟨v, rfl, (hr'.cur j.i _ [] hv trivial (holds_nil _)).1, hr'.lt _ _ _ hv⟩⟩
        · rw [put_ne _ _ _ ht] at e
          exact hm.f t u c e
      · exact hg.elim
    · exact hg.elim

theorem getJ_mix {P : Program} {tb : Tb} (ok : tb.Ok P) {l mm : List Nat} {β' : Nat → Nat} {s' : St} {a' : Act} {h' : Hp} {w' : World} (hr' : Rel n β' s' a' h' w') : ∀ {js : List J} {s2 : St} {K : JTup tb js → Prop}, getJ tb js s' K →
    Mix s s' s2 a' n l mm → ∃ x, K x ∧ Mix s s' (setJ tb js x s2) a' n l mm
  | [], s2, K, hg, hm => ⟨(), hg, hm⟩
  | [j], s2, K, hg, hm => getOne_mix ok hr' hg hm
  | j :: j2 :: js, s2, K, hg, hm => by
    obtain ⟨x, hx, hm'⟩ := getOne_mix ok hr' hg hm
    obtain ⟨y, hy, hm2⟩ := getJ_mix ok hr' (js := j2 :: js) hx hm'
    exact ⟨(x, y), hy, hm2⟩

theorem forget_mix (hr : Rel n β s a h w) {l mm : List Nat} {s' : St} {a' : Act} : Mix s s' (s.forget l mm) a' n l mm := by
  refine ⟨fun t v c e => ?_, fun k cs e => ?_⟩
  · simp only [St.forget] at e
    cases ht : has l t with
    | true => simp [ht] at e
    | false =>
      simp only [ht, cond_false] at e
      obtain ⟨h1, h2⟩ := dropL'_some e
      have hc : c = [] := by
        cases c with
        | nil => rfl
        | cons p c => exact (hr.chain t v _ h1 p (List.mem_cons_self ..)).elim
      subst hc
      exact ⟨rfl, .inl ⟨h1, has_false ht, h2⟩⟩
  · simp only [St.forget] at e
    cases hk : has mm k with
    | true => simp [hk] at e
    | false =>
      simp only [hk, cond_false] at e
      exact .inl ⟨e, has_false hk⟩

theorem join_rel {P : Program} {tb : Tb} (ok : tb.Ok P) {l mm : List Nat} {β' : Nat → Nat} {s' : St} {a' : Act} {h' : Hp} {w' : World} (hr : Rel n β s a h w) (hs : Seg l mm (lives s) β a h w (lives s') β' a' h' w') (hr' : Rel n β' s' a' h' w')
    {js : List J} {K : JTup tb js → Prop} (hg : getJ tb js s' K) :
    ∃ x, K x ∧ Rel n β' (setJ tb js x (s.forget l mm)) a' h' w' ∧ Seg l mm (lives s) β a h w (lives (setJ tb js x (s.forget l mm))) β' a' h' w' := by
  obtain ⟨x, hx, hm⟩ := getJ_mix ok hr' hg (forget_mix (s' := s') (a' := a') hr)
  obtain ⟨h1, h2⟩ := mix_rr hr hs hr' hm
  exact ⟨x, hx, h1, h2⟩

end

theorem app_mem {x y : List Nat} {d : Nat} : d ∈ app x y ↔ d ∈ x ∨ d ∈ y := by rw [app_eq, List.mem_append]

/-- What is told of code is so. -/
theorem lift_sound {C : Ctx} (ok : C.tb.Ok C.P) {n : Nat} : ∀ (c : Code) (A : Ann) (mok : List Nat) (s : St) (E : Env) (h : Hp), (∀ d ∈ mods c, d < n) → lift C c A mok s E h → ∀ (β : Nat → Nat) (a : Act) (w : World), Rel n β s a h w →
    ∀ Q : Exit → Act → World → Prop, (∀ e s' h' β' a' w', E e s' h' → Rel n β' s' a' h' w' → Seg (mods c) mok (lives s) β a h w (lives s') β' a' h' w' → Q (exOf e) a' w') → c.wp C.P Q a w := by
  intro c
  induction c with
  | skip => intro A mok s E h _ hv β a w hr Q hQ; exact wp_skip (hQ .nrm s h β a w hv hr (Seg.refl _ _))
  | ret => intro A mok s E h _ hv β a w hr Q hQ; exact wp_ret (hQ .ret s h β a w hv hr (Seg.refl _ _))
  | exit i => intro A mok s E h _ hv β a w hr Q hQ; exact wp_exit (hQ (.ext i) s h β a w hv hr (Seg.refl _ _))
  | goto i => intro A mok s E h _ hv β a w hr Q hQ; exact wp_goto (hQ (.gto i) s h β a w hv hr (Seg.refl _ _))
  | label i => intro A mok s E h _ hv β a w hr Q hQ; exact wp_label (hQ .nrm s h β a w hv hr (Seg.refl _ _))
  | region id ops draw =>
    intro A mok s E h hlt hv β a w hr Q hQ
    have hclean : ∀ s' : St, ∀ k, lives s'.clean k ↔ lives s' k := fun s' k => .rfl
    cases draw with
    | true =>
      simp only [lift] at hv
      split at hv
      · rename_i ord
        obtain ⟨hp, hv⟩ := condP hv
        exact any_sound ok hp hlt hr hv fun s' h' β' a' w' hk hr' hs' => hQ .nrm s'.clean h' β' a' w' hk hr' hs'
      · exact hv.elim
    | false =>
      simp only [lift] at hv
      obtain ⟨hp, hv⟩ := condP hv
      unfold seqOk at hp
      obtain ⟨h1, hp⟩ := condT hp
      have hst := hr.start (allocsOf C.priv ops.toList)
      have main : ∀ g : Bool, (g = false → noGuard ops.toList = true) → (g = true → (modsO ops.toList).Nodup ∧ guardsBack ops.toList 0 = true) → (Code.region id ops false).wp C.P Q a w := by
        intro g hg1 hg2
        refine wp_region ?_
        have := seq_sound (n := n) (mok := mok) (K := fun s' h' => E .nrm s'.clean h') (Q := Q) ok g hlt hg1 hg2 ops.toList [] β _ a h w rfl (nodup_iff h1) hv
          (hst.congr (fun _ => .rfl) (fun _ => .rfl) (fun _ e => e.elim) (fun _ e => e)) (fun s' h' β' a' w' hk hr' hs' => hQ .nrm s'.clean h' β' a' w' hk hr'.clean
            (hs'.mono (fun _ e => e) (fun _ e => e) (fun k e => live_drop e) (fun _ e => e)))
        rw [List.range_eq_range']
        simpa using this
      cases hng : noGuard ops.toList with
      | true => exact main false (fun _ => hng) (fun e => by cases e)
      | false =>
        rw [hng] at hp
        simp only [cond_false] at hp
        obtain ⟨h2, h3⟩ := condT hp
        exact main true (fun e => by cases e) (fun _ => ⟨nodup_iff h2, h3⟩)
  | seq x y ihx ihy =>
    intro A mok s E h hlt hv β a w hr Q hQ
    have hlx : ∀ d ∈ mods x, d < n := fun d hd => hlt d (app_mem.2 (.inl hd))
    have hly : ∀ d ∈ mods y, d < n := fun d hd => hlt d (app_mem.2 (.inr hd))
    have hmx : ∀ d ∈ mods x, d ∈ mods (.seq x y) := fun d hd => app_mem.2 (.inl hd)
    have hmy : ∀ d ∈ mods y, d ∈ mods (.seq x y) := fun d hd => app_mem.2 (.inr hd)
    refine wp_seq ?_
    unfold lift at hv
    split at hv
    · rename_i js mm _ _
      obtain ⟨hmm, R, hA, hB⟩ := condP hv
      have hmm' := allIn_mem hmm
      refine ihx _ mm s _ h hlx hA β a w hr _ fun e s' h' β' a' w' he hr' hs' => ?_
      cases e with
      | nrm =>
        obtain ⟨z, hz, hr2, hs2⟩ := join_rel ok hr hs' hr' he
        refine ihy _ mok _ E h' hly (hB z h' hz) β' a' w' hr2 Q fun e2 s2 h2 β2 a2 w2 he2 hrr hss => ?_
        exact hQ e2 s2 h2 β2 a2 w2 he2 hrr ((hs2.mono hmx hmm' (fun _ e => e) (fun _ e => e)).trans (hss.mono hmy (fun _ e => e) (fun _ e => e) (fun _ e => e)))
      | ret => exact hQ .ret s' h' β' a' w' he hr' (hs'.mono hmx hmm' (fun _ e => e) (fun _ e => e))
      | ext i => exact hQ (.ext i) s' h' β' a' w' he hr' (hs'.mono hmx hmm' (fun _ e => e) (fun _ e => e))
      | gto i => exact hQ (.gto i) s' h' β' a' w' he hr' (hs'.mono hmx hmm' (fun _ e => e) (fun _ e => e))
    · refine ihx _ mok s _ h hlx hv β a w hr _ fun e s' h' β' a' w' he hr' hs' => ?_
      cases e with
      | nrm =>
        refine ihy _ mok _ E h' hly he β' a' w' hr' Q fun e2 s2 h2 β2 a2 w2 he2 hrr hss => ?_
        exact hQ e2 s2 h2 β2 a2 w2 he2 hrr ((hs'.mono hmx (fun _ e => e) (fun _ e => e) (fun _ e => e)).trans (hss.mono hmy (fun _ e => e) (fun _ e => e) (fun _ e => e)))
      | ret => exact hQ .ret s' h' β' a' w' he hr' (hs'.mono hmx (fun _ e => e) (fun _ e => e) (fun _ e => e))
      | ext i => exact hQ (.ext i) s' h' β' a' w' he hr' (hs'.mono hmx (fun _ e => e) (fun _ e => e) (fun _ e => e))
      | gto i => exact hQ (.gto i) s' h' β' a' w' he hr' (hs'.mono hmx (fun _ e => e) (fun _ e => e) (fun _ e => e))
  | cond c x y ihx ihy =>
    intro A mok s E h hlt hv β a w hr Q hQ
    have hlx : ∀ d ∈ mods x, d < n := fun d hd => hlt d (app_mem.2 (.inl hd))
    have hly : ∀ d ∈ mods y, d < n := fun d hd => hlt d (app_mem.2 (.inr hd))
    simp only [lift] at hv
    obtain ⟨v, hev, hv⟩ := onV_some hv
    split at hv
    · rename_i t
      have hc := ev_ok (opnd_rr hr (x := c) fun _ _ => trivial) (holds_nil s) hev
      refine wp_cond_split (t := t) hc (fun ht => ?_) (fun ht => ?_)
      · rw [if_pos ht] at hv
        exact ihx _ mok s E h hlx hv β a w hr Q fun e s' h' β' a' w' he hr' hs' => hQ e s' h' β' a' w' he hr' (hs'.mono (fun d hd => app_mem.2 (.inl hd)) (fun _ e => e) (fun _ e => e) (fun _ e => e))
      · rw [if_neg (by rw [ht]; simp)] at hv
        exact ihy _ mok s E h hly hv β a w hr Q fun e s' h' β' a' w' he hr' hs' => hQ e s' h' β' a' w' he hr' (hs'.mono (fun d hd => app_mem.2 (.inr hd)) (fun _ e => e) (fun _ e => e) (fun _ e => e))
    · exact hv.elim
  | block id x ih =>
    intro A mok s E h hlt hv β a w hr Q hQ
    refine wp_block ?_
    unfold lift at hv
    split at hv
    · rename_i js mm _
      obtain ⟨hmm, R, hA, hB⟩ := condP hv
      have hmm' := allIn_mem hmm
      refine ih _ mm s _ h hlt hA β a w hr _ fun e s' h' β' a' w' he hr' hs' => ?_
      have joined : getJ C.tb js s' (fun x => R x h') → Q .normal a' w' := fun hg => by
        obtain ⟨z, hz, hr2, hs2⟩ := join_rel ok hr hs' hr' hg
        exact hQ .nrm _ h' β' a' w' (hB z h' hz) hr2 (hs2.mono (fun _ e => e) hmm' (fun _ e => e) (fun _ e => e))
      cases e with
      | nrm => exact joined he
      | ret => exact hQ .ret s' h' β' a' w' he hr' (hs'.mono (fun _ e => e) hmm' (fun _ e => e) (fun _ e => e))
      | ext i =>
        simp only [exOf, Exit.inBlock]
        by_cases hi : i = id
        · subst hi
          simp only [Env.blk, Nat.beq_refl, cond_true] at he
          simpa using joined he
        · rw [if_neg hi]
          simp only [Env.blk, beq_ne hi, cond_false] at he
          exact hQ (.ext i) s' h' β' a' w' he hr' (hs'.mono (fun _ e => e) hmm' (fun _ e => e) (fun _ e => e))
      | gto i => exact hQ (.gto i) s' h' β' a' w' he hr' (hs'.mono (fun _ e => e) hmm' (fun _ e => e) (fun _ e => e))
    · refine ih _ mok s _ h hlt hv β a w hr _ fun e s' h' β' a' w' he hr' hs' => ?_
      cases e with
      | nrm => exact hQ .nrm s' h' β' a' w' he hr' hs'
      | ret => exact hQ .ret s' h' β' a' w' he hr' hs'
      | ext i =>
        simp only [exOf, Exit.inBlock]
        by_cases hi : i = id
        · subst hi
          simp only [Env.blk, Nat.beq_refl, cond_true] at he
          rw [if_pos rfl]
          exact hQ .nrm s' h' β' a' w' he hr' hs'
        · rw [if_neg hi]
          simp only [Env.blk, beq_ne hi, cond_false] at he
          exact hQ (.ext i) s' h' β' a' w' he hr' hs'
      | gto i => exact hQ (.gto i) s' h' β' a' w' he hr' hs'
  | scope x ih =>
    intro A mok s E h hlt hv β a w hr Q hQ
    refine wp_scope_straight ?_
    unfold lift at hv
    refine ih _ mok s _ h hlt hv β a w hr _ fun e s' h' β' a' w' he hr' hs' => ?_
    cases e with
    | nrm => exact hQ .nrm s' h' β' a' w' he hr' hs'
    | ret => exact hQ .ret s' h' β' a' w' he hr' hs'
    | ext i => exact hQ (.ext i) s' h' β' a' w' he hr' hs'
    | gto i => exact he.elim
  | loop x ih =>
    intro A mok s E h hlt hv β a w hr Q hQ
    unfold lift at hv
    split at hv
    · rename_i js mm _
      obtain ⟨hmm, hv⟩ := condP hv
      have hmm' := allIn_mem hmm
      obtain ⟨x0, hx0, hr0, hs0⟩ := join_rel ok hr (Seg.refl (l := mods x) (mm := mm)) hr hv
      obtain ⟨I, μ, hI, hbody⟩ := hx0
      refine wp_loop_count (fun m a' w' => ∃ z h' β', I z h' ∧ μ z h' = m ∧ Rel n β' (setJ C.tb js z (s.forget (mods x) mm)) a' h' w' ∧ Seg (mods x) mm (lives s) β a h w (lives (setJ C.tb js z (s.forget (mods x) mm))) β' a' h' w')
        ⟨_, x0, h, β, hI, rfl, hr0, hs0⟩ ?_
      rintro m a' w' ⟨z, h', β', hz, rfl, hr1, hs1⟩
      refine ih _ mm _ _ h' hlt (hbody z h' hz) β' a' w' hr1 _ fun e s2 h2 β2 a2 w2 he hr2 hs2 => ?_
      have hs12 := hs1.trans hs2
      cases e with
      | nrm =>
        obtain ⟨z2, hz2, hr3, hs3⟩ := join_rel ok hr hs12 hr2 he
        exact ⟨_, hz2.2, z2, h2, β2, hz2.1, rfl, hr3, hs3⟩
      | ret => exact hQ .ret s2 h2 β2 a2 w2 he hr2 (hs12.mono (fun _ e => e) hmm' (fun _ e => e) (fun _ e => e))
      | ext i => exact hQ (.ext i) s2 h2 β2 a2 w2 he hr2 (hs12.mono (fun _ e => e) hmm' (fun _ e => e) (fun _ e => e))
      | gto i => exact hQ (.gto i) s2 h2 β2 a2 w2 he hr2 (hs12.mono (fun _ e => e) hmm' (fun _ e => e) (fun _ e => e))
    · exact hv.elim
  | _ => intro A mok s E h _ hv; exact hv.elim

end Lf

/-
  The lifting layer, part 24: whole functions.
-/
namespace Lf
open Go

def resRun (tmps : Array Value) : ResultVar → Sem Value
  | .tmp t => pure (tmps.getD t undef)
  | .cell a t => do loadVar t (← asAddr (tmps.getD a undef))

def resVal : List Value → Value
  | [v] => v
  | vs => .tuple vs.toArray

theorem results_run {P : Program} {fn : Func} {tmps : Array Value} {vs : List Value} {w : World} (h : (fn.results.toList.mapM (resRun tmps)).run P w = .ok vs w) : (results fn tmps).run P w = .ok (resVal vs) w := by
  have e : results fn tmps = ((fn.results.mapM (resRun tmps)) >>= fun vs => pure (if h : vs.size = 1 then vs[0] else .tuple vs)) := by
    unfold results
    congr 1
  rw [e, Array.mapM_eq_mapM_toList, map_eq_pure_bind]
  simp only [Sem.run_bind, h, Result.andThen_ok, Sem.run_pure]
  cases vs with
  | nil => rfl
  | cons v vs => cases vs <;> simp [resVal]

theorem run_loadSh {P : Program} {tb : Tb} (ok : tb.Ok P) {t : Nat} {e : Ty} (he : tb.ty t = some e) {w : World} {a : Addr} {x : (shOf tb t).T}
    (hc : ∀ (j : Nat) (v : Value), (cellsL ((shOf tb t).enc x))[j]? = some v → w.cell? (a.add j) = some v) : (loadVar t a).run P w = .ok ((shOf tb t).enc x) w := by
  revert x
  rw [shOf_eq, he]
  intro x hc
  exact run_loadVar ok he hc

section
variable {C : Ctx} {n : Nat} {β : Nat → Nat} {s : St} {a : Act} {h : Hp} {w : World}

theorem retOne_run (ok : C.tb.Ok C.P) (hr : Rel n β s a h w) {r : ResultVar} {t : Nat} {K : (shOf C.tb t).T → Prop} (hv : retOne C s r t K) : ∃ x, K x ∧ (resRun a.tmps r).run C.P w = .ok ((shOf C.tb t).enc x) w := by
  cases r with
  | tmp i =>
    simp only [retOne] at hv
    split at hv
    · rename_i v hf
      split at hv
      · rename_i x hx
        refine ⟨x, hv, ?_⟩
        have := (hr.cur i _ [] hf trivial (holds_nil _)).1
        rw [(shOf C.tb t).ok v x hx]
        simp only [resRun, Sem.run_pure]
        exact congrArg (fun v => Result.ok v w) this
      · exact hv.elim
    · exact hv.elim
  | cell i ct =>
    simp only [retOne] at hv
    obtain ⟨h1, hv⟩ := condP hv
    have h1 := Nat.eq_of_beq_eq_true h1
    subst h1
    split at hv
    · rename_i k e hf he
      split at hv
      · rename_i cs hm
        split at hv
        · rename_i v hcs
          split at hv
          · rename_i x hx
            refine ⟨x, hv, ?_⟩
            have hc := cells_of ok hcs hx
            obtain ⟨_, t', hb⟩ := hr.box k cs hm trivial
            have := (hr.cur i _ [] hf trivial (holds_nil _)).1
            have h2 : a.tmps.getD i undef = .pointer (some ⟨β k, 0, none⟩) := this
            simp only [resRun, h2, asAddr, Sem.run_bind, Sem.run_pure, Result.andThen_ok]
            refine run_loadSh ok he fun j v hj => ?_
            rw [hc] at hj
            rw [box_add, box_cell hb]
            simpa using hj
          · exact hv.elim
        · exact hv.elim
      · exact hv.elim
    · exact hv.elim

theorem retW_run (ok : C.tb.Ok C.P) (hr : Rel n β s a h w) {rs : List ResultVar} {ts : List Nat} {K : (shRes C.tb ts).T → Hp → Prop} (hv : retW C s h rs ts K) :
    ∃ x vs, K x h ∧ (rs.mapM (resRun a.tmps)).run C.P w = .ok vs w ∧ resVal vs = (shRes C.tb ts).enc x := by
  have step : ∀ {r : ResultVar} {rs : List ResultVar} {v : Value} {vs : List Value}, (resRun a.tmps r).run C.P w = .ok v w → (rs.mapM (resRun a.tmps)).run C.P w = .ok vs w → ((r :: rs).mapM (resRun a.tmps)).run C.P w = .ok (v :: vs) w := by
    intro r rs v vs h1 h2
    simp only [List.mapM_cons, Sem.run_bind, h1, h2, Result.andThen_ok, Sem.run_pure]
  have nil : (([] : List ResultVar).mapM (resRun a.tmps)).run C.P w = .ok [] w := by simp only [List.mapM_nil, Sem.run_pure]
  unfold retW at hv
  split at hv
  · exact ⟨(), [], hv, nil, rfl⟩
  · obtain ⟨x, hk, h1⟩ := retOne_run ok hr hv
    exact ⟨x, _, hk, step h1 nil, rfl⟩
  · obtain ⟨x1, hv, h1⟩ := retOne_run ok hr hv
    obtain ⟨x2, hk, h2⟩ := retOne_run ok hr hv
    exact ⟨(x1, x2), _, hk, step h1 (step h2 nil), rfl⟩
  · obtain ⟨x1, hv, h1⟩ := retOne_run ok hr hv
    obtain ⟨x2, hv, h2⟩ := retOne_run ok hr hv
    obtain ⟨x3, hk, h3⟩ := retOne_run ok hr hv
    exact ⟨(x1, x2, x3), _, hk, step h1 (step h2 (step h3 nil)), rfl⟩
  · obtain ⟨x1, hv, h1⟩ := retOne_run ok hr hv
    obtain ⟨x2, hv, h2⟩ := retOne_run ok hr hv
    obtain ⟨x3, hv, h3⟩ := retOne_run ok hr hv
    obtain ⟨x4, hk, h4⟩ := retOne_run ok hr hv
    exact ⟨(x1, x2, x3, x4), _, hk, step h1 (step h2 (step h3 (step h4 nil))), rfl⟩
  · obtain ⟨x1, hv, h1⟩ := retOne_run ok hr hv
    obtain ⟨x2, hv, h2⟩ := retOne_run ok hr hv
    obtain ⟨x3, hv, h3⟩ := retOne_run ok hr hv
    obtain ⟨x4, hv, h4⟩ := retOne_run ok hr hv
    obtain ⟨x5, hk, h5⟩ := retOne_run ok hr hv
    exact ⟨(x1, x2, x3, x4, x5), _, hk, step h1 (step h2 (step h3 (step h4 (step h5 nil)))), rfl⟩
  · exact hv.elim

end

theorem allLt_mem {n : Nat} {l : List Nat} (h : allLt n l = true) : ∀ d ∈ l, d < n := by
  induction l with
  | nil => intro d hd; cases hd
  | cons a l ih =>
    simp only [allLt] at h
    obtain ⟨h1, h2⟩ := condT h
    intro d hd
    rcases List.mem_cons.1 hd with rfl | hd
    · have : d + 1 ≤ n := by simpa [Nat.blt] using h1
      exact this
    · exact ih h2 d hd

/-- What is told of a function is so. -/
theorem fun_sound {C : Ctx} (ok : C.tb.Ok C.P) {g : FuncId} {f : Func} {c : Code} {A : Ann} {args : List Value} {K : (shRes C.tb f.resultTypes.toList).T → Hp → Prop} {h : Hp} (hf : C.P.funcs[g]? = some f) (hb : f.body = some c)
    (hv : funW C f A args K h) : CallT C.P g args (shRes C.tb f.resultTypes.toList) K h := by
  intro w hs
  unfold funW at hv
  obtain ⟨hc, hv⟩ := condP hv
  obtain ⟨h1, h2⟩ := condT hc
  have h1 : args.length ≤ f.ntmps := Nat.le_of_ble_eq_true h1
  have hbody : bodyOf f = c := by unfold bodyOf; rw [hb]
  rw [hbody] at hv h2
  refine calls_of_wp hf hb ?_
  have hget : ∀ (t : Nat) (v : Value), args[t]? = some v → (args.toArray ++ Array.replicate (f.ntmps - args.toArray.size) undef)[t]? = some v := by
    intro t v e
    have hlt : t < args.length := (List.getElem?_eq_some_iff.1 e).1
    rw [Array.getElem?_append_left (by simpa using hlt)]
    simpa using e
  have hargs : ∀ (t : Nat) (l : LV) (c : Chain), argsF args t = some (l, c) → ∃ v, args[t]? = some v ∧ l = .v v ∧ c = [] := by
    intro t l c e
    unfold argsF at e
    rw [nth_get] at e
    split at e
    · rename_i v hv
      cases e
      exact ⟨v, hv, rfl, rfl⟩
    · cases e
  have hrel : Rel f.ntmps (fun _ => 0) { f := argsF args, m := fun _ => none } { tmps := args.toArray ++ Array.replicate (f.ntmps - args.toArray.size) undef, defers := [] } h w := by
    refine ⟨by simp; omega, hs, fun t l c e => ?_, fun t l c e p hp => ?_, fun t l c e _ _ => ?_, fun t l c e _ hh => ?_, fun k cs e _ => (by cases e), fun k k' e => absurd rfl e, fun _ e => e.elim, fun _ e => e.elim⟩
    · obtain ⟨v, h3, _, _⟩ := hargs t l c e
      have := (List.getElem?_eq_some_iff.1 h3).1
      omega
    · obtain ⟨v, h3, _, rfl⟩ := hargs t l c e
      cases hp
    · obtain ⟨v, h3, rfl, rfl⟩ := hargs t l c e
      refine ⟨?_, fun _ _ _ => trivial⟩
      simp only [Act.eval, LVal, Array.getD_eq_getD_getElem?, hget t v h3, Option.getD_some]
    · obtain ⟨v, h3, rfl, rfl⟩ := hargs t l c e
      exact absurd (holds_nil _) hh
  refine lift_sound ok c A C.priv _ _ h (allLt_mem h2) hv _ _ w hrel _ fun e s' h' β' a' w' he hr' hs' => ?_
  have hst : Step h h' w w' := ⟨hr'.sub, hs'.size, fun b hb hn => ⟨hs'.keep b hb hn (fun k _ hl => absurd rfl hl.1), hs'.unk b hb hn⟩, hs'.os, hs'.tape, hs'.output⟩
  have done : retW C s' h' f.results.toList f.resultTypes.toList K → a'.defers = [] ∧ ∃ v, (results f a'.tmps).run C.P w' = .ok v w' ∧ ∃ u h2, Ending.returned v = .returned u ∧ (∃ x, u = (shRes C.tb f.resultTypes.toList).enc x ∧ K x h2) ∧ Step h h2 w w' := by
    intro hw
    obtain ⟨x, vs, hk, hrun, hval⟩ := retW_run ok hr' hw
    exact ⟨hs'.defers, _, results_run hrun, _, h', rfl, ⟨x, hval, hk⟩, hst⟩
  cases e with
  | nrm => exact done he
  | ret => exact done he
  | ext i => exact he.elim
  | gto i => exact he.elim

end Lf

/-
  The lifting layer, part 4: the same words for several variables, one behind the other.
-/
namespace Lf
open Go

def JoinW0 (A : (Hp → Prop) → Prop) (B : Hp → Prop) : Prop :=
  JoinT (σ := Unit) (fun R => A (fun h => R () h)) (fun _ h => B  h)
theorem JoinW0.intro {A : (Hp → Prop) → Prop} {B : Hp → Prop} (R : Hp → Prop) (hA : A R) (hB : ∀ h, R h → B h) : JoinW0 A B :=
  ⟨fun _ h => R  h, hA, fun _ h hr => hB  h hr⟩
theorem JoinW0.direct {A : (Hp → Prop) → Prop} {B : Hp → Prop} (hA : A B) : JoinW0 A B := JoinW0.intro B hA (fun _ hr => hr)
def LoopW0 (body : (Hp → Prop) → Hp → Prop)  (h : Hp) : Prop :=
  LoopT (σ := Unit) (fun R _ h => body (fun h => R () h)  h) () h
theorem LoopW0.intro {body : (Hp → Prop) → Hp → Prop} {h : Hp} (I : Hp → Prop) (μ : Hp → Nat)
    (h0 : I  h) (hr : ∀  k, I  k → body (fun  k' => I  k' ∧ μ  k' < μ  k)  k) : LoopW0 body  h :=
  ⟨fun _ h => I  h, fun _ h => μ  h, h0, fun _ k hk => hr  k hk⟩

def JoinW1 {α1 : Type} (A : (α1 → Hp → Prop) → Prop) (B : α1 → Hp → Prop) : Prop :=
  JoinT (σ := α1) (fun R => A (fun x1 h => R x1 h)) (fun p h => B p h)
theorem JoinW1.intro {α1 : Type} {A : (α1 → Hp → Prop) → Prop} {B : α1 → Hp → Prop} (R : α1 → Hp → Prop) (hA : A R) (hB : ∀ x1 h, R x1 h → B x1 h) : JoinW1 A B :=
  ⟨fun p h => R p h, hA, fun p h hr => hB p h hr⟩
theorem JoinW1.direct {α1 : Type} {A : (α1 → Hp → Prop) → Prop} {B : α1 → Hp → Prop} (hA : A B) : JoinW1 A B := JoinW1.intro B hA (fun _ _ hr => hr)
def LoopW1 {α1 : Type} (body : (α1 → Hp → Prop) → α1 → Hp → Prop) (x1 : α1) (h : Hp) : Prop :=
  LoopT (σ := α1) (fun R p h => body (fun x1 h => R x1 h) p h) x1 h
theorem LoopW1.intro {α1 : Type} {body : (α1 → Hp → Prop) → α1 → Hp → Prop} {x1 : α1} {h : Hp} (I : α1 → Hp → Prop) (μ : α1 → Hp → Nat)
    (h0 : I x1 h) (hr : ∀ x1 k, I x1 k → body (fun y1 k' => I y1 k' ∧ μ y1 k' < μ x1 k) x1 k) : LoopW1 body x1 h :=
  ⟨fun p h => I p h, fun p h => μ p h, h0, fun p k hk => hr p k hk⟩

def JoinW2 {α1 α2 : Type} (A : (α1 → α2 → Hp → Prop) → Prop) (B : α1 → α2 → Hp → Prop) : Prop :=
  JoinT (σ := α1 × α2) (fun R => A (fun x1 x2 h => R (x1, x2) h)) (fun p h => B p.1 p.2 h)
theorem JoinW2.intro {α1 α2 : Type} {A : (α1 → α2 → Hp → Prop) → Prop} {B : α1 → α2 → Hp → Prop} (R : α1 → α2 → Hp → Prop) (hA : A R) (hB : ∀ x1 x2 h, R x1 x2 h → B x1 x2 h) : JoinW2 A B :=
  ⟨fun p h => R p.1 p.2 h, hA, fun p h hr => hB p.1 p.2 h hr⟩
theorem JoinW2.direct {α1 α2 : Type} {A : (α1 → α2 → Hp → Prop) → Prop} {B : α1 → α2 → Hp → Prop} (hA : A B) : JoinW2 A B := JoinW2.intro B hA (fun _ _ _ hr => hr)
def LoopW2 {α1 α2 : Type} (body : (α1 → α2 → Hp → Prop) → α1 → α2 → Hp → Prop) (x1 : α1) (x2 : α2) (h : Hp) : Prop :=
  LoopT (σ := α1 × α2) (fun R p h => body (fun x1 x2 h => R (x1, x2) h) p.1 p.2 h) (x1, x2) h
theorem LoopW2.intro {α1 α2 : Type} {body : (α1 → α2 → Hp → Prop) → α1 → α2 → Hp → Prop} {x1 : α1} {x2 : α2} {h : Hp} (I : α1 → α2 → Hp → Prop) (μ : α1 → α2 → Hp → Nat)
    (h0 : I x1 x2 h) (hr : ∀ x1 x2 k, I x1 x2 k → body (fun y1 y2 k' => I y1 y2 k' ∧ μ y1 y2 k' < μ x1 x2 k) x1 x2 k) : LoopW2 body x1 x2 h :=
  ⟨fun p h => I p.1 p.2 h, fun p h => μ p.1 p.2 h, h0, fun p k hk => hr p.1 p.2 k hk⟩

def JoinW3 {α1 α2 α3 : Type} (A : (α1 → α2 → α3 → Hp → Prop) → Prop) (B : α1 → α2 → α3 → Hp → Prop) : Prop :=
  JoinT (σ := α1 × α2 × α3) (fun R => A (fun x1 x2 x3 h => R (x1, x2, x3) h)) (fun p h => B p.1 p.2.1 p.2.2 h)
theorem JoinW3.intro {α1 α2 α3 : Type} {A : (α1 → α2 → α3 → Hp → Prop) → Prop} {B : α1 → α2 → α3 → Hp → Prop} (R : α1 → α2 → α3 → Hp → Prop) (hA : A R) (hB : ∀ x1 x2 x3 h, R x1 x2 x3 h → B x1 x2 x3 h) : JoinW3 A B :=
  ⟨fun p h => R p.1 p.2.1 p.2.2 h, hA, fun p h hr => hB p.1 p.2.1 p.2.2 h hr⟩
theorem JoinW3.direct {α1 α2 α3 : Type} {A : (α1 → α2 → α3 → Hp → Prop) → Prop} {B : α1 → α2 → α3 → Hp → Prop} (hA : A B) : JoinW3 A B := JoinW3.intro B hA (fun _ _ _ _ hr => hr)
def LoopW3 {α1 α2 α3 : Type} (body : (α1 → α2 → α3 → Hp → Prop) → α1 → α2 → α3 → Hp → Prop) (x1 : α1) (x2 : α2) (x3 : α3) (h : Hp) : Prop :=
  LoopT (σ := α1 × α2 × α3) (fun R p h => body (fun x1 x2 x3 h => R (x1, x2, x3) h) p.1 p.2.1 p.2.2 h) (x1, x2, x3) h
theorem LoopW3.intro {α1 α2 α3 : Type} {body : (α1 → α2 → α3 → Hp → Prop) → α1 → α2 → α3 → Hp → Prop} {x1 : α1} {x2 : α2} {x3 : α3} {h : Hp} (I : α1 → α2 → α3 → Hp → Prop) (μ : α1 → α2 → α3 → Hp → Nat)
    (h0 : I x1 x2 x3 h) (hr : ∀ x1 x2 x3 k, I x1 x2 x3 k → body (fun y1 y2 y3 k' => I y1 y2 y3 k' ∧ μ y1 y2 y3 k' < μ x1 x2 x3 k) x1 x2 x3 k) : LoopW3 body x1 x2 x3 h :=
  ⟨fun p h => I p.1 p.2.1 p.2.2 h, fun p h => μ p.1 p.2.1 p.2.2 h, h0, fun p k hk => hr p.1 p.2.1 p.2.2 k hk⟩

def JoinW4 {α1 α2 α3 α4 : Type} (A : (α1 → α2 → α3 → α4 → Hp → Prop) → Prop) (B : α1 → α2 → α3 → α4 → Hp → Prop) : Prop :=
  JoinT (σ := α1 × α2 × α3 × α4) (fun R => A (fun x1 x2 x3 x4 h => R (x1, x2, x3, x4) h)) (fun p h => B p.1 p.2.1 p.2.2.1 p.2.2.2 h)
theorem JoinW4.intro {α1 α2 α3 α4 : Type} {A : (α1 → α2 → α3 → α4 → Hp → Prop) → Prop} {B : α1 → α2 → α3 → α4 → Hp → Prop} (R : α1 → α2 → α3 → α4 → Hp → Prop) (hA : A R) (hB : ∀ x1 x2 x3 x4 h, R x1 x2 x3 x4 h → B x1 x2 x3 x4 h) : JoinW4 A B :=
  ⟨fun p h => R p.1 p.2.1 p.2.2.1 p.2.2.2 h, hA, fun p h hr => hB p.1 p.2.1 p.2.2.1 p.2.2.2 h hr⟩
theorem JoinW4.direct {α1 α2 α3 α4 : Type} {A : (α1 → α2 → α3 → α4 → Hp → Prop) → Prop} {B : α1 → α2 → α3 → α4 → Hp → Prop} (hA : A B) : JoinW4 A B := JoinW4.intro B hA (fun _ _ _ _ _ hr => hr)
def LoopW4 {α1 α2 α3 α4 : Type} (body : (α1 → α2 → α3 → α4 → Hp → Prop) → α1 → α2 → α3 → α4 → Hp → Prop) (x1 : α1) (x2 : α2) (x3 : α3) (x4 : α4) (h : Hp) : Prop :=
  LoopT (σ := α1 × α2 × α3 × α4) (fun R p h => body (fun x1 x2 x3 x4 h => R (x1, x2, x3, x4) h) p.1 p.2.1 p.2.2.1 p.2.2.2 h) (x1, x2, x3, x4) h
theorem LoopW4.intro {α1 α2 α3 α4 : Type} {body : (α1 → α2 → α3 → α4 → Hp → Prop) → α1 → α2 → α3 → α4 → Hp → Prop} {x1 : α1} {x2 : α2} {x3 : α3} {x4 : α4} {h : Hp} (I : α1 → α2 → α3 → α4 → Hp → Prop) (μ : α1 → α2 → α3 → α4 → Hp → Nat)
    (h0 : I x1 x2 x3 x4 h) (hr : ∀ x1 x2 x3 x4 k, I x1 x2 x3 x4 k → body (fun y1 y2 y3 y4 k' => I y1 y2 y3 y4 k' ∧ μ y1 y2 y3 y4 k' < μ x1 x2 x3 x4 k) x1 x2 x3 x4 k) : LoopW4 body x1 x2 x3 x4 h :=
  ⟨fun p h => I p.1 p.2.1 p.2.2.1 p.2.2.2 h, fun p h => μ p.1 p.2.1 p.2.2.1 p.2.2.2 h, h0, fun p k hk => hr p.1 p.2.1 p.2.2.1 p.2.2.2 k hk⟩

def JoinW5 {α1 α2 α3 α4 α5 : Type} (A : (α1 → α2 → α3 → α4 → α5 → Hp → Prop) → Prop) (B : α1 → α2 → α3 → α4 → α5 → Hp → Prop) : Prop :=
  JoinT (σ := α1 × α2 × α3 × α4 × α5) (fun R => A (fun x1 x2 x3 x4 x5 h => R (x1, x2, x3, x4, x5) h)) (fun p h => B p.1 p.2.1 p.2.2.1 p.2.2.2.1 p.2.2.2.2 h)
theorem JoinW5.intro {α1 α2 α3 α4 α5 : Type} {A : (α1 → α2 → α3 → α4 → α5 → Hp → Prop) → Prop} {B : α1 → α2 → α3 → α4 → α5 → Hp → Prop} (R : α1 → α2 → α3 → α4 → α5 → Hp → Prop) (hA : A R) (hB : ∀ x1 x2 x3 x4 x5 h, R x1 x2 x3 x4 x5 h → B x1 x2 x3 x4 x5 h) : JoinW5 A B :=
  ⟨fun p h => R p.1 p.2.1 p.2.2.1 p.2.2.2.1 p.2.2.2.2 h, hA, fun p h hr => hB p.1 p.2.1 p.2.2.1 p.2.2.2.1 p.2.2.2.2 h hr⟩
theorem JoinW5.direct {α1 α2 α3 α4 α5 : Type} {A : (α1 → α2 → α3 → α4 → α5 → Hp → Prop) → Prop} {B : α1 → α2 → α3 → α4 → α5 → Hp → Prop} (hA : A B) : JoinW5 A B := JoinW5.intro B hA (fun _ _ _ _ _ _ hr => hr)
def LoopW5 {α1 α2 α3 α4 α5 : Type} (body : (α1 → α2 → α3 → α4 → α5 → Hp → Prop) → α1 → α2 → α3 → α4 → α5 → Hp → Prop) (x1 : α1) (x2 : α2) (x3 : α3) (x4 : α4) (x5 : α5) (h : Hp) : Prop :=
  LoopT (σ := α1 × α2 × α3 × α4 × α5) (fun R p h => body (fun x1 x2 x3 x4 x5 h => R (x1, x2, x3, x4, x5) h) p.1 p.2.1 p.2.2.1 p.2.2.2.1 p.2.2.2.2 h) (x1, x2, x3, x4, x5) h
theorem LoopW5.intro {α1 α2 α3 α4 α5 : Type} {body : (α1 → α2 → α3 → α4 → α5 → Hp → Prop) → α1 → α2 → α3 → α4 → α5 → Hp → Prop} {x1 : α1} {x2 : α2} {x3 : α3} {x4 : α4} {x5 : α5} {h : Hp} (I : α1 → α2 → α3 → α4 → α5 → Hp → Prop) (μ : α1 → α2 → α3 → α4 → α5 → Hp → Nat)
    (h0 : I x1 x2 x3 x4 x5 h) (hr : ∀ x1 x2 x3 x4 x5 k, I x1 x2 x3 x4 x5 k → body (fun y1 y2 y3 y4 y5 k' => I y1 y2 y3 y4 y5 k' ∧ μ y1 y2 y3 y4 y5 k' < μ x1 x2 x3 x4 x5 k) x1 x2 x3 x4 x5 k) : LoopW5 body x1 x2 x3 x4 x5 h :=
  ⟨fun p h => I p.1 p.2.1 p.2.2.1 p.2.2.2.1 p.2.2.2.2 h, fun p h => μ p.1 p.2.1 p.2.2.1 p.2.2.2.1 p.2.2.2.2 h, h0, fun p k hk => hr p.1 p.2.1 p.2.2.1 p.2.2.2.1 p.2.2.2.2 k hk⟩

def JoinW6 {α1 α2 α3 α4 α5 α6 : Type} (A : (α1 → α2 → α3 → α4 → α5 → α6 → Hp → Prop) → Prop) (B : α1 → α2 → α3 → α4 → α5 → α6 → Hp → Prop) : Prop :=
  JoinT (σ := α1 × α2 × α3 × α4 × α5 × α6) (fun R => A (fun x1 x2 x3 x4 x5 x6 h => R (x1, x2, x3, x4, x5, x6) h)) (fun p h => B p.1 p.2.1 p.2.2.1 p.2.2.2.1 p.2.2.2.2.1 p.2.2.2.2.2 h)
theorem JoinW6.intro {α1 α2 α3 α4 α5 α6 : Type} {A : (α1 → α2 → α3 → α4 → α5 → α6 → Hp → Prop) → Prop} {B : α1 → α2 → α3 → α4 → α5 → α6 → Hp → Prop} (R : α1 → α2 → α3 → α4 → α5 → α6 → Hp → Prop) (hA : A R) (hB : ∀ x1 x2 x3 x4 x5 x6 h, R x1 x2 x3 x4 x5 x6 h → B x1 x2 x3 x4 x5 x6 h) : JoinW6 A B :=
  ⟨fun p h => R p.1 p.2.1 p.2.2.1 p.2.2.2.1 p.2.2.2.2.1 p.2.2.2.2.2 h, hA, fun p h hr => hB p.1 p.2.1 p.2.2.1 p.2.2.2.1 p.2.2.2.2.1 p.2.2.2.2.2 h hr⟩
theorem JoinW6.direct {α1 α2 α3 α4 α5 α6 : Type} {A : (α1 → α2 → α3 → α4 → α5 → α6 → Hp → Prop) → Prop} {B : α1 → α2 → α3 → α4 → α5 → α6 → Hp → Prop} (hA : A B) : JoinW6 A B := JoinW6.intro B hA (fun _ _ _ _ _ _ _ hr => hr)
def LoopW6 {α1 α2 α3 α4 α5 α6 : Type} (body : (α1 → α2 → α3 → α4 → α5 → α6 → Hp → Prop) → α1 → α2 → α3 → α4 → α5 → α6 → Hp → Prop) (x1 : α1) (x2 : α2) (x3 : α3) (x4 : α4) (x5 : α5) (x6 : α6) (h : Hp) : Prop :=
  LoopT (σ := α1 × α2 × α3 × α4 × α5 × α6) (fun R p h => body (fun x1 x2 x3 x4 x5 x6 h => R (x1, x2, x3, x4, x5, x6) h) p.1 p.2.1 p.2.2.1 p.2.2.2.1 p.2.2.2.2.1 p.2.2.2.2.2 h) (x1, x2, x3, x4, x5, x6) h
theorem LoopW6.intro {α1 α2 α3 α4 α5 α6 : Type} {body : (α1 → α2 → α3 → α4 → α5 → α6 → Hp → Prop) → α1 → α2 → α3 → α4 → α5 → α6 → Hp → Prop} {x1 : α1} {x2 : α2} {x3 : α3} {x4 : α4} {x5 : α5} {x6 : α6} {h : Hp} (I : α1 → α2 → α3 → α4 → α5 → α6 → Hp → Prop) (μ : α1 → α2 → α3 → α4 → α5 → α6 → Hp → Nat)
    (h0 : I x1 x2 x3 x4 x5 x6 h) (hr : ∀ x1 x2 x3 x4 x5 x6 k, I x1 x2 x3 x4 x5 x6 k → body (fun y1 y2 y3 y4 y5 y6 k' => I y1 y2 y3 y4 y5 y6 k' ∧ μ y1 y2 y3 y4 y5 y6 k' < μ x1 x2 x3 x4 x5 x6 k) x1 x2 x3 x4 x5 x6 k) : LoopW6 body x1 x2 x3 x4 x5 x6 h :=
  ⟨fun p h => I p.1 p.2.1 p.2.2.1 p.2.2.2.1 p.2.2.2.2.1 p.2.2.2.2.2 h, fun p h => μ p.1 p.2.1 p.2.2.1 p.2.2.2.1 p.2.2.2.2.1 p.2.2.2.2.2 h, h0, fun p k hk => hr p.1 p.2.1 p.2.2.1 p.2.2.2.1 p.2.2.2.2.1 p.2.2.2.2.2 k hk⟩

def JoinW7 {α1 α2 α3 α4 α5 α6 α7 : Type} (A : (α1 → α2 → α3 → α4 → α5 → α6 → α7 → Hp → Prop) → Prop) (B : α1 → α2 → α3 → α4 → α5 → α6 → α7 → Hp → Prop) : Prop :=
  JoinT (σ := α1 × α2 × α3 × α4 × α5 × α6 × α7) (fun R => A (fun x1 x2 x3 x4 x5 x6 x7 h => R (x1, x2, x3, x4, x5, x6, x7) h)) (fun p h => B p.1 p.2.1 p.2.2.1 p.2.2.2.1 p.2.2.2.2.1 p.2.2.2.2.2.1 p.2.2.2.2.2.2 h)
theorem JoinW7.intro {α1 α2 α3 α4 α5 α6 α7 : Type} {A : (α1 → α2 → α3 → α4 → α5 → α6 → α7 → Hp → Prop) → Prop} {B : α1 → α2 → α3 → α4 → α5 → α6 → α7 → Hp → Prop} (R : α1 → α2 → α3 → α4 → α5 → α6 → α7 → Hp → Prop) (hA : A R) (hB : ∀ x1 x2 x3 x4 x5 x6 x7 h, R x1 x2 x3 x4 x5 x6 x7 h → B x1 x2 x3 x4 x5 x6 x7 h) : JoinW7 A B :=
  ⟨fun p h => R p.1 p.2.1 p.2.2.1 p.2.2.2.1 p.2.2.2.2.1 p.2.2.2.2.2.1 p.2.2.2.2.2.2 h, hA, fun p h hr => hB p.1 p.2.1 p.2.2.1 p.2.2.2.1 p.2.2.2.2.1 p.2.2.2.2.2.1 p.2.2.2.2.2.2 h hr⟩
theorem JoinW7.direct {α1 α2 α3 α4 α5 α6 α7 : Type} {A : (α1 → α2 → α3 → α4 → α5 → α6 → α7 → Hp → Prop) → Prop} {B : α1 → α2 → α3 → α4 → α5 → α6 → α7 → Hp → Prop} (hA : A B) : JoinW7 A B := JoinW7.intro B hA (fun _ _ _ _ _ _ _ _ hr => hr)
def LoopW7 {α1 α2 α3 α4 α5 α6 α7 : Type} (body : (α1 → α2 → α3 → α4 → α5 → α6 → α7 → Hp → Prop) → α1 → α2 → α3 → α4 → α5 → α6 → α7 → Hp → Prop) (x1 : α1) (x2 : α2) (x3 : α3) (x4 : α4) (x5 : α5) (x6 : α6) (x7 : α7) (h : Hp) : Prop :=
  LoopT (σ := α1 × α2 × α3 × α4 × α5 × α6 × α7) (fun R p h => body (fun x1 x2 x3 x4 x5 x6 x7 h => R (x1, x2, x3, x4, x5, x6, x7) h) p.1 p.2.1 p.2.2.1 p.2.2.2.1 p.2.2.2.2.1 p.2.2.2.2.2.1 p.2.2.2.2.2.2 h) (x1, x2, x3, x4, x5, x6, x7) h
theorem LoopW7.intro {α1 α2 α3 α4 α5 α6 α7 : Type} {body : (α1 → α2 → α3 → α4 → α5 → α6 → α7 → Hp → Prop) → α1 → α2 → α3 → α4 → α5 → α6 → α7 → Hp → Prop} {x1 : α1} {x2 : α2} {x3 : α3} {x4 : α4} {x5 : α5} {x6 : α6} {x7 : α7} {h : Hp} (I : α1 → α2 → α3 → α4 → α5 → α6 → α7 → Hp → Prop) (μ : α1 → α2 → α3 → α4 → α5 → α6 → α7 → Hp → Nat)
    (h0 : I x1 x2 x3 x4 x5 x6 x7 h) (hr : ∀ x1 x2 x3 x4 x5 x6 x7 k, I x1 x2 x3 x4 x5 x6 x7 k → body (fun y1 y2 y3 y4 y5 y6 y7 k' => I y1 y2 y3 y4 y5 y6 y7 k' ∧ μ y1 y2 y3 y4 y5 y6 y7 k' < μ x1 x2 x3 x4 x5 x6 x7 k) x1 x2 x3 x4 x5 x6 x7 k) : LoopW7 body x1 x2 x3 x4 x5 x6 x7 h :=
  ⟨fun p h => I p.1 p.2.1 p.2.2.1 p.2.2.2.1 p.2.2.2.2.1 p.2.2.2.2.2.1 p.2.2.2.2.2.2 h, fun p h => μ p.1 p.2.1 p.2.2.1 p.2.2.2.1 p.2.2.2.2.1 p.2.2.2.2.2.1 p.2.2.2.2.2.2 h, h0, fun p k hk => hr p.1 p.2.1 p.2.2.1 p.2.2.2.1 p.2.2.2.2.1 p.2.2.2.2.2.1 p.2.2.2.2.2.2 k hk⟩

def JoinW8 {α1 α2 α3 α4 α5 α6 α7 α8 : Type} (A : (α1 → α2 → α3 → α4 → α5 → α6 → α7 → α8 → Hp → Prop) → Prop) (B : α1 → α2 → α3 → α4 → α5 → α6 → α7 → α8 → Hp → Prop) : Prop :=
  JoinT (σ := α1 × α2 × α3 × α4 × α5 × α6 × α7 × α8) (fun R => A (fun x1 x2 x3 x4 x5 x6 x7 x8 h => R (x1, x2, x3, x4, x5, x6, x7, x8) h)) (fun p h => B p.1 p.2.1 p.2.2.1 p.2.2.2.1 p.2.2.2.2.1 p.2.2.2.2.2.1 p.2.2.2.2.2.2.1 p.2.2.2.2.2.2.2 h)
theorem JoinW8.intro {α1 α2 α3 α4 α5 α6 α7 α8 : Type} {A : (α1 → α2 → α3 → α4 → α5 → α6 → α7 → α8 → Hp → Prop) → Prop} {B : α1 → α2 → α3 → α4 → α5 → α6 → α7 → α8 → Hp → Prop} (R : α1 → α2 → α3 → α4 → α5 → α6 → α7 → α8 → Hp → Prop) (hA : A R) (hB : ∀ x1 x2 x3 x4 x5 x6 x7 x8 h, R x1 x2 x3 x4 x5 x6 x7 x8 h → B x1 x2 x3 x4 x5 x6 x7 x8 h) : JoinW8 A B :=
  ⟨fun p h => R p.1 p.2.1 p.2.2.1 p.2.2.2.1 p.2.2.2.2.1 p.2.2.2.2.2.1 p.2.2.2.2.2.2.1 p.2.2.2.2.2.2.2 h, hA, fun p h hr => hB p.1 p.2.1 p.2.2.1 p.2.2.2.1 p.2.2.2.2.1 p.2.2.2.2.2.1 p.2.2.2.2.2.2.1 p.2.2.2.2.2.2.2 h hr⟩
theorem JoinW8.direct {α1 α2 α3 α4 α5 α6 α7 α8 : Type} {A : (α1 → α2 → α3 → α4 → α5 → α6 → α7 → α8 → Hp → Prop) → Prop} {B : α1 → α2 → α3 → α4 → α5 → α6 → α7 → α8 → Hp → Prop} (hA : A B) : JoinW8 A B := JoinW8.intro B hA (fun _ _ _ _ _ _ _ _ _ hr => hr)
def LoopW8 {α1 α2 α3 α4 α5 α6 α7 α8 : Type} (body : (α1 → α2 → α3 → α4 → α5 → α6 → α7 → α8 → Hp → Prop) → α1 → α2 → α3 → α4 → α5 → α6 → α7 → α8 → Hp → Prop) (x1 : α1) (x2 : α2) (x3 : α3) (x4 : α4) (x5 : α5) (x6 : α6) (x7 : α7) (x8 : α8) (h : Hp) : Prop :=
  LoopT (σ := α1 × α2 × α3 × α4 × α5 × α6 × α7 × α8) (fun R p h => body (fun x1 x2 x3 x4 x5 x6 x7 x8 h => R (x1, x2, x3, x4, x5, x6, x7, x8) h) p.1 p.2.1 p.2.2.1 p.2.2.2.1 p.2.2.2.2.1 p.2.2.2.2.2.1 p.2.2.2.2.2.2.1 p.2.2.2.2.2.2.2 h) (x1, x2, x3, x4, x5, x6, x7, x8) h
theorem LoopW8.intro {α1 α2 α3 α4 α5 α6 α7 α8 : Type} {body : (α1 → α2 → α3 → α4 → α5 → α6 → α7 → α8 → Hp → Prop) → α1 → α2 → α3 → α4 → α5 → α6 → α7 → α8 → Hp → Prop} {x1 : α1} {x2 : α2} {x3 : α3} {x4 : α4} {x5 : α5} {x6 : α6} {x7 : α7} {x8 : α8} {h : Hp} (I : α1 → α2 → α3 → α4 → α5 → α6 → α7 → α8 → Hp → Prop) (μ : α1 → α2 → α3 → α4 → α5 → α6 → α7 → α8 → Hp → Nat)
    (h0 : I x1 x2 x3 x4 x5 x6 x7 x8 h) (hr : ∀ x1 x2 x3 x4 x5 x6 x7 x8 k, I x1 x2 x3 x4 x5 x6 x7 x8 k → body (fun y1 y2 y3 y4 y5 y6 y7 y8 k' => I y1 y2 y3 y4 y5 y6 y7 y8 k' ∧ μ y1 y2 y3 y4 y5 y6 y7 y8 k' < μ x1 x2 x3 x4 x5 x6 x7 x8 k) x1 x2 x3 x4 x5 x6 x7 x8 k) : LoopW8 body x1 x2 x3 x4 x5 x6 x7 x8 h :=
  ⟨fun p h => I p.1 p.2.1 p.2.2.1 p.2.2.2.1 p.2.2.2.2.1 p.2.2.2.2.2.1 p.2.2.2.2.2.2.1 p.2.2.2.2.2.2.2 h, fun p h => μ p.1 p.2.1 p.2.2.1 p.2.2.2.1 p.2.2.2.2.1 p.2.2.2.2.2.1 p.2.2.2.2.2.2.1 p.2.2.2.2.2.2.2 h, h0, fun p k hk => hr p.1 p.2.1 p.2.2.1 p.2.2.2.1 p.2.2.2.2.1 p.2.2.2.2.2.1 p.2.2.2.2.2.2.1 p.2.2.2.2.2.2.2 k hk⟩

def JoinW9 {α1 α2 α3 α4 α5 α6 α7 α8 α9 : Type} (A : (α1 → α2 → α3 → α4 → α5 → α6 → α7 → α8 → α9 → Hp → Prop) → Prop) (B : α1 → α2 → α3 → α4 → α5 → α6 → α7 → α8 → α9 → Hp → Prop) : Prop :=
  JoinT (σ := α1 × α2 × α3 × α4 × α5 × α6 × α7 × α8 × α9) (fun R => A (fun x1 x2 x3 x4 x5 x6 x7 x8 x9 h => R (x1, x2, x3, x4, x5, x6, x7, x8, x9) h)) (fun p h => B p.1 p.2.1 p.2.2.1 p.2.2.2.1 p.2.2.2.2.1 p.2.2.2.2.2.1 p.2.2.2.2.2.2.1 p.2.2.2.2.2.2.2.1 p.2.2.2.2.2.2.2.2 h)
theorem JoinW9.intro {α1 α2 α3 α4 α5 α6 α7 α8 α9 : Type} {A : (α1 → α2 → α3 → α4 → α5 → α6 → α7 → α8 → α9 → Hp → Prop) → Prop} {B : α1 → α2 → α3 → α4 → α5 → α6 → α7 → α8 → α9 → Hp → Prop} (R : α1 → α2 → α3 → α4 → α5 → α6 → α7 → α8 → α9 → Hp → Prop) (hA : A R) (hB : ∀ x1 x2 x3 x4 x5 x6 x7 x8 x9 h, R x1 x2 x3 x4 x5 x6 x7 x8 x9 h → B x1 x2 x3 x4 x5 x6 x7 x8 x9 h) : JoinW9 A B :=
  ⟨fun p h => R p.1 p.2.1 p.2.2.1 p.2.2.2.1 p.2.2.2.2.1 p.2.2.2.2.2.1 p.2.2.2.2.2.2.1 p.2.2.2.2.2.2.2.1 p.2.2.2.2.2.2.2.2 h, hA, fun p h hr => hB p.1 p.2.1 p.2.2.1 p.2.2.2.1 p.2.2.2.2.1 p.2.2.2.2.2.1 p.2.2.2.2.2.2.1 p.2.2.2.2.2.2.2.1 p.2.2.2.2.2.2.2.2 h hr⟩
theorem JoinW9.direct {α1 α2 α3 α4 α5 α6 α7 α8 α9 : Type} {A : (α1 → α2 → α3 → α4 → α5 → α6 → α7 → α8 → α9 → Hp → Prop) → Prop} {B : α1 → α2 → α3 → α4 → α5 → α6 → α7 → α8 → α9 → Hp → Prop} (hA : A B) : JoinW9 A B := JoinW9.intro B hA (fun _ _ _ _ _ _ _ _ _ _ hr => hr)
def LoopW9 {α1 α2 α3 α4 α5 α6 α7 α8 α9 : Type} (body : (α1 → α2 → α3 → α4 → α5 → α6 → α7 → α8 → α9 → Hp → Prop) → α1 → α2 → α3 → α4 → α5 → α6 → α7 → α8 → α9 → Hp → Prop) (x1 : α1) (x2 : α2) (x3 : α3) (x4 : α4) (x5 : α5) (x6 : α6) (x7 : α7) (x8 : α8) (x9 : α9) (h : Hp) : Prop :=
  LoopT (σ := α1 × α2 × α3 × α4 × α5 × α6 × α7 × α8 × α9) (fun R p h => body (fun x1 x2 x3 x4 x5 x6 x7 x8 x9 h => R (x1, x2, x3, x4, x5, x6, x7, x8, x9) h) p.1 p.2.1 p.2.2.1 p.2.2.2.1 p.2.2.2.2.1 p.2.2.2.2.2.1 p.2.2.2.2.2.2.1 p.2.2.2.2.2.2.2.1 p.2.2.2.2.2.2.2.2 h) (x1, x2, x3, x4, x5, x6, x7, x8, x9) h
theorem LoopW9.intro {α1 α2 α3 α4 α5 α6 α7 α8 α9 : Type} {body : (α1 → α2 → α3 → α4 → α5 → α6 → α7 → α8 → α9 → Hp → Prop) → α1 → α2 → α3 → α4 → α5 → α6 → α7 → α8 → α9 → Hp → Prop} {x1 : α1} {x2 : α2} {x3 : α3} {x4 : α4} {x5 : α5} {x6 : α6} {x7 : α7} {x8 : α8} {x9 : α9} {h : Hp} (I : α1 → α2 → α3 → α4 → α5 → α6 → α7 → α8 → α9 → Hp → Prop) (μ : α1 → α2 → α3 → α4 → α5 → α6 → α7 → α8 → α9 → Hp → Nat)
    (h0 : I x1 x2 x3 x4 x5 x6 x7 x8 x9 h) (hr : ∀ x1 x2 x3 x4 x5 x6 x7 x8 x9 k, I x1 x2 x3 x4 x5 x6 x7 x8 x9 k → body (fun y1 y2 y3 y4 y5 y6 y7 y8 y9 k' => I y1 y2 y3 y4 y5 y6 y7 y8 y9 k' ∧ μ y1 y2 y3 y4 y5 y6 y7 y8 y9 k' < μ x1 x2 x3 x4 x5 x6 x7 x8 x9 k) x1 x2 x3 x4 x5 x6 x7 x8 x9 k) : LoopW9 body x1 x2 x3 x4 x5 x6 x7 x8 x9 h :=
  ⟨fun p h => I p.1 p.2.1 p.2.2.1 p.2.2.2.1 p.2.2.2.2.1 p.2.2.2.2.2.1 p.2.2.2.2.2.2.1 p.2.2.2.2.2.2.2.1 p.2.2.2.2.2.2.2.2 h, fun p h => μ p.1 p.2.1 p.2.2.1 p.2.2.2.1 p.2.2.2.2.1 p.2.2.2.2.2.1 p.2.2.2.2.2.2.1 p.2.2.2.2.2.2.2.1 p.2.2.2.2.2.2.2.2 h, h0, fun p k hk => hr p.1 p.2.1 p.2.2.1 p.2.2.2.1 p.2.2.2.2.1 p.2.2.2.2.2.1 p.2.2.2.2.2.2.1 p.2.2.2.2.2.2.2.1 p.2.2.2.2.2.2.2.2 k hk⟩

def JoinW10 {α1 α2 α3 α4 α5 α6 α7 α8 α9 α10 : Type} (A : (α1 → α2 → α3 → α4 → α5 → α6 → α7 → α8 → α9 → α10 → Hp → Prop) → Prop) (B : α1 → α2 → α3 → α4 → α5 → α6 → α7 → α8 → α9 → α10 → Hp → Prop) : Prop :=
  JoinT (σ := α1 × α2 × α3 × α4 × α5 × α6 × α7 × α8 × α9 × α10) (fun R => A (fun x1 x2 x3 x4 x5 x6 x7 x8 x9 x10 h => R (x1, x2, x3, x4, x5, x6, x7, x8, x9, x10) h)) (fun p h => B p.1 p.2.1 p.2.2.1 p.2.2.2.1 p.2.2.2.2.1 p.2.2.2.2.2.1 p.2.2.2.2.2.2.1 p.2.2.2.2.2.2.2.1 p.2.2.2.2.2.2.2.2.1 p.2.2.2.2.2.2.2.2.2 h)
theorem JoinW10.intro {α1 α2 α3 α4 α5 α6 α7 α8 α9 α10 : Type} {A : (α1 → α2 → α3 → α4 → α5 → α6 → α7 → α8 → α9 → α10 → Hp → Prop) → Prop} {B : α1 → α2 → α3 → α4 → α5 → α6 → α7 → α8 → α9 → α10 → Hp → Prop} (R : α1 → α2 → α3 → α4 → α5 → α6 → α7 → α8 → α9 → α10 → Hp → Prop) (hA : A R) (hB : ∀ x1 x2 x3 x4 x5 x6 x7 x8 x9 x10 h, R x1 x2 x3 x4 x5 x6 x7 x8 x9 x10 h → B x1 x2 x3 x4 x5 x6 x7 x8 x9 x10 h) : JoinW10 A B :=
  ⟨fun p h => R p.1 p.2.1 p.2.2.1 p.2.2.2.1 p.2.2.2.2.1 p.2.2.2.2.2.1 p.2.2.2.2.2.2.1 p.2.2.2.2.2.2.2.1 p.2.2.2.2.2.2.2.2.1 p.2.2.2.2.2.2.2.2.2 h, hA, fun p h hr => hB p.1 p.2.1 p.2.2.1 p.2.2.2.1 p.2.2.2.2.1 p.2.2.2.2.2.1 p.2.2.2.2.2.2.1 p.2.2.2.2.2.2.2.1 p.2.2.2.2.2.2.2.2.1 p.2.2.2.2.2.2.2.2.2 h hr⟩
theorem JoinW10.direct {α1 α2 α3 α4 α5 α6 α7 α8 α9 α10 : Type} {A : (α1 → α2 → α3 → α4 → α5 → α6 → α7 → α8 → α9 → α10 → Hp → Prop) → Prop} {B : α1 → α2 → α3 → α4 → α5 → α6 → α7 → α8 → α9 → α10 → Hp → Prop} (hA : A B) : JoinW10 A B := JoinW10.intro B hA (fun _ _ _ _ _ _ _ _ _ _ _ hr => hr)
def LoopW10 {α1 α2 α3 α4 α5 α6 α7 α8 α9 α10 : Type} (body : (α1 → α2 → α3 → α4 → α5 → α6 → α7 → α8 → α9 → α10 → Hp → Prop) → α1 → α2 → α3 → α4 → α5 → α6 → α7 → α8 → α9 → α10 → Hp → Prop) (x1 : α1) (x2 : α2) (x3 : α3) (x4 : α4) (x5 : α5) (x6 : α6) (x7 : α7) (x8 : α8) (x9 : α9) (x10 : α10) (h : Hp) : Prop :=
  LoopT (σ := α1 × α2 × α3 × α4 × α5 × α6 × α7 × α8 × α9 × α10) (fun R p h => body (fun x1 x2 x3 x4 x5 x6 x7 x8 x9 x10 h => R (x1, x2, x3, x4, x5, x6, x7, x8, x9, x10) h) p.1 p.2.1 p.2.2.1 p.2.2.2.1 p.2.2.2.2.1 p.2.2.2.2.2.1 p.2.2.2.2.2.2.1 p.2.2.2.2.2.2.2.1 p.2.2.2.2.2.2.2.2.1 p.2.2.2.2.2.2.2.2.2 h) (x1, x2, x3, x4, x5, x6, x7, x8, x9, x10) h
theorem LoopW10.intro {α1 α2 α3 α4 α5 α6 α7 α8 α9 α10 : Type} {body : (α1 → α2 → α3 → α4 → α5 → α6 → α7 → α8 → α9 → α10 → Hp → Prop) → α1 → α2 → α3 → α4 → α5 → α6 → α7 → α8 → α9 → α10 → Hp → Prop} {x1 : α1} {x2 : α2} {x3 : α3} {x4 : α4} {x5 : α5} {x6 : α6} {x7 : α7} {x8 : α8} {x9 : α9} {x10 : α10} {h : Hp} (I : α1 → α2 → α3 → α4 → α5 → α6 → α7 → α8 → α9 → α10 → Hp → Prop) (μ : α1 → α2 → α3 → α4 → α5 → α6 → α7 → α8 → α9 → α10 → Hp → Nat)
    (h0 : I x1 x2 x3 x4 x5 x6 x7 x8 x9 x10 h) (hr : ∀ x1 x2 x3 x4 x5 x6 x7 x8 x9 x10 k, I x1 x2 x3 x4 x5 x6 x7 x8 x9 x10 k → body (fun y1 y2 y3 y4 y5 y6 y7 y8 y9 y10 k' => I y1 y2 y3 y4 y5 y6 y7 y8 y9 y10 k' ∧ μ y1 y2 y3 y4 y5 y6 y7 y8 y9 y10 k' < μ x1 x2 x3 x4 x5 x6 x7 x8 x9 x10 k) x1 x2 x3 x4 x5 x6 x7 x8 x9 x10 k) : LoopW10 body x1 x2 x3 x4 x5 x6 x7 x8 x9 x10 h :=
  ⟨fun p h => I p.1 p.2.1 p.2.2.1 p.2.2.2.1 p.2.2.2.2.1 p.2.2.2.2.2.1 p.2.2.2.2.2.2.1 p.2.2.2.2.2.2.2.1 p.2.2.2.2.2.2.2.2.1 p.2.2.2.2.2.2.2.2.2 h, fun p h => μ p.1 p.2.1 p.2.2.1 p.2.2.2.1 p.2.2.2.2.1 p.2.2.2.2.2.1 p.2.2.2.2.2.2.1 p.2.2.2.2.2.2.2.1 p.2.2.2.2.2.2.2.2.1 p.2.2.2.2.2.2.2.2.2 h, h0, fun p k hk => hr p.1 p.2.1 p.2.2.1 p.2.2.2.1 p.2.2.2.2.1 p.2.2.2.2.2.1 p.2.2.2.2.2.2.1 p.2.2.2.2.2.2.2.1 p.2.2.2.2.2.2.2.2.1 p.2.2.2.2.2.2.2.2.2 k hk⟩

def JoinW11 {α1 α2 α3 α4 α5 α6 α7 α8 α9 α10 α11 : Type} (A : (α1 → α2 → α3 → α4 → α5 → α6 → α7 → α8 → α9 → α10 → α11 → Hp → Prop) → Prop) (B : α1 → α2 → α3 → α4 → α5 → α6 → α7 → α8 → α9 → α10 → α11 → Hp → Prop) : Prop :=
  JoinT (σ := α1 × α2 × α3 × α4 × α5 × α6 × α7 × α8 × α9 × α10 × α11) (fun R => A (fun x1 x2 x3 x4 x5 x6 x7 x8 x9 x10 x11 h => R (x1, x2, x3, x4, x5, x6, x7, x8, x9, x10, x11) h)) (fun p h => B p.1 p.2.1 p.2.2.1 p.2.2.2.1 p.2.2.2.2.1 p.2.2.2.2.2.1 p.2.2.2.2.2.2.1 p.2.2.2.2.2.2.2.1 p.2.2.2.2.2.2.2.2.1 p.2.2.2.2.2.2.2.2.2.1 p.2.2.2.2.2.2.2.2.2.2 h)
theorem JoinW11.intro {α1 α2 α3 α4 α5 α6 α7 α8 α9 α10 α11 : Type} {A : (α1 → α2 → α3 → α4 → α5 → α6 → α7 → α8 → α9 → α10 → α11 → Hp → Prop) → Prop} {B : α1 → α2 → α3 → α4 → α5 → α6 → α7 → α8 → α9 → α10 → α11 → Hp → Prop} (R : α1 → α2 → α3 → α4 → α5 → α6 → α7 → α8 → α9 → α10 → α11 → Hp → Prop) (hA : A R) (hB : ∀ x1 x2 x3 x4 x5 x6 x7 x8 x9 x10 x11 h, R x1 x2 x3 x4 x5 x6 x7 x8 x9 x10 x11 h → B x1 x2 x3 x4 x5 x6 x7 x8 x9 x10 x11 h) : JoinW11 A B :=
  ⟨fun p h => R p.1 p.2.1 p.2.2.1 p.2.2.2.1 p.2.2.2.2.1 p.2.2.2.2.2.1 p.2.2.2.2.2.2.1 p.2.2.2.2.2.2.2.1 p.2.2.2.2.2.2.2.2.1 p.2.2.2.2.2.2.2.2.2.1 p.2.2.2.2.2.2.2.2.2.2 h, hA, fun p h hr => hB p.1 p.2.1 p.2.2.1 p.2.2.2.1 p.2.2.2.2.1 p.2.2.2.2.2.1 p.2.2.2.2.2.2.1 p.2.2.2.2.2.2.2.1 p.2.2.2.2.2.2.2.2.1 p.2.2.2.2.2.2.2.2.2.1 p.2.2.2.2.2.2.2.2.2.2 h hr⟩
theorem JoinW11.direct {α1 α2 α3 α4 α5 α6 α7 α8 α9 α10 α11 : Type} {A : (α1 → α2 → α3 → α4 → α5 → α6 → α7 → α8 → α9 → α10 → α11 → Hp → Prop) → Prop} {B : α1 → α2 → α3 → α4 → α5 → α6 → α7 → α8 → α9 → α10 → α11 → Hp → Prop} (hA : A B) : JoinW11 A B := JoinW11.intro B hA (fun _ _ _ _ _ _ _ _ _ _ _ _ hr => hr)
def LoopW11 {α1 α2 α3 α4 α5 α6 α7 α8 α9 α10 α11 : Type} (body : (α1 → α2 → α3 → α4 → α5 → α6 → α7 → α8 → α9 → α10 → α11 → Hp → Prop) → α1 → α2 → α3 → α4 → α5 → α6 → α7 → α8 → α9 → α10 → α11 → Hp → Prop) (x1 : α1) (x2 : α2) (x3 : α3) (x4 : α4) (x5 : α5) (x6 : α6) (x7 : α7) (x8 : α8) (x9 : α9) (x10 : α10) (x11 : α11) (h : Hp) : Prop :=
  LoopT (σ := α1 × α2 × α3 × α4 × α5 × α6 × α7 × α8 × α9 × α10 × α11) (fun R p h => body (fun x1 x2 x3 x4 x5 x6 x7 x8 x9 x10 x11 h => R (x1, x2, x3, x4, x5, x6, x7, x8, x9, x10, x11) h) p.1 p.2.1 p.2.2.1 p.2.2.2.1 p.2.2.2.2.1 p.2.2.2.2.2.1 p.2.2.2.2.2.2.1 p.2.2.2.2.2.2.2.1 p.2.2.2.2.2.2.2.2.1 p.2.2.2.2.2.2.2.2.2.1 p.2.2.2.2.2.2.2.2.2.2 h) (x1, x2, x3, x4, x5, x6, x7, x8, x9, x10, x11) h
theorem LoopW11.intro {α1 α2 α3 α4 α5 α6 α7 α8 α9 α10 α11 : Type} {body : (α1 → α2 → α3 → α4 → α5 → α6 → α7 → α8 → α9 → α10 → α11 → Hp → Prop) → α1 → α2 → α3 → α4 → α5 → α6 → α7 → α8 → α9 → α10 → α11 → Hp → Prop} {x1 : α1} {x2 : α2} {x3 : α3} {x4 : α4} {x5 : α5} {x6 : α6} {x7 : α7} {x8 : α8} {x9 : α9} {x10 : α10} {x11 : α11} {h : Hp} (I : α1 → α2 → α3 → α4 → α5 → α6 → α7 → α8 → α9 → α10 → α11 → Hp → Prop) (μ : α1 → α2 → α3 → α4 → α5 → α6 → α7 → α8 → α9 → α10 → α11 → Hp → Nat)
    (h0 : I x1 x2 x3 x4 x5 x6 x7 x8 x9 x10 x11 h) (hr : ∀ x1 x2 x3 x4 x5 x6 x7 x8 x9 x10 x11 k, I x1 x2 x3 x4 x5 x6 x7 x8 x9 x10 x11 k → body (fun y1 y2 y3 y4 y5 y6 y7 y8 y9 y10 y11 k' => I y1 y2 y3 y4 y5 y6 y7 y8 y9 y10 y11 k' ∧ μ y1 y2 y3 y4 y5 y6 y7 y8 y9 y10 y11 k' < μ x1 x2 x3 x4 x5 x6 x7 x8 x9 x10 x11 k) x1 x2 x3 x4 x5 x6 x7 x8 x9 x10 x11 k) : LoopW11 body x1 x2 x3 x4 x5 x6 x7 x8 x9 x10 x11 h :=
  ⟨fun p h => I p.1 p.2.1 p.2.2.1 p.2.2.2.1 p.2.2.2.2.1 p.2.2.2.2.2.1 p.2.2.2.2.2.2.1 p.2.2.2.2.2.2.2.1 p.2.2.2.2.2.2.2.2.1 p.2.2.2.2.2.2.2.2.2.1 p.2.2.2.2.2.2.2.2.2.2 h, fun p h => μ p.1 p.2.1 p.2.2.1 p.2.2.2.1 p.2.2.2.2.1 p.2.2.2.2.2.1 p.2.2.2.2.2.2.1 p.2.2.2.2.2.2.2.1 p.2.2.2.2.2.2.2.2.1 p.2.2.2.2.2.2.2.2.2.1 p.2.2.2.2.2.2.2.2.2.2 h, h0, fun p k hk => hr p.1 p.2.1 p.2.2.1 p.2.2.2.1 p.2.2.2.2.1 p.2.2.2.2.2.1 p.2.2.2.2.2.2.1 p.2.2.2.2.2.2.2.1 p.2.2.2.2.2.2.2.2.1 p.2.2.2.2.2.2.2.2.2.1 p.2.2.2.2.2.2.2.2.2.2 k hk⟩

def JoinW12 {α1 α2 α3 α4 α5 α6 α7 α8 α9 α10 α11 α12 : Type} (A : (α1 → α2 → α3 → α4 → α5 → α6 → α7 → α8 → α9 → α10 → α11 → α12 → Hp → Prop) → Prop) (B : α1 → α2 → α3 → α4 → α5 → α6 → α7 → α8 → α9 → α10 → α11 → α12 → Hp → Prop) : Prop :=
  JoinT (σ := α1 × α2 × α3 × α4 × α5 × α6 × α7 × α8 × α9 × α10 × α11 × α12) (fun R => A (fun x1 x2 x3 x4 x5 x6 x7 x8 x9 x10 x11 x12 h => R (x1, x2, x3, x4, x5, x6, x7, x8, x9, x10, x11, x12) h)) (fun p h => B p.1 p.2.1 p.2.2.1 p.2.2.2.1 p.2.2.2.2.1 p.2.2.2.2.2.1 p.2.2.2.2.2.2.1 p.2.2.2.2.2.2.2.1 p.2.2.2.2.2.2.2.2.1 p.2.2.2.2.2.2.2.2.2.1 p.2.2.2.2.2.2.2.2.2.2.1 p.2.2.2.2.2.2.2.2.2.2.2 h)
theorem JoinW12.intro {α1 α2 α3 α4 α5 α6 α7 α8 α9 α10 α11 α12 : Type} {A : (α1 → α2 → α3 → α4 → α5 → α6 → α7 → α8 → α9 → α10 → α11 → α12 → Hp → Prop) → Prop} {B : α1 → α2 → α3 → α4 → α5 → α6 → α7 → α8 → α9 → α10 → α11 → α12 → Hp → Prop} (R : α1 → α2 → α3 → α4 → α5 → α6 → α7 → α8 → α9 → α10 → α11 → α12 → Hp → Prop) (hA : A R) (hB : ∀ x1 x2 x3 x4 x5 x6 x7 x8 x9 x10 x11 x12 h, R x1 x2 x3 x4 x5 x6 x7 x8 x9 x10 x11 x12 h → B x1 x2 x3 x4 x5 x6 x7 x8 x9 x10 x11 x12 h) : JoinW12 A B :=
  ⟨fun p h => R p.1 p.2.1 p.2.2.1 p.2.2.2.1 p.2.2.2.2.1 p.2.2.2.2.2.1 p.2.2.2.2.2.2.1 p.2.2.2.2.2.2.2.1 p.2.2.2.2.2.2.2.2.1 p.2.2.2.2.2.2.2.2.2.1 p.2.2.2.2.2.2.2.2.2.2.1 p.2.2.2.2.2.2.2.2.2.2.2 h, hA, fun p h hr => hB p.1 p.2.1 p.2.2.1 p.2.2.2.1 p.2.2.2.2.1 p.2.2.2.2.2.1 p.2.2.2.2.2.2.1 p.2.2.2.2.2.2.2.1 p.2.2.2.2.2.2.2.2.1 p.2.2.2.2.2.2.2.2.2.1 p.2.2.2.2.2.2.2.2.2.2.1 p.2.2.2.2.2.2.2.2.2.2.2 h hr⟩
theorem JoinW12.direct {α1 α2 α3 α4 α5 α6 α7 α8 α9 α10 α11 α12 : Type} {A : (α1 → α2 → α3 → α4 → α5 → α6 → α7 → α8 → α9 → α10 → α11 → α12 → Hp → Prop) → Prop} {B : α1 → α2 → α3 → α4 → α5 → α6 → α7 → α8 → α9 → α10 → α11 → α12 → Hp → Prop} (hA : A B) : JoinW12 A B := JoinW12.intro B hA (fun _ _ _ _ _ _ _ _ _ _ _ _ _ hr => hr)
def LoopW12 {α1 α2 α3 α4 α5 α6 α7 α8 α9 α10 α11 α12 : Type} (body : (α1 → α2 → α3 → α4 → α5 → α6 → α7 → α8 → α9 → α10 → α11 → α12 → Hp → Prop) → α1 → α2 → α3 → α4 → α5 → α6 → α7 → α8 → α9 → α10 → α11 → α12 → Hp → Prop) (x1 : α1) (x2 : α2) (x3 : α3) (x4 : α4) (x5 : α5) (x6 : α6) (x7 : α7) (x8 : α8) (x9 : α9) (x10 : α10) (x11 : α11) (x12 : α12) (h : Hp) : Prop :=
  LoopT (σ := α1 × α2 × α3 × α4 × α5 × α6 × α7 × α8 × α9 × α10 × α11 × α12) (fun R p h => body (fun x1 x2 x3 x4 x5 x6 x7 x8 x9 x10 x11 x12 h => R (x1, x2, x3, x4, x5, x6, x7, x8, x9, x10, x11, x12) h) p.1 p.2.1 p.2.2.1 p.2.2.2.1 p.2.2.2.2.1 p.2.2.2.2.2.1 p.2.2.2.2.2.2.1 p.2.2.2.2.2.2.2.1 p.2.2.2.2.2.2.2.2.1 p.2.2.2.2.2.2.2.2.2.1 p.2.2.2.2.2.2.2.2.2.2.1 p.2.2.2.2.2.2.2.2.2.2.2 h) (x1, x2, x3, x4, x5, x6, x7, x8, x9, x10, x11, x12) h
theorem LoopW12.intro {α1 α2 α3 α4 α5 α6 α7 α8 α9 α10 α11 α12 : Type} {body : (α1 → α2 → α3 → α4 → α5 → α6 → α7 → α8 → α9 → α10 → α11 → α12 → Hp → Prop) → α1 → α2 → α3 → α4 → α5 → α6 → α7 → α8 → α9 → α10 → α11 → α12 → Hp → Prop} {x1 : α1} {x2 : α2} {x3 : α3} {x4 : α4} {x5 : α5} {x6 : α6} {x7 : α7} {x8 : α8} {x9 : α9} {x10 : α10} {x11 : α11} {x12 : α12} {h : Hp} (I : α1 → α2 → α3 → α4 → α5 → α6 → α7 → α8 → α9 → α10 → α11 → α12 → Hp → Prop) (μ : α1 → α2 → α3 → α4 → α5 → α6 → α7 → α8 → α9 → α10 → α11 → α12 → Hp → Nat)
    (h0 : I x1 x2 x3 x4 x5 x6 x7 x8 x9 x10 x11 x12 h) (hr : ∀ x1 x2 x3 x4 x5 x6 x7 x8 x9 x10 x11 x12 k, I x1 x2 x3 x4 x5 x6 x7 x8 x9 x10 x11 x12 k → body (fun y1 y2 y3 y4 y5 y6 y7 y8 y9 y10 y11 y12 k' => I y1 y2 y3 y4 y5 y6 y7 y8 y9 y10 y11 y12 k' ∧ μ y1 y2 y3 y4 y5 y6 y7 y8 y9 y10 y11 y12 k' < μ x1 x2 x3 x4 x5 x6 x7 x8 x9 x10 x11 x12 k) x1 x2 x3 x4 x5 x6 x7 x8 x9 x10 x11 x12 k) : LoopW12 body x1 x2 x3 x4 x5 x6 x7 x8 x9 x10 x11 x12 h :=
  ⟨fun p h => I p.1 p.2.1 p.2.2.1 p.2.2.2.1 p.2.2.2.2.1 p.2.2.2.2.2.1 p.2.2.2.2.2.2.1 p.2.2.2.2.2.2.2.1 p.2.2.2.2.2.2.2.2.1 p.2.2.2.2.2.2.2.2.2.1 p.2.2.2.2.2.2.2.2.2.2.1 p.2.2.2.2.2.2.2.2.2.2.2 h, fun p h => μ p.1 p.2.1 p.2.2.1 p.2.2.2.1 p.2.2.2.2.1 p.2.2.2.2.2.1 p.2.2.2.2.2.2.1 p.2.2.2.2.2.2.2.1 p.2.2.2.2.2.2.2.2.1 p.2.2.2.2.2.2.2.2.2.1 p.2.2.2.2.2.2.2.2.2.2.1 p.2.2.2.2.2.2.2.2.2.2.2 h, h0, fun p k hk => hr p.1 p.2.1 p.2.2.1 p.2.2.2.1 p.2.2.2.2.1 p.2.2.2.2.2.1 p.2.2.2.2.2.2.1 p.2.2.2.2.2.2.2.1 p.2.2.2.2.2.2.2.2.1 p.2.2.2.2.2.2.2.2.2.1 p.2.2.2.2.2.2.2.2.2.2.1 p.2.2.2.2.2.2.2.2.2.2.2 k hk⟩

def Call2 (P : Program) (g : FuncId) (args : List Value) (s1 s2 : Shape) (K : s1.T → s2.T → Hp → Prop) (h : Hp) : Prop :=
  CallT P g args (shTup2 s1 s2) (fun p h' => K p.1 p.2 h') h
def SemV2 (c : Option Bool) (P : Program) (s : Sem Value) (s1 s2 : Shape) (h : Hp) (K : s1.T → s2.T → Prop) : Prop :=
  SemV c P s (shTup2 s1 s2) h (fun p => K p.1 p.2)
def SemE2 (P : Program) (s : Sem Value) (s1 s2 : Shape) (K : s1.T → s2.T → Hp → Prop) (h : Hp) : Prop :=
  SemE P s (shTup2 s1 s2) (fun p h' => K p.1 p.2 h') h
def CallV2 (P : Program) (tb : Tb) (f : Value) (args : List Value) (s1 s2 : Shape) (K : s1.T → s2.T → Hp → Prop) (h : Hp) : Prop :=
  CallV P tb f args (shTup2 s1 s2) (fun p h' => K p.1 p.2 h') h

def Call3 (P : Program) (g : FuncId) (args : List Value) (s1 s2 s3 : Shape) (K : s1.T → s2.T → s3.T → Hp → Prop) (h : Hp) : Prop :=
  CallT P g args (shTup3 s1 s2 s3) (fun p h' => K p.1 p.2.1 p.2.2 h') h
def SemV3 (c : Option Bool) (P : Program) (s : Sem Value) (s1 s2 s3 : Shape) (h : Hp) (K : s1.T → s2.T → s3.T → Prop) : Prop :=
  SemV c P s (shTup3 s1 s2 s3) h (fun p => K p.1 p.2.1 p.2.2)
def SemE3 (P : Program) (s : Sem Value) (s1 s2 s3 : Shape) (K : s1.T → s2.T → s3.T → Hp → Prop) (h : Hp) : Prop :=
  SemE P s (shTup3 s1 s2 s3) (fun p h' => K p.1 p.2.1 p.2.2 h') h
def CallV3 (P : Program) (tb : Tb) (f : Value) (args : List Value) (s1 s2 s3 : Shape) (K : s1.T → s2.T → s3.T → Hp → Prop) (h : Hp) : Prop :=
  CallV P tb f args (shTup3 s1 s2 s3) (fun p h' => K p.1 p.2.1 p.2.2 h') h

def Call4 (P : Program) (g : FuncId) (args : List Value) (s1 s2 s3 s4 : Shape) (K : s1.T → s2.T → s3.T → s4.T → Hp → Prop) (h : Hp) : Prop :=
  CallT P g args (shTup4 s1 s2 s3 s4) (fun p h' => K p.1 p.2.1 p.2.2.1 p.2.2.2 h') h
def SemV4 (c : Option Bool) (P : Program) (s : Sem Value) (s1 s2 s3 s4 : Shape) (h : Hp) (K : s1.T → s2.T → s3.T → s4.T → Prop) : Prop :=
  SemV c P s (shTup4 s1 s2 s3 s4) h (fun p => K p.1 p.2.1 p.2.2.1 p.2.2.2)
def SemE4 (P : Program) (s : Sem Value) (s1 s2 s3 s4 : Shape) (K : s1.T → s2.T → s3.T → s4.T → Hp → Prop) (h : Hp) : Prop :=
  SemE P s (shTup4 s1 s2 s3 s4) (fun p h' => K p.1 p.2.1 p.2.2.1 p.2.2.2 h') h
def CallV4 (P : Program) (tb : Tb) (f : Value) (args : List Value) (s1 s2 s3 s4 : Shape) (K : s1.T → s2.T → s3.T → s4.T → Hp → Prop) (h : Hp) : Prop :=
  CallV P tb f args (shTup4 s1 s2 s3 s4) (fun p h' => K p.1 p.2.1 p.2.2.1 p.2.2.2 h') h

def Call5 (P : Program) (g : FuncId) (args : List Value) (s1 s2 s3 s4 s5 : Shape) (K : s1.T → s2.T → s3.T → s4.T → s5.T → Hp → Prop) (h : Hp) : Prop :=
  CallT P g args (shTup5 s1 s2 s3 s4 s5) (fun p h' => K p.1 p.2.1 p.2.2.1 p.2.2.2.1 p.2.2.2.2 h') h
def SemV5 (c : Option Bool) (P : Program) (s : Sem Value) (s1 s2 s3 s4 s5 : Shape) (h : Hp) (K : s1.T → s2.T → s3.T → s4.T → s5.T → Prop) : Prop :=
  SemV c P s (shTup5 s1 s2 s3 s4 s5) h (fun p => K p.1 p.2.1 p.2.2.1 p.2.2.2.1 p.2.2.2.2)
def SemE5 (P : Program) (s : Sem Value) (s1 s2 s3 s4 s5 : Shape) (K : s1.T → s2.T → s3.T → s4.T → s5.T → Hp → Prop) (h : Hp) : Prop :=
  SemE P s (shTup5 s1 s2 s3 s4 s5) (fun p h' => K p.1 p.2.1 p.2.2.1 p.2.2.2.1 p.2.2.2.2 h') h
def CallV5 (P : Program) (tb : Tb) (f : Value) (args : List Value) (s1 s2 s3 s4 s5 : Shape) (K : s1.T → s2.T → s3.T → s4.T → s5.T → Hp → Prop) (h : Hp) : Prop :=
  CallV P tb f args (shTup5 s1 s2 s3 s4 s5) (fun p h' => K p.1 p.2.1 p.2.2.1 p.2.2.2.1 p.2.2.2.2 h') h

def Call0 (P : Program) (g : FuncId) (args : List Value) (K : Hp → Prop) (h : Hp) : Prop :=
  CallT P g args shUnit (fun _ h' => K h') h
def SemE0 (P : Program) (s : Sem Value) (_ : Shape) (K : Hp → Prop) (h : Hp) : Prop := SemE P s shUnit (fun _ h' => K h') h
def CallV0 (P : Program) (tb : Tb) (f : Value) (args : List Value) (K : Hp → Prop) (h : Hp) : Prop :=
  CallV P tb f args shUnit (fun _ h' => K h') h
end Lf

/-
  Slices that hold lists.
-/
namespace Lf
open Go

/-- The slice holds the list, each element as a row of 'sz' cells. -/
def Rw {α : Type} (h : Hp) (sz : Nat) (enc : α → List Value) (l : Sl) (xs : List α) : Prop :=
  l.len = xs.length ∧ RdCells h l.base (xs.length * sz) (xs.flatMap enc)

section
variable {α : Type} {h h' : Hp} {sz : Nat} {enc : α → List Value} {l : Sl} {xs : List α}

theorem hcell_mono (hl : h ≤ h') {a : Addr} {v : Value} (e : hcell h a = some v) : hcell h' a = some v := by
  unfold hcell at e ⊢
  split at e
  · rename_i c t f hb
    rw [hl _ _ hb]
    exact e
  · cases e

theorem ldIs_mono (hl : h ≤ h') {a : Addr} {cs : List Value} (e : LdIs h a cs) : LdIs h' a cs := fun i v hv => hcell_mono hl (e i v hv)

theorem Rw.mono (hl : h ≤ h') (r : Rw h sz enc l xs) : Rw h' sz enc l xs := by
  obtain ⟨h1, h2, h3⟩ := r
  refine ⟨h1, h2, h3.imp id ?_⟩
  rintro ⟨a, ha, hc⟩
  exact ⟨a, ha, ldIs_mono hl hc⟩

theorem flat_get (henc : ∀ x, (enc x).length = sz) : ∀ (xs : List α) (i : Nat) (x : α), xs[i]? = some x → ∀ j v, (enc x)[j]? = some v → (xs.flatMap enc)[i * sz + j]? = some v
  | [], i, x, hx, _, _, _ => by simp at hx
  | y :: xs, 0, x, hx, j, v, hv => by
    simp at hx
    subst hx
    have hj : j < (enc y).length := (List.getElem?_eq_some_iff.1 hv).1
    simp only [List.flatMap_cons, Nat.zero_mul, Nat.zero_add]
    rw [List.getElem?_append_left hj]
    exact hv
  | y :: xs, i + 1, x, hx, j, v, hv => by
    have := flat_get henc xs i x (by simpa using hx) j v hv
    simp only [List.flatMap_cons]
    have e : (i + 1) * sz + j = sz + (i * sz + j) := by rw [Nat.add_mul]; omega
    rw [List.getElem?_append_right (by rw [henc, e]; omega), henc, e, Nat.add_sub_cancel_left]
    exact this

theorem flat_at (henc : ∀ x, (enc x).length = sz) : ∀ (xs : List α) (i : Nat) (v : Value), (xs.flatMap enc)[i]? = some v → ∃ q x j, xs[q]? = some x ∧ (enc x)[j]? = some v ∧ i = q * sz + j
  | [], i, v, hv => by simp at hv
  | y :: xs, i, v, hv => by
    simp only [List.flatMap_cons] at hv
    by_cases hi : i < (enc y).length
    · rw [List.getElem?_append_left hi] at hv
      exact ⟨0, y, i, rfl, hv, by simp⟩
    · rw [List.getElem?_append_right (by omega)] at hv
      obtain ⟨q, x, j, h1, h2, h3⟩ := flat_at henc xs _ v hv
      rw [henc] at h3 hi
      exact ⟨q + 1, x, j, by simpa using h1, h2, by rw [Nat.add_mul]; omega⟩

theorem Rw.read (r : Rw h sz enc l xs) (henc : ∀ x, (enc x).length = sz) (hsz : 0 < sz) {i : Int} (h0 : 0 ≤ i) (h1 : i < (l.len : Int)) :
    InB l.base l.len i ∧ ∃ x, xs[i.toNat]? = some x ∧ LdIs h (sat l.base sz i) (enc x) := by
  obtain ⟨h2, h3, h4⟩ := r
  have hi : i.toNat < xs.length := by omega
  have hne : xs.length * sz ≠ 0 := by
    have : 0 < xs.length := by omega
    exact Nat.ne_of_gt (Nat.mul_pos this hsz)
  obtain ⟨a, ha, hc⟩ := h4.resolve_left hne
  refine ⟨⟨by simp [ha], h0, h1⟩, xs[i.toNat], by simp [hi], fun j v hv => ?_⟩
  have := hc (i.toNat * sz + j) v (flat_get henc xs i.toNat _ (by simp [hi]) j v hv)
  unfold sat
  rw [ha, Option.getD_some, add_add]
  exact this

/-- A slice in a block of its own, that was not known at the start. -/
def Own (h0 h : Hp) (sz : Nat) (enc : α → List Value) (l : Sl) (xs : List α) : Prop :=
  l.len = xs.length ∧ l.len ≤ l.cap ∧ ((l.base = none ∧ l.cap = 0) ∨
    ∃ (b : Nat) (cs : List Value) (t : Nat), l.base = some ⟨b, 0, none⟩ ∧ h b = some (.cells cs.toArray t (0, 0)) ∧ cs.length = l.cap * sz ∧ cs.take (l.len * sz) = xs.flatMap enc ∧ h0 b = none)

theorem flat_len (henc : ∀ x, (enc x).length = sz) : ∀ xs : List α, (xs.flatMap enc).length = xs.length * sz
  | [] => by simp
  | x :: xs => by
    simp only [List.flatMap_cons, List.length_append, henc, flat_len henc xs, List.length_cons, Nat.add_mul, Nat.one_mul]
    omega

theorem flat_ok (hok : ∀ x, okCells (enc x) = true) : ∀ xs : List α, okCells (xs.flatMap enc) = true := by
  have app : ∀ a b : List Value, okCells a = true → okCells b = true → okCells (a ++ b) = true := by
    intro a b ha hb
    induction a with
    | nil => exact hb
    | cons v a ih => cases v <;> first | (exact ih ha) | (cases ha)
  intro xs
  induction xs with
  | nil => rfl
  | cons x xs ih => exact app _ _ (hok x) ih

theorem hcell_block0 {b : Nat} {cs : List Value} {t : Nat} (e : h b = some (.cells cs.toArray t (0, 0))) (i : Nat) : hcell h ⟨b, i, none⟩ = cs[i]? := by
  unfold hcell
  simp [e]

theorem Own.rw {h0 : Hp} (o : Own h0 h sz enc l xs) (henc : ∀ x, (enc x).length = sz) : Rw h sz enc l xs := by
  obtain ⟨h1, h2, h3⟩ := o
  refine ⟨h1, flat_len henc xs, ?_⟩
  rcases h3 with ⟨e, ec⟩ | ⟨b, cs, t, e, hb, hl, ht, _⟩
  · left
    have : xs.length = 0 := by omega
    rw [this, Nat.zero_mul]
  · right
    refine ⟨_, e, fun j v hv => ?_⟩
    rw [box_add, hcell_block0 hb, Nat.zero_add]
    rw [← ht, List.getElem?_take] at hv
    split at hv
    · exact hv
    · cases hv

theorem Own.mono {h0 : Hp} (hl : h ≤ h') (o : Own h0 h sz enc l xs) : Own h0 h' sz enc l xs := by
  obtain ⟨h1, h2, h3⟩ := o
  refine ⟨h1, h2, h3.imp id ?_⟩
  rintro ⟨b, cs, t, e1, e2, e3⟩
  exact ⟨b, cs, t, e1, hl _ _ e2, e3⟩

theorem app_own {h0 : Hp} {zero : List Value} {bytes : Nat} {x : Sl} {ys : List α} {K : Sl → Hp → Prop} (hw : h0 ≤ h) (o : Own h0 h sz enc l xs) (r : Rw h sz enc x ys) (henc : ∀ x, (enc x).length = sz) (hok : ∀ x, okCells (enc x) = true)
    (hz : zero.length = sz) (hb : xs.length + ys.length ≤ 140737488355328 ∧ (xs.length + ys.length) * bytes ≤ 140737488355328)
    (hk : ∀ l' h', h0 ≤ h' → Own h0 h' sz enc l' (xs ++ ys) → (∀ b ob, h b = some ob → (∀ a, l.base = some a → a.block ≠ b) → h' b = some ob) → K l' h') : AppendW sz bytes zero l x K h := by
  have hrw := o.rw henc
  obtain ⟨h1, h2, h3⟩ := o
  obtain ⟨hx1, hx2⟩ := r
  refine ⟨ys.flatMap enc, by rw [hx1]; exact hx2, xs.flatMap enc, by rw [h1]; exact hrw.2, by rw [h1, hx1]; exact hb, flat_ok hok ys, fun hcap => ?_, fun hcap c b t hc hbn => ?_⟩
  · rcases h3 with ⟨e, ec⟩ | ⟨b, cs, t, e, hbk, hl, ht, hn⟩
    · -- nothing is put
      have e1 : ys.length = 0 := by omega
      have e2 : ys = [] := List.length_eq_zero_iff.1 e1
      subst e2
      refine ⟨fun a ha => (by rw [e] at ha; cases ha), ?_⟩
      have e3 : putO h l.base (l.len * sz) (([] : List α).flatMap enc) = h := by rw [e]; rfl
      rw [e3, hx1]
      refine hk _ h hw ⟨by simp [h1], by simpa using h2, .inl ⟨e, ec⟩⟩ fun _ _ e _ => e
    · have hle : l.len * sz + (ys.flatMap enc).length ≤ cs.length := by
        rw [hl, flat_len henc, ← Nat.add_mul]
        exact Nat.mul_le_mul_right sz (by omega)
      obtain ⟨p1, p2⟩ := put_cells b t (ys.flatMap enc) h 0 (l.len * sz) cs (by simpa using hle) hbk
      have hst : ∀ (k : Nat), l.len * sz + k ≤ cs.length → StOk h (⟨b, l.len * sz, none⟩ : Addr) k := by
        intro k
        induction k with
        | zero => intro _; trivial
        | succ k ih =>
          intro hk'
          refine ⟨ih (by omega), ⟨cs[l.len * sz + k]'(by omega), ?_⟩, ?_⟩
          · rw [box_add, hcell_block0 hbk]
            simp
          · rw [box_add]
            unfold hfroz
            simp [hbk]
      refine ⟨fun a ha => ?_, ?_⟩
      · rw [e] at ha; cases ha
        rw [box_add, Nat.zero_add]
        refine hst _ ?_
        rw [hx1, ← flat_len henc ys]
        exact hle
      · have e3 : putO h l.base (l.len * sz) (ys.flatMap enc) = putL h ⟨b, l.len * sz, none⟩ (ys.flatMap enc) 0 := by
          rw [e]
          simp only [putO, box_add, Nat.zero_add]
        rw [e3]
        rw [Nat.add_zero] at p1
        refine hk _ _ (fun b' ob eb => ?_) ⟨by simp [h1, hx1], hcap, .inr ⟨b, _, t, e, p1, ?_, ?_, hn⟩⟩ fun b' ob eb hne => ?_
        · have hne : b' ≠ b := fun e' => by rw [e', hn] at eb; cases eb
          rw [p2 b' hne]
          exact hw _ _ eb
        · rw [layL_length _ _ _ hle, hl]
        · rw [layL_eq _ _ _ hle]
          have e4 : (l.len + x.len) * sz = (cs.take (l.len * sz) ++ ys.flatMap enc).length := by
            rw [List.length_append, ht, flat_len henc, flat_len henc, h1, hx1, Nat.add_mul]
          rw [e4, List.take_left, ht, List.flatMap_append]
        · rw [p2 b' fun e' => hne _ e e'.symm]
          exact eb
  · have hh : ∀ b' ob, h b' = some ob → (h.set b (.cells (xs.flatMap enc ++ ys.flatMap enc ++ zerosL zero (c - (l.len + x.len))).toArray t (0, 0))) b' = some ob := fun b' ob eb => by
      have hne : b' ≠ b := fun e' => by rw [e', hbn] at eb; cases eb
      simp [Hp.set, hne, eb]
    refine hk _ _ (fun b' ob eb => hh b' ob (hw _ _ eb)) ⟨by simp [h1, hx1], hc, .inr ⟨b, xs.flatMap enc ++ ys.flatMap enc ++ zerosL zero (c - (l.len + x.len)), t, rfl, by simp [Hp.set], ?_, ?_, ?_⟩⟩ fun b' ob eb _ => hh b' ob eb
    · have hzl : ∀ k, (zerosL zero k).length = k * sz := fun k => by simp [zerosL, hz]
      rw [List.length_append, List.length_append, flat_len henc, flat_len henc, hzl, ← Nat.add_mul, ← Nat.add_mul]
      show _ = c * sz
      congr 1
      omega
    · have e4 : (l.len + x.len) * sz = (xs.flatMap enc ++ ys.flatMap enc).length := by
        rw [List.length_append, flat_len henc, flat_len henc, h1, hx1, Nat.add_mul]
      show List.take ((l.len + x.len) * sz) _ = _
      rw [e4, List.take_left, List.flatMap_append]
    · cases e0 : h0 b with
      | none => rfl
      | some ob => rw [hw _ _ e0] at hbn; cases hbn

end

/-- The slice holds a list of values of one type. -/
abbrev Rs (h : Hp) (sh : Shape) (sz : Nat) (l : Sl) (xs : List sh.T) : Prop := Rw h sz (fun x => cellsL (sh.enc x)) l xs

section
variable {h h' : Hp} {sh : Shape} {sz : Nat} {l : Sl} {xs : List sh.T} {K : sh.T → Prop} {i : Int}

theorem Rs.get (r : Rs h sh sz l xs) (henc : ∀ x, (cellsL (sh.enc x)).length = sz) (hsz : 0 < sz) (h0 : 0 ≤ i) (h1 : i < (xs.length : Int)) (hk : ∀ x, xs[i.toNat]? = some x → K x) :
    InB l.base l.len i ∧ LdW none sh h (sat l.base sz i) K := by
  obtain ⟨e1, x, hx, hl⟩ := Rw.read r henc hsz h0 (by rw [r.1]; exact h1)
  exact ⟨e1, x, hl, hk x hx⟩

theorem Rs.getC {c : Bool} (r : Rs h sh sz l xs) (x0 : sh.T) (henc : ∀ x, (cellsL (sh.enc x)).length = sz) (hsz : 0 < sz) (h0 : c = true → 0 ≤ i ∧ i < (xs.length : Int)) (hk : ∀ x, (c = true → xs[i.toNat]? = some x) → K x) :
    (c = true → InB l.base l.len i) ∧ LdW (some c) sh h (sat l.base sz i) K := by
  cases c with
  | false => exact ⟨fun e => (by cases e), x0, fun e => (by cases e), hk x0 fun e => (by cases e)⟩
  | true =>
    obtain ⟨e1, x, hx, hl⟩ := Rw.read r henc hsz (h0 rfl).1 (by rw [r.1]; exact (h0 rfl).2)
    exact ⟨fun _ => e1, x, fun _ => hl, hk x fun _ => hx⟩

theorem ld_at {a : Addr} (x : sh.T) (hl : LdIs h a (cellsL (sh.enc x))) (hk : K x) : LdW none sh h a K := ⟨x, hl, hk⟩

theorem letW {α : Type} {x : α} {K : α → Prop} (hk : K x) : LetW x K := fun _ e => e ▸ hk

theorem wrap64 {n : Int} (h0 : -9223372036854775808 ≤ n) (h1 : n < 9223372036854775808) : IntKind.wrap .i64 n = n := by
  unfold IntKind.wrap
  simp only [IntKind.signed, IntKind.bits]
  first | omega | (simp; omega)

end

theorem nodup_len : ∀ (ys xs : List Int), ys.Nodup → (∀ y ∈ ys, y ∈ xs) → ys.length ≤ xs.length
  | [], xs, _, _ => Nat.zero_le _
  | y :: ys, xs, hn, hs => by
    have hn' := List.nodup_cons.1 hn
    have hy := hs y (List.mem_cons_self ..)
    have := nodup_len ys (xs.erase y) hn'.2 fun z hz => by
      have hne : z ≠ y := fun e => hn'.1 (e ▸ hz)
      exact (List.mem_erase_of_ne hne).2 (hs z (List.mem_cons_of_mem _ hz))
    rw [List.length_erase_of_mem hy] at this
    have hpos : 0 < xs.length := List.length_pos_of_mem hy
    simp only [List.length_cons]
    omega

theorem asc_nodup {ys : List Int} (h : ys.Pairwise (· < ·)) : ys.Nodup := h.imp fun hab => Int.ne_of_lt hab

theorem asc_snoc {ys : List Int} {x : Int} (h : ys.Pairwise (· < ·)) (hx : ∀ z, ys.getLast? = some z → z < x) : (ys ++ [x]).Pairwise (· < ·) := by
  refine List.pairwise_append.2 ⟨h, List.pairwise_singleton _ _, fun a ha b hb => ?_⟩
  rw [List.mem_singleton.1 hb]
  cases hl : ys.getLast? with
  | none => rw [List.getLast?_eq_none_iff.1 hl] at ha; cases ha
  | some z =>
    have hz := hx z hl
    obtain ⟨ys', rfl⟩ := List.getLast?_eq_some_iff.1 hl
    rcases List.mem_append.1 ha with ha | ha
    · have := (List.pairwise_append.1 h).2.2 a ha z (List.mem_singleton.2 rfl)
      omega
    · rw [List.mem_singleton.1 ha]; exact hz

/-- One block that was made here. -/
theorem new_row {α : Type} {h0 h : Hp} {sz : Nat} {enc : α → List Value} {cs : List Value} {xs : List α} {K : Addr → Hp → Prop} (hw : h0 ≤ h) (hc : cs = xs.flatMap enc) (henc : ∀ x, (enc x).length = sz)
    (hk : ∀ a h', h ≤ h' → Own h0 h' sz enc ⟨some a, xs.length, xs.length⟩ xs → K a h') : NewW cs K h := by
  intro b t hb
  have hle : h ≤ h.set b (.cells cs.toArray t (0, 0)) := fun b' o e => by
    have hne : b' ≠ b := fun e' => by rw [e', hb] at e; cases e
    simp [Hp.set, hne, e]
  refine hk _ _ hle ⟨rfl, Nat.le_refl _, .inr ⟨b, cs, t, rfl, by simp [Hp.set], ?_, ?_, ?_⟩⟩
  · rw [hc, flat_len henc]
  · have : (xs.length * sz) = (xs.flatMap enc).length := (flat_len henc xs).symm
    show List.take (xs.length * sz) cs = _
    rw [this, hc, List.take_length]
  · cases e0 : h0 b with
    | none => rfl
    | some ob => rw [hw _ _ e0] at hb; cases hb

end Lf

/-
  What a change to a block that holds no cells leaves.
-/
namespace Lf
open Go

/-- All cells are as they were. -/
def CKeep (h h' : Hp) : Prop := ∀ a v, hcell h a = some v → hcell h' a = some v

theorem CKeep.of_le {h h' : Hp} (hl : h ≤ h') : CKeep h h' := fun _ _ e => hcell_mono hl e

theorem ldIs_ck {h h' : Hp} (hl : CKeep h h') {a : Addr} {cs : List Value} (e : LdIs h a cs) : LdIs h' a cs := fun i v hv => hl _ _ (e i v hv)

theorem Rw.ck {α : Type} {h h' : Hp} {sz : Nat} {enc : α → List Value} {l : Sl} {xs : List α} (hl : CKeep h h') (r : Rw h sz enc l xs) : Rw h' sz enc l xs := by
  obtain ⟨h1, h2, h3⟩ := r
  refine ⟨h1, h2, h3.imp id ?_⟩
  rintro ⟨a, ha, hc⟩
  exact ⟨a, ha, ldIs_ck hl hc⟩

theorem ck_set {h : Hp} {m : Nat} {o o' : Obj} (e : h m = some o) (hc : isCells o = false) : CKeep h (h.set m o') := by
  intro a v hv
  obtain ⟨c, t, fr, hb, hsp, hg⟩ := hcell_block hv
  have hne : a.block ≠ m := fun e' => by rw [e', e] at hb; cases hb; cases hc
  unfold hcell at hv ⊢
  have : (h.set m o') a.block = h a.block := by simp [Hp.set, hne]
  rw [this]
  exact hv

theorem set_new {h : Hp} {b : Nat} {o : Obj} (hn : h b = none) : h ≤ h.set b o := fun b' o' e => by
  have hne : b' ≠ b := fun e' => by rw [e', hn] at e; cases e
  simp [Hp.set, hne, e]

theorem set_self {h : Hp} {b : Nat} {o : Obj} : (h.set b o) b = some o := by simp [Hp.set]

theorem set_over {h h0 : Hp} {b : Nat} {o : Obj} (hl : h0 ≤ h) (hn : h0 b = none) : h0 ≤ h.set b o := fun b' o' e => by
  have hne : b' ≠ b := fun e' => by rw [e', hn] at e; cases e
  simp only [Hp.set, hne, if_false]
  exact hl _ _ e

theorem none_of_le {h0 h : Hp} {b : Nat} (hl : h0 ≤ h) (hn : h b = none) : h0 b = none := by
  cases e : h0 b with
  | none => rfl
  | some o => rw [hl _ _ e] at hn; cases hn

theorem ldIs_new {h : Hp} {b t : Nat} {cs : List Value} : LdIs (h.set b (.cells cs.toArray t (0, 0))) ⟨b, 0, none⟩ cs := fun i v hv => by
  rw [box_add, hcell_block0 set_self, Nat.zero_add]
  exact hv

theorem effT {α : Type} {A : (α → Hp → Prop) → Hp → Prop} {K : α → Hp → Prop} {h : Hp} (hk : A K h) : EffC (some true) A K h := ⟨fun _ => hk, fun e => by cases e⟩

theorem effB {α : Type} {b : Bool} {A : (α → Hp → Prop) → Hp → Prop} {K : α → Hp → Prop} {h : Hp} (hb : b = true) (hk : A K h) : EffC (some b) A K h := ⟨fun _ => hk, fun e => by rw [hb] at e; cases e⟩

theorem notNil {p : Addr} {c : Option Bool} {K : Addr → Prop} (hk : K p) : NilW c (some p) K := by
  refine ⟨p, ?_, hk⟩
  cases c with
  | none => rfl
  | some b => exact fun _ => rfl

theorem semW_und {P : Program} {t : Nat} {d : TypeDesc} (hu : P.underlying t = some d) {K : TypeDesc → Hp → Prop} {h : Hp} (hk : K d h) : semW P (underlying t) K h := by
  show semW P (match P.underlying t with
    | some d => Sem.pure d
    | none => _) K h
  rw [hu]
  exact hk

theorem semW_zero {P : Program} {tb : Tb} (ok : tb.Ok P) {t : Nat} {e : Ty} (he : tb.ty t = some e) {K : Value → Hp → Prop} {h : Hp} (hk : K e.zero h) : semW P (zeroValue t) K h := by
  obtain ⟨i, e1, _, _, e4⟩ := ok.info t e he
  have key : semW P (match P.info? t with
    | some d => (match d.zero with
      | some v => Sem.pure v
      | none => unsupported (.resourceLimit "a value of more than 2^22 cells"))
    | none => stuck "no such type") K h := by
    rw [e1]
    dsimp only
    rw [e4]
    exact hk
  cases hi : P.info? t with
  | none => rw [e1] at hi; cases hi
  | some d =>
    rw [hi] at key
    show semW P (Sem.bind (match P.info? t with
      | some d => Sem.pure d
      | none => _) _) K h
    rw [hi]
    exact key

theorem semIs_of_semW {P : Program} {s : Sem Value} {h : Hp} {v : Value} (hi : semW P s (fun u h' => u = v ∧ h' = h) h) : SemIs P s h v := by
  intro w hs
  obtain ⟨a, w', h', hr, ⟨ha, hh⟩, hst⟩ := semW_sound s hs hi
  subst ha; subst hh
  exact ⟨w', hr, hst⟩

theorem semIs_of_run {P : Program} {s : Sem Value} {h : Hp} {v : Value} (hi : ∀ w, s.run P w = .ok v w) : SemIs P s h v := fun w hs => ⟨w, hi w, .refl hs⟩

theorem semIs_nilSl {P : Program} {t e : Nat} {x y : Operand} {h : Hp} (hu : P.underlying t = some (.slice e)) (s : Sl) : SemIs P (binS .eql t x y s.v (.slice none 0 0)) h (.bool s.base.isNone) := by
  have key : ∀ d, semW P (Op.equalIn (d + 1) t s.v (.slice none 0 0)) (fun u h' => u = s.base.isNone ∧ h' = h) h := by
    intro d
    unfold Op.equalIn
    refine (semW_bind _ _).2 (semW_und hu ?_)
    cases hb : s.base with
    | none => simp only [Sl.v, hb]; exact ⟨rfl, rfl⟩
    | some a => simp only [Sl.v, hb]; exact ⟨rfl, rfl⟩
  refine semIs_of_semW ?_
  show semW P (Sem.bind (Op.equal t s.v (.slice none 0 0)) fun b => Sem.pure (Value.bool b)) _ h
  refine (semW_bind _ _).2 (semW_mono _ (fun a k hk => ?_) (key 9999))
  obtain ⟨rfl, rfl⟩ := hk
  exact ⟨rfl, rfl⟩

end Lf

/-
  From a call's text to a law's statement.
-/
namespace Lf
open Go Go.ChangeShapes Go.WideShapes Go.ChangeAt Go.RowKit

/-- All that is in memory. -/
def whole (W : World) : Hp := fun b => W.heap[b]?

theorem whole_sub (W : World) : Sub (whole W) W := fun _ _ e => e

theorem hcell_whole (W : World) (a : Addr) : hcell (whole W) a = W.cell? a := rfl

theorem below_of_step {W W' : World} {h' : Hp} (hle : whole W ≤ h') (st : Step (whole W) h' W W') : Below W.heap.size W W' :=
  ⟨st.os, st.tape, st.output, st.size, fun k hk => by
    cases e : W.heap[k]? with
    | some o => exact st.sub _ _ (hle _ _ e)
    | none => simp at e; omega⟩

theorem trodAll_stays {H : Type} {enc : TypeId × Value → H} {P : Program} (hl : laidOutB P = true) {W W' : World} {sp : Nat → Bool} (hb : Below W.heap.size W W') : ∀ {ts : List TypeId} {vs : List Value} {ds : List (DataW H)} {ps : List MemPlace},
    (∀ t ∈ ts, P.readableRec t = true ∧ t < P.types.size) → DataW.TrodAll enc P W 0 (fun _ => true) true ts vs ds ps → (∀ x ∈ ps, x.block < W.heap.size) → (∀ x ∈ ps, sp x.block = true) → DataW.TrodAll enc P W' 0 sp true ts vs ds ps
  | [], _, _, _, _, h, _, _ => by
    obtain ⟨rfl, rfl, rfl⟩ := trodAll_nil h
    exact trodAll_mk0
  | t :: ts, _, _, _, hr, h, hlt, hs => by
    obtain ⟨v, vs, d, ds, p, q, rfl, rfl, rfl, h1, h2⟩ := trodAll_cons h
    obtain ⟨hr1, hr2⟩ := hr t (List.mem_cons_self ..)
    exact ⟨p, q, WideElems.Trod_stays hl hr1 hr2 h1 (fun x hx => hb.same (hlt x (List.mem_append_left _ hx))) (fun x hx => hs x (List.mem_append_left _ hx)),
      trodAll_stays hl hb (fun t ht => hr t (List.mem_cons_of_mem _ ht)) h2 (fun x hx => hlt x (List.mem_append_right _ hx)) (fun x hx => hs x (List.mem_append_right _ hx)), rfl⟩

theorem law_post {H : Type} {enc : TypeId × Value → H} {P : Program} {f : Func} {s : ChangeSpec} {W W' : World} {h' : Hp} {args : Array Value} {ds gs : List (DataW H)} {before : List MemPlace} {t : TypeId} (hl : laidOutB P = true)
    (hrd : ∀ t ∈ f.params.toList, P.readableRec t = true ∧ t < P.types.size) (hvars : s.vars = []) (hres : f.resultTypes = #[t]) (ht : P.underlying t = some .bool)
    (hfn : gs = [] → s.fn H (ds ++ gs) = { results := [.lit (.bool true)], args := ds }) (hW : DataW.Whole enc P f.params.toList s.vars false W args.toList ds gs before) (hle : whole W ≤ h') (st : Step (whole W) h' W W') :
    s.post enc P f false true false false W args (.bool true) W' := by
  have hb := below_of_step hle st
  have hlt : ∀ p ∈ before, p.block < W.heap.size := fun p hp => hW.lt p hp
  have hW' := hW
  obtain ⟨p, q, hA, hV, rfl, hfz, hnd⟩ := hW'
  rw [hvars] at hV
  obtain ⟨rfl, rfl⟩ := trodVars_none hV
  rw [List.append_nil] at hlt
  have hsp := hfn rfl
  refine ⟨ds, [], p ++ [], [], p, [], hW, ?_, ?_, ?_, Below.frame hb _, fun e => (by cases e)⟩
  · rw [hsp, hres]
    exact trodAll_mk1 (shut_bool ht true)
  · rw [hsp]
    exact trodAll_stays hl hb hrd hA hlt (fun x hx => by simpa using hlt x hx)
  · rw [hsp, hvars]
    exact rfl

theorem law_lifted {H : Type} {enc : TypeId × Value → H} {C : Checked} {os : Os} {f : FuncId} {fn : Func} {s : ChangeSpec} {t : TypeId} (own : ownKnob C.prog.godebug = none) (started : os.Started) (noInit : C.prog.inits.idxOf? f = none) (hf : C.prog.funcs[f]? = some fn)
    (witness : ∃ (w : World) (tape : Tape) (i : Input), w.os = os ∧ (w.forCall tape i).Shaped C.prog ∧ i.vars = [] ∧ Input.okWide C.prog (w.forCall tape i) .any w.heap.size f i ∧
      s.pre6 enc C.prog fn [] false (w.forCall tape i).memory i.args ∧ ({} : Assume).holds C.prog (lone (Frame.enter C.prog f i.args .normal) [] (w.forCall tape i)))
    (hl : laidOutB C.prog = true) (hrd : ∀ t ∈ fn.params.toList, C.prog.readableRec t = true ∧ t < C.prog.types.size) (hvars : s.vars = []) (hres : fn.resultTypes = #[t]) (ht : C.prog.underlying t = some .bool)
    (walk : ∀ (W : World) (base : Nat) (args : Array Value) (ds : List (DataW H)) (p : List MemPlace), (∀ (j : Nat) t v, fn.params[j]? = some t → args[j]? = some v → Value.okWide C.prog W .any base t v) → DataW.TrodAll enc C.prog W 0 (fun _ => true) true fn.params.toList args.toList ds p →
      s.fn H ds = { results := [.lit (.bool true)], args := ds } ∧ CallT C.prog f args.toList shBool (fun r h' => r = true ∧ whole W ≤ h') (whole W)) :
    ReturnsInHanded {} C os f .any (s.pre6 enc C.prog fn [] false) (s.post enc C.prog fn false true false false) := by
  refine returnsInHanded_of_change own started noInit hf witness ?_
  intro W base args ds gs before hval hW hcnd _
  have hW' := hW
  obtain ⟨p, q, hA, hV, _, hfz, hnd⟩ := hW'
  obtain ⟨hsp, hc⟩ := walk W base args ds p hval hA
  have hc' := hc W (whole_sub W)
  simp only [Array.toArray_toList] at hc'
  refine hc'.mono fun e W' hh => ?_
  obtain ⟨v, h', rfl, ⟨x, rfl, rfl, hle⟩, hst⟩ := hh
  exact ⟨_, rfl, law_post hl hrd hvars hres ht (fun e => by rw [e, List.append_nil]; exact hsp) hW hle hst⟩

/-- The same, of arguments whose sizes are known. -/
theorem law_liftedS {H : Type} {enc : TypeId × Value → H} {C : Checked} {os : Os} {f : FuncId} {fn : Func} {s : ChangeSpec} {t : TypeId} (own : ownKnob C.prog.godebug = none) (started : os.Started) (noInit : C.prog.inits.idxOf? f = none) (hf : C.prog.funcs[f]? = some fn)
    (witness : ∃ (w : World) (tape : Tape) (i : Input), w.os = os ∧ (w.forCall tape i).Shaped C.prog ∧ i.vars = [] ∧ Input.okWide C.prog (w.forCall tape i) .any w.heap.size f i ∧
      s.pre6 enc C.prog fn [] false (w.forCall tape i).memory i.args ∧ ({} : Assume).holds C.prog (lone (Frame.enter C.prog f i.args .normal) [] (w.forCall tape i)))
    (hl : laidOutB C.prog = true) (hrd : ∀ t ∈ fn.params.toList, C.prog.readableRec t = true ∧ t < C.prog.types.size) (hvars : s.vars = []) (hres : fn.resultTypes = #[t]) (ht : C.prog.underlying t = some .bool)
    (walk : ∀ (W : World) (base : Nat) (args : Array Value) (ds : List (DataW H)) (p : List MemPlace), (∀ (j : Nat) t v, fn.params[j]? = some t → args[j]? = some v → Value.okWide C.prog W .any base t v) → DataW.TrodAll enc C.prog W 0 (fun _ => true) true fn.params.toList args.toList ds p →
      (DataW.weightsEach C.prog fn.params.toList ds).all (· ≤ reachBytes) = true →
      s.fn H ds = { results := [.lit (.bool true)], args := ds } ∧ CallT C.prog f args.toList shBool (fun r h' => r = true ∧ whole W ≤ h') (whole W)) :
    ReturnsInHanded {} C os f .any (s.pre6 enc C.prog fn [] false) (s.post enc C.prog fn false true false false) := by
  refine returnsInHanded_of_change_sized own started noInit hf witness ?_
  intro W base args ds gs before hval hW hcnd hsz _
  have hW' := hW
  obtain ⟨p, q, hA, hV, _, hfz, hnd⟩ := hW'
  have hgs : gs = [] := by
    rw [hvars] at hV
    exact (trodVars_none hV).1
  subst hgs
  have hvt : s.plain.varTypes C.prog = [] := by
    unfold ChangeSpec.plain DataSpec.varTypes
    rw [hvars]
    rfl
  rw [hvt, List.append_nil, List.append_nil] at hsz
  obtain ⟨hsp, hc⟩ := walk W base args ds p hval hA hsz
  have hc' := hc W (whole_sub W)
  simp only [Array.toArray_toList] at hc'
  refine hc'.mono fun e W' hh => ?_
  obtain ⟨v, h', rfl, ⟨x, rfl, rfl, hle⟩, hst⟩ := hh
  exact ⟨_, rfl, law_post hl hrd hvars hres ht (fun e => by rw [e, List.append_nil]; exact hsp) hW hle hst⟩


/-- A slice that is handed in. -/
theorem slice_in {H : Type} {enc : TypeId × Value → H} {P : Program} {W : World} {base : Nat} {t e : TypeId} {v : Value} {d : DataW H} {ps : List MemPlace} {α : Type} (ht : P.underlying t = some (.slice e)) (en : α → List Value) (good : α → Prop)
    (hel : ∀ fuel cs y, cs.length = P.cellsOf e → DataW.trod enc P W 0 (fun _ => true) true fuel e cs = some y → ∃ x, cs = en x ∧ good x) (henc : ∀ x, (en x).length = P.cellsOf e) (hv : Value.okWide P W .any base t v)
    (h : DataW.Trod enc P W 0 (fun _ => true) true t v d ps) : ∃ (l : Sl) (xs : List α), v = l.v ∧ Rw (whole W) (P.cellsOf e) en l xs ∧ l.len ≤ l.cap ∧ l.cap ≤ 9223372036854775807 ∧ (∀ x ∈ xs, good x) ∧ (l.len = 0 ∨ ∃ el sp, d = .slice el sp ∧ el.length = l.len) := by
  obtain ⟨a0, len0, cap0, rfl⟩ := okWide_slice ht hv
  obtain ⟨fuel, hf⟩ := h
  rcases DataW.trod_slice ht hf with ⟨h0, _⟩ | ⟨a, len, cap, elems, rest, n, _, h0, hd0, hb, hl, hm, hlen, hel', _, _⟩
  · simp [Value.cells] at h0
    obtain ⟨rfl, rfl, rfl⟩ := h0
    exact ⟨⟨none, 0, 0⟩, [], rfl, ⟨rfl, (by simp), .inl (by simp)⟩, Nat.le_refl _, (by simp), fun x hx => (by cases hx), .inl rfl⟩
  · simp [Value.cells] at h0
    obtain ⟨rfl, rfl, rfl⟩ := h0
    have each : ∀ i, i < len0 → ∃ x, good x ∧ LdIs (whole W) (a.add (i * P.cellsOf e)) (en x) := by
      intro i hi
      have h1 := hel' i hi
      have h2 : elems[i]? = some elems[i] := List.getElem?_eq_getElem (by omega)
      rw [h2] at h1
      cases hc : W.cells? 0 (a.add (i * P.cellsOf e)) (P.cellsOf e) with
      | none => rw [hc] at h1; cases h1
      | some cs =>
        rw [hc] at h1
        obtain ⟨_, hcl, hcc⟩ := World.cells?_some hc
        obtain ⟨x, hx, hg⟩ := hel n cs _ hcl h1
        refine ⟨x, hg, fun j v hj => ?_⟩
        have hjl : j < (en x).length := (List.getElem?_eq_some_iff.1 hj).1
        rw [hcell_whole, hcc j (by rw [← henc x]; exact hjl), hx]
        exact hj
    have build : ∀ m, m ≤ len0 → ∃ xs : List α, xs.length = m ∧ (∀ x ∈ xs, good x) ∧ ∀ i x, xs[i]? = some x → LdIs (whole W) (a.add (i * P.cellsOf e)) (en x) := by
      intro m
      induction m with
      | zero => intro _; exact ⟨[], rfl, fun x hx => (by cases hx), fun i x hx => (by simp at hx)⟩
      | succ m ih =>
        intro hm'
        obtain ⟨xs, h1, h2, h3⟩ := ih (by omega)
        obtain ⟨x, hg, hx⟩ := each m (by omega)
        refine ⟨xs ++ [x], by simp [h1], fun y hy => ?_, fun i y hy => ?_⟩
        · rcases List.mem_append.1 hy with hy | hy
          · exact h2 y hy
          · rw [List.mem_singleton.1 hy]; exact hg
        · by_cases hi : i < xs.length
          · rw [List.getElem?_append_left hi] at hy
            exact h3 i y hy
          · rw [List.getElem?_append_right (by omega)] at hy
            have : i - xs.length = 0 := by
              have := (List.getElem?_eq_some_iff.1 hy).1
              simp at this
              omega
            rw [this] at hy
            simp at hy
            subst hy
            have : i = m := by omega
            rw [this]
            exact hx
    obtain ⟨xs, h1, h2, h3⟩ := build len0 (Nat.le_refl _)
    refine ⟨⟨some a, len0, cap0⟩, xs, rfl, ⟨h1.symm, flat_len henc xs, .inr ⟨a, rfl, fun i v hv => ?_⟩⟩, hl, hm, h2, .inr ⟨_, _, (Prod.mk.inj hd0).1, by simp [hlen]⟩⟩
    obtain ⟨q, x, j, hq, hj, e1⟩ := flat_at henc xs i v hv
    rw [e1]
    rw [← add_add]
    exact h3 q x hq j v hj

theorem ints_in {H : Type} {enc : TypeId × Value → H} {P : Program} {W : World} {base : Nat} {t e : TypeId} {k : IntKind} {v : Value} {d : DataW H} {ps : List MemPlace} (ht : P.underlying t = some (.slice e)) (he : P.underlying e = some (.int k)) (hc : P.cellsOf e = 1) (hv : Value.okWide P W .any base t v)
    (h : DataW.Trod enc P W 0 (fun _ => true) true t v d ps) : ∃ (l : Sl) (xs : List Int), v = l.v ∧ Rs (whole W) (shInt k) 1 l xs ∧ l.len ≤ l.cap ∧ l.cap ≤ 9223372036854775807 ∧ ∀ x ∈ xs, (Lit.int k x).wf = true := by
  have key := slice_in (α := Int) ht (fun x => cellsL ((shInt k).enc x)) (fun x => (Lit.int k x).wf = true) (fun fuel cs y _ hy => ?_) (fun _ => by rw [hc]; rfl) hv h
  · rw [hc] at key
    obtain ⟨l, xs, h1, h2, h3, h4, h5, _⟩ := key
    exact ⟨l, xs, h1, h2, h3, h4, h5⟩
  · obtain ⟨n, hcs, _, hw⟩ := DataW.trod_int he hy
    exact ⟨n, hcs, hw⟩

theorem ints_inS {H : Type} {enc : TypeId × Value → H} {P : Program} {W : World} {base : Nat} {t e : TypeId} {k : IntKind} {v : Value} {d : DataW H} {ps : List MemPlace} (ht : P.underlying t = some (.slice e)) (he : P.underlying e = some (.int k)) (hc : P.cellsOf e = 1) (hv : Value.okWide P W .any base t v)
    (h : DataW.Trod enc P W 0 (fun _ => true) true t v d ps) : ∃ (l : Sl) (xs : List Int), v = l.v ∧ Rs (whole W) (shInt k) 1 l xs ∧ l.len ≤ l.cap ∧ l.cap ≤ 9223372036854775807 ∧ (∀ x ∈ xs, (Lit.int k x).wf = true) ∧ (l.len = 0 ∨ ∃ el sp, d = .slice el sp ∧ el.length = l.len) := by
  have key := slice_in (α := Int) ht (fun x => cellsL ((shInt k).enc x)) (fun x => (Lit.int k x).wf = true) (fun fuel cs y _ hy => ?_) (fun _ => by rw [hc]; rfl) hv h
  · rw [hc] at key
    exact key
  · obtain ⟨n, hcs, _, hw⟩ := DataW.trod_int he hy
    exact ⟨n, hcs, hw⟩

theorem inU_wf {x : Int} (h : (Lit.int .u64 x).wf = true) : 0 ≤ x ∧ x < 18446744073709551616 := by
  simp [Lit.wf, IntKind.min, IntKind.max, IntKind.signed, IntKind.bits] at h
  omega

theorem trod_fieldInt {H : Type} {enc : TypeId × Value → H} {P : Program} {W : World} {t : TypeId} {fs : Array Field} {fuel : Nat} {cs : List Value} {x : DataW H × List MemPlace} (ht : P.underlying t = some (.struct fs)) (h : DataW.trod enc P W 0 (fun _ => true) true fuel t cs = some x)
    {i : Nat} {f : Field} {k : IntKind} (hf : fs[i]? = some f) (hk : P.underlying f.type = some (.int k)) (hc : P.cellsOf f.type = 1) : ∃ n, cs[f.offset]? = some (.int k n) ∧ (Lit.int k n).wf = true := by
  obtain ⟨xs, n, _, _, hl, hlen, hfs⟩ := DataW.trod_struct ht h
  have h1 := hfs i f hf
  have hil : i < xs.length := by rw [hlen]; exact (Array.getElem?_eq_some_iff.1 hf).1
  rw [List.getElem?_eq_getElem hil, hc] at h1
  obtain ⟨m, hm, _, hw⟩ := DataW.trod_int hk h1
  refine ⟨m, ?_, hw⟩
  have : ((cs.drop f.offset).take 1)[0]? = some (.int k m) := by rw [hm]; rfl
  rw [List.getElem?_take] at this
  simpa using this

theorem inI_wf {x : Int} (h : (Lit.int .i64 x).wf = true) : -9223372036854775808 ≤ x ∧ x ≤ 9223372036854775807 := by
  simp [Lit.wf, IntKind.min, IntKind.max, IntKind.signed, IntKind.bits] at h
  omega

/-- How long a slice of that type may be. -/
theorem slice_size {H : Type} {P : Program} {ts : List TypeId} {ds : List (DataW H)} {j : Nat} {t e : TypeId} {d : DataW H} {l : Sl} {b : Nat} (h : (DataW.weightsEach P ts ds).all (· ≤ reachBytes) = true) (ht : ts[j]? = some t) (hd : ds[j]? = some d) (hu : P.underlying t = some (.slice e)) (hb : P.bytesOf e = b)
    (hs : l.len = 0 ∨ ∃ el sp, d = .slice el sp ∧ el.length = l.len) : l.len * b ≤ 140737488355328 := by
  rcases hs with h0 | ⟨el, sp, rfl, hl⟩
  · rw [h0]; omega
  · have h1 := sized_slice h ht hd hu
    rw [hb] at h1
    have h2 : el.length * b ≤ (el.length + sp.length) * b := Nat.mul_le_mul_right _ (by omega)
    rw [← hl]
    have h3 : reachBytes ≤ 140737488355328 := by decide
    omega

end Lf

/-
  DERIVED: THE SHELF's CONTRACTS AT THIS DUMP, IN PLAIN WORDS (tools/lay-plain.mjs out of 'TrydShelf.lean', which tools/lay-shelf.mjs wrote): THE SAME DECLARATIONS UNDER THE SAME NAMES: 'import', 'namespace', 'open', 'def', 'theorem' AND NOTHING ELSE: no command of the shelf's: FOR A HAND-IN. Each laying: the table of numbers ('.._ren') and one theorem, a field a fact of the dump's own or the kernel's comparison; each contract: ONE APPLICATION.
-/
namespace Go.Proofs
open Go.Shelf
def Tryd.lays156_ren : Go.Shelf.Ren := ⟨fun | 156 => 26 | 165 => 30 | 166 => 31 | 169 => 32 | 240 => 38 | 241 => 39 | 276 => 46 | 277 => 47 | n => n, fun | 31 => 38 | 9 => 9 | 3 => 3 | 4 => 4 | 0 => 0 | 20 => 20 | 72 => 51 | 76 => 55 | 70 => 48 | 37 => 49 | 75 => 54 | 127 => 62 | 164 => 67 | 5 => 5 | 80 => 57 | n => n, fun | n => n⟩
theorem Tryd.lays156 : Go.Proofs.Lays.n156 Tryd.prog Tryd.lays156_ren := {
  mixed := by kernel_rfl
  f156 := Tryd.func26.trans (congrArg some (by kernel_rfl))
  f165 := Tryd.func30.trans (congrArg some (by kernel_rfl))
  f166 := Tryd.func31.trans (congrArg some (by kernel_rfl))
  f169 := Tryd.func32.trans (congrArg some (by kernel_rfl))
  f240 := Tryd.func38.trans (congrArg some (by kernel_rfl))
  f241 := Tryd.func39.trans (congrArg some (by kernel_rfl))
  f276 := Tryd.func46.trans (congrArg some (by kernel_rfl))
  f277 := Tryd.func47.trans (congrArg some (by kernel_rfl))
  t0 := Tryd.underlying0
  a0 := Tryd.isAgg0
  z0 := Tryd.sizeOf0
  v0 := Tryd.zeroValue0
  t3 := Tryd.underlying3
  a3 := Tryd.isAgg3
  z3 := Tryd.sizeOf3
  v3 := Tryd.zeroValue3
  t4 := Tryd.underlying4
  a4 := Tryd.isAgg4
  z4 := Tryd.sizeOf4
  v4 := Tryd.zeroValue4
  t9 := Tryd.underlying9
  a9 := Tryd.isAgg9
  z9 := Tryd.sizeOf9
  v9 := Tryd.zeroValue9
  t20 := Tryd.underlying20
  a20 := Tryd.isAgg20
  z20 := Tryd.sizeOf20
  v20 := Tryd.zeroValue20
  t31 := Tryd.underlying38
  a31 := Tryd.isAgg38
  z31 := Tryd.sizeOf38
  v31 := Tryd.zeroValue38
  t37 := Tryd.underlying49
  a37 := Tryd.isAgg49
  z37 := Tryd.sizeOf49
  v37 := Tryd.zeroValue49
  t70 := Tryd.underlying48
  a70 := Tryd.isAgg48
  z70 := Tryd.sizeOf48
  v70 := Tryd.zeroValue48
  t72 := Tryd.underlying51
  a72 := Tryd.isAgg51
  z72 := Tryd.sizeOf51
  v72 := Tryd.zeroValue51
  t75 := Tryd.underlying54
  a75 := Tryd.isAgg54
  z75 := Tryd.sizeOf54
  v75 := Tryd.zeroValue54
  t76 := Tryd.underlying55
  a76 := Tryd.isAgg55
  z76 := Tryd.sizeOf55
  v76 := Tryd.zeroValue55
  t127 := Tryd.underlying62
  a127 := Tryd.isAgg62
  z127 := Tryd.sizeOf62
  v127 := Tryd.zeroValue62
  t164 := Tryd.underlying67
  a164 := Tryd.isAgg67
  z164 := Tryd.sizeOf67
  v164 := Tryd.zeroValue67 }
theorem Tryd.Builder_Extra_156 : Builder.Extra Tryd.prog Tryd.lays156_ren := {
  sizeBuilder := by kernel_rfl
  liesBuilder := by kernel_rfl
  t5 := Tryd.underlying5
  a5 := Tryd.isAgg5
  z5 := Tryd.sizeOf5
  v5 := Tryd.zeroValue5
  infoByte := by kernel_rfl
  cellsByte := by kernel_rfl
  sizeByte := by kernel_rfl
  neB5 := by decide }
open Go.RowKit in
/-- No element: the empty string; the world is as it was. (Whatever the slice's address and capacity: a nil slice too.) (LAID: no walk: one application.) -/
theorem Tryd.strings_Join_none (a : Option Addr) (c : Nat) (sep : ByteArray) (w : World) :
    Calls Tryd.prog 26 #[.slice a 0 c, .string sep] w fun e w' => e = .returned (.string ⟨#[]⟩) ∧ w' = w := Any.strings_Join_none Tryd.lays156 Tryd.Builder_Extra_156 a c sep w
open Go.RowKit in
/-- strings.Join: "Join concatenates the elements of its first argument to create a single string. The separator string sep is placed between elements in the resulting string.": HOWEVER MANY ELEMENTS. Below the heap's end the world is as it was. (LAID: no walk: one application.) -/
theorem Tryd.strings_Join (bk o c : Nat) (xs : List ByteArray) (sep : ByteArray) (w : World) (hcells : ∀ (j : Nat) x, xs[j]? = some x → w.cell? ⟨bk, o + j, none⟩ = some (.string x)) (hbk : bk < w.heap.size) (hN : xs.length ≤ 140737488355328) (hcap : xs.length ≤ c) (hlen : (Lib.join (xs.map (·.data.toList)) sep.data.toList).length ≤ 140737488355328) :
    Calls Tryd.prog 26 #[.slice (some ⟨bk, o, none⟩) xs.length c, .string sep] w fun e w' => e = .returned (.string ⟨(Lib.join (xs.map (·.data.toList)) sep.data.toList).toArray⟩) ∧ Below w.heap.size w w' := Any.strings_Join Tryd.lays156 Tryd.Builder_Extra_156 bk o c xs sep w hcells hbk hN hcap hlen
def Tryd.lays172_ren : Go.Shelf.Ren := ⟨fun | 172 => 40 | 244 => 48 | 245 => 49 | 247 => 56 | 279 => 57 | 280 => 58 | 281 => 59 | 282 => 60 | 287 => 63 | 316 => 64 | 171 => 25 | 205 => 65 | 321 => 66 | 322 => 67 | 243 => 29 | 246 => 37 | 283 => 42 | 284 => 43 | 285 => 44 | 286 => 45 | 129 => 52 | 317 => 51 | 318 => 53 | 319 => 54 | 320 => 55 | 337 => 61 | 338 => 62 | n => n, fun | 9 => 9 | 3 => 3 | 75 => 54 | 76 => 55 | 4 => 4 | 5 => 5 | 167 => 78 | 37 => 49 | 0 => 0 | 85 => 79 | 2 => 2 | 168 => 81 | 53 => 23 | 175 => 85 | 46 => 47 | 210 => 89 | 127 => 62 | 145 => 96 | 143 => 94 | 21 => 21 | 171 => 63 | 173 => 65 | 212 => 73 | 51 => 74 | 20 => 20 | 213 => 75 | 232 => 91 | 233 => 92 | 80 => 57 | n => n, fun | 15 => 2 | 16 => 3 | 17 => 0 | 18 => 4 | 19 => 5 | n => n⟩
theorem Tryd.lays172 : Go.Proofs.Lays.n172 Tryd.prog Tryd.lays172_ren := {
  mixed := by kernel_rfl
  f129 := Tryd.func52.trans (congrArg some (by kernel_rfl))
  f171 := Tryd.func25.trans (congrArg some (by kernel_rfl))
  f172 := Tryd.func40.trans (congrArg some (by kernel_rfl))
  f205 := Tryd.func65.trans (congrArg some (by kernel_rfl))
  f243 := Tryd.func29.trans (congrArg some (by kernel_rfl))
  f244 := Tryd.func48.trans (congrArg some (by kernel_rfl))
  f245 := Tryd.func49.trans (congrArg some (by kernel_rfl))
  f246 := Tryd.func37.trans (congrArg some (by kernel_rfl))
  f247 := Tryd.func56.trans (congrArg some (by kernel_rfl))
  f279 := Tryd.func57.trans (congrArg some (by kernel_rfl))
  f280 := Tryd.func58.trans (congrArg some (by kernel_rfl))
  f281 := Tryd.func59.trans (congrArg some (by kernel_rfl))
  f282 := Tryd.func60.trans (congrArg some (by kernel_rfl))
  f283 := Tryd.func42.trans (congrArg some (by kernel_rfl))
  f284 := Tryd.func43.trans (congrArg some (by kernel_rfl))
  f285 := Tryd.func44.trans (congrArg some (by kernel_rfl))
  f286 := Tryd.func45.trans (congrArg some (by kernel_rfl))
  f287 := Tryd.func63.trans (congrArg some (by kernel_rfl))
  f316 := Tryd.func64.trans (congrArg some (by kernel_rfl))
  f317 := Tryd.func51.trans (congrArg some (by kernel_rfl))
  f318 := Tryd.func53.trans (congrArg some (by kernel_rfl))
  f319 := Tryd.func54.trans (congrArg some (by kernel_rfl))
  f320 := Tryd.func55.trans (congrArg some (by kernel_rfl))
  f321 := Tryd.func66.trans (congrArg some (by kernel_rfl))
  f322 := Tryd.func67.trans (congrArg some (by kernel_rfl))
  f337 := Tryd.func61.trans (congrArg some (by kernel_rfl))
  f338 := Tryd.func62.trans (congrArg some (by kernel_rfl))
  t0 := Tryd.underlying0
  a0 := Tryd.isAgg0
  z0 := Tryd.sizeOf0
  v0 := Tryd.zeroValue0
  t2 := Tryd.underlying2
  a2 := Tryd.isAgg2
  z2 := Tryd.sizeOf2
  v2 := Tryd.zeroValue2
  t3 := Tryd.underlying3
  a3 := Tryd.isAgg3
  z3 := Tryd.sizeOf3
  v3 := Tryd.zeroValue3
  t4 := Tryd.underlying4
  a4 := Tryd.isAgg4
  z4 := Tryd.sizeOf4
  v4 := Tryd.zeroValue4
  t5 := Tryd.underlying5
  a5 := Tryd.isAgg5
  z5 := Tryd.sizeOf5
  v5 := Tryd.zeroValue5
  t9 := Tryd.underlying9
  a9 := Tryd.isAgg9
  z9 := Tryd.sizeOf9
  v9 := Tryd.zeroValue9
  t20 := Tryd.underlying20
  a20 := Tryd.isAgg20
  z20 := Tryd.sizeOf20
  v20 := Tryd.zeroValue20
  t21 := Tryd.underlying21
  a21 := Tryd.isAgg21
  z21 := Tryd.sizeOf21
  v21 := Tryd.zeroValue21
  t37 := Tryd.underlying49
  a37 := Tryd.isAgg49
  z37 := Tryd.sizeOf49
  v37 := Tryd.zeroValue49
  t46 := Tryd.underlying47
  a46 := Tryd.isAgg47
  z46 := Tryd.sizeOf47
  v46 := Tryd.zeroValue47
  t51 := Tryd.underlying74
  a51 := Tryd.isAgg74
  z51 := Tryd.sizeOf74
  v51 := Tryd.zeroValue74
  t53 := Tryd.underlying23
  a53 := Tryd.isAgg23
  z53 := Tryd.sizeOf23
  v53 := Tryd.zeroValue23
  t75 := Tryd.underlying54
  a75 := Tryd.isAgg54
  z75 := Tryd.sizeOf54
  v75 := Tryd.zeroValue54
  t76 := Tryd.underlying55
  a76 := Tryd.isAgg55
  z76 := Tryd.sizeOf55
  v76 := Tryd.zeroValue55
  t85 := Tryd.underlying79
  a85 := Tryd.isAgg79
  z85 := Tryd.sizeOf79
  v85 := Tryd.zeroValue79
  t127 := Tryd.underlying62
  a127 := Tryd.isAgg62
  z127 := Tryd.sizeOf62
  v127 := Tryd.zeroValue62
  t143 := Tryd.underlying94
  a143 := Tryd.isAgg94
  z143 := Tryd.sizeOf94
  v143 := Tryd.zeroValue94
  t145 := Tryd.underlying96
  a145 := Tryd.isAgg96
  z145 := Tryd.sizeOf96
  v145 := Tryd.zeroValue96
  t167 := Tryd.underlying78
  a167 := Tryd.isAgg78
  z167 := Tryd.sizeOf78
  v167 := Tryd.zeroValue78
  t168 := Tryd.underlying81
  a168 := Tryd.isAgg81
  z168 := Tryd.sizeOf81
  v168 := Tryd.zeroValue81
  t171 := Tryd.underlying63
  a171 := Tryd.isAgg63
  z171 := Tryd.sizeOf63
  v171 := Tryd.zeroValue63
  t173 := Tryd.underlying65
  a173 := Tryd.isAgg65
  z173 := Tryd.sizeOf65
  v173 := Tryd.zeroValue65
  t175 := Tryd.underlying85
  a175 := Tryd.isAgg85
  z175 := Tryd.sizeOf85
  v175 := Tryd.zeroValue85
  t210 := Tryd.underlying89
  a210 := Tryd.isAgg89
  z210 := Tryd.sizeOf89
  v210 := Tryd.zeroValue89
  t212 := Tryd.underlying73
  a212 := Tryd.isAgg73
  z212 := Tryd.sizeOf73
  v212 := Tryd.zeroValue73
  t213 := Tryd.underlying75
  a213 := Tryd.isAgg75
  z213 := Tryd.sizeOf75
  t232 := Tryd.underlying91
  a232 := Tryd.isAgg91
  z232 := Tryd.sizeOf91
  v232 := Tryd.zeroValue91
  t233 := Tryd.underlying92
  a233 := Tryd.isAgg92
  z233 := Tryd.sizeOf92
  v233 := Tryd.zeroValue92
  g15 := by kernel_rfl
  g16 := by kernel_rfl
  g17 := by kernel_rfl
  g18 := by kernel_rfl
  g19 := by kernel_rfl }
open Go.RowKit in
/-- strconv.Atoi: "Atoi is equivalent to ParseInt(s, 10, 0), converted to type int.": AT A DECIMAL NUMERAL OF AT MOST 18 BYTES: its value, and a nil error. The world behind the call: the one new row that the library's '[]byte(s)' lays. (LAID: no walk: one application.) -/
theorem Tryd.strconv_Atoi (s : ByteArray) (n : Int) (hl : s.size ≤ 18) (h : Lib.atoi s.data.toList = some n) (w : World) :
    Calls Tryd.prog 40 #[.string s] w fun e w' => e = .returned (.tuple #[.int .i64 n, .nilIface]) ∧ ∃ t, w' = Lib.bytesWorld w 5 t := Any.strconv_Atoi Tryd.lays172 s n hl h w
def Tryd.lays171_ren : Go.Shelf.Ren := ⟨fun | 171 => 25 | 243 => 29 | 246 => 37 | 283 => 42 | 284 => 43 | 285 => 44 | 286 => 45 | 129 => 52 | 317 => 51 | 318 => 53 | 319 => 54 | 320 => 55 | 337 => 61 | 338 => 62 | n => n, fun | 3 => 3 | 9 => 9 | 2 => 2 | 4 => 4 | 171 => 63 | 0 => 0 | 53 => 23 | 37 => 49 | 5 => 5 | 173 => 65 | 212 => 73 | 51 => 74 | 20 => 20 | 213 => 75 | 46 => 47 | 232 => 91 | 233 => 92 | n => n, fun | 17 => 0 | 18 => 4 | 19 => 5 | n => n⟩
theorem Tryd.lays171 : Go.Proofs.Lays.n171 Tryd.prog Tryd.lays171_ren := {
  mixed := by kernel_rfl
  f129 := Tryd.func52.trans (congrArg some (by kernel_rfl))
  f171 := Tryd.func25.trans (congrArg some (by kernel_rfl))
  f243 := Tryd.func29.trans (congrArg some (by kernel_rfl))
  f246 := Tryd.func37.trans (congrArg some (by kernel_rfl))
  f283 := Tryd.func42.trans (congrArg some (by kernel_rfl))
  f284 := Tryd.func43.trans (congrArg some (by kernel_rfl))
  f285 := Tryd.func44.trans (congrArg some (by kernel_rfl))
  f286 := Tryd.func45.trans (congrArg some (by kernel_rfl))
  f317 := Tryd.func51.trans (congrArg some (by kernel_rfl))
  f318 := Tryd.func53.trans (congrArg some (by kernel_rfl))
  f319 := Tryd.func54.trans (congrArg some (by kernel_rfl))
  f320 := Tryd.func55.trans (congrArg some (by kernel_rfl))
  f337 := Tryd.func61.trans (congrArg some (by kernel_rfl))
  f338 := Tryd.func62.trans (congrArg some (by kernel_rfl))
  t0 := Tryd.underlying0
  a0 := Tryd.isAgg0
  z0 := Tryd.sizeOf0
  v0 := Tryd.zeroValue0
  t2 := Tryd.underlying2
  a2 := Tryd.isAgg2
  z2 := Tryd.sizeOf2
  v2 := Tryd.zeroValue2
  t3 := Tryd.underlying3
  a3 := Tryd.isAgg3
  z3 := Tryd.sizeOf3
  v3 := Tryd.zeroValue3
  t4 := Tryd.underlying4
  a4 := Tryd.isAgg4
  z4 := Tryd.sizeOf4
  v4 := Tryd.zeroValue4
  t5 := Tryd.underlying5
  a5 := Tryd.isAgg5
  z5 := Tryd.sizeOf5
  v5 := Tryd.zeroValue5
  t9 := Tryd.underlying9
  a9 := Tryd.isAgg9
  z9 := Tryd.sizeOf9
  v9 := Tryd.zeroValue9
  t20 := Tryd.underlying20
  a20 := Tryd.isAgg20
  z20 := Tryd.sizeOf20
  v20 := Tryd.zeroValue20
  t37 := Tryd.underlying49
  a37 := Tryd.isAgg49
  z37 := Tryd.sizeOf49
  v37 := Tryd.zeroValue49
  t46 := Tryd.underlying47
  a46 := Tryd.isAgg47
  z46 := Tryd.sizeOf47
  v46 := Tryd.zeroValue47
  t51 := Tryd.underlying74
  a51 := Tryd.isAgg74
  z51 := Tryd.sizeOf74
  v51 := Tryd.zeroValue74
  t53 := Tryd.underlying23
  a53 := Tryd.isAgg23
  z53 := Tryd.sizeOf23
  v53 := Tryd.zeroValue23
  t171 := Tryd.underlying63
  a171 := Tryd.isAgg63
  z171 := Tryd.sizeOf63
  v171 := Tryd.zeroValue63
  t173 := Tryd.underlying65
  a173 := Tryd.isAgg65
  z173 := Tryd.sizeOf65
  v173 := Tryd.zeroValue65
  t212 := Tryd.underlying73
  a212 := Tryd.isAgg73
  z212 := Tryd.sizeOf73
  v212 := Tryd.zeroValue73
  t213 := Tryd.underlying75
  a213 := Tryd.isAgg75
  z213 := Tryd.sizeOf75
  t232 := Tryd.underlying91
  a232 := Tryd.isAgg91
  z232 := Tryd.sizeOf91
  v232 := Tryd.zeroValue91
  t233 := Tryd.underlying92
  a233 := Tryd.isAgg92
  z233 := Tryd.sizeOf92
  v233 := Tryd.zeroValue92
  g17 := by kernel_rfl
  g18 := by kernel_rfl
  g19 := by kernel_rfl }
open Go.RowKit Go.Sort Go.Lib in
/-- THE ROAD WITHOUT THE TABLE: 0 <= i < 100: NO PREMISE ON THE WORLD, AND THE WORLD IS AS IT WAS: a row that keeps its argument in that range need list no table ('laid = []'). (LAID: no walk: one application.) -/
theorem Tryd.strconv_Itoa_small (i : Nat) (hi : i < 100) (w : World) :
    Calls Tryd.prog 25 #[.int .i64 i] w fun e w' => e = .returned (.string ⟨(Lib.decDigits i).toArray⟩) ∧ w' = w := Any.strconv_Itoa_small Tryd.lays171 i hi w
def Tryd.laysC172_ren : Go.Shelf.Ren := ⟨fun | 172 => 40 | 244 => 48 | 245 => 49 | 247 => 56 | 279 => 57 | 280 => 58 | 281 => 59 | 282 => 60 | 287 => 63 | 316 => 64 | 171 => 25 | 205 => 65 | 321 => 66 | 322 => 67 | 243 => 29 | 246 => 37 | 283 => 42 | 284 => 43 | 285 => 44 | 286 => 45 | 129 => 52 | 317 => 51 | 318 => 53 | 319 => 54 | 320 => 55 | 337 => 61 | 338 => 62 | n => n, fun | 9 => 9 | 3 => 3 | 75 => 54 | 76 => 55 | 4 => 4 | 5 => 5 | 167 => 78 | 37 => 49 | 0 => 0 | 85 => 79 | 2 => 2 | 168 => 81 | 53 => 23 | 175 => 85 | 46 => 47 | 210 => 89 | 127 => 62 | 145 => 96 | 143 => 94 | 21 => 21 | 171 => 63 | 173 => 65 | 212 => 73 | 51 => 74 | 20 => 20 | 213 => 75 | 232 => 91 | 233 => 92 | 80 => 57 | n => n, fun | 15 => 2 | 16 => 3 | 17 => 0 | 18 => 4 | 19 => 5 | n => n⟩
theorem Tryd.laysC172 : Go.Proofs.LaysC.n172 Tryd.prog Tryd.laysC172_ren := {
  mixed := by kernel_rfl
  f129 := Tryd.func52.trans (congrArg some (by kernel_rfl))
  f171 := Tryd.func25.trans (congrArg some (by kernel_rfl))
  f172 := Tryd.func40.trans (congrArg some (by kernel_rfl))
  f205 := Tryd.func65.trans (congrArg some (by kernel_rfl))
  f243 := Tryd.func29.trans (congrArg some (by kernel_rfl))
  f244 := Tryd.func48.trans (congrArg some (by kernel_rfl))
  f245 := Tryd.func49.trans (congrArg some (by kernel_rfl))
  f246 := Tryd.func37.trans (congrArg some (by kernel_rfl))
  f247 := Tryd.func56.trans (congrArg some (by kernel_rfl))
  f279 := Tryd.func57.trans (congrArg some (by kernel_rfl))
  f280 := Tryd.func58.trans (congrArg some (by kernel_rfl))
  f281 := Tryd.func59.trans (congrArg some (by kernel_rfl))
  f282 := Tryd.func60.trans (congrArg some (by kernel_rfl))
  f283 := Tryd.func42.trans (congrArg some (by kernel_rfl))
  f284 := Tryd.func43.trans (congrArg some (by kernel_rfl))
  f285 := Tryd.func44.trans (congrArg some (by kernel_rfl))
  f286 := Tryd.func45.trans (congrArg some (by kernel_rfl))
  f287 := Tryd.func63.trans (congrArg some (by kernel_rfl))
  f316 := Tryd.func64.trans (congrArg some (by kernel_rfl))
  f317 := Tryd.func51.trans (congrArg some (by kernel_rfl))
  f318 := Tryd.func53.trans (congrArg some (by kernel_rfl))
  f319 := Tryd.func54.trans (congrArg some (by kernel_rfl))
  f320 := Tryd.func55.trans (congrArg some (by kernel_rfl))
  f321 := Tryd.func66.trans (congrArg some (by kernel_rfl))
  f322 := Tryd.func67.trans (congrArg some (by kernel_rfl))
  f337 := Tryd.func61.trans (congrArg some (by kernel_rfl))
  f338 := Tryd.func62.trans (congrArg some (by kernel_rfl))
  t0 := Tryd.underlying0
  a0 := Tryd.isAgg0
  z0 := Tryd.sizeOf0
  v0 := Tryd.zeroValue0
  t2 := Tryd.underlying2
  a2 := Tryd.isAgg2
  z2 := Tryd.sizeOf2
  v2 := Tryd.zeroValue2
  t3 := Tryd.underlying3
  a3 := Tryd.isAgg3
  z3 := Tryd.sizeOf3
  v3 := Tryd.zeroValue3
  t4 := Tryd.underlying4
  a4 := Tryd.isAgg4
  z4 := Tryd.sizeOf4
  v4 := Tryd.zeroValue4
  t5 := Tryd.underlying5
  a5 := Tryd.isAgg5
  z5 := Tryd.sizeOf5
  v5 := Tryd.zeroValue5
  t9 := Tryd.underlying9
  a9 := Tryd.isAgg9
  z9 := Tryd.sizeOf9
  v9 := Tryd.zeroValue9
  t20 := Tryd.underlying20
  a20 := Tryd.isAgg20
  z20 := Tryd.sizeOf20
  v20 := Tryd.zeroValue20
  t21 := Tryd.underlying21
  a21 := Tryd.isAgg21
  z21 := Tryd.sizeOf21
  v21 := Tryd.zeroValue21
  t37 := Tryd.underlying49
  a37 := Tryd.isAgg49
  z37 := Tryd.sizeOf49
  v37 := Tryd.zeroValue49
  t46 := Tryd.underlying47
  a46 := Tryd.isAgg47
  z46 := Tryd.sizeOf47
  v46 := Tryd.zeroValue47
  t51 := Tryd.underlying74
  a51 := Tryd.isAgg74
  z51 := Tryd.sizeOf74
  v51 := Tryd.zeroValue74
  t53 := Tryd.underlying23
  a53 := Tryd.isAgg23
  z53 := Tryd.sizeOf23
  v53 := Tryd.zeroValue23
  t75 := Tryd.underlying54
  a75 := Tryd.isAgg54
  z75 := Tryd.sizeOf54
  v75 := Tryd.zeroValue54
  t76 := Tryd.underlying55
  a76 := Tryd.isAgg55
  z76 := Tryd.sizeOf55
  v76 := Tryd.zeroValue55
  t85 := Tryd.underlying79
  a85 := Tryd.isAgg79
  z85 := Tryd.sizeOf79
  v85 := Tryd.zeroValue79
  t127 := Tryd.underlying62
  a127 := Tryd.isAgg62
  z127 := Tryd.sizeOf62
  v127 := Tryd.zeroValue62
  t143 := Tryd.underlying94
  a143 := Tryd.isAgg94
  z143 := Tryd.sizeOf94
  v143 := Tryd.zeroValue94
  t145 := Tryd.underlying96
  a145 := Tryd.isAgg96
  z145 := Tryd.sizeOf96
  v145 := Tryd.zeroValue96
  t167 := Tryd.underlying78
  a167 := Tryd.isAgg78
  z167 := Tryd.sizeOf78
  v167 := Tryd.zeroValue78
  t168 := Tryd.underlying81
  a168 := Tryd.isAgg81
  z168 := Tryd.sizeOf81
  v168 := Tryd.zeroValue81
  t171 := Tryd.underlying63
  a171 := Tryd.isAgg63
  z171 := Tryd.sizeOf63
  v171 := Tryd.zeroValue63
  t173 := Tryd.underlying65
  a173 := Tryd.isAgg65
  z173 := Tryd.sizeOf65
  v173 := Tryd.zeroValue65
  t175 := Tryd.underlying85
  a175 := Tryd.isAgg85
  z175 := Tryd.sizeOf85
  v175 := Tryd.zeroValue85
  t210 := Tryd.underlying89
  a210 := Tryd.isAgg89
  z210 := Tryd.sizeOf89
  v210 := Tryd.zeroValue89
  t212 := Tryd.underlying73
  a212 := Tryd.isAgg73
  z212 := Tryd.sizeOf73
  v212 := Tryd.zeroValue73
  t213 := Tryd.underlying75
  a213 := Tryd.isAgg75
  z213 := Tryd.sizeOf75
  t232 := Tryd.underlying91
  a232 := Tryd.isAgg91
  z232 := Tryd.sizeOf91
  v232 := Tryd.zeroValue91
  t233 := Tryd.underlying92
  a233 := Tryd.isAgg92
  z233 := Tryd.sizeOf92
  v233 := Tryd.zeroValue92
  g15 := by kernel_rfl
  g16 := by kernel_rfl
  g17 := by kernel_rfl
  g18 := by kernel_rfl
  g19 := by kernel_rfl
  t80 := Tryd.underlying57
  a80 := Tryd.isAgg57
  z80 := Tryd.sizeOf57
  v80 := Tryd.zeroValue57
  i0 := by kernel_rfl
  i2 := by kernel_rfl
  i3 := by kernel_rfl
  i4 := by kernel_rfl
  i5 := by kernel_rfl
  i9 := by kernel_rfl
  i20 := by kernel_rfl
  i21 := by kernel_rfl
  i37 := by kernel_rfl
  i46 := by kernel_rfl
  i51 := by kernel_rfl
  i53 := by kernel_rfl
  i75 := by kernel_rfl
  i76 := by kernel_rfl
  i80 := by kernel_rfl
  i85 := by kernel_rfl
  i127 := by kernel_rfl
  i143 := by kernel_rfl
  i145 := by kernel_rfl
  i167 := by kernel_rfl
  i168 := by kernel_rfl
  i171 := by kernel_rfl
  i173 := by kernel_rfl
  i175 := by kernel_rfl
  i210 := by kernel_rfl
  i212 := by kernel_rfl
  i232 := by kernel_rfl
  i233 := by kernel_rfl
  m15 := by kernel_rfl
  m16 := by kernel_rfl
  m17 := by kernel_rfl
  m18 := by kernel_rfl
  m19 := by kernel_rfl
  c0 := by kernel_rfl
  c2 := by kernel_rfl
  c3 := by kernel_rfl
  c4 := by kernel_rfl
  c5 := by kernel_rfl
  c9 := by kernel_rfl
  c20 := by kernel_rfl
  c21 := by kernel_rfl
  c37 := by kernel_rfl
  c46 := by kernel_rfl
  c51 := by kernel_rfl
  c53 := by kernel_rfl
  c75 := by kernel_rfl
  c76 := by kernel_rfl
  c80 := by kernel_rfl
  c85 := by kernel_rfl
  c127 := by kernel_rfl
  c143 := by kernel_rfl
  c145 := by kernel_rfl
  c167 := by kernel_rfl
  c168 := by kernel_rfl
  c171 := by kernel_rfl
  c173 := by kernel_rfl
  c175 := by kernel_rfl
  c210 := by kernel_rfl
  c212 := by kernel_rfl
  c213 := by kernel_rfl
  c232 := by kernel_rfl
  c233 := by kernel_rfl }
open Go.RowKit in
/-- strconv.Atoi, AT EVERY STRING OF AT MOST 18 BYTES THAT IS NO DECIMAL NUMERAL (the empty one too): 0, AND AN ERROR THAT IS NOT nil: a *NumError in a new block N: {Func: "Atoi", Num: s's bytes, Err: what the variable ErrSyntax holds}. Of what was there nothing has turned. (LAID: no walk: one application.) -/
theorem Tryd.strconv_Atoi_err (s : ByteArray) (hl : s.size ≤ 18) (h : Lib.atoi s.data.toList = none) (ev : Value) (w : World) (hv : w.cell? ⟨2, 0, none⟩ = some ev) (hev : ev = .nilIface ∨ ∃ te pe, ev = .iface te pe) :
    Calls Tryd.prog 40 #[.string s] w fun e w' => ∃ N, e = .returned (.tuple #[.int .i64 0, .iface 81 (.pointer (some ⟨N, 0, none⟩))]) ∧ w.heap.size ≤ N ∧ w'.heap[N]? = some (.cells #[.string ⟨#[65, 116, 111, 105]⟩, .string s, ev] 89 (0, 0)) ∧ Below w.heap.size w w' := Any.strconv_Atoi_err Tryd.laysC172 s hl h ev w hv hev
def Tryd.lays99_ren : Go.Shelf.Ren := ⟨fun | 99 => 41 | 206 => 50 | n => n, fun | 9 => 9 | 4 => 4 | 3 => 3 | n => n, fun | n => n⟩
theorem Tryd.lays99 : Go.Proofs.Lays.n99 Tryd.prog Tryd.lays99_ren := {
  mixed := by kernel_rfl
  f99 := Tryd.func41.trans (congrArg some (by kernel_rfl))
  f206 := Tryd.func50.trans (congrArg some (by kernel_rfl))
  t3 := Tryd.underlying3
  a3 := Tryd.isAgg3
  z3 := Tryd.sizeOf3
  v3 := Tryd.zeroValue3
  t4 := Tryd.underlying4
  a4 := Tryd.isAgg4
  z4 := Tryd.sizeOf4
  v4 := Tryd.zeroValue4
  t9 := Tryd.underlying9
  a9 := Tryd.isAgg9
  z9 := Tryd.sizeOf9
  v9 := Tryd.zeroValue9 }
open Go.RowKit Go.Lib in
/-- strings.HasPrefix: "HasPrefix reports whether the string s begins with prefix.": IT RETURNS 'Lib.hasPrefix s prefix'; the world is as it was. (LAID: no walk: one application.) -/
theorem Tryd.strings_HasPrefix (s p : ByteArray) (w : World) :
    Calls Tryd.prog 41 #[.string s, .string p] w fun e w' => e = .returned (.bool (Lib.hasPrefix s.data.toList p.data.toList)) ∧ w' = w := Any.strings_HasPrefix Tryd.lays99 s p w
end Go.Proofs

/-
  Numbers of 64 bits, bit by bit.
-/
namespace Lf
open Go

abbrev InU (x : Int) : Prop := 0 ≤ x ∧ x < 18446744073709551616

def bit (x : Int) (n : Nat) : Bool := x.toNat.testBit n

theorem wrapU {x : Int} (h : InU x) : IntKind.wrap .u64 x = x := by
  unfold IntKind.wrap
  simp only [IntKind.signed, IntKind.bits]
  have := h.1
  have := h.2
  simp
  omega

theorem ofInt_nat {x : Int} (h : InU x) : BitVec.ofInt 64 x = BitVec.ofNat 64 x.toNat := by
  obtain ⟨n, rfl⟩ := Int.eq_ofNat_of_zero_le h.1
  rfl

theorem bit_and {x n : Int} (h : InU x) (h0 : 0 ≤ n) (h1 : n ≤ 63) : (bitsI .and .u64 (shrI .u64 x n) 1 == 1) = bit x n.toNat := by
  obtain ⟨X, rfl⟩ := Int.eq_ofNat_of_zero_le h.1
  obtain ⟨N, rfl⟩ := Int.eq_ofNat_of_zero_le h0
  have hX : X < 18446744073709551616 := by have := h.2; omega
  have hN : N ≤ 63 := by omega
  have e1 : shrI .u64 (X : Int) (N : Int) = ((X / 2 ^ N : Nat) : Int) := by
    unfold shrI
    have : min (N : Int).toNat (IntKind.bits .u64) = N := by simp [IntKind.bits]; omega
    rw [this, Int.fdiv_eq_ediv_of_nonneg _ (by exact Int.pow_nonneg (by decide))]
    norm_cast
  rw [e1]
  have hlt : X / 2 ^ N < 18446744073709551616 := Nat.lt_of_le_of_lt (Nat.div_le_self _ _) hX
  have e2 : ((BitVec.ofInt (IntKind.bits .u64) ((X / 2 ^ N : Nat) : Int) &&& BitVec.ofInt (IntKind.bits .u64) 1).toNat) = (X / 2 ^ N) % 2 := by
    show ((BitVec.ofNat 64 (X / 2 ^ N)) &&& (BitVec.ofNat 64 1)).toNat = _
    rw [BitVec.toNat_and, BitVec.toNat_ofNat, BitVec.toNat_ofNat, Nat.mod_eq_of_lt hlt]
    exact Nat.and_one_is_mod _
  simp only [bitsI, e2]
  rw [wrapU ⟨by omega, by omega⟩]
  simp only [bit, Int.toNat_natCast, Nat.testBit_eq_decide_div_mod_eq]
  by_cases hb : (X / 2 ^ N) % 2 = 1
  · simp [hb]
  · have : (X / 2 ^ N) % 2 = 0 := by omega
    simp [this]

theorem bit_sub {a b : Int} (ha : InU a) (hb : InU b) : (bitsI .andNot .u64 a b == 0) = true ↔ ∀ n, n < 64 → bit a n = true → bit b n = true := by
  have e : bitsI .andNot .u64 a b = (((BitVec.ofNat 64 a.toNat) &&& ~~~ (BitVec.ofNat 64 b.toNat)).toNat : Int) := by
    show IntKind.wrap .u64 ((BitVec.ofInt 64 a &&& ~~~ BitVec.ofInt 64 b).toNat : Int) = _
    rw [ofInt_nat ha, ofInt_nat hb, wrapU ⟨by omega, by have := ((BitVec.ofNat 64 a.toNat) &&& ~~~ (BitVec.ofNat 64 b.toNat)).isLt; omega⟩]
  rw [e]
  have e2 : ((((BitVec.ofNat 64 a.toNat) &&& ~~~ (BitVec.ofNat 64 b.toNat)).toNat : Int) == 0) = true ↔ (BitVec.ofNat 64 a.toNat) &&& ~~~ (BitVec.ofNat 64 b.toNat) = 0#64 := by
    rw [BitVec.toNat_eq]
    simp
  rw [e2]
  have ga : ∀ n, n < 64 → (BitVec.ofNat 64 a.toNat).getLsbD n = bit a n := fun n hn => by rw [BitVec.getLsbD_ofNat]; simp [bit, hn]
  have gb : ∀ n, n < 64 → (BitVec.ofNat 64 b.toNat).getLsbD n = bit b n := fun n hn => by rw [BitVec.getLsbD_ofNat]; simp [bit, hn]
  constructor
  · intro h n hn h1
    have := congrArg (fun v => v.getLsbD n) h
    simp only [BitVec.getLsbD_and, BitVec.getLsbD_not, ga n hn, gb n hn, h1, hn, decide_true, Bool.true_and, BitVec.getLsbD_zero] at this
    simpa using this
  · intro h
    apply BitVec.eq_of_getLsbD_eq
    intro n hn
    simp only [BitVec.getLsbD_and, BitVec.getLsbD_not, ga n hn, gb n hn, hn, decide_true, Bool.true_and, BitVec.getLsbD_zero]
    cases h1 : bit a n with
    | false => rfl
    | true => simp [h n hn h1]

end Lf

