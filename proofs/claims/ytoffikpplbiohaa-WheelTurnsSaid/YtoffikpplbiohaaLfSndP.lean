/-
  The lifting layer, part 20: a region whose order is drawn, told in one order.
-/
import Derived.Test.YtoffikpplbiohaaLfSndO
namespace Lf
open Go

theorem binds_any (e : Edge) : bindsAny e = Region.binds .any e := by
  unfold Region.binds bindsAny
  cases e.ground <;> rfl

theorem mem_waits {o : Oper} {k : Nat} (h : k ∈ waits o) : ∃ e ∈ o.after, e.on = k ∧ Region.binds .any e = true := by
  have key : ∀ l : List Edge, k ∈ waits.go l → ∃ e ∈ l, e.on = k ∧ Region.binds .any e = true := by
    intro l
    induction l with
    | nil => intro h; cases h
    | cons x l ih =>
      intro h
      simp only [waits.go] at h
      cases hx : bindsAny x with
      | false =>
        simp only [hx, cond_false] at h
        obtain ⟨e, h1, h2⟩ := ih h
        exact ⟨e, List.mem_cons_of_mem _ h1, h2⟩
      | true =>
        simp only [hx, cond_true] at h
        rcases List.mem_cons.1 h with e | h
        · exact ⟨x, List.mem_cons_self .., e.symm, by rw [← binds_any, hx]⟩
        · obtain ⟨e, h1, h2⟩ := ih h
          exact ⟨e, List.mem_cons_of_mem _ h1, h2⟩
  obtain ⟨e, h1, h2⟩ := key _ h
  exact ⟨e, by simpa using h1, h2⟩

theorem dst_inj {t : Nat} : ∀ {L : List Oper} {i j : Nat} {o p : Oper}, (modsO L).Nodup → L[i]? = some o → L[j]? = some p → o.dst = some t → p.dst = some t → i = j
  | [], _, _, _, _, _, e, _, _, _ => by simp at e
  | x :: L, 0, 0, _, _, _, _, _, _, _ => rfl
  | x :: L, 0, j + 1, o, p, hn, e, e', h, h' => by
    simp at e e'
    subst e
    simp only [modsO, h] at hn
    exact absurd (modsO_mem (List.mem_of_getElem? e') h') (List.nodup_cons.1 hn).1
  | x :: L, i + 1, 0, o, p, hn, e, e', h, h' => by
    simp at e e'
    subst e'
    simp only [modsO, h'] at hn
    exact absurd (modsO_mem (List.mem_of_getElem? e) h) (List.nodup_cons.1 hn).1
  | x :: L, i + 1, j + 1, o, p, hn, e, e', h, h' => by
    have hn' : (modsO L).Nodup := by
      simp only [modsO] at hn
      split at hn
      · exact (List.nodup_cons.1 hn).2
      · exact hn
    have e1 : L[i]? = some o := by simpa using e
    have e2 : L[j]? = some p := by simpa using e'
    have := dst_inj hn' e1 e2 h h'
    omega

def Topo (L : List Oper) : List Nat → Prop
  | [] => True
  | i :: d => (∀ o, L[i]? = some o → ∀ k ∈ waits o, k ∈ d) ∧ Topo L d

theorem topo_first {L : List Oper} {ls : List Nat} : ∀ {d : List Nat}, Topo L d → (∃ i ∈ d, i ∉ ls) → ∃ i ∈ d, i ∉ ls ∧ ∀ o, L[i]? = some o → ∀ k ∈ waits o, k ∈ ls
  | [], _, ⟨i, hi, _⟩ => by cases hi
  | i :: d, ht, hx => by
    by_cases hd : ∃ j ∈ d, j ∉ ls
    · obtain ⟨j, h1, h2⟩ := topo_first ht.2 hd
      exact ⟨j, List.mem_cons_of_mem _ h1, h2⟩
    · have hall : ∀ j ∈ d, j ∈ ls := fun j hj => Classical.byContradiction fun e => hd ⟨j, hj, e⟩
      obtain ⟨j, hj, hn⟩ := hx
      rcases List.mem_cons.1 hj with rfl | hj
      · exact ⟨j, List.mem_cons_self .., hn, fun o ho k hk => hall k (ht.1 o ho k hk)⟩
      · exact absurd (hall j hj) hn

def CurP (L : List Oper) (done ls : List Nat) (t : Nat) : Prop := ∀ i o, i ∈ done → i ∉ ls → L[i]? = some o → o.dst ≠ some t
def DnP (L : List Oper) (done : List Nat) (t : Nat) : Prop := ∃ i o, i ∈ done ∧ L[i]? = some o ∧ o.dst = some t
def NnP (C : Ctx) (L : List Oper) (done : List Nat) (k : Nat) : Prop := ∃ i o, i ∉ done ∧ L[i]? = some o ∧ privA C.priv o k
def LivP (C : Ctx) (L : List Oper) (done ls : List Nat) (k : Nat) : Prop := (∀ i o, i ∈ done → i ∉ ls → L[i]? = some o → ¬ privA C.priv o k) ∧ ¬ NnP C L done k

/-- The state that is told ('done': the operations told of) and memory ('ls': those carried out). -/
structure Sim (C : Ctx) (L : List Oper) (mok : List Nat) (n : Nat) (lv0 : Nat → Prop) (β0 : Nat → Nat) (a0 : Act) (h0 : Hp) (w0 : World) (done ls : List Nat) (listed : Array Bool) (β : Nat → Nat) (s : St) (a : Act) (h : Hp) (w : World) : Prop where
  lsz : listed.size = L.length
  lst : ∀ i, listed.getD i false = true ↔ i ∈ ls
  lnd : ls.Nodup
  lsub : ∀ i ∈ ls, i ∈ done
  dlt : ∀ i ∈ done, i < L.length
  clos : Clos L (· ∈ ls)
  dclos : Clos L (· ∈ done)
  topo : Topo L done
  rr : RR n (CurP L done ls) (LivP C L done ls) (DnP L done) (NnP C L done) β s a h w
  facts : ∀ i o, i ∈ done → i ∉ ls → L[i]? = some o → PFact C L o s h ∧ looksOk L (aheads L []) i o = true ∧ isWar (aheads L []) i o L 0 = false ∧ ∀ d, privA C.priv o d → d ∈ mok
  seg : Seg (modsO L) mok lv0 β0 a0 h0 w0 (live s (LivP C L done ls)) β a h w

section
variable {C : Ctx} {L : List Oper} {mok : List Nat} {n : Nat} {lv0 : Nat → Prop} {β0 : Nat → Nat} {a0 : Act} {h0 : Hp} {w0 : World} {done ls : List Nat} {listed : Array Bool} {β : Nat → Nat} {s : St} {a : Act} {h : Hp} {w : World}

theorem get_same {i : Nat} {o p : Oper} (h : L[i]? = some o) (h' : L[i]? = some p) : p = o := by rw [h] at h'; cases h'; rfl

theorem curP_exec (hnd : (modsO L).Nodup) {i : Nat} {o : Oper} (hi : L[i]? = some o) (hd : i ∈ done) (t : Nat) : CurP L done (i :: ls) t ↔ (o.dst = some t ∨ CurP L done ls t) := by
  constructor
  · intro hc
    by_cases ht : o.dst = some t
    · exact .inl ht
    · refine .inr fun j p h1 h2 h3 => ?_
      by_cases hj : j = i
      · subst hj; rw [get_same hi h3]; exact ht
      · exact hc j p h1 (fun e => by rcases List.mem_cons.1 e with e | e
                                     · exact hj e
                                     · exact h2 e) h3
  · rintro (ht | hc) j p h1 h2 h3
    · intro e
      exact h2 (by rw [dst_inj hnd h3 hi e ht]; exact List.mem_cons_self ..)
    · exact hc j p h1 (fun e => h2 (List.mem_cons_of_mem _ e)) h3

theorem livP_exec (hnd : (modsO L).Nodup) {i : Nat} {o : Oper} (hi : L[i]? = some o) (hd : i ∈ done) (k : Nat) : LivP C L done (i :: ls) k ↔ (privA C.priv o k ∨ LivP C L done ls k) := by
  constructor
  · rintro ⟨h1, h2⟩
    by_cases hp : privA C.priv o k
    · exact .inl hp
    · refine .inr ⟨fun j p e1 e2 e3 => ?_, h2⟩
      by_cases hj : j = i
      · subst hj; rw [get_same hi e3]; exact hp
      · exact h1 j p e1 (fun e => by rcases List.mem_cons.1 e with e | e
                                     · exact hj e
                                     · exact e2 e) e3
  · rintro (hp | ⟨h1, h2⟩)
    · refine ⟨fun j p e1 e2 e3 e4 => e2 (by rw [dst_inj hnd e3 hi e4.2 hp.2]; exact List.mem_cons_self ..), ?_⟩
      rintro ⟨j, p, e1, e2, e3⟩
      exact e1 (by rw [dst_inj hnd e2 hi e3.2 hp.2]; exact hd)
    · exact ⟨fun j p e1 e2 e3 => h1 j p e1 (fun e => e2 (List.mem_cons_of_mem _ e)) e3, h2⟩

theorem set_listed {i j : Nat} (hsz : listed.size = L.length) (hi : i < L.length) (hl : ∀ i, listed.getD i false = true ↔ i ∈ ls) : (listed.setIfInBounds i true).getD j false = true ↔ j ∈ i :: ls := by
  by_cases hj : j = i
  · subst hj
    simp [hsz, hi]
  · have := hl j
    simp [Array.getElem?_setIfInBounds_ne (Ne.symm hj), hj] at this ⊢
    exact this

theorem chainsD (hs : Sim C L mok n lv0 β0 a0 h0 w0 done ls listed β s a h w) {i : Nat} {o : Oper} (hi : L[i]? = some o) (hw : ∀ k ∈ waits o, k ∈ done) (hlk : looksOk L (aheads L []) i o = true) {ch : Chain}
    (hch : chainOf L L.length o = some ch) (hg : guardOk s ch = true) : ∀ p ∈ ch, DnP L done p.1 :=
  chain_D hs.rr hch hg fun j b p d e1 e2 e3 => ⟨j, p, rows_ahead (looks_guard hlk e1) (· ∈ done) hs.dclos (fun o' ho' => by rw [get_same hi ho']; exact hw), by rw [← nth_get]; exact e2, e3⟩

/-- A pending operation is carried out. -/
theorem pend_exec (ok : C.tb.Ok C.P) {ops : Array Oper} (hops : ops.toList = L) (hnd : (modsO L).Nodup)
    (hs : Sim C L mok n lv0 β0 a0 h0 w0 done ls listed β s a h w) {i : Nat} {o : Oper} (hi : L[i]? = some o) (hd : i ∈ done) (hn : i ∉ ls) (hw : ∀ k ∈ waits o, k ∈ ls)
    (next : Act → World → Prop) (Q : Exit → Act → World → Prop)
    (hk : ∀ β' a' w', Sim C L mok n lv0 β0 a0 h0 w0 done (i :: ls) (listed.setIfInBounds i true) β' s a' h w' → next a' w') : wpOp C.P ops Q i next a w := by
  obtain ⟨⟨ch, hch, hg, hpf⟩, hlk, hwar, hmm⟩ := hs.facts i o hd hn hi
  have hah : ∀ j ∈ aheadOf (aheads L []) i, j ∈ ls := fun j hj => rows_ahead hj (· ∈ ls) hs.clos (fun o' ho' => by rw [get_same hi ho']; exact hw)
  have hcur : ∀ t, Operand.tmp t ∈ o.op.operands → CurP L done ls t := fun t ht j p h1 h2 h3 h4 => by
    have := war_get h4 (hs.facts j p h1 h2 h3).2.2.1 i o hi ht
    rw [Nat.zero_add] at this
    exact h2 (hah j this)
  have hgc : ∀ j b p d, o.guard = some (j, b) → nth L j = some p → p.dst = some d → CurP L done ls d := fun j b p d e1 e2 e3 j' p' h1 h2 h3 h4 => by
    rw [nth_get] at e2
    have := dst_inj hnd h3 e2 h4 e3
    subst this
    exact h2 (hah _ (looks_guard hlk e1))
  have hopnd : ∀ x ∈ o.op.operands, Opnd β s a.eval x := fun x hx => opnd_rr hs.rr fun t e => hcur t (e ▸ hx)
  have hw' := wanted_iff (ops := ops) hs.rr (by rw [hops]; exact hch) hg (by rw [hops]; exact hgc)
  have hoi : ops[i]? = some o := by rw [← hops] at hi; simpa using hi
  have hilt : i < L.length := hs.dlt i hd
  have hncur : ∀ d, o.dst = some d → ¬ CurP L done ls d := fun d e hc => hc i o hd hn hi e
  -- what is so whichever it was
  have fin : ∀ β' a' w', RR n (CurP L done (i :: ls)) (LivP C L done (i :: ls)) (DnP L done) (NnP C L done) β' s a' h w' → Seg (modsO L) mok (live s (LivP C L done ls)) β a h w (live s (LivP C L done (i :: ls))) β' a' h w' → next a' w' := by
    intro β' a' w' hr hsg
    refine hk β' a' w' ⟨by simpa using hs.lsz, fun j => set_listed hs.lsz hilt hs.lst, List.nodup_cons.2 ⟨hn, hs.lnd⟩, fun j hj => ?_, hs.dlt, ?_, hs.dclos, hs.topo, hr, fun j p h1 h2 h3 => hs.facts j p h1 (fun e => h2 (List.mem_cons_of_mem _ e)) h3, hs.seg.trans hsg⟩
    · rcases List.mem_cons.1 hj with rfl | hj
      · exact hd
      · exact hs.lsub j hj
    · intro j p hj hjm k hk'
      rcases List.mem_cons.1 hjm with rfl | hjm
      · rw [get_same hi hj] at hk'
        exact List.mem_cons_of_mem _ (hw k hk')
      · exact List.mem_cons_of_mem _ (hs.clos j p hj hjm k hk')
  have hdl : ∀ d, o.dst = some d → d ∈ modsO L := fun d e => modsO_mem (List.mem_of_getElem? hi) e
  unfold wpOp
  simp only [hoi]
  rcases hpf with ⟨hval, _, l, hl, hrun, hprov, _⟩ | ⟨rfl, hval, d, cs, hp, hfd, hmd, hrun⟩
  · have hnp : ∀ k, ¬ privA C.priv o k := not_priv (val_not_priv hval)
    have hliv : ∀ k, LivP C L done (i :: ls) k ↔ LivP C L done ls k := fun k => by
      rw [livP_exec hnd hi hd k]
      exact ⟨fun e => e.resolve_left (hnp k), .inr⟩
    have main : ∀ (v : Value) (w' : World), Step h h w w' → (holds s ch → v = LVal β l) → (¬ holds s ch → v = undef) → next (a.put o.dst v) w' := by
      intro v w' hst h1 h2
      refine fin β _ w' ?_ (((Seg.step hst).trans (Seg.put (lv := live s (LivP C L done ls)) hdl)).mono (fun _ e => e) (fun _ e => e) (fun _ e => e) (fun k e => ⟨e.1, (hliv k).1 e.2⟩))
      have hr := hs.rr.step hst
      cases hdst : o.dst with
      | none => exact hr.congr (fun t => by rw [curP_exec hnd hi hd t]; simp [hdst]) hliv (fun _ e => e) (fun _ e => e)
      | some d =>
        have := hr.exec (v := v) (hl d hdst) (hncur d hdst) (fun hh => ⟨h1 hh, fun k off e => (prov_rr hs.rr hprov hh hcur k off e).1⟩) h2
        refine this.congr (fun t => ?_) hliv (fun _ e => e) (fun _ e => e)
        rw [curP_exec hnd hi hd t, hdst]
        constructor
        · rintro (e | e)
          · cases e; exact .inl rfl
          · exact .inr e
        · rintro (e | e)
          · exact .inl (by rw [e])
          · exact .inr e
    by_cases hh : holds s ch
    · rw [if_pos (hw'.2 hh)]
      left
      obtain ⟨w', hrw, hw1, hst⟩ := hrun hh β a.eval w hopnd (fun _ => hs.rr.sub) (fun _ => boxU_rr hs.rr hcur)
      unfold Oper.wp
      rw [hrw]
      have hst' : Step h h w w' := by
        cases hkd : kindD C.tb o ch s with
        | mem => exact hst hkd
        | pure => rw [hw1 (by rw [hkd]; simp)]; exact .refl hs.rr.sub
        | box => rw [hw1 (by rw [hkd]; simp)]; exact .refl hs.rr.sub
      exact main _ w' hst' (fun _ => rfl) (fun e => absurd hh e)
    · rw [if_neg (fun e => hh (hw'.1 e))]
      exact main _ w (.refl hs.rr.sub) (fun e => absurd e hh) (fun _ => rfl)
  · rw [if_pos (hw'.2 (holds_nil s))]
    left
    obtain ⟨t, hrw⟩ := hrun β a.eval w hopnd
    unfold Oper.wp
    rw [hrw]
    show next (a.put o.dst _) _
    have hnl : ¬ LivP C L done ls d := fun e => e.1 i o hd hn hi hp
    rw [hp.2]
    have hiff : ∀ k, privA C.priv o k ↔ k = d := fun k => ⟨fun e => by have := e.2; rw [hp.2] at this; cases this; rfl, fun e => e ▸ hp⟩
    refine fin _ _ _ ((hs.rr.execA t hfd hmd (hncur d hp.2) hnl).congr (fun t => ?_) (fun k => ?_) (fun _ e => e) (fun _ e => e)) ((segA (a := a) (β := β) t hs.rr.sub hmd hnl (hdl d hp.2) (hmm d hp)).mono (fun _ e => e) (fun _ e => e) (fun _ e => e) (fun k e => ⟨e.1, ?_⟩))
    · rw [curP_exec hnd hi hd t, hp.2]
      constructor
      · rintro (e | e)
        · cases e; exact .inl rfl
        · exact .inr e
      · rintro (e | e)
        · exact .inl (by rw [e])
        · exact .inr e
    · rw [livP_exec hnd hi hd k, hiff]
    · have := e.2
      rw [livP_exec hnd hi hd k, hiff] at this
      exact this

end
end Lf
