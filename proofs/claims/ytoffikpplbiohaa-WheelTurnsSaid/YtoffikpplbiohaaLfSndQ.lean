/-
  The lifting layer, part 21: an operation is told of.
-/
import Derived.Test.YtoffikpplbiohaaLfSndP
namespace Lf
open Go

section
variable {C : Ctx} {L : List Oper} {mok : List Nat} {n : Nat} {lv0 : Nat → Prop} {β0 : Nat → Nat} {a0 : Act} {h0 : Hp} {w0 : World} {done ls : List Nat} {listed : Array Bool} {β : Nat → Nat} {s : St} {a : Act} {h : Hp} {w : World}

/-- A fact stays where nothing that matters changes. -/
theorem pfact_like {D : Nat → Prop} {o : Oper} {s' : St} (k : Like D o s s') (hD : ∀ ch, chainOf L L.length o = some ch → guardOk s ch = true → ∀ p ∈ ch, D p.1) (hdD : ∀ d, o.dst = some d → D d)
    (hm : ∀ t, Operand.tmp t ∈ o.op.operands → ∀ b off c, (s.f t = some (.box b off, c) ∨ s.f t = some (.boxd b off, c)) → holds s c → s'.m b = s.m b) (hmd : ∀ d, privA C.priv o d → s'.m d = s.m d)
    (hp : PFact C L o s h) : PFact C L o s' h := by
  obtain ⟨ch, hch, hg, hpf⟩ := hp
  have hD := hD ch hch hg
  refine ⟨ch, hch, by rw [guardOk_like k hD]; exact hg, ?_⟩
  rcases hpf with ⟨hval, hrd, l, hl, hrun, hprov, hsh⟩ | ⟨rfl, hval, d, cs, hpa, hfd, hmd', hrun⟩
  · refine .inl ⟨hval, by rw [k.kind]; exact hrd, l, fun d e => by rw [k.dn d (hdD d e)]; exact hl d e, fun hh => ?_, k.prov hprov, fun hkd => hsh (by rw [← k.kind (s' := s')]; exact hkd)⟩
    rw [k.kind]
    exact runsK_like k (fun _ => hm) (fun _ => rfl) (hrun ((k.holds' hD).1 hh))
  · exact .inr ⟨rfl, hval, d, cs, hpa, by rw [k.dn d (hdD d hpa.2)]; exact hfd, by rw [hmd d hpa]; exact hmd', alloc_like k hrun⟩

/-- What the others need. -/
theorem like_new (hnd : (modsO L).Nodup) (hs : Sim C L mok n lv0 β0 a0 h0 w0 done ls listed β s a h w) {i : Nat} {o : Oper} (hi : L[i]? = some o) (hnd' : i ∉ done) {s' : St} (hf : ∀ t, o.dst ≠ some t → s'.f t = s.f t)
    {j : Nat} {p : Oper} (hj : L[j]? = some p) (hjd : j ∈ done) (hno : ∀ t, Operand.tmp t ∈ p.op.operands → o.dst = some t → False) : Like (DnP L done) p s s' := by
  refine ⟨fun t ht => hf t fun e => ?_, fun t ht => hf t fun e => hno t ht e, fun t l c e q hq => hs.rr.chain t l c e q hq⟩
  obtain ⟨j', p', h1, h2, h3⟩ := ht
  have := dst_inj hnd h2 hi h3 e
  subst this
  exact hnd' h1

theorem closD (hs : Sim C L mok n lv0 β0 a0 h0 w0 done ls listed β s a h w) {j : Nat} {p : Oper} (hj : L[j]? = some p) (hjd : j ∈ done) {i : Nat} (h : i ∈ aheadOf (aheads L []) j) : i ∈ done :=
  rows_ahead h (· ∈ done) hs.dclos fun o' ho' => hs.dclos j o' ho' hjd

theorem facts_lift (hnd : (modsO L).Nodup) (hs : Sim C L mok n lv0 β0 a0 h0 w0 done ls listed β s a h w) {i : Nat} {o : Oper} (hi : L[i]? = some o) (hid : i ∉ done) (hwar : isWar (aheads L []) i o L 0 = false)
    {s' : St} (hf : ∀ t, o.dst ≠ some t → s'.f t = s.f t) (hm : ∀ k, s'.m k = s.m k ∨ privA C.priv o k) {j : Nat} {p : Oper} (hjd : j ∈ done) (hjl : j ∉ ls) (hj : L[j]? = some p) :
    PFact C L p s' h ∧ looksOk L (aheads L []) j p = true ∧ isWar (aheads L []) j p L 0 = false ∧ ∀ d, privA C.priv p d → d ∈ mok := by
  obtain ⟨h1, h2, h3⟩ := hs.facts j p hjd hjl hj
  refine ⟨?_, h2, h3⟩
  have k : Like (DnP L done) p s s' := like_new hnd hs hi hid hf hj hjd fun t ht e => by
    have := war_get e hwar j p hj ht
    rw [Nat.zero_add] at this
    exact hid (closD hs hj hjd this)
  refine pfact_like k (fun ch hch hg => chainsD hs hj (hs.dclos j p hj hjd) h2 hch hg) (fun d e => ⟨j, p, hjd, hj, e⟩) (fun t ht b off c hfb hh => ?_) (fun d hp => ?_) h1
  · refine (hm b).resolve_right fun hp => ?_
    have hN : NnP C L done b := ⟨i, o, hid, hi, hp⟩
    rcases hfb with hfb | hfb
    · exact (hs.rr.nref b hN t _ c hfb hh off).1 rfl
    · exact (hs.rr.nref b hN t _ c hfb hh off).2 rfl
  · refine (hm d).resolve_right fun hp' => ?_
    have := dst_inj hnd hi hj hp'.2 hp.2
    subst this
    exact hid hjd

theorem sim_frame (hs : Sim C L mok n lv0 β0 a0 h0 w0 done ls listed β s a h w) {i : Nat} {o : Oper} (hi : L[i]? = some o) (hid : i ∉ done) (hw : ∀ k ∈ waits o, k ∈ done) {s' : St}
    (hr : RR n (CurP L (i :: done) ls) (LivP C L (i :: done) ls) (DnP L (i :: done)) (NnP C L (i :: done)) β s' a h w)
    (hfacts : ∀ j p, j ∈ i :: done → j ∉ ls → L[j]? = some p → PFact C L p s' h ∧ looksOk L (aheads L []) j p = true ∧ isWar (aheads L []) j p L 0 = false ∧ ∀ d, privA C.priv p d → d ∈ mok)
    (hseg : Seg (modsO L) mok lv0 β0 a0 h0 w0 (live s' (LivP C L (i :: done) ls)) β a h w) : Sim C L mok n lv0 β0 a0 h0 w0 (i :: done) ls listed β s' a h w := by
  refine ⟨hs.lsz, hs.lst, hs.lnd, fun j hj => List.mem_cons_of_mem _ (hs.lsub j hj), fun j hj => ?_, hs.clos, ?_, ⟨fun o' ho' => by rw [get_same hi ho']; exact hw, hs.topo⟩, hr, hfacts, hseg⟩
  · rcases List.mem_cons.1 hj with rfl | hj
    · exact (List.getElem?_eq_some_iff.1 hi).1
    · exact hs.dlt j hj
  · intro j p hj hjm k hk
    rcases List.mem_cons.1 hjm with rfl | hjm
    · rw [get_same hi hj] at hk
      exact List.mem_cons_of_mem _ (hw k hk)
    · exact List.mem_cons_of_mem _ (hs.dclos j p hj hjm k hk)

theorem curP_lift (hs : Sim C L mok n lv0 β0 a0 h0 w0 done ls listed β s a h w) {i : Nat} {o : Oper} (hi : L[i]? = some o) (hid : i ∉ done) (t : Nat) : CurP L (i :: done) ls t ↔ (o.dst ≠ some t ∧ CurP L done ls t) := by
  constructor
  · exact fun hc => ⟨hc i o (List.mem_cons_self ..) (fun e => hid (hs.lsub i e)) hi, fun j p h1 h2 h3 => hc j p (List.mem_cons_of_mem _ h1) h2 h3⟩
  · rintro ⟨h1, h2⟩ j p e1 e2 e3
    rcases List.mem_cons.1 e1 with rfl | e1
    · rw [get_same hi e3]; exact h1
    · exact h2 j p e1 e2 e3

theorem nnP_lift (hnd : (modsO L).Nodup) {i : Nat} {o : Oper} (hi : L[i]? = some o) (hid : i ∉ done) (k : Nat) : NnP C L (i :: done) k ↔ (¬ privA C.priv o k ∧ NnP C L done k) := by
  constructor
  · rintro ⟨j, p, h1, h2, h3⟩
    refine ⟨fun e => ?_, j, p, fun e => h1 (List.mem_cons_of_mem _ e), h2, h3⟩
    exact h1 (by rw [dst_inj hnd h2 hi h3.2 e.2]; exact List.mem_cons_self ..)
  · rintro ⟨h0, j, p, h1, h2, h3⟩
    refine ⟨j, p, fun e => ?_, h2, h3⟩
    rcases List.mem_cons.1 e with rfl | e
    · rw [get_same hi h2] at h3; exact h0 h3
    · exact h1 e

theorem livP_lift (hnd : (modsO L).Nodup) (hs : Sim C L mok n lv0 β0 a0 h0 w0 done ls listed β s a h w) {i : Nat} {o : Oper} (hi : L[i]? = some o) (hid : i ∉ done) (k : Nat) :
    LivP C L (i :: done) ls k ↔ (¬ privA C.priv o k ∧ LivP C L done ls k) := by
  constructor
  · rintro ⟨h1, h2⟩
    have hp : ¬ privA C.priv o k := h1 i o (List.mem_cons_self ..) (fun e => hid (hs.lsub i e)) hi
    exact ⟨hp, fun j p e1 e2 e3 => h1 j p (List.mem_cons_of_mem _ e1) e2 e3, fun e => h2 ((nnP_lift hnd hi hid k).2 ⟨hp, e⟩)⟩
  · rintro ⟨hp, h1, h2⟩
    refine ⟨fun j p e1 e2 e3 => ?_, fun e => h2 ((nnP_lift hnd hi hid k).1 e).2⟩
    rcases List.mem_cons.1 e1 with rfl | e1
    · rw [get_same hi e3]; exact hp
    · exact h1 j p e1 e2 e3

theorem dnP_mono {i : Nat} (t : Nat) (h : DnP L done t) : DnP L (i :: done) t := by
  obtain ⟨j, p, h1, h2, h3⟩ := h
  exact ⟨j, p, List.mem_cons_of_mem _ h1, h2, h3⟩

/-- A value or a private variable is told of. -/
theorem sim_lift (ok : C.tb.Ok C.P) (hnd : (modsO L).Nodup) (hlt : ∀ d ∈ modsO L, d < n) (hs : Sim C L mok n lv0 β0 a0 h0 w0 done ls listed β s a h w) {i : Nat} {o : Oper} (hi : L[i]? = some o) (hid : i ∉ done)
    (hw : ∀ k ∈ waits o, k ∈ done) (hlk : looksOk L (aheads L []) i o = true) (hwar : isWar (aheads L []) i o L 0 = false) (hvp : isVal C.tb o = true ∨ isPrivAlloc C.priv o = true) {K : St → Hp → Prop}
    (hkd : kindOk C L o s = true) (hv : opW C L mok o s h K) : ∃ s', K s' h ∧ Sim C L mok n lv0 β0 a0 h0 w0 (i :: done) ls listed β s' a h w := by
  unfold opW at hv
  split at hv
  · exact hv.elim
  rename_i ch hch
  cases hg : guardOk s ch with
  | false => simp [hg] at hv
  | true =>
  simp only [hg, cond_true] at hv
  have hD : ∀ p ∈ ch, DnP L done p.1 := chainsD hs hi hw hlk hch hg
  have hdD : ∀ d, o.dst = some d → ¬ DnP L done d := fun d e ⟨j, p, h1, h2, h3⟩ => hid (by rw [← dst_inj hnd h2 hi h3 e]; exact h1)
  have hdn : ∀ d, o.dst = some d → d < n := fun d e => hlt d (modsO_mem (List.mem_of_getElem? hi) e)
  have hself : ∀ {s' : St}, (∀ t, o.dst ≠ some t → s'.f t = s.f t) → Like (DnP L done) o s s' := fun hf => by
    refine ⟨fun t ⟨j, p, h1, h2, h3⟩ => hf t fun e => hid (by rw [← dst_inj hnd h2 hi h3 e]; exact h1), fun t ht => hf t fun e => ?_, fun t l c e q hq => hs.rr.chain t l c e q hq⟩
    have := war_get e hwar i o hi ht
    rw [Nat.zero_add] at this
    exact hid (rows_ahead this (· ∈ done) hs.dclos fun o' ho' => by rw [get_same hi ho']; exact hw)
  cases hval : isVal C.tb o with
  | true =>
    simp only [hval, cond_true] at hv
    obtain ⟨l, hk, hrun, hprov, hsh⟩ := valW_more ok hv
    have hnp : ∀ k, ¬ privA C.priv o k := not_priv (val_not_priv hval)
    have hrd : isRead C.tb o = true ∨ kindD C.tb o ch s = .pure := by
      unfold kindOk at hkd
      rw [hval, hch] at hkd
      cases hr : isRead C.tb o with
      | true => exact .inl rfl
      | false =>
        rw [hr] at hkd
        simp only [cond_true, cond_false] at hkd
        cases hk' : kindD C.tb o ch s with
        | pure => exact .inr rfl
        | box => rw [hk'] at hkd; cases hkd
        | mem => rw [hk'] at hkd; cases hkd
    have hf : ∀ t, o.dst ≠ some t → (s.put o.dst l ch).f t = s.f t := fun t ht => put_f s _ _ _ t ht
    have k := hself hf
    refine ⟨_, hk, sim_frame hs hi hid hw ?_ (fun j p h1 h2 h3 => ?_) ?_⟩
    · have hb : holds s ch → ∀ k o', (l = .box k o' ∨ l = .boxd k o') → ¬ NnP C L done k := fun hh b off e hN => by
        obtain ⟨x, hx, off', hev⟩ := hprov b off e
        rcases hev with hev | hev
        · obtain ⟨t, c, rfl, hfb, hc⟩ := ev_tmp hev (by simp) hh
          exact (hs.rr.nref b hN t _ c hfb hc off').1 rfl
        · obtain ⟨t, c, rfl, hfb, hc⟩ := ev_tmp hev (by simp) hh
          exact (hs.rr.nref b hN t _ c hfb hc off').2 rfl
      have hliv : ∀ k, LivP C L (i :: done) ls k ↔ LivP C L done ls k := fun k => by rw [livP_lift hnd hs hi hid k]; exact ⟨fun e => e.2, fun e => ⟨hnp k, e⟩⟩
      have hnn : ∀ k, NnP C L (i :: done) k → NnP C L done k := fun k e => ((nnP_lift hnd hi hid k).1 e).2
      cases hdst : o.dst with
      | none => exact hs.rr.congr (fun t => by rw [curP_lift hs hi hid t, hdst]; simp) hliv dnP_mono hnn
      | some d =>
        refine (hs.rr.lift (l := l) (ch := ch) (hdn d hdst) (hdD d hdst) hD hb).congr (fun t => ?_) hliv dnP_mono hnn
        rw [curP_lift hs hi hid t, hdst]
        exact ⟨fun e => ⟨fun e' => e.1 (by rw [e']), e.2⟩, fun e => ⟨fun e' => e.1 (by cases e'; rfl), e.2⟩⟩
    · rcases List.mem_cons.1 h1 with rfl | h1
      · rw [get_same hi h3]
        refine ⟨⟨ch, hch, by rw [guardOk_like k hD]; exact hg, .inl ⟨hval, by rw [k.kind]; exact hrd, l, fun d e => by rw [e]; exact put_same _ _ _ _, fun hh => ?_, k.prov hprov, fun hkd => hsh (by rw [← k.kind (s' := s.put o.dst l ch)]; exact hkd)⟩⟩, hlk, hwar, fun d hp => absurd hp (hnp d)⟩
        rw [k.kind]
        exact runsK_like k (fun _ t _ b off c _ _ => by rw [put_m]) (fun _ => rfl) (hrun ((k.holds' hD).1 hh))
      · exact facts_lift hnd hs hi hid hwar hf (fun k => .inl (by rw [put_m])) h1 h2 h3
    · refine hs.seg.mono (fun _ e => e) (fun _ e => e) (fun _ e => e) (fun k e => ⟨?_, ((livP_lift hnd hs hi hid k).1 e.2).2⟩)
      have := e.1
      rwa [put_m] at this
  | false =>
    simp only [hval, cond_false] at hv
    have hpa : isPrivAlloc C.priv o = true := hvp.resolve_left (by rw [hval]; simp)
    have doNew : ∀ (d : Nat) (cs : List Value), K ((s.put (some d) (.box d 0) []).putM d cs) h → privA C.priv o d → ch = [] → has mok d = true →
        (∀ (β : Nat → Nat) (ρ : Operand → Value) (w : World), (∀ x ∈ o.op.operands, Opnd β s ρ x) →
          ∃ t, (execOp ρ o).run C.P w = .ok (.value (.pointer (some ⟨w.heap.size, 0, none⟩))) { w with heap := w.heap.push (.cells cs.toArray t (0, 0)) }) →
        ∃ s', K s' h ∧ Sim C L mok n lv0 β0 a0 h0 w0 (i :: done) ls listed β s' a h w := by
      intro d cs hk hp he hmd hrun
      subst he
      have hiff : ∀ k, privA C.priv o k ↔ k = d := fun k => ⟨fun e => by have := e.2; rw [hp.2] at this; cases this; rfl, fun e => e ▸ hp⟩
      have hf : ∀ t, o.dst ≠ some t → ((s.put (some d) (.box d 0) []).putM d cs).f t = s.f t := fun t ht => put_ne s _ _ fun e => ht (by rw [hp.2, e])
      have hm : ∀ k, k ≠ d → ((s.put (some d) (.box d 0) []).putM d cs).m k = s.m k := fun k hk => putM_ne _ _ hk
      have k := hself hf
      have hN : NnP C L done d := ⟨i, o, hid, hi, hp⟩
      refine ⟨_, hk, sim_frame hs hi hid hw ?_ (fun j p h1 h2 h3 => ?_) ?_⟩
      · refine (hs.rr.liftA cs (hdn d hp.2) (hdD d hp.2) hN).congr (fun t => ?_) (fun k => ?_) dnP_mono (fun k e => ?_)
        · rw [curP_lift hs hi hid t, hp.2]
          exact ⟨fun e => ⟨fun e' => e.1 (by rw [e']), e.2⟩, fun e => ⟨fun e' => e.1 (by cases e'; rfl), e.2⟩⟩
        · rw [livP_lift hnd hs hi hid k, hiff]
        · have := (nnP_lift hnd hi hid k).1 e
          rw [hiff] at this
          exact this
      · rcases List.mem_cons.1 h1 with rfl | h1
        · rw [get_same hi h3]
          refine ⟨⟨[], hch, rfl, .inr ⟨rfl, hval, d, cs, hp, put_same _ _ _ _, putM_same _ _ _, alloc_like k hrun⟩⟩, hlk, hwar, fun d' hp' => ?_⟩
          rw [(hiff d').1 hp']
          exact (has_iff _ _).1 hmd
        · exact facts_lift hnd hs hi hid hwar hf (fun k => by
            by_cases ek : k = d
            · exact .inr ((hiff k).2 ek)
            · exact .inl (hm k ek)) h1 h2 h3
      · refine hs.seg.mono (fun _ e => e) (fun _ e => e) (fun _ e => e) (fun k e => ?_)
        have hl := (livP_lift hnd hs hi hid k).1 e.2
        rw [hiff] at hl
        refine ⟨?_, hl.2⟩
        have := e.1
        rwa [hm k hl.1] at this
    split at hv
    · rename_i d hdst
      have hd0 : o.dst = some d ∧ has C.priv d = true := by
        unfold dstIn at hdst
        split at hdst
        · rename_i d' e
          cases h1 : has C.priv d' with
          | true => simp [h1] at hdst; subst hdst; exact ⟨e, h1⟩
          | false => simp [h1] at hdst
        · cases hdst
      cases hmd : has mok d with
      | false => simp [hmd] at hv
      | true =>
        simp only [hmd, cond_true] at hv
        split at hv
        · rename_i t hop
          split at hv
          · rename_i e he
            refine doNew d (cellsL e.zero) hv ⟨hpa, hd0.1⟩ rfl hmd fun β ρ w _ => ⟨t, ?_⟩
            have e2 : (cellsL e.zero).toArray = e.zero.cells := by apply Array.ext'; simp [cells_list]
            rw [e2]
            simp [execOp, hop, Instr.alloc, run_zeroValue' ok he, newVar, run_newRow]
          · exact hv.elim
        · rename_i t x hop
          obtain ⟨v, hev, hv'⟩ := onV_some hv
          refine doNew d (cellsL v) hv' ⟨hpa, hd0.1⟩ rfl hmd fun β ρ w ho => ⟨t, ?_⟩
          have hx := ev_ok (ho x (by simp [hop, Op.operands])) (holds_nil s) hev
          have e2 : (cellsL v).toArray = v.cells := by apply Array.ext'; simp [cells_list]
          rw [e2]
          simp [execOp, hop, hx, LVal, Instr.box, newVar, run_newRow]
        · exact hv.elim
    · exact hv.elim
    · rename_i hdst
      exfalso
      unfold dstIn at hdst
      unfold isPrivAlloc at hpa
      split at hdst
      · rename_i d' e
        cases h1 : has C.priv d' with
        | true => simp [h1] at hdst
        | false => rw [e] at hpa; cases hop : o.op <;> simp [hop, h1] at hpa
      · rename_i e
        rw [e] at hpa; cases hop : o.op <;> simp [hop] at hpa

end
end Lf
