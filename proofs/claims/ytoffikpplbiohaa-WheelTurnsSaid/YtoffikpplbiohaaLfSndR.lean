/-
  The lifting layer, part 22: regions whose order is drawn.
-/
import Derived.Test.YtoffikpplbiohaaLfSndQ
namespace Lf
open Go

theorem condP {b : Bool} {p : Prop} (h : cond b p False) : b = true ∧ p := by
  cases b
  · exact h.elim
  · exact ⟨rfl, h⟩

theorem again_mem {C : Ctx} {m : Bool} {L : List Oper} {s : St} {h : Hp} : ∀ {ws : List Nat}, AgainAll C m L s h ws → ∀ {j : Nat} {p : Oper} {ch : Chain}, j ∈ ws → L[j]? = some p → chainOf L L.length p = some ch → Again C m p ch s h
  | [], _, _, _, _, hj, _, _ => by cases hj
  | r :: ws, ha, j, p, ch, hj, hp, hc => by
    obtain ⟨h1, h2⟩ := ha
    rcases List.mem_cons.1 hj with rfl | hj
    · rw [nth_get, hp] at h1
      simp only [hc] at h1
      exact h1
    · exact again_mem h2 hj hp hc

theorem again_dst {C : Ctx} {m : Bool} {p : Oper} {ch : Chain} {s : St} {h : Hp} (ha : Again C m p ch s h) : ∃ d, p.dst = some d := by
  cases hd : p.dst with
  | some d => exact ⟨d, rfl⟩
  | none =>
    unfold Again at ha
    rw [hd] at ha
    split at ha
    · rename_i e; cases e
    · rename_i e; cases e
    · rename_i e; cases e
    · exact ha.elim

section
variable {C : Ctx} {L : List Oper} {mok : List Nat} {n : Nat} {lv0 : Nat → Prop} {β0 : Nat → Nat} {a0 : Act} {h0 : Hp} {w0 : World} {done ls : List Nat} {listed : Array Bool} {β : Nat → Nat} {s : St} {a : Act} {h : Hp} {w : World}

theorem curP_new (hnd : (modsO L).Nodup) {i : Nat} {o : Oper} (hi : L[i]? = some o) (hid : i ∉ done) (t : Nat) : CurP L (i :: done) (i :: ls) t ↔ (o.dst = some t ∨ CurP L done ls t) := by
  constructor
  · intro hc
    by_cases ht : o.dst = some t
    · exact .inl ht
    · exact .inr fun j p h1 h2 h3 => hc j p (List.mem_cons_of_mem _ h1) (fun e => by
        rcases List.mem_cons.1 e with e | e
        · exact hid (e ▸ h1)
        · exact h2 e) h3
  · rintro (ht | hc) j p h1 h2 h3
    · intro e
      exact h2 (by rw [dst_inj hnd h3 hi e ht]; exact List.mem_cons_self ..)
    · rcases List.mem_cons.1 h1 with e | h1
      · exact absurd (e ▸ List.mem_cons_self ..) h2
      · exact hc j p h1 (fun e => h2 (List.mem_cons_of_mem _ e)) h3

theorem livP_new (hnd : (modsO L).Nodup) {i : Nat} {o : Oper} (hi : L[i]? = some o) (hid : i ∉ done) (k : Nat) : LivP C L (i :: done) (i :: ls) k ↔ (privA C.priv o k ∨ LivP C L done ls k) := by
  constructor
  · rintro ⟨h1, h2⟩
    by_cases hp : privA C.priv o k
    · exact .inl hp
    · exact .inr ⟨fun j p e1 e2 e3 => h1 j p (List.mem_cons_of_mem _ e1) (fun e => by
        rcases List.mem_cons.1 e with e | e
        · exact hid (e ▸ e1)
        · exact e2 e) e3, fun e => h2 ((nnP_lift hnd hi hid k).2 ⟨hp, e⟩)⟩
  · rintro (hp | ⟨h1, h2⟩)
    · exact ⟨fun j p e1 e2 e3 e4 => e2 (by rw [dst_inj hnd e3 hi e4.2 hp.2]; exact List.mem_cons_self ..), fun e => ((nnP_lift hnd hi hid k).1 e).1 hp⟩
    · refine ⟨fun j p e1 e2 e3 => ?_, fun e => h2 ((nnP_lift hnd hi hid k).1 e).2⟩
      rcases List.mem_cons.1 e1 with e | e1
      · exact absurd (e ▸ List.mem_cons_self ..) e2
      · exact h1 j p e1 (fun e => e2 (List.mem_cons_of_mem _ e)) e3

/-- A pending fact, behind an operation that was carried out. -/
theorem facts_exec (ok : C.tb.Ok C.P) (hnd : (modsO L).Nodup) (hs : Sim C L mok n lv0 β0 a0 h0 w0 done ls listed β s a h w) {i : Nat} {o : Oper} (hi : L[i]? = some o) (hid : i ∉ done) (hah : ∀ j ∈ aheadOf (aheads L []) i, j ∈ ls)
    {ws : List Nat} (hwatch : (isVal C.tb o = true ∨ isPrivAlloc C.priv o = true) ∨ ∀ j p, j ∈ done → L[j]? = some p → isVal C.tb p = true → isRead C.tb p = true → j ∈ ws ∨ j ∈ aheadOf (aheads L []) i)
    {l : List Nat} {β' : Nat → Nat} {s' : St} {a' : Act} {h' : Hp} {w' : World} (out : OpOut C l mok n (CurP L done ls) (LivP C L done ls) (DnP L done) (NnP C L done) o β s a h w β' s' a' h' w')
    (hag : AgainAll C (isStore o) L s' h' ws) {j : Nat} {p : Oper} (hjd : j ∈ done) (hjl : j ∉ ls) (hj : L[j]? = some p) :
    PFact C L p s' h' ∧ looksOk L (aheads L []) j p = true ∧ isWar (aheads L []) j p L 0 = false ∧ ∀ d, privA C.priv p d → d ∈ mok := by
  obtain ⟨⟨ch, hch, hg, hpf⟩, hlk, hrest⟩ := hs.facts j p hjd hjl hj
  refine ⟨?_, hlk, hrest⟩
  have k : Like (DnP L done) p s s' := like_new hnd hs hi hid out.f hj hjd fun t ht e => by
    rcases looks_slot hlk ht hi e with h1 | h1 | h1
    · exact hid (closD hs hj hjd h1)
    · exact hid (h1 ▸ hjd)
    · exact hjl (hah j h1)
  have hD := chainsD hs hj (hs.dclos j p hj hjd) hlk hch hg
  have hdD : ∀ d, p.dst = some d → DnP L done d := fun d e => ⟨j, p, hjd, hj, e⟩
  have hmr : ∀ t, Operand.tmp t ∈ p.op.operands → ∀ b off c, (s.f t = some (.box b off, c) ∨ s.f t = some (.boxd b off, c)) → holds s c → s'.m b = s.m b ∨ (isStore o = true ∧ isVal C.tb o = false) := by
    intro t ht b off c hfb hh
    rcases out.m b with e | e | e
    · exact .inl e
    · exfalso
      have hN : NnP C L done b := ⟨i, o, hid, hi, e⟩
      rcases hfb with hfb | hfb
      · exact (hs.rr.nref b hN t _ c hfb hh off).1 rfl
      · exact (hs.rr.nref b hN t _ c hfb hh off).2 rfl
    · exact .inr ⟨e.1, e.2.1⟩
  refine ⟨ch, hch, by rw [guardOk_like k hD]; exact hg, ?_⟩
  rcases hpf with ⟨hval, hrd, lv, hl, hrun, hprov, hsh⟩ | ⟨rfl, hval, d, cs, hpa, hfd, hmd', hrun⟩
  · have hsh' : LdSh C.tb p ch s' lv := fun hkd => hsh (by rw [← k.kind (s' := s')]; exact hkd)
    refine .inl ⟨hval, by rw [k.kind]; exact hrd, lv, fun d e => by rw [k.dn d (hdD d e)]; exact hl d e, fun hh' => ?_, k.prov hprov, hsh'⟩
    have hh := (k.holds' hD).1 hh'
    have hr := hrun hh
    have hkk : kindD C.tb p ch s' = kindD C.tb p ch s := k.kind
    rw [hkk]
    by_cases hpure : kindD C.tb p ch s = .pure
    · rw [hpure] at hr ⊢
      exact runsK_like k (fun e => absurd rfl e) (fun e => by cases e) hr
    · have hread := hrd.resolve_right hpure
      rcases hwatch with hvp | hwatch
      · have hns : ¬ (isStore o = true ∧ isVal C.tb o = false) := by
          rintro ⟨e1, e2⟩
          rcases hvp with e | e
          · rw [e] at e2; cases e2
          · unfold isStore at e1
            unfold isPrivAlloc at e
            cases hop : o.op <;> rw [hop] at e1 e <;> first | (cases e1; done) | (cases hd : o.dst <;> simp at e)
        have hhh : h' = h := by
          rcases hvp with e | e
          · exact out.hv e
          · exact out.hp e
        exact runsK_like k (fun _ t ht b off c hfb hc => (hmr t ht b off c hfb hc).resolve_right hns) (fun _ => hhh) hr
      · have hws : j ∈ ws := (hwatch j p hjd hj hval hread).resolve_right fun e => hjl (hah j e)
        have ha := again_mem hag hws hj hch
        obtain ⟨d, hd⟩ := again_dst ha
        rcases again_sound rfl ok ha hd ⟨ch, by rw [k.dn d (hdD d hd)]; exact hl d hd⟩ hh' hsh' with h1 | ⟨h1, h2⟩ | ⟨h1, h2⟩
        · rw [hkk] at h1
          exact absurd h1 hpure
        · rw [hkk] at h1
          rw [h1] at hr ⊢
          exact runsK_like k (fun _ t ht b off c hfb hc => (hmr t ht b off c hfb hc).resolve_right fun e => by rw [h2] at e; cases e.1) (fun e => by cases e) hr
        · rw [hkk] at h1
          rw [h1]
          exact h2
  · refine .inr ⟨rfl, hval, d, cs, hpa, by rw [k.dn d (hdD d hpa.2)]; exact hfd, ?_, alloc_like k hrun⟩
    rcases out.m d with e | e | e
    · rw [e]; exact hmd'
    · exact absurd hjd (by rw [dst_inj hnd hj hi hpa.2 e.2]; exact hid)
    · exact absurd hpa (e.2.2.2.1 j p hjd hjl hj)

/-- The next operation of the plan is carried out. -/
theorem sim_exec (ok : C.tb.Ok C.P) {ops : Array Oper} (hops : ops.toList = L) (hnd : (modsO L).Nodup) (hlt : ∀ d ∈ modsO L, d < n) (hs : Sim C L mok n lv0 β0 a0 h0 w0 done ls listed β s a h w) {i : Nat} {o : Oper} (hi : L[i]? = some o) (hid : i ∉ done)
    (hw : ∀ k ∈ waits o, k ∈ ls) (hlk : looksOk L (aheads L []) i o = true) {ws : List Nat}
    (hwatch : (isVal C.tb o = true ∨ isPrivAlloc C.priv o = true) ∨ ∀ j p, j ∈ done → L[j]? = some p → isVal C.tb p = true → isRead C.tb p = true → j ∈ ws ∨ j ∈ aheadOf (aheads L []) i)
    {K : St → Hp → Prop} (hK : ∀ s h, K s h → AgainAll C (isStore o) L s h ws) (hv : opW C L mok o s h K) (next : Act → World → Prop) (Q : Exit → Act → World → Prop)
    (hn : ∀ s' h' β' a' w', K s' h' → Sim C L mok n lv0 β0 a0 h0 w0 (i :: done) (i :: ls) (listed.setIfInBounds i true) β' s' a' h' w' → next a' w') : wpOp C.P ops Q i next a w := by
  have hah : ∀ j ∈ aheadOf (aheads L []) i, j ∈ ls := fun j hj => rows_ahead hj (· ∈ ls) hs.clos (fun o' ho' => by rw [get_same hi ho']; exact hw)
  have hilt : i < L.length := (List.getElem?_eq_some_iff.1 hi).1
  have hmem := List.mem_of_getElem? hi
  refine op_exec (l := modsO L) ok (by rw [← hops] at hi; simpa using hi) (by rw [hops]; exact hv) hs.rr (fun t ht j p h1 h2 h3 h4 => ?_) (fun j b p d e1 e2 e3 => ?_) (fun d e => ⟨hlt d (modsO_mem hmem e), ?_, modsO_mem hmem e⟩) (fun d hp => ?_) next Q fun s' h' β' a' w' hk out => ?_
  · have := war_get h4 (hs.facts j p h1 h2 h3).2.2.1 i o hi ht
    rw [Nat.zero_add] at this
    exact h2 (hah j this)
  · rw [hops, nth_get] at e2
    have hjl := hah _ (looks_guard hlk e1)
    refine ⟨fun j' p' h1 h2 h3 h4 => ?_, j, p, hs.lsub j hjl, e2, e3⟩
    have := dst_inj hnd h3 e2 h4 e3
    subst this
    exact h2 hjl
  · rintro ⟨j, p, h1, h2, h3⟩
    exact hid (by rw [← dst_inj hnd h2 hi h3 e]; exact h1)
  · have hN : NnP C L done d := ⟨i, o, hid, hi, hp⟩
    exact ⟨hN, fun e => e.2 hN⟩
  · refine hn s' h' β' a' w' hk ⟨by simpa using hs.lsz, fun j => set_listed hs.lsz hilt hs.lst, List.nodup_cons.2 ⟨fun e => hid (hs.lsub i e), hs.lnd⟩, fun j hj => ?_, fun j hj => ?_, ?_, ?_,
      ⟨fun o' ho' => by rw [get_same hi ho']; exact fun k hk => hs.lsub k (hw k hk), hs.topo⟩, out.rr.congr (fun t => curP_new hnd hi hid t) (fun k => livP_new hnd hi hid k) dnP_mono (fun k e => (nnP_lift hnd hi hid k).1 e), fun j p h1 h2 h3 => ?_,
      hs.seg.trans (out.seg.mono (fun _ e => e) (fun _ e => e) (fun _ e => e) (fun k e => ⟨e.1, (livP_new hnd hi hid k).1 e.2⟩))⟩
    · rcases List.mem_cons.1 hj with rfl | hj
      · exact List.mem_cons_self ..
      · exact List.mem_cons_of_mem _ (hs.lsub j hj)
    · rcases List.mem_cons.1 hj with rfl | hj
      · exact hilt
      · exact hs.dlt j hj
    · intro j p hj hjm k hk'
      rcases List.mem_cons.1 hjm with rfl | hjm
      · rw [get_same hi hj] at hk'
        exact List.mem_cons_of_mem _ (hw k hk')
      · exact List.mem_cons_of_mem _ (hs.clos j p hj hjm k hk')
    · intro j p hj hjm k hk'
      rcases List.mem_cons.1 hjm with rfl | hjm
      · rw [get_same hi hj] at hk'
        exact List.mem_cons_of_mem _ (hs.lsub k (hw k hk'))
      · exact List.mem_cons_of_mem _ (hs.dclos j p hj hjm k hk')
    · have hne : j ≠ i := fun e => h2 (e ▸ List.mem_cons_self ..)
      exact facts_exec ok hnd hs hi hid hah hwatch out (hK _ _ hk) ((List.mem_cons.1 h1).resolve_left hne) (fun e => h2 (List.mem_cons_of_mem _ e)) h3

theorem ready_iff {ops : Array Oper} (hops : ops.toList = L) (hs : Sim C L mok n lv0 β0 a0 h0 w0 done ls listed β s a h w) {j : Nat} :
    j ∈ Region.ready .any ops listed ↔ j ∉ ls ∧ ∃ o, L[j]? = some o ∧ ∀ k ∈ waits o, k ∈ ls := by
  rw [mem_ready]
  have hget : ∀ j : Nat, ops[j]? = L[j]? := fun j => by rw [← hops, Array.getElem?_toList]
  constructor
  · rintro ⟨h1, o, ho, h2⟩
    rw [hget] at ho
    refine ⟨fun e => ?_, o, ho, fun k hk => ?_⟩
    · have hlt : j < listed.size := by rw [hs.lsz]; exact (List.getElem?_eq_some_iff.1 ho).1
      have := (hs.lst j).2 e
      have h3 : listed.getD j true = listed.getD j false := by simp only [Array.getD, hlt, dif_pos]
      rw [h3, this] at h1
      cases h1
    · obtain ⟨e, he, rfl, hb⟩ := mem_waits hk
      exact (hs.lst _).1 (h2 e he hb)
  · rintro ⟨h1, o, ho, h2⟩
    refine ⟨?_, o, by rw [hget]; exact ho, fun e he hb => (hs.lst _).2 (h2 _ (waits_mem he hb))⟩
    have hlt : j < listed.size := by rw [hs.lsz]; exact (List.getElem?_eq_some_iff.1 ho).1
    cases e : listed.getD j true with
    | false => rfl
    | true =>
      refine absurd ((hs.lst j).1 ?_) h1
      simpa [hlt] using e

theorem ord_sim (ok : C.tb.Ok C.P) {ops : Array Oper} (hops : ops.toList = L) (hnd : (modsO L).Nodup) (hlt : ∀ d ∈ modsO L, d < n) {K0 : St → Hp → Prop} {Q : Exit → Act → World → Prop}
    (hQ : ∀ s' h' β' a' w', K0 s' h' → RR n (fun _ => True) (fun _ => True) (fun _ => True) (fun _ => False) β' s' a' h' w' → Seg (modsO L) mok lv0 β0 a0 h0 w0 (lives s') β' a' h' w' → Q .normal a' w') :
    ∀ (fuel : Nat) (r : List (Nat × List Nat)) (done ls : List Nat) (listed : Array Bool) (last : Option Nat) (β : Nat → Nat) (s : St) (a : Act) (h : Hp) (w : World),
      Sim C L mok n lv0 β0 a0 h0 w0 done ls listed β s a h w → planGo C.tb C.priv L (aheads L []) r done last = true → (∀ j, j < L.length → j ∈ done ∨ j ∈ r.map (·.1)) → ordW C L mok r s h K0 →
      L.length ≤ fuel + ls.length → wpAny C.P .any ops Q fuel listed a w := by
  have finish : ∀ (done ls : List Nat) (listed : Array Bool) (β : Nat → Nat) (s : St) (a : Act) (h : Hp) (w : World), Sim C L mok n lv0 β0 a0 h0 w0 done ls listed β s a h w → (∀ j, j < L.length → j ∈ done) → (∀ j ∈ done, j ∈ ls) →
      K0 s h → Q .normal a w := by
    intro done ls listed β s a h w hs hall hdl hk
    have hN : ∀ k, ¬ NnP C L done k := fun k ⟨j, p, h1, h2, _⟩ => h1 (hall j (List.getElem?_eq_some_iff.1 h2).1)
    have hL : ∀ k, True ↔ LivP C L done ls k := fun k => ⟨fun _ => ⟨fun j p h1 h2 _ => absurd (hdl j h1) h2, hN k⟩, fun _ => trivial⟩
    exact hQ s h β a w hk (hs.rr.congr (fun t => ⟨fun _ j p h1 h2 _ => absurd (hdl j h1) h2, fun _ => trivial⟩) hL (fun _ _ => trivial) (fun _ e => e.elim)) (hs.seg.mono (fun _ e => e) (fun _ e => e) (fun _ e => e) (fun k e => ⟨e.1, (hL k).1 trivial⟩))
  intro fuel
  induction fuel with
  | zero =>
    intro r done ls listed last β s a h w hs hp hcov hv hf
    have hall : ∀ j, j < L.length → j ∈ ls := fun j hj => pigeon hs.lnd (fun x hx => hs.dlt x (hs.lsub x hx)) (by omega) hj
    have hrdy : Region.ready .any ops listed = [] := by
      cases hr : Region.ready .any ops listed with
      | nil => rfl
      | cons j js =>
        have : j ∈ Region.ready .any ops listed := by rw [hr]; exact List.mem_cons_self ..
        obtain ⟨h1, o, ho, _⟩ := (ready_iff hops hs).1 this
        exact absurd (hall j (List.getElem?_eq_some_iff.1 ho).1) h1
    refine ⟨hrdy, ?_⟩
    cases r with
    | nil => exact finish done ls listed β s a h w hs (fun j hj => hs.lsub j (hall j hj)) (fun j hj => hall j (hs.dlt j hj)) hv
    | cons x r =>
      obtain ⟨i, ws⟩ := x
      obtain ⟨o, ho, _, _, hid, _⟩ := planGo_cons hp
      exact absurd (hs.lsub i (hall i (List.getElem?_eq_some_iff.1 ho).1)) hid
  | succ fuel ih =>
    intro r
    induction r with
    | nil =>
      intro done ls listed last β s a h w hs hp hcov hv hf
      have hall : ∀ j, j < L.length → j ∈ done := fun j hj => (hcov j hj).resolve_right (by simp)
      refine ⟨fun hr => finish done ls listed β s a h w hs hall (fun j hj => Classical.byContradiction fun e => ?_) hv, fun j hj => ?_⟩
      · obtain ⟨i, h1, h2, h3⟩ := topo_first hs.topo ⟨j, hj, e⟩
        have hi := List.getElem?_eq_getElem (hs.dlt i h1)
        have : i ∈ Region.ready .any ops listed := (ready_iff hops hs).2 ⟨h2, _, hi, h3 _ hi⟩
        rw [hr] at this
        cases this
      · obtain ⟨h1, o, ho, h2⟩ := (ready_iff hops hs).1 hj
        exact pend_exec ok hops hnd hs ho (hall j (List.getElem?_eq_some_iff.1 ho).1) h1 h2 _ Q fun β' a' w' hs' => ih [] done (j :: ls) _ last β' s a' h w' hs' hp hcov hv (by simp; omega)
    | cons x r ihr =>
      intro done ls listed last β s a h w hs hp hcov hv hf
      obtain ⟨i, ws⟩ := x
      obtain ⟨o, ho, hw, hlk, hid, hlast, hc⟩ := planGo_cons hp
      have hcov' : ∀ j, j < L.length → j ∈ i :: done ∨ j ∈ r.map (·.1) := fun j hj => by
        rcases hcov j hj with e | e
        · exact .inl (List.mem_cons_of_mem _ e)
        · rcases List.mem_cons.1 e with e | e
          · exact .inl (e ▸ List.mem_cons_self ..)
          · exact .inr e
      simp only [ordW, nth_get, ho] at hv
      obtain ⟨hkd, hv'⟩ := condP hv
      have rest : planGo C.tb C.priv L (aheads L []) r (i :: done) (some i) = true →
          ((isVal C.tb o = true ∨ isPrivAlloc C.priv o = true) ∨ ∀ j p, j ∈ done → L[j]? = some p → isVal C.tb p = true → isRead C.tb p = true → j ∈ ws ∨ j ∈ aheadOf (aheads L []) i) → wpAny C.P .any ops Q (fuel + 1) listed a w := by
        intro hp' hwatch
        have hAll : ∀ s h, (match (generalizing := false) ws with
          | [] => ordW C L mok r s h K0
          | ws => AgainAll C (isStore o) L s h ws ∧ ordW C L mok r s h K0) → AgainAll C (isStore o) L s h ws ∧ ordW C L mok r s h K0 := by
          intro s h e
          cases ws with
          | nil => exact ⟨trivial, e⟩
          | cons x ws => exact e
        refine ⟨fun hr => ?_, fun j hj => ?_⟩
        · exfalso
          by_cases hx : ∃ j ∈ done, j ∉ ls
          · obtain ⟨j, h1, h2, h3⟩ := topo_first hs.topo hx
            have hi := List.getElem?_eq_getElem (hs.dlt j h1)
            have : j ∈ Region.ready .any ops listed := (ready_iff hops hs).2 ⟨h2, _, hi, h3 _ hi⟩
            rw [hr] at this
            cases this
          · have : i ∈ Region.ready .any ops listed := (ready_iff hops hs).2 ⟨fun e => hid (hs.lsub i e), o, ho, fun k hk => Classical.byContradiction fun e => hx ⟨k, hw k hk, e⟩⟩
            rw [hr] at this
            cases this
        · obtain ⟨h1, p, hp2, h2⟩ := (ready_iff hops hs).1 hj
          by_cases hjd : j ∈ done
          · exact pend_exec ok hops hnd hs hp2 hjd h1 h2 _ Q fun β' a' w' hs' => ih ((i, ws) :: r) done (j :: ls) _ last β' s a' h w' hs' hp hcov (by
              simp only [ordW, nth_get, ho]
              rw [hkd]
              exact hv') (by simp; omega)
          · by_cases hji : j = i
            · subst hji
              rw [ho] at hp2; cases hp2
              exact sim_exec ok hops hnd hlt hs ho hid h2 hlk hwatch (fun s h e => (hAll s h e).1) hv' _ Q fun s' h' β' a' w' hk hs' => ih r (j :: done) (j :: ls) _ (some j) β' s' a' h' w' hs' hp' hcov' (hAll _ _ hk).2 (by simp; omega)
            · exfalso
              have hjr : j ∈ r.map (·.1) := ((hcov' j (List.getElem?_eq_some_iff.1 hp2).1).resolve_left fun e => by
                rcases List.mem_cons.1 e with e | e
                · exact hji e
                · exact hjd e)
              have := plan_later hp' j hjr (· ∈ ls) hs.clos fun o' ho' => by rw [get_same hp2 ho']; exact h2
              exact hid (hs.lsub i this)
      rcases hc with ⟨hvp, hwar, hp'⟩ | ⟨hvp, _, hp'⟩ | ⟨_, _, hwt, hp'⟩
      · obtain ⟨s', hk, hs'⟩ := sim_lift ok hnd hlt hs ho hid hw hlk hwar hvp hkd hv'
        refine ihr (i :: done) ls listed last β s' a h w hs' hp' hcov' ?_ hf
        cases ws with
        | nil => exact hk
        | cons x ws => exact hk.2
      · exact rest hp' (.inl hvp)
      · exact rest hp' (.inr fun j p hjd hj hv1 hr1 => watched_get hwt j hjd p hj hv1 hr1)

theorem plan_idx {tb : Tb} {priv : List Nat} {rows : List (List Nat)} : ∀ {r : List (Nat × List Nat)} {done : List Nat} {last : Option Nat}, planGo tb priv L rows r done last = true →
    (r.map (·.1)).Nodup ∧ ∀ j ∈ r.map (·.1), j ∉ done ∧ j < L.length
  | [], _, _, _ => ⟨.nil, fun j hj => (nomatch hj)⟩
  | (i, ws) :: r, done, last, h => by
    obtain ⟨o, ho, _, _, hid, _, hc⟩ := planGo_cons h
    have main : ∀ last', planGo tb priv L rows r (i :: done) last' = true → _ := fun last' h' => plan_idx h'
    have : (r.map (·.1)).Nodup ∧ ∀ j ∈ r.map (·.1), j ∉ i :: done ∧ j < L.length := by
      rcases hc with ⟨_, _, h'⟩ | ⟨_, _, h'⟩ | ⟨_, _, _, h'⟩
      · exact main _ h'
      · exact main _ h'
      · exact main _ h'
    refine ⟨List.nodup_cons.2 ⟨fun e => (this.2 i e).1 (List.mem_cons_self ..), this.1⟩, fun j hj => ?_⟩
    rcases List.mem_cons.1 hj with rfl | hj
    · exact ⟨hid, (List.getElem?_eq_some_iff.1 ho).1⟩
    · exact ⟨fun e => (this.2 j hj).1 (List.mem_cons_of_mem _ e), (this.2 j hj).2⟩

theorem allocs_iff {priv : List Nat} {k : Nat} : ∀ {L : List Oper}, k ∈ allocsOf priv L ↔ ∃ (i : Nat) (o : Oper), L[i]? = some o ∧ privA priv o k
  | [] => by simp [allocsOf]
  | o :: L => by
    have ih := allocs_iff (priv := priv) (k := k) (L := L)
    have key : (∃ (i : Nat) (p : Oper), (o :: L)[i]? = some p ∧ privA priv p k) ↔ (privA priv o k ∨ ∃ (i : Nat) (p : Oper), L[i]? = some p ∧ privA priv p k) := by
      constructor
      · rintro ⟨i, p, h1, h2⟩
        cases i with
        | zero => simp at h1; subst h1; exact .inl h2
        | succ i => exact .inr ⟨i, p, by simpa using h1, h2⟩
      · rintro (h | ⟨i, p, h1, h2⟩)
        · exact ⟨0, o, by simp, h⟩
        · exact ⟨i + 1, p, by simpa using h1, h2⟩
    rw [key, ← ih]
    by_cases hp : ∃ d, privA priv o d
    · obtain ⟨d, hp⟩ := hp
      rw [privA_allocs hp, List.mem_cons]
      refine or_congr ⟨fun e => e ▸ hp, fun e => ?_⟩ .rfl
      have := e.2
      rw [hp.2] at this; cases this; rfl
    · rw [notA_allocs fun d e => hp ⟨d, e⟩]
      exact ⟨.inr, fun e => e.resolve_left fun e => hp ⟨k, e⟩⟩

end

/-- A region whose order is drawn. -/
theorem any_sound {C : Ctx} (ok : C.tb.Ok C.P) {ops : Array Oper} {mok : List Nat} {n : Nat} {ord : List (Nat × List Nat)} {β : Nat → Nat} {s : St} {a : Act} {h : Hp} {w : World} {K : St → Hp → Prop} {Q : Exit → Act → World → Prop} {id : Nat}
    (hp : planOk C.tb C.priv ops.toList ord = true) (hlt : ∀ d ∈ modsO ops.toList, d < n) (hr : Rel n β s a h w) (hv : ordW C ops.toList mok ord (s.dropB (allocsOf C.priv ops.toList)) h K)
    (hQ : ∀ s' h' β' a' w', K s' h' → Rel n β' s'.clean a' h' w' → Seg (modsO ops.toList) mok (lives s) β a h w (lives s') β' a' h' w' → Q .normal a' w') : (Code.region id ops true).wp C.P Q a w := by
  unfold planOk at hp
  obtain ⟨h1, hp⟩ := condT hp
  obtain ⟨h2, hp⟩ := condT hp
  have hnd := nodup_iff h1
  refine wp_region_any ok.mixed ?_
  have hst : Step h h w { w with drawn := w.drawn + 1 } := ⟨hr.sub, Nat.le_refl _, fun _ _ e => ⟨rfl, e⟩, rfl, rfl, rfl⟩
  have hr0 := (hr.step hst).start (allocsOf C.priv ops.toList)
  have hN : ∀ k, NnP C ops.toList [] k ↔ k ∈ allocsOf C.priv ops.toList := fun k => by
    rw [allocs_iff]
    exact ⟨fun ⟨i, o, _, h2, h3⟩ => ⟨i, o, h2, h3⟩, fun ⟨i, o, h2, h3⟩ => ⟨i, o, by simp, h2, h3⟩⟩
  have hL : ∀ k, LivP C ops.toList [] [] k ↔ k ∉ allocsOf C.priv ops.toList := fun k => by
    rw [← hN]
    exact ⟨fun e => e.2, fun e => ⟨fun i o h1 => absurd h1 List.not_mem_nil, e⟩⟩
  have hidx := plan_idx hp
  refine ord_sim (L := ops.toList) (mok := mok) (n := n) (lv0 := lives s) (β0 := β) (a0 := a) (h0 := h) (w0 := w) ok rfl hnd hlt (K0 := K) (fun s' h' β' a' w' hk hr' hs' => hQ s' h' β' a' w' hk hr'.clean hs') ops.size ord [] [] _ none β (s.dropB (allocsOf C.priv ops.toList)) a h _
    ⟨by simp, fun i => ?_, .nil, fun i e => absurd e List.not_mem_nil, fun i e => absurd e List.not_mem_nil, fun i o _ e => absurd e List.not_mem_nil, fun i o _ e => absurd e List.not_mem_nil, trivial, ?_, fun i o e => absurd e List.not_mem_nil, ?_⟩ hp (fun j hj => .inr (pigeon hidx.1 (fun x hx => (hidx.2 x hx).2) ?_ hj)) hv (by simp)
  · by_cases hi : i < ops.size
    · simp [hi]
    · simp [hi]
  · exact hr0.congr (fun t => ⟨fun _ => trivial, fun _ i o e => absurd e List.not_mem_nil⟩) hL (fun _ e => e.elim) (fun k e => (hN k).1 e)
  · exact (Seg.step (lv := lives s) hst).mono (fun _ e => e) (fun _ e => e) (fun _ e => e) (fun k e => live_drop (l := allocsOf C.priv ops.toList) ⟨e.1, (hL k).1 e.2⟩)
  · have := Nat.eq_of_beq_eq_true h2
    simp [this]

end Lf
