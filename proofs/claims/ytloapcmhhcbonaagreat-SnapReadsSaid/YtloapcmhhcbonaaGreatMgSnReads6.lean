/-
  Part 7 of the texts that the claim leans on.
-/
import Derived.ProofKit
import Derived.SizedLaws
import Derived.OpenShut
import Derived.Laws.IdiomStrings
import Derived.Test.YtloapcmhhcbonaaGreatMgSnReads5
namespace Lf
open Go Go.Proofs
theorem MayIs.uniq {c : PCfg} {s : PState} {e e' : Int} (h : MayIs c s e) (h' : MayIs c s e') : e = e' := by
 rcases h with ⟨h1, rfl⟩ | ⟨h1, h2⟩
 ·rcases h' with ⟨_, rfl⟩ | ⟨h3, _⟩
  ·rfl
  ·exact absurd h3 h1
 ·rcases h' with ⟨h3, _⟩ | ⟨_, h4⟩
  ·exact absurd h1 h3
  ·rcases h2 with ⟨rfl, a⟩ | ⟨rfl, a⟩ <;> rcases h4 with ⟨rfl, b⟩ | ⟨rfl, b⟩
   ·rfl
   ·exact absurd a b
   ·exact absurd b a
   ·rfl
theorem SnapErr.uniq {bs : List UInt8} {e e' : Int} {p p' : Nat} (h : SnapErr bs e p) (h' : SnapErr bs e' p') : e = e' ∧ p = p' := by
 rcases h with h | ⟨c, s, h, rfl, hm⟩ <;> rcases h' with h' | ⟨c', s', h', rfl, hm'⟩
 ·rw [h] at h'; cases h'; exact ⟨rfl, rfl⟩
 ·rw [h] at h'; cases h'
 ·rw [h] at h'; cases h'
 ·rw [h] at h'; cases h'
  exact ⟨hm.uniq hm', rfl⟩
theorem SnapErr.not_ok {bs : List UInt8} {e : Int} {p : Nat} {c : PCfg} {s : PState} (h : SnapErr bs e p) (he : e ≠ 0) (hw : zfi snapD bs = .ok (c, s)) (h0 : (cfgE c).1 = 0) (hM : MayP c s) : False := by
 rcases h with h | ⟨c', s', h, rfl, hm⟩
 ·rw [h] at hw; cases hw
 ·rw [h] at hw; cases hw
  exact he (hm.uniq (.inr ⟨h0, .inl ⟨rfl, hM⟩⟩))
theorem Few.le {c : PCfg} (h : CfgV c) : CfgLe c := by
 obtain ⟨_, h2⟩ := (zhu1 (zvk c)).2 h
 obtain ⟨e1, _, e3, _, _, _, e7, _, _, e10, e11⟩ := cfgP_zero.1 h2
 have e1' := (mayP_zero.1 e1).2.1
 exact ⟨by omega, by omega, by omega, fun p hp => by have := ((zix ⟨e7.1, e7.2⟩).1 (e11 p hp).2).1; omega⟩
theorem StateV.le {c : PCfg} {s : PState} (few : Few c) (h : StateV c s) : StLe s := by
 obtain ⟨_, a1, a2, _⟩ := h
 obtain ⟨b1, b2⟩ := zde1 a1
 obtain ⟨b3, b4⟩ := zde1 a2
 have f1 := few.nl
 have f2 := few.np
 have f3 := few.locks
 refine ⟨by omega, by omega, fun x hx => ?_, fun x hx => ?_⟩
 ·obtain ⟨_, ⟨⟨_, h2⟩, _⟩, _, _, _, ⟨xs, g1, g2, g3⟩, g4⟩ := b2 x hx
  rw [List.nil_append] at g1
  have g3 := (zxi (V := LockV (c.procs.length : Int)) xs []).1 g3
  have hq : x.queues.length = xs.length := by rw [← g1, List.length_zip, g4]; simp
  have h2 : ((x.log.length : Nat) : Int) < 65536 := h2
  refine ⟨by omega, by omega, by omega, fun q hq => ?_⟩
  obtain ⟨z, hz1, hz2⟩ := zuq1 g4 q hq
  rw [g1] at hz1
  obtain ⟨_, ⟨⟨_, h3⟩, _⟩, _⟩ := g3 z hz1
  have h3 : ((z.2.length : Nat) : Int) < 256 := h3
  rw [← hz2]
  omega
 ·obtain ⟨_, _, _, _, _, _, _, g1, _⟩ := b4 x hx
  obtain ⟨g2, g3⟩ := zde1 g1
  refine ⟨by omega, fun l hl => ?_⟩
  obtain ⟨⟨⟨_, h1⟩, _⟩, _, ⟨⟨_, h2⟩, _⟩, _⟩ := g3 l hl
  have h1 : ((l.values.length : Nat) : Int) < 256 := h1
  have h2 : ((l.waiters.length : Nat) : Int) < 256 := h2
  exact ⟨by omega, by omega⟩
def zic1 : PCfg := ⟨[0], [0], 1, 1, 0, 0, [⟨0, []⟩]⟩
def zcr1 : PLane := ⟨[], [], 0, 0⟩
def zid1 : PState := ⟨0, [⟨0, [], 0, 0, [], []⟩], [⟨0, 0, [0, 0, 0, 0, 0, 0, 0, 0], 0, 0, false, 0, [zcr1, zcr1]⟩]⟩
theorem zix1 {α : Type} {x y : α} {i : Nat} (h : [x][i]? = some y) : i = 0 ∧ y = x := by
 cases i with
 | zero => simp at h; exact ⟨rfl, h.symm⟩
 | succ i => simp at h
theorem zsk1 : (cfgE zic1).1 = 0 := by decide
theorem zsl1 : MayP zic1 zid1 := by
 refine ⟨⟨⟨by decide, by decide⟩, rfl, rfl⟩, fun i x hx => ?_, fun p x y hx hy => ?_, ?_, ?_, ?_⟩
 ·obtain ⟨rfl, rfl⟩ := zix1 hx
  exact ⟨⟨by decide, by decide, by decide⟩, trivial, ⟨by decide, by decide⟩, ⟨by decide, by decide⟩, by decide, by decide, by decide, fun p hp => by cases hp⟩
 ·obtain ⟨rfl, rfl⟩ := zix1 hx
  obtain ⟨_, rfl⟩ := zix1 hy
  refine ⟨by decide, by decide, rfl, by decide, by decide, by decide, by decide, by decide, fun i l hl => ?_, fun e => absurd e (by decide), fun e => absurd e (by decide), fun e => absurd e (by decide), fun e => absurd e (by decide)⟩
  have : l = zcr1 := by
   have := List.mem_of_getElem? hl
   simpa using this
  subst this
  refine ⟨by decide, ⟨by decide, by decide⟩, ⟨by decide, by decide⟩, fun hu => ?_⟩
  rcases hu with hu | hu | hu
  ·exact absurd rfl hu
  ·exact absurd hu (by decide)
  ·exact absurd hu (by decide)
 ·intro i x hx k q hq
  obtain ⟨rfl, rfl⟩ := zix1 hx
  simp at hq
 ·intro r x y hx hy i l hl w hw
  obtain ⟨rfl, rfl⟩ := zix1 hx
  have : l = zcr1 := by
   have := List.mem_of_getElem? hl
   simpa using this
  subst this
  cases hw
 ·intro p x hx
  obtain ⟨rfl, rfl⟩ := zix1 hx
  decide
theorem zsm1 : (snapB zic1 zid1).length = 147 := by decide +kernel
theorem zoi1 : zfi snapD (snapB zic1 zid1) = .ok (zic1, zid1) := by kernel_rfl
theorem zsn1 : zfi snapD [70, 66, 83, 78, 2] = .error (4, 4) := by kernel_rfl
end Lf

namespace Lf
open Go Go.Proofs
theorem newB3 {h : Hp} {cs : List Value} {K : Addr → Hp → Prop} (hk : ∀ b h', h ≤ h' → Blk h' b cs → K ⟨b, 0, none⟩ h') : NewW cs K h := fun b t hn => hk b _ (zqq hn) ⟨t, zkt⟩
theorem Blk.rows {α : Type} {h : Hp} {b : Nat} {cs : List Value} {sz : Nat} {enc : α → List Value} (k : Blk h b cs) (xs : List α) {n m : Nat} (hc : cs = xs.flatMap enc) (hn : n = xs.length) (henc : ∀ x, (enc x).length = sz) : Rw h sz enc ⟨some ⟨b, 0, none⟩, n, m⟩ xs := by
 refine ⟨hn, by rw [zbp henc], .inr ⟨_, rfl, ?_⟩⟩
 refine k.ldIs (off := 0) (n := cs.length) ?_
 rw [List.drop_zero, List.take_length, hc]
theorem zdi1 {α : Type} {h : Hp} {sz : Nat} {enc : α → List Value} : Rw h sz enc ⟨none, 0, 0⟩ ([] : List α) := ⟨rfl, by simp, .inl (by simp)⟩
def lane0 : S_api_Lane := ⟨⟨none, 0, 0⟩, ⟨none, 0, 0⟩, 0, 0⟩
theorem zxe1 {h : Hp} : LaneAt h lane0 zcr1 := ⟨zdi1, ⟨[], zdi1, rfl⟩, rfl, rfl⟩
theorem zec2 {P : Program} {h : Hp} {Q : S_api_Config → S_api_State → Hp → Prop} (hq : ∀ x y h', h ≤ h' → CfgAt h' x zic1 → StateAt h' y zid1 → Q x y h') : zfp P Q h := by
 unfold zfp
 refine newB3 fun a h1 l1 k1 => newB3 fun a1 h2 l2 k2 => newB3 fun a2 h3 l3 k3 => newB3 fun a3 h4 l4 k4 => newB3 fun a4 h5 l5 k5 => newB3 fun a5 h6 l6 k6 => ?_
 have q1 := (((((k1.le l2).le l3).le l4).le l5).le l6)
 have q2 := ((((k2.le l3).le l4).le l5).le l6)
 have q3 := (((k3.le l4).le l5).le l6)
 have q4 := ((k4.le l5).le l6)
 have q5 := (k5.le l6)
 have hle : h ≤ h6 := Hp.le_trans l1 (Hp.le_trans l2 (Hp.le_trans l3 (Hp.le_trans l4 (Hp.le_trans l5 l6))))
 refine hq _ _ h6 hle ⟨?_, ?_, rfl, rfl, rfl, rfl, [⟨0, ⟨none, 0, 0⟩⟩], ?_, ⟨rfl, [], zdi1, rfl⟩, trivial⟩ ⟨rfl, ⟨[⟨0, ⟨none, 0, 0⟩, 0, 0, ⟨none, 0, 0⟩, ⟨none, 0, 0⟩⟩], ?_, ⟨rfl, ⟨[], zdi1, rfl⟩, rfl, rfl, zdi1, [], zdi1, trivial⟩, trivial⟩,
  [⟨0, 0, 0, 0, 0, 0, 0, 0, 0, 0, 0, 0, false, 0, ⟨some ⟨a4, 0, none⟩, 2, 2⟩⟩], ?_, ⟨rfl, rfl, rfl, rfl, rfl, rfl, rfl, [lane0, lane0], ?_, zxe1, zxe1, trivial⟩, trivial⟩
 ·exact q1.rows [(0 : Int)] rfl rfl fun _ => rfl
 ·exact q2.rows [(0 : Int)] rfl rfl fun _ => rfl
 ·exact q3.rows [(⟨0, ⟨none, 0, 0⟩⟩ : S_api_Proc)] rfl rfl fun _ => rfl
 ·exact q4.rows [(⟨0, ⟨none, 0, 0⟩, 0, 0, ⟨none, 0, 0⟩, ⟨none, 0, 0⟩⟩ : S_api_Part)] rfl rfl fun _ => rfl
 ·exact k6.rows [(⟨0, 0, 0, 0, 0, 0, 0, 0, 0, 0, 0, 0, false, 0, ⟨some ⟨a4, 0, none⟩, 2, 2⟩⟩ : S_api_Process)] rfl rfl fun _ => rfl
 ·exact q5.rows [lane0, lane0] rfl rfl fun _ => rfl
set_option maxRecDepth 20000 in
theorem zyn1 {h : Hp} {Q : Bool → Hp → Prop} (hq : ∀ h', h ≤ h' → Q true h') : zfo Tryz.prog Q h := by
 unfold zfo
 refine zvw (zec2 fun x y h1 l1 cx sy => ?_)
 have hev : (evs zid1).length ≤ 1152921504606846976 := by decide +kernel
 refine zjo1 (zqd1 cx sy (fun l hl => by simp [zic1] at hl; subst hl; exact ⟨by decide, by decide⟩) (fun _ _ _ _ => hev) (fun _ _ => by rw [zsm1]; decide) (fun e h2 _ he hm => ?_) fun _ _ out h2 l2 o2 => ?_)
 ·exact absurd (hm.uniq (.inr ⟨zsk1, .inl ⟨rfl, zsl1⟩⟩)) he
 have ob := o2.rw zly
 have hol : out.len = 147 := by rw [ob.1, zsm1]
 refine zqj (zzv ob o2.2.1 (fun e p h3 _ he hs => (hs.not_ok he zoi1 zsk1 zsl1).elim) fun u v c s B1 B2 h3 l3 hw _ _ oc os _ _ => ?_)
 rw [zoi1] at hw
 cases hw
 refine zuf1 [70, 66, 83, 78, 2] rfl rfl fun am h5 l5 bm => ?_
 refine zqj (zzv bm (by simp) (fun e p h6 l6 he hs => ?_) fun u' v' c s B1 B2 h6 _ hw _ _ _ _ _ _ => by rw [zsn1] at hw; cases hw)
 obtain ⟨rfl, rfl⟩ := hs.uniq (.inl zsn1)
 refine letW (letW (letW ?_))
 rw [hol]
 have l13 := Hp.le_trans l2 (Hp.le_trans l3 (Hp.le_trans l5 l6))
 have l36 := Hp.le_trans l5 l6
 have hcl : CfgLe zic1 := ⟨by decide, by decide, by decide, fun p hp => by simp [zic1] at hp; subst hp; decide⟩
 have hsl : StLe zid1 := by
  refine ⟨by decide, by decide, fun x hx => ?_, fun x hx => ?_⟩
  ·simp [zid1] at hx; subst hx
   exact ⟨by decide, by decide, by decide, fun q hq => by cases hq⟩
  ·simp [zid1] at hx; subst hx
   refine ⟨by decide, fun l hl => ?_⟩
   simp at hl; subst hl
   exact ⟨by decide, by decide⟩
 refine ⟨fun _ => zmp (zsi1 (cx.mono l13) (oc.rd.mono l36) hcl ?_), fun e => (by simp at e)⟩
 refine letW ⟨fun _ => zmq (zsj1 (sy.mono l13) (os.rd.mono l36) hsl ?_), fun e => (by simp at e)⟩
 refine letW (letW (letW ?_))
 exact hq h6 (Hp.le_trans l1 l13)
end Lf

namespace Lf
open Go Go.ChangeShapes Go.WideShapes Go.ChangeAt Go.RowKit
def whole (W : World) : Hp := fun b => W.heap[b]?
theorem zcc2 (W : World) : Sub (whole W) W := fun _ _ e => e
theorem zva1 (W : World) (a : Addr) : hcell (whole W) a = W.cell? a := rfl
theorem zqj1 {W W' : World} {h' : Hp} (hle : whole W ≤ h') (st : Step (whole W) h' W W') : Below W.heap.size W W' :=
  ⟨st.os, st.tape, st.output, st.size, fun k hk => by
    cases e : W.heap[k]? with
    | some o => exact st.sub _ _ (hle _ _ e)
    | none => simp at e; omega⟩
theorem zie1 {H : Type} {enc : TypeId × Value → H} {P : Program} (hl : laidOutB P = true) {W W' : World} {sp : Nat → Bool} (hb : Below W.heap.size W W') : ∀ {ts : List TypeId} {vs : List Value} {ds : List (DataW H)} {ps : List MemPlace},
    (∀ t ∈ ts, P.readableRec t = true ∧ t < P.types.size) → DataW.TrodAll enc P W 0 (fun _ => true) true ts vs ds ps → (∀ x ∈ ps, x.block < W.heap.size) → (∀ x ∈ ps, sp x.block = true) → DataW.TrodAll enc P W' 0 sp true ts vs ds ps
  | [], _, _, _, _, h, _, _ => by
    obtain ⟨rfl, rfl, rfl⟩ := trodAll_nil h
    exact trodAll_mk0
  | t :: ts, _, _, _, hr, h, hlt, hs => by
    obtain ⟨v, vs, d, ds, p, q, rfl, rfl, rfl, h1, h2⟩ := trodAll_cons h
    obtain ⟨hr1, hr2⟩ := hr t (List.mem_cons_self ..)
    exact ⟨p, q, WideElems.Trod_stays hl hr1 hr2 h1 (fun x hx => hb.same (hlt x (List.mem_append_left _ hx))) (fun x hx => hs x (List.mem_append_left _ hx)),
      zie1 hl hb (fun t ht => hr t (List.mem_cons_of_mem _ ht)) h2 (fun x hx => hlt x (List.mem_append_right _ hx)) (fun x hx => hs x (List.mem_append_right _ hx)), rfl⟩
theorem zed2 {H : Type} {enc : TypeId × Value → H} {P : Program} {f : Func} {s : ChangeSpec} {W W' : World} {h' : Hp} {args : Array Value} {ds gs : List (DataW H)} {before : List MemPlace} {t : TypeId} (hl : laidOutB P = true)
    (hrd : ∀ t ∈ f.params.toList, P.readableRec t = true ∧ t < P.types.size) (hvars : s.vars = []) (hres : f.resultTypes = #[t]) (ht : P.underlying t = some .bool)
    (hfn : gs = [] → s.fn H (ds ++ gs) = { results := [.lit (.bool true)], args := ds }) (hW : DataW.Whole enc P f.params.toList s.vars false W args.toList ds gs before) (hle : whole W ≤ h') (st : Step (whole W) h' W W') :
    s.post enc P f false true false false W args (.bool true) W' := by
  have hb := zqj1 hle st
  have hlt : ∀ p ∈ before, p.block < W.heap.size := fun p hp => hW.lt p hp
  have hW' := hW
  obtain ⟨p, q, hA, hV, rfl, hfz, hnd⟩ := hW'
  rw [hvars] at hV
  obtain ⟨rfl, rfl⟩ := trodVars_none hV
  rw [List.append_nil] at hlt
  have hsp := hfn rfl
  refine ⟨ds, [], p ++ [], [], p, [], hW, ?_, ?_, ?_, Below.frame hb _, fun e => (by cases e)⟩
  · rw [hsp, hres]
    exact trodAll_mk1 (shut_bool ht true)
  · rw [hsp]
    exact zie1 hl hb hrd hA hlt (fun x hx => by simpa using hlt x hx)
  · rw [hsp, hvars]
    exact rfl
theorem law_liftedS {H : Type} {enc : TypeId × Value → H} {C : Checked} {os : Os} {f : FuncId} {fn : Func} {s : ChangeSpec} {t : TypeId} (own : ownKnob C.prog.godebug = none) (started : os.Started) (noInit : C.prog.inits.idxOf? f = none) (hf : C.prog.funcs[f]? = some fn)
    (witness : ∃ (w : World) (tape : Tape) (i : Input), w.os = os ∧ (w.forCall tape i).Shaped C.prog ∧ i.vars = [] ∧ Input.okWide C.prog (w.forCall tape i) .any w.heap.size f i ∧
      s.pre6 enc C.prog fn [] false (w.forCall tape i).memory i.args ∧ ({} : Assume).holds C.prog (lone (Frame.enter C.prog f i.args .normal) [] (w.forCall tape i)))
    (hl : laidOutB C.prog = true) (hrd : ∀ t ∈ fn.params.toList, C.prog.readableRec t = true ∧ t < C.prog.types.size) (hvars : s.vars = []) (hres : fn.resultTypes = #[t]) (ht : C.prog.underlying t = some .bool)
    (walk : ∀ (W : World) (base : Nat) (args : Array Value) (ds : List (DataW H)) (p : List MemPlace), (∀ (j : Nat) t v, fn.params[j]? = some t → args[j]? = some v → Value.okWide C.prog W .any base t v) → DataW.TrodAll enc C.prog W 0 (fun _ => true) true fn.params.toList args.toList ds p →
      (DataW.weightsEach C.prog fn.params.toList ds).all (· ≤ reachBytes) = true →
      s.fn H ds = { results := [.lit (.bool true)], args := ds } ∧ CallT C.prog f args.toList zaf (fun r h' => r = true ∧ whole W ≤ h') (whole W)) :
    ReturnsInHanded {} C os f .any (s.pre6 enc C.prog fn [] false) (s.post enc C.prog fn false true false false) := by
  refine returnsInHanded_of_change_sized own started noInit hf witness ?_
  intro W base args ds gs before hval hW hcnd hsz _
  have hW' := hW
  obtain ⟨p, q, hA, hV, _, hfz, hnd⟩ := hW'
  have hgs : gs = [] := by
    rw [hvars] at hV
    exact (trodVars_none hV).1
  subst hgs
  have hvt : s.plain.varTypes C.prog = [] := by
    unfold ChangeSpec.plain DataSpec.varTypes
    rw [hvars]
    rfl
  rw [hvt, List.append_nil, List.append_nil] at hsz
  obtain ⟨hsp, hc⟩ := walk W base args ds p hval hA hsz
  have hc' := hc W (zcc2 W)
  simp only [Array.toArray_toList] at hc'
  refine hc'.mono fun e W' hh => ?_
  obtain ⟨v, h', rfl, ⟨x, rfl, rfl, hle⟩, hst⟩ := hh
  exact ⟨_, rfl, zed2 hl hrd hvars hres ht (fun e => by rw [e, List.append_nil]; exact hsp) hW hle hst⟩
end Lf

namespace Lf
open Go Go.Proofs Go.ChangeShapes Go.WideShapes Go.ChangeAt Go.RowKit
section
variable {H : Type} {enc : TypeId × Value → H} {P : Program} {W : World}
def Lits (enc : TypeId × Value → H) (P : Program) (W : World) (t : TypeId) (R : List Value → Prop) : Prop :=
 ∀ fuel cs y, DataW.trod enc P W 0 (fun _ => true) true fuel t cs = some y → (DataW.weights P t y.1).all (· ≤ reachBytes) = true → R cs
theorem zee2 {t : TypeId} {k : IntKind} (ht : P.underlying t = some (.int k)) : Lits enc P W t fun cs => ∃ n, cs = [.int k n] ∧ (Lit.int k n).wf = true := fun fuel cs y h _ => by
 obtain ⟨n, h1, _, h2⟩ := DataW.trod_int ht h
 exact ⟨n, h1, h2⟩
theorem zqk1 {l m : List Nat} {p : Nat → Bool} (h : (l ++ m).all p = true) : l.all p = true ∧ m.all p = true := by
 rw [List.all_append, Bool.and_eq_true] at h
 exact h
theorem wAll {e : TypeId} : ∀ {l : List (DataW H)} {d : DataW H}, d ∈ l → (DataW.weightsAll P e l).all (· ≤ reachBytes) = true → (DataW.weights P e d).all (· ≤ reachBytes) = true
 | d :: r, d', hm, h => by
  rw [DataW.weightsAll] at h
  obtain ⟨h1, h2⟩ := zqk1 h
  rcases List.mem_cons.1 hm with rfl | hm
  ·exact h1
  ·exact wAll hm h2
theorem wEach : ∀ {ts : List TypeId} {ds : List (DataW H)} {i : Nat} {t : TypeId} {d : DataW H}, ts[i]? = some t → ds[i]? = some d → (DataW.weightsEach P ts ds).all (· ≤ reachBytes) = true → (DataW.weights P t d).all (· ≤ reachBytes) = true
 | [], _, i, t, d, h, _, _ => by simp at h
 | _ :: _, [], i, t, d, _, h, _ => by simp at h
 | t :: ts, d :: ds, 0, t', d', h1, h2, h => by
  simp at h1 h2
  subst h1 h2
  rw [DataW.weightsEach] at h
  exact (zqk1 h).1
 | t :: ts, d :: ds, i + 1, t', d', h1, h2, h => by
  rw [DataW.weightsEach] at h
  exact wEach (by simpa using h1) (by simpa using h2) (zqk1 h).2
structure SlIn {α : Type} (W : World) (sz : Nat) (en : α → List Value) (good : α → Prop) (l : Sl) (xs : List α) : Prop where
 rw_ : Rw (whole W) sz en l xs
 cap : l.len ≤ l.cap
 most : l.cap ≤ 9223372036854775807
 few : xs.length ≤ 140737488355328
 all : ∀ x ∈ xs, good x
theorem zyo1 {t e : TypeId} {α : Type} (ht : P.underlying t = some (.slice e)) (en : α → List Value) (good : α → Prop) {sz : Nat} (hsz : P.cellsOf e = sz) (hb : 0 < P.bytesOf e) (he : Lits enc P W e fun cs => ∃ x, cs = en x ∧ good x) (henc : ∀ x, (en x).length = sz) :
  Lits enc P W t fun cs => ∃ (l : Sl) (xs : List α), cs = [l.v] ∧ SlIn W sz en good l xs := by
 intro fuel cs y h hw
 subst hsz
 rcases DataW.trod_slice ht h with ⟨h0, _⟩ | ⟨a, len0, cap0, elems, rest, n, _, h0, hd0, hb0, hl, hm, hlen, hel', _, _⟩
 ·exact ⟨⟨none, 0, 0⟩, [], h0, ⟨⟨rfl, by simp, .inl (by simp)⟩, Nat.le_refl _, by simp, by simp, fun x hx => by cases hx⟩⟩
 ·subst hd0
  dsimp only at hw
  rw [DataW.weights, ht] at hw
  dsimp only at hw
  rw [List.all_cons, Bool.and_eq_true, decide_eq_true_eq] at hw
  obtain ⟨hw1, hw2⟩ := hw
  have hw2 := (zqk1 hw2).1
  have each : ∀ i, i < len0 → ∃ x, good x ∧ LdIs (whole W) (a.add (i * P.cellsOf e)) (en x) := by
   intro i hi
   have h1 := hel' i hi
   have h2 : elems[i]? = some elems[i] := List.getElem?_eq_getElem (by omega)
   rw [h2] at h1
   cases hc : W.cells? 0 (a.add (i * P.cellsOf e)) (P.cellsOf e) with
   | none => rw [hc] at h1; cases h1
   | some cs =>
    rw [hc] at h1
    obtain ⟨_, hcl, hcc⟩ := World.cells?_some hc
    obtain ⟨x, hx, hg⟩ := he n cs _ h1 (wAll (List.mem_map.2 ⟨elems[i], List.mem_of_getElem? h2, rfl⟩) hw2)
    refine ⟨x, hg, fun j v hj => ?_⟩
    have hjl : j < (en x).length := (List.getElem?_eq_some_iff.1 hj).1
    rw [zva1, hcc j (by rw [← henc x]; exact hjl), hx]
    exact hj
  have build : ∀ m, m ≤ len0 → ∃ xs : List α, xs.length = m ∧ (∀ x ∈ xs, good x) ∧ ∀ i x, xs[i]? = some x → LdIs (whole W) (a.add (i * P.cellsOf e)) (en x) := by
   intro m
   induction m with
   | zero => intro _; exact ⟨[], rfl, fun x hx => (by cases hx), fun i x hx => (by simp at hx)⟩
   | succ m ih =>
    intro hm'
    obtain ⟨xs, h1, h2, h3⟩ := ih (by omega)
    obtain ⟨x, hg, hx⟩ := each m (by omega)
    refine ⟨xs ++ [x], by simp [h1], fun y hy => ?_, fun i y hy => ?_⟩
    ·rcases List.mem_append.1 hy with hy | hy
     ·exact h2 y hy
     ·rw [List.mem_singleton.1 hy]; exact hg
    ·by_cases hi : i < xs.length
     ·rw [List.getElem?_append_left hi] at hy
      exact h3 i y hy
     ·rw [List.getElem?_append_right (by omega)] at hy
      have : i - xs.length = 0 := by
       have := (List.getElem?_eq_some_iff.1 hy).1
       simp at this
       omega
      rw [this] at hy
      simp at hy
      subst hy
      have : i = m := by omega
      rw [this]
      exact hx
  obtain ⟨xs, h1, h2, h3⟩ := build len0 (Nat.le_refl _)
  refine ⟨⟨some a, len0, cap0⟩, xs, h0, ⟨⟨h1.symm, zbp henc xs, .inr ⟨a, rfl, fun i v hv => ?_⟩⟩, hl, hm, ?_, h2⟩⟩
  ·obtain ⟨q, x, j, hq, hj, e1⟩ := zai2 henc xs i v hv
   rw [e1]
   rw [← zbm1]
   exact h3 q x hq j v hj
  ·have h4 : reachBytes ≤ 140737488355328 := by decide
   rw [List.length_map, List.length_map] at hw1
   have h5 : elems.length + rest.length ≤ (elems.length + rest.length) * P.bytesOf e := Nat.le_mul_of_pos_right _ hb
   omega
end
end Lf

namespace Lf
open Go Go.Proofs Go.ChangeShapes Go.WideShapes Go.ChangeAt Go.RowKit
section
variable {H : Type} {enc : TypeId × Value → H} {W : World}
end
end Lf

namespace Lf
open Go Go.Proofs Go.ChangeShapes Go.WideShapes Go.ChangeAt Go.RowKit
section
variable {W : World}
end
section
variable {H : Type} {enc : TypeId × Value → H} {W : World}
theorem lu8 : Lits enc Tryz.prog W 5 fun cs => ∃ b : UInt8, cs = eB b ∧ True := fun f cs y h hw => by
 obtain ⟨n, h1, h2⟩ := zee2 (tb_ok.und 5 ty5 rfl) f cs y h hw
 simp [Lit.wf, IntKind.min, IntKind.max, IntKind.signed, IntKind.bits] at h2
 refine ⟨UInt8.ofNat n.toNat, ?_, trivial⟩
 rw [h1]
 unfold eB
 rw [UInt8.toNat_ofNat']
 have : ((n.toNat % 2 ^ 8 : Nat) : Int) = n := by omega
 rw [this]
set_option maxRecDepth 20000 in
theorem arg_bytes {v : Value} {d : DataW H} {ps : List MemPlace} {base : Nat} (hv : Value.okWide Tryz.prog W .any base 33 v) (h : DataW.Trod enc Tryz.prog W 0 (fun _ => true) true 33 v d ps) (hw : (DataW.weights Tryz.prog 33 d).all (· ≤ reachBytes) = true) :
  ∃ (l : Sl) (bs : List UInt8), v = l.v ∧ SlIn W 1 eB (fun _ => True) l bs := by
 obtain ⟨a, n, c, rfl⟩ := okWide_slice (tb_ok.und 33 ty33 rfl) hv
 obtain ⟨fuel, hf⟩ := h
 obtain ⟨l, xs, h1, h2⟩ := zyo1 (enc := enc) (W := W) (tb_ok.und 33 ty33 rfl) eB (fun _ => True) (sz := 1) (by kernel_rfl) (by rw [show Tryz.prog.bytesOf 5 = 1 by kernel_rfl]; omega) lu8 (fun _ => rfl) fuel _ _ hf hw
 refine ⟨l, xs, ?_, h2⟩
 have h1 : [Value.slice a n c] = [l.v] := h1
 exact List.cons.inj h1 |>.1
end
end Lf

namespace Lf
open Go Go.Proofs
section
variable {h : Hp} {Q : Bool → Hp → Prop}
end
end Lf

namespace Lf
open Go Go.Proofs
theorem zxf1 {h : Hp} : CfgAt h cfg0 zkb := cfg0_own.rd
def stNil : PState := ⟨0, [], []⟩
theorem zcd2 {h : Hp} : StateAt h st0 stNil := StateO.rd (B := []) ⟨[], [], rfl, RowsO.nil, RowsO.nil, rfl⟩
theorem zgl2 : CfgLe zkb := ⟨by decide, by decide, by decide, fun p hp => by cases hp⟩
theorem zfy2 : StLe stNil := ⟨by decide, by decide, fun p hp => (by cases hp), fun p hp => (by cases hp)⟩
theorem SnapErr.place {bs : List UInt8} {e : Int} {p : Nat} (h : SnapErr bs e p) : p ≤ bs.length := by
 rcases h with h | ⟨_, _, _, rfl, _⟩
 ·exact zma1 zfv2 h
 ·omega
end Lf

namespace Lf
open Go Go.Proofs
section
variable {h : Hp} {x : S_api_Config} {y : S_api_State} {c : PCfg} {s : PState}
set_option maxRecDepth 20000 in
theorem zce2 (cx : CfgAt h x c) (sy : StateAt h y s) (hu : ∀ l ∈ c.labels, InU l) (hS : StLe s) {Q : Int → Hp → Prop} (hq : ∀ e h', h ≤ h' → MayIs c s e → Q e h') : zgz Tryz.prog x y Q h := by
 unfold zgz
 refine zyu (zrz1 cx fun at_ => ?_)
 by_cases hc : (cfgE c).1 ≠ 0
 ·rw [if_pos (by simpa using hc)]
  exact hq _ h (Hp.le_refl h) (.inl ⟨hc, rfl⟩)
 rw [if_neg (by simpa using hc)]
 have ok : (cfgE c).1 = 0 := Classical.not_not.1 hc
 have hpart : ∀ y ∈ c.procs, 0 ≤ y.part ∧ y.part < c.labels.length := fun y hy => by
  obtain ⟨⟨g1, g2⟩, -⟩ := (zsx ok).2.2.2.2.2 y hy
  exact ⟨g1, by omega⟩
 have hM : MayP c s ↔ MayR c s (fun (i : Nat) q => fl c.labels (i : Int) q = true) := zfg2 hpart
 have yes : ∀ h', h ≤ h' → MayR c s (fun (i : Nat) q => fl c.labels (i : Int) q = true) → Q 0 h' := fun h' hl hm => hq _ h' hl (.inr ⟨ok, .inl ⟨rfl, hM.2 hm⟩⟩)
 have no : ∀ h', h ≤ h' → ¬ MayR c s (fun (i : Nat) q => fl c.labels (i : Int) q = true) → Q 4 h' := fun h' hl hm => hq _ h' hl (.inr ⟨ok, .inr ⟨rfl, fun e => hm (hM.1 e)⟩⟩)
 refine zvx (zux1 cx sy ok hS fun r2 hr2 => ?_)
 by_cases hz : zrl1 c s
 case neg =>
  rw [if_pos (by cases r2 with
   | false => rfl
   | true => exact absurd (hr2.1 rfl) hz)]
  exact no h (Hp.le_refl h) fun hm => hz hm.1
 have e2 := hr2.2 hz
 subst e2
 rw [if_neg (by simp)]
 refine newB (cs := boxL x y) fun b h1 l1 hB => ?_
 have k : RM h1 b x y c s := ⟨hB, cx.mono l1, sy.mono l1, ok, hu, hz⟩
 have hlp : y.Parts.len = s.parts.length := by
  obtain ⟨ps, hps, hall⟩ := sy.parts
  rw [← hall.len]; exact hps.1
 have hlq : y.Procs.len = s.procs.length := by
  obtain ⟨ps, hps, hall⟩ := sy.procs
  rw [← hall.len]; exact hps.1
 have b1 := hS.parts
 have b2 := hS.procs
 have hlen := hz.1.2.2
 refine forA (n := s.parts.length) (by omega) (by omega) (fun j (v : Bool) h' => h1 ≤ h' ∧ (v = true ↔ ∀ (i : Nat) z, i < j → s.parts[i]? = some z → PartR c s i z)) ⟨Hp.le_refl _, ⟨fun _ i z hi => by omega, fun _ => rfl⟩⟩ ?_ ?_
 ·rintro j hj v h2 ⟨l2, hv⟩ K hK
  have hzj := List.getElem?_eq_getElem hj
  generalize s.parts[j] = z at hzj
  refine ⟨fun e => ?_, fun e => ⟨false, letW (hK _ _ ⟨l2, ?_⟩)⟩⟩
  ·refine zoe (zyk1 (k.mono l2) hS hzj fun r h3 l3 hr => letW (hK _ _ ⟨Hp.le_trans l2 l3, ?_⟩))
   rw [e, Bool.true_and, hr]
   constructor
   ·intro hp i z' hi hz'
    by_cases hij : i < j
    ·exact hv.1 e i z' hij hz'
    ·have : i = j := by omega
     subst this
     rw [hzj] at hz'; cases hz'
     exact hp
   ·exact fun hh => hh j z (by omega) hzj
  ·rw [e, Bool.false_and]
   refine ⟨fun e => (by cases e), fun hh => ?_⟩
   have := hv.2 fun i z hi hz => hh i z (by omega) hz
   rw [e] at this; cases this
 rintro v1 h2 ⟨l2, hv1⟩
 have hA : v1 = true ↔ ∀ (i : Nat) z, s.parts[i]? = some z → PartR c s i z := hv1.trans ⟨fun hh i z hz => hh i z (List.getElem?_eq_some_iff.1 hz).1 hz, fun hh i z _ => hh i z⟩
 clear hv1
 refine forA (n := s.procs.length) (by omega) (by omega) (fun j (v : Bool) h' => h' = h2 ∧ (v = true ↔ v1 = true ∧ ∀ (p : Nat) z u, p < j → s.procs[p]? = some z → c.procs[p]? = some u → ProcR c s (fun (i : Nat) q => fl c.labels (i : Int) q = true) z u)) ⟨rfl, ⟨fun e => ⟨e, fun p z u hp => by omega⟩, fun e => e.1⟩⟩ ?_ ?_
 ·rintro j hj v h3 ⟨rfl, hv⟩ K hK
  have hzj := List.getElem?_eq_getElem hj
  generalize s.procs[j] = z at hzj
  have hjc : j < c.procs.length := by omega
  have huj := List.getElem?_eq_getElem hjc
  generalize c.procs[j] = u at huj
  refine ⟨fun e => ?_, fun e => ⟨false, letW (hK _ _ ⟨rfl, ?_⟩)⟩⟩
  ·refine zmm (zyl1 (k.mono l2) hS hzj huj fun r hr => letW (hK _ _ ⟨rfl, ?_⟩))
   obtain ⟨g1, g2⟩ := hv.1 e
   rw [e, Bool.true_and, hr]
   constructor
   ·intro hp
    refine ⟨g1, fun i z' u' hi hz' hu' => ?_⟩
    by_cases hij : i < j
    ·exact g2 i z' u' hij hz' hu'
    ·have : i = j := by omega
     subst this
     rw [hzj] at hz'; cases hz'
     rw [huj] at hu'; cases hu'
     exact hp
   ·exact fun hh => hh.2 j z u (by omega) hzj huj
  ·rw [e, Bool.false_and]
   refine ⟨fun e => (by cases e), fun hh => ?_⟩
   have := hv.2 ⟨hh.1, fun i z u hi hz hu => hh.2 i z u (by omega) hz hu⟩
   rw [e] at this; cases this
 rintro v2 h3 ⟨rfl, hv2⟩
 have hBq : v2 = true ↔ v1 = true ∧ ∀ (p : Nat) z u, s.procs[p]? = some z → c.procs[p]? = some u → ProcR c s (fun (i : Nat) q => fl c.labels (i : Int) q = true) z u :=
  hv2.trans ⟨fun hh => ⟨hh.1, fun i z u hz hu => hh.2 i z u (List.getElem?_eq_some_iff.1 hz).1 hz hu⟩, fun hh => ⟨hh.1, fun i z u _ hz hu => hh.2 i z u hz hu⟩⟩
 clear hv2
 have W : Nat → Prop := fun p => True
 refine LoopW2.intro (fun (v : Bool) t h' => h' = h3 ∧ ∃ j : Nat, t = (j : Int) ∧ j ≤ s.procs.length ∧ (v = true ↔ v2 = true ∧ ∀ (p i : Nat) z u, p < j → s.procs[p]? = some z → c.procs[p]? = some u → u.part = (i : Int) → WaitR s p i z u)) (fun _ t _ => ((s.procs.length : Int) - t).toNat)
  ⟨rfl, 0, rfl, by omega, ⟨fun e => ⟨e, fun p i z u hp => by omega⟩, fun e => e.1⟩⟩ ?_
 rintro v t h4 ⟨rfl, j, rfl, hj, hv⟩
 refine letW ?_
 by_cases hgo : j < s.procs.length ∧ v = true
 ·obtain ⟨hlt, hvt⟩ := hgo
  rw [if_pos (by rw [hvt, Bool.and_true]; exact decide_eq_true (by omega))]
  have hzj := List.getElem?_eq_getElem hlt
  generalize s.procs[j] = z at hzj
  have hjc : j < c.procs.length := by omega
  have huj := List.getElem?_eq_getElem hjc
  generalize c.procs[j] = u at huj
  obtain ⟨p0, p1⟩ := hpart u (List.mem_of_getElem? huj)
  refine ⟨fun _ => ?_, fun e => by rw [hvt] at e; cases e⟩
  refine znq (zuz1 (k.mono l2) hS (i := u.part.toNat) hzj huj (by omega) fun r hr => letW ?_)
  rw [zao (by omega) (by omega)]
  refine ⟨⟨rfl, j + 1, by omega, by omega, ?_⟩, by omega⟩
  obtain ⟨g1, g2⟩ := hv.1 hvt
  rw [hvt, Bool.true_and, hr]
  constructor
  ·intro hp
   refine ⟨g1, fun p i z' u' hi hz' hu' hpi => ?_⟩
   by_cases hij : p < j
   ·exact g2 p i z' u' hij hz' hu' hpi
   ·have : p = j := by omega
    subst this
    rw [hzj] at hz'; cases hz'
    rw [huj] at hu'; cases hu'
    have : i = u.part.toNat := by omega
    rw [this]; exact hp
  ·exact fun hh => hh.2 j _ z u (by omega) hzj huj (by omega)
 ·rw [if_neg (fun e => hgo (by
   rw [Bool.and_eq_true, decide_eq_true_eq] at e
   exact ⟨by omega, e.2⟩))]
  have hl := Hp.le_trans l1 l2
  by_cases hvt : v = true
  ·rw [if_neg (by rw [hvt]; simp)]
   have hjn : ¬ j < s.procs.length := fun e => hgo ⟨e, hvt⟩
   obtain ⟨g1, g2⟩ := hv.1 hvt
   obtain ⟨g3, g4⟩ := hBq.1 g1
   refine yes _ hl ⟨hz, hA.1 g3, g4, fun p i z u hz' => g2 p i z u (by have := (List.getElem?_eq_some_iff.1 hz').1; omega) hz'⟩
  ·have hvf : v = false := by simpa using hvt
   rw [if_pos (by rw [hvf]; rfl)]
   exact no _ hl fun hm => hvt (hv.2 ⟨hBq.2 ⟨hA.2 hm.2.1, hm.2.2.1⟩, fun p i z u _ => hm.2.2.2 p i z u⟩)
end
end Lf

namespace Lf
open Go Go.Proofs
theorem RAt.known {d h : Hp} {rb : Nat} {bl : Sl} {bs : List UInt8} {r : RS} (a : RAt d h rb bl bs r) : h rb ≠ none := by
 obtain ⟨p, e, pl, k, hs⟩ := a.blk
 exact k.known
structure TB (d h0 : Hp) (rb : Nat) (bl : Sl) (bs : List UInt8) (k : Hp) (r : RS) (B : List Nat) : Prop where
 kr : h0 rb ≠ none
 keep : ∀ b o, h0 b = some o → b ≠ rb → k b = some o
 rd : RAt d k rb bl bs r
 nd : B.Nodup
 fresh : ∀ b ∈ B, h0 b = none
section
variable {d h0 k : Hp} {rb : Nat} {bl : Sl} {bs : List UInt8} {r : RS} {B : List Nat}
theorem TB.init (a : RAt d k rb bl bs r) : TB d k rb bl bs k r [] := ⟨a.known, fun _ _ e _ => e, a, List.nodup_nil, fun b hb => by cases hb⟩
theorem TB.nr (s : TB d h0 rb bl bs k r B) : rb ∉ B := fun h => s.kr (s.fresh rb h)
theorem TB.new_ (s : TB d h0 rb bl bs k r B) {b : Nat} (e : k b = none) : h0 b = none := by
 cases h : h0 b with
 | none => rfl
 | some o =>
  have h1 : b ≠ rb := fun h => s.rd.known (h ▸ e)
  rw [s.keep b o h h1] at e
  cases e
theorem TB.andThen (s : TB d h0 rb bl bs k r B) (hkn : ∀ b ∈ B, k b ≠ none) {k' : Hp} {r1 : RS} {B' : List Nat} (t : TB d k rb bl bs k' r1 B') : TB d h0 rb bl bs k' r1 (B ++ B') where
 kr := s.kr
 keep := fun b o e h1 => t.keep b o (s.keep b o e h1) h1
 rd := t.rd
 nd := by
  rw [List.nodup_append]
  exact ⟨s.nd, t.nd, fun a ha b hb e => hkn a ha (by rw [e]; exact t.fresh b hb)⟩
 fresh := fun b hb => by
  rcases List.mem_append.1 hb with hb | hb
  ·exact s.fresh b hb
  ·exact s.new_ (t.fresh b hb)
theorem TB.kept (s : TB d h0 rb bl bs k r B) (hkn : ∀ b ∈ B, k b ≠ none) {k' : Hp} {r1 : RS} {B' : List Nat} (t : TB d k rb bl bs k' r1 B') : ∀ b ∈ B, k' b = k b := fun b hb => by
 cases e : k b with
 | none => exact absurd e (hkn b hb)
 | some o => exact t.keep b o e fun h => s.nr (h ▸ hb)
theorem TB.step {r1 : RS} {k' : Hp} (hkr : k rb ≠ none) (m : Mv [rb] k [rb] k') (a : RAt d k' rb bl bs r1) : TB d k rb bl bs k' r1 [] :=
 ⟨hkr, fun b o e h1 => m.keep b o e fun h => h1 (List.mem_singleton.1 h), a, List.nodup_nil, fun b hb => by cases hb⟩
theorem TB.grow (s : TB d h0 rb bl bs k r B) {k' : Hp} (hl : k ≤ k') : TB d h0 rb bl bs k' r B :=
 ⟨s.kr, fun b o e h1 => hl b o (s.keep b o e h1), s.rd.grow hl, s.nd, s.fresh⟩
theorem TB.fin (s : TB d h0 rb bl bs k r B) {k3 : Hp} {B3 : List Nat} (keep3 : ∀ b o, k b = some o → b ∉ B → k3 b = some o) (nd3 : B3.Nodup) (from3 : ∀ b ∈ B3, b ∈ B ∨ k b = none) (hd : ∀ b ∈ B, d b = none) : TB d h0 rb bl bs k3 r B3 where
 kr := s.kr
 keep := fun b o e h1 => keep3 b o (s.keep b o e h1) fun hb => by rw [s.fresh b hb] at e; cases e
 rd := by
  obtain ⟨p, q, t, ⟨ty, kb⟩, hs⟩ := s.rd.blk
  exact ⟨fun b o e => keep3 b o (s.rd.le b o e) fun hb => (by rw [hd b hb] at e; cases e), s.rd.out, s.rd.src, s.rd.cap, s.rd.small, p, q, t, ⟨ty, keep3 rb _ kb s.nr⟩, hs⟩
 nd := nd3
 fresh := fun b hb => by
  rcases from3 b hb with hb | hb
  ·exact s.fresh b hb
  ·exact s.new_ hb
end
section
variable {d h0 k : Hp} {rb : Nat} {bl : Sl} {bs : List UInt8} {r : RS}
theorem tmid {β : Type} {sh : Shape} {sz : Nat} {R : sh.T → β → Hp → List Nat → Prop} {l : Sl} {ps : List β} {P M S B' : List Nat} (ok : AsOk R) (hd0 : d ≤ h0) (s : TB d h0 rb bl bs k r ((P ++ (M ++ S)) ++ B')) (o : RowsO sh sz R l ps k M) {v : sh.T} {p : β} (e : R v p k B')
  (kp : ∀ b ∈ P ++ S, k b ≠ none) {y : Sl} (hx : Rs k sh sz y [v]) (henc : ∀ x, (zae (sh.enc x)).length = sz) (hok : ∀ x, zef (zae (sh.enc x)) = true) {zero : List Value} {bytes : Nat} (hz : zero.length = sz)
  (hb : ps.length + 1 ≤ 140737488355328 ∧ (ps.length + 1) * bytes ≤ 140737488355328) {K : Sl → Hp → Prop}
  (hk : ∀ l' k' M2, TB d h0 rb bl bs k' r (P ++ (M2 ++ S)) → RowsO sh sz R l' (ps ++ [p]) k' M2 → (∀ b ∈ P ++ S, k' b = k b) → K l' k') : zas sz bytes zero l y K k := by
 have nd := List.nodup_append.1 s.nd
 have ndP := List.nodup_append.1 nd.1
 have ndM := List.nodup_append.1 ndP.2.1
 have hM : ∀ b ∈ P ++ S, b ∉ M := fun b hb hm => by
  rcases List.mem_append.1 hb with hb | hb
  ·exact ndP.2.2 b hb b (mem_a hm) rfl
  ·exact ndM.2.2 b hm b hb rfl
 have hB : ∀ b ∈ B', b ∉ P ++ (M ++ S) := fun b hb h => nd.2.2 b h b hb rfl
 refine zvh ok o e (by
  rw [List.nodup_append]
  exact ⟨ndM.1, nd.2.1, fun a ha b hb e => hB b hb (e ▸ mem_b (mem_a ha))⟩) hx henc hok hz hb fun l' k' M2 o2 nd2 keep2 from2 => ?_
 have hps : ∀ b ∈ P ++ S, k' b = k b := fun b hb => by
  cases e : k b with
  | none => exact absurd e (kp b hb)
  | some o => exact keep2 b o e (hM b hb)
 refine hk l' k' M2 (s.fin (fun b o e hn => keep2 b o e fun h => hn (mem_a (mem_b (mem_a h)))) (mid nd.1 nd2 from2 kp fun b hb h => hB b hb ?_) (fun b hb => ?_) (fun b hb => zbk hd0 (s.fresh b hb))) o2 hps
 ·rcases List.mem_append.1 h with h | h
  ·exact mem_a h
  ·exact mem_b (mem_b h)
 ·rcases List.mem_append.1 hb with hb | hb
  ·exact .inl (mem_a (mem_a hb))
  ·rcases List.mem_append.1 hb with hb | hb
   ·rcases from2 b hb with hb | hb
    ·rcases List.mem_append.1 hb with hb | hb
     ·exact .inl (mem_a (mem_b (mem_a hb)))
     ·exact .inl (mem_b hb)
    ·exact .inr hb
   ·exact .inl (mem_a (mem_b (mem_b hb)))
end
section
variable {d h : Hp} {rb : Nat} {bl : Sl} {bs : List UInt8} {r : RS}
theorem TB.next {h0 k : Hp} {B : List Nat} (s : TB d h0 rb bl bs k r B) (hkn : ∀ b ∈ B, k b ≠ none) {k' : Hp} {r1 : RS} (m : Mv [rb] k [rb] k') (a : RAt d k' rb bl bs r1) : TB d h0 rb bl bs k' r1 B ∧ ∀ b ∈ B, k' b = k b := by
 have t : TB d k rb bl bs k' r1 [] := TB.step s.rd.known m a
 have s2 := s.andThen hkn t
 rw [List.append_nil] at s2
 exact ⟨s2, s.kept hkn t⟩
end
section
variable {d h : Hp} {rb : Nat} {bl : Sl} {bs : List UInt8} {r : RS}
theorem RAt.of (a : RAt d h rb bl bs r) {h' : Hp} {r1 : RS} (m : Mv [rb] h [rb] h') {p e pl : Int} (k : Blk h' rb (zbz bl p e pl)) (hs : RSat r1 bs.length p e pl) : RAt d h' rb bl bs r1 :=
 ⟨(m.le a.le fun c hc => by rw [List.mem_singleton.1 hc]; exact a.out).1, a.out, a.src, a.cap, a.small, p, e, pl, k, hs⟩
theorem zvl {P : Program} {at_ e pl e1 p1 : Int} (k : Blk h rb (zbz bl at_ e pl)) {Q : Hp → Prop}
  (hk : ∀ h', Mv [rb] h [rb] h' → Blk h' rb (zbz bl at_ (if e = 0 then e1 else e) (if e = 0 then p1 else pl)) → Q h') : zbt P (some ⟨rb, 0, none⟩) e1 p1 Q h := by
 unfold zbt
 refine zad (ld_at (sh := shInt .i64) e (k.ldIs (off := 2) (n := 1) rfl) ?_)
 by_cases h2 : e = 0
 ·rw [if_pos (by simpa using h2)]
  rw [if_pos h2, if_pos h2] at hk
  refine zad (zfc (b := rb) (off := 2) k (by simp [zbz]) fun h2' m2 k2 => zad (zfc (b := rb) (off := 3) k2 (by simp [zbz]) fun h3 m3 k3 => hk h3 (m2.trans m3) (by simpa [zbz] using k3)))
 ·rw [if_neg (by simpa using h2)]
  rw [if_neg h2, if_neg h2] at hk
  exact hk h (Mv.refl _ _) k
theorem zkc {k : Nat} {Q : Int → Hp → Prop} (a : RAt d h rb bl bs r) (hk1 : 1 ≤ k) (hk8 : k ≤ 8)
  (hq : ∀ (n : Nat) r1 h', n < 256 ^ k → Mv [rb] h [rb] h' → RAt d h' rb bl bs r1 → Cn bs r (D.num k) r1 n → ((∃ e, r1 = .error e) → n = 0) → Q (n : Int) h') : zcd Tryz.prog (some ⟨rb, 0, none⟩) (k : Int) Q h := by
 unfold zcd
 obtain ⟨p, e, pl, kb, hs⟩ := a.blk
 have hlen : bl.len = bs.length := a.src.1
 have hsm := a.small
 have hpow : 0 < 256 ^ k := Nat.pow_pos (by omega)
 refine zad (ld_at (sh := shInt .i64) e (kb.ldIs (off := 2) (n := 1) rfl) ?_)
 cases r with
 | error y =>
  obtain ⟨er, q⟩ := y
  rw [if_pos (by rw [bne_iff_ne, hs.1]; exact hs.2.1)]
  exact hq 0 _ h hpow (Mv.refl _ _) a Cn.stay fun _ => rfl
 | ok n =>
  obtain ⟨rfl, rfl, hn⟩ := hs
  have hn : n ≤ bs.length := by omega
  rw [if_neg (by simp)]
  refine zad (ld_at (sh := shSl) bl (kb.ldIs (off := 0) (n := 1) rfl) (zad (ld_at (sh := shInt .i64) (n : Int) (kb.ldIs (off := 1) (n := 1) rfl) ?_)))
  rw [zao (by omega) (by omega)]
  by_cases hsh : bs.length < n + k
  ·have hlt : ((bl.len : Nat) : Int) - (n : Int) < (k : Int) := by omega
   rw [if_pos (decide_eq_true hlt)]
   refine zad (ld_at (sh := shSl) bl (kb.ldIs (off := 0) (n := 1) rfl) (zak (zvl kb fun h' m k' => ?_)))
   rw [if_pos rfl, if_pos rfl] at k'
   refine hq 0 (.error (5, bs.length)) h' hpow m (a.of m k' ⟨rfl, by decide, by rw [hlen]⟩) (Cn.err ?_) fun _ => rfl
   unfold D.num
   rw [if_pos hsh]
  ·have hlt : ¬ ((bl.len : Nat) : Int) - (n : Int) < (k : Int) := by omega
   rw [if_neg (fun e => hlt (of_decide_eq_true e))]
   have hdl : ((bs.drop n).take k).length = k := by rw [List.length_take, List.length_drop]; omega
   have hv := zzo ((bs.drop n).take k)
   rw [hdl] at hv
   refine forA (n := k) rfl (by omega) (fun i (v : Int) h' => h' = h ∧ v = (valB (((bs.drop n).take k).take i) : Int)) ⟨rfl, rfl⟩ ?_ ?_
   ·rintro i hi v h' ⟨rfl, rfl⟩ K hK
    refine zad (ld_at (sh := shSl) bl (kb.ldIs (off := 0) (n := 1) rfl) (zad (ld_at (sh := shInt .i64) (n : Int) (kb.ldIs (off := 1) (n := 1) rfl) ?_)))
    rw [zao (n := (n : Int) + (i : Int)) (by omega) (by omega)]
    obtain ⟨e1, x, hx, hld⟩ := Rw.read (Rw.mono a.le a.src) zly (by omega) (i := (n : Int) + (i : Int)) (by omega) (by omega)
    have hx : bs[n + i]? = some x := by rw [← hx]; congr 1
    refine ⟨e1, (x.toNat : Int), hld, ?_⟩
    rw [zao (n := (8 : Int) * (i : Int)) (by omega) (by omega)]
    refine ⟨by omega, ?_⟩
    have hx2 : ((bs.drop n).take k)[i]? = some x := by
     rw [List.getElem?_take, if_pos hi, List.getElem?_drop]; exact hx
    have hv2 := zzo (((bs.drop n).take k).take i)
    have hti : (((bs.drop n).take k).take i).length = i := by rw [List.length_take, hdl]; omega
    rw [hti] at hv2
    rw [zul1 hv2 (by omega) x.toNat_lt]
    refine hK _ _ ⟨rfl, ?_⟩
    rw [List.take_add_one, hx2]
    show _ = ((valB (((bs.drop n).take k).take i ++ [x]) : Nat) : Int)
    rw [zlv1, hti]
   ·rintro v h' ⟨rfl, rfl⟩
    rw [List.take_of_length_le (by omega)]
    refine zad (ld_at (sh := shInt .i64) (n : Int) (kb.ldIs (off := 1) (n := 1) rfl) (zad (zfc (b := rb) (off := 1) kb (by simp [zbz]) fun h5 m5 kb5 => ?_)))
    rw [zao (by omega) (by omega)] at kb5
    have kb5 : Blk h5 rb (zbz bl ((n : Int) + (k : Int)) 0 pl) := by simpa [zbz] using kb5
    refine hq _ (.ok (n + k)) h5 hv m5 (a.of m5 kb5 ⟨by push_cast; rfl, rfl, by omega⟩) (Cn.ok ?_) (by rintro ⟨e, he⟩; cases he)
    unfold D.num
    rw [if_neg hsh]
theorem zxj {P : Program} {α : Type} {h1 : Hp} {r1 : RS} {g : D α} {W : α → Int} {n : α} {e p : Int} (a1 : RAt d h1 rb bl bs r1) (hc : Cn bs r g r1 n) (hp : ∀ a, r = .ok a → p = (a : Int)) (hW : W n = e) (he : e ≠ 0) {Q : Hp → Prop}
  (hq : ∀ r2 h2, Mv [rb] h1 [rb] h2 → RAt d h2 rb bl bs r2 → Cn bs r (D.must g W) r2 n → (∃ y, r2 = .error y) → Q h2) : zbt P (some ⟨rb, 0, none⟩) e p Q h1 := by
 subst hW
 obtain ⟨p1, e1, pl1, kb1, hs1⟩ := a1.blk
 refine zvl kb1 fun h2 m2 kb2 => ?_
 have hdone := hc.done
 cases r with
 | error y =>
  cases r1 with
  | ok at1 => cases hdone
  | error y1 =>
   have hdone : (Except.error y : Except (Int × Nat) (α × Nat)) = .error y1 := hdone
   cases hdone
   obtain ⟨er, q⟩ := y
   obtain ⟨rfl, hne, rfl⟩ := hs1
   rw [if_neg hne, if_neg hne] at kb2
   exact hq (.error (e1, q)) h2 m2 (a1.of m2 kb2 ⟨rfl, hne, rfl⟩) Cn.stay ⟨_, rfl⟩
 | ok at_ =>
  have hp := hp at_ rfl
  subst hp
  cases r1 with
  | ok at1 =>
   obtain ⟨rfl, rfl, hat1⟩ := hs1
   have hdone : g bs at_ = .ok (n, at1) := hdone
   rw [if_pos rfl, if_pos rfl] at kb2
   refine hq (.error (W n, at_)) h2 m2 (a1.of m2 kb2 ⟨rfl, he, rfl⟩) (Cn.err ?_) ⟨_, rfl⟩
   unfold D.must
   rw [hdone]
   dsimp only
   rw [if_neg he]
  | error y1 =>
   obtain ⟨er, q⟩ := y1
   have hdone : g bs at_ = .error (er, q) := hdone
   obtain ⟨rfl, hne, rfl⟩ := hs1
   rw [if_neg hne, if_neg hne] at kb2
   refine hq (.error (e1, q)) h2 m2 (a1.of m2 kb2 ⟨rfl, hne, rfl⟩) (Cn.err ?_) ⟨_, rfl⟩
   unfold D.must
   rw [hdone]
def betwE (least most low high : Int) (n : Int) : Int := if n < least then low else if most < n then high else 0
theorem zif1 {α : Type} {g : D α} {W : α → Int} {r1 : RS} {n m : α} {y : Int × Nat} (hc : Cn bs r g r1 n) (he : r1 = .error y) : Cn bs r (D.must g W) r1 m := by
 subst he
 have hdone := hc.done
 cases r with
 | error y1 =>
  have hdone : (Except.error y1 : Except (Int × Nat) (α × Nat)) = .error y := hdone
  cases hdone
  exact Cn.stay
 | ok at_ =>
  have hdone : g bs at_ = .error y := hdone
  refine Cn.err ?_
  unfold D.must
  rw [hdone]
theorem zme {k : Nat} {least most low high : Int} {Q : Int → Hp → Prop} (a : RAt d h rb bl bs r) (hk1 : 1 ≤ k) (hk4 : k ≤ 4) (hlow : low ≠ 0) (hhigh : high ≠ 0) (hlm : least ≤ most)
  (hq : ∀ (n : Nat) r1 h', n < 256 ^ k → Mv [rb] h [rb] h' → RAt d h' rb bl bs r1 → Cn bs r (D.must (zD k) (betwE least most low high)) r1 (n : Int) → Q (n : Int) h') : zcv Tryz.prog (some ⟨rb, 0, none⟩) (k : Int) least most low high Q h := by
 unfold zcv
 have hpow : 256 ^ k ≤ 4294967296 := Nat.pow_le_pow_right (by omega : 256 > 0) hk4
 obtain ⟨p, e, pl, kb, hs⟩ := a.blk
 have hp : ∀ aa, r = .ok aa → p = (aa : Int) := fun aa e => by subst e; exact hs.1
 refine zad (ld_at (sh := shInt .i64) p (kb.ldIs (off := 1) (n := 1) rfl) ?_)
 refine zab (zkc (k := k) a hk1 (by omega) fun n r1 h1 hn m1 a1 hc1 hz => ?_)
 obtain ⟨p1, e1, pl1, kb1, hs1⟩ := a1.blk
 have hc1 : Cn bs r (zD k) r1 (n : Int) := hc1.map
 refine zad (ld_at (sh := shInt .i64) e1 (kb1.ldIs (off := 2) (n := 1) rfl) ?_)
 cases r1 with
 | error y =>
  rw [if_pos (by rw [bne_iff_ne, hs1.1]; exact hs1.2.1)]
  exact hq 0 _ h1 (Nat.pow_pos (by omega)) m1 a1 (zif1 hc1 rfl)
 | ok at1 =>
  obtain ⟨rfl, rfl, hat1⟩ := hs1
  rw [if_neg (by simp), zao (by omega) (by omega)]
  by_cases g1 : (n : Int) < least
  ·refine JoinW0.intro (fun k' => ∃ r2, Mv [rb] h [rb] k' ∧ RAt d k' rb bl bs r2 ∧ Cn bs r (D.must (zD k) (betwE least most low high)) r2 (n : Int)) ?_ ?_
   ·rw [if_pos (decide_eq_true g1)]
    exact zak (zxj a1 hc1 hp (W := betwE least most low high) (by unfold betwE; rw [if_pos g1]) hlow fun r2 h2 m2 a2 hc2 _ => ⟨r2, m1.trans m2, a2, hc2⟩)
   ·rintro k' ⟨r2, m2, a2, hc2⟩
    rw [if_neg (fun e => by have := of_decide_eq_true e; omega)]
    exact hq n r2 k' hn m2 a2 hc2
  ·refine JoinW0.intro (fun k' => k' = h1) ?_ ?_
   ·rw [if_neg (fun e => g1 (of_decide_eq_true e))]
   ·rintro k' rfl
    by_cases g2 : most < (n : Int)
    ·rw [if_pos (decide_eq_true g2)]
     exact zak (zxj a1 hc1 hp (W := betwE least most low high) (by unfold betwE; rw [if_neg g1, if_pos g2]) hhigh fun r2 h2 m2 a2 hc2 _ => hq n r2 h2 hn (m1.trans m2) a2 hc2)
    ·rw [if_neg (fun e => g2 (of_decide_eq_true e))]
     exact hq n _ k' hn m1 a1 (zcq1 hc1 (by unfold betwE; rw [if_neg g1, if_neg g2]))
end
end Lf

namespace Lf
open Go Go.Proofs
section
variable {d h : Hp} {rb : Nat} {bl : Sl} {bs : List UInt8} {r : RS}
theorem zig1 {α : Type} {g : List α → D α} {r0 r1 : RS} {N i : Nat} {xs : List α} (hcn : ∀ (β : Type) (f : List α → D β), stepD r0 (D.bind (D.many g N []) f) bs = stepD r1 (D.bind (D.many g (N - i) xs) f) bs) (hor : i = N ∨ ∃ e, r1 = .error e) : Cn bs r0 (D.many g N []) r1 xs := fun β f => by
 rw [hcn]
 rcases hor with rfl | ⟨e, rfl⟩
 ·rw [Nat.sub_self]; rfl
 ·rfl
theorem readT {α σ : Type} {g : List α → D α} {len : Int} {N : Nat} (hn : len = (N : Int)) (hN : N ≤ 1000000) (I : σ → List α → RS → Hp → Prop) (hrd : ∀ s xs r h, I s xs r h → RAt d h rb bl bs r)
  {B : (Int → σ → Hp → Prop) → Int → σ → Hp → Prop} {X : Int → σ → Hp → Prop} {s0 : σ} {h0 : Hp} {r0 : RS} (h00 : I s0 [] r0 h0)
  (hs : ∀ (i : Nat) s xs at_ h, xs.length = i → i < N → I s xs (.ok at_) h → ∀ K : Int → σ → Hp → Prop, (∀ s' v r' h', I s' (xs ++ [v]) r' h' → Cn bs (.ok at_) (g xs) r' v → K (IntKind.wrap .i64 ((i : Int) + 1)) s' h') → B K (i : Int) s h)
  (hx : ∀ (i : Int) s xs r h, I s xs r h → xs.length ≤ N → Cn bs r0 (D.many g N []) r xs → X i s h) :
  LoopW2 (fun again i s h => NilW (some (decide (i < len))) (some ⟨rb, 0, none⟩) fun p => LdW (some (decide (i < len))) (shInt .i64) h (Addr.add p 2) fun x =>
   LetW ((decide (i < len)) && (x == (0 : Int))) fun y => if y = true then B again i s h else X i s h) (0 : Int) s0 h0 := by
 refine LoopW2.intro (fun t s h => ∃ (i : Nat) (xs : List α) (r1 : RS), t = (i : Int) ∧ i ≤ N ∧ xs.length = i ∧ I s xs r1 h ∧ ∀ (β : Type) (f : List α → D β), stepD r0 (D.bind (D.many g N []) f) bs = stepD r1 (D.bind (D.many g (N - i) xs) f) bs)
  (fun t _ _ => ((N : Int) - t).toNat) ⟨0, [], r0, rfl, by omega, rfl, h00, fun _ _ => rfl⟩ ?_
 rintro t s h ⟨i, xs, r1, rfl, hi, hxl, hI, hcn⟩
 obtain ⟨p, e, pl, kb, hs1⟩ := (hrd s xs r1 h hI).blk
 refine zad (ldC (sh := shInt .i64) e (kb.ldIs (off := 2) (n := 1) rfl) (letW ?_))
 by_cases hgo : i < N ∧ ∃ at_, r1 = .ok at_
 ·obtain ⟨hlt, at_, rfl⟩ := hgo
  rw [if_pos (by rw [hs1.2.1]; simp; omega)]
  refine hs i s xs at_ h hxl hlt hI _ fun s' v r' h' hI' hc => ?_
  rw [zao (by omega) (by omega)]
  refine ⟨⟨i + 1, xs ++ [v], r', by omega, by omega, by simp [hxl], hI', fun β f => ?_⟩, by omega⟩
  have e1 : N - i = (N - (i + 1)) + 1 := by omega
  rw [hcn, e1, zdg, zai, hc]
 ·have hor : i = N ∨ ∃ e, r1 = .error e := by
   by_cases hlt : i < N
   ·cases r1 with
    | ok a => exact absurd ⟨hlt, a, rfl⟩ hgo
    | error e => exact .inr ⟨e, rfl⟩
   ·exact .inl (by omega)
  rw [if_neg (by
   rcases hor with rfl | ⟨y, rfl⟩
   ·simp; omega
   ·have := hs1.2.1
    rw [← hs1.1] at this
    simp [this])]
  exact hx _ s xs r1 h hI (by omega) (zig1 hcn hor)
theorem readA {α σ : Type} {g : List α → D α} {len : Int} {N : Nat} (hn : len = (N : Int)) (hN : N ≤ 1000000) (I : σ → List α → RS → Hp → Prop) (hrd : ∀ s xs r h, I s xs r h → RAt d h rb bl bs r)
  {B : (σ → Int → Hp → Prop) → σ → Int → Hp → Prop} {X : σ → Int → Hp → Prop} {s0 : σ} {h0 : Hp} {r0 : RS} (h00 : I s0 [] r0 h0)
  (hs : ∀ (i : Nat) s xs at_ h, xs.length = i → i < N → I s xs (.ok at_) h → ∀ K : σ → Int → Hp → Prop, (∀ s' v r' h', I s' (xs ++ [v]) r' h' → Cn bs (.ok at_) (g xs) r' v → K s' (IntKind.wrap .i64 ((i : Int) + 1)) h') →
   (∀ s' v r' h' i', (∃ e, r' = .error e) → I s' xs r' h' → Cn bs (.ok at_) (g xs) r' v → X s' i' h') → B K s (i : Int) h)
  (hx : ∀ (i : Int) s xs r h, I s xs r h → xs.length ≤ N → Cn bs r0 (D.many g N []) r xs → X s i h) :
  LoopW2 (fun again s i h => NilW (some (decide (i < len))) (some ⟨rb, 0, none⟩) fun p => LdW (some (decide (i < len))) (shInt .i64) h (Addr.add p 2) fun x =>
   LetW ((decide (i < len)) && (x == (0 : Int))) fun y => if y = true then B again s i h else X s i h) s0 (0 : Int) h0 := by
 refine LoopW2.intro (fun s t h => ∃ (i : Nat) (xs : List α) (r1 : RS), t = (i : Int) ∧ i ≤ N ∧ xs.length = i ∧ I s xs r1 h ∧ ∀ (β : Type) (f : List α → D β), stepD r0 (D.bind (D.many g N []) f) bs = stepD r1 (D.bind (D.many g (N - i) xs) f) bs)
  (fun _ t _ => ((N : Int) - t).toNat) ⟨0, [], r0, rfl, by omega, rfl, h00, fun _ _ => rfl⟩ ?_
 rintro s t h ⟨i, xs, r1, rfl, hi, hxl, hI, hcn⟩
 obtain ⟨p, e, pl, kb, hs1⟩ := (hrd s xs r1 h hI).blk
 refine zad (ldC (sh := shInt .i64) e (kb.ldIs (off := 2) (n := 1) rfl) (letW ?_))
 by_cases hgo : i < N ∧ ∃ at_, r1 = .ok at_
 ·obtain ⟨hlt, at_, rfl⟩ := hgo
  rw [if_pos (by rw [hs1.2.1]; simp; omega)]
  refine hs i s xs at_ h hxl hlt hI _ (fun s' v r' h' hI' hc => ?_) fun s' v r' h' i' he hI' hc => ?_
  ·rw [zao (by omega) (by omega)]
   refine ⟨⟨i + 1, xs ++ [v], r', by omega, by omega, by simp [hxl], hI', fun β f => ?_⟩, by omega⟩
   have e1 : N - i = (N - (i + 1)) + 1 := by omega
   rw [hcn, e1, zdg, zai, hc]
  ·obtain ⟨e, rfl⟩ := he
   refine hx i' s' xs _ h' hI' (by omega) fun β f => ?_
   have e1 : N - i = (N - (i + 1)) + 1 := by omega
   rw [hcn, e1, zdg, zai, hc]
   rfl
 ·have hor : i = N ∨ ∃ e, r1 = .error e := by
   by_cases hlt : i < N
   ·cases r1 with
    | ok a => exact absurd ⟨hlt, a, rfl⟩ hgo
    | error e => exact .inr ⟨e, rfl⟩
   ·exact .inl (by omega)
  rw [if_neg (by
   rcases hor with rfl | ⟨y, rfl⟩
   ·simp; omega
   ·have := hs1.2.1
    rw [← hs1.1] at this
    simp [this])]
  exact hx _ s xs r1 h hI (by omega) (zig1 hcn hor)
theorem zso1 {cs : List UInt8} {Q : Hp → Prop} (a : RAt d h rb bl bs r) (hcs : cs.length ≤ 1000) (hq : ∀ r1 h', Mv [rb] h [rb] h' → RAt d h' rb bl bs r1 → Cn bs r (markD cs) r1 () → Q h') : zcp Tryz.prog (some ⟨rb, 0, none⟩) ⟨cs.toArray⟩ Q h := by
 unfold zcp
 have hsz : ((ByteArray.size ⟨cs.toArray⟩ : Nat) : Int) = (cs.length : Int) := rfl
 rw [hsz]
 refine forI (n := cs.length) rfl (by omega) (fun i k => ∃ r1, Mv [rb] h [rb] k ∧ RAt d k rb bl bs r1 ∧ ∀ (β : Type) (f : Unit → D β), stepD r (D.bind (markD cs) f) bs = stepD r1 (D.bind (markD (cs.drop i)) f) bs) ⟨r, Mv.refl _ _, a, fun _ _ => by rw [List.drop_zero]⟩ ?_ ?_
 ·rintro i hi k ⟨r1, m1, a1, hcn⟩ K hK
  have hci := List.getElem?_eq_getElem hi
  have hdrop : cs.drop i = cs[i] :: cs.drop (i + 1) := List.drop_eq_getElem_cons hi
  generalize cs[i] = c at hci hdrop
  obtain ⟨p, e, pl, kb, hs⟩ := a1.blk
  have hp : ∀ aa, r1 = .ok aa → p = (aa : Int) := fun aa e => by subst e; exact hs.1
  have hstep : ∀ r3 k3, Mv [rb] k [rb] k3 → RAt d k3 rb bl bs r3 → (∃ n, Cn bs r1 (D.must (D.num 1) fun n => if n = c.toNat then 0 else 4) r3 n) → K (IntKind.wrap .i64 ((i : Int) + 1)) k3 := fun r3 k3 m3 a3 ⟨n, hc⟩ => by
   refine hK k3 ⟨r3, m1.trans m3, a3, fun β f => ?_⟩
   rw [hcn, hdrop, markD, zai, hc]
  refine JoinW0.intro (fun k3 => ∃ r3, Mv [rb] k [rb] k3 ∧ RAt d k3 rb bl bs r3 ∧ ∃ n, Cn bs r1 (D.must (D.num 1) fun n => if n = c.toNat then 0 else 4) r3 n) ?_ ?_
  ·refine zad (ld_at (sh := shInt .i64) p (kb.ldIs (off := 1) (n := 1) rfl) ?_)
   refine zab (zkc (k := 1) a1 (by omega) (by omega) fun n r2 k2 hn m2 a2 hc2 hz => ?_)
   obtain ⟨p2, e2, pl2, kb2, hs2⟩ := a2.blk
   refine zad (ld_at (sh := shInt .i64) e2 (kb2.ldIs (off := 2) (n := 1) rfl) ⟨fun _ => ⟨by omega, by omega⟩, letW ?_⟩)
   have hgd : (List.getD cs (Int.toNat (i : Int)) 0) = c := by
    rw [show Int.toNat (i : Int) = i from rfl, List.getD_eq_getElem?_getD, hci]; rfl
   have hgd : (List.getD (⟨cs.toArray⟩ : ByteArray).data.toList (Int.toNat (i : Int)) 0) = c := hgd
   rw [hgd]
   have hcl := c.toNat_lt
   have hw : IntKind.wrap .u64 ((c.toNat : Nat) : Int) = ((c.toNat : Nat) : Int) := wrapU ⟨by omega, by omega⟩
   rw [hw]
   cases r2 with
   | error y =>
    have hne := hs2.2.1
    rw [← hs2.1] at hne
    rw [if_neg (by simp [hne])]
    exact ⟨_, m2, a2, 0, zif1 hc2 rfl⟩
   | ok at2 =>
    rw [hs2.2.1]
    by_cases hnc : n = c.toNat
    ·rw [if_neg (by simp [hnc])]
     exact ⟨_, m2, a2, n, zcq1 hc2 (by simp [hnc])⟩
    ·rw [if_pos (by simp; omega)]
     exact zak (zxj a2 hc2 hp (W := fun n => if n = c.toNat then 0 else 4) (by simp [hnc]) (by decide) fun r3 k3 m3 a3 hc3 _ => ⟨r3, m2.trans m3, a3, n, hc3⟩)
  ·rintro k3 ⟨r3, m3, a3, hc⟩
   exact hstep r3 k3 m3 a3 hc
 ·rintro k ⟨r1, m1, a1, hcn⟩
  refine hq r1 k m1 a1 fun β f => ?_
  rw [hcn, List.drop_length]
  rfl
theorem zef2 {y : Sl} {l : List UInt8} {x : PIns} {at2 : Nat} (hb : Bs h y l) (h12 : 12 ≤ l.length) (hx : zrk l 0 = .ok (x, at2)) {Q : S_api_Ins → Hp → Prop} (hq : ∀ v, insOf v = x → Q v h) : zhm Tryz.prog y Q h := by
 unfold zhm
 have hlen : y.len = l.length := hb.1
 have hfl : ∀ (i : Nat) (K : Int → Prop), i < 12 → (∀ b : UInt8, l[i]? = some b → K (b.toNat : Int)) → (InB y.base y.len (i : Int) ∧ LdW none (shInt .u8) h (sat y.base 1 (i : Int)) K) := fun i K hi hk => by
  obtain ⟨e1, b, hb2, hld⟩ := Rw.read hb zly (by omega) (i := (i : Int)) (by omega) (by omega)
  exact ⟨e1, (b.toNat : Int), hld, hk b hb2⟩
 have hd : ∀ i, i < 12 → l[i]? = some (l.getD i 0) := fun i hi => by
  rw [List.getD_eq_getElem?_getD, List.getElem?_eq_getElem (by omega)]; rfl
 have hdl : ((l.drop 4).take 8).length = 8 := by rw [List.length_take, List.length_drop]; omega
 have hv8 := zzo ((l.drop 4).take 8)
 rw [hdl] at hv8
 have hval : x = ⟨((l.getD 0 0).toNat : Int), ((l.getD 1 0).toNat : Int), ((l.getD 2 0).toNat : Int), ((l.getD 3 0).toNat : Int), i64 (valB ((l.drop 4).take 8))⟩ := by
  have hnum : ∀ (at_ : Nat), at_ < 12 → D.num 1 l at_ = .ok ((l.getD at_ 0).toNat, at_ + 1) := fun at_ ha => by
   unfold D.num
   rw [if_neg (by omega)]
   have : (l.drop at_).take 1 = [l.getD at_ 0] := by
    have hla : at_ < l.length := by omega
    rw [List.drop_eq_getElem_cons hla, List.getD_eq_getElem?_getD, List.getElem?_eq_getElem hla]
    rfl
   rw [this]
   simp [valB]
  have h8 : D.num 8 l 4 = .ok (valB ((l.drop 4).take 8), 12) := by
   unfold D.num
   rw [if_neg (by omega)]
  have hz : ∀ at_, at_ < 12 → zD 1 l at_ = .ok (((l.getD at_ 0).toNat : Int), at_ + 1) := fun at_ ha => by
   unfold zD D.map D.bind
   rw [hnum at_ ha]; rfl
  have h9 : D.map i64 (D.num 8) l 4 = .ok (i64 (valB ((l.drop 4).take 8)), 12) := by
   unfold D.map D.bind
   rw [h8]; rfl
  unfold zrk at hx
  have b1 : ∀ {α β : Type} {d : D α} {f : α → D β} {b : List UInt8} {a a2 : Nat} {v : α}, d b a = .ok (v, a2) → D.bind d f b a = f v b a2 := fun {α β d f b a a2 v} e => by unfold D.bind; rw [e]
  rw [b1 (hz 0 (by omega)), b1 (hz 1 (by omega)), b1 (hz 2 (by omega)), b1 (hz 3 (by omega)), b1 h9] at hx
  have h2 := Except.ok.inj hx
  exact (congrArg Prod.fst h2).symm
 refine forA (n := 8) rfl (by omega) (fun i (v : Int) h' => h' = h ∧ v = (valB (((l.drop 4).take 8).take i) : Int)) ⟨rfl, rfl⟩ ?_ ?_
 ·rintro i hi v h' ⟨rfl, rfl⟩ K hK
  rw [zao (n := (4 : Int) + (i : Int)) (by omega) (by omega), show (4 : Int) + (i : Int) = ((4 + i : Nat) : Int) by omega]
  refine hfl (4 + i) _ (by omega) fun b hb2 => ?_
  rw [zao (n := (8 : Int) * (i : Int)) (by omega) (by omega)]
  refine ⟨by omega, ?_⟩
  have hx2 : ((l.drop 4).take 8)[i]? = some b := by
   rw [List.getElem?_take, if_pos hi, List.getElem?_drop]; exact hb2
  have hv2 := zzo (((l.drop 4).take 8).take i)
  have hti : (((l.drop 4).take 8).take i).length = i := by rw [List.length_take, hdl]; omega
  rw [hti] at hv2
  rw [zul1 hv2 (by omega) b.toNat_lt]
  refine hK _ _ ⟨rfl, ?_⟩
  have e4 : ((l.drop 4).take 8).take (i + 1) = ((l.drop 4).take 8).take i ++ ((l.drop 4).take 8)[i]?.toList := List.take_add_one
  rw [e4, hx2]
  show _ = ((valB (((l.drop 4).take 8).take i ++ [b]) : Nat) : Int)
  rw [zlv1, hti]
 ·rintro v h' ⟨rfl, rfl⟩
  rw [List.take_of_length_le (by omega), zob (by omega)]
  refine hfl 0 _ (by omega) fun b0 q0 => hfl 1 _ (by omega) fun b1 q1 => hfl 2 _ (by omega) fun b2 q2 => hfl 3 _ (by omega) fun b3 q3 => hq _ ?_
  have w8 : ∀ b : UInt8, IntKind.wrap .i64 ((b.toNat : Nat) : Int) = (b.toNat : Int) := fun b => by
   have := b.toNat_lt
   exact zao (by omega) (by omega)
  rw [w8, w8, w8, w8, hval]
  rw [hd 0 (by omega)] at q0; rw [hd 1 (by omega)] at q1; rw [hd 2 (by omega)] at q2; rw [hd 3 (by omega)] at q3
  cases q0; cases q1; cases q2; cases q3
  rfl
end
end Lf

namespace Lf
open Go Go.Proofs
theorem zcf2 {l : List UInt8} {a : Nat} (h : a + 12 ≤ l.length) : zrk l a = .ok (⟨((l.getD a 0).toNat : Int), ((l.getD (a + 1) 0).toNat : Int), ((l.getD (a + 1 + 1) 0).toNat : Int), ((l.getD (a + 1 + 1 + 1) 0).toNat : Int), i64 (valB ((l.drop (a + 1 + 1 + 1 + 1)).take 8))⟩, a + 12) := by
 have hnum : ∀ at_ : Nat, at_ < l.length → D.num 1 l at_ = .ok ((l.getD at_ 0).toNat, at_ + 1) := fun at_ ha => by
  unfold D.num
  rw [if_neg (by omega)]
  have : (l.drop at_).take 1 = [l.getD at_ 0] := by
   rw [List.drop_eq_getElem_cons ha, List.getD_eq_getElem?_getD, List.getElem?_eq_getElem ha]
   rfl
  rw [this]
  simp [valB]
 have hz : ∀ at_ : Nat, at_ < l.length → zD 1 l at_ = .ok (((l.getD at_ 0).toNat : Int), at_ + 1) := fun at_ ha => by
  unfold zD D.map D.bind
  rw [hnum at_ ha]; rfl
 have h9 : D.map i64 (D.num 8) l (a + 1 + 1 + 1 + 1) = .ok (i64 (valB ((l.drop (a + 1 + 1 + 1 + 1)).take 8)), a + 12) := by
  have hn8 : D.num 8 l (a + 1 + 1 + 1 + 1) = .ok (valB ((l.drop (a + 1 + 1 + 1 + 1)).take 8), a + 12) := by
   unfold D.num
   rw [if_neg (by omega)]
  unfold D.map D.bind
  rw [hn8]; rfl
 have b1 : ∀ {α β : Type} {d : D α} {f : α → D β} {b : List UInt8} {a a2 : Nat} {v : α}, d b a = .ok (v, a2) → D.bind d f b a = f v b a2 := fun {α β d f b a a2 v} e => by unfold D.bind; rw [e]
 unfold zrk
 rw [b1 (hz a (by omega)), b1 (hz (a + 1) (by omega)), b1 (hz (a + 1 + 1) (by omega)), b1 (hz (a + 1 + 1 + 1) (by omega)), b1 h9]
 rfl
theorem zeg2 {l : List UInt8} {a : Nat} (h : a + 12 ≤ l.length) : ∃ x, zrk l a = .ok (x, a + 12) ∧ zrk (l.drop a) 0 = .ok (x, 0 + 12) := by
 refine ⟨_, zcf2 h, ?_⟩
 rw [zcf2 (l := l.drop a) (a := 0) (by rw [List.length_drop]; omega)]
 have hg : ∀ i, (l.drop a).getD i 0 = l.getD (a + i) 0 := fun i => by
  rw [List.getD_eq_getElem?_getD, List.getD_eq_getElem?_getD, List.getElem?_drop]
 rw [hg, hg, hg, hg, List.drop_drop]
 rfl
theorem zsp1 {x : PIns} {n locks : Int} : 0 ≤ (zbo x n locks).2 ∧ (zbo x n locks).2 ≤ 4 := by
 by_cases hw : (zbo x n locks).1 = 0
 ·unfold zbo at hw ⊢
  repeat' split
  all_goals first | (constructor <;> decide) | simp_all | omega
 ·rw [ziw1 hw]
  split
  ·omega
  ·unfold zfy1
   split
   ·omega
   ·split
    ·omega
    ·split <;> omega
section
variable {d h : Hp} {rb : Nat} {bl : Sl} {bs : List UInt8} {r : RS}
set_option maxRecDepth 20000 in
theorem zcg2 {many locks : Int} {N : Nat} {Q : Sl → Hp → Prop} (a : RAt d h rb bl bs r) (hmany : many = (N : Int)) (hN : N ≤ 1000000)
  (hq : ∀ l ps r1 B h', TB d h rb bl bs h' r1 B → InsO l ps h' B → Cn bs r (D.many (fun _ => insD many locks) N []) r1 ps → Q l h') : zct Tryz.prog (some ⟨rb, 0, none⟩) many locks Q h := by
 unfold zct
 have hsm := a.small
 refine newF (xs := ([] : List S_api_Ins)) (enc := fun x => zae (sh_api_Ins.enc x)) (sz := 5) rfl (fun _ => rfl) fun b1 k1 hn1 hle1 _ o1 => ?_
 have s1 : TB d h rb bl bs k1 r [b1] := ⟨a.known, fun b o e _ => hle1 b o e, a.grow hle1, by simp, fun b hb => by rw [List.mem_singleton.1 hb]; exact hn1⟩
 have w1 : InsO ⟨some ⟨b1, 0, none⟩, 0, 0⟩ [] k1 [b1] := ⟨[], [b1], [], rfl, o1, rfl⟩
 refine readA (bl := bl) (rb := rb) (bs := bs) (d := d) (g := fun _ => insD many locks) hmany hN (fun (l : Sl) (ps : List PIns) r' k => ∃ B, TB d h rb bl bs k r' B ∧ InsO l ps k B) (fun l ps r' k hI => hI.choose_spec.1.rd) ⟨_, s1, w1⟩ ?_ ?_
 ·rintro i l ps at_ k hpl hi ⟨B, s, o⟩ K hK hX
  have hkn := okIns.known o
  obtain ⟨p, e, pl, kb, hs⟩ := s.rd.blk
  obtain ⟨rfl, rfl, hn⟩ := hs
  have hlen : bl.len = bs.length := a.src.1
  have hn : at_ ≤ bs.length := by omega
  refine zad (ld_at (sh := shSl) bl (kb.ldIs (off := 0) (n := 1) rfl) (zad (ld_at (sh := shInt .i64) (at_ : Int) (kb.ldIs (off := 1) (n := 1) rfl) ?_)))
  rw [zao (by omega) (by omega)]
  by_cases hsh : bs.length < at_ + 12
  ·have hlt : ((bl.len : Nat) : Int) - (at_ : Int) < (12 : Int) := by omega
   rw [if_pos (decide_eq_true hlt)]
   refine zad (ld_at (sh := shSl) bl (kb.ldIs (off := 0) (n := 1) rfl) (zak (zvl kb fun k2 m2 kb2 => ?_)))
   rw [if_pos rfl, if_pos rfl] at kb2
   obtain ⟨s2, hs2⟩ := s.next hkn m2 (s.rd.of m2 kb2 (r1 := .error (5, bs.length)) ⟨rfl, by decide, by rw [hlen]⟩)
   refine hX l ⟨0, 0, 0, 0, 0⟩ _ k2 (i : Int) ⟨_, rfl⟩ ⟨B, s2, okIns.same o hs2⟩ (Cn.err ?_)
   unfold insD D.mustAt
   cases hi : zrk bs at_ with
   | error e => rw [zwx1 bs at_ e hi]
   | ok y =>
    obtain ⟨y, a2⟩ := y
    have h1 := (law_ins.sound bs at_ y a2 hi hn).2.1
    have h2 := law_ins.within hi hn
    simp [insB, zap] at h1
    omega
  ·have hlt : ¬ ((bl.len : Nat) : Int) - (at_ : Int) < (12 : Int) := by omega
   rw [if_neg (fun e => hlt (of_decide_eq_true e))]
   refine zad (ld_at (sh := shSl) bl (kb.ldIs (off := 0) (n := 1) rfl) (zad (ld_at (sh := shInt .i64) (at_ : Int) (kb.ldIs (off := 1) (n := 1) rfl) ?_)))
   refine ⟨⟨by omega, by rw [hlen]; exact Int.ofNat_le.2 hn⟩, letW ?_⟩
   have e2 : ((at_ : Int)).toNat = at_ := rfl
   rw [e2]
   have hcap := a.cap
   obtain ⟨x, hx, hx0⟩ := zeg2 (l := bs) (a := at_) (by omega)
   have hcut := (Rw.mono s.rd.le a.src).cut (a := at_) (b := bl.len) (c := bl.cap) (n := bl.len - at_) (m := bl.cap - at_) zly (by omega) (by omega) (by omega) rfl
   rw [List.take_of_length_le (by rw [List.length_drop]; omega)] at hcut
   refine zzn (zef2 hcut (by rw [List.length_drop]; omega) hx0 fun v hv => ?_)
   subst hv
   refine zlx (zlt1 ?_)
   by_cases hw : (zbo (insOf v) many locks).1 = 0
   ·rw [if_neg (by simpa using hw)]
    refine newF (xs := [v]) (enc := fun x => zae (sh_api_Ins.enc x)) (sz := 5) rfl (fun _ => rfl) fun b5 k5 _ hle5 _ o5 => ?_
    have s5 := s.grow hle5
    have oo := okIns.same o (zcb hle5 hkn)
    refine tmid (P := []) (S := []) (B' := []) (PureO.ok _) a.le (by simpa using s5) oo (v := v) (p := insOf v) ⟨rfl, rfl⟩ (by simp) (o5.rw fun _ => rfl) (fun _ => rfl) (fun _ => rfl) rfl (by omega) fun l' k6 B6 s6 o6 _ => ?_
    have s6 : TB d h rb bl bs k6 (.ok at_) B6 := by simpa using s6
    obtain ⟨p6, e6, pl6, kb6, hs6⟩ := s6.rd.blk
    obtain ⟨rfl, rfl, _⟩ := hs6
    refine zad (ld_at (sh := shInt .i64) (at_ : Int) (kb6.ldIs (off := 1) (n := 1) rfl) (zad (zfc (b := rb) (off := 1) kb6 (by simp [zbz]) fun k7 m7 kb7 => ?_)))
    rw [zao (n := (at_ : Int) + 12) (by omega) (by omega)] at kb7
    have kb7 : Blk k7 rb (zbz bl ((at_ : Int) + 12) 0 pl6) := by simpa [zbz] using kb7
    obtain ⟨s7, hs7⟩ := s6.next (okIns.known o6) m7 (s6.rd.of m7 kb7 (r1 := .ok (at_ + 12)) ⟨by push_cast; rfl, rfl, by push_cast; omega⟩)
    refine hK l' (insOf v) _ k7 ⟨B6, s7, okIns.same o6 hs7⟩ (Cn.ok ?_)
    unfold insD D.mustAt
    rw [hx]
    dsimp only
    rw [if_pos hw]
   ·rw [if_pos (by simpa using hw)]
    have hpl := zsp1 (x := insOf v) (n := many) (locks := locks)
    refine zad (ld_at (sh := shInt .i64) (at_ : Int) (kb.ldIs (off := 1) (n := 1) rfl) ?_)
    rw [zao (by omega) (by omega)]
    refine zak (zvl kb fun k2 m2 kb2 => ?_)
    rw [if_pos rfl, if_pos rfl] at kb2
    obtain ⟨s2, hs2⟩ := s.next hkn m2 (s.rd.of m2 kb2 (r1 := .error ((zbo (insOf v) many locks).1, at_ + (zbo (insOf v) many locks).2.toNat)) ⟨rfl, hw, by push_cast; omega⟩)
    refine hX l ⟨0, 0, 0, 0, 0⟩ _ k2 (i : Int) ⟨_, rfl⟩ ⟨B, s2, okIns.same o hs2⟩ (Cn.err ?_)
    unfold insD D.mustAt
    rw [hx]
    dsimp only
    rw [if_neg hw]
 ·rintro i l ps r' k ⟨B, s, o⟩ hpl hc
  exact hq l ps r' B k s o hc
end
end Lf

namespace Lf
open Go Go.Proofs
theorem zgm2 {k : Nat} {bs : List UInt8} {at_ at2 : Nat} {x : Int} (hz : zD k bs at_ = .ok (x, at2)) : ∃ n : Nat, x = (n : Int) := by
 unfold zD D.map D.bind at hz
 cases hn : D.num k bs at_ with
 | error e => rw [hn] at hz; cases hz
 | ok y =>
  obtain ⟨n, a3⟩ := y
  rw [hn] at hz
  have hz := Except.ok.inj hz
  exact ⟨n, (congrArg Prod.fst hz).symm⟩
theorem zqs {k : Nat} {W W' : Int → Int} (hW : ∀ n : Nat, W n = W' n) : D.must (zD k) W = D.must (zD k) W' := by
 funext b at_
 unfold D.must
 cases hz : zD k b at_ with
 | error e => rfl
 | ok y =>
  obtain ⟨x, at2⟩ := y
  obtain ⟨n, rfl⟩ := zgm2 hz
  dsimp only
  rw [hW n]
theorem zql1 {m : Int} (n : Nat) : betwE 1 m 1 3 n = cntE m n := by
 unfold betwE cntE
 by_cases h : n = 0
 ·subst h; rfl
 ·rw [if_neg (show ¬ ((n : Int) < 1) by omega), if_neg (show ¬ ((n : Int) = 0) by omega)]
theorem zdj1 {a b : Int} (n : Nat) : betwE a b 2 2 n = rngE a b n := by
 unfold betwE rngE within
 by_cases h1 : (n : Int) < a
 ·rw [if_pos h1, if_neg (by simp; omega)]
 ·rw [if_neg h1]
  by_cases h2 : b < (n : Int)
  ·rw [if_pos h2, if_neg (by simp; omega)]
  ·rw [if_neg h2, if_pos (by simp; omega)]
theorem zmb1 {m e : Int} (n : Nat) : betwE 0 m e e n = if m < (n : Int) then e else 0 := by
 unfold betwE
 rw [if_neg (by omega)]
section
variable {d h : Hp} {rb : Nat} {bl : Sl} {bs : List UInt8} {r r1 : RS}
theorem zeh2 {α : Type} {g : D α} {W : α → Int} {n : α} (hc : Cn bs r (D.must g W) r1 n) (h : ∃ a, r1 = .ok a) : W n = 0 := by
 obtain ⟨a, rfl⟩ := h
 have hd := hc.done
 cases r with
 | error y => cases hd
 | ok at_ =>
  have hd : D.must g W bs at_ = .ok (n, a) := hd
  unfold D.must at hd
  cases hg : g bs at_ with
  | error e => rw [hg] at hd; cases hd
  | ok y =>
   obtain ⟨x, a2⟩ := y
   rw [hg] at hd
   dsimp only at hd
   by_cases hw : W x = 0
   ·rw [if_pos hw] at hd
    cases hd
    exact hw
   ·rw [if_neg hw] at hd; cases hd
theorem zmc1 {α : Type} {g : D α} {n : α} (hc : Cn bs r g r1 n) (h : ∃ a, r1 = .ok a) : ∃ a, r = .ok a := by
 obtain ⟨a, rfl⟩ := h
 have hd := hc.done
 cases r with
 | error y => cases hd
 | ok at_ => exact ⟨at_, rfl⟩
theorem zch2 {l : Sl} {ls : List Int} {e : Int} (us : Us h l ls) (hl : ls.length ≤ 1000000) {K : Int → Prop} (hk : ∀ x, (e = 0 → ∀ z, ls.getLast? = some z → x = z) → K x) :
  (((e == (0 : Int)) && decide ((ls.length : Int) > (0 : Int))) = true → InB l.base l.len (IntKind.wrap .i64 ((ls.length : Int) - 1))) ∧
   LdW (some ((e == (0 : Int)) && decide ((ls.length : Int) > (0 : Int)))) (shInt .u64) h (sat l.base 1 (IntKind.wrap .i64 ((ls.length : Int) - 1))) K := by
 rw [zao (by omega) (by omega)]
 refine Rs.getC (sh := shInt .u64) us (0 : Int) (fun _ => rfl) (by omega) (fun hc => ?_) fun (x : Int) hx => hk x fun he z hz => ?_
 ·simp at hc
  omega
 ·have h0 : 0 < ls.length := by
   cases ls with
   | nil => cases hz
   | cons _ _ => simp
  have hx := hx (by simp [he]; omega)
  rw [List.getLast?_eq_getElem?] at hz
  rw [show ((ls.length : Int) - 1).toNat = ls.length - 1 by omega, hz] at hx
  exact (Option.some.inj hx).symm
set_option maxRecDepth 20000 in
theorem zyp1 {ls : List Int} {l : Sl} {at_ n : Nat} {p1 : Int} (hp1 : p1 = (at_ : Int)) (hl : ls.length ≤ 1000000) (a1 : RAt d h rb bl bs r1) (us : ∀ h', Mv [rb] h [rb] h' → Us h' l ls) (hc : Cn bs (.ok at_) (zD 8) r1 (n : Int)) {K : Hp → Prop}
  (hk : ∀ r3 h3, Mv [rb] h [rb] h3 → RAt d h3 rb bl bs r3 → Cn bs (.ok at_) (D.must (zD 8) (labE ls)) r3 (n : Int) → K h3) :
  JoinW0 (fun k =>
   NilW none (some ⟨rb, 0, none⟩) fun p2 => LdW none (shInt .i64) h (Addr.add p2 2) fun x2 => LetW ((x2 == (0 : Int)) && (decide (((ls.length : Nat) : Int) > (0 : Int)))) fun y1 =>
   ((y1 = true → (InB l.base l.len (IntKind.wrap .i64 (((ls.length : Nat) : Int) - (1 : Int))))) ∧ LdW (some y1) (shInt .u64) h (sat l.base 1 (IntKind.wrap .i64 (((ls.length : Nat) : Int) - (1 : Int)))) fun x3 =>
   LetW (y1 && ((n : Int) == x3)) fun y2 => (if y2 = true then Call0 Tryz.prog zah [(.pointer (some ⟨rb, 0, none⟩)), (.int .i64 (8 : Int)), (.int .i64 p1)] (fun h5 => k h5) h else k h)))
  (fun h5 => JoinW0 (fun k =>
   NilW none (some ⟨rb, 0, none⟩) fun p2 => LdW none (shInt .i64) h5 (Addr.add p2 2) fun x2 => LetW ((x2 == (0 : Int)) && (decide (((ls.length : Nat) : Int) > (0 : Int)))) fun y1 =>
   ((y1 = true → (InB l.base l.len (IntKind.wrap .i64 (((ls.length : Nat) : Int) - (1 : Int))))) ∧ LdW (some y1) (shInt .u64) h5 (sat l.base 1 (IntKind.wrap .i64 (((ls.length : Nat) : Int) - (1 : Int)))) fun x3 =>
   LetW (y1 && (decide ((n : Int) < x3))) fun y2 => (if y2 = true then Call0 Tryz.prog zah [(.pointer (some ⟨rb, 0, none⟩)), (.int .i64 (7 : Int)), (.int .i64 p1)] (fun h6 => k h6) h5 else k h5)))
   K) := by
 have hp : ∀ a, (Except.ok at_ : RS) = .ok a → p1 = (a : Int) := fun a e => by cases e; exact hp1
 refine JoinW0.intro (fun k' => ∃ r3, Mv [rb] h [rb] k' ∧ RAt d k' rb bl bs r3 ∧ (((∃ y, r3 = .error y) ∧ Cn bs (.ok at_) (D.must (zD 8) (labE ls)) r3 (n : Int)) ∨ (Cn bs (.ok at_) (zD 8) r3 (n : Int) ∧ ∀ z, ls.getLast? = some z → (n : Int) ≠ z))) ?_ ?_
 ·obtain ⟨p, e, pl, kb, hs⟩ := a1.blk
  refine zad (ld_at (sh := shInt .i64) e (kb.ldIs (off := 2) (n := 1) rfl) (letW ?_))
  refine zch2 (us h (Mv.refl _ _)) hl fun x hx => letW ?_
  cases r1 with
  | error y =>
   have hne := hs.2.1
   rw [← hs.1] at hne
   rw [if_neg (by simp [hne])]
   exact ⟨_, Mv.refl _ _, a1, .inl ⟨⟨_, rfl⟩, zif1 hc rfl⟩⟩
  | ok a3 =>
   obtain ⟨rfl, rfl, h3⟩ := hs
   by_cases hlast : ∃ z, ls.getLast? = some z ∧ (n : Int) = z
   ·obtain ⟨z, hz, hnz⟩ := hlast
    have h0 : 0 < ls.length := by
     cases ls with
     | nil => cases hz
     | cons _ _ => simp
    have hxz := hx rfl z hz
    rw [if_pos (by simp [hxz, hnz]; exact h0)]
    exact zak (zxj a1 hc hp (W := labE ls) (by unfold labE; rw [hz]; dsimp only; rw [if_pos hnz]) (by decide) fun r4 h4 m4 a4 hc4 he4 => ⟨r4, m4, a4, .inl ⟨he4, hc4⟩⟩)
   ·have hno : ∀ z, ls.getLast? = some z → (n : Int) ≠ z := fun z hz e => hlast ⟨z, hz, e⟩
    rw [if_neg (by
     intro hh
     simp at hh
     obtain ⟨z, hz⟩ : ∃ z, ls.getLast? = some z := by
      cases hg : ls.getLast? with
      | none =>
       have h0 : 0 < ls.length := hh.1
       rw [List.getLast?_eq_none_iff.1 hg] at h0
       cases h0
      | some z => exact ⟨z, rfl⟩
     exact hno z hz (by rw [hh.2]; exact hx rfl z hz))]
    exact ⟨_, Mv.refl _ _, a1, .inr ⟨hc, hno⟩⟩
 ·rintro h5 ⟨r3, m3, a3, hor⟩
  refine JoinW0.intro (fun k' => ∃ r4, Mv [rb] h [rb] k' ∧ RAt d k' rb bl bs r4 ∧ Cn bs (.ok at_) (D.must (zD 8) (labE ls)) r4 (n : Int)) ?_ ?_
  ·obtain ⟨p, e, pl, kb, hs⟩ := a3.blk
   refine zad (ld_at (sh := shInt .i64) e (kb.ldIs (off := 2) (n := 1) rfl) (letW ?_))
   refine zch2 (us h5 m3) hl fun x hx => letW ?_
   cases r3 with
   | error y =>
    have hne := hs.2.1
    rw [← hs.1] at hne
    rw [if_neg (by simp [hne])]
    refine ⟨_, m3, a3, ?_⟩
    rcases hor with ⟨-, hc4⟩ | ⟨hc4, -⟩
    ·exact hc4
    ·exact zif1 hc4 rfl
   | ok a4 =>
    obtain ⟨rfl, rfl, h4⟩ := hs
    rcases hor with ⟨⟨y, hy⟩, -⟩ | ⟨hc4, hno⟩
    ·cases hy
    by_cases hlast : ∃ z, ls.getLast? = some z ∧ (n : Int) < z
    ·obtain ⟨z, hz, hnz⟩ := hlast
     have h0 : 0 < ls.length := by
      cases ls with
      | nil => cases hz
      | cons _ _ => simp
     have hxz := hx rfl z hz
     rw [if_pos (by simp [hxz, hnz]; exact h0)]
     exact zak (zxj a3 hc4 hp (W := labE ls) (by unfold labE; rw [hz]; dsimp only; rw [if_neg (hno z hz), if_pos hnz]) (by decide) fun r5 h6 m6 a6 hc6 _ => ⟨r5, m3.trans m6, a6, hc6⟩)
    ·rw [if_neg (by
      intro hh
      simp at hh
      obtain ⟨z, hz⟩ : ∃ z, ls.getLast? = some z := by
       cases hg : ls.getLast? with
       | none =>
       have h0 : 0 < ls.length := hh.1
       rw [List.getLast?_eq_none_iff.1 hg] at h0
       cases h0
       | some z => exact ⟨z, rfl⟩
      exact hlast ⟨z, hz, by rw [← hx rfl z hz]; exact hh.2⟩)]
     refine ⟨_, m3, a3, zcq1 hc4 ?_⟩
     unfold labE
     cases hg : ls.getLast? with
     | none => rfl
     | some z =>
      dsimp only
      rw [if_neg (hno z hg), if_neg (fun e => hlast ⟨z, hg, e⟩)]
  ·rintro k' ⟨r4, m4, a4, hc4⟩
   exact hk r4 k' m4 a4 hc4
end
end Lf

namespace Lf
open Go Go.Proofs
section
variable {d h : Hp} {rb : Nat} {bl : Sl} {bs : List UInt8} {r : RS}
theorem zmb {B1 B2 : List Nat} {P : Nat → Prop} (h1 : ∀ b ∈ B1, P b) (h2 : ∀ b ∈ B2, P b) : ∀ b ∈ B1 ++ B2, P b := fun b hb => by
 rcases List.mem_append.1 hb with hb | hb
 ·exact h1 b hb
 ·exact h2 b hb
set_option maxRecDepth 20000 in
theorem zvb1 {Q : S_api_Config → Hp → Prop} (a : RAt d h rb bl bs r)
  (hq : ∀ x c r1 B h', TB d h rb bl bs h' r1 B → CfgO x c h' B → Cn bs r zqr r1 c → Q x h') : zcf Tryz.prog (some ⟨rb, 0, none⟩) Q h := by
 unfold zcf
 refine zht (zso1 (cs := [70, 66, 67, 70, 1]) a (by decide) fun r1 h1 m1 a1 hc1 => ?_)
 refine zam (zme (k := 1) a1 (by omega) (by omega) (by decide) (by decide) (by decide) fun nl r2 h2 hnl m2 a2 hc2 => ?_)
 have hnl : nl < 256 := hnl
 have hok2 := zeh2 hc2
 rw [zqs (W' := cntE 8) zql1] at hc2
 have s2 : TB d h rb bl bs h2 r2 [] := TB.step a.known (m1.trans m2) a2
 refine readT (N := nl) (bl := bl) (rb := rb) (bs := bs) (d := d) (g := fun acc => D.must (zD 8) (labE acc)) rfl (by omega)
  (fun (x : S_api_Config) ls r' k => ∃ B, TB d h rb bl bs k r' B ∧ UsO x.Labels ls k B ∧ (x.Table = ⟨none, 0, 0⟩ ∧ x.Procs = ⟨none, 0, 0⟩) ∧ ((∃ a, r' = .ok a) → ∃ a, r2 = .ok a))
  (fun x ls r' k hI => hI.choose_spec.1.rd) ⟨[], s2, RowsO.nil, ⟨rfl, rfl⟩, fun h => h⟩ ?_ ?_
 ·rintro i x ls at_ k hil hi ⟨B, s, o, hx, hok⟩ K hK
  have hkn := okUs.known o
  obtain ⟨p, e, pl, kb, hs⟩ := s.rd.blk
  obtain ⟨rfl, rfl, hn⟩ := hs
  refine zad (ld_at (sh := shInt .i64) (at_ : Int) (kb.ldIs (off := 1) (n := 1) rfl) ?_)
  refine zab (zkc (k := 8) s.rd (by omega) (by omega) fun n r3 k3 hn3 m3 a3 hc3 _ => ?_)
  obtain ⟨s3, hs3⟩ := s.next hkn m3 a3
  have o3 := okUs.same o hs3
  subst hil
  refine zyp1 (ls := ls) (n := n) rfl (by omega) a3 (fun h' m' => (okUs.same o3 (zpj m' (okUs.known o3) fun b hb e => s3.nr (List.mem_singleton.1 e ▸ hb))).rd) (hc3.map : Cn bs (.ok at_) (zD 8) r3 (n : Int)) fun r4 k4 m4 a4 hc4 => ?_
  obtain ⟨s4, hs4⟩ := s3.next (okUs.known o3) m4 a4
  have o4 := okUs.same o3 hs4
  refine newF (xs := [(n : Int)]) (enc := fun x => zae ((shInt .u64).enc x)) (sz := 1) rfl (fun _ => rfl) fun b5 k5 _ hle5 _ o5 => ?_
  have s5 := s4.grow hle5
  have oo := okUs.same o4 (zcb hle5 (okUs.known o4))
  refine tmid (P := []) (S := []) (B' := []) (PureO.ok _) a.le (by simpa using s5) oo (v := (n : Int)) (p := (n : Int)) ⟨rfl, rfl⟩ (by simp) (o5.rw fun _ => rfl) (fun _ => rfl) (fun _ => rfl) rfl (by omega) fun l' k6 B6 s6 o6 _ => ?_
  exact hK _ (n : Int) r4 k6 ⟨B6, by simpa using s6, o6, hx, fun _ => hok ⟨_, rfl⟩⟩ hc4
 rintro i x1 ls r3 k3 ⟨B1, s3, o1, ⟨hx1, hx2⟩, hok3⟩ hll hc3
 refine zam (zme (k := 1) s3.rd (by omega) (by omega) (by decide) (by decide) (by decide) fun nt r4 k4 hnt m4 a4 hc4 => ?_)
 have hnt : nt < 256 := hnt
 rw [zqs (W' := cntE 64) zql1] at hc4
 obtain ⟨s4, hs4⟩ := s3.next (okUs.known o1) m4 a4
 have o4 := okUs.same o1 hs4
 have hnl1 : (∃ a, r4 = .ok a) → 1 ≤ nl := fun ho => by
  have := hok2 (hok3 (zmc1 hc4 ho))
  unfold betwE at this
  by_cases h1 : (nl : Int) < 1
  ·rw [if_pos h1] at this; cases this
  ·omega
 refine readT (N := nt) (bl := bl) (rb := rb) (bs := bs) (d := d) (g := fun _ => D.must (zD 1) (rngE 0 ((nl : Int) - 1))) rfl (by omega)
  (fun (x : S_api_Config) ts r' k => ∃ B2, TB d h rb bl bs k r' (B1 ++ B2) ∧ UsO x.Labels ls k B1 ∧ IsO x.Table ts k B2 ∧ x.Procs = ⟨none, 0, 0⟩ ∧ ((∃ a, r' = .ok a) → 1 ≤ nl))
  (fun x ls r' k hI => hI.choose_spec.1.rd) ⟨[], by simpa using s4, o4, by rw [hx1]; exact RowsO.nil, hx2, hnl1⟩ ?_ ?_
 ·rintro i x ts at_ k hil hi ⟨B2, s, o1, o2, hx, hok⟩ K hK
  have h1nl := hok ⟨_, rfl⟩
  have hkn := zmb (okUs.known o1) (okIs.known o2)
  rw [zao (n := (nl : Int) - 1) (by omega) (by omega)]
  refine zam (zme (k := 1) (least := 0) (most := (nl : Int) - 1) s.rd (by omega) (by omega) (by decide) (by decide) (by omega) fun v r5 k5 hv m5 a5 hc5 => ⟨⟨trivial, trivial⟩, ?_⟩)
  rw [zqs (W' := rngE 0 ((nl : Int) - 1)) zdj1] at hc5
  obtain ⟨s5, hs5⟩ := s.next hkn m5 a5
  have p1 := okUs.same o1 fun b hb => hs5 b (mem_a hb)
  have p2 := okIs.same o2 fun b hb => hs5 b (mem_b hb)
  refine newF (xs := [(v : Int)]) (enc := fun x => zae ((shInt .i64).enc x)) (sz := 1) rfl (fun _ => rfl) fun b6 k6 _ hle6 _ o6 => ⟨⟨trivial, trivial⟩, ?_⟩
  have s6 := s5.grow hle6
  have q1 := okUs.same p1 (zcb hle6 (okUs.known p1))
  have q2 := okIs.same p2 (zcb hle6 (okIs.known p2))
  refine tmid (P := B1) (S := []) (B' := []) (PureO.ok _) a.le (by simpa using s6) q2 (v := (v : Int)) (p := (v : Int)) ⟨rfl, rfl⟩ (by simpa using okUs.known q1) (o6.rw fun _ => rfl) (fun _ => rfl) (fun _ => rfl) rfl (by omega) fun l' k7 B7 s7 o7 hk7 => ?_
  exact hK _ (v : Int) r5 k7 ⟨B7, by simpa using s7, okUs.same q1 fun b hb => hk7 b (by simpa using hb), o7, hx, fun _ => h1nl⟩ hc5
 rintro i x2 ts r5 k5 ⟨B2, s5, o1, o2, hx2, hok5⟩ htl hc5
 refine zam (zme (k := 2) s5.rd (by omega) (by omega) (by decide) (by decide) (by decide) fun fuel r6 k6 hfuel m6 a6 hc6 => ?_)
 refine zam (zme (k := 1) a6 (by omega) (by omega) (by decide) (by decide) (by decide) fun lane r7 k7 hlane m7 a7 hc7 => ?_)
 refine zam (zme (k := 1) a7 (by omega) (by omega) (by decide) (by decide) (by decide) fun locks r8 k8 hlocks m8 a8 hc8 => ?_)
 refine zam (zme (k := 2) a8 (by omega) (by omega) (by decide) (by decide) (by decide) fun log r9 k9 hlog m9 a9 hc9 => ?_)
 refine zam (zme (k := 1) a9 (by omega) (by omega) (by decide) (by decide) (by decide) fun np r10 k10 hnp m10 a10 hc10 => ?_)
 have hnp : np < 256 := hnp
 rw [zqs (W' := rngE 1 256) zdj1] at hc6
 rw [zqs (W' := rngE 1 64) zdj1] at hc7
 rw [zqs (W' := rngE 0 8) zdj1] at hc8
 rw [zqs (W' := rngE 0 4096) zdj1] at hc9
 rw [zqs (W' := cntE 32) zql1] at hc10
 obtain ⟨s10, hs10⟩ := s5.next (zmb (okUs.known o1) (okIs.known o2)) (m6.trans (m7.trans (m8.trans (m9.trans m10)))) a10
 have p1 := okUs.same o1 fun b hb => hs10 b (mem_a hb)
 have p2 := okIs.same o2 fun b hb => hs10 b (mem_b hb)
 have hok10 : (∃ a, r10 = .ok a) → 1 ≤ nl := fun ho => hok5 (zmc1 hc6 (zmc1 hc7 (zmc1 hc8 (zmc1 hc9 (zmc1 hc10 ho)))))
 refine readT (N := np) (bl := bl) (rb := rb) (bs := bs) (d := d) (g := fun _ => procD (nl : Int) (locks : Int)) rfl (by omega)
  (fun (x : S_api_Config) ps r' k => ∃ B3, TB d h rb bl bs k r' ((B1 ++ B2) ++ B3) ∧ UsO x.Labels ls k B1 ∧ IsO x.Table ts k B2 ∧ zww1 x.Procs ps k B3 ∧ (x.Fuel = (fuel : Int) ∧ x.Lane = (lane : Int) ∧ x.Locks = (locks : Int) ∧ x.Log = (log : Int)) ∧ ((∃ a, r' = .ok a) → 1 ≤ nl))
  (fun x ls r' k hI => hI.choose_spec.1.rd) ⟨[], by simpa using s10, p1, p2, by show zww1 x2.Procs [] _ []; rw [hx2]; exact RowsO.nil, ⟨rfl, rfl, rfl, rfl⟩, hok10⟩ ?_ ?_
 ·rintro i x ps at_ k hil hi ⟨B3, s, o1, o2, o3, hf, hok⟩ K hK
  have h1nl := hok ⟨_, rfl⟩
  have hkn := zmb (zmb (okUs.known o1) (okIs.known o2)) (okProcs.known o3)
  rw [zao (n := (nl : Int) - 1) (by omega) (by omega)]
  refine zam (zme (k := 1) (least := 0) (most := (nl : Int) - 1) s.rd (by omega) (by omega) (by decide) (by decide) (by omega) fun part r11 k11 hpart m11 a11 hc11 => ?_)
  refine zam (zme (k := 2) a11 (by omega) (by omega) (by decide) (by decide) (by decide) fun n r12 k12 hn m12 a12 hc12 => ?_)
  have hn : n < 65536 := hn
  rw [zqs (W' := rngE 0 ((nl : Int) - 1)) zdj1] at hc11
  rw [zqs (W' := fun n => if 256 < n then 3 else 0) zmb1] at hc12
  obtain ⟨s12, hs12⟩ := s.next hkn (m11.trans m12) a12
  have kn12 : ∀ b ∈ (B1 ++ B2) ++ B3, k12 b ≠ none := fun b hb => by rw [hs12 b hb]; exact hkn b hb
  refine zpi (zcg2 (N := n) a12 rfl (by omega) fun l code r13 B4 k13 t13 o4 hc13 => ⟨⟨trivial, trivial⟩, ?_⟩)
  have s13 := s12.andThen kn12 t13
  have hs13 := s12.kept kn12 t13
  have hs : ∀ b ∈ (B1 ++ B2) ++ B3, k13 b = k b := fun b hb => by rw [hs13 b hb]; exact hs12 b hb
  refine newF (xs := [(⟨(part : Int), l⟩ : S_api_Proc)]) (enc := fun x => zae (sh_api_Proc.enc x)) (sz := 2) rfl (fun _ => rfl) fun b14 k14 _ hle14 _ o14 => ⟨⟨trivial, trivial⟩, ?_⟩
  have s14 := s13.grow hle14
  have hs14 : ∀ b ∈ (B1 ++ B2) ++ B3, k14 b = k b := fun b hb => by
   rw [zcb hle14 (fun b hb => by rw [hs b hb]; exact hkn b hb) b hb]
   exact hs b hb
  have q1 := okUs.same o1 fun b hb => hs14 b (mem_a (mem_a hb))
  have q2 := okIs.same o2 fun b hb => hs14 b (mem_a (mem_b hb))
  have q3 := okProcs.same o3 fun b hb => hs14 b (mem_b hb)
  have q4 := okIns.same o4 (zcb hle14 (okIns.known o4))
  refine tmid (P := B1 ++ B2) (S := []) (B' := B4) zbo2 a.le (by simpa using s14) q3 (v := ⟨(part : Int), l⟩) (p := ⟨(part : Int), code⟩) ⟨rfl, q4⟩ (by simpa using zmb (okUs.known q1) (okIs.known q2)) (o14.rw fun _ => rfl) (fun _ => rfl) (fun _ => rfl) rfl (by omega) fun l' k15 B15 s15 o15 hk15 => ?_
  rw [hf.2.2.1] at hc13
  refine hK _ ⟨(part : Int), code⟩ r13 k15 ⟨B15, by simpa using s15, okUs.same q1 fun b hb => hk15 b (mem_a (mem_a hb)), okIs.same q2 fun b hb => hk15 b (mem_a (mem_b hb)), o15, hf, fun _ => h1nl⟩ ?_
  unfold procD
  exact Cn.seq hc11 (Cn.seq hc12 (Cn.seq hc13 Cn.ret))
 rintro i x3 ps r11 k11 ⟨B3, s11, o1, o2, o3, ⟨f1, f2, f3, f4⟩, _⟩ hpl hc11
 refine hq x3 ⟨ls, ts, (fuel : Int), (lane : Int), (locks : Int), (log : Int), ps⟩ r11 (B1 ++ (B2 ++ B3)) k11 (by simpa using s11) ⟨B1, B2, B3, rfl, o1, o2, o3, f1, f2, f3, f4⟩ ?_
 unfold zqr
 exact Cn.seq hc1 (Cn.seq hc2 (Cn.seq hc3 (Cn.seq hc4 (Cn.seq hc5 (Cn.seq hc6 (Cn.seq hc7 (Cn.seq hc8 (Cn.seq hc9 (Cn.seq hc10 (Cn.seq hc11 Cn.ret))))))))))
end
end Lf

namespace Lf
open Go Go.Proofs
set_option maxRecDepth 20000 in
theorem zvc1 {h : Hp} {b : Sl} {bs : List UInt8} {Q : S_api_Config → Int → Int → Hp → Prop} (hB : Bs h b bs) (hcap : b.len ≤ b.cap)
  (he : ∀ e p h', h ≤ h' → zed bs = .error (e, p) → e ≠ 0 → Q cfg0 e (p : Int) h') (hok : ∀ x c B h', h ≤ h' → zed bs = .ok c → CfgO x c h' B → B.Nodup → (∀ b ∈ B, h b = none) → Q x 0 0 h') :
  zet Tryz.prog b Q h := by
 unfold zet
 have hlen : b.len = bs.length := hB.1
 by_cases hbig : 1048576 < bs.length
 ·have hbig' : ((b.len : Nat) : Int) > 1048576 := by omega
  rw [if_pos (decide_eq_true hbig')]
  refine he 22 1048576 h (Hp.le_refl h) ?_ (by decide)
  unfold zed zfi
  rw [if_pos hbig]
 have hsm : bs.length ≤ 1048576 := by omega
 have hbig' : ¬ ((b.len : Nat) : Int) > 1048576 := by omega
 rw [if_neg (fun e => hbig' (of_decide_eq_true e))]
 refine newB2 fun rb h1 hn1 hle1 hR1 => ?_
 have a1 : RAt h h1 rb b bs (.ok 0) := ⟨hle1, hn1, hB, hcap, by omega, 0, 0, 0, hR1, rfl, rfl, by omega⟩
 refine znt (zvb1 a1 fun x c r2 B k s o hc => ?_)
 have hdone := hc.done
 have hkn := okCfg.known o
 refine JoinW0.intro (fun k' => ∃ r3, Mv [rb] k [rb] k' ∧ RAt h k' rb b bs r3 ∧ match r3 with
  | .error e => zed bs = .error e
  | .ok _ => zed bs = .ok c) ?_ ?_
 ·obtain ⟨p, e, pl, kb, hs⟩ := s.rd.blk
  refine zad (ld_at (sh := shInt .i64) e (kb.ldIs (off := 2) (n := 1) rfl) (zad (ldC (sh := shInt .i64) p (kb.ldIs (off := 1) (n := 1) rfl) (letW ?_))))
  cases r2 with
  | error y =>
   have hne := hs.2.1
   rw [← hs.1] at hne
   rw [if_neg (by simp [hne])]
   exact ⟨_, Mv.refl _ _, s.rd, zmt hsm hdone⟩
  | ok at_ =>
   obtain ⟨rfl, rfl, hat⟩ := hs
   have hcfg := zlx1 hsm hdone
   by_cases hlt : at_ < bs.length
   ·rw [if_pos hlt] at hcfg
    rw [if_pos (by simp; omega)]
    refine zad (ld_at (sh := shInt .i64) (at_ : Int) (kb.ldIs (off := 1) (n := 1) rfl) ?_)
    refine zak (zvl kb fun k2 m2 kb2 => ?_)
    rw [if_pos rfl, if_pos rfl] at kb2
    exact ⟨.error (6, at_), m2, s.rd.of m2 kb2 ⟨rfl, by decide, rfl⟩, hcfg⟩
   ·rw [if_neg hlt] at hcfg
    rw [if_neg (by simp; omega)]
    exact ⟨_, Mv.refl _ _, s.rd, hcfg⟩
 ·rintro k' ⟨r3, m3, a3, hcfg⟩
  obtain ⟨s3, hs3⟩ := s.next hkn m3 a3
  obtain ⟨p, e, pl, kb, hs⟩ := a3.blk
  refine zad (ld_at (sh := shInt .i64) e (kb.ldIs (off := 2) (n := 1) rfl) ?_)
  cases r3 with
  | error y =>
   obtain ⟨er, q⟩ := y
   obtain ⟨rfl, hne, rfl⟩ := hs
   rw [if_pos (by simpa using hne)]
   refine zad (ld_at (sh := shInt .i64) e (kb.ldIs (off := 2) (n := 1) rfl) (zad (ld_at (sh := shInt .i64) (q : Int) (kb.ldIs (off := 3) (n := 1) rfl) ?_)))
   exact ⟨⟨kb.ldIs (off := 2) (n := 1) rfl, kb.ldIs (off := 3) (n := 1) rfl, trivial⟩, he e q k' a3.le hcfg hne⟩
  | ok at_ =>
   obtain ⟨rfl, rfl, _⟩ := hs
   rw [if_neg (by simp)]
   exact hok x c B k' a3.le hcfg (okCfg.same o hs3) s3.nd fun b' hb' => zbk hle1 (s3.fresh b' hb')
theorem zgn2 {c : PCfg} (h : CfgV c) : 0 ≤ c.lane ∧ 0 ≤ c.log := by
 obtain ⟨_, h2⟩ := (zhu1 (zvk c)).2 h
 obtain ⟨_, _, _, _, _, e6, _, e8, _⟩ := cfgP_zero.1 h2
 exact ⟨by omega, e8.1⟩
section
variable {d h : Hp} {rb : Nat} {bl : Sl} {bs : List UInt8} {r : RS}
set_option maxRecDepth 20000 in
theorem zei2 {Q : S_api_Config → Hp → Prop} (a : RAt d h rb bl bs r)
  (hq : ∀ r1 x c B h', TB d h rb bl bs h' r1 B → CfgO x c h' B → Few c → (0 ≤ c.lane ∧ 0 ≤ c.log) → ((∃ n, r1 = .ok n) → CfgV c) → Cn bs r zcl r1 c → Q x h') : zes Tryz.prog (some ⟨rb, 0, none⟩) Q h := by
 unfold zes
 have few0 : Few zkb := ⟨by simp [zkb], by simp [zkb], by simp [zkb], by simp [zkb], by simp [zkb]⟩
 have hlen : bl.len = bs.length := a.src.1
 have hsm := a.small
 refine zab (zkc (k := 4) a (by omega) (by omega) fun n r1 h1 hn m1 a1 hc1 _ => ?_)
 have hn : n < 4294967296 := hn
 have s1 : TB d h rb bl bs h1 r1 [] := TB.step a.known m1 a1
 obtain ⟨p, e, pl, kb, hs⟩ := a1.blk
 refine zad (ld_at (sh := shInt .i64) e (kb.ldIs (off := 2) (n := 1) rfl) ?_)
 -- an error stays
 have herr : ∀ e, r1 = .error e → Cn bs r zcl r1 zkb := fun e he => by
  subst he
  have hdone := hc1.done
  cases r with
  | error y =>
   have hdone : (Except.error y : Except (Int × Nat) (Nat × Nat)) = .error e := hdone
   cases hdone
   exact Cn.stay
  | ok at_ =>
   have hdone : D.num 4 bs at_ = .error e := hdone
   refine Cn.err ?_
   unfold zcl
   rw [hdone]
 cases r1 with
 | error y =>
  obtain ⟨er, q⟩ := y
  rw [if_pos (by rw [bne_iff_ne, hs.1]; exact hs.2.1)]
  exact hq _ cfg0 zkb [] h1 s1 cfg0_own few0 ⟨Int.le_refl 0, Int.le_refl 0⟩ (by rintro ⟨n, hn⟩; cases hn) (herr _ rfl)
 | ok at2 =>
  obtain ⟨rfl, rfl, hat⟩ := hs
  have hat : at2 ≤ bs.length := by omega
  rw [if_neg (by simp)]
  obtain ⟨at_, rfl⟩ : ∃ at_, r = .ok at_ := zmc1 hc1 ⟨_, rfl⟩
  have hnum : D.num 4 bs at_ = .ok (n, at2) := hc1.done
  refine zad (ld_at (sh := shSl) bl (kb.ldIs (off := 0) (n := 1) rfl) (zad (ld_at (sh := shInt .i64) (at2 : Int) (kb.ldIs (off := 1) (n := 1) rfl) ?_)))
  rw [zao (n := ((bl.len : Nat) : Int) - (at2 : Int)) (by omega) (by omega), wrapU (x := ((bl.len : Nat) : Int) - (at2 : Int)) ⟨by omega, by omega⟩]
  by_cases hsh : bs.length < at2 + n
  ·have hlt : (n : Int) > ((bl.len : Nat) : Int) - (at2 : Int) := by omega
   rw [if_pos (decide_eq_true hlt)]
   refine zad (ld_at (sh := shSl) bl (kb.ldIs (off := 0) (n := 1) rfl) (zak (zvl kb fun h2 m2 k2 => ?_)))
   rw [if_pos rfl, if_pos rfl] at k2
   have a2 := a1.of m2 k2 (r1 := .error (5, bs.length)) ⟨rfl, by decide, by rw [hlen]⟩
   refine hq _ cfg0 zkb [] h2 (TB.step a.known (m1.trans m2) a2) cfg0_own few0 ⟨Int.le_refl 0, Int.le_refl 0⟩ (by rintro ⟨n, hn⟩; cases hn) (Cn.err ?_)
   unfold zcl
   rw [hnum]
   dsimp only
   rw [if_pos hsh]
  ·have hlt : ¬ (n : Int) > ((bl.len : Nat) : Int) - (at2 : Int) := by omega
   rw [if_neg (fun e => hlt (of_decide_eq_true e))]
   refine zad (ld_at (sh := shSl) bl (kb.ldIs (off := 0) (n := 1) rfl) (zad (ld_at (sh := shInt .i64) (at2 : Int) (kb.ldIs (off := 1) (n := 1) rfl) (zad (ld_at (sh := shInt .i64) (at2 : Int) (kb.ldIs (off := 1) (n := 1) rfl) ?_)))))
   have hcap := a.cap
   rw [zao (n := (n : Int)) (by omega) (by omega), zao (n := (at2 : Int) + (n : Int)) (by omega) (by omega)]
   have hnk : (at2 : Int) ≤ (at2 : Int) + (n : Int) := by omega
   refine ⟨⟨by omega, hnk, by omega⟩, letW ?_⟩
   have e1 : ((at2 : Int) + (n : Int)).toNat = at2 + n := by omega
   have e2 : ((at2 : Int)).toNat = at2 := rfl
   rw [e1, e2]
   have hcut := (Rw.mono a1.le a.src).cut (a := at2) (b := at2 + n) (c := bl.cap) (n := at2 + n - at2) (m := bl.cap - at2) zly (by omega) (by omega) (by omega) rfl
   have e3 : at2 + n - at2 = n := by omega
   rw [e3] at hcut ⊢
   refine zub (zvc1 hcut (by show n ≤ bl.cap - at2; omega) (fun e p h2 hle2 hcfg hne => ?_) fun y c B h2 hle2 hcfg own nd fresh => ?_)
   ·have kb2 := kb.le hle2
    refine JoinW0.intro (fun k' => ∃ at3 e3 pl3 : Int, Mv [rb] h1 [rb] k' ∧ Blk k' rb (zbz bl at3 e3 pl3) ∧ (at3 = (at2 : Int) ∧ e3 = e ∧ pl3 = ((at2 + p : Nat) : Int))) ?_ ?_
    ·rw [if_pos (by simpa using hne)]
     refine zad (ld_at (sh := shInt .i64) (at2 : Int) (kb2.ldIs (off := 1) (n := 1) rfl) ?_)
     refine zak (zvl kb2 fun h3 m3 k3 => ?_)
     rw [if_pos rfl, if_pos rfl] at k3
     have hp := zwi hcfg
     rw [List.length_take, List.length_drop] at hp
     rw [zao (by omega) (by omega)] at k3
     exact ⟨_, _, _, (Mv.of_le [rb] hle2).trans m3, k3, rfl, rfl, by push_cast; rfl⟩
    ·rintro h3 ⟨at3, e3, pl3, m3, k3, rfl, rfl, rfl⟩
     refine zad (ld_at (sh := shInt .i64) (at2 : Int) (k3.ldIs (off := 1) (n := 1) rfl) (zad (zfc (b := rb) (off := 1) k3 (by simp [zbz]) fun h4 m4 k4 => ?_)))
     have k4 : Blk h4 rb (zbz bl (IntKind.wrap .i64 ((at2 : Int) + (n : Int))) e3 ((at2 + p : Nat) : Int)) := by simpa [zbz] using k4
     have m := m3.trans m4
     have a4 := a1.of m k4 (r1 := .error (e3, at2 + p)) ⟨rfl, hne, rfl⟩
     refine hq _ cfg0 zkb [] h4 (TB.step a.known (m1.trans m) a4) cfg0_own few0 ⟨Int.le_refl 0, Int.le_refl 0⟩ (by rintro ⟨n, hn⟩; cases hn) (Cn.err ?_)
     unfold zcl
     rw [hnum]
     dsimp only
     rw [if_neg hsh, hcfg]
   ·have kb2 := kb.le hle2
    refine JoinW0.intro (fun k' => k' = h2) ?_ ?_
    ·rw [if_neg (by simp)]
    ·rintro h3 rfl
     refine zad (ld_at (sh := shInt .i64) (at2 : Int) (kb2.ldIs (off := 1) (n := 1) rfl) (zad (zfc (b := rb) (off := 1) kb2 (by simp [zbz]) fun h4 m4 k4 => ?_)))
     rw [zao (n := (at2 : Int) + (n : Int)) (by omega) (by omega)] at k4
     have k4 : Blk h4 rb (zbz bl ((at2 : Int) + (n : Int)) 0 pl) := by simpa [zbz] using k4
     have m := (m1.trans (Mv.of_le [rb] hle2)).trans m4
     have a4 := a1.of ((Mv.of_le [rb] hle2).trans m4) k4 (r1 := .ok (at2 + n)) ⟨by push_cast; rfl, rfl, by push_cast; omega⟩
     have hrB : rb ∉ B := fun hb => kb.known (fresh rb hb)
     have hv := (zpl zdd1 hcfg).1
     refine hq _ y c B h4 ⟨a.known, fun b o e1 h1 => m.keep b o e1 fun hb => h1 (List.mem_singleton.1 hb), a4, nd, fun b hb => s1.new_ (fresh b hb)⟩
      (okCfg.same own (zpj m4 (okCfg.known own) fun b hb e => hrB (by have e : b = rb := List.mem_singleton.1 e; exact e ▸ hb))) (zxa1 _ (zvk c) hv) (zgn2 hv) (fun _ => hv) (Cn.ok ?_)
     unfold zcl
     rw [hnum]
     dsimp only
     rw [if_neg hsh, hcfg]
end
end Lf

namespace Lf
open Go Go.Proofs
abbrev WsO (l : Sl) (ws : List zpk) (h : Hp) (B : List Nat) : Prop := RowsO sh_api_Waiter 2 (PureO fun x p => zee x = p) l ws h B
theorem okWs : AsOk WsO := RowsO.ok (PureO.ok _)
section
variable {d h h0 k : Hp} {rb : Nat} {bl : Sl} {bs : List UInt8} {r : RS} {B : List Nat}
theorem TB.add (s : TB d h0 rb bl bs k r B) (hkn : ∀ b ∈ B, k b ≠ none) {k' : Hp} {b : Nat} (hn : k b = none) (hle : k ≤ k') : TB d h0 rb bl bs k' r (B ++ [b]) where
 kr := s.kr
 keep := fun c o e h1 => hle c o (s.keep c o e h1)
 rd := s.rd.grow hle
 nd := by
  rw [List.nodup_append]
  refine ⟨s.nd, by simp, fun a ha c hc e => ?_⟩
  rw [List.mem_singleton.1 hc] at e
  exact hkn a ha (by rw [e]; exact hn)
 fresh := fun c hc => by
  rcases List.mem_append.1 hc with hc | hc
  ·exact s.fresh c hc
  ·rw [List.mem_singleton.1 hc]
   exact s.new_ hn
theorem zdk1 {k : Nat} {most : Int} {Q : Int → Hp → Prop} (a : RAt d h rb bl bs r) (hk1 : 1 ≤ k) (hk4 : k ≤ 4) (hm : 0 ≤ most)
  (hq : ∀ (n : Nat) r1 h', n < 256 ^ k → Mv [rb] h [rb] h' → RAt d h' rb bl bs r1 → Cn bs r (D.must (zD k) (mostE most)) r1 (n : Int) → Q (n : Int) h') : zfr Tryz.prog (some ⟨rb, 0, none⟩) (k : Int) most Q h := by
 unfold zfr
 refine zam (zme (k := k) a hk1 hk4 (by decide) (by decide) hm fun n r1 h1 hn m1 a1 hc1 => ?_)
 rw [zqs (W' := mostE most) zmb1] at hc1
 exact hq n r1 h1 hn m1 a1 hc1
set_option maxRecDepth 20000 in
theorem zci2 {c : S_api_Config} {Q : S_api_Lane → Hp → Prop} (a : RAt d h rb bl bs r) (hl : 0 ≤ c.Lane)
  (hq : ∀ v p r1 B h', TB d h rb bl bs h' r1 B → LaneO v p h' B → Cn bs r (laneD c.Lane (c.Procs.len : Int)) r1 p → Q v h') : zdm Tryz.prog (some ⟨rb, 0, none⟩) c Q h := by
 unfold zdm
 refine zdq (zdk1 (k := 1) a (by omega) (by omega) hl fun n r1 h1 hn m1 a1 hc1 => ?_)
 have hn : n < 256 := hn
 have s1 : TB d h rb bl bs h1 r1 [] := TB.step a.known m1 a1
 refine readT (N := n) (bl := bl) (rb := rb) (bs := bs) (d := d) (g := fun _ => iD) rfl (by omega) (fun (y : S_api_Lane) vs r' k => ∃ B, TB d h rb bl bs k r' B ∧ IsO y.Values vs k B ∧ y.Waiters = ⟨none, 0, 0⟩) (fun x ls r' k hI => hI.choose_spec.1.rd) ⟨[], s1, RowsO.nil, rfl⟩ ?_ ?_
 ·rintro i y vs at_ k hil hi ⟨B, s, o, hy⟩ K hK
  refine zab (zkc (k := 8) s.rd (by omega) (by omega) fun w r2 k2 hw m2 a2 hc2 _ => ⟨⟨trivial, trivial⟩, ?_⟩)
  have hw : w < 18446744073709551616 := hw
  rw [zob hw]
  obtain ⟨s2, hs2⟩ := s.next (okIs.known o) m2 a2
  have o2 := okIs.same o hs2
  refine newF (xs := [i64 w]) (enc := fun x => zae ((shInt .i64).enc x)) (sz := 1) rfl (fun _ => rfl) fun b3 k3 _ hle3 _ o3 => ⟨⟨trivial, trivial⟩, ?_⟩
  have s3 := s2.grow hle3
  have oo := okIs.same o2 (zcb hle3 (okIs.known o2))
  refine tmid (P := []) (S := []) (B' := []) (PureO.ok _) a.le (by simpa using s3) oo (v := i64 w) (p := i64 w) ⟨rfl, rfl⟩ (by simp) (o3.rw fun _ => rfl) (fun _ => rfl) (fun _ => rfl) rfl (by omega) fun l' k4 B4 s4 o4 _ => ?_
  exact hK _ (i64 w) r2 k4 ⟨B4, by simpa using s4, o4, hy⟩ hc2.map
 rintro _ y vs r2 k2 ⟨B1, s2, o1, hy⟩ hvl hc2
 refine zdq (zdk1 (k := 1) s2.rd (by omega) (by omega) (by omega) fun m r3 k3 hm m3 a3 hc3 => ?_)
 have hm : m < 256 := hm
 obtain ⟨s3, hs3⟩ := s2.next (okIs.known o1) m3 a3
 have o3 := okIs.same o1 hs3
 refine readT (N := m) (bl := bl) (rb := rb) (bs := bs) (d := d) (g := fun _ => zzs) rfl (by omega) (fun (z : S_api_Lane) ws r' k => ∃ B2, TB d h rb bl bs k r' (B1 ++ B2) ∧ IsO z.Values vs k B1 ∧ WsO z.Waiters ws k B2) (fun x ls r' k hI => hI.choose_spec.1.rd) ⟨[], by simpa using s3, o3, by rw [hy]; exact RowsO.nil⟩ ?_ ?_
 ·rintro i z ws at_ k hil hi ⟨B2, s, o1, o2⟩ K hK
  have hkn := zmb (okIs.known o1) (okWs.known o2)
  refine zab (zkc (k := 1) s.rd (by omega) (by omega) fun u r4 k4 hu m4 a4 hc4 _ => ?_)
  refine zab (zkc (k := 8) a4 (by omega) (by omega) fun w r5 k5 hw m5 a5 hc5 _ => ?_)
  have hu : u < 256 := hu
  have hw : w < 18446744073709551616 := hw
  rw [zob hw, zao (n := (u : Int)) (by omega) (by omega)]
  obtain ⟨s5, hs5⟩ := s.next hkn (m4.trans m5) a5
  refine newF (xs := [(⟨(u : Int), i64 w⟩ : S_api_Waiter)]) (enc := fun x => zae (sh_api_Waiter.enc x)) (sz := 2) rfl (fun _ => rfl) fun b6 k6 _ hle6 _ o6 => ?_
  have s6 := s5.grow hle6
  have hs6 : ∀ b ∈ B1 ++ B2, k6 b = k b := fun b hb => by
   rw [← hs5 b hb]
   exact zcb hle6 (fun b hb => by rw [hs5 b hb]; exact hkn b hb) b hb
  have q1 := okIs.same o1 fun b hb => hs6 b (mem_a hb)
  have q2 := okWs.same o2 fun b hb => hs6 b (mem_b hb)
  refine tmid (P := B1) (S := []) (B' := []) (PureO.ok _) a.le (by simpa using s6) q2 (v := ⟨(u : Int), i64 w⟩) (p := ⟨(u : Int), i64 w⟩) ⟨rfl, rfl⟩ (by simpa using okIs.known q1) (o6.rw fun _ => rfl) (fun _ => rfl) (fun _ => rfl) rfl (by omega) fun l' k7 B7 s7 o7 hs7 => ?_
  exact hK _ ⟨(u : Int), i64 w⟩ r5 k7 ⟨B7, by simpa using s7, okIs.same q1 fun b hb => hs7 b (mem_a hb), o7⟩ (Cn.seq hc4.map (Cn.seq hc5.map Cn.ret))
 rintro _ z ws r4 k4 ⟨B2, s4, o1, o2⟩ hwl hc4
 have hkn := zmb (okIs.known o1) (okWs.known o2)
 refine zab (zkc (k := 2) s4.rd (by omega) (by omega) fun u r5 k5 hu m5 a5 hc5 _ => ?_)
 refine zab (zkc (k := 2) a5 (by omega) (by omega) fun w r6 k6 hw m6 a6 hc6 _ => ?_)
 have hu : u < 65536 := hu
 have hw : w < 65536 := hw
 rw [zao (n := (w : Int)) (by omega) (by omega), zao (n := (u : Int)) (by omega) (by omega)]
 obtain ⟨s6, hs6⟩ := s4.next hkn (m5.trans m6) a6
 refine hq _ ⟨vs, ws, (u : Int), (w : Int)⟩ r6 (B1 ++ B2) k6 s6 ⟨B1, B2, rfl, okIs.same o1 fun b hb => hs6 b (mem_a hb), okWs.same o2 fun b hb => hs6 b (mem_b hb), rfl, rfl⟩ ?_
 unfold laneD
 exact Cn.seq hc1 (Cn.seq hc2 (Cn.seq hc3 (Cn.seq hc4 (Cn.seq hc5.map (Cn.seq hc6.map Cn.ret)))))
end
end Lf

namespace Lf
open Go Go.Proofs
section
variable {d h : Hp} {rb : Nat} {bl : Sl} {bs : List UInt8} {r : RS}
set_option maxRecDepth 20000 in
theorem zcj2 {c : S_api_Config} {Q : S_api_Part → Hp → Prop} (a : RAt d h rb bl bs r) (hl : 0 ≤ c.Log) (hlk : 0 ≤ c.Locks ∧ c.Locks ≤ 1000)
  (hq : ∀ v p r1 B h', TB d h rb bl bs h' r1 B → PartO v p h' B → Cn bs r (partD c.Log c.Locks (c.Procs.len : Int)) r1 p → Q v h') : zdj Tryz.prog (some ⟨rb, 0, none⟩) c Q h := by
 unfold zdj
 refine zab (zkc (k := 1) a (by omega) (by omega) fun cur r1 h1 hcur m1 a1 hc1 _ => ?_)
 have hcur : cur < 256 := hcur
 rw [zao (n := (cur : Int)) (by omega) (by omega)]
 refine zdq (zdk1 (k := 2) a1 (by omega) (by omega) hl fun n r2 h2 hn m2 a2 hc2 => ?_)
 have hn : n < 65536 := hn
 have s2 : TB d h rb bl bs h2 r2 [] := TB.step a.known (m1.trans m2) a2
 refine readT (N := n) (bl := bl) (rb := rb) (bs := bs) (d := d) (g := fun _ => zjg1) rfl (by omega) (fun (y : S_api_Part) es r' k => ∃ B, TB d h rb bl bs k r' B ∧ LogO y.Log es k B ∧ (y.Cursor = (cur : Int) ∧ y.Owners = ⟨none, 0, 0⟩ ∧ y.Queues = ⟨none, 0, 0⟩)) (fun x ls r' k hI => hI.choose_spec.1.rd)
  ⟨[], s2, RowsO.nil, ⟨rfl, rfl, rfl⟩⟩ ?_ ?_
 ·rintro i y es at_ k hil hi ⟨B, s, o, hy⟩ K hK
  have hkn := okLog.known o
  refine zab (zkc (k := 8) s.rd (by omega) (by omega) fun w1 r3 k3 hw1 m3 a3 hc3 _ => ?_)
  refine zab (zkc (k := 1) a3 (by omega) (by omega) fun w2 r4 k4 hw2 m4 a4 hc4 _ => ?_)
  refine zab (zkc (k := 8) a4 (by omega) (by omega) fun w3 r5 k5 hw3 m5 a5 hc5 _ => ?_)
  have hw1 : w1 < 18446744073709551616 := hw1
  have hw2 : w2 < 256 := hw2
  have hw3 : w3 < 18446744073709551616 := hw3
  rw [zob hw1, zob hw3, zao (n := (w2 : Int)) (by omega) (by omega)]
  obtain ⟨s5, hs5⟩ := s.next hkn (m3.trans (m4.trans m5)) a5
  have o5 := okLog.same o hs5
  refine newF (xs := [(⟨i64 w1, (w2 : Int), i64 w3⟩ : S_api_Entry)]) (enc := fun x => zae (sh_api_Entry.enc x)) (sz := 3) rfl (fun _ => rfl) fun b6 k6 _ hle6 _ o6 => ?_
  have s6 := s5.grow hle6
  have oo := okLog.same o5 (zcb hle6 (okLog.known o5))
  refine tmid (P := []) (S := []) (B' := []) (PureO.ok _) a.le (by simpa using s6) oo (v := ⟨i64 w1, (w2 : Int), i64 w3⟩) (p := ⟨i64 w1, (w2 : Int), i64 w3⟩) ⟨rfl, rfl⟩ (by simp) (o6.rw fun _ => rfl) (fun _ => rfl) (fun _ => rfl) rfl (by omega) fun l' k7 B7 s7 o7 _ => ?_
  exact hK _ ⟨i64 w1, (w2 : Int), i64 w3⟩ r5 k7 ⟨B7, by simpa using s7, o7, hy⟩ (Cn.seq hc3.map (Cn.seq hc4.map (Cn.seq hc5.map Cn.ret)))
 rintro _ y es r2' k2 ⟨B, s, o, ⟨hy1, hy2, hy3⟩⟩ hel hcE
 have hkn := okLog.known o
 refine zab (zkc (k := 2) s.rd (by omega) (by omega) fun lost r3 k3 hlost m3 a3 hc3 _ => ?_)
 refine zab (zkc (k := 2) a3 (by omega) (by omega) fun forb r4 k4 hforb m4 a4 hc4 _ => ?_)
 have hlost : lost < 65536 := hlost
 have hforb : forb < 65536 := hforb
 rw [zao (n := (lost : Int)) (by omega) (by omega), zao (n := (forb : Int)) (by omega) (by omega)]
 obtain ⟨s4, hs4⟩ := s.next hkn (m3.trans m4) a4
 have o4 := okLog.same o hs4
 obtain ⟨N, hN⟩ : ∃ N : Nat, c.Locks = (N : Int) := ⟨c.Locks.toNat, by omega⟩
 refine readT (N := N) (bl := bl) (rb := rb) (bs := bs) (d := d) (g := fun _ => lockD (c.Procs.len : Int)) hN (by omega) (fun (z : S_api_Part) zs r' k => ∃ B1 B2 B3, TB d h rb bl bs k r' (B1 ++ (B2 ++ B3)) ∧ LogO z.Log es k B1 ∧ IsO z.Owners (zs.map Prod.fst) k B2 ∧ QsO z.Queues (zs.map Prod.snd) k B3 ∧
   (z.Cursor = (cur : Int) ∧ z.Lost = (lost : Int) ∧ z.Forbidden = (forb : Int))) (fun x ls r' k hI => by obtain ⟨B1, B2, B3, s, _⟩ := hI; exact s.rd)
  ⟨B, [], [], by simpa using s4, o4, by show IsO y.Owners [] _ []; rw [hy2]; exact RowsO.nil, by show QsO y.Queues [] _ []; rw [hy3]; exact RowsO.nil, ⟨hy1, rfl, rfl⟩⟩ ?_ ?_
 ·rintro i z zs at_ k hzl hi ⟨B1, B2, B3, s, o1, o2, o3, hz⟩ K hK
  have hkn := zmb (okLog.known o1) (zmb (okIs.known o2) (okQs.known o3))
  refine zab (zkc (k := 1) s.rd (by omega) (by omega) fun u r5 k5 hu m5 a5 hc5 _ => ⟨⟨trivial, trivial⟩, ?_⟩)
  have hu : u < 256 := hu
  obtain ⟨s5, hs5⟩ := s.next hkn m5 a5
  rw [zao (n := (u : Int)) (by omega) (by omega), zao (n := (u : Int) - 1) (by omega) (by omega)]
  refine newF (xs := [(u : Int) - 1]) (enc := fun x => zae ((shInt .i64).enc x)) (sz := 1) rfl (fun _ => rfl) fun b6 k6 _ hle6 _ o6 => ⟨⟨trivial, trivial⟩, ?_⟩
  have s6 := s5.grow hle6
  have hs6 : ∀ b ∈ B1 ++ (B2 ++ B3), k6 b = k b := fun b hb => by
   rw [← hs5 b hb]
   exact zcb hle6 (fun b hb => by rw [hs5 b hb]; exact hkn b hb) b hb
  have p1 := okLog.same o1 fun b hb => hs6 b (mem_a hb)
  have p2 := okIs.same o2 fun b hb => hs6 b (mem_b (mem_a hb))
  have p3 := okQs.same o3 fun b hb => hs6 b (mem_b (mem_b hb))
  refine tmid (P := B1) (M := B2) (S := B3) (B' := []) (PureO.ok _) a.le (by simpa using s6) p2 (v := (u : Int) - 1) (p := (u : Int) - 1) ⟨rfl, rfl⟩ (zmb (okLog.known p1) (okQs.known p3)) (o6.rw fun _ => rfl) (fun _ => rfl) (fun _ => rfl) rfl (by simp; omega) fun l7 k7 M7 s7 o7 hs7 => ?_
  have q1 := okLog.same p1 fun b hb => hs7 b (mem_a hb)
  have q3 := okQs.same p3 fun b hb => hs7 b (mem_b hb)
  have kn7 := zmb (okLog.known q1) (zmb (okIs.known o7) (okQs.known q3))
  refine zdq (zdk1 (k := 1) s7.rd (by omega) (by omega) (by omega) fun nq r8 k8 hnq m8 a8 hc8 => ?_)
  have hnq : nq < 256 := hnq
  obtain ⟨s8, hs8⟩ := s7.next kn7 m8 a8
  refine newF (xs := ([] : List Int)) (enc := fun x => zae ((shInt .i64).enc x)) (sz := 1) rfl (fun _ => rfl) fun b9 k9 hn9 hle9 _ o9 => ?_
  have kn8 : ∀ b ∈ B1 ++ (M7 ++ B3), k8 b ≠ none := fun b hb => by rw [hs8 b hb]; exact kn7 b hb
  have s9 := s8.add kn8 hn9 hle9
  have hs9 : ∀ b ∈ B1 ++ (M7 ++ B3), k9 b = k7 b := fun b hb => by rw [zcb hle9 kn8 b hb]; exact hs8 b hb
  have w9 : IsO ⟨some ⟨b9, 0, none⟩, 0, 0⟩ [] k9 [b9] := ⟨[], [b9], [], rfl, o9, rfl⟩
  refine readA (N := nq) (bl := bl) (rb := rb) (bs := bs) (d := d) (g := fun _ => zD 1) rfl (by omega) (fun (q : Sl) vs r' kk => ∃ B4, TB d h rb bl bs kk r' ((B1 ++ (M7 ++ B3)) ++ B4) ∧ (∀ b ∈ B1 ++ (M7 ++ B3), kk b = k7 b) ∧ IsO q vs kk B4) (fun x ls r' k hI => hI.choose_spec.1.rd) ⟨[b9], s9, hs9, w9⟩ ?_ ?_
  ·rintro j q vs at_ kk hvl hj ⟨B4, s9, hs9, o9⟩ K9 hK9 _
   have kn9 : ∀ b ∈ (B1 ++ (M7 ++ B3)) ++ B4, kk b ≠ none := zmb (fun b hb => by rw [hs9 b hb]; exact kn7 b hb) (okIs.known o9)
   refine zab (zkc (k := 1) s9.rd (by omega) (by omega) fun w r10 k10 hw m10 a10 hc10 _ => ?_)
   have hw : w < 256 := hw
   rw [zao (n := (w : Int)) (by omega) (by omega)]
   obtain ⟨s10, hs10⟩ := s9.next kn9 m10 a10
   refine newF (xs := [(w : Int)]) (enc := fun x => zae ((shInt .i64).enc x)) (sz := 1) rfl (fun _ => rfl) fun b11 k11 _ hle11 _ o11 => ?_
   have s11 := s10.grow hle11
   have hs11 : ∀ b ∈ (B1 ++ (M7 ++ B3)) ++ B4, k11 b = kk b := fun b hb => by
    rw [← hs10 b hb]
    exact zcb hle11 (fun b hb => by rw [hs10 b hb]; exact kn9 b hb) b hb
   have o11' := okIs.same o9 fun b hb => hs11 b (mem_b hb)
   refine tmid (P := B1 ++ (M7 ++ B3)) (M := B4) (S := []) (B' := []) (PureO.ok _) a.le (by simpa using s11) o11' (v := (w : Int)) (p := (w : Int)) ⟨rfl, rfl⟩ (fun b hb => by
    rw [List.append_nil] at hb
    rw [hs11 b (mem_a hb)]
    exact kn9 b (mem_a hb)) (o11.rw fun _ => rfl) (fun _ => rfl) (fun _ => rfl) rfl (by omega) fun l12 k12 M12 s12 o12 hs12 => ?_
   refine hK9 l12 (w : Int) r10 k12 ⟨M12, by simpa using s12, fun b hb => ?_, o12⟩ hc10.map
   rw [hs12 b (by rw [List.append_nil]; exact hb), hs11 b (mem_a hb), hs9 b hb]
  ·rintro _ q vs r9 kk ⟨B4, s9, hs9, o9⟩ hvl hc9
   have kn9 : ∀ b ∈ (B1 ++ (M7 ++ B3)) ++ B4, kk b ≠ none := zmb (fun b hb => by rw [hs9 b hb]; exact kn7 b hb) (okIs.known o9)
   refine newF (xs := [q]) (enc := fun x => zae (shSl.enc x)) (sz := 1) rfl (fun _ => rfl) fun b11 k11 _ hle11 _ o11 => ?_
   have s11 := s9.grow hle11
   have hs11 : ∀ b ∈ (B1 ++ (M7 ++ B3)) ++ B4, k11 b = kk b := zcb hle11 kn9
   have f1 := okLog.same q1 fun b hb => (hs11 b (mem_a (mem_a hb))).trans (hs9 b (mem_a hb))
   have f2 := okIs.same o7 fun b hb => (hs11 b (mem_a (mem_b (mem_a hb)))).trans (hs9 b (mem_b (mem_a hb)))
   have f3 := okQs.same q3 fun b hb => (hs11 b (mem_a (mem_b (mem_b hb)))).trans (hs9 b (mem_b (mem_b hb)))
   have f4 := okIs.same o9 fun b hb => hs11 b (mem_b hb)
   refine tmid (P := B1 ++ M7) (M := B3) (S := []) (B' := B4) okIs a.le (by simpa [List.append_assoc] using s11) f3 (v := q) (p := vs) f4 (by simpa using zmb (okLog.known f1) (okIs.known f2)) (o11.rw fun _ => rfl) (fun _ => rfl) (fun _ => rfl) rfl (by simp; omega) fun l12 k12 M12 s12 o12 hs12 => ?_
   refine hK _ ((u : Int) - 1, vs) r9 k12 ⟨B1, M7, M12, by simpa [List.append_assoc] using s12, okLog.same f1 fun b hb => hs12 b (mem_a (mem_a hb)), ?_, ?_, hz⟩ ?_
   ·rw [List.map_append]
    exact okIs.same f2 fun b hb => hs12 b (mem_a (mem_b hb))
   ·rw [List.map_append]
    exact o12
   ·unfold lockD
    exact Cn.seq (hc5.map.map : Cn bs (.ok at_) (D.map less (zD 1)) r5 (less (u : Int))) (Cn.seq hc8 (Cn.seq hc9 Cn.ret))
 rintro _ z zs r5 k5 ⟨B1, B2, B3, s5, o1, o2, o3, ⟨hz1, hz2, hz3⟩⟩ hzl hcL
 refine hq z (zht1 (cur : Int) es (lost : Int) (forb : Int) zs) r5 _ k5 s5 ⟨B1, B2, B3, rfl, o1, o2, o3, hz1, hz2, hz3⟩ ?_
 unfold partD
 rw [show c.Locks.toNat = N by omega]
 exact Cn.seq hc1.map (Cn.seq hc2 (Cn.seq hcE (Cn.seq hc3.map (Cn.seq hc4.map (Cn.seq hcL Cn.ret)))))
end
end Lf

namespace Lf
open Go Go.Proofs
section
variable {d h : Hp} {rb : Nat} {bl : Sl} {bs : List UInt8} {r : RS}
theorem readL {α : Type} {g : List α → D α} {len : Int} {N : Nat} (hn : len + 1 = (N : Int)) (hN : N ≤ 1000000) (I : List α → RS → Hp → Prop) (hrd : ∀ xs r h, I xs r h → RAt d h rb bl bs r)
  {B : (Int → Hp → Prop) → Int → Hp → Prop} {X : Int → Hp → Prop} {h0 : Hp} {r0 : RS} (h00 : I [] r0 h0)
  (hs : ∀ (i : Nat) xs at_ h, xs.length = i → i < N → I xs (.ok at_) h → ∀ K : Int → Hp → Prop, (∀ v r' h', I (xs ++ [v]) r' h' → Cn bs (.ok at_) (g xs) r' v → K (IntKind.wrap .i64 ((i : Int) + 1)) h') → B K (i : Int) h)
  (hx : ∀ (i : Int) xs r h, I xs r h → xs.length ≤ N → Cn bs r0 (D.many g N []) r xs → X i h) :
  LoopW1 (fun again i h => NilW (some (decide (i ≤ len))) (some ⟨rb, 0, none⟩) fun p => LdW (some (decide (i ≤ len))) (shInt .i64) h (Addr.add p 2) fun x =>
   LetW ((decide (i ≤ len)) && (x == (0 : Int))) fun y => if y = true then B again i h else X i h) (0 : Int) h0 := by
 refine LoopW1.intro (fun t h => ∃ (i : Nat) (xs : List α) (r1 : RS), t = (i : Int) ∧ i ≤ N ∧ xs.length = i ∧ I xs r1 h ∧ ∀ (β : Type) (f : List α → D β), stepD r0 (D.bind (D.many g N []) f) bs = stepD r1 (D.bind (D.many g (N - i) xs) f) bs)
  (fun t _ => ((N : Int) - t).toNat) ⟨0, [], r0, rfl, by omega, rfl, h00, fun _ _ => rfl⟩ ?_
 rintro t h ⟨i, xs, r1, rfl, hi, hxl, hI, hcn⟩
 obtain ⟨p, e, pl, kb, hs1⟩ := (hrd xs r1 h hI).blk
 refine zad (ldC (sh := shInt .i64) e (kb.ldIs (off := 2) (n := 1) rfl) (letW ?_))
 by_cases hgo : i < N ∧ ∃ at_, r1 = .ok at_
 ·obtain ⟨hlt, at_, rfl⟩ := hgo
  rw [if_pos (by rw [hs1.2.1]; simp; omega)]
  refine hs i xs at_ h hxl hlt hI _ fun v r' h' hI' hc => ?_
  rw [zao (by omega) (by omega)]
  refine ⟨⟨i + 1, xs ++ [v], r', by omega, by omega, by simp [hxl], hI', fun β f => ?_⟩, by omega⟩
  have e1 : N - i = (N - (i + 1)) + 1 := by omega
  rw [hcn, e1, zdg, zai, hc]
 ·have hor : i = N ∨ ∃ e, r1 = .error e := by
   by_cases hlt : i < N
   ·cases r1 with
    | ok a => exact absurd ⟨hlt, a, rfl⟩ hgo
    | error e => exact .inr ⟨e, rfl⟩
   ·exact .inl (by omega)
  rw [if_neg (by
   rcases hor with rfl | ⟨y, rfl⟩
   ·simp; omega
   ·have := hs1.2.1
    rw [← hs1.1] at this
    simp [this])]
  exact hx _ xs r1 h hI (by omega) (zig1 hcn hor)
end
structure PTt (d h0 : Hp) (rb : Nat) (bl : Sl) (bs : List UInt8) (pb : Nat) (k : Hp) (r : RS) (v : S_api_Process) (ls : List PLane) (B : List Nat) : Prop where
 sb : TB d h0 rb bl bs k r ([pb] ++ B)
 blk : Blk k pb (procL v)
 own : zbt2 v.Lanes ls k B
section
variable {d h0 k : Hp} {rb pb : Nat} {bl : Sl} {bs : List UInt8} {r : RS} {v : S_api_Process} {ls : List PLane} {B : List Nat}
theorem PTt.known (s : PTt d h0 rb bl bs pb k r v ls B) : ∀ b ∈ [pb] ++ B, k b ≠ none := fun b hb => by
 rcases List.mem_append.1 hb with hb | hb
 ·rw [List.mem_singleton.1 hb]; exact s.blk.known
 ·exact okLanes.known s.own b hb
theorem PTt.pn (s : PTt d h0 rb bl bs pb k r v ls B) : pb ∉ B := fun h => (List.nodup_append.1 s.sb.nd).2.2 pb (List.mem_singleton.2 rfl) pb h rfl
theorem PTt.next (s : PTt d h0 rb bl bs pb k r v ls B) {k' : Hp} {r1 : RS} (m : Mv [rb] k [rb] k') (a : RAt d k' rb bl bs r1) : PTt d h0 rb bl bs pb k' r1 v ls B := by
 obtain ⟨s2, hs⟩ := s.sb.next s.known m a
 exact ⟨s2, s.blk.mv m fun h => s.sb.nr (mem_a (by rw [List.mem_singleton.1 h]; exact List.mem_singleton.2 rfl)), okLanes.same s.own fun b hb => hs b (mem_b hb)⟩
theorem PTt.store (hd0 : d ≤ h0) (s : PTt d h0 rb bl bs pb k r v ls B) {v' : S_api_Process} {off : Nat} {val : Value} (hoff : off < 15) (hl : v'.Lanes = v.Lanes) (hv : procL v' = (procL v).take off ++ [val] ++ (procL v).drop (off + 1)) {K : Hp → Prop}
  (hk : ∀ k', PTt d h0 rb bl bs pb k' r v' ls B → K k') : StW k ⟨pb, off, none⟩ [val] K := by
 refine zfc s.blk (by show off + 1 ≤ 15; omega) fun k4 m4 hb4 => hk k4 ?_
 refine ⟨s.sb.fin (fun b o e hn => m4.keep b o e fun h => hn (mem_a h)) s.sb.nd (fun b hb => .inl hb) (fun b hb => zbk hd0 (s.sb.fresh b hb)), by rw [hv]; exact hb4, ?_⟩
 rw [hl]
 exact okLanes.same s.own (zpj m4 (okLanes.known s.own) fun b hb e => s.pn (by rw [← List.mem_singleton.1 e]; exact hb))
theorem PTt.grow (s : PTt d h0 rb bl bs pb k r v ls B) {k' : Hp} (hl : k ≤ k') : PTt d h0 rb bl bs pb k' r v ls B :=
 ⟨s.sb.grow hl, s.blk.le hl, okLanes.same s.own (zcb hl (okLanes.known s.own))⟩
end
section
variable {d h : Hp} {rb : Nat} {bl : Sl} {bs : List UInt8} {r : RS}
set_option maxRecDepth 20000 in
theorem zsq1 {c : S_api_Config} {Q : S_api_Process → Hp → Prop} (a : RAt d h rb bl bs r) (hl : 0 ≤ c.Lane) (hll : c.Labels.len ≤ 1000)
  (hq : ∀ v p r1 B h', TB d h rb bl bs h' r1 B → ProcessO v p h' B → Cn bs r (zco1 c.Labels.len c.Lane (c.Procs.len : Int)) r1 p → Q v h') : zcq Tryz.prog (some ⟨rb, 0, none⟩) c Q h := by
 unfold zcq
 refine zab (zkc (k := 1) a (by omega) (by omega) fun st r1 h1 hst m1 a1 hc1 _ => ?_)
 have hst : st < 256 := hst
 rw [zao (n := (st : Int)) (by omega) (by omega)]
 have s1 : TB d h rb bl bs h1 r1 [] := TB.step a.known m1 a1
 refine newB2 fun pb h2 hn2 hle2 hP2 => ?_
 have s2 : TB d h rb bl bs h2 r1 [pb] := s1.add (fun b hb => by cases hb) hn2 hle2
 refine zfc (b := pb) (off := 0) hP2 (by simp) fun h3 m3 hP3 => ?_
 have hP3 : Blk h3 pb (procL ⟨(st : Int), 0, 0, 0, 0, 0, 0, 0, 0, 0, 0, 0, false, 0, ⟨none, 0, 0⟩⟩) := hP3
 have s3 : PTt d h rb bl bs pb h3 r1 ⟨(st : Int), 0, 0, 0, 0, 0, 0, 0, 0, 0, 0, 0, false, 0, ⟨none, 0, 0⟩⟩ [] [] :=
  ⟨by
   rw [List.append_nil]
   exact s2.fin (fun b o e hn => m3.keep b o e hn) s2.nd (fun b hb => .inl hb) (fun b hb => zbk a.le (s2.fresh b hb)), hP3, RowsO.nil⟩
 refine zab (zkc (k := 2) s3.sb.rd (by omega) (by omega) fun pc r2 h4 hpc m4 a4 hc2 _ => ?_)
 have hpc : pc < 65536 := hpc
 rw [zao (n := (pc : Int)) (by omega) (by omega)]
 refine (s3.next m4 a4).store a.le (v' := ⟨(st : Int), (pc : Int), 0, 0, 0, 0, 0, 0, 0, 0, 0, 0, false, 0, ⟨none, 0, 0⟩⟩) (off := 1) (by omega) rfl rfl fun h5 s5 => ?_
 refine forI (n := 8) rfl (by omega) (fun i k => ∃ (ws : List Int) (r' : RS) (v : S_api_Process), ws.length = i ∧ (v.State = (st : Int) ∧ v.PC = (pc : Int) ∧ v.Lanes = ⟨none, 0, 0⟩) ∧ zoh1 v = ws ++ List.replicate (8 - i) 0 ∧ PTt d h rb bl bs pb k r' v [] [] ∧
  ∀ (β : Type) (f : List Int → D β), stepD r2 (D.bind (D.many (fun _ => iD) 8 []) f) bs = stepD r' (D.bind (D.many (fun _ => iD) (8 - i) ws) f) bs) ⟨[], r2, _, rfl, ⟨rfl, rfl, rfl⟩, rfl, s5, fun _ _ => rfl⟩ ?_ ?_
 ·rintro i hi k ⟨ws, r', v, hwl, hv, hreg, s, hcn⟩ K hK
  refine zab (zkc (k := 8) s.sb.rd (by omega) (by omega) fun w r4 k4 hw m4 a4 hc4 _ => ⟨⟨by omega, by omega⟩, ?_⟩)
  have hw : w < 18446744073709551616 := hw
  rw [zob hw]
  have s4 := s.next m4 a4
  have haddr : (Addr.add (Addr.add ⟨pb, 0, none⟩ 2) ((Int.toNat (i : Int)) * 1)) = ⟨pb, 2 + i, none⟩ := by
   rw [Nat.mul_one, show Int.toNat (i : Int) = i from rfl, zez, zez, Nat.zero_add]
  rw [haddr]
  obtain ⟨e1, e2, e3⟩ := zlz1 v hi (i64 w)
  refine s4.store a.le (v' := zia1 v i (i64 w)) (off := 2 + i) (by omega) e3 (zjl1 v hi _) fun k5 s5 => hK k5 ⟨ws ++ [i64 w], r4, zia1 v i (i64 w), by simp [hwl], ⟨e1.trans hv.1, e2.trans hv.2.1, e3.trans hv.2.2⟩, ?_, s5, fun β f => ?_⟩
  ·rw [zly1 v hi, hreg, zbs2 ws hwl hi]
  ·have e1 : 8 - i = (8 - (i + 1)) + 1 := by omega
   rw [hcn, e1, zdg, zai, iD_eq, hc4.map]
 ·rintro k ⟨ws, r', v, hwl, ⟨hv1, hv2, hv3⟩, hreg, s, hcn⟩
  have hcR : Cn bs r2 (D.many (fun _ => iD) 8 []) r' ws := zig1 hcn (.inl rfl)
  have hreg : zoh1 v = ws := by rw [hreg]; simp
  refine zab (zkc (k := 1) s.sb.rd (by omega) (by omega) fun cur r4 k4 hcur m4 a4 hc4 _ => ?_)
  have hcur : cur < 256 := hcur
  rw [zao (n := (cur : Int)) (by omega) (by omega)]
  refine (s.next m4 a4).store a.le (v' := { v with Cursor := (cur : Int) }) (off := 10) (by omega) rfl rfl fun k5 s5 => ?_
  refine zab (zkc (k := 8) s5.sb.rd (by omega) (by omega) fun tim r6 k6 htim m6 a6 hc6 _ => ?_)
  have htim : tim < 18446744073709551616 := htim
  rw [zob htim]
  refine (s5.next m6 a6).store a.le (v' := { v with Cursor := (cur : Int), Timer := i64 tim }) (off := 11) (by omega) rfl rfl fun k7 s7 => ?_
  refine zam (zme (k := 1) s7.sb.rd (by omega) (by omega) (by decide) (by decide) (by decide) fun fi r8 k8 hfi m8 a8 hc8 => ?_)
  rw [zqs (W' := yesE) zmb1] at hc8
  refine (s7.next m8 a8).store a.le (v' := { v with Cursor := (cur : Int), Timer := i64 tim, Fired := ((fi : Int) == (1 : Int)) }) (off := 12) (by omega) rfl rfl fun k10 s10 => ?_
  refine zab (zkc (k := 8) s10.sb.rd (by omega) (by omega) fun wak r11 k11 hwak m11 a11 hc11 _ => ?_)
  have hwak : wak < 18446744073709551616 := hwak
  rw [zob hwak]
  refine (s10.next m11 a11).store a.le (v' := { v with Cursor := (cur : Int), Timer := i64 tim, Fired := ((fi : Int) == (1 : Int)), Wake := i64 wak }) (off := 13) (by omega) rfl rfl fun k12 s12 => ?_
  refine readL (N := c.Labels.len + 1) (bl := bl) (rb := rb) (bs := bs) (d := d) (g := fun _ => laneD c.Lane (c.Procs.len : Int)) (by push_cast; rfl) (by omega)
   (fun ps r' kk => ∃ (l : Sl) (B : List Nat), PTt d h rb bl bs pb kk r' { v with Cursor := (cur : Int), Timer := i64 tim, Fired := ((fi : Int) == (1 : Int)), Wake := i64 wak, Lanes := l } ps B) (fun ps r' kk hI => by obtain ⟨l, B, s⟩ := hI; exact s.sb.rd)
   ⟨⟨none, 0, 0⟩, [], by
    have := s12
    rw [show ({ v with Cursor := (cur : Int), Timer := i64 tim, Fired := ((fi : Int) == (1 : Int)), Wake := i64 wak } : S_api_Process) = { v with Cursor := (cur : Int), Timer := i64 tim, Fired := ((fi : Int) == (1 : Int)), Wake := i64 wak, Lanes := ⟨none, 0, 0⟩ } by rw [← hv3]] at this
    exact this⟩ ?_ ?_
  ·rintro i ps at_ kk hpl hi ⟨l, B, s13⟩ K hK
   refine ld_at (sh := shSl) l (s13.blk.ldIs (off := 14) (n := 1) rfl) ?_
   refine zso (zci2 s13.sb.rd hl fun y p r14 B' k14 t14 o14 hc14 => ?_)
   have s14 := s13.sb.andThen s13.known t14
   have hs14 := s13.sb.kept s13.known t14
   have hb14 : Blk k14 pb (procL { v with Cursor := (cur : Int), Timer := i64 tim, Fired := ((fi : Int) == (1 : Int)), Wake := i64 wak, Lanes := l }) := by
    obtain ⟨t, e⟩ := s13.blk
    exact ⟨t, by rw [hs14 pb (mem_a (List.mem_singleton.2 rfl))]; exact e⟩
   refine ⟨⟨hb14.ldIs (off := 14) (n := 1) rfl, trivial⟩, ?_⟩
   refine newF (xs := [y]) (enc := fun x => zae (sh_api_Lane.enc x)) (sz := 4) rfl (fun _ => rfl) fun b15 k15 _ hle15 _ o15 => ?_
   have hb15 := hb14.le hle15
   refine ⟨⟨hb15.ldIs (off := 14) (n := 1) rfl, trivial⟩, ?_⟩
   have s15 := s14.grow hle15
   have hs15 : ∀ b ∈ [pb] ++ B, k15 b = kk b := fun b hb => by
    rw [← hs14 b hb]
    exact zcb hle15 (fun b hb => by rw [hs14 b hb]; exact s13.known b hb) b hb
   have ow := okLanes.same s13.own fun b hb => hs15 b (mem_b hb)
   have oe := okLane.same o14 (zcb hle15 (okLane.known o14))
   refine tmid (P := [pb]) (M := B) (S := []) (B' := B') okLane a.le (by simpa using s15) ow (v := y) (p := p) oe (fun b hb => by
    rw [List.append_nil] at hb
    rw [hs15 b (mem_a hb)]
    exact s13.known b (mem_a hb)) (o15.rw fun _ => rfl) (fun _ => rfl) (fun _ => rfl) rfl (by omega) fun l16 k16 M16 s16 o16 hs16 => ?_
   rw [List.append_nil] at s16
   have hb16 : Blk k16 pb (procL { v with Cursor := (cur : Int), Timer := i64 tim, Fired := ((fi : Int) == (1 : Int)), Wake := i64 wak, Lanes := l }) := by
    obtain ⟨t, e⟩ := hb15
    exact ⟨t, by rw [hs16 pb (by simp)]; exact e⟩
   have hpM : pb ∉ M16 := fun h => (List.nodup_append.1 s16.nd).2.2 pb (List.mem_singleton.2 rfl) pb h rfl
   refine zfc (off := 14) hb16 (by show 14 + 1 ≤ 15; omega) fun k17 m17 hb17 => hK p r14 k17 ⟨l16, M16, ?_, hb17, ?_⟩ hc14
   ·exact s16.fin (fun b o e hn => m17.keep b o e fun h => hn (mem_a h)) s16.nd (fun b hb => .inl hb) (fun b hb => zbk a.le (s16.fresh b hb))
   ·exact okLanes.same o16 (zpj m17 (okLanes.known o16) fun b hb e => hpM (by have e : b = pb := List.mem_singleton.1 e; exact e ▸ hb))
  ·rintro _ ps r12 kk ⟨l, B, s13⟩ hpl hcP
   refine ld_at (sh := sh_api_Process) { v with Cursor := (cur : Int), Timer := i64 tim, Fired := ((fi : Int) == (1 : Int)), Wake := i64 wak, Lanes := l } (s13.blk.ldIs (off := 0) (n := 15) rfl) ?_
   refine hq _ ⟨(st : Int), (pc : Int), ws, (cur : Int), i64 tim, isOne (fi : Int), i64 wak, ps⟩ r12 B kk ⟨s13.sb.kr, s13.sb.keep, s13.sb.rd, (List.nodup_append.1 s13.sb.nd).2.1, fun b hb => s13.sb.fresh b (mem_b hb)⟩
    ⟨s13.own, hv1, hv2, hreg, rfl, rfl, ?_, rfl⟩ ?_
   ·show ((fi : Int) == (1 : Int)) = isOne (fi : Int)
    unfold isOne
    rfl
   ·unfold zco1
    exact Cn.seq hc1.map (Cn.seq hc2.map (Cn.seq hcR (Cn.seq hc4.map (Cn.seq (hc6.map : Cn bs r4 iD r6 (i64 tim)) (Cn.seq hc8.map (Cn.seq (hc11.map : Cn bs r8 iD r11 (i64 wak)) (Cn.seq hcP Cn.ret)))))))
end
end Lf

namespace Lf
open Go Go.Proofs
set_option maxRecDepth 20000 in
theorem zjm1 {h : Hp} {b : Sl} {bs : List UInt8} {Q : S_api_Config → S_api_State → Int → Int → Hp → Prop} (hB : Bs h b bs) (hcap : b.len ≤ b.cap)
  (hE : ∀ e p h', h ≤ h' → e ≠ 0 → SnapErr bs e p → Q cfg0 st0 e (p : Int) h')
  (hok : ∀ x v c s B1 B2 h', h ≤ h' → zfi snapD bs = .ok (c, s) → (cfgE c).1 = 0 → MayP c s → CfgO x c h' B1 → StateO v s h' B2 → (B1 ++ B2).Nodup → (∀ b ∈ B1 ++ B2, h b = none) → Q x v 0 0 h') :
  zer Tryz.prog b Q h := by
 unfold zer
 have hlen : b.len = bs.length := hB.1
 by_cases hbig : 1048576 < bs.length
 ·have hbig' : ((b.len : Nat) : Int) > 1048576 := by omega
  rw [if_pos (decide_eq_true hbig')]
  exact hE 22 1048576 h (Hp.le_refl _) (by decide) (.inl (by unfold zfi; rw [if_pos hbig]))
 have hsm : bs.length ≤ 1048576 := by omega
 have hbig' : ¬ ((b.len : Nat) : Int) > 1048576 := by omega
 rw [if_neg (fun e => hbig' (of_decide_eq_true e))]
 refine newB2 fun rb h1 hn1 hle1 hR1 => ?_
 have a1 : RAt h h1 rb b bs (.ok 0) := ⟨hle1, hn1, hB, hcap, by omega, 0, 0, 0, hR1, rfl, rfl, by omega⟩
 refine zht (zso1 (cs := [70, 66, 83, 78, 1]) a1 (by decide) fun r2 h2 m2 a2 hc2 => ?_)
 have s2 : TB h h1 rb b bs h2 r2 [] := TB.step a1.known m2 a2
 refine ztx (zei2 a2 fun r3 x c B1 h3 t3 own few pos hcv hc3 => ?_)
 have s3 := s2.andThen (fun b hb => by cases hb) t3
 rw [List.nil_append] at s3
 have hlab : x.Labels.len = c.labels.length := by
  obtain ⟨C1, C2, C3, _, o1, _⟩ := own
  exact o1.len
 have hpl : x.Procs.len = c.procs.length := by
  obtain ⟨C1, C2, C3, _, _, _, o3, _⟩ := own
  exact o3.len
 obtain ⟨hLane, hLocks, hLog⟩ : x.Lane = c.lane ∧ x.Locks = c.locks ∧ x.Log = c.log := by
  obtain ⟨C1, C2, C3, _, _, _, _, f1, f2, f3, f4⟩ := own
  exact ⟨f2, f3, f4⟩
 have f1 := few.nl
 have f2 := few.np
 have f3 := few.locks
 have kn3 := okCfg.known own
 refine zab (zkc (k := 8) s3.rd (by omega) (by omega) fun tick r4 h4 htick m4 a4 hc4 _ => ?_)
 have htick : tick < 18446744073709551616 := htick
 rw [zob htick]
 obtain ⟨s4, hs4⟩ := s3.next kn3 m4 a4
 have own4 := okCfg.same own hs4
 refine readT (N := c.labels.length) (bl := b) (rb := rb) (bs := bs) (d := h) (g := fun _ => partD c.log c.locks (c.procs.length : Int)) (by rw [hlab]) (by omega) (fun (v : S_api_State) ps r' kk => ∃ B2, TB h h1 rb b bs kk r' (B1 ++ B2) ∧ CfgO x c kk B1 ∧ zsd1 v.Parts ps kk B2 ∧ (v.Tick = i64 tick ∧ v.Procs = ⟨none, 0, 0⟩))
  (fun x ls r' k hI => hI.choose_spec.1.rd) ⟨[], by simpa using s4, own4, RowsO.nil, ⟨rfl, rfl⟩⟩ ?_ ?_
 ·rintro i v ps at_ kk hil hi ⟨B2, s, o1, o2, hv⟩ K hK
  have kn := zmb (okCfg.known o1) (okParts.known o2)
  refine zsj (zcj2 s.rd (by rw [hLog]; exact pos.2) (by rw [hLocks]; omega) fun y p r5 B' k5 t5 o5 hc5 => ⟨⟨trivial, trivial⟩, ?_⟩)
  have s5 := s.andThen kn t5
  have hs5 := s.kept kn t5
  refine newF (xs := [y]) (enc := fun x => zae (sh_api_Part.enc x)) (sz := 6) rfl (fun _ => rfl) fun b6 k6 _ hle6 _ o6 => ⟨⟨trivial, trivial⟩, ?_⟩
  have s6 := s5.grow hle6
  have hs6 : ∀ b ∈ B1 ++ B2, k6 b = kk b := fun b hb => by
   rw [← hs5 b hb]
   exact zcb hle6 (fun b hb => by rw [hs5 b hb]; exact kn b hb) b hb
  have oe := okPart.same o5 (zcb hle6 (okPart.known o5))
  have q1 := okCfg.same o1 fun b hb => hs6 b (mem_a hb)
  refine tmid (P := B1) (M := B2) (S := []) (B' := B') okPart a1.le (by simpa using s6) (okParts.same o2 fun b hb => hs6 b (mem_b hb)) (v := y) (p := p) oe (by simpa using okCfg.known q1) (o6.rw fun _ => rfl) (fun _ => rfl) (fun _ => rfl) rfl (by omega) fun l7 k7 M7 s7 o7 hs7 => ?_
  rw [List.append_nil] at s7
  rw [hLog, hLocks, hpl] at hc5
  exact hK _ p r5 k7 ⟨M7, s7, okCfg.same q1 fun b hb => hs7 b (mem_a hb), o7, hv⟩ hc5
 rintro _ v ps r5 k5 ⟨B2, s5, o1, o2, ⟨hv1, hv2⟩⟩ hil hcP
 refine readT (N := c.procs.length) (bl := b) (rb := rb) (bs := bs) (d := h) (g := fun _ => zco1 c.labels.length c.lane (c.procs.length : Int)) (by rw [hpl]) (by omega) (fun (v : S_api_State) qs r' kk => ∃ B3, TB h h1 rb b bs kk r' (B1 ++ (B2 ++ B3)) ∧ CfgO x c kk B1 ∧ zsd1 v.Parts ps kk B2 ∧ zup1 v.Procs qs kk B3 ∧ v.Tick = i64 tick)
  (fun x ls r' k hI => hI.choose_spec.1.rd) ⟨[], by simpa using s5, o1, o2, by rw [hv2]; exact RowsO.nil, hv1⟩ ?_ ?_
 ·rintro i v qs at_ kk hil hi ⟨B3, s, o1, o2, o3, hv⟩ K hK
  have kn := zmb (okCfg.known o1) (zmb (okParts.known o2) (okProcss.known o3))
  refine zpb (zsq1 s.rd (by rw [hLane]; exact pos.1) (by rw [hlab]; omega) fun y p r6 B' k6 t6 o6 hc6 => ⟨⟨trivial, trivial⟩, ?_⟩)
  have s6 := s.andThen kn t6
  have hs6 := s.kept kn t6
  refine newF (xs := [y]) (enc := fun x => zae (sh_api_Process.enc x)) (sz := 15) rfl (fun _ => rfl) fun b7 k7 _ hle7 _ o7 => ⟨⟨trivial, trivial⟩, ?_⟩
  have s7 := s6.grow hle7
  have hs7 : ∀ b ∈ B1 ++ (B2 ++ B3), k7 b = kk b := fun b hb => by
   rw [← hs6 b hb]
   exact zcb hle7 (fun b hb => by rw [hs6 b hb]; exact kn b hb) b hb
  have oe := okProcess.same o6 (zcb hle7 (okProcess.known o6))
  have q1 := okCfg.same o1 fun b hb => hs7 b (mem_a hb)
  have q2 := okParts.same o2 fun b hb => hs7 b (mem_b (mem_a hb))
  have q3 := okProcss.same o3 fun b hb => hs7 b (mem_b (mem_b hb))
  refine tmid (P := B1 ++ B2) (M := B3) (S := []) (B' := B') okProcess a1.le (by simpa using s7) q3 (v := y) (p := p) oe (by simpa using zmb (okCfg.known q1) (okParts.known q2)) (o7.rw fun _ => rfl) (fun _ => rfl) (fun _ => rfl) rfl (by omega) fun l8 k8 M8 s8 o8 hs8 => ?_
  rw [hlab, hLane, hpl] at hc6
  exact hK _ p r6 k8 ⟨M8, by simpa using s8, okCfg.same q1 fun b hb => hs8 b (mem_a (mem_a hb)), okParts.same q2 fun b hb => hs8 b (mem_a (mem_b hb)), o8, hv⟩ hc6
 rintro _ v qs r6 k6 ⟨B3, s6, o1, o2, o3, hv⟩ hil hcQ
 have own2 : StateO v ⟨i64 tick, ps, qs⟩ k6 (B2 ++ B3) := ⟨B2, B3, rfl, o2, o3, hv⟩
 have hcS : Cn bs r3 (zlo1 c) r6 ⟨i64 tick, ps, qs⟩ := by
  unfold zlo1
  exact Cn.seq (hc4.map : Cn bs r3 iD r4 (i64 tick)) (Cn.seq hcP (Cn.seq hcQ Cn.ret))
 have hcAll : Cn bs (.ok 0) snapD r6 (c, ⟨i64 tick, ps, qs⟩) := by
  unfold snapD
  exact Cn.seq hc2 (Cn.seq hc3 (Cn.seq hcS Cn.ret))
 have hdone := hcAll.done
 generalize (⟨i64 tick, ps, qs⟩ : PState) = s at *
 have kn6 := zmb (okCfg.known o1) (okState.known own2)
 refine JoinW0.intro (fun k' => ∃ r7, Mv [rb] k6 [rb] k' ∧ RAt h k' rb b bs r7 ∧ match r7 with
  | .error e => zfi snapD bs = .error e
  | .ok _ => zfi snapD bs = .ok (c, s)) ?_ ?_
 ·obtain ⟨p, e, pl, kb, hs⟩ := s6.rd.blk
  refine zad (ld_at (sh := shInt .i64) e (kb.ldIs (off := 2) (n := 1) rfl) (zad (ldC (sh := shInt .i64) p (kb.ldIs (off := 1) (n := 1) rfl) (letW ?_))))
  cases r6 with
  | error y =>
   have hne := hs.2.1
   rw [← hs.1] at hne
   rw [if_neg (by simp [hne])]
   exact ⟨_, Mv.refl _ _, s6.rd, zse1 hsm hdone⟩
  | ok at_ =>
   obtain ⟨rfl, rfl, hat⟩ := hs
   have hcfg := zxb1 hsm hdone
   by_cases hlt : at_ < bs.length
   ·rw [if_pos hlt] at hcfg
    rw [if_pos (by simp; omega)]
    refine zad (ld_at (sh := shInt .i64) (at_ : Int) (kb.ldIs (off := 1) (n := 1) rfl) ?_)
    refine zak (zvl kb fun k2 m2 kb2 => ?_)
    rw [if_pos rfl, if_pos rfl] at kb2
    exact ⟨.error (6, at_), m2, s6.rd.of m2 kb2 ⟨rfl, by decide, rfl⟩, hcfg⟩
   ·rw [if_neg hlt] at hcfg
    rw [if_neg (by simp; omega)]
    exact ⟨_, Mv.refl _ _, s6.rd, hcfg⟩
 ·rintro k' ⟨r7, m7, a7, hcfg⟩
  obtain ⟨s7, hs7⟩ := s6.next kn6 m7 a7
  have own1 := okCfg.same o1 fun b hb => hs7 b (mem_a hb)
  have own2 := okState.same own2 fun b hb => hs7 b (mem_b hb)
  obtain ⟨p, e, pl, kb, hs⟩ := a7.blk
  refine zad (ld_at (sh := shInt .i64) e (kb.ldIs (off := 2) (n := 1) rfl) ?_)
  cases r7 with
  | error y =>
   obtain ⟨er, q⟩ := y
   obtain ⟨rfl, hne, rfl⟩ := hs
   rw [if_pos (by simpa using hne)]
   have l2 : LdIs k' ⟨rb, 2, none⟩ [.int .i64 e] := kb.ldIs (off := 2) (n := 1) rfl
   have l3 : LdIs k' ⟨rb, 3, none⟩ [.int .i64 (q : Int)] := kb.ldIs (off := 3) (n := 1) rfl
   exact zad (ld_at (sh := shInt .i64) e l2 (zad (ld_at (sh := shInt .i64) (q : Int) l3 ⟨⟨l2, l3, trivial⟩, ⟨l2, l3, trivial⟩, hE e q k' a7.le hne (.inl hcfg)⟩)))
  | ok at_ =>
   obtain ⟨rfl, rfl, _⟩ := hs
   rw [if_neg (by simp)]
   have hcfg : zfi snapD bs = .ok (c, s) := hcfg
   have hsound := (zpl law_snap hcfg).1
   have hcv : CfgV c := hsound.1.1
   have htc := ((zhu1 (zvk c)).2 hcv).1
   refine zyr (zce2 own1.rd own2.rd (fun l hl => ⟨(htc.1 l hl).1, (htc.1 l hl).2⟩) (StateV.le few hsound.2) fun n k hle hM => ?_)
   by_cases hn0 : n = 0
   ·subst hn0
    rw [if_neg (by simp)]
    obtain ⟨h01, h02⟩ : (cfgE c).1 = 0 ∧ MayP c s := by
     rcases hM with ⟨g1, g2⟩ | ⟨g1, g2⟩
     ·exact absurd g2.symm g1
     ·rcases g2 with ⟨_, g2⟩ | ⟨g2, _⟩
      ·exact ⟨g1, g2⟩
      ·cases g2
    have hk : ∀ b ∈ B1 ++ (B2 ++ B3), k b = k' b := zcb hle (zmb (okCfg.known own1) (okState.known own2))
    exact ⟨⟨trivial, trivial⟩, hok x v c s B1 (B2 ++ B3) k (Hp.le_trans a7.le hle) hcfg h01 h02 (okCfg.same own1 fun b hb => hk b (mem_a hb)) (okState.same own2 fun b hb => hk b (mem_b hb)) s7.nd fun b hb => zbk hle1 (s7.fresh b hb)⟩
   ·rw [if_pos (by simpa using hn0)]
    exact hE n 0 k (Hp.le_trans a7.le hle) hn0 (.inr ⟨c, s, hcfg, rfl, hM⟩)
end Lf

namespace Lf
open Go Go.Proofs
set_option maxRecDepth 20000 in
theorem snapReads_ok {h : Hp} {b : Sl} {bs : List UInt8} {Q : Bool → Hp → Prop} (hB : Bs h b bs) (hcap : b.len ≤ b.cap) (hq : ∀ h', h ≤ h' → Q true h') : zdc Tryz.prog b Q h := by
 unfold zdc
 refine zvv (zyn1 fun h1 l1 => ?_)
 rw [if_neg (by simp)]
 have fin : ∀ (h3 : Hp) (e p : Int) (x x' : S_api_Config) (v v' : S_api_State) (c : PCfg) (s : PState), h ≤ h3 → CfgAt h3 x c → CfgAt h3 x' c → CfgLe c → StateAt h3 v s → StateAt h3 v' s → StLe s →
   LetW ((e == e) && (p == p)) fun y => EffC (some y) (CallT Tryz.prog zdr [x.v, x'.v] zaf) (fun r9 h4 => LetW (y && r9) fun y1 =>
    EffC (some y1) (CallT Tryz.prog zds [v.v, v'.v] zaf) (fun r10 h5 => LetW (y1 && r10) fun y2 => Q y2 h5) h4) h3 := fun h3 e p x x' v v' c s l3 cx cx' lc sv sv' ls => by
  refine letW ⟨fun _ => zmp (zsi1 cx cx' lc ?_), fun e => (by simp at e)⟩
  refine letW ⟨fun _ => zmq (zsj1 sv sv' ls ?_), fun e => (by simp at e)⟩
  refine letW ?_
  have e : ((((e == e) && (p == p)) && true) && true) = true := by simp
  rw [e]
  exact hq h3 l3
 refine zqj (zzv (Rw.mono l1 hB) hcap (fun e p h2 l2 he hs => ?_) fun x v c s B1 B2 h2 l2 hw h01 h02 o1 o2 _ _ => ?_)
 ·refine zkz (zjm1 (Rw.mono (Hp.le_trans l1 l2) hB) hcap (fun e' p' h3 l3 he' hs' => ?_) fun x' v' c' s' B1' B2' h3 l3 hw' h01' h02' _ _ _ _ => ?_)
  ·obtain ⟨rfl, rfl⟩ := hs.uniq hs'
   exact fin h3 e (p : Int) cfg0 cfg0 st0 st0 zkb stNil (Hp.le_trans l1 (Hp.le_trans l2 l3)) zxf1 zxf1 zgl2 zcd2 zcd2 zfy2
  ·exact (hs.not_ok he hw' h01' h02').elim
 ·refine zkz (zjm1 (Rw.mono (Hp.le_trans l1 l2) hB) hcap (fun e' p' h3 l3 he' hs' => (hs'.not_ok he' hw h01 h02).elim) fun x' v' c' s' B1' B2' h3 l3 hw' _ _ o1' o2' _ _ => ?_)
  rw [hw] at hw'
  cases hw'
  obtain ⟨⟨⟨hcv, hcb⟩, hsv⟩, _, _⟩ := zpl law_snap hw
  have few := zxa1 _ (zvk c) hcv
  have hsl := StateV.le few hsv
  exact fin h3 0 0 x x' v v' c s (Hp.le_trans l1 (Hp.le_trans l2 l3)) (o1.rd.mono l3) o1'.rd (Few.le hcv) (o2.rd.mono l3) o2'.rd hsl
end Lf

