/-
  From a call's text to a law's statement.
-/
import Derived.ProofKit
import Derived.SizedLaws
import Derived.Test.YtoffikpplbiohaaLfMem
namespace Lf
open Go Go.ChangeShapes Go.WideShapes Go.ChangeAt Go.RowKit

/-- All that is in memory. -/
def whole (W : World) : Hp := fun b => W.heap[b]?

theorem whole_sub (W : World) : Sub (whole W) W := fun _ _ e => e

theorem hcell_whole (W : World) (a : Addr) : hcell (whole W) a = W.cell? a := rfl

theorem below_of_step {W W' : World} {h' : Hp} (hle : whole W ≤ h') (st : Step (whole W) h' W W') : Below W.heap.size W W' :=
  ⟨st.os, st.tape, st.output, st.size, fun k hk => by
    cases e : W.heap[k]? with
    | some o => exact st.sub _ _ (hle _ _ e)
    | none => simp at e; omega⟩

theorem trodAll_stays {H : Type} {enc : TypeId × Value → H} {P : Program} (hl : laidOutB P = true) {W W' : World} {sp : Nat → Bool} (hb : Below W.heap.size W W') : ∀ {ts : List TypeId} {vs : List Value} {ds : List (DataW H)} {ps : List MemPlace},
    (∀ t ∈ ts, P.readableRec t = true ∧ t < P.types.size) → DataW.TrodAll enc P W 0 (fun _ => true) true ts vs ds ps → (∀ x ∈ ps, x.block < W.heap.size) → (∀ x ∈ ps, sp x.block = true) → DataW.TrodAll enc P W' 0 sp true ts vs ds ps
  | [], _, _, _, _, h, _, _ => by
    obtain ⟨rfl, rfl, rfl⟩ := trodAll_nil h
    exact trodAll_mk0
  | t :: ts, _, _, _, hr, h, hlt, hs => by
    obtain ⟨v, vs, d, ds, p, q, rfl, rfl, rfl, h1, h2⟩ := trodAll_cons h
    obtain ⟨hr1, hr2⟩ := hr t (List.mem_cons_self ..)
    exact ⟨p, q, WideElems.Trod_stays hl hr1 hr2 h1 (fun x hx => hb.same (hlt x (List.mem_append_left _ hx))) (fun x hx => hs x (List.mem_append_left _ hx)),
      trodAll_stays hl hb (fun t ht => hr t (List.mem_cons_of_mem _ ht)) h2 (fun x hx => hlt x (List.mem_append_right _ hx)) (fun x hx => hs x (List.mem_append_right _ hx)), rfl⟩

theorem law_post {H : Type} {enc : TypeId × Value → H} {P : Program} {f : Func} {s : ChangeSpec} {W W' : World} {h' : Hp} {args : Array Value} {ds gs : List (DataW H)} {before : List MemPlace} {t : TypeId} (hl : laidOutB P = true)
    (hrd : ∀ t ∈ f.params.toList, P.readableRec t = true ∧ t < P.types.size) (hvars : s.vars = []) (hres : f.resultTypes = #[t]) (ht : P.underlying t = some .bool)
    (hfn : gs = [] → s.fn H (ds ++ gs) = { results := [.lit (.bool true)], args := ds }) (hW : DataW.Whole enc P f.params.toList s.vars false W args.toList ds gs before) (hle : whole W ≤ h') (st : Step (whole W) h' W W') :
    s.post enc P f false true false false W args (.bool true) W' := by
  have hb := below_of_step hle st
  have hlt : ∀ p ∈ before, p.block < W.heap.size := fun p hp => hW.lt p hp
  have hW' := hW
  obtain ⟨p, q, hA, hV, rfl, hfz, hnd⟩ := hW'
  rw [hvars] at hV
  obtain ⟨rfl, rfl⟩ := trodVars_none hV
  rw [List.append_nil] at hlt
  have hsp := hfn rfl
  refine ⟨ds, [], p ++ [], [], p, [], hW, ?_, ?_, ?_, Below.frame hb _, fun e => (by cases e)⟩
  · rw [hsp, hres]
    exact trodAll_mk1 (shut_bool ht true)
  · rw [hsp]
    exact trodAll_stays hl hb hrd hA hlt (fun x hx => by simpa using hlt x hx)
  · rw [hsp, hvars]
    exact rfl

theorem law_lifted {H : Type} {enc : TypeId × Value → H} {C : Checked} {os : Os} {f : FuncId} {fn : Func} {s : ChangeSpec} {t : TypeId} (own : ownKnob C.prog.godebug = none) (started : os.Started) (noInit : C.prog.inits.idxOf? f = none) (hf : C.prog.funcs[f]? = some fn)
    (witness : ∃ (w : World) (tape : Tape) (i : Input), w.os = os ∧ (w.forCall tape i).Shaped C.prog ∧ i.vars = [] ∧ Input.okWide C.prog (w.forCall tape i) .any w.heap.size f i ∧
      s.pre6 enc C.prog fn [] false (w.forCall tape i).memory i.args ∧ ({} : Assume).holds C.prog (lone (Frame.enter C.prog f i.args .normal) [] (w.forCall tape i)))
    (hl : laidOutB C.prog = true) (hrd : ∀ t ∈ fn.params.toList, C.prog.readableRec t = true ∧ t < C.prog.types.size) (hvars : s.vars = []) (hres : fn.resultTypes = #[t]) (ht : C.prog.underlying t = some .bool)
    (walk : ∀ (W : World) (base : Nat) (args : Array Value) (ds : List (DataW H)) (p : List MemPlace), (∀ (j : Nat) t v, fn.params[j]? = some t → args[j]? = some v → Value.okWide C.prog W .any base t v) → DataW.TrodAll enc C.prog W 0 (fun _ => true) true fn.params.toList args.toList ds p →
      s.fn H ds = { results := [.lit (.bool true)], args := ds } ∧ CallT C.prog f args.toList shBool (fun r h' => r = true ∧ whole W ≤ h') (whole W)) :
    ReturnsInHanded {} C os f .any (s.pre6 enc C.prog fn [] false) (s.post enc C.prog fn false true false false) := by
  refine returnsInHanded_of_change own started noInit hf witness ?_
  intro W base args ds gs before hval hW hcnd _
  have hW' := hW
  obtain ⟨p, q, hA, hV, _, hfz, hnd⟩ := hW'
  obtain ⟨hsp, hc⟩ := walk W base args ds p hval hA
  have hc' := hc W (whole_sub W)
  simp only [Array.toArray_toList] at hc'
  refine hc'.mono fun e W' hh => ?_
  obtain ⟨v, h', rfl, ⟨x, rfl, rfl, hle⟩, hst⟩ := hh
  exact ⟨_, rfl, law_post hl hrd hvars hres ht (fun e => by rw [e, List.append_nil]; exact hsp) hW hle hst⟩

/-- The same, of arguments whose sizes are known. -/
theorem law_liftedS {H : Type} {enc : TypeId × Value → H} {C : Checked} {os : Os} {f : FuncId} {fn : Func} {s : ChangeSpec} {t : TypeId} (own : ownKnob C.prog.godebug = none) (started : os.Started) (noInit : C.prog.inits.idxOf? f = none) (hf : C.prog.funcs[f]? = some fn)
    (witness : ∃ (w : World) (tape : Tape) (i : Input), w.os = os ∧ (w.forCall tape i).Shaped C.prog ∧ i.vars = [] ∧ Input.okWide C.prog (w.forCall tape i) .any w.heap.size f i ∧
      s.pre6 enc C.prog fn [] false (w.forCall tape i).memory i.args ∧ ({} : Assume).holds C.prog (lone (Frame.enter C.prog f i.args .normal) [] (w.forCall tape i)))
    (hl : laidOutB C.prog = true) (hrd : ∀ t ∈ fn.params.toList, C.prog.readableRec t = true ∧ t < C.prog.types.size) (hvars : s.vars = []) (hres : fn.resultTypes = #[t]) (ht : C.prog.underlying t = some .bool)
    (walk : ∀ (W : World) (base : Nat) (args : Array Value) (ds : List (DataW H)) (p : List MemPlace), (∀ (j : Nat) t v, fn.params[j]? = some t → args[j]? = some v → Value.okWide C.prog W .any base t v) → DataW.TrodAll enc C.prog W 0 (fun _ => true) true fn.params.toList args.toList ds p →
      (DataW.weightsEach C.prog fn.params.toList ds).all (· ≤ reachBytes) = true →
      s.fn H ds = { results := [.lit (.bool true)], args := ds } ∧ CallT C.prog f args.toList shBool (fun r h' => r = true ∧ whole W ≤ h') (whole W)) :
    ReturnsInHanded {} C os f .any (s.pre6 enc C.prog fn [] false) (s.post enc C.prog fn false true false false) := by
  refine returnsInHanded_of_change_sized own started noInit hf witness ?_
  intro W base args ds gs before hval hW hcnd hsz _
  have hW' := hW
  obtain ⟨p, q, hA, hV, _, hfz, hnd⟩ := hW'
  have hgs : gs = [] := by
    rw [hvars] at hV
    exact (trodVars_none hV).1
  subst hgs
  have hvt : s.plain.varTypes C.prog = [] := by
    unfold ChangeSpec.plain DataSpec.varTypes
    rw [hvars]
    rfl
  rw [hvt, List.append_nil, List.append_nil] at hsz
  obtain ⟨hsp, hc⟩ := walk W base args ds p hval hA hsz
  have hc' := hc W (whole_sub W)
  simp only [Array.toArray_toList] at hc'
  refine hc'.mono fun e W' hh => ?_
  obtain ⟨v, h', rfl, ⟨x, rfl, rfl, hle⟩, hst⟩ := hh
  exact ⟨_, rfl, law_post hl hrd hvars hres ht (fun e => by rw [e, List.append_nil]; exact hsp) hW hle hst⟩


/-- A slice that is handed in. -/
theorem slice_in {H : Type} {enc : TypeId × Value → H} {P : Program} {W : World} {base : Nat} {t e : TypeId} {v : Value} {d : DataW H} {ps : List MemPlace} {α : Type} (ht : P.underlying t = some (.slice e)) (en : α → List Value) (good : α → Prop)
    (hel : ∀ fuel cs y, cs.length = P.cellsOf e → DataW.trod enc P W 0 (fun _ => true) true fuel e cs = some y → ∃ x, cs = en x ∧ good x) (henc : ∀ x, (en x).length = P.cellsOf e) (hv : Value.okWide P W .any base t v)
    (h : DataW.Trod enc P W 0 (fun _ => true) true t v d ps) : ∃ (l : Sl) (xs : List α), v = l.v ∧ Rw (whole W) (P.cellsOf e) en l xs ∧ l.len ≤ l.cap ∧ l.cap ≤ 9223372036854775807 ∧ (∀ x ∈ xs, good x) ∧ (l.len = 0 ∨ ∃ el sp, d = .slice el sp ∧ el.length = l.len) := by
  obtain ⟨a0, len0, cap0, rfl⟩ := okWide_slice ht hv
  obtain ⟨fuel, hf⟩ := h
  rcases DataW.trod_slice ht hf with ⟨h0, _⟩ | ⟨a, len, cap, elems, rest, n, _, h0, hd0, hb, hl, hm, hlen, hel', _, _⟩
  · simp [Value.cells] at h0
    obtain ⟨rfl, rfl, rfl⟩ := h0
    exact ⟨⟨none, 0, 0⟩, [], rfl, ⟨rfl, (by simp), .inl (by simp)⟩, Nat.le_refl _, (by simp), fun x hx => (by cases hx), .inl rfl⟩
  · simp [Value.cells] at h0
    obtain ⟨rfl, rfl, rfl⟩ := h0
    have each : ∀ i, i < len0 → ∃ x, good x ∧ LdIs (whole W) (a.add (i * P.cellsOf e)) (en x) := by
      intro i hi
      have h1 := hel' i hi
      have h2 : elems[i]? = some elems[i] := List.getElem?_eq_getElem (by omega)
      rw [h2] at h1
      cases hc : W.cells? 0 (a.add (i * P.cellsOf e)) (P.cellsOf e) with
      | none => rw [hc] at h1; cases h1
      | some cs =>
        rw [hc] at h1
        obtain ⟨_, hcl, hcc⟩ := World.cells?_some hc
        obtain ⟨x, hx, hg⟩ := hel n cs _ hcl h1
        refine ⟨x, hg, fun j v hj => ?_⟩
        have hjl : j < (en x).length := (List.getElem?_eq_some_iff.1 hj).1
        rw [hcell_whole, hcc j (by rw [← henc x]; exact hjl), hx]
        exact hj
    have build : ∀ m, m ≤ len0 → ∃ xs : List α, xs.length = m ∧ (∀ x ∈ xs, good x) ∧ ∀ i x, xs[i]? = some x → LdIs (whole W) (a.add (i * P.cellsOf e)) (en x) := by
      intro m
      induction m with
      | zero => intro _; exact ⟨[], rfl, fun x hx => (by cases hx), fun i x hx => (by simp at hx)⟩
      | succ m ih =>
        intro hm'
        obtain ⟨xs, h1, h2, h3⟩ := ih (by omega)
        obtain ⟨x, hg, hx⟩ := each m (by omega)
        refine ⟨xs ++ [x], by simp [h1], fun y hy => ?_, fun i y hy => ?_⟩
        · rcases List.mem_append.1 hy with hy | hy
          · exact h2 y hy
          · rw [List.mem_singleton.1 hy]; exact hg
        · by_cases hi : i < xs.length
          · rw [List.getElem?_append_left hi] at hy
            exact h3 i y hy
          · rw [List.getElem?_append_right (by omega)] at hy
            have : i - xs.length = 0 := by
              have := (List.getElem?_eq_some_iff.1 hy).1
              simp at this
              omega
            rw [this] at hy
            simp at hy
            subst hy
            have : i = m := by omega
            rw [this]
            exact hx
    obtain ⟨xs, h1, h2, h3⟩ := build len0 (Nat.le_refl _)
    refine ⟨⟨some a, len0, cap0⟩, xs, rfl, ⟨h1.symm, flat_len henc xs, .inr ⟨a, rfl, fun i v hv => ?_⟩⟩, hl, hm, h2, .inr ⟨_, _, (Prod.mk.inj hd0).1, by simp [hlen]⟩⟩
    obtain ⟨q, x, j, hq, hj, e1⟩ := flat_at henc xs i v hv
    rw [e1]
    rw [← add_add]
    exact h3 q x hq j v hj

theorem ints_in {H : Type} {enc : TypeId × Value → H} {P : Program} {W : World} {base : Nat} {t e : TypeId} {k : IntKind} {v : Value} {d : DataW H} {ps : List MemPlace} (ht : P.underlying t = some (.slice e)) (he : P.underlying e = some (.int k)) (hc : P.cellsOf e = 1) (hv : Value.okWide P W .any base t v)
    (h : DataW.Trod enc P W 0 (fun _ => true) true t v d ps) : ∃ (l : Sl) (xs : List Int), v = l.v ∧ Rs (whole W) (shInt k) 1 l xs ∧ l.len ≤ l.cap ∧ l.cap ≤ 9223372036854775807 ∧ ∀ x ∈ xs, (Lit.int k x).wf = true := by
  have key := slice_in (α := Int) ht (fun x => cellsL ((shInt k).enc x)) (fun x => (Lit.int k x).wf = true) (fun fuel cs y _ hy => ?_) (fun _ => by rw [hc]; rfl) hv h
  · rw [hc] at key
    obtain ⟨l, xs, h1, h2, h3, h4, h5, _⟩ := key
    exact ⟨l, xs, h1, h2, h3, h4, h5⟩
  · obtain ⟨n, hcs, _, hw⟩ := DataW.trod_int he hy
    exact ⟨n, hcs, hw⟩

theorem ints_inS {H : Type} {enc : TypeId × Value → H} {P : Program} {W : World} {base : Nat} {t e : TypeId} {k : IntKind} {v : Value} {d : DataW H} {ps : List MemPlace} (ht : P.underlying t = some (.slice e)) (he : P.underlying e = some (.int k)) (hc : P.cellsOf e = 1) (hv : Value.okWide P W .any base t v)
    (h : DataW.Trod enc P W 0 (fun _ => true) true t v d ps) : ∃ (l : Sl) (xs : List Int), v = l.v ∧ Rs (whole W) (shInt k) 1 l xs ∧ l.len ≤ l.cap ∧ l.cap ≤ 9223372036854775807 ∧ (∀ x ∈ xs, (Lit.int k x).wf = true) ∧ (l.len = 0 ∨ ∃ el sp, d = .slice el sp ∧ el.length = l.len) := by
  have key := slice_in (α := Int) ht (fun x => cellsL ((shInt k).enc x)) (fun x => (Lit.int k x).wf = true) (fun fuel cs y _ hy => ?_) (fun _ => by rw [hc]; rfl) hv h
  · rw [hc] at key
    exact key
  · obtain ⟨n, hcs, _, hw⟩ := DataW.trod_int he hy
    exact ⟨n, hcs, hw⟩

theorem inU_wf {x : Int} (h : (Lit.int .u64 x).wf = true) : 0 ≤ x ∧ x < 18446744073709551616 := by
  simp [Lit.wf, IntKind.min, IntKind.max, IntKind.signed, IntKind.bits] at h
  omega

theorem trod_fieldInt {H : Type} {enc : TypeId × Value → H} {P : Program} {W : World} {t : TypeId} {fs : Array Field} {fuel : Nat} {cs : List Value} {x : DataW H × List MemPlace} (ht : P.underlying t = some (.struct fs)) (h : DataW.trod enc P W 0 (fun _ => true) true fuel t cs = some x)
    {i : Nat} {f : Field} {k : IntKind} (hf : fs[i]? = some f) (hk : P.underlying f.type = some (.int k)) (hc : P.cellsOf f.type = 1) : ∃ n, cs[f.offset]? = some (.int k n) ∧ (Lit.int k n).wf = true := by
  obtain ⟨xs, n, _, _, hl, hlen, hfs⟩ := DataW.trod_struct ht h
  have h1 := hfs i f hf
  have hil : i < xs.length := by rw [hlen]; exact (Array.getElem?_eq_some_iff.1 hf).1
  rw [List.getElem?_eq_getElem hil, hc] at h1
  obtain ⟨m, hm, _, hw⟩ := DataW.trod_int hk h1
  refine ⟨m, ?_, hw⟩
  have : ((cs.drop f.offset).take 1)[0]? = some (.int k m) := by rw [hm]; rfl
  rw [List.getElem?_take] at this
  simpa using this

theorem inI_wf {x : Int} (h : (Lit.int .i64 x).wf = true) : -9223372036854775808 ≤ x ∧ x ≤ 9223372036854775807 := by
  simp [Lit.wf, IntKind.min, IntKind.max, IntKind.signed, IntKind.bits] at h
  omega

/-- How long a slice of that type may be. -/
theorem slice_size {H : Type} {P : Program} {ts : List TypeId} {ds : List (DataW H)} {j : Nat} {t e : TypeId} {d : DataW H} {l : Sl} {b : Nat} (h : (DataW.weightsEach P ts ds).all (· ≤ reachBytes) = true) (ht : ts[j]? = some t) (hd : ds[j]? = some d) (hu : P.underlying t = some (.slice e)) (hb : P.bytesOf e = b)
    (hs : l.len = 0 ∨ ∃ el sp, d = .slice el sp ∧ el.length = l.len) : l.len * b ≤ 140737488355328 := by
  rcases hs with h0 | ⟨el, sp, rfl, hl⟩
  · rw [h0]; omega
  · have h1 := sized_slice h ht hd hu
    rw [hb] at h1
    have h2 : el.length * b ≤ (el.length + sp.length) * b := Nat.mul_le_mul_right _ (by omega)
    rw [← hl]
    have h3 : reachBytes ≤ 140737488355328 := by decide
    omega

end Lf
