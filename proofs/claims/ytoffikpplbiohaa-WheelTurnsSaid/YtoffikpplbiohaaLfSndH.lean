/-
  The lifting layer, part 12: append, copy, make, maps, calls; all operations.
-/
import Derived.Test.YtoffikpplbiohaaLfSndG
namespace Lf
open Go

section
variable {P : Program} {tb : Tb} {o : Oper} {ch : Chain} {s : St} {h : Hp} {K : LV → Hp → Prop}

theorem rd_cells {base : Option Addr} {n : Nat} {cs : List Value} {w : World} (hs : Sub h w) (hr : RdCells h base n cs) {m c : Nat} {size : Nat} (hn : n = m * size) :
    (Builtin.firstCells size m (.slice base m c)).run P w = .ok cs.toArray w := by
  obtain ⟨hl, hc⟩ := hr
  subst hn
  cases base with
  | none =>
    rcases hc with h0 | ⟨a, ha, _⟩
    · have : cs = [] := List.length_eq_zero_iff.1 (by omega)
      subst this
      rfl
    · cases ha
  | some a =>
    have hld : ∀ j v, cs[j]? = some v → w.cell? (a.add j) = some v := by
      intro j v hj
      rcases hc with h0 | ⟨a', ha, hld⟩
      · have : cs = [] := List.length_eq_zero_iff.1 (by omega)
        subst this; simp at hj
      · cases ha; exact hcell_sub hs (hld j v hj)
    simp only [Builtin.firstCells]
    rw [← hl]
    exact run_loadCells hld

theorem slicecap_le {need cap : Nat} (h : cap < need) : Builtin.nextslicecap need cap ≤ 2 * need := by
  unfold Builtin.nextslicecap
  split
  · omega
  · split
    · omega
    · have key : ∀ r c, c < 2 * need → (c < need → 256 ≤ c) → Builtin.growBy need r c ≤ 2 * need := by
        intro r
        induction r with
        | zero => intro c hc _; simp only [Builtin.growBy]; omega
        | succ r ih =>
          intro c hc h256
          simp only [Builtin.growBy]
          split
          · omega
          · rename_i hlt
            have := h256 (by omega)
            exact ih _ (by omega) (by omega)
      exact key 4 cap (by omega) (by omega)

theorem zerosL_eq (z : List Value) : ∀ n, zerosL z n = repL z n
  | 0 => rfl
  | n + 1 => by simp only [zerosL, List.replicate_succ, List.flatten_cons, repL]; rw [← zerosL_eq z n, zerosL]

theorem zeroCells_eq (z : Array Value) (n : Nat) : Builtin.zeroCells z n = (zerosL z.toList n).toArray := by
  rw [zerosL_eq]
  have := zeros_arr z.toList n z.size (by simp)
  unfold Builtin.zeroCells
  rw [← this]

theorem maxI64 : IntKind.i64.max = 9223372036854775807 := by decide

/-- Append: what the run comes to. -/
theorem run_append (ok : tb.Ok P) {t t' u rt n : Nat} {y e e' : Ty} {l : Sl} {x : Value} {new : List Value} {K : Sl → Hp → Prop} {w : World}
    (hy : tb.ty t = some y) (hu : y.und = .slice u) (hg : tb.ty u = some e) (hy' : tb.ty t' = some e') (hnint : ∀ k, e'.und ≠ .int k)
    (hs : Sub h w) (ha : AppCells e.size e.bytes (cellsL e.zero) l n new K h) (hlen : ∀ w : World, (Builtin.lenOf x).run P w = .ok n w)
    (hnew : ∀ w : World, Sub h w → (Builtin.firstCells e.size n x).run P w = .ok new.toArray w) (hnl : new.length = n * e.size) :
    ∃ r h' w', (Builtin.append_ #[t, t'] rt #[.slice l.base l.len l.cap, x]).run P w = .ok (.slice r.base r.len r.cap) w' ∧ K r h' ∧ Step h h' w w' := by
  obtain ⟨old, hold, ⟨hbn, hbd⟩, hokc, hin, hgrow⟩ := ha
  have h1 := fun w => run_underlying' ok hy w
  have h2 := fun w => run_underlying' ok hy' w
  have h3 := fun w => run_sizeOf' ok hg w
  have h5 := fun w => run_zeroValue' ok hg w
  obtain ⟨i, hi, _, hib, _⟩ := ok.info u e hg
  have h4 : ∀ w, (typeInfo u).run P w = .ok i w := fun w => by simp [typeInfo, hi]
  have hz : (match e'.und with | .int _ => true | _ => false) = false := by
    generalize e'.und = d at hnint
    cases d <;> first | rfl | exact absurd rfl (hnint _)
  simp only [hu] at h1
  by_cases hle : l.len + n ≤ l.cap
  · obtain ⟨hst, hk⟩ := hin hle
    cases hb : l.base with
    | none =>
      refine ⟨_, _, w, ?_, hk, ?_⟩
      · simp [Builtin.append_, h1, h2, h3, hz, hlen, hle, hnew w hs, hb]
      · simp only [putO, hb]; exact .refl hs
    | some a =>
      obtain ⟨w', hr, hstep⟩ := run_storeCells (P := P) new 0 h w hs hokc (a := a.add (l.len * e.size)) (fun j hj => by
        have := stOk_get (hst a hb) j (by omega)
        simpa using this)
      refine ⟨_, _, w', ?_, hk, ?_⟩
      · simp [Builtin.append_, h1, h2, h3, hz, hlen, hle, hnew w hs, hb, hr]
      · simp only [putO, hb]; exact hstep
  · have hlt : l.cap < l.len + n := by omega
    have hcap := slicecap_le hlt
    have hby : ¬ (Builtin.nextslicecap (l.len + n) l.cap * e.bytes > 281474976710656) := by
      have : Builtin.nextslicecap (l.len + n) l.cap * e.bytes ≤ 2 * (l.len + n) * e.bytes := Nat.mul_le_mul_right _ hcap
      have h' : 2 * (l.len + n) * e.bytes = 2 * ((l.len + n) * e.bytes) := by rw [Nat.mul_assoc]
      omega
    have hmax : ¬ (((l.len + n : Nat) : Int) > IntKind.i64.max) := by rw [maxI64]; omega
    have hw1 : Sub h { w with drawn := w.drawn + 1 } := hs
    have hold' : ∀ w : World, Sub h w → (Builtin.firstCells e.size l.len (.slice l.base l.len l.cap)).run P w = .ok old.toArray w := fun w hs => rd_cells hs hold rfl
    let c := (Question.appendCap (l.len + n) l.cap u).cut (w.tape w.drawn (.appendCap (l.len + n) l.cap u))
    have hc : l.len + n ≤ c := by simp only [c, Question.cut]; omega
    have hrow : (old.toArray ++ new.toArray ++ Builtin.zeroCells e.zero.cells (c - (l.len + n))) = (old ++ new ++ zerosL (cellsL e.zero) (c - (l.len + n))).toArray := by
      rw [zeroCells_eq, cells_list]; simp
    obtain ⟨hn, hst⟩ := step_new hw1 (.cells (old ++ new ++ zerosL (cellsL e.zero) (c - (l.len + n))).toArray u)
    refine ⟨_, _, _, ?_, hgrow hlt c _ u hc hn, hst.drew⟩
    have hmax' : ¬ (9223372036854775807 < (l.len : Int) + (n : Int)) := by omega
    have hw2 : Sub h w.drew := hs
    have hby' : ¬ (281474976710656 < Builtin.nextslicecap (l.len + n) l.cap * i.bytes) := by rw [hib]; omega
    have hrow' : old.toArray ++ (new.toArray ++ Builtin.zeroCells e.zero.cells (c - (l.len + n))) = (old ++ (new ++ zerosL (cellsL e.zero) (c - (l.len + n)))).toArray := by
      rw [← Array.append_assoc, hrow, List.append_assoc]
    simp [Builtin.append_, h1, h2, h3, h4, h5, hz, hlen, Nat.not_le.2 hlt, hmax', hby', Question.forced, hold' _ hw2, hnew _ hw2, run_newRow]
    refine ⟨rfl, ?_⟩
    rw [← hrow']
    rfl

theorem zerosL_len (z : List Value) (n : Nat) : (zerosL z n).length = n * z.length := by simp [zerosL]

/-- Append of zero values: what the run comes to. -/
theorem run_appendZ (ok : tb.Ok P) {t t' u rt : Nat} {m : Int} {y e e' : Ty} {l : Sl} {K : Sl → Hp → Prop} {w : World}
    (hy : tb.ty t = some y) (hu : y.und = .slice u) (hg : tb.ty u = some e) (hy' : tb.ty t' = some e') (hint : e'.und = .int .i64)
    (hs : Sub h w) (hm : 0 ≤ m) (ha : AppCells e.size e.bytes (cellsL e.zero) l m.toNat (zerosL (cellsL e.zero) m.toNat) K h) :
    ∃ r h' w', (Builtin.append_ #[t, t'] rt #[.slice l.base l.len l.cap, .int .i64 m]).run P w = .ok (.slice r.base r.len r.cap) w' ∧ K r h' ∧ Step h h' w w' := by
  obtain ⟨old, hold, ⟨hbn, hbd⟩, hokc, hin, hgrow⟩ := ha
  have h1 := fun w => run_underlying' ok hy w
  have h2 := fun w => run_underlying' ok hy' w
  have h3 := fun w => run_sizeOf' ok hg w
  have h5 := fun w => run_zeroValue' ok hg w
  obtain ⟨i, hi, _, hib, _⟩ := ok.info u e hg
  have h4 : ∀ w, (typeInfo u).run P w = .ok i w := fun w => by simp [typeInfo, hi]
  simp only [hu] at h1
  simp only [hint] at h2
  have hzl := ok.zlen u e hg
  have hwm : IntKind.i64.wrap m = m := by
    unfold IntKind.wrap
    simp only [IntKind.signed, IntKind.bits]
    first | omega | (simp; omega)
  have hneg : ¬ m < 0 := by omega
  obtain ⟨n, rfl⟩ := Int.eq_ofNat_of_zero_le hm
  have hmn : ((n : Int)).toNat = n := by omega
  rw [hmn] at hbn hbd hokc hin hgrow
  have hbig : ¬ ((n : Int) * (i.bytes : Int) > 281474976710656) := by
    rw [hib]
    have : n * e.bytes ≤ (l.len + n) * e.bytes := Nat.mul_le_mul_right _ (by omega)
    have : n * e.bytes ≤ 140737488355328 := by omega
    have h' : ((n : Int) * (e.bytes : Int)) = ((n * e.bytes : Nat) : Int) := by simp
    rw [h']
    omega
  have hbig' : ¬ (281474976710656 < (n : Int) * (i.bytes : Int)) := by omega
  have happ : ∀ w : World, (if n * e.size = 0 then (pure #[] : Sem (Array Value)) else do pure (Builtin.zeroCells (← zeroValue u).cells n)).run P w = .ok (zerosL (cellsL e.zero) n).toArray w := by
    intro w
    by_cases h0 : n * e.size = 0
    · have : zerosL (cellsL e.zero) n = [] := List.length_eq_zero_iff.1 (by rw [zerosL_len, hzl]; exact h0)
      rw [if_pos h0, this]
      rfl
    · rw [if_neg h0]
      simp only [Sem.run_bind, h5, Result.andThen_ok, Sem.run_pure]
      congr 1
      rw [zeroCells_eq, cells_list]
  have hasI : ∀ w : World, (asInt (.int .i64 (n : Int))).run P w = .ok (n : Int) w := fun w => rfl
  have hnn : ¬ (n : Int) < 0 := by omega
  have hzc : Builtin.zeroCells e.zero.cells n = (zerosL (cellsL e.zero) n).toArray := by rw [zeroCells_eq, cells_list]
  have hz0 : n * e.size = 0 → zerosL (cellsL e.zero) n = [] := fun h0 => List.length_eq_zero_iff.1 (by rw [zerosL_len, hzl]; exact h0)
  by_cases hle : l.len + n ≤ l.cap
  · obtain ⟨hst, hk⟩ := hin hle
    cases hb : l.base with
    | none =>
      refine ⟨_, _, w, ?_, hk, ?_⟩
      · by_cases h0 : n * e.size = 0
        · simp [Builtin.append_, h1, h2, h3, h4, hasI, hwm, hnn, hbig', hle, h0, hb]
        · simp [Builtin.append_, h1, h2, h3, h4, h5, hasI, hwm, hnn, hbig', hle, h0, hb]
      · simp only [putO, hb]; exact .refl hs
    | some a =>
      obtain ⟨w', hr, hstep⟩ := run_storeCells (P := P) (zerosL (cellsL e.zero) n) 0 h w hs hokc (a := a.add (l.len * e.size)) (fun j hj => by
        have := stOk_get (hst a hb) j (by rw [zerosL_len, hzl] at hj; exact hj)
        simpa using this)
      refine ⟨_, _, w', ?_, hk, ?_⟩
      · by_cases h0 : n * e.size = 0
        · rw [hz0 h0] at hr
          simp [Builtin.append_, h1, h2, h3, h4, hasI, hwm, hnn, hbig', hle, h0, hb, hr]
        · simp [Builtin.append_, h1, h2, h3, h4, h5, hasI, hwm, hnn, hbig', hle, h0, hzc, hb, hr]
      · simp only [putO, hb]; exact hstep
  · have hlt : l.cap < l.len + n := by omega
    have hcap := slicecap_le hlt
    have hby : ¬ (Builtin.nextslicecap (l.len + n) l.cap * e.bytes > 281474976710656) := by
      have : Builtin.nextslicecap (l.len + n) l.cap * e.bytes ≤ 2 * (l.len + n) * e.bytes := Nat.mul_le_mul_right _ hcap
      have h' : 2 * (l.len + n) * e.bytes = 2 * ((l.len + n) * e.bytes) := by rw [Nat.mul_assoc]
      omega
    have hw1 : Sub h { w with drawn := w.drawn + 1 } := hs
    have hold' : ∀ w : World, Sub h w → (Builtin.firstCells e.size l.len (.slice l.base l.len l.cap)).run P w = .ok old.toArray w := fun w hs => rd_cells hs hold rfl
    let c := (Question.appendCap (l.len + n) l.cap u).cut (w.tape w.drawn (.appendCap (l.len + n) l.cap u))
    have hc : l.len + n ≤ c := by simp only [c, Question.cut]; omega
    have hrow : (old.toArray ++ (zerosL (cellsL e.zero) n).toArray ++ Builtin.zeroCells e.zero.cells (c - (l.len + n))) = (old ++ zerosL (cellsL e.zero) n ++ zerosL (cellsL e.zero) (c - (l.len + n))).toArray := by
      rw [zeroCells_eq, cells_list]; simp
    obtain ⟨hn, hst⟩ := step_new hw1 (.cells (old ++ zerosL (cellsL e.zero) n ++ zerosL (cellsL e.zero) (c - (l.len + n))).toArray u)
    refine ⟨_, _, _, ?_, hgrow hlt c _ u hc hn, hst.drew⟩
    have hmax' : ¬ (9223372036854775807 < (l.len : Int) + (n : Int)) := by omega
    have hw2 : Sub h w.drew := hs
    have hby' : ¬ (281474976710656 < Builtin.nextslicecap (l.len + n) l.cap * i.bytes) := by rw [hib]; omega
    have hrow' : old.toArray ++ ((zerosL (cellsL e.zero) n).toArray ++ Builtin.zeroCells e.zero.cells (c - (l.len + n))) = (old ++ (zerosL (cellsL e.zero) n ++ zerosL (cellsL e.zero) (c - (l.len + n)))).toArray := by
      rw [← Array.append_assoc, hrow, List.append_assoc]
    have hzc' : ∀ k, Builtin.zeroCells e.zero.cells k = (zerosL (cellsL e.zero) k).toArray := fun k => by rw [zeroCells_eq, cells_list]
    by_cases h0 : n * e.size = 0
    · simp only [hz0 h0] at hrow' ⊢
      simp [Builtin.append_, h1, h2, h3, h4, h5, hasI, hwm, hnn, hbig', Nat.not_le.2 hlt, maxI64, hmax', hby', Question.forced, hold' _ hw2, h0, run_newRow, hzc']
      exact ⟨rfl, rfl⟩
    · simp [Builtin.append_, h1, h2, h3, h4, h5, hasI, hwm, hnn, hbig', Nat.not_le.2 hlt, maxI64, hmax', hby', Question.forced, hold' _ hw2, h0, run_newRow, hzc']
      exact ⟨rfl, rfl⟩

theorem rdCells_len {base : Option Addr} {n : Nat} {cs : List Value} (h' : RdCells h base n cs) : cs.length = n := h'.1

theorem eff_append (ok : tb.Ok P) {xs : Array Operand} {ts : Array TypeId} (hop : o.op = .call { callee := .builtin .append, args := xs, argTypes := ts }) {vs : List Value} (hvs : vals s ch xs.toList = some vs)
    (hv : appW tb (cnd s ch) ts.toList vs h K) : EffOk P o ch s h K := by
  have hargs : holds s ch → ∀ (β : Nat → Nat) (ρ : Operand → Value), (∀ x ∈ o.op.operands, Opnd β s ρ x) → xs.map ρ = vs.toArray := by
    intro hh β ρ ho
    have := vals_ok (β := β) (ρ := ρ) hh hvs fun x hx => ho x (by simp [hop, Op.operands, Call.operands]; simpa using hx)
    apply Array.ext'; simpa using this
  unfold appW at hv
  split at hv
  · rename_i p n c p' n' c' t t' hts

    have hts' : ts = #[t, t'] := by apply Array.ext'; simpa using hts
    split at hv
    · rename_i e e' hel hel'
      obtain ⟨y, u, hy, hu, hg⟩ := elemS_some hel
      obtain ⟨y', u', hy', hu', hg'⟩ := elemS_some hel'
      refine eff_value (f := fun (l : Sl) => .slice l.base l.len l.cap) hv fun hh β ρ w ho hs K hk => ?_
      obtain ⟨new, hnew, happ⟩ := hk
      obtain ⟨r, h', w', hr, hk', hst⟩ := run_append (P := P) (rt := o.type) (x := .slice p' n' c') (l := ⟨p, n, c⟩) ok hy hu hg hy' (by rw [hu']; intro k h; cases h) hs happ (fun w => rfl)
        (fun w hs => rd_cells hs hnew rfl) hnew.1
      refine ⟨r, h', w', ?_, hk', hst⟩
      simp only [execOp, hop, resolve, invoke, builtin, Sem.run_bind, Sem.run_pure, Result.andThen_ok, hargs hh β ρ ho, hts', hr]
    · exact hv.elim
  · rename_i p n c x t t' hts
    have hts' : ts = #[t, t'] := by apply Array.ext'; simpa using hts
    split at hv
    · rename_i e e' hel he'
      obtain ⟨y, u, hy, hu, hg⟩ := elemS_some hel
      split at hv
      · rename_i hu8 hstr
        cases hb1 : Nat.beq e.bytes 1 with
        | false => simp [hb1] at hv
        | true =>
          simp only [hb1, cond_true] at hv
          have hb1' := Nat.eq_of_beq_eq_true hb1
          have hsz : e.size = 1 := (ok.leaf u e hg (by rw [hu8]; rfl)).1
          refine eff_value (f := fun (l : Sl) => .slice l.base l.len l.cap) hv fun hh β ρ w ho hs K hk => ?_
          have hz : cellsL e.zero = [.int .u8 0] := ok.zero8 u e hg hu8
          have happ : AppCells e.size e.bytes (cellsL e.zero) ⟨p, n, c⟩ x.size (bytesL x) K h := by rw [hsz, hb1', hz]; exact hk
          obtain ⟨r, h', w', hr, hk', hst⟩ := run_append (P := P) (rt := o.type) (x := .string x) (l := ⟨p, n, c⟩) ok hy hu hg he' (by rw [hstr]; intro k h; cases h) hs happ (fun w => rfl)
            (fun w hs => by
              have : (x.extract 0 x.size) = x := by simp
              simp only [Builtin.firstCells, this, Sem.run_pure]
              congr 1
              apply Array.ext'
              simp [bytesL]) (by simp [bytesL, hsz])
          refine ⟨r, h', w', ?_, hk', hst⟩
          simp only [execOp, hop, resolve, invoke, builtin, Sem.run_bind, Sem.run_pure, Result.andThen_ok, hargs hh β ρ ho, hts', hr]
      · exact hv.elim
    · exact hv.elim
  · rename_i p n c m t t' hts
    have hts' : ts = #[t, t'] := by apply Array.ext'; simpa using hts
    split at hv
    · rename_i e e' hel he'
      obtain ⟨y, u, hy, hu, hg⟩ := elemS_some hel
      split at hv
      · rename_i hint
        refine eff_value (f := fun (l : Sl) => .slice l.base l.len l.cap) hv fun hh β ρ w ho hs K hk => ?_
        obtain ⟨hm, happ⟩ := hk
        obtain ⟨r, h', w', hr, hk', hst⟩ := run_appendZ (P := P) (rt := o.type) (l := ⟨p, n, c⟩) ok hy hu hg he' hint hs hm happ
        refine ⟨r, h', w', ?_, hk', hst⟩
        simp only [execOp, hop, resolve, invoke, builtin, Sem.run_bind, Sem.run_pure, Result.andThen_ok, hargs hh β ρ ho, hts', hr]
      · exact hv.elim
    · exact hv.elim
  · exact hv.elim

theorem eff_copy (ok : tb.Ok P) {xs : Array Operand} {ts : Array TypeId} (hop : o.op = .call { callee := .builtin .copy, args := xs, argTypes := ts }) {p p' : Option Addr} {n n' c c' : Nat} {t t' : Nat}
    (hvs : vals s ch xs.toList = some [.slice p n c, .slice p' n' c']) (hts : ts.toList = [t, t']) {e : Ty} (hel : elemS tb t = some e)
    (hv : EffC (cnd s ch) (CopyW e.size ⟨p, n, c⟩ ⟨p', n', c'⟩) (fun k h' => K (.v (.int .i64 k)) h') h) : EffOk P o ch s h K := by
  have hargs : holds s ch → ∀ (β : Nat → Nat) (ρ : Operand → Value), (∀ x ∈ o.op.operands, Opnd β s ρ x) → xs.map ρ = #[.slice p n c, .slice p' n' c'] := by
    intro hh β ρ ho
    have := vals_ok (β := β) (ρ := ρ) hh hvs fun x hx => ho x (by simp [hop, Op.operands, Call.operands]; simpa using hx)
    apply Array.ext'; simpa using this
  have hts' : ts = #[t, t'] := by apply Array.ext'; simpa using hts
  obtain ⟨y, u, hy, hu, hg⟩ := elemS_some hel
  refine eff_value (f := fun (k : Int) => .int .i64 k) hv fun hh β ρ w ho hs K hk => ?_
  obtain ⟨new, hnew, hokc, hst, hk'⟩ := hk
  have h1 := fun w => run_underlying' ok hy w
  have h3 := fun w => run_sizeOf' ok hg w
  rw [hu] at h1
  have hmin : Nat.min n' n = min n' n := rfl
  have hrd : (Builtin.firstCells e.size (min n' n) (.slice p' n' c')).run P w = .ok new.toArray w := by
    have := rd_cells (P := P) (m := min n' n) (c := c') hs hnew rfl
    cases p' <;> exact this
  cases hp : p with
  | none =>
    subst hp
    refine ⟨_, _, w, ?_, hk', by simp only [putO]; exact .refl hs⟩
    simp only [execOp, hop, resolve, invoke, builtin, Sem.run_bind, Sem.run_pure, Result.andThen_ok, hargs hh β ρ ho, hts']
    simp [Builtin.copy_, h1, h3, Builtin.lenOf, hmin, hrd, goInt]
  | some a =>
    subst hp
    obtain ⟨w', hr, hstep⟩ := run_storeCells (P := P) (a := a) new 0 h w hs hokc (fun j hj => by
      have := stOk_get (hst a rfl) j (by rw [hnew.1] at hj; exact hj)
      simpa using this)
    refine ⟨_, _, w', ?_, hk', by simp only [putO, show a.add 0 = a from by simp [Addr.add]]; exact hstep⟩
    simp only [execOp, hop, resolve, invoke, builtin, Sem.run_bind, Sem.run_pure, Result.andThen_ok, hargs hh β ρ ho, hts']
    simp [Builtin.copy_, h1, h3, Builtin.lenOf, hmin, hrd, goInt, hr]

theorem eff_make (ok : tb.Ok P) {t : Nat} {x y : Operand} (hop : o.op = .makeSlice t x y) {m n : Int} {e : Ty} (hex : ev s ch x = some (.v (.int .i64 m))) (hey : ev s ch y = some (.v (.int .i64 n)))
    (hel : elemS tb t = some e) (hv : EffC (cnd s ch) (MakeW e.bytes (cellsL e.zero) m n) (fun l h' => K (.v (.slice l.base l.len l.cap)) h') h) : EffOk P o ch s h K := by
  obtain ⟨y', u, hy, hu, hg⟩ := elemS_some hel
  refine eff_value (f := fun (l : Sl) => .slice l.base l.len l.cap) hv fun hh β ρ w ho hs K hk => ?_
  obtain ⟨⟨h0, hle, hc1, hc2⟩, hk'⟩ := hk
  have hx : ρ x = _ := ev_ok (ho x (by simp [hop, Op.operands])) hh hex
  have hy2 : ρ y = _ := ev_ok (ho y (by simp [hop, Op.operands])) hh hey
  have h1 := run_underlying' ok hy w
  rw [hu] at h1
  have h3 := fun w => run_sizeOf' ok hg w
  have h5 := fun w => run_zeroValue' ok hg w
  obtain ⟨i, hi, _, hib, _⟩ := ok.info u e hg
  have h4 : ∀ w, (typeInfo u).run P w = .ok i w := fun w => by simp [typeInfo, hi]
  have hzl := ok.zlen u e hg
  have wm : IntKind.i64.wrap m = m := by simp [IntKind.wrap, IntKind.bits, IntKind.signed]; omega
  have wn : IntKind.i64.wrap n = n := by simp [IntKind.wrap, IntKind.bits, IntKind.signed]; omega
  have hc2' : ¬ ((e.bytes : Int) * n > 281474976710656) := by
    have e1 : ((n.toNat * e.bytes : Nat) : Int) = (e.bytes : Int) * n := by
      rw [Int.natCast_mul, Int.toNat_of_nonneg (by omega), Int.mul_comm]
    omega
  obtain ⟨hn, hst⟩ := step_new hs (.cells (zerosL (cellsL e.zero) n.toNat).toArray u)
  refine ⟨_, _, _, ?_, hk' _ u hn, hst⟩
  have g1 : ¬ n < 0 := by omega
  have g2 : ¬ m < 0 := by omega
  have g3 : ¬ m > n := by omega
  have hcond : ((n < 0 || decide ((e.bytes : Int) * n > 2 ^ 48)) || decide (m < 0) || decide (m > n)) = false := by
    simp [g1, g2, g3]; omega
  have hrow : (if n.toNat * e.size = 0 then (#[] : Array Value) else e.zero.cells) = e.zero.cells ∨ n.toNat * e.size = 0 := by
    by_cases h : n.toNat * e.size = 0
    · exact .inr h
    · exact .inl (by simp [h])
  have hz : (Array.range (n.toNat * e.size)).map (fun i => e.zero.cells[i % e.zero.cells.size]!) = (zerosL (cellsL e.zero) n.toNat).toArray := by
    have := zeros_arr (cellsL e.zero) n.toNat e.size hzl
    rw [zerosL_eq, ← this]
    have e2 : e.zero.cells = (cellsL e.zero).toArray := by apply Array.ext'; simp [cells_list]
    rw [e2]
  simp only [execOp, hop, hx, hy2, LVal, Instr.makeSlice, Sem.run_bind, h1, Result.andThen_ok, asInt, asIntOf, Sem.run_pure, h4, wm, wn, hib]
  have hb : ((n < 0 || decide ((e.bytes : Int) * n > 2 ^ 48)) || decide (m < 0) || decide (m > n)) = false := hcond
  simp only [hb, Bool.false_eq_true, if_false, Sem.run_bind, run_askRoom, Result.andThen_ok, h3]
  by_cases h00 : n.toNat * e.size = 0
  · have hz0 : (zerosL (cellsL e.zero) n.toNat).toArray = #[] := by rw [← hz, h00]; simp
    simp [h00, hz0, run_newRow]
    have : ∀ g : Nat → Value, Array.map g (Array.range 0) = #[] := fun g => by apply Array.ext'; simp
    rw [this]
  · simp [h00, h5, run_newRow, hz]

end
end Lf
