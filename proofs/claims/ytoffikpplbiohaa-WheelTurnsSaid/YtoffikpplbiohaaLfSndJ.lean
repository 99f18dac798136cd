/-
  The lifting layer, part 14: maps, calls; whatever is told of an operation is so.
-/
import Derived.Test.YtoffikpplbiohaaLfSndI
namespace Lf
open Go

section
variable {P : Program} {tb : Tb} {o : Oper} {ch : Chain} {s : St} {h : Hp} {K : LV → Hp → Prop}

/-- One that has no result. -/
theorem eff_skip {α : Type} {A : (α → Hp → Prop) → Hp → Prop} (he : EffC (cnd s ch) A (fun _ h' => K (.v (.tuple #[])) h') h)
    (hr : holds s ch → ∀ (β : Nat → Nat) (ρ : Operand → Value) (w : World), (∀ x ∈ o.op.operands, Opnd β s ρ x) → Sub h w → ∀ (K : α → Hp → Prop), A K h →
      ∃ x h' w', (execOp ρ o).run P w = .ok .skip w' ∧ K x h' ∧ Step h h' w w') : EffOk P o ch s h K := by
  obtain ⟨h1, h2⟩ := effC_none he
  refine ⟨fun hh β a w ho hs next Q hn => ?_, fun hn => ?_⟩
  · obtain ⟨x, h', w', hr, hk, hst⟩ := hr hh β a.eval w ho hs _ (h1 hh)
    unfold Oper.wp
    rw [hr, Oper.upon_skip]
    exact hn _ _ _ hk hst
  · obtain ⟨x, hx⟩ := h2 hn
    exact ⟨_, hx⟩

theorem eff_gen {t : Nat} {sem : Sem Value} (hv : genE (cnd s ch) P tb t sem K h)
    (hx : holds s ch → ∀ (β : Nat → Nat) (ρ : Operand → Value), (∀ x ∈ o.op.operands, Opnd β s ρ x) → ∀ (w w' : World) (v : Value), sem.run P w = .ok v w' → (execOp ρ o).run P w = .ok (.value v) w') :
    EffOk P o ch s h K := by
  unfold genE at hv
  split at hv
  · rename_i e he
    refine eff_value (f := e.sh.enc) hv fun hh β ρ w ho hs K hk => ?_
    obtain ⟨v, w', h', hr, ⟨x, hvx, hkx⟩, hst⟩ := semW_sound sem hs hk
    subst hvx
    exact ⟨x, h', w', hx hh β ρ ho w w' _ hr, hkx, hst⟩
  · exact hv.elim

theorem bytes_beq {a b : ByteArray} (h : (a == b) = true) : (b == a) = true := by
  have : a = b := by
    cases a; cases b
    congr
    exact eq_of_beq h
  subst this
  exact h

theorem same_bits {kd : TypeDesc} {a b : Value} {n : Nat} (hk : isKeyD kd = true) (h : Instr.sameNow kd a b = some true) : Instr.sameBits n b a = true := by
  cases kd with
  | bool =>
    cases a <;> cases b <;> simp only [Instr.sameNow] at h <;> try (cases h; done)
    injection h with h
    have : ∀ x y : Bool, (x == y) = true → (y == x) = true := by decide
    cases n <;> exact this _ _ h
  | int k =>
    cases a <;> cases b <;> simp only [Instr.sameNow] at h <;> try (cases h; done)
    split at h
    · injection h with h
      have hxy := eq_of_beq h
      subst hxy
      rename_i hkk
      cases n <;> simp_all [Instr.sameBits]
    · cases h
  | string =>
    cases a <;> cases b <;> simp only [Instr.sameNow] at h <;> try (cases h; done)
    injection h with h
    cases n <;> exact bytes_beq h
  | _ => simp [isKeyD] at hk

theorem findNow_get {kd : TypeDesc} {k : Value} : ∀ {es : List MapEntry} {j i : Nat} {u : Value}, Instr.findNow kd k es j = some (some (i, u)) →
    j ≤ i ∧ ∃ e, es[i - j]? = some e ∧ e.val = u ∧ Instr.sameNow kd k e.key = some true
  | [], j, i, u, h => by simp [Instr.findNow] at h
  | e :: es, j, i, u, h => by
    simp only [Instr.findNow] at h
    split at h
    · rename_i hs
      simp at h
      obtain ⟨rfl, rfl⟩ := h
      exact ⟨Nat.le_refl _, e, by simp, rfl, hs⟩
    · obtain ⟨hle, e', he, hu, hs⟩ := findNow_get h
      refine ⟨by omega, e', ?_, hu, hs⟩
      rw [show i - j = (i - (j + 1)) + 1 from by omega]
      simpa using he
    · cases h

theorem run_setObj {r : Nat} {o o' : Obj} {w : World} (hb : w.heap[r]? = some o') (hc : isCells o' = false) : (setObj r o).run P w = .ok () { w with heap := w.heap.setIfInBounds r o } := by
  simp only [setObj, Sem.run, hb]
  cases o' <;> first | rfl | simp [isCells] at hc

theorem run_mapSet (ok : tb.Ok P) {t k u : Nat} {e ke : Ty} {m : Option Nat} {b v : Value} {w : World} {K : Hp → Prop} (he : tb.ty t = some e) (hu : e.und = .map k u)
    (hk : tb.ty k = some ke) (hkd : isKeyD ke.und = true) (hs : Sub h w) (hm : MapSetW ke.und m b v K h) :
    ∃ h' w', (Instr.mapUpdate t (.map m) b v).run P w = .ok () w' ∧ K h' ∧ Step h h' w w' := by
  obtain ⟨r, es, ck, rfl, hr, hf⟩ := hm
  have hun := run_underlying' ok he w
  rw [hu] at hun
  have hb := hs r _ hr
  rcases hf with ⟨hf, hK⟩ | ⟨i, x, hf, hK⟩
  · refine ⟨_, _, ?_, hK, step_set hs hr⟩
    simp only [Instr.mapUpdate, Sem.run_bind, hun, Result.andThen_ok, run_getMap hb, run_checkKey ok hk hkd, run_findKey ok hk hf, run_setObj hb rfl]
  · refine ⟨_, _, ?_, hK, step_set hs hr⟩
    obtain ⟨_, en, hen, _, hsn⟩ := findNow_get hf
    have hen' : es[i]? = some en := by simpa using hen
    have hsb := same_bits (n := 10000) hkd hsn
    simp only [Instr.mapUpdate, Sem.run_bind, hun, Result.andThen_ok, run_getMap hb, run_checkKey ok hk hkd, run_findKey ok hk hf, hen', Option.map_some, Option.getD_some, Instr.keyThatStays, hsb, if_true, Sem.run_pure,
      run_setObj hb rfl]

theorem run_mapDel (ok : tb.Ok P) {t k u rt : Nat} {t' : TypeId} {e ke : Ty} {m : Option Nat} {b : Value} {w : World} {K : Hp → Prop} (he : tb.ty t = some e) (hu : e.und = .map k u)
    (hk : tb.ty k = some ke) (hkd : isKeyD ke.und = true) (hs : Sub h w) (hm : MapDelW ke.und m b K h) :
    ∃ h' w', (Builtin.delete_ #[t, t'] rt #[.map m, b]).run P w = .ok (.tuple #[]) w' ∧ K h' ∧ Step h h' w w' := by
  have hun := run_underlying' ok he w
  rw [hu] at hun
  rcases hm with ⟨rfl, hK⟩ | ⟨r, es, ck, rfl, hr, hf⟩
  · refine ⟨_, w, ?_, hK, .refl hs⟩
    simp [Builtin.delete_, hun, run_checkKey ok hk hkd]
  · have hb := hs r _ hr
    rcases hf with ⟨hf, hK⟩ | ⟨i, x, hf, hK⟩
    · refine ⟨_, _, ?_, hK, step_set hs hr⟩
      simp [Builtin.delete_, hun, run_getMap hb, run_checkKey ok hk hkd, run_findKey ok hk hf, run_setObj hb rfl]
    · refine ⟨_, _, ?_, hK, step_set hs hr⟩
      simp [Builtin.delete_, hun, run_getMap hb, run_checkKey ok hk hkd, run_findKey ok hk hf, run_setObj hb rfl]

theorem eff_mapSet (ok : tb.Ok P) {t : Nat} {x y z : Operand} (hop : o.op = .mapUpdate t x y z ∨ o.op = .insert t x y z)
    (hv : mapSetW P tb (cnd s ch) t (ev s ch x) (ev s ch y) (ev s ch z) K h) : EffOk P o ch s h K := by
  obtain ⟨a, hea, hv1⟩ := onV_some hv
  obtain ⟨b, heb, hv2⟩ := onV_some hv1
  obtain ⟨v, hev, hv3⟩ := onV_some hv2
  clear hv hv1 hv2
  have run : holds s ch → ∀ (β : Nat → Nat) (ρ : Operand → Value), (∀ x ∈ o.op.operands, Opnd β s ρ x) → ∀ (w w' : World), (Instr.mapUpdate t a b v).run P w = .ok () w' → (execOp ρ o).run P w = .ok .skip w' := by
    intro hh β ρ ho w w' hr
    have hx : ρ x = _ := ev_ok (ho x (by rcases hop with h | h <;> simp [h, Op.operands])) hh hea
    have hy : ρ y = _ := ev_ok (ho y (by rcases hop with h | h <;> simp [h, Op.operands])) hh heb
    have hz : ρ z = _ := ev_ok (ho z (by rcases hop with h | h <;> simp [h, Op.operands])) hh hev
    rcases hop with h | h <;> simp only [execOp, h, hx, hy, hz, LVal, Sem.run_bind, hr, Result.andThen_ok, Sem.run_pure]
  split at hv3
  · rename_i m e he
    split at hv3
    · rename_i k u hu
      split at hv3
      · rename_i ke hk
        cases hkd : isKeyD ke.und with
        | true =>
          simp only [hkd, cond_true] at hv3
          refine eff_skip hv3 fun hh β ρ w ho hs K hk' => ?_
          obtain ⟨h', w', hr, hK, hst⟩ := run_mapSet ok he hu hk hkd hs hk'
          exact ⟨(), h', w', run hh β ρ ho w w' hr, hK, hst⟩
        | false =>
          simp only [hkd, cond_false] at hv3
          refine eff_skip hv3 fun hh β ρ w ho hs K hk' => ?_
          obtain ⟨u', w', h', hr, hK, hst⟩ := semW_sound _ hs hk'
          exact ⟨(), h', w', run hh β ρ ho w w' hr, hK, hst⟩
      · exact hv3.elim
    · exact hv3.elim
  · exact hv3.elim

/-- A call: the callee's part. -/
theorem call_wp (ok : tb.Ok P) {f : Operand} {xs : Array Operand} {ats : Array TypeId} {g : FuncId} {first captured : Array Value} {vs : List Value} {e : Ty} {a : Act} {w : World}
    (hop : o.op = .call { callee := .value f, args := xs, argTypes := ats }) (hg : tb.call g = true) (hf : a.eval f = .func (.func g) first captured) (hxs : xs.map a.eval = vs.toArray)
    {K' : e.sh.T → Hp → Prop} (hc : CallT P g (first.toList ++ vs ++ captured.toList) e.sh K' h) (hs : Sub h w) {next : Act → World → Prop} {Q : Exit → Act → World → Prop}
    (hn : ∀ x h' w', K' x h' → Step h h' w w' → next (a.put o.dst (e.sh.enc x)) w') : o.wp P a w next Q := by
  have hrun : (execOp a.eval o).run P w = .ok (.enter g (first.toList ++ vs ++ captured.toList).toArray) w := by
    have hargs : first ++ vs.toArray ++ captured = (first.toList ++ vs ++ captured.toList).toArray := by apply Array.ext'; simp
    simp only [execOp, hop, resolve, Deferred.ofValue, hf, hxs, Sem.run_bind, Sem.run_pure, Result.andThen_ok, invoke, hargs]
    exact ok.call g hg _ w
  unfold Oper.wp
  rw [hrun, Oper.upon_enter]
  refine (hc w hs).mono ?_
  rintro en w' ⟨v, h', rfl, ⟨x, rfl, hk⟩, hst⟩
  exact hn x h' w' hk hst

theorem effC_call {α : Type} {A : (α → Hp → Prop) → Hp → Prop} {f : α → Value} (he : EffC (cnd s ch) A (fun x h' => K (.v (f x)) h') h)
    (hr : holds s ch → ∀ (β : Nat → Nat) (a : Act) (w : World), (∀ x ∈ o.op.operands, Opnd β s a.eval x) → Sub h w → ∀ (K : α → Hp → Prop), A K h → ∀ (next : Act → World → Prop) (Q : Exit → Act → World → Prop),
      (∀ x h' w', K x h' → Step h h' w w' → next (a.put o.dst (f x)) w') → o.wp P a w next Q) : EffOk P o ch s h K := by
  obtain ⟨h1, h2⟩ := effC_none he
  refine ⟨fun hh β a w ho hs next Q hn => ?_, fun hn => ?_⟩
  · exact hr hh β a w ho hs _ (h1 hh) next Q fun x h' w' hk hst => hn _ _ _ hk hst
  · obtain ⟨x, hx⟩ := h2 hn
    exact ⟨_, hx⟩

theorem effW_sound (ok : tb.Ok P) (hv : effW P tb o ch s h K) : EffOk P o ch s h K := by
  obtain ⟨dst, op, ty, pos, after, guard⟩ := o
  cases op with
  | store t x y => exact eff_store ok rfl hv
  | alloc t => exact eff_alloc ok rfl hv
  | box t x => exact eff_box rfl hv
  | buildSlice t n ps => exact eff_buildSlice ok rfl hv
  | makeMap t r =>
    cases r with
    | none => exact eff_makeMap rfl hv
    | some x => exact hv.elim
  | makeSlice t x y =>
    obtain ⟨a, hea, hv1⟩ := onV_some hv
    obtain ⟨b, heb, hv2⟩ := onV_some hv1
    clear hv hv1
    split at hv2
    · rename_i m n e hel
      exact eff_make ok rfl hea heb hel hv2
    · exact hv2.elim
  | mapUpdate t x y z => exact eff_mapSet ok (.inl rfl) hv
  | insert t x y z => exact eff_mapSet ok (.inr rfl) hv
  | mapEntry t x y =>
    obtain ⟨a, hea, hv1⟩ := onV_some hv
    obtain ⟨b, heb, hv2⟩ := onV_some hv1
    refine eff_gen hv2 fun hh β ρ ho w w' v hr => ?_
    have hx : ρ x = _ := ev_ok (ho x (by simp [Op.operands])) hh hea
    have hy : ρ y = _ := ev_ok (ho y (by simp [Op.operands])) hh heb
    simp only [execOp, hx, hy, LVal, Sem.run_bind, hr, Result.andThen_ok, Sem.run_pure]
  | entryStore t x y z =>
    obtain ⟨a, hea, hv1⟩ := onV_some hv
    obtain ⟨b, heb, hv2⟩ := onV_some hv1
    obtain ⟨c, hec, hv3⟩ := onV_some hv2
    refine eff_skip hv3 fun hh β ρ w ho hs K hk => ?_
    have hx : ρ x = _ := ev_ok (ho x (by simp [Op.operands])) hh hea
    have hy : ρ y = _ := ev_ok (ho y (by simp [Op.operands])) hh heb
    have hz : ρ z = _ := ev_ok (ho z (by simp [Op.operands])) hh hec
    obtain ⟨u', w', h', hr, hK, hst⟩ := semW_sound _ hs hk
    refine ⟨(), h', w', ?_, hK, hst⟩
    simp only [execOp, hx, hy, hz, LVal, Sem.run_bind, hr, Result.andThen_ok, Sem.run_pure]
  | range t x =>
    obtain ⟨a, hea, hv1⟩ := onV_some hv
    refine eff_gen hv1 fun hh β ρ ho w w' v hr => ?_
    have hx : ρ x = _ := ev_ok (ho x (by simp [Op.operands])) hh hea
    simp only [execOp, hx, LVal, Sem.run_bind, hr, Result.andThen_ok, Sem.run_pure]
  | next x b =>
    obtain ⟨a, hea, hv1⟩ := onV_some hv
    refine eff_gen hv1 fun hh β ρ ho w w' v hr => ?_
    have hx : ρ x = _ := ev_ok (ho x (by simp [Op.operands])) hh hea
    simp only [execOp, hx, LVal, Sem.run_bind, hr, Result.andThen_ok, Sem.run_pure]
  | convert src dst' x =>
    obtain ⟨a, hea, hv1⟩ := onV_some hv
    clear hv
    split at hv1
    · rename_i b e g he hel
      split at hv1
      · rename_i h1 h2
        exact eff_bytes ok rfl hea he hel h1 h2 hv1
      · exact hv1.elim
    · exact hv1.elim
  | call c =>
    obtain ⟨callee, xs, ats⟩ := c
    cases callee with
    | invoke r m => exact hv.elim
    | builtin b =>
      obtain ⟨vs, hvs, hv'⟩ := onVs_some hv
      clear hv
      have hargs : holds s ch → ∀ (β : Nat → Nat) (ρ : Operand → Value), (∀ x ∈ (Op.call { callee := .builtin b, args := xs, argTypes := ats }).operands, Opnd β s ρ x) → xs.map ρ = vs.toArray := by
        intro hh β ρ ho
        have := vals_ok (β := β) (ρ := ρ) hh hvs fun x hx => ho x (by simp [Op.operands, Call.operands]; simpa using hx)
        apply Array.ext'; simpa using this
      cases b with
      | append => exact eff_append ok rfl hvs hv'
      | copy =>
        replace hv' : copyW _ _ _ _ _ _ _ _ := hv'
        unfold copyW at hv'
        split at hv'
        · rename_i p n c p' n' c' t t' hts
          split at hv'
          · rename_i e hel
            exact eff_copy ok rfl hvs hts hel hv'
          · exact hv'.elim
        · refine eff_gen hv' fun hh β ρ ho w w' v hr => ?_
          simp only [execOp, resolve, invoke, builtin, Sem.run_bind, Sem.run_pure, Result.andThen_ok, hargs hh β ρ ho, hr]
      | delete =>
        replace hv' : delW _ _ _ _ _ _ _ _ := hv'
        unfold delW at hv'
        split at hv'
        · rename_i m k t t' hts
          have hts' : ats = #[t, t'] := by apply Array.ext'; simpa using hts
          split at hv'
          · rename_i e he
            split at hv'
            · rename_i kt u hu
              split at hv'
              · rename_i ke hk
                cases hkd : isKeyD ke.und with
                | true =>
                  simp only [hkd, cond_true] at hv'
                  refine eff_value (f := fun _ => .tuple #[]) hv' fun hh β ρ w ho hs K hk' => ?_
                  obtain ⟨h', w', hr, hK, hst⟩ := run_mapDel (rt := ty) (t' := t') ok he hu hk hkd hs hk'
                  refine ⟨(), h', w', ?_, hK, hst⟩
                  have ha := hargs hh β ρ ho
                  simp only [execOp, resolve, invoke, builtin, Sem.run_bind, Sem.run_pure, Result.andThen_ok, ha, hts', hr]
                | false =>
                  simp only [hkd, cond_false] at hv'
                  refine eff_gen hv' fun hh β ρ ho w w' v hr => ?_
                  simp only [execOp, resolve, invoke, builtin, Sem.run_bind, Sem.run_pure, Result.andThen_ok, hargs hh β ρ ho, hr]
              · exact hv'.elim
            · exact hv'.elim
          · exact hv'.elim
        · exact hv'.elim
      | clear =>
        refine eff_gen hv' fun hh β ρ ho w w' v hr => ?_
        simp only [execOp, resolve, invoke, builtin, Sem.run_bind, Sem.run_pure, Result.andThen_ok, hargs hh β ρ ho, hr]
      | _ => exact hv'.elim
    | value f =>
      obtain ⟨vs, hvs, hv'⟩ := onVs_some hv
      clear hv
      have hargs : holds s ch → ∀ (β : Nat → Nat) (ρ : Operand → Value), (∀ x ∈ (Op.call { callee := .value f, args := xs, argTypes := ats }).operands, Opnd β s ρ x) → xs.map ρ = vs.toArray := by
        intro hh β ρ ho
        have := vals_ok (β := β) (ρ := ρ) hh hvs fun x hx => ho x (by simp [Op.operands, Call.operands]; right; simpa using hx)
        apply Array.ext'; simpa using this
      cases f with
      | func g =>
        replace hv' : callFW _ _ _ _ _ _ _ _ := hv'
        unfold callFW at hv'
        split at hv'
        · rename_i e he
          cases hg : tb.call g with
          | false =>
            simp only [hg, cond_false] at hv'
            split at hv'
            · rename_i fx hx
              refine effC_call (f := e.sh.enc) hv' fun hh β a w ho hs K hk next Q hn => ?_
              obtain ⟨u, w', h', hr, ⟨x, rfl, hK⟩, hst⟩ := semW_sound _ hs hk
              have hf : a.eval (.func g) = .func (.func g) #[] #[] := rfl
              have hrun : (execOp a.eval { dst := dst, op := .call { callee := .value (.func g), args := xs, argTypes := ats }, type := ty, pos := pos, after := after, guard := guard }).run P w = .ok (.value (e.sh.enc x)) w' := by
                simp only [execOp, resolve, Deferred.ofValue, hf, hargs hh β a.eval ho, Sem.run_bind, Sem.run_pure, Result.andThen_ok, invoke]
                have e1 : #[] ++ vs.toArray ++ #[] = vs.toArray := by simp
                rw [e1, ok.ext g fx hx _ w, hr]
                rfl
              unfold Oper.wp
              rw [hrun, Oper.upon_value]
              exact hn x h' w' hK hst
            · exact hv'.elim
          | true =>
            simp only [hg, cond_true] at hv'
            refine effC_call (f := e.sh.enc) hv' fun hh β a w ho hs K hk next Q hn => ?_
            have hf : a.eval (.func g) = .func (.func g) #[] #[] := rfl
            exact call_wp (first := #[]) (captured := #[]) ok rfl hg hf (hargs hh β a.eval ho) (by simpa using hk) hs hn
        · exact hv'.elim
      | tmp t =>
        replace hv' : callTW _ _ _ _ _ _ _ _ := hv'
        unfold callTW at hv'
        split at hv'
        · rename_i e he
          obtain ⟨fv, hfv, hv2⟩ := onV_some hv'
          refine effC_call (f := e.sh.enc) hv2 fun hh β a w ho hs K hk next Q hn => ?_
          obtain ⟨g, first, captured, rfl, hg, hk⟩ := hk
          have hf : a.eval (.tmp t) = _ := ev_ok (ho (.tmp t) (by simp [Op.operands, Call.operands])) hh hfv
          exact call_wp ok rfl hg hf (hargs hh β a.eval ho) hk hs hn
        · exact hv'.elim
      | const v => exact hv'.elim
      | global g => exact hv'.elim
  | _ => exact hv.elim

end
end Lf
