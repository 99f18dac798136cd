/-
  The lifting layer, part 10: looks into maps, lengths; all operations that change nothing.
-/
import Derived.Test.YtoffikpplbiohaaLfSndE
namespace Lf
open Go

section
variable {P : Program} {tb : Tb} {o : Oper} {ch : Chain} {s : St} {h : Hp} {K : LV → Prop}

theorem run_checkKey (ok : tb.Ok P) {k : Nat} {e : Ty} {b : Bool} {v : Value} {w : World} (he : tb.ty k = some e) (hk : isKeyD e.und = true) :
    (Instr.checkKey b 10000 k v).run P w = .ok () w := by
  have hu := run_underlying' ok he w
  have key : ∀ n, (Instr.checkKey b (n + 1) k v).run P w = .ok () w := by
    intro n
    unfold Instr.checkKey
    simp only [Sem.run_bind, hu, Result.andThen_ok]
    generalize e.und = d at hk
    cases d <;> first | rfl | (simp [isKeyD] at hk)
  exact key 9999

theorem run_findKey (ok : tb.Ok P) {k : Nat} {e : Ty} {v : Value} {es : List MapEntry} {r : Option (Nat × Value)} {w : World} (he : tb.ty k = some e)
    (hf : Instr.findNow e.und v es 0 = some r) : (Instr.findKey k v es).run P w = .ok r w := by
  simp only [Instr.findKey, Sem.run_bind, run_underlying' ok he, Result.andThen_ok, hf, Sem.run_pure]

theorem run_getMap {r : Nat} {es : Array MapEntry} {ck : Nat} {w : World} (hb : w.heap[r]? = some (.map es ck)) : (getObj r).run P w = .ok (.map es ck) w := by
  simp [getObj, Sem.run, hb]

theorem run_lookup (ok : tb.Ok P) {t k u : Nat} {e ke ue : Ty} {m : Option Nat} {b v : Value} {y cok : Bool} {w : World} (he : tb.ty t = some e) (hu : e.und = .map k u)
    (hk : tb.ty k = some ke) (hue : tb.ty u = some ue) (hkd : isKeyD ke.und = true) (hs : Sub h w) (hl : LookIs ke.und ue.zero m b h v y) :
    (Instr.lookup t (.map m) b cok).run P w = .ok (if cok then .tuple #[v, .bool y] else v) w := by
  have hun := run_underlying' ok he w
  rw [hu] at hun
  obtain ⟨es, hm, hl⟩ := hl
  rcases hm with ⟨rfl, rfl⟩ | ⟨r, ck, rfl, hr⟩
  · simp only [Instr.lookup, Sem.run_bind, hun, Result.andThen_ok, Sem.run_pure, run_checkKey ok hk hkd]
    rcases hl with ⟨hf, hv, hy⟩ | ⟨i, hf, hy⟩
    · simp only [run_findKey ok hk hf, Result.andThen_ok, Sem.run_bind, run_zeroValue' ok hue, Sem.run_pure, hv, hy]
    · simp only [run_findKey ok hk hf, Result.andThen_ok, Sem.run_bind, Sem.run_pure, hy]
  · simp only [Instr.lookup, Sem.run_bind, hun, Result.andThen_ok, run_getMap (hs r _ hr), Sem.run_pure, run_checkKey ok hk hkd]
    rcases hl with ⟨hf, hv, hy⟩ | ⟨i, hf, hy⟩
    · simp only [run_findKey ok hk hf, Result.andThen_ok, Sem.run_bind, run_zeroValue' ok hue, Sem.run_pure, hv, hy]
    · simp only [run_findKey ok hk hf, Result.andThen_ok, Sem.run_bind, Sem.run_pure, hy]

theorem val_lookup (ok : tb.Ok P) {t : Nat} {x i : Operand} {cok : Bool} (hop : o.op = .lookup t x i cok) (hv : onV (ev s ch x) fun a => onV (ev s ch i) fun b => match a, tb.ty t with
    | .map m, some e => match e.und with
      | .map k u => match tb.ty k, tb.ty u with
        | some ke, some ue => cond (isKeyD ke.und) (LookW (cnd s ch) ke.und ue.sh ue.zero m b h fun x y => cond cok (K (.v (.tuple #[ue.sh.enc x, .bool y]))) (K (.v (ue.sh.enc x))))
            (genV (cnd s ch) P tb o.type (Instr.lookup t a b cok) h K)
        | _, _ => False
      | _ => False
    | _, _ => False) : ValOk P tb o ch s h K := by
  obtain ⟨a, hea, hv1⟩ := onV_some hv
  clear hv
  obtain ⟨b, heb, hv⟩ := onV_some hv1
  clear hv1
  have hex : holds s ch → ∀ (β : Nat → Nat) (ρ : Operand → Value), (∀ x ∈ o.op.operands, Opnd β s ρ x) → ∀ (w w' : World) (u : Value), (Instr.lookup t a b cok).run P w = .ok u w' → (execOp ρ o).run P w = .ok (.value u) w' := by
    intro hh β ρ ho w w' u hr
    have hx := ev_ok (ho x (by simp [hop, Op.operands])) hh hea
    have hi := ev_ok (ho i (by simp [hop, Op.operands])) hh heb
    simp only [execOp, hop, hx, hi, LVal, Sem.run_bind, hr, Result.andThen_ok, Sem.run_pure]
  split at hv
  · rename_i m e he
    split at hv
    · rename_i k u hu
      split at hv
      · rename_i ke ue hk hue
        cases hkd : isKeyD ke.und with
        | false =>
          simp only [hkd, cond_false] at hv
          exact val_gen (by simp_all [kindD]) hv fun hh β ρ ho w w' u hr => hex hh β ρ ho w w' u hr
        | true =>
          simp only [hkd, cond_true] at hv
          obtain ⟨y, z, hr, hq⟩ := hv
          cases cok with
          | true =>
            refine valOk_mem (by simp [kindD, hop]) _ hq fun hh β ρ w ho hs => hex hh β ρ ho w w _ ?_
            rw [run_lookup ok he hu hk hue hkd hs (req_cnd hr hh)]
            rfl
          | false =>
            refine valOk_mem (by simp [kindD, hop]) _ hq fun hh β ρ w ho hs => hex hh β ρ ho w w _ ?_
            rw [run_lookup ok he hu hk hue hkd hs (req_cnd hr hh)]
            rfl
      · exact hv.elim
    · exact hv.elim
  · exact hv.elim

theorem run_min {k : IntKind} {w : World} : ∀ {r : List Value} {x : Int} {v : Value}, minI min2I k x r = some v → (r.foldlM Builtin.min2 (.int k x)).run P w = .ok v w
  | [], x, v, h => by cases h; rfl
  | a :: r, x, v, h => by
    cases a <;> simp only [minI] at h <;> first
      | cases h
      | (simp only [List.foldlM_cons, Sem.run_bind, Builtin.min2, Sem.run_pure, Result.andThen_ok]
         exact run_min h)

theorem run_max {k : IntKind} {w : World} : ∀ {r : List Value} {x : Int} {v : Value}, minI max2I k x r = some v → (r.foldlM Builtin.max2 (.int k x)).run P w = .ok v w
  | [], x, v, h => by cases h; rfl
  | a :: r, x, v, h => by
    cases a <;> simp only [minI] at h <;> first
      | cases h
      | (simp only [List.foldlM_cons, Sem.run_bind, Builtin.max2, Sem.run_pure, Result.andThen_ok]
         exact run_max h)

theorem val_builtin (ok : tb.Ok P) {b : Builtin} {xs : Array Operand} {ts : Array TypeId} (hop : o.op = .call { callee := .builtin b, args := xs, argTypes := ts })
    (hv : onVs (vals s ch xs.toList) fun vs => biV (cnd s ch) P tb b vs ts.toList o.type h K) : ValOk P tb o ch s h K := by
  obtain ⟨vs, hvs, hv'⟩ := onVs_some hv
  clear hv
  have hargs : holds s ch → ∀ (β : Nat → Nat) (ρ : Operand → Value), (∀ x ∈ o.op.operands, Opnd β s ρ x) → xs.map ρ = vs.toArray := by
    intro hh β ρ ho
    have := vals_ok (β := β) (ρ := ρ) hh hvs fun x hx => ho x (by simp [hop, Op.operands, Call.operands]; simpa using hx)
    apply Array.ext'; simpa using this
  unfold biV at hv'
  split at hv'
  · rename_i x ty hts
    have hts' : ts = #[ty] := by apply Array.ext'; simpa using hts
    have hex : holds s ch → ∀ (β : Nat → Nat) (ρ : Operand → Value), (∀ x ∈ o.op.operands, Opnd β s ρ x) → ∀ (w w' : World) (u : Value), (Builtin.len_ #[ty] o.type #[x]).run P w = .ok u w' → (execOp ρ o).run P w = .ok (.value u) w' := by
      intro hh β ρ ho w w' u hr
      have ha := hargs hh β ρ ho
      simp only [execOp, hop, resolve, invoke, builtin, Sem.run_bind, Sem.run_pure, Result.andThen_ok, ha, hts', hr]
    unfold lenW at hv'
    split at hv'
    · rename_i e he
      have hu := fun w => run_underlying' ok he w
      split at hv'
      · rename_i bs heu
        refine valOk_same _ hv' fun hh β ρ w ho => hex hh β ρ ho w w _ ?_
        simp [Builtin.len_, hu, heu, goInt, LVal]
      · rename_i el p n c heu
        refine valOk_same _ hv' fun hh β ρ w ho => hex hh β ρ ho w w _ ?_
        simp [Builtin.len_, hu, heu, goInt, LVal]
      · rename_i y n el heu
        refine valOk_same _ hv' fun hh β ρ w ho => hex hh β ρ ho w w _ ?_
        cases y <;> simp [Builtin.len_, hu, heu, goInt, LVal]
      · exact val_gen (by simp_all [kindD]) hv' fun hh β ρ ho w w' u hr => hex hh β ρ ho w w' u hr
    · exact hv'.elim
  · rename_i p n c ty hts
    have hts' : ts = #[ty] := by apply Array.ext'; simpa using hts
    split at hv'
    · rename_i e he
      split at hv'
      · rename_i u hu
        refine valOk_same _ hv' fun hh β ρ w ho => ?_
        have ha := hargs hh β ρ ho
        have hun := run_underlying' ok he w
        rw [hu] at hun
        simp [execOp, hop, resolve, invoke, builtin, ha, hts', Builtin.cap_, hun, goInt, LVal]
      · exact hv'.elim
    · exact hv'.elim
  · rename_i k x r
    split at hv'
    · rename_i v hm
      refine valOk_same _ hv' fun hh β ρ w ho => ?_
      have ha := hargs hh β ρ ho
      simp [execOp, hop, resolve, invoke, builtin, ha, Builtin.min_, run_min hm, LVal]
    · exact hv'.elim
  · rename_i k x r
    split at hv'
    · rename_i v hm
      refine valOk_same _ hv' fun hh β ρ w ho => ?_
      have ha := hargs hh β ρ ho
      simp [execOp, hop, resolve, invoke, builtin, ha, Builtin.max_, run_max hm, LVal]
    · exact hv'.elim
  · exact hv'.elim

/-- Whatever is told of an operation that changes nothing is so. -/
theorem valW_sound (ok : tb.Ok P) (hv : valW P tb o ch s h K) : ValOk P tb o ch s h K := by
  obtain ⟨dst, op, ty, pos, after, guard⟩ := o
  cases op with
  | move x => exact val_move (.inl rfl) hv
  | assign x => exact val_move (.inr rfl) hv
  | pick x a b => exact val_pick rfl hv
  | extract x i => exact val_extract rfl hv
  | binOp op t x y yt => exact val_bin ok rfl hv
  | unOp op t x => exact val_un rfl hv
  | nilCheck x => exact val_nil rfl hv
  | load t x => exact val_load ok rfl hv
  | fieldAddr t x i => exact val_fieldAddr ok rfl hv
  | field t x i => exact val_field ok rfl hv
  | indexAddr t x i => exact val_indexAddr ok rfl hv
  | index t x i => exact val_index ok rfl hv
  | slice t x lo hi mx => exact val_slice ok rfl hv
  | makeInterface t x => exact val_iface ok rfl hv
  | makeFunc fn a b => exact val_func rfl hv
  | convert a b x => exact val_convert ok rfl hv
  | build t ps => exact val_build ok rfl hv
  | lookup t x i k => exact val_lookup ok rfl hv
  | call c =>
    obtain ⟨callee, args, ats⟩ := c
    cases callee with
    | builtin b => exact val_builtin ok rfl hv
    | value f => exact hv.elim
    | invoke r m => exact hv.elim
  | _ => exact hv.elim

end
end Lf
