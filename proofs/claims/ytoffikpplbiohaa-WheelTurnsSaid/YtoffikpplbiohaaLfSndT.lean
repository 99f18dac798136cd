/-
  The lifting layer, part 24: whole functions.
-/
import Derived.Test.YtoffikpplbiohaaLfSndS
namespace Lf
open Go

def resRun (tmps : Array Value) : ResultVar → Sem Value
  | .tmp t => pure (tmps.getD t undef)
  | .cell a t => do loadVar t (← asAddr (tmps.getD a undef))

def resVal : List Value → Value
  | [v] => v
  | vs => .tuple vs.toArray

theorem results_run {P : Program} {fn : Func} {tmps : Array Value} {vs : List Value} {w : World} (h : (fn.results.toList.mapM (resRun tmps)).run P w = .ok vs w) : (results fn tmps).run P w = .ok (resVal vs) w := by
  have e : results fn tmps = ((fn.results.mapM (resRun tmps)) >>= fun vs => pure (if h : vs.size = 1 then vs[0] else .tuple vs)) := by
    unfold results
    congr 1
  rw [e, Array.mapM_eq_mapM_toList, map_eq_pure_bind]
  simp only [Sem.run_bind, h, Result.andThen_ok, Sem.run_pure]
  cases vs with
  | nil => rfl
  | cons v vs => cases vs <;> simp [resVal]

theorem run_loadSh {P : Program} {tb : Tb} (ok : tb.Ok P) {t : Nat} {e : Ty} (he : tb.ty t = some e) {w : World} {a : Addr} {x : (shOf tb t).T}
    (hc : ∀ (j : Nat) (v : Value), (cellsL ((shOf tb t).enc x))[j]? = some v → w.cell? (a.add j) = some v) : (loadVar t a).run P w = .ok ((shOf tb t).enc x) w := by
  revert x
  rw [shOf_eq, he]
  intro x hc
  exact run_loadVar ok he hc

section
variable {C : Ctx} {n : Nat} {β : Nat → Nat} {s : St} {a : Act} {h : Hp} {w : World}

theorem retOne_run (ok : C.tb.Ok C.P) (hr : Rel n β s a h w) {r : ResultVar} {t : Nat} {K : (shOf C.tb t).T → Prop} (hv : retOne C s r t K) : ∃ x, K x ∧ (resRun a.tmps r).run C.P w = .ok ((shOf C.tb t).enc x) w := by
  cases r with
  | tmp i =>
    simp only [retOne] at hv
    split at hv
    · rename_i v hf
      split at hv
      · rename_i x hx
        refine ⟨x, hv, ?_⟩
        have := (hr.cur i _ [] hf trivial (holds_nil _)).1
        rw [(shOf C.tb t).ok v x hx]
        simp only [resRun, Sem.run_pure]
        exact congrArg (fun v => Result.ok v w) this
      · exact hv.elim
    · exact hv.elim
  | cell i ct =>
    simp only [retOne] at hv
    obtain ⟨h1, hv⟩ := condP hv
    have h1 := Nat.eq_of_beq_eq_true h1
    subst h1
    split at hv
    · rename_i k e hf he
      split at hv
      · rename_i cs hm
        split at hv
        · rename_i v hcs
          split at hv
          · rename_i x hx
            refine ⟨x, hv, ?_⟩
            have hc := cells_of ok hcs hx
            obtain ⟨_, t', hb⟩ := hr.box k cs hm trivial
            have := (hr.cur i _ [] hf trivial (holds_nil _)).1
            have h2 : a.tmps.getD i undef = .pointer (some ⟨β k, 0, none⟩) := this
            simp only [resRun, h2, asAddr, Sem.run_bind, Sem.run_pure, Result.andThen_ok]
            refine run_loadSh ok he fun j v hj => ?_
            rw [hc] at hj
            rw [box_add, box_cell hb]
            simpa using hj
          · exact hv.elim
        · exact hv.elim
      · exact hv.elim
    · exact hv.elim

theorem retW_run (ok : C.tb.Ok C.P) (hr : Rel n β s a h w) {rs : List ResultVar} {ts : List Nat} {K : (shRes C.tb ts).T → Hp → Prop} (hv : retW C s h rs ts K) :
    ∃ x vs, K x h ∧ (rs.mapM (resRun a.tmps)).run C.P w = .ok vs w ∧ resVal vs = (shRes C.tb ts).enc x := by
  have step : ∀ {r : ResultVar} {rs : List ResultVar} {v : Value} {vs : List Value}, (resRun a.tmps r).run C.P w = .ok v w → (rs.mapM (resRun a.tmps)).run C.P w = .ok vs w → ((r :: rs).mapM (resRun a.tmps)).run C.P w = .ok (v :: vs) w := by
    intro r rs v vs h1 h2
    simp only [List.mapM_cons, Sem.run_bind, h1, h2, Result.andThen_ok, Sem.run_pure]
  have nil : (([] : List ResultVar).mapM (resRun a.tmps)).run C.P w = .ok [] w := by simp only [List.mapM_nil, Sem.run_pure]
  unfold retW at hv
  split at hv
  · exact ⟨(), [], hv, nil, rfl⟩
  · obtain ⟨x, hk, h1⟩ := retOne_run ok hr hv
    exact ⟨x, _, hk, step h1 nil, rfl⟩
  · obtain ⟨x1, hv, h1⟩ := retOne_run ok hr hv
    obtain ⟨x2, hk, h2⟩ := retOne_run ok hr hv
    exact ⟨(x1, x2), _, hk, step h1 (step h2 nil), rfl⟩
  · obtain ⟨x1, hv, h1⟩ := retOne_run ok hr hv
    obtain ⟨x2, hv, h2⟩ := retOne_run ok hr hv
    obtain ⟨x3, hk, h3⟩ := retOne_run ok hr hv
    exact ⟨(x1, x2, x3), _, hk, step h1 (step h2 (step h3 nil)), rfl⟩
  · obtain ⟨x1, hv, h1⟩ := retOne_run ok hr hv
    obtain ⟨x2, hv, h2⟩ := retOne_run ok hr hv
    obtain ⟨x3, hv, h3⟩ := retOne_run ok hr hv
    obtain ⟨x4, hk, h4⟩ := retOne_run ok hr hv
    exact ⟨(x1, x2, x3, x4), _, hk, step h1 (step h2 (step h3 (step h4 nil))), rfl⟩
  · obtain ⟨x1, hv, h1⟩ := retOne_run ok hr hv
    obtain ⟨x2, hv, h2⟩ := retOne_run ok hr hv
    obtain ⟨x3, hv, h3⟩ := retOne_run ok hr hv
    obtain ⟨x4, hv, h4⟩ := retOne_run ok hr hv
    obtain ⟨x5, hk, h5⟩ := retOne_run ok hr hv
    exact ⟨(x1, x2, x3, x4, x5), _, hk, step h1 (step h2 (step h3 (step h4 (step h5 nil)))), rfl⟩
  · exact hv.elim

end

theorem allLt_mem {n : Nat} {l : List Nat} (h : allLt n l = true) : ∀ d ∈ l, d < n := by
  induction l with
  | nil => intro d hd; cases hd
  | cons a l ih =>
    simp only [allLt] at h
    obtain ⟨h1, h2⟩ := condT h
    intro d hd
    rcases List.mem_cons.1 hd with rfl | hd
    · have : d + 1 ≤ n := by simpa [Nat.blt] using h1
      exact this
    · exact ih h2 d hd

/-- What is told of a function is so. -/
theorem fun_sound {C : Ctx} (ok : C.tb.Ok C.P) {g : FuncId} {f : Func} {c : Code} {A : Ann} {args : List Value} {K : (shRes C.tb f.resultTypes.toList).T → Hp → Prop} {h : Hp} (hf : C.P.funcs[g]? = some f) (hb : f.body = some c)
    (hv : funW C f A args K h) : CallT C.P g args (shRes C.tb f.resultTypes.toList) K h := by
  intro w hs
  unfold funW at hv
  obtain ⟨hc, hv⟩ := condP hv
  obtain ⟨h1, h2⟩ := condT hc
  have h1 : args.length ≤ f.ntmps := Nat.le_of_ble_eq_true h1
  have hbody : bodyOf f = c := by unfold bodyOf; rw [hb]
  rw [hbody] at hv h2
  refine calls_of_wp hf hb ?_
  have hget : ∀ (t : Nat) (v : Value), args[t]? = some v → (args.toArray ++ Array.replicate (f.ntmps - args.toArray.size) undef)[t]? = some v := by
    intro t v e
    have hlt : t < args.length := (List.getElem?_eq_some_iff.1 e).1
    rw [Array.getElem?_append_left (by simpa using hlt)]
    simpa using e
  have hargs : ∀ (t : Nat) (l : LV) (c : Chain), argsF args t = some (l, c) → ∃ v, args[t]? = some v ∧ l = .v v ∧ c = [] := by
    intro t l c e
    unfold argsF at e
    rw [nth_get] at e
    split at e
    · rename_i v hv
      cases e
      exact ⟨v, hv, rfl, rfl⟩
    · cases e
  have hrel : Rel f.ntmps (fun _ => 0) { f := argsF args, m := fun _ => none } { tmps := args.toArray ++ Array.replicate (f.ntmps - args.toArray.size) undef, defers := [] } h w := by
    refine ⟨by simp; omega, hs, fun t l c e => ?_, fun t l c e p hp => ?_, fun t l c e _ _ => ?_, fun t l c e _ hh => ?_, fun k cs e _ => (by cases e), fun k k' e => absurd rfl e, fun _ e => e.elim, fun _ e => e.elim⟩
    · obtain ⟨v, h3, _, _⟩ := hargs t l c e
      have := (List.getElem?_eq_some_iff.1 h3).1
      omega
    · obtain ⟨v, h3, _, rfl⟩ := hargs t l c e
      cases hp
    · obtain ⟨v, h3, rfl, rfl⟩ := hargs t l c e
      refine ⟨?_, fun _ _ _ => trivial⟩
      simp only [Act.eval, LVal, Array.getD_eq_getD_getElem?, hget t v h3, Option.getD_some]
    · obtain ⟨v, h3, rfl, rfl⟩ := hargs t l c e
      exact absurd (holds_nil _) hh
  refine lift_sound ok c A C.priv _ _ h (allLt_mem h2) hv _ _ w hrel _ fun e s' h' β' a' w' he hr' hs' => ?_
  have hst : Step h h' w w' := ⟨hr'.sub, hs'.size, fun b hb hn => ⟨hs'.keep b hb hn (fun k _ hl => absurd rfl hl.1), hs'.unk b hb hn⟩, hs'.os, hs'.tape, hs'.output⟩
  have done : retW C s' h' f.results.toList f.resultTypes.toList K → a'.defers = [] ∧ ∃ v, (results f a'.tmps).run C.P w' = .ok v w' ∧ ∃ u h2, Ending.returned v = .returned u ∧ (∃ x, u = (shRes C.tb f.resultTypes.toList).enc x ∧ K x h2) ∧ Step h h2 w w' := by
    intro hw
    obtain ⟨x, vs, hk, hrun, hval⟩ := retW_run ok hr' hw
    exact ⟨hs'.defers, _, results_run hrun, _, h', rfl, ⟨x, hval, hk⟩, hst⟩
  cases e with
  | nrm => exact done he
  | ret => exact done he
  | ext i => exact he.elim
  | gto i => exact he.elim

end Lf
