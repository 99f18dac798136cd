/-
  The lifting layer, part 13: maps, texts as bytes, calls; whatever is told of an operation is so.
-/
import Derived.Test.YtoffikpplbiohaaLfSndH
namespace Lf
open Go

section
variable {P : Program} {tb : Tb} {o : Oper} {ch : Chain} {s : St} {h : Hp} {K : LV → Hp → Prop}

theorem eff_makeMap {t : Nat} (hop : o.op = .makeMap t none) (hv : EffC (cnd s ch) MakeMapW (fun m h' => K (.v (.map m)) h') h) : EffOk P o ch s h K := by
  refine eff_value (f := fun m => .map m) hv fun hh β ρ w ho hs K hk => ?_
  obtain ⟨hn, hst⟩ := step_new hs (.map #[] 0)
  refine ⟨_, _, _, ?_, hk _ hn, hst⟩
  simp [execOp, hop, Instr.makeMap]

theorem freeze_step {h : Hp} {w : World} {cs : List Value} {t : Nat} (hs : Sub h w) :
    h w.heap.size = none ∧ Step h (h.set w.heap.size (.cells cs.toArray t (cs.length, cs.length + 1))) w { w with heap := w.heap.push (.cells cs.toArray t (cs.length, cs.length + 1)) } :=
  step_new hs _

theorem modify_push (h : Array Obj) (o : Obj) (g : Obj → Obj) : (h.push o).modify h.size g = h.push (g o) := by
  apply Array.ext_getElem?
  intro i
  rw [Array.getElem?_modify]
  by_cases hi : h.size = i
  · subst hi; simp
  · simp only [if_neg hi, Array.getElem?_push, if_neg (Ne.symm hi)]

theorem eff_bytes (ok : tb.Ok P) {src dst : Nat} {x : Operand} (hop : o.op = .convert src dst x) {b : ByteArray} {e g : Ty} (hex : ev s ch x = some (.v (.string b))) (hsrc : tb.ty src = some e)
    (hel : elemS tb dst = some g) (he : e.und = .string) (hg8 : g.und = .int .u8)
    (hv : EffC (cnd s ch) (BytesW b) (fun l h' => K (.v (.slice l.base l.len l.cap)) h') h) : EffOk P o ch s h K := by
  obtain ⟨y, u, hy, hu, hg⟩ := elemS_some hel
  refine eff_value (f := fun (l : Sl) => .slice l.base l.len l.cap) hv fun hh β ρ w ho hs K hk => ?_
  have hx : ρ x = _ := ev_ok (ho x (by simp [hop, Op.operands])) hh hex
  have h1 := fun w => run_underlying' ok hsrc w
  have h2 := fun w => run_underlying' ok hy w
  have h3 := fun w => run_underlying' ok hg w
  rw [he] at h1; rw [hu] at h2; rw [hg8] at h3
  let c := (Question.appendCap b.size 0 u).cut (w.tape w.drawn (.appendCap b.size 0 u))
  have hc : b.size ≤ c := by simp only [c, Question.cut]; omega
  have hw1 : Sub h w.drew := hs
  let cs := bytesL b ++ zerosL [.int .u8 0] (c - b.size)
  have hcl : cs.length = c := by
    have : (bytesL b).length = b.size := by simp [bytesL]
    simp only [cs, List.length_append, zerosL_eq, repL_length, this]; simp; omega
  obtain ⟨hn, hst⟩ := step_new hw1 (.cells cs.toArray u (c, c + 1))
  refine ⟨_, _, _, ?_, hk c _ u hc hn, Step.drew hst⟩
  have harr : (b.data.map fun x => (.int .u8 x.toNat : Value)) ++ Array.replicate (c - b.size) (.int .u8 0) = cs.toArray := by
    apply Array.ext'
    simp only [cs, bytesL, zerosL_eq]
    have : ∀ n, List.replicate n (.int .u8 0 : Value) = repL [.int .u8 0] n := by
      intro n; induction n with
      | zero => rfl
      | succ n ih => simp only [List.replicate_succ, repL, ih]; rfl
    simp [this]
  simp only [execOp, hop, hx, LVal, convert, Sem.run_bind, h1, h2, h3, Result.andThen_ok, Conv.stringToBytes, run_choose, Question.forced, Bool.false_eq_true, if_false, run_newRow, Sem.run_pure]
  change _ = Result.ok (Next.value (.slice (some ⟨w.heap.size, 0, none⟩) b.size c)) _
  rw [show ((Question.appendCap b.size 0 u).cut (w.tape w.drawn (.appendCap b.size 0 u))) = c from rfl, harr]
  have hsh : ({ w.drew with heap := w.heap.push (.cells cs.toArray u) } : World).shape? w.heap.size = some (u, c) := by
    simp [World.shape?, hcl]
  have hfz : ({ w.drew with heap := w.heap.push (.cells cs.toArray u) } : World).freeze ⟨w.heap.size, c, none⟩ 1 = { w.drew with heap := w.heap.push (.cells cs.toArray u (c, c + 1)) } := by
    simp only [World.freeze, Nat.one_ne_zero, if_false]
    congr 1
    exact modify_push _ _ _
  have hms : (markStringish ⟨w.heap.size, 0, none⟩).run P { w.drew with heap := w.heap.push (.cells cs.toArray u) } = .ok () { w.drew with heap := w.heap.push (.cells cs.toArray u (c, c + 1)) } := by
    simp only [markStringish, Sem.run_bind, run_shape, Result.andThen_ok, hsh, run_freeze]
    rw [hfz]
  change (((markStringish ⟨w.heap.size, 0, none⟩).run P { w.drew with heap := w.heap.push (.cells cs.toArray u) }).andThen _).andThen _ = _
  rw [hms]
  rfl

end
end Lf
