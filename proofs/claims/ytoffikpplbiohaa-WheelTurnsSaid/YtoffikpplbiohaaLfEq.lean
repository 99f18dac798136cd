/-
  Are two structures of whole numbers the same?
-/
import Derived.Laws.StructEq
import Derived.Test.YtoffikpplbiohaaLfMem
namespace Lf
open Go

theorem eqF {P : Program} (d : Nat) (xs ys : Array Value) : ∀ (L : List (Field × IntKind × Int × Int)) (w : World),
    (∀ q ∈ L, q.1.name ≠ "_" ∧ P.underlying q.1.type = some (.int q.2.1) ∧ xs[q.1.offset]? = some (.int q.2.1 q.2.2.1) ∧ ys[q.1.offset]? = some (.int q.2.1 q.2.2.2)) →
    (Op.eqFields (d + 1) xs ys (L.map (·.1))).run P w = .ok (L.all fun q => q.2.2.1 == q.2.2.2) w
  | [], w, _ => by simp [Op.eqFields]
  | q :: L, w, h => by
    obtain ⟨h1, h2, h3, h4⟩ := h q (List.mem_cons_self ..)
    have ih := eqF d xs ys L w fun q' hq => h q' (List.mem_cons_of_mem _ hq)
    have hag : (isAgg q.1.type).run P w = .ok false w := by simp [isAgg, run_underlying h2]
    simp only [List.map_cons, Op.eqFields, Sem.run_bind, if_pos h1, part, hag, Result.andThen_ok, Bool.false_eq_true, if_false, h3, h4, Sem.run_pure, run_equalIn_int w d q.1.type q.2.1 q.2.1 q.2.2.1 q.2.2.2 h2]
    cases hb : (q.2.2.1 == q.2.2.2) with
    | false => simp [hb]
    | true => simp [hb, ih]

theorem semIs_eqS {P : Program} {t : Nat} {x y : Operand} {h : Hp} {xs ys : Array Value} (L : List (Field × IntKind × Int × Int)) (hu : P.underlying t = some (.struct (L.map (·.1)).toArray)) (hg : P.eqGuardType P.depth t = false) (hp : P.stoodInHeld t = false)
    (hL : ∀ q ∈ L, q.1.name ≠ "_" ∧ P.underlying q.1.type = some (.int q.2.1) ∧ xs[q.1.offset]? = some (.int q.2.1 q.2.2.1) ∧ ys[q.1.offset]? = some (.int q.2.1 q.2.2.2)) :
    SemIs P (binS .eql t x y (.agg xs) (.agg ys)) h (.bool (L.all fun q => q.2.2.1 == q.2.2.2)) := by
  refine semIs_of_run fun w => ?_
  have hf : P.fieldsOf t = (L.map (·.1)).toArray := by unfold Program.fieldsOf; rw [hu]
  have ht : P.underlying t = some (.struct (P.fieldsOf t)) := by rw [hf]; exact hu
  have h1 := run_equalIn_struct (P := P) w 9999 t xs ys ht hp
  rw [hf] at h1
  have h2 := eqF (P := P) 9998 xs ys L w hL
  unfold binS
  simp only [Sem.run_bind, run_eqGuard_agg w .eql t x y xs ys hg, Result.andThen_ok, run_eql_struct]
  rw [show (10000 : Nat) = 9999 + 1 from rfl, h1]
  simp only [h2, Result.andThen_ok]

end Lf
