/-
  The lifting layer, part 8: the rest of the operations that change nothing.
-/
import Derived.Test.YtoffikpplbiohaaLfSndC
namespace Lf
open Go

section
variable {P : Program} {tb : Tb} {o : Oper} {ch : Chain} {s : St} {h : Hp} {K : LV → Prop}

theorem elemS_some {t : Nat} {g : Ty} (h : elemS tb t = some g) : ∃ e u, tb.ty t = some e ∧ e.und = .slice u ∧ tb.ty u = some g := by
  unfold elemS at h
  split at h
  · rename_i e he
    split at h
    · rename_i u hu
      exact ⟨e, u, he, hu, h⟩
    · cases h
  · cases h

theorem elemA_some {t n : Nat} {g : Ty} (h : elemA tb t = some (n, g)) : ∃ e u, tb.ty t = some e ∧ e.und = .array n u ∧ tb.ty u = some g := by
  unfold elemA at h
  split at h
  · rename_i e he
    split at h
    · rename_i m u hu
      split at h
      · rename_i g' hg
        cases h
        exact ⟨e, u, he, hu, hg⟩
      · cases h
    · cases h
  · cases h

theorem val_indexAddr (ok : tb.Ok P) {t : Nat} {x i : Operand} (hop : o.op = .indexAddr t x i) (hv : match ev s ch x, ev s ch i with
    | some (.v (.slice base len _)), some (.v (.int _ n)) => match elemS tb t with
      | some e => Req (cnd s ch) (InB base len n) ∧ K (.v (.pointer (some (sat base e.size n))))
      | none => False
    | some (.v (.pointer (some a))), some (.v (.int _ n)) => match elemA tb t with
      | some (len, e) => Req (cnd s ch) (0 ≤ n ∧ n < (len : Int)) ∧ K (.v (.pointer (some (a.add (n.toNat * e.size)))))
      | none => False
    | some (.box k off), some (.v (.int _ n)) => match elemA tb t with
      | some (len, e) => Req (cnd s ch) (0 ≤ n ∧ n < (len : Int)) ∧ cond (isConstOp i) (K (.box k (off + n.toNat * e.size))) (K (.boxd k (off + n.toNat * e.size)))
      | none => False
    | _, _ => False) : ValOk P tb o ch s h K := by
  have runA : ∀ (ρ : Operand → Value) (w : World) (a : Addr) (k : IntKind) (n : Int) (len : Nat) (e : Ty), elemA tb t = some (len, e) → ρ x = .pointer (some a) → ρ i = .int k n → 0 ≤ n ∧ n < (len : Int) →
      (execOp ρ o).run P w = .ok (.value (.pointer (some (a.add (n.toNat * e.size))))) w := by
    intro ρ w a k n len e hel hx hi hb
    obtain ⟨y, u, hy, hu, hg⟩ := elemA_some hel
    have hun := run_underlying' ok hy w
    have hsz := run_sizeOf' ok hg w
    rw [hu] at hun
    simp only [execOp, hop, hx, hi, Instr.indexAt, asIntOf, Instr.sureAddr, Sem.run_bind, Sem.run_pure, Result.andThen_ok, hun, if_pos hb, hsz]
  split at hv
  · rename_i base len c k n hex hei
    split at hv
    · rename_i e hel
      obtain ⟨y, u, hy, hu, hg⟩ := elemS_some hel
      refine valOk_same _ hv.2 fun hh β ρ w ho => ?_
      have hx := ev_ok (ho x (by simp [hop, Op.operands])) hh hex
      have hi := ev_ok (ho i (by simp [hop, Op.operands])) hh hei
      obtain ⟨hbase, h0, h1⟩ := req_cnd hv.1 hh
      obtain ⟨a, rfl⟩ : ∃ a, base = some a := Option.ne_none_iff_exists'.1 hbase
      have hun := run_underlying' ok hy w
      have hsz := run_sizeOf' ok hg w
      rw [hu] at hun
      simp only [execOp, hop, hx, hi, LVal, Instr.indexAt, asIntOf, Sem.run_bind, Sem.run_pure, Result.andThen_ok, hun, if_pos (And.intro h0 h1), hsz, sat, Option.getD_some]
    · exact hv.elim
  · rename_i a k n hex hei
    split at hv
    · rename_i len e hel
      refine valOk_same _ hv.2 fun hh β ρ w ho => ?_
      exact runA ρ w a k n len e hel (ev_ok (ho x (by simp [hop, Op.operands])) hh hex) (ev_ok (ho i (by simp [hop, Op.operands])) hh hei) (req_cnd hv.1 hh)
    · exact hv.elim
  · rename_i k' off k n hex hei
    split at hv
    · rename_i len e hel
      have main : ∀ l : LV, (∀ β, LVal β l = .pointer (some ⟨β k', off + n.toNat * e.size, none⟩)) → (∀ k1 off', (l = .box k1 off' ∨ l = .boxd k1 off') → k1 = k') → K l → ValOk P tb o ch s h K := fun l hl hb hk =>
        valOk_same l hk (fun hh β ρ w ho => by
          rw [runA ρ w _ k n len e hel (ev_ok (ho x (by simp [hop, Op.operands])) hh hex) (ev_ok (ho i (by simp [hop, Op.operands])) hh hei) (req_cnd hv.1 hh), box_add, hl]) (prov_box (by simp [hop, Op.operands]) hex hb)
      cases hc : isConstOp i with
      | true => exact main (.box k' (off + n.toNat * e.size)) (fun _ => rfl) (by intro k' off' e; rcases e with e | e <;> cases e <;> rfl) (by simpa [hc] using hv.2)
      | false => exact main (.boxd k' (off + n.toNat * e.size)) (fun _ => rfl) (by intro k' off' e; rcases e with e | e <;> cases e <;> rfl) (by simpa [hc] using hv.2)
    · exact hv.elim
  · exact hv.elim

theorem val_index (ok : tb.Ok P) {t : Nat} {x i : Operand} (hop : o.op = .index t x i) (hv : match ev s ch x, ev s ch i with
    | some (.v (.string b)), some (.v (.int _ n)) => match tb.ty t with
      | some y => match y.und with
        | .string => Req (cnd s ch) (0 ≤ n ∧ n < (b.size : Int)) ∧ K (.v (.int .u8 ((b.data.toList.getD n.toNat 0).toNat : Int)))
        | _ => False
      | none => False
    | _, _ => False) : ValOk P tb o ch s h K := by
  split at hv
  · rename_i b k n hex hei
    split at hv
    · rename_i y hy
      split at hv
      · rename_i hu
        refine valOk_same _ hv.2 fun hh β ρ w ho => ?_
        have hx := ev_ok (ho x (by simp [hop, Op.operands])) hh hex
        have hi := ev_ok (ho i (by simp [hop, Op.operands])) hh hei
        obtain ⟨h0, h1⟩ := req_cnd hv.1 hh
        have hun := run_underlying' ok hy w
        rw [hu] at hun
        have hlt : n.toNat < b.size := by omega
        have hget : b[n.toNat]? = some (b.data.toList.getD n.toNat 0) := by
          rw [getElem?_pos b n.toNat hlt]
          congr 1
          have : n.toNat < b.data.toList.length := by simpa using hlt
          rw [List.getD_eq_getElem?_getD, List.getElem?_eq_getElem this]
          rfl
        simp only [execOp, hop, hx, hi, LVal, Instr.index, asIntOf, Sem.run_bind, Sem.run_pure, Result.andThen_ok, hun, if_pos h0, hget]
      · exact hv.elim
    · exact hv.elim
  · exact hv.elim

theorem optI_run {β : Nat → Nat} {ρ : Operand → Value} (hh : holds s ch) {x : Option Operand} {r : Option Int} (he : optI s ch x = some r) (ho : ∀ y, x = some y → Opnd β s ρ y) :
    (x = none ∧ r = none) ∨ ∃ y k n, x = some y ∧ ρ y = .int k n ∧ r = some n := by
  cases x with
  | none => cases he; exact .inl ⟨rfl, rfl⟩
  | some y =>
    simp only [optI] at he
    split at he
    · rename_i k n hy
      cases he
      exact .inr ⟨y, k, n, rfl, ev_ok (ho y rfl) hh hy, rfl⟩
    · cases he

theorem run_bound {k : IntKind} {n : Int} {m : Nat} {c : BoundsCode} {w : World} (h0 : 0 ≤ n) (h1 : n ≤ (m : Int)) : (Instr.sliceBound (.int k n) m c).run P w = .ok n.toNat w := by
  simp only [Instr.sliceBound, asIntOf, Sem.run_bind, Sem.run_pure, Result.andThen_ok, if_pos (And.intro h0 h1)]

theorem slB_run {c : Option Bool} {isS : Bool} {len cap : Nat} {lo hi mx : Option Int} {Q : Nat → Nat → Nat → Prop} (hv : slB c isS len cap lo hi mx Q) :
    ∃ l x m, Q l x m ∧ ((c = none ∨ (c = some true)) → ∀ (vl vh vm : Option Value), (lo = none ∧ vl = none ∨ ∃ k n, lo = some n ∧ vl = some (.int k n)) →
      (hi = none ∧ vh = none ∨ ∃ k n, hi = some n ∧ vh = some (.int k n)) → (mx = none ∧ vm = none ∨ ∃ k n, mx = some n ∧ vm = some (.int k n)) →
      ∀ w : World, (Instr.sliceBounds isS len cap vl vh vm).run P w = .ok (l, x, m) w) := by
  have rq : ∀ {p : Prop}, Req c p → (c = none ∨ c = some true) → p := by
    intro p hr hc
    rcases hc with hc | hc <;> subst hc
    · exact hr
    · exact hr rfl
  unfold slB at hv
  split at hv
  · refine ⟨_, _, _, hv, fun hc vl vh vm h1 h2 h3 w => ?_⟩
    simp at h1 h2 h3; subst h1; subst h2; subst h3
    simp [Instr.sliceBounds]
  · rename_i l
    refine ⟨_, _, _, hv.2, fun hc vl vh vm h1 h2 h3 w => ?_⟩
    obtain ⟨a0, a1⟩ := rq hv.1 hc
    simp at h1 h2 h3; subst h2; subst h3; obtain ⟨k, rfl⟩ := h1
    simp [Instr.sliceBounds, run_bound a0 a1]
  · rename_i x
    refine ⟨_, _, _, hv.2, fun hc vl vh vm h1 h2 h3 w => ?_⟩
    obtain ⟨a0, a1⟩ := rq hv.1 hc
    simp at h1 h2 h3; subst h1; subst h3; obtain ⟨k, rfl⟩ := h2
    simp [Instr.sliceBounds, run_bound a0 a1]
  · rename_i l x
    refine ⟨_, _, _, hv.2, fun hc vl vh vm h1 h2 h3 w => ?_⟩
    obtain ⟨a0, a1, a2⟩ := rq hv.1 hc
    simp at h1 h2 h3; subst h3; obtain ⟨k, rfl⟩ := h1; obtain ⟨k', rfl⟩ := h2
    have e : (x.toNat : Int) = x := Int.toNat_of_nonneg (by omega)
    simp [Instr.sliceBounds, run_bound (Int.le_trans a0 a1) a2, run_bound (n := l) (m := x.toNat) a0 (by omega)]
  · rename_i x m
    refine ⟨_, _, _, hv.2, fun hc vl vh vm h1 h2 h3 w => ?_⟩
    obtain ⟨a0, a1, a2⟩ := rq hv.1 hc
    simp at h1 h2 h3; subst h1; obtain ⟨k, rfl⟩ := h2; obtain ⟨k', rfl⟩ := h3
    simp [Instr.sliceBounds, run_bound (n := m) (Int.le_trans a0 a1) a2, run_bound (n := x) (m := m.toNat) a0 (by omega)]
  · rename_i l x m
    refine ⟨_, _, _, hv.2, fun hc vl vh vm h1 h2 h3 w => ?_⟩
    obtain ⟨a0, a1, a2, a3⟩ := rq hv.1 hc
    simp at h1 h2 h3; obtain ⟨k, rfl⟩ := h1; obtain ⟨k', rfl⟩ := h2; obtain ⟨k'', rfl⟩ := h3
    simp [Instr.sliceBounds, run_bound (n := m) (by omega) a3, run_bound (n := x) (m := m.toNat) (by omega) (by omega), run_bound (n := l) (m := x.toNat) a0 (by omega)]
  · simp at hv

end
end Lf
