/-
  Numbers of 64 bits, bit by bit.
-/
import Derived.Test.YtoffikpplbiohaaLfLib
namespace Lf
open Go

abbrev InU (x : Int) : Prop := 0 ≤ x ∧ x < 18446744073709551616

def bit (x : Int) (n : Nat) : Bool := x.toNat.testBit n

theorem wrapU {x : Int} (h : InU x) : IntKind.wrap .u64 x = x := by
  unfold IntKind.wrap
  simp only [IntKind.signed, IntKind.bits]
  have := h.1
  have := h.2
  simp
  omega

theorem ofInt_nat {x : Int} (h : InU x) : BitVec.ofInt 64 x = BitVec.ofNat 64 x.toNat := by
  obtain ⟨n, rfl⟩ := Int.eq_ofNat_of_zero_le h.1
  rfl

theorem bit_and {x n : Int} (h : InU x) (h0 : 0 ≤ n) (h1 : n ≤ 63) : (bitsI .and .u64 (shrI .u64 x n) 1 == 1) = bit x n.toNat := by
  obtain ⟨X, rfl⟩ := Int.eq_ofNat_of_zero_le h.1
  obtain ⟨N, rfl⟩ := Int.eq_ofNat_of_zero_le h0
  have hX : X < 18446744073709551616 := by have := h.2; omega
  have hN : N ≤ 63 := by omega
  have e1 : shrI .u64 (X : Int) (N : Int) = ((X / 2 ^ N : Nat) : Int) := by
    unfold shrI
    have : min (N : Int).toNat (IntKind.bits .u64) = N := by simp [IntKind.bits]; omega
    rw [this, Int.fdiv_eq_ediv_of_nonneg _ (by exact Int.pow_nonneg (by decide))]
    norm_cast
  rw [e1]
  have hlt : X / 2 ^ N < 18446744073709551616 := Nat.lt_of_le_of_lt (Nat.div_le_self _ _) hX
  have e2 : ((BitVec.ofInt (IntKind.bits .u64) ((X / 2 ^ N : Nat) : Int) &&& BitVec.ofInt (IntKind.bits .u64) 1).toNat) = (X / 2 ^ N) % 2 := by
    show ((BitVec.ofNat 64 (X / 2 ^ N)) &&& (BitVec.ofNat 64 1)).toNat = _
    rw [BitVec.toNat_and, BitVec.toNat_ofNat, BitVec.toNat_ofNat, Nat.mod_eq_of_lt hlt]
    exact Nat.and_one_is_mod _
  simp only [bitsI, e2]
  rw [wrapU ⟨by omega, by omega⟩]
  simp only [bit, Int.toNat_natCast, Nat.testBit_eq_decide_div_mod_eq]
  by_cases hb : (X / 2 ^ N) % 2 = 1
  · simp [hb]
  · have : (X / 2 ^ N) % 2 = 0 := by omega
    simp [this]

theorem bit_sub {a b : Int} (ha : InU a) (hb : InU b) : (bitsI .andNot .u64 a b == 0) = true ↔ ∀ n, n < 64 → bit a n = true → bit b n = true := by
  have e : bitsI .andNot .u64 a b = (((BitVec.ofNat 64 a.toNat) &&& ~~~ (BitVec.ofNat 64 b.toNat)).toNat : Int) := by
    show IntKind.wrap .u64 ((BitVec.ofInt 64 a &&& ~~~ BitVec.ofInt 64 b).toNat : Int) = _
    rw [ofInt_nat ha, ofInt_nat hb, wrapU ⟨by omega, by have := ((BitVec.ofNat 64 a.toNat) &&& ~~~ (BitVec.ofNat 64 b.toNat)).isLt; omega⟩]
  rw [e]
  have e2 : ((((BitVec.ofNat 64 a.toNat) &&& ~~~ (BitVec.ofNat 64 b.toNat)).toNat : Int) == 0) = true ↔ (BitVec.ofNat 64 a.toNat) &&& ~~~ (BitVec.ofNat 64 b.toNat) = 0#64 := by
    rw [BitVec.toNat_eq]
    simp
  rw [e2]
  have ga : ∀ n, n < 64 → (BitVec.ofNat 64 a.toNat).getLsbD n = bit a n := fun n hn => by rw [BitVec.getLsbD_ofNat]; simp [bit, hn]
  have gb : ∀ n, n < 64 → (BitVec.ofNat 64 b.toNat).getLsbD n = bit b n := fun n hn => by rw [BitVec.getLsbD_ofNat]; simp [bit, hn]
  constructor
  · intro h n hn h1
    have := congrArg (fun v => v.getLsbD n) h
    simp only [BitVec.getLsbD_and, BitVec.getLsbD_not, ga n hn, gb n hn, h1, hn, decide_true, Bool.true_and, BitVec.getLsbD_zero] at this
    simpa using this
  · intro h
    apply BitVec.eq_of_getLsbD_eq
    intro n hn
    simp only [BitVec.getLsbD_and, BitVec.getLsbD_not, ga n hn, gb n hn, hn, decide_true, Bool.true_and, BitVec.getLsbD_zero]
    cases h1 : bit a n with
    | false => rfl
    | true => simp [h n hn h1]

end Lf
