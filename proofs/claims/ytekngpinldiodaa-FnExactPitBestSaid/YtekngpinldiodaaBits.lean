/- Sets of blocks as numbers: how a bit is tested and set. No program in sight; numbers below 2^62. -/
import Derived.WalkKit
namespace Go.Proofs.Ytekngpinldiodaa
open Go.RowKit

theorem div_cast (S k : Nat) : ((S : Int) / 2 ^ k) = ((S / 2 ^ k : Nat) : Int) := by
  rw [Int.natCast_ediv]
  congr 1
theorem bit_div (S k : Nat) : S / 2 ^ k % 2 = if S.testBit k then 1 else 0 := by
  rw [Nat.testBit_eq_decide_div_mod_eq]
  have := Nat.mod_two_eq_zero_or_one (S / 2 ^ k)
  by_cases h : S / 2 ^ k % 2 = 1
  · simp [h]
  · simp [h]; omega
theorem tmod_bit (S k : Nat) : ((S : Int) / 2 ^ k).tmod 2 = if S.testBit k then 1 else 0 := by
  rw [div_cast]
  have h := bit_div S k
  have e : ((S / 2 ^ k : Nat) : Int).tmod 2 = ((S / 2 ^ k % 2 : Nat) : Int) := by
    rw [Int.tmod_eq_emod_of_nonneg (Int.natCast_nonneg _), Int.natCast_emod]
    rfl
  rw [e, h]
  split <;> rfl
theorem wraps62 (n : Int) (h₀ : 0 ≤ n) (h₁ : n < 2 ^ 62) : IntKind.i64.wrap n = n := by rw [IntKind.wrap_i64]; omega
theorem and_nat (a b : Nat) (ha : a < 2 ^ 62) (hb : b < 2 ^ 62) : bits .and .i64 (a : Int) (b : Int) = ((a &&& b : Nat) : Int) := (bits_nat .i64 62 (by decide) wraps62 a b ha hb).1
theorem or_nat (a b : Nat) (ha : a < 2 ^ 62) (hb : b < 2 ^ 62) : bits .or .i64 (a : Int) (b : Int) = ((a ||| b : Nat) : Int) := (bits_nat .i64 62 (by decide) wraps62 a b ha hb).2
theorem and_bit (S k : Nat) (hS : S < 2 ^ 62) : bits .and .i64 ((S : Int) / 2 ^ k) 1 = if S.testBit k then 1 else 0 := by
  rw [div_cast]
  have h := and_nat (S / 2 ^ k) 1 (Nat.lt_of_le_of_lt (Nat.div_le_self _ _) hS) (by decide)
  rw [show ((1 : Nat) : Int) = 1 from rfl] at h
  rw [h, Nat.and_one_is_mod, bit_div]
  split <;> rfl

section
variable {S k : Nat}
theorem tmod1_t (h : S.testBit k = true) : (((S : Int) / 2 ^ k).tmod 2 == 1) = true := by rw [tmod_bit, h]; rfl
theorem tmod1_f (h : S.testBit k = false) : (((S : Int) / 2 ^ k).tmod 2 == 1) = false := by rw [tmod_bit, h]; rfl
theorem tmod0_t (h : S.testBit k = true) : (((S : Int) / 2 ^ k).tmod 2 == 0) = false := by rw [tmod_bit, h]; rfl
theorem tmod0_f (h : S.testBit k = false) : (((S : Int) / 2 ^ k).tmod 2 == 0) = true := by rw [tmod_bit, h]; rfl
theorem and1_t (hS : S < 2 ^ 62) (h : S.testBit k = true) : (bits .and .i64 ((S : Int) / 2 ^ k) 1 == 1) = true := by rw [and_bit S k hS, h]; rfl
theorem and1_f (hS : S < 2 ^ 62) (h : S.testBit k = false) : (bits .and .i64 ((S : Int) / 2 ^ k) 1 == 1) = false := by rw [and_bit S k hS, h]; rfl
theorem and0_t (hS : S < 2 ^ 62) (h : S.testBit k = true) : (bits .and .i64 ((S : Int) / 2 ^ k) 1 == 0) = false := by rw [and_bit S k hS, h]; rfl
theorem and0_f (hS : S < 2 ^ 62) (h : S.testBit k = false) : (bits .and .i64 ((S : Int) / 2 ^ k) 1 == 0) = true := by rw [and_bit S k hS, h]; rfl
end
theorem pow_int (n : Nat) : (2 : Int) ^ n = ((2 ^ n : Nat) : Int) := by norm_cast
theorem pow_lt {n m : Nat} (h : n ≤ m) : 2 ^ n ≤ 2 ^ m := Nat.pow_le_pow_right (by decide) h
theorem wrap_pow {n : Nat} (h : n ≤ 60) : wrap64 (2 ^ n) = 2 ^ n := by
  have := pow_lt h
  rw [pow_int]
  generalize 2 ^ n = m at *
  unfold wrap64
  have e : (2 ^ 60 : Nat) = 1152921504606846976 := by decide
  omega
theorem wrap_pow1 {n : Nat} (h : n ≤ 60) : wrap64 (2 ^ n - 1) = 2 ^ n - 1 := by
  have := pow_lt h
  have h0 : 0 < 2 ^ n := Nat.two_pow_pos n
  rw [pow_int]
  generalize 2 ^ n = m at *
  unfold wrap64
  have e : (2 ^ 60 : Nat) = 1152921504606846976 := by decide
  omega
theorem or_add_bit (S k : Nat) (h : S.testBit k = false) : S + 2 ^ k = S ||| 2 ^ k := by
  have hr : S % 2 ^ (k + 1) < 2 ^ (k + 1) := Nat.mod_lt _ (Nat.two_pow_pos _)
  have hb : (S % 2 ^ (k + 1)).testBit k = false := by simp [Nat.testBit_mod_two_pow, h]
  have hS : 2 ^ (k + 1) * (S / 2 ^ (k + 1)) + S % 2 ^ (k + 1) = S := Nat.div_add_mod _ _
  generalize S % 2 ^ (k + 1) = r at *
  generalize S / 2 ^ (k + 1) = a at *
  have hr2 : r < 2 ^ k := by
    rcases Nat.lt_or_ge r (2 ^ k) with h1 | h1
    · exact h1
    · have e : r / 2 ^ k = 1 := by
        have h2 : r < 2 * 2 ^ k := by rw [Nat.pow_succ] at hr; omega
        have h3 := Nat.div_lt_of_lt_mul (by rw [Nat.mul_comm] at h2; exact h2)
        have h4 := Nat.div_pos h1 (Nat.two_pow_pos k)
        omega
      rw [Nat.testBit_eq_decide_div_mod_eq, e] at hb
      simp at hb
  have e1 : 2 ^ (k + 1) * a + r = 2 ^ (k + 1) * a ||| r := Nat.two_pow_add_eq_or_of_lt hr a
  have e3 : 2 ^ k * 1 + r = 2 ^ k * 1 ||| r := Nat.two_pow_add_eq_or_of_lt hr2 1
  have e2 : 2 ^ (k + 1) * a + (2 ^ k * 1 + r) = 2 ^ (k + 1) * a ||| (2 ^ k * 1 + r) := Nat.two_pow_add_eq_or_of_lt (by rw [Nat.pow_succ]; omega) a
  rw [← hS, show 2 ^ (k + 1) * a + r + 2 ^ k = 2 ^ (k + 1) * a + (2 ^ k * 1 + r) by omega, e2, e3, e1, Nat.mul_one, Nat.or_comm (2 ^ k) r, Nat.or_assoc]
theorem or_has_bit (S k : Nat) (h : S.testBit k = true) : S ||| 2 ^ k = S := by
  apply Nat.eq_of_testBit_eq
  intro i
  rw [Nat.testBit_or, Nat.testBit_two_pow]
  by_cases e : k = i
  · subst e; simp [h]
  · simp [e]

theorem or_pow_i64 {S k : Nat} (hS : S < 2 ^ 62) (hk : k < 62) : bits .or .i64 (S : Int) (2 ^ k) = ((S ||| 2 ^ k : Nat) : Int) := by
  have := or_nat S (2 ^ k) hS (Nat.pow_lt_pow_right (by decide) hk)
  rw [← pow_int] at this
  exact this
end Go.Proofs.Ytekngpinldiodaa
