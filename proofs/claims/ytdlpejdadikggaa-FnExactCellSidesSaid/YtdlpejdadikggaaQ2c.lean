/- What the plain functions of the laws compute, for all inputs within the sizes that the theorems name. -/
import Derived.Test.YtdlpejdadikggaaQ2b
set_option linter.unusedVariables false
namespace Go.Ev.G
open Go Go.Ev
set_option maxRecDepth 100000

/-! The program's way: numbers of 128 bits with a sign. -/
def B64 : Nat := 18446744073709551616
def wN (neg : Bool) (M : Nat) : Bool × Int × Int := (neg, ((M / B64 : Nat) : Int), ((M % B64 : Nat) : Int))
def wV (neg : Bool) (M : Nat) : Int := if neg then -(M : Int) else M

theorem wu64_mod (n : Nat) : IntKind.wrap .u64 (n : Int) = ((n % B64 : Nat) : Int) := by
  rw [IntKind.wrap_u64]; simp [B64]

theorem size_eq {n : Int} (h1 : -9223372036854775808 < n) (h2 : n < 9223372036854775808) : impl_size n = some (n.natAbs : Int) := by
  unfold impl_size
  by_cases h : n < 0
  · have : decide (n < 0) = true := by simpa using h
    have e1 : IntKind.wrap .i64 (0 - n) = -n := by rw [w64] <;> omega
    have e2 : IntKind.wrap .u64 (-n) = -n := by rw [wu64] <;> omega
    rw [this, e1, e2]
    simp only [cond_true]; congr 1; omega
  · have : decide (n < 0) = false := by simpa using h
    have e2 : IntKind.wrap .u64 n = n := by rw [wu64] <;> omega
    rw [this, e2]
    simp only [cond_false]; congr 1; omega

theorem wideOf_eq {n : Int} (h1 : -9223372036854775808 < n) (h2 : n < 9223372036854775808) : impl_wideOf n = some (wN (decide (n < 0)) n.natAbs) := by
  unfold impl_wideOf wN
  rw [size_eq h1 h2]
  simp only [Option.bind_some]
  have e1 : n.natAbs / B64 = 0 := Nat.div_eq_of_lt (by simp only [B64]; omega)
  have e2 : n.natAbs % B64 = n.natAbs := Nat.mod_eq_of_lt (by simp only [B64]; omega)
  rw [e1, e2]; rfl

theorem wV_of (n : Int) : wV (decide (n < 0)) n.natAbs = n := by
  unfold wV
  by_cases h : n < 0
  · simp [h]; omega
  · simp [h]; omega

theorem or_add {a b : Nat} (i : Nat) (hb : b < 2 ^ i) (ha : a * 2 ^ i < B64) : (a * 2 ^ i) ||| b = a * 2 ^ i + b := by
  have := Nat.shiftLeft_add_eq_or_of_lt hb a
  rw [Nat.shiftLeft_eq] at this
  exact this.symm

theorem orw {a b : Nat} (ha : a < B64) (hb : b < B64) : (BitVec.toNat (BitVec.ofInt (IntKind.bits .u64) (a : Int) ||| BitVec.ofInt (IntKind.bits .u64) (b : Int)) : Int) = ((a ||| b : Nat) : Int) := by
  have key : ∀ c : Nat, c < B64 → (BitVec.ofInt (IntKind.bits .u64) (c : Int)).toNat = c := by
    intro c hc
    simp only [B64] at hc
    rw [BitVec.toNat_ofInt]
    simp only [IntKind.bits]
    omega
  rw [BitVec.toNat_or, key a ha, key b hb]

theorem fdiv_pow (a m : Nat) : Int.fdiv (a : Int) (2 ^ m) = ((a / 2 ^ m : Nat) : Int) := by
  rw [show (2 : Int) ^ m = ((2 ^ m : Nat) : Int) by simp]
  rw [Int.fdiv_eq_ediv_of_nonneg _ (Int.natCast_nonneg _)]
  exact (Int.natCast_ediv a (2 ^ m)).symm
theorem mul_powN (a m : Nat) : (a : Int) * 2 ^ m = ((a * 2 ^ m : Nat) : Int) := by simp

/-- to the left -/
theorem shl_eq {neg : Bool} {M s : Nat} (hs : s < 64) (hM : M * 2 ^ s < B64 * B64) : impl_wide_shift (wN neg M) s = some (wN neg (M * 2 ^ s)) := by
  have hp : 0 < 2 ^ s := Nat.pow_pos (by omega)
  have h64 : 2 ^ s * 2 ^ (64 - s) = B64 := by
    rw [← Nat.pow_add, show s + (64 - s) = 64 by omega]; rfl
  unfold impl_wide_shift
  have c1 : decide ((s : Int) ≥ 0) = true := by simp
  have c2 : decide ((s : Int) ≥ 64) = false := by simp; omega
  have c3 : decide ((s : Int) < 0) = false := by simp
  have w1 : IntKind.wrap .i64 (64 - (s : Int)) = ((64 - s : Nat) : Int) := by rw [w64] <;> omega
  have c4 : decide (((64 - s : Nat) : Int) < 0) = false := by simp
  rw [c1, c2, c3, w1, c4]
  simp only [cond_true, cond_false]
  have m1 : min (Int.toNat (s : Int)) (IntKind.bits .u64) = s := by simp [IntKind.bits]; omega
  have m2 : min (Int.toNat ((64 - s : Nat) : Int)) (IntKind.bits .u64) = 64 - s := by simp [IntKind.bits]
  rw [m1, m2]
  simp only [wN]
  rw [mul_powN, mul_powN, fdiv_pow, wu64_mod (M / B64 * 2 ^ s)]
  have hlo : M % B64 < B64 := Nat.mod_lt _ (by simp [B64])
  have hdiv : M % B64 / 2 ^ (64 - s) < 2 ^ s := by
    apply Nat.div_lt_of_lt_mul
    rw [Nat.mul_comm, h64]; exact hlo
  have hhi : M / B64 * 2 ^ s < B64 := by
    have h1 : M / B64 * B64 ≤ M := Nat.div_mul_le_self M B64
    have h2 : M / B64 * 2 ^ s * B64 ≤ M * 2 ^ s := by
      rw [Nat.mul_right_comm]; exact Nat.mul_le_mul_right _ h1
    exact Nat.lt_of_mul_lt_mul_right (Nat.lt_of_le_of_lt h2 hM)
  rw [Nat.mod_eq_of_lt hhi, orw hhi (Nat.lt_of_lt_of_le hdiv (by rw [← h64]; exact Nat.le_mul_of_pos_right _ (Nat.pow_pos (by omega)))), or_add s hdiv hhi, wu64_mod, wu64_mod]
  have e : M * 2 ^ s = (M / B64 * 2 ^ s + M % B64 / 2 ^ (64 - s)) * B64 + (M % B64 * 2 ^ s) % B64 := by
    have e1 : M = M / B64 * B64 + M % B64 := by rw [Nat.mul_comm]; exact (Nat.div_add_mod M B64).symm
    have e2 : M % B64 * 2 ^ s / B64 = M % B64 / 2 ^ (64 - s) := by
      rw [← h64, Nat.mul_comm (M % (2 ^ s * 2 ^ (64 - s)))]
      exact Nat.mul_div_mul_left _ _ hp
    have e3 : M % B64 * 2 ^ s = M % B64 / 2 ^ (64 - s) * B64 + (M % B64 * 2 ^ s) % B64 := by
      have := Nat.div_add_mod (M % B64 * 2 ^ s) B64
      rw [e2, Nat.mul_comm B64] at this
      exact this.symm
    have e4 : M * 2 ^ s = M / B64 * 2 ^ s * B64 + M % B64 * 2 ^ s := by
      conv => lhs; rw [e1]
      rw [Nat.add_mul, Nat.mul_right_comm]
    rw [Nat.add_mul, Nat.add_assoc, ← e3]
    exact e4
  have hlt : (M % B64 * 2 ^ s) % B64 < B64 := Nat.mod_lt _ (by simp [B64])
  have f1 : M * 2 ^ s / B64 = M / B64 * 2 ^ s + M % B64 / 2 ^ (64 - s) := by
    rw [e, Nat.mul_comm, Nat.mul_add_div (by simp [B64]), Nat.div_eq_of_lt hlt, Nat.add_zero]
  have f2 : M * 2 ^ s % B64 = (M % B64 * 2 ^ s) % B64 := by
    conv => lhs; rw [e]
    rw [Nat.mul_comm, Nat.mul_add_mod, Nat.mod_mod]
  rw [f1, f2]
  have f3 : M / B64 * 2 ^ s + M % B64 / 2 ^ (64 - s) < B64 := by
    rw [← f1]
    exact Nat.div_lt_of_lt_mul hM
  rw [Nat.mod_eq_of_lt f3]

/-- to the right -/
theorem shr_eq {neg : Bool} {M j : Nat} (hj : 0 < j) (hs : j < 64) (hM : M < B64 * B64) : impl_wide_shift (wN neg M) (-(j : Int)) = some (wN neg (M / 2 ^ j)) := by
  have hp : 0 < 2 ^ j := Nat.pow_pos (by omega)
  have h64 : 2 ^ (64 - j) * 2 ^ j = B64 := by
    rw [← Nat.pow_add, show 64 - j + j = 64 by omega]; rfl
  unfold impl_wide_shift
  have c1 : decide (-(j : Int) ≥ 0) = false := by simp; omega
  have w0 : IntKind.wrap .i64 (0 - -(j : Int)) = (j : Int) := by rw [w64] <;> omega
  have c2 : decide ((j : Int) ≥ 64) = false := by simp; omega
  have c3 : decide ((j : Int) < 0) = false := by simp
  have w1 : IntKind.wrap .i64 (64 - (j : Int)) = ((64 - j : Nat) : Int) := by rw [w64] <;> omega
  have c4 : decide (((64 - j : Nat) : Int) < 0) = false := by simp
  rw [c1]
  simp only [cond_false, w0, c2, c3, w1, c4]
  have m1 : min (Int.toNat (j : Int)) (IntKind.bits .u64) = j := by simp [IntKind.bits]; omega
  have m2 : min (Int.toNat ((64 - j : Nat) : Int)) (IntKind.bits .u64) = 64 - j := by simp [IntKind.bits]
  rw [m1, m2]
  simp only [wN]
  rw [mul_powN, fdiv_pow, fdiv_pow, wu64_mod (M / B64 * 2 ^ (64 - j))]
  have hlo : M % B64 < B64 := Nat.mod_lt _ (by simp [B64])
  have hhi : M / B64 < B64 := Nat.div_lt_of_lt_mul hM
  -- the high part's low bits
  have hq : (M / B64 * 2 ^ (64 - j)) % B64 = (M / B64 % 2 ^ j) * 2 ^ (64 - j) := by
    rw [← h64, Nat.mul_comm (M / (2 ^ (64 - j) * 2 ^ j)), Nat.mul_mod_mul_left, Nat.mul_comm]
  have hdiv : M % B64 / 2 ^ j < 2 ^ (64 - j) := by
    apply Nat.div_lt_of_lt_mul
    rw [Nat.mul_comm, h64]; exact hlo
  have hql : (M / B64 % 2 ^ j) * 2 ^ (64 - j) < B64 := by
    rw [← h64, Nat.mul_comm]
    exact Nat.mul_lt_mul_of_pos_left (Nat.mod_lt _ hp) (Nat.pow_pos (by omega))
  rw [hq, orw (Nat.lt_of_lt_of_le hdiv (by rw [← h64]; exact Nat.le_mul_of_pos_right _ hp)) hql, Nat.or_comm, or_add (64 - j) hdiv hql, wu64_mod]
  have f1 : M / 2 ^ j / B64 = M / B64 / 2 ^ j := by rw [Nat.div_div_eq_div_mul, Nat.div_div_eq_div_mul, Nat.mul_comm]
  have f2 : M / 2 ^ j % B64 = (M / B64 % 2 ^ j) * 2 ^ (64 - j) + M % B64 / 2 ^ j := by
    have e1 : M = (M / B64 / 2 ^ j * 2 ^ j + M / B64 % 2 ^ j) * B64 + M % B64 := by
      have a1 := Nat.div_add_mod M B64
      have a2 := Nat.div_add_mod (M / B64) (2 ^ j)
      rw [Nat.mul_comm (M / B64 / 2 ^ j), a2, Nat.mul_comm]
      exact a1.symm
    have e2 : M / 2 ^ j = M / B64 / 2 ^ j * B64 + ((M / B64 % 2 ^ j) * 2 ^ (64 - j) + M % B64 / 2 ^ j) := by
      have e3 : M = 2 ^ j * (M / B64 / 2 ^ j * B64 + (M / B64 % 2 ^ j) * 2 ^ (64 - j)) + M % B64 := by
        conv => lhs; rw [e1]
        have e5 : ∀ a : Nat, a * B64 = 2 ^ j * (a * 2 ^ (64 - j)) := fun a => by
            rw [Nat.mul_left_comm, Nat.mul_comm (2 ^ j), h64]
        rw [Nat.add_mul, e5 (M / B64 % 2 ^ j), Nat.mul_add, Nat.mul_comm (M / B64 / 2 ^ j) (2 ^ j), Nat.mul_assoc]
      conv => lhs; rw [e3]
      rw [Nat.mul_add_div hp, Nat.add_assoc]
    rw [e2, Nat.mul_comm (M / B64 / 2 ^ j), Nat.mul_add_mod, Nat.mod_eq_of_lt]
    have := Nat.mod_lt (M / B64) hp
    have h3 : (M / B64 % 2 ^ j + 1) * 2 ^ (64 - j) ≤ B64 := Nat.le_trans (Nat.mul_le_mul_right _ this) (by rw [Nat.mul_comm, h64]; exact Nat.le_refl _)
    rw [Nat.add_mul, Nat.one_mul] at h3
    omega
  rw [f1, f2]
  have f3 : (M / B64 % 2 ^ j) * 2 ^ (64 - j) + M % B64 / 2 ^ j < B64 := by rw [← f2]; exact Nat.mod_lt _ (by simp [B64])
  rw [Nat.mod_eq_of_lt f3]
end Go.Ev.G
