/- What the plain functions of the laws compute, for all inputs within the sizes that the theorems name. -/
import Derived.Test.YtdlpejdadikggaaQ2a
set_option linter.unusedVariables false
namespace Go.Ev.G
open Go Go.Ev
set_option maxRecDepth 100000

def exA (a b : Int × Int) : Nat := max a.2.toNat b.2.toNat
def sumN (a b : Int × Int) : Int := a.1 * 2 ^ (exA a b - a.2.toNat) + b.1 * 2 ^ (exA a b - b.2.toNat)
def sumD (a b : Int × Int) : (Int × Int) × Bool := mkD (sumN a b) (exA a b)

theorem most_eq (a b : Int) : spec_l1Most a b = some (max a b) := by
  unfold spec_l1Most
  by_cases h : a > b
  · have : decide (a > b) = true := by simpa using h
    rw [this]; simp only [cond_true]; congr 1; omega
  · have : decide (a > b) = false := by simpa using h
    rw [this]; simp only [cond_false]; congr 1; omega

theorem exA_eq {a b : Int × Int} (ha : gd a) (hb : gd b) : max a.2 b.2 = ((exA a b : Nat) : Int) := by
  have h1 := ha.1
  have h2 := hb.1
  unfold exA
  omega

theorem pow_mono (m : Nat) (h : m ≤ 24) : (1 : Int) ≤ 2 ^ m ∧ (2 : Int) ^ m ≤ 16777216 := by
  have h1 : (2 : Nat) ^ m ≤ 2 ^ 24 := Nat.pow_le_pow_right (by omega) h
  have h2 : (0 : Nat) < 2 ^ m := Nat.pow_pos (by omega)
  have h3 : ((2 ^ m : Nat) : Int) = (2 : Int) ^ m := by simp
  rw [← h3]
  omega

/-- a bound of a product with a power -/
theorem mul_pow_bound {n : Int} {m : Nat} (h : m ≤ 24) {B : Int} (hB : 0 ≤ B) (h1 : -B ≤ n) (h2 : n ≤ B) : -(B * 16777216) ≤ n * 2 ^ m ∧ n * 2 ^ m ≤ B * 16777216 := by
  have hp := pow_mono m h
  constructor
  · rcases Int.le_total 0 n with hn | hn
    · have : 0 ≤ n * 2 ^ m := Int.mul_nonneg hn (by omega)
      have : 0 ≤ B * 16777216 := Int.mul_nonneg hB (by omega)
      omega
    · have e1 : n * 16777216 ≤ n * 2 ^ m := Int.mul_le_mul_of_nonpos_left hn hp.2
      omega
  · rcases Int.le_total 0 n with hn | hn
    · have e1 : n * 2 ^ m ≤ n * 16777216 := Int.mul_le_mul_of_nonneg_left hp.2 hn
      omega
    · have : n * 2 ^ m ≤ 0 := Int.mul_nonpos_of_nonpos_of_nonneg hn (by omega)
      have : 0 ≤ B * 16777216 := Int.mul_nonneg hB (by omega)
      omega

theorem mkD_odd {n : Int} {k : Nat} (h : n % 2 ≠ 0) (hl : n < -1099511627776 ∨ 1099511627776 < n) : mkD n k = ((0, 0), false) := by
  unfold mkD
  rw [strip_odd h]
  rw [if_neg]
  intro hc
  have := hc.1
  have := hc.2.1
  simp at *
  omega

theorem even_pow {n : Int} {m : Nat} (h : 0 < m) : (n * 2 ^ m) % 2 = 0 := by
  obtain ⟨q, rfl⟩ : ∃ q, m = q + 1 := ⟨m - 1, by omega⟩
  rw [Int.pow_succ, ← Int.mul_assoc]
  omega

theorem dyAdd_ev {a b : Int × Int} (ha : gd a) (hb : gd b) : Evt (fun k _ => spec_dyAdd k a b) (sumD a b) := by
  obtain ⟨n, j⟩ := a
  obtain ⟨m, i⟩ := b
  obtain ⟨a1, a2, a3, a4, a5⟩ := ha
  obtain ⟨b1, b2, b3, b4, b5⟩ := hb
  simp only at *
  obtain ⟨j, rfl⟩ := Int.eq_ofNat_of_zero_le a1
  obtain ⟨i, rfl⟩ := Int.eq_ofNat_of_zero_le b1
  refine Evt.eq (f := fun k q => _) ?_ (fun k q => by rw [spec_dyAdd])
  refine Evt.bind (.const (most_eq _ _)) ?_
  have hmax : max ((j : Nat) : Int) (i : Int) = ((max j i : Nat) : Int) := by omega
  simp only [hmax]
  have e : sumD (n, (j : Int)) (m, (i : Int)) = mkD (n * 2 ^ (max j i - j) + m * 2 ^ (max j i - i)) (max j i) := by simp [sumD, sumN, exA]
  rw [e]
  refine Evt.bind (dyAt_ev (by omega) (by omega) (by omega) (by omega)) (Evt.bind (dyAt_ev (by omega) (by omega) (by omega) (by omega)) ?_)
  have hbn := mul_pow_bound (n := n) (m := max j i - j) (by omega) (B := 1099511627776) (by omega) a3 a4
  have hbm := mul_pow_bound (n := m) (m := max j i - i) (by omega) (B := 1099511627776) (by omega) b3 b4
  cases h1 : (atV (max j i - j) n).2 with
  | false =>
    refine Evt.ctrue rfl ?_
    obtain ⟨hpos, hl⟩ := atV_large _ _ h1
    have hij : max j i = i := by omega
    have hodd : m % 2 ≠ 0 := by
      rcases b5 with h | h
      · omega
      · exact h
    have hev := even_pow (n := n) hpos
    rw [hij] at hl hev ⊢
    simp only [Nat.sub_self, Int.pow_zero, Int.mul_one]
    rw [mkD_odd (by omega) (by omega)]
    exact .pure
  | true =>
    refine Evt.cfalse rfl ?_
    cases h2 : (atV (max j i - i) m).2 with
    | false =>
      refine Evt.ctrue rfl ?_
      obtain ⟨hpos, hl⟩ := atV_large _ _ h2
      have hij : max j i = j := by omega
      have hodd : n % 2 ≠ 0 := by
        rcases a5 with h | h
        · omega
        · exact h
      have hev := even_pow (n := m) hpos
      rw [hij] at hl hev ⊢
      simp only [Nat.sub_self, Int.pow_zero, Int.mul_one]
      rw [mkD_odd (by omega) (by omega)]
      exact .pure
    | true =>
      refine Evt.cfalse rfl ?_
      rw [atV_true _ _ h1, atV_true _ _ h2]
      -- neither is too large: the sum fits
      have hsum : -9223372036854775808 < n * 2 ^ (max j i - j) + m * 2 ^ (max j i - i) ∧ n * 2 ^ (max j i - j) + m * 2 ^ (max j i - i) < 9223372036854775808 := by
        have g1 : ∀ (q : Nat) (z : Int), -1099511627776 ≤ z → z ≤ 1099511627776 → (atV q z).2 = true → -2305843009213693952 ≤ z * 2 ^ q ∧ z * 2 ^ q ≤ 2305843009213693952 := by
          intro q
          induction q with
          | zero => intro z h1 h2 _; simp; omega
          | succ q ih =>
            intro z _ _ h
            have key : ∀ (q : Nat) (z : Int), (atV (q + 1) z).2 = true → -1152921504606846976 ≤ z * 2 ^ q ∧ z * 2 ^ q ≤ 1152921504606846976 := by
              intro q
              induction q with
              | zero =>
                intro z h
                unfold atV at h
                split at h
                · rename_i hc; simpa using hc
                · cases h
              | succ q ih =>
                intro z h
                unfold atV at h
                split at h
                · have := ih (z * 2) h
                  rw [show z * 2 ^ (q + 1) = z * 2 * 2 ^ q by rw [Int.pow_succ, Int.mul_assoc, Int.mul_comm 2]]
                  exact this
                · cases h
            have := key q z h
            rw [Int.pow_succ, ← Int.mul_assoc]
            omega
        have u1 := g1 _ _ a3 a4 h1
        have u2 := g1 _ _ b3 b4 h2
        omega
      rw [w64 (by omega) (by omega)]
      exact Evt.bind (dyMake_ev hsum.1 hsum.2 (by omega)) .pure

theorem sumD_gd (a b : Int × Int) : gd (sumD a b).1 := mkD_gd _ _

theorem sumD_zero {x : Int × Int} (h : gd x) : sumD (0, 0) x = (x, true) := by
  have e : exA (0, 0) x = x.2.toNat := by simp [exA]
  have e2 : sumN (0, 0) x = x.1 := by simp [sumN, e]
  rw [sumD, e, e2, mkD_self h]
end Go.Ev.G
