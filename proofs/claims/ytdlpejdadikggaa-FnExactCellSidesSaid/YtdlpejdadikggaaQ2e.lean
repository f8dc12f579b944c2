/- What the plain functions of the laws compute, for all inputs within the sizes that the theorems name. -/
import Derived.Test.YtdlpejdadikggaaQ2d
set_option linter.unusedVariables false
namespace Go.Ev.G
open Go Go.Ev
set_option maxRecDepth 100000

theorem gd_nat {a : Int × Int} (h : gd a) : ∃ (n : Int) (j : Nat), a = (n, (j : Int)) ∧ j ≤ 24 ∧ -1099511627776 ≤ n ∧ n ≤ 1099511627776 ∧ (j = 0 ∨ n % 2 ≠ 0) := by
  obtain ⟨n, j⟩ := a
  obtain ⟨h1, h2, h3, h4, h5⟩ := h
  simp only at *
  obtain ⟨j, rfl⟩ := Int.eq_ofNat_of_zero_le h1
  exact ⟨n, j, rfl, by omega, h3, h4, by omega⟩

theorem max_if (a b : Int) : (if a < b then b else a) = max a b := by
  by_cases h : a < b
  · rw [if_pos h]; omega
  · rw [if_neg h]; omega

/-- a number over more places, as a wide one -/
theorem wide_at {n : Int} {j K : Nat} (hj : j ≤ K) (hK : K ≤ 48) (h1 : -1099511627776 ≤ n) (h2 : n ≤ 1099511627776) :
    impl_wideOf n = some (wN (decide (n < 0)) n.natAbs) ∧ impl_wide_shift (wN (decide (n < 0)) n.natAbs) (IntKind.wrap .i64 ((K : Int) - (j : Int))) = some (wN (decide (n < 0)) (n.natAbs * 2 ^ (K - j))) ∧
      n.natAbs * 2 ^ (K - j) < B64 * 33554432 ∧ wV (decide (n < 0)) (n.natAbs * 2 ^ (K - j)) = n * 2 ^ (K - j) := by
  have hw : IntKind.wrap .i64 ((K : Int) - (j : Int)) = ((K - j : Nat) : Int) := by rw [w64] <;> omega
  have hp : 2 ^ (K - j) ≤ 2 ^ 48 := Nat.pow_le_pow_right (by omega) (by omega)
  have hb : n.natAbs * 2 ^ (K - j) < B64 * 33554432 := by
    have : n.natAbs * 2 ^ (K - j) ≤ 1099511627776 * 2 ^ 48 := Nat.mul_le_mul (by omega) hp
    simp only [B64]
    omega
  refine ⟨wideOf_eq (by omega) (by omega), ?_, hb, ?_⟩
  · rw [hw]
    exact shl_eq (by omega) (Nat.lt_of_lt_of_le hb (by simp [B64]))
  · have h0 := wV_of n
    unfold wV at h0 ⊢
    by_cases h : n < 0
    · simp only [h, decide_true, if_true] at h0 ⊢
      conv => rhs; rw [← h0]
      simp [Int.neg_mul]
    · simp only [h, decide_false, Bool.false_eq_true, if_false] at h0 ⊢
      conv => rhs; rw [← h0]
      simp

theorem sumOf_ev {a b : Int × Int} (ha : gd a) (hb : gd b) : Evt (fun k _ => impl_sumOf k a b) (sumD a b) := by
  obtain ⟨n, j, rfl, a1, a2, a3, a4⟩ := gd_nat ha
  obtain ⟨m, i, rfl, b1, b2, b3, b4⟩ := gd_nat hb
  refine Evt.eq (f := fun k q => _) ?_ (fun k q => by rw [impl_sumOf])
  simp only [max_if]
  have hmax : max ((j : Nat) : Int) (i : Int) = ((max j i : Nat) : Int) := by omega
  simp only [hmax]
  obtain ⟨u1, u2, u3, u4⟩ := wide_at (n := n) (j := j) (K := max j i) (by omega) (by omega) a2 a3
  obtain ⟨v1, v2, v3, v4⟩ := wide_at (n := m) (j := i) (K := max j i) (by omega) (by omega) b2 b3
  refine Evt.bind (.const u1) (Evt.bind (.const u2) (Evt.bind (.const v1) (Evt.bind (.const v2) ?_)))
  obtain ⟨neg, M, hM, hv, hev⟩ := add_ev (n1 := decide (n < 0)) (n2 := decide (m < 0)) (M1 := n.natAbs * 2 ^ (max j i - j)) (M2 := m.natAbs * 2 ^ (max j i - i)) (by simp only [B64] at *; omega)
  refine Evt.bind hev (Evt.bind (fit_ev (by simp only [B64] at *; omega) (by omega)) ?_)
  rw [hv, u4, v4]
  have e : sumD (n, (j : Int)) (m, (i : Int)) = mkD (n * 2 ^ (max j i - j) + m * 2 ^ (max j i - i)) (max j i) := by simp [sumD, sumN, exA]
  rw [e]
  exact .pure

/-! Order. -/
def sv (a : Int × Int) : Int := a.1 * 2 ^ (24 - a.2.toNat)

theorem cmpI_mul {a b p : Int} (hp : 0 < p) : cmpI (a * p) (b * p) = cmpI a b := by
  unfold cmpI
  have i1 : (a * p < b * p) ↔ (a < b) := Int.mul_lt_mul_right hp
  have i2 : (b * p < a * p) ↔ (b < a) := Int.mul_lt_mul_right hp
  simp only [i1, i2]

theorem cmpD_scale {n m : Int} {j i K : Nat} (hj : j ≤ K) (hi : i ≤ K) (hK : K ≤ 24) : cmpI (n * 2 ^ (K - j)) (m * 2 ^ (K - i)) = cmpI (n * 2 ^ (24 - j)) (m * 2 ^ (24 - i)) := by
  have hp : (0 : Int) < 2 ^ (24 - K) := Int.pow_pos (by omega)
  rw [← cmpI_mul (a := n * 2 ^ (K - j)) (b := m * 2 ^ (K - i)) hp, Int.mul_assoc, Int.mul_assoc, ← Int.pow_add, ← Int.pow_add]
  rw [show K - j + (24 - K) = 24 - j by omega, show K - i + (24 - K) = 24 - i by omega]

theorem compareD_ev {a b : Int × Int} (ha : gd a) (hb : gd b) : Evt (fun k _ => impl_compareD k a b) (cmpI (sv a) (sv b)) := by
  obtain ⟨n, j, rfl, a1, a2, a3, a4⟩ := gd_nat ha
  obtain ⟨m, i, rfl, b1, b2, b3, b4⟩ := gd_nat hb
  refine Evt.eq (f := fun k q => _) ?_ (fun k q => by rw [impl_compareD])
  simp only [max_if]
  have hmax : max ((j : Nat) : Int) (i : Int) = ((max j i : Nat) : Int) := by omega
  simp only [hmax]
  obtain ⟨u1, u2, u3, u4⟩ := wide_at (n := n) (j := j) (K := max j i) (by omega) (by omega) a2 a3
  obtain ⟨v1, v2, v3, v4⟩ := wide_at (n := m) (j := i) (K := max j i) (by omega) (by omega) b2 b3
  refine Evt.bind (.const u1) (Evt.bind (.const u2) (Evt.bind (.const v1) (Evt.bind (.const v2) (Evt.bind (wV_cmp _ _ _ _) ?_))))
  rw [u4, v4, cmpD_scale (by omega) (by omega) (by omega)]
  exact .pure

theorem sign_eq (n : Int) : spec_l1Sign n = some (cmpI n 0) := by
  unfold spec_l1Sign cmpI
  rcases Int.lt_trichotomy n 0 with h | h | h
  · have h1 : ¬ n > 0 := by omega
    simp [h, h1]
  · subst h; rfl
  · have h1 : ¬ n < 0 := by omega
    simp [h, h1]

theorem dyDown_eq {n : Int} {p : Nat} (hp : 0 < p) (h1 : -9223372036854775807 ≤ n) (h2 : n < 9223372036854775808) : spec_dyDown n p = some (n / (p : Int)) := by
  unfold spec_dyDown
  have e0 : (((p : Nat) : Int) == 0) = false := by rw [beq_eq_false_iff_ne]; omega
  have hq : Int.tmod n p + p * Int.tdiv n p = n := Int.tmod_add_mul_tdiv n p
  have hpi : (0 : Int) < p := by omega
  have hle : -9223372036854775807 ≤ Int.tdiv n p ∧ Int.tdiv n p < 9223372036854775808 := by
    have h3 := Int.natAbs_tdiv_le_natAbs n p
    omega
  rw [e0]
  simp only [cond_false]
  by_cases h : Int.tmod n p < 0
  · have hd : decide (Int.tmod n p < 0) = true := by simpa using h
    have hlt : -(p : Int) < Int.tmod n p := by
      have := Int.lt_tmod_of_pos n hpi
      exact this
    have e : n / (p : Int) = Int.tdiv n p - 1 := by
      have h4 : n = (Int.tmod n p + p) + p * (Int.tdiv n p - 1) := by
        rw [Int.mul_sub, Int.mul_one]; omega
      conv => lhs; rw [h4]
      rw [Int.add_mul_ediv_left _ _ (by omega), Int.ediv_eq_zero_of_lt (by omega) (by omega)]
      omega
    rw [hd, w64 (n := Int.tdiv n p) (by omega) (by omega), w64 (by omega) (by omega), e]
    rfl
  · have hd : decide (Int.tmod n p < 0) = false := by simpa using h
    have hlt : Int.tmod n p < p := Int.tmod_lt_of_pos n hpi
    have e : n / (p : Int) = Int.tdiv n p := by
      have h4 : n = Int.tmod n p + p * Int.tdiv n p := by omega
      conv => lhs; rw [h4]
      rw [Int.add_mul_ediv_left _ _ (by omega), Int.ediv_eq_zero_of_lt (by omega) (by omega)]
      omega
    rw [hd, w64 (n := Int.tdiv n p) (by omega) (by omega), e]
    rfl

theorem dyFloor_eq {n : Int} {j : Nat} (hj : j ≤ 24) (h1 : -1099511627776 ≤ n) (h2 : n ≤ 1099511627776) : spec_dyFloor (n, (j : Int)) = some (n / ((2 ^ j : Nat) : Int)) := by
  unfold spec_dyFloor
  simp only [dyPower_eq (show j ≤ 62 by omega), Option.bind_some]
  rw [dyDown_eq (Nat.pow_pos (by omega)) (by omega) (by omega)]
  rfl

theorem dyCmp_ev {a b : Int × Int} (ha : gd a) (hb : gd b) : Evt (fun k _ => spec_dyCmp k a b) (cmpI (sv a) (sv b)) := by
  obtain ⟨n, j, rfl, a1, a2, a3, a4⟩ := gd_nat ha
  obtain ⟨m, i, rfl, b1, b2, b3, b4⟩ := gd_nat hb
  refine Evt.eq (f := fun k q => _) ?_ (fun k q => by rw [spec_dyCmp])
  refine Evt.bind (.const (dyFloor_eq a1 a2 a3)) (Evt.bind (.const (dyFloor_eq b1 b2 b3)) ?_)
  -- what each is made of
  have part : ∀ (n : Int) (j : Nat), j ≤ 24 → -1099511627776 ≤ n → n ≤ 1099511627776 → ∃ r : Int, 0 ≤ r ∧ r < ((2 ^ j : Nat) : Int) ∧ n = r + (n / ((2 ^ j : Nat) : Int)) * ((2 ^ j : Nat) : Int) ∧ -1099511627776 ≤ n / ((2 ^ j : Nat) : Int) ∧ n / ((2 ^ j : Nat) : Int) ≤ 1099511627776 ∧
      n * 2 ^ (24 - j) = r * 2 ^ (24 - j) + (n / ((2 ^ j : Nat) : Int)) * 16777216 ∧ r * 2 ^ (24 - j) < 16777216 ∧ 0 ≤ r * 2 ^ (24 - j) := by
    intro n j hj h1 h2
    have hp : (0 : Nat) < 2 ^ j := Nat.pow_pos (by omega)
    have hpi : (0 : Int) < ((2 ^ j : Nat) : Int) := by omega
    have e := Int.emod_add_mul_ediv n ((2 ^ j : Nat) : Int)
    have h3 := Int.emod_nonneg n (show ((2 ^ j : Nat) : Int) ≠ 0 by omega)
    have h4 := Int.emod_lt_of_pos n hpi
    have hpow : ((2 ^ j : Nat) : Int) * 2 ^ (24 - j) = 16777216 := by
      rw [show ((2 ^ j : Nat) : Int) = (2 : Int) ^ j by simp, ← Int.pow_add, show j + (24 - j) = 24 by omega]
      rfl
    have hq : (0 : Int) < 2 ^ (24 - j) := Int.pow_pos (by omega)
    refine ⟨n % ((2 ^ j : Nat) : Int), h3, h4, ?_, ?_, ?_, ?_, ?_, ?_⟩
    · rw [Int.mul_comm (n / _)]; exact e.symm
    · have := Int.ediv_le_ediv hpi h1
      have h5 : (-1099511627776 : Int) ≤ -1099511627776 / ((2 ^ j : Nat) : Int) := by
        rw [Int.le_ediv_iff_mul_le hpi]
        have : (1 : Int) ≤ ((2 ^ j : Nat) : Int) := by omega
        omega
      omega
    · have := Int.ediv_le_ediv hpi h2
      have h5 : (1099511627776 : Int) / ((2 ^ j : Nat) : Int) ≤ 1099511627776 := Int.ediv_le_self _ (by omega)
      omega
    · conv => lhs; rw [← e]
      rw [Int.add_mul, Int.mul_comm ((2 ^ j : Nat) : Int), Int.mul_assoc, hpow]
    · rw [← hpow]
      exact Int.mul_lt_mul_of_pos_right h4 hq
    · exact Int.mul_nonneg h3 (by omega)
  obtain ⟨r, r1, r2, r3, r4, r5, r6, r7, r8⟩ := part n j a1 a2 a3
  obtain ⟨s, s1, s2, s3, s4, s5, s6, s7, s8⟩ := part m i b1 b2 b3
  have hsv1 : sv (n, (j : Int)) = r * 2 ^ (24 - j) + (n / ((2 ^ j : Nat) : Int)) * 16777216 := by simp only [sv, Int.toNat_natCast]; exact r6
  have hsv2 : sv (m, (i : Int)) = s * 2 ^ (24 - i) + (m / ((2 ^ i : Nat) : Int)) * 16777216 := by simp only [sv, Int.toNat_natCast]; exact s6
  rw [hsv1, hsv2]
  generalize hP : n / ((2 ^ j : Nat) : Int) = p at *
  generalize hQ : m / ((2 ^ i : Nat) : Int) = q at *
  by_cases hpq : p = q
  · subst hpq
    refine Evt.cfalse (by simp) ?_
    refine Evt.bind (.const (dyPower_eq (show j ≤ 62 by omega))) ?_
    have pj : ((2 ^ j : Nat) : Int) ≤ 16777216 := by
      have : 2 ^ j ≤ 2 ^ 24 := Nat.pow_le_pow_right (by omega) a1
      omega
    have pi : ((2 ^ i : Nat) : Int) ≤ 16777216 := by
      have : 2 ^ i ≤ 2 ^ 24 := Nat.pow_le_pow_right (by omega) b1
      omega
    have w1 : IntKind.wrap .i64 (p * ((2 ^ j : Nat) : Int)) = n - r := by rw [w64] <;> omega
    have w2 : IntKind.wrap .i64 (p * ((2 ^ i : Nat) : Int)) = m - s := by rw [w64] <;> omega
    have w3 : IntKind.wrap .i64 (n - (n - r)) = r := by rw [w64] <;> omega
    have w4 : IntKind.wrap .i64 (m - (m - s)) = s := by rw [w64] <;> omega
    simp only [w1, w3]
    have x1 := dyAt_ev (n := r) (j := j) (K := 24) a1 (by omega) (by omega) (by omega)
    have x2 := dyAt_ev (n := s) (j := i) (K := 24) b1 (by omega) (by omega) (by omega)
    have t1 := atV_small (24 - j) r (by omega) (by omega)
    have t2 := atV_small (24 - i) s (by omega) (by omega)
    refine Evt.bind x1 (Evt.bind (.const (dyPower_eq (show i ≤ 62 by omega))) ?_)
    simp only [w2, w4]
    refine Evt.bind x2 ?_
    rw [atV_true _ _ t1, atV_true _ _ t2, w64 (by omega) (by omega)]
    refine Evt.bind (.const (sign_eq _)) (.const ?_)
    congr 1
    unfold cmpI
    have i1 : (r * 2 ^ (24 - j) - s * 2 ^ (24 - i) < 0) ↔ (r * 2 ^ (24 - j) + p * 16777216 < s * 2 ^ (24 - i) + p * 16777216) := by omega
    have i2 : (0 < r * 2 ^ (24 - j) - s * 2 ^ (24 - i)) ↔ (s * 2 ^ (24 - i) + p * 16777216 < r * 2 ^ (24 - j) + p * 16777216) := by omega
    simp only [i1, i2]
  · refine Evt.ctrue (by simpa using hpq) ?_
    rw [w64 (by omega) (by omega)]
    refine Evt.bind (.const (sign_eq _)) (.const ?_)
    congr 1
    unfold cmpI
    rcases Int.lt_or_gt_of_ne hpq with h | h
    · rw [if_pos (by omega), if_pos (by omega)]
    · rw [if_neg (by omega), if_pos (by omega), if_neg (by omega), if_pos (by omega)]

theorem minus_eq {a : Int × Int} (h : gd a) : impl_minus a = some (-a.1, a.2) := by
  have := h.2.2
  unfold impl_minus
  rw [w64 (by omega) (by omega)]
  congr 2
  omega

theorem gd_neg {a : Int × Int} (h : gd a) : gd (-a.1, a.2) := ⟨h.1, h.2.1, by have := h.2.2; simp; omega, by have := h.2.2; simp; omega, by rcases h.2.2.2.2 with h | h; exact .inl h; exact .inr (by simp; omega)⟩
theorem sv_neg (a : Int × Int) : sv (-a.1, a.2) = -sv a := by simp [sv, Int.neg_mul]
theorem sv_pos {a : Int × Int} : (0 < sv a) ↔ 0 < a.1 := by
  have hp : (0 : Int) < 2 ^ (24 - a.2.toNat) := Int.pow_pos (by omega)
  unfold sv
  constructor
  · intro h; exact Int.pos_of_mul_pos_left h hp
  · intro h; exact Int.mul_pos h hp

/-- the absolute value -/
def absD (a : Int × Int) : Int × Int := ((a.1.natAbs : Int), a.2)
theorem absD_gd {a : Int × Int} (h : gd a) : gd (absD a) := ⟨h.1, h.2.1, by simp [absD] <;> omega, by have := h.2.2; simp [absD]; omega, by rcases h.2.2.2.2 with h | h; exact .inl h; exact .inr (by simp [absD]; omega)⟩
theorem mxAbs_eq {a : Int × Int} (h : gd a) : spec_mxAbs a = some (absD a) := by
  have := h.2.2
  unfold spec_mxAbs spec_l1Abs
  rw [most_eq, w64 (by omega) (by omega)]
  simp only [Option.bind_some, absD]
  congr 2
  omega
end Go.Ev.G
