/- What the plain functions of the laws compute, for all inputs within the sizes that the theorems name. -/
import Derived.Test.YtdlpejdadikggaaP1
import Derived.Test.YtdlpejdadikggaaPl0
set_option linter.unusedVariables false
namespace Go.Ev.G
open Go Go.Ev
set_option maxRecDepth 100000

/-! Dyadic numbers. -/
def gd (a : Int × Int) : Prop := 0 ≤ a.2 ∧ a.2 ≤ 24 ∧ -1099511627776 ≤ a.1 ∧ a.1 ≤ 1099511627776 ∧ (a.2 = 0 ∨ a.1 % 2 ≠ 0)
instance (a : Int × Int) : Decidable (gd a) := by unfold gd; infer_instance

theorem tmod2 (n : Int) : (Int.tmod n 2 = 0) ↔ n % 2 = 0 := by
  rw [← Int.dvd_iff_tmod_eq_zero, Int.dvd_iff_emod_eq_zero]
theorem tdiv2 {n : Int} (h : n % 2 = 0) : Int.tdiv n 2 = n / 2 := Int.tdiv_eq_ediv_of_dvd (Int.dvd_of_emod_eq_zero h)

theorem l1In_eq (n lo hi : Int) : spec_l1In n lo hi = some (decide (lo ≤ n ∧ n ≤ hi)) := by
  unfold spec_l1In
  by_cases h : lo ≤ n
  · have : decide (n ≥ lo) = true := by simpa using h
    rw [this]; simp [h]
  · have : decide (n ≥ lo) = false := by simpa using h
    rw [this]; simp [h]
theorem inside_eq (n lo hi : Int) : impl_inside n lo hi = some (decide (lo ≤ n ∧ n ≤ hi)) := l1In_eq n lo hi
theorem isPlaces_eq (n : Int) : impl_isPlaces n = some (decide (0 ≤ n ∧ n ≤ 24)) := by
  unfold impl_isPlaces
  rw [inside_eq]; rfl

theorem dyGood_eq (a : Int × Int) : spec_dyGood a = some (decide (gd a)) := by
  unfold spec_dyGood
  rw [l1In_eq, l1In_eq]
  have h0 := tmod2 a.1
  by_cases h1 : 0 ≤ a.2 ∧ a.2 ≤ 24
  · simp only [h1, and_self, decide_true, Option.bind_some, cond_true]
    by_cases h2 : -1099511627776 ≤ a.1 ∧ a.1 ≤ 1099511627776
    · simp only [h2, and_self, decide_true, Option.bind_some, cond_true]
      by_cases h3 : a.2 = 0
      · have : gd a := ⟨h1.1, h1.2, h2.1, h2.2, .inl h3⟩
        simp [h3, this]
      · have e : (a.2 == 0) = false := by simpa using h3
        rw [e]
        by_cases h4 : a.1 % 2 = 0
        · have : ¬ gd a := fun h => by rcases h.2.2.2.2 with h | h <;> contradiction
          simp [h0.2 h4, this]
        · have h5 : gd a := ⟨h1.1, h1.2, h2.1, h2.2, .inr h4⟩
          have : ¬ Int.tmod a.1 2 = 0 := fun h => h4 (h0.1 h)
          simp [this, h5]
    · have : ¬ gd a := fun h => h2 ⟨h.2.2.1, h.2.2.2.1⟩
      simp only [h2, decide_false, Option.bind_some, cond_false, this]
  · have : ¬ gd a := fun h => h1 ⟨h.1, h.2.1⟩
    simp only [h1, decide_false, Option.bind_some, cond_false, this]
theorem isDyadic_eq (a : Int × Int) : impl_isDyadic a = some (decide (gd a)) := by
  rw [← dyGood_eq]
  unfold impl_isDyadic spec_dyGood
  rw [isPlaces_eq, l1In_eq, inside_eq, l1In_eq]

/-- powers of 2 are taken off a numerator, as long as there are places -/
def strip : Nat → Int → Int × Nat
  | 0, n => (n, 0)
  | k + 1, n => if n % 2 = 0 then strip k (n / 2) else (n, k + 1)

def mkD (n : Int) (k : Nat) : (Int × Int) × Bool :=
  if -1099511627776 ≤ (strip k n).1 ∧ (strip k n).1 ≤ 1099511627776 ∧ (strip k n).2 ≤ 24 then (((strip k n).1, ((strip k n).2 : Int)), true) else ((0, 0), false)

theorem strip_form : ∀ (k : Nat) (n : Int), (strip k n).2 = 0 ∨ (strip k n).1 % 2 ≠ 0
  | 0, n => .inl rfl
  | k + 1, n => by
    unfold strip
    split
    · exact strip_form k _
    · rename_i h; exact .inr h
theorem strip_le : ∀ (k : Nat) (n : Int), (strip k n).2 ≤ k
  | 0, n => Nat.le_refl _
  | k + 1, n => by
    unfold strip
    split
    · have := strip_le k (n / 2); omega
    · exact Nat.le_refl _
theorem strip_zero : ∀ (k : Nat), strip k 0 = (0, 0)
  | 0 => rfl
  | k + 1 => by unfold strip; simp [strip_zero k]
theorem strip_neg : ∀ (k : Nat) (n : Int), strip k (-n) = (-(strip k n).1, (strip k n).2)
  | 0, n => rfl
  | k + 1, n => by
    unfold strip
    by_cases h : n % 2 = 0
    · have h' : (-n) % 2 = 0 := by omega
      rw [if_pos h, if_pos h', show -n / 2 = -(n / 2) by omega, strip_neg k]
    · have h' : ¬ (-n) % 2 = 0 := by omega
      rw [if_neg h, if_neg h']
theorem strip_bound : ∀ (k : Nat) (n : Int), 0 ≤ n → 0 ≤ (strip k n).1 ∧ (strip k n).1 ≤ n
  | 0, n, h => ⟨h, Int.le_refl _⟩
  | k + 1, n, h => by
    unfold strip
    split
    · have := strip_bound k (n / 2) (by omega); omega
    · exact ⟨h, Int.le_refl _⟩
theorem strip_ne : ∀ (k : Nat) (n : Int), n ≠ 0 → (strip k n).1 ≠ 0
  | 0, n, h => h
  | k + 1, n, h => by
    unfold strip
    split
    · exact strip_ne k _ (by omega)
    · exact h
theorem strip_odd {k : Nat} {n : Int} (h : n % 2 ≠ 0) : strip k n = (n, k) := by
  cases k with
  | zero => rfl
  | succ k => unfold strip; rw [if_neg h]
/-- the value stays -/
theorem strip_val : ∀ (k : Nat) (n : Int), (strip k n).1 * 2 ^ (k - (strip k n).2) = n
  | 0, n => by simp [strip]
  | k + 1, n => by
    unfold strip
    split
    · rename_i h
      have h1 := strip_val k (n / 2)
      have h2 := strip_le k (n / 2)
      rw [show k + 1 - (strip k (n / 2)).2 = (k - (strip k (n / 2)).2) + 1 by omega, Int.pow_succ, ← Int.mul_assoc, h1]
      omega
    · simp

theorem mkD_gd (n : Int) (k : Nat) : gd (mkD n k).1 := by
  unfold mkD
  split
  · rename_i h
    have := strip_form k n
    refine ⟨by simp, by simp; omega, h.1, h.2.1, ?_⟩
    rcases this with h | h
    · left; simp [h]
    · right; exact h
  · exact ⟨by simp, by simp, by simp, by simp, .inl rfl⟩

theorem mkD_zero (k : Nat) : mkD 0 k = ((0, 0), true) := by simp [mkD, strip_zero]

theorem mkD_self {a : Int × Int} (h : gd a) : mkD a.1 a.2.toNat = (a, true) := by
  obtain ⟨n, k⟩ := a
  obtain ⟨h1, h2, h3, h4, h5⟩ := h
  simp only at *
  obtain ⟨m, rfl⟩ := Int.eq_ofNat_of_zero_le h1
  have e : strip m n = (n, m) := by
    rcases h5 with h5 | h5
    · have : m = 0 := by omega
      subst this; rfl
    · exact strip_odd h5
  simp only [Int.toNat_natCast, mkD, e]
  rw [if_pos ⟨h3, h4, by omega⟩]

/-! The reference's way. -/
theorem dyMake_loop : ∀ (m : Nat) (n : Int) (z : Int × Int), -9223372036854775808 < n → n < 9223372036854775808 → m < 9223372036854775808 →
    Evt (fun k q => spec_dyMake_L28 k q n m z) (.inr ((strip m n).1, ((strip m n).2 : Int), z, ()))
  | 0, n, z, _, _, _ => Evt.step (fun k q => spec_dyMake_L28.eq_2 k n _ z q) (Evt.cfalse (by simp) .pure)
  | m + 1, n, z, h1, h2, h3 => by
    refine Evt.step (fun k q => spec_dyMake_L28.eq_2 k n _ z q) (Evt.ctrue (by simp <;> omega) ?_)
    by_cases h : n % 2 = 0
    · refine Evt.ctrue (by simp [(tmod2 n).2 h]) ?_
      rw [tdiv2 h, w64 (by omega) (by omega), show ((m + 1 : Nat) : Int) - 1 = (m : Int) by omega, w64 (by omega) (by omega)]
      have := dyMake_loop m (n / 2) z (by omega) (by omega) (by omega)
      rw [strip, if_pos h]
      exact this
    · have h' : ¬ Int.tmod n 2 = 0 := fun e => h ((tmod2 n).1 e)
      refine Evt.cfalse (by simp [h']) ?_
      rw [strip, if_neg h]
      exact .pure

theorem dyMake_ev {n : Int} {m : Nat} (h1 : -9223372036854775808 < n) (h2 : n < 9223372036854775808) (h3 : m < 9223372036854775808) : Evt (fun k _ => spec_dyMake k n m) (mkD n m) := by
  refine Evt.eq (f := fun k q => _) ?_ (fun k q => by rw [spec_dyMake])
  have key : ∀ (m' : Nat), strip m' n = strip m n → m' ≤ m → Evt (fun k q => both (R := (Int × Int) × Bool) (P := Int × Int × (Int × Int) × Unit) (spec_dyMake_L28 k k n m' (0, 0)) (fun q4 => some q4) (fun y3 => (Option.bind (spec_dyGood (y3.1, y3.2.1)) fun r5 => (bif (!r5) then some ((0, 0), false) else some ((y3.1, y3.2.1), true))))) (mkD n m) := by
    intro m' hm hle
    refine Evt.inr (Evt.diag (dyMake_loop m' n (0, 0) h1 h2 (by omega))) ?_
    simp only [dyGood_eq, Option.bind_some, hm]
    have hf := strip_form m n
    unfold mkD
    by_cases hg : -1099511627776 ≤ (strip m n).1 ∧ (strip m n).1 ≤ 1099511627776 ∧ (strip m n).2 ≤ 24
    · rw [if_pos hg]
      have : gd ((strip m n).1, ((strip m n).2 : Int)) := ⟨by simp, by simp; omega, hg.1, hg.2.1, by rcases hf with h | h; left; simp [h]; right; exact h⟩
      simp only [this, decide_true, Bool.not_true]
      exact Evt.cfalse rfl .pure
    · rw [if_neg hg]
      have : ¬ gd ((strip m n).1, ((strip m n).2 : Int)) := fun h => hg ⟨h.2.2.1, h.2.2.2.1, by have := h.2.1; simp at this; omega⟩
      simp only [this, decide_false, Bool.not_false]
      exact Evt.ctrue rfl .pure
  by_cases h0 : n = 0
  · subst h0
    refine Evt.inr (y := ((0 : Int), (0 : Int), ((0, 0) : Int × Int), ())) ?_ (key 0 (by rw [strip_zero, strip_zero]) (by omega))
    by_cases hm : m = 0
    · subst hm; exact .const rfl
    · have : decide ((m : Int) > 0) = true := by simp; omega
      refine .const ?_
      simp only [this]; rfl
  · refine Evt.inr (y := (n, (m : Int), ((0, 0) : Int × Int), ())) (.const ?_) (key m rfl (Nat.le_refl _))
    have : (n == 0) = false := by simpa using h0
    simp only [this]; rfl

/-- a numerator over more places; what is too large is told -/
def atV : Nat → Int → Int × Bool
  | 0, n => (n, true)
  | m + 1, n => if -1152921504606846976 ≤ n ∧ n ≤ 1152921504606846976 then atV m (n * 2) else (0, false)

theorem dyPower_eq {m : Nat} (h : m ≤ 62) : spec_dyPower m = some (((2 ^ m : Nat) : Int)) := by
  unfold spec_dyPower
  have h1 : IntKind.wrap .u64 (m : Int) = m := wu64 (by omega) (by omega)
  have h2 : min (Int.toNat (m : Int)) (IntKind.bits .i64) = m := by simp [IntKind.bits]; omega
  rw [h1, h2]
  have h3 : (2 : Nat) ^ m ≤ 4611686018427387904 := Nat.pow_le_pow_right (n := 2) (by omega) h
  have h4 : (1 : Int) * 2 ^ m = ((2 ^ m : Nat) : Int) := by simp
  have h5 : decide ((m : Int) < 0) = false := by simp
  rw [h4]
  generalize 2 ^ m = p at *
  rw [w64 (by omega) (by omega), h5]
  rfl

theorem dyPower60 : spec_dyPower 60 = some 1152921504606846976 := by
  have := dyPower_eq (m := 60) (by omega)
  simpa using this

theorem dyAt_loop (K j : Int) : ∀ (m : Nat) (n : Int) (i : Nat), K = i + m → K < 1000000 → -4611686018427387904 ≤ n → n ≤ 4611686018427387904 →
    Evt (fun k q => spec_dyAt_L58 k q K (n, j) i) (if (atV m n).2 then .inr (((atV m n).1, j), ()) else .inl (0, false)) := by
  intro m
  induction m with
  | zero =>
    intro n i hK hi _ _
    refine Evt.step (fun k q => spec_dyAt_L58.eq_2 k K (n, j) i q) (Evt.cfalse (by simp; omega) ?_)
    simp only [atV, if_true]
    exact .pure
  | succ m ih =>
    intro n i hK hi h1 h2
    refine Evt.step (fun k q => spec_dyAt_L58.eq_2 k K (n, j) i q) (Evt.ctrue (by simp; omega) ?_)
    refine Evt.bind (.const dyPower60) (Evt.bind (.const dyPower60) ?_)
    have hw : IntKind.wrap .i64 (0 - 1152921504606846976) = -1152921504606846976 := by rw [w64] <;> omega
    rw [hw]
    refine Evt.bind (.const (l1In_eq _ _ _)) ?_
    unfold atV
    by_cases hn : -1152921504606846976 ≤ n ∧ n ≤ 1152921504606846976
    · refine Evt.cfalse (by simp [hn]) ?_
      rw [if_pos hn, w64 (n := n * 2) (by omega) (by omega), w64_next (by simp only [lenB]; omega)]
      exact ih (n * 2) (i + 1) (by omega) hi (by omega) (by omega)
    · refine Evt.ctrue (by rw [decide_eq_false hn]; rfl) ?_
      rw [if_neg hn]
      exact .pure

theorem atV_zero : ∀ m, atV m 0 = (0, true)
  | 0 => rfl
  | m + 1 => by unfold atV; simp [atV_zero m]

theorem dyAt_ev {n : Int} {j K : Nat} (hjK : j ≤ K) (hK : K < 1000) (h1 : -4611686018427387904 ≤ n) (h2 : n ≤ 4611686018427387904) : Evt (fun k _ => spec_dyAt k (n, j) K) (atV (K - j) n) := by
  refine Evt.eq (f := fun k q => _) ?_ (fun k q => by rw [spec_dyAt])
  by_cases h0 : n = 0
  · subst h0
    rw [atV_zero]
    exact Evt.ctrue (by simp) .pure
  · refine Evt.cfalse (by simpa using h0) ?_
    have := dyAt_loop K j (K - j) n j (by omega) (by omega) h1 h2
    cases hb : (atV (K - j) n).2 with
    | true =>
      rw [hb] at this
      refine Evt.inr (Evt.diag this) (.const ?_)
      simp only
      rw [← hb]
    | false =>
      rw [hb] at this
      have hz : ∀ (m : Nat) (n : Int), (atV m n).2 = false → atV m n = (0, false) := by
        intro m
        induction m with
        | zero => intro n h; simp [atV] at h
        | succ m ih =>
          intro n h
          unfold atV at h ⊢
          split at h
          · rename_i hc; rw [if_pos hc]; exact ih _ h
          · rename_i hc; rw [if_neg hc]
      rw [hz _ _ hb]
      exact Evt.inl (Evt.diag this) .pure

theorem atV_true : ∀ (m : Nat) (n : Int), (atV m n).2 = true → (atV m n).1 = n * 2 ^ m
  | 0, n, _ => by simp [atV]
  | m + 1, n, h => by
    unfold atV at h ⊢
    split at h
    · rename_i hc
      rw [if_pos hc, atV_true m _ h, Int.pow_succ, Int.mul_assoc, Int.mul_comm 2]
    · cases h
theorem atV_small : ∀ (m : Nat) (n : Int), -1152921504606846976 ≤ n * 2 ^ m → n * 2 ^ m ≤ 1152921504606846976 → (atV m n).2 = true
  | 0, n, _, _ => rfl
  | m + 1, n, h1, h2 => by
    have e : n * 2 ^ (m + 1) = n * 2 * 2 ^ m := by rw [Int.pow_succ, Int.mul_assoc, Int.mul_comm 2]
    have hp : (1 : Int) ≤ 2 ^ m := by have := Int.pow_pos (n := 2) (m := m) (by omega); omega
    unfold atV
    rw [if_pos]
    · exact atV_small m (n * 2) (by rw [← e]; exact h1) (by rw [← e]; exact h2)
    · rw [e] at h1 h2
      constructor
      · rcases Int.le_total 0 n with h | h
        · omega
        · have : n * 2 * 2 ^ m ≤ n * 2 * 1 := Int.mul_le_mul_of_nonpos_left (by omega) hp
          omega
      · rcases Int.le_total 0 n with h | h
        · have : n * 2 * 1 ≤ n * 2 * 2 ^ m := Int.mul_le_mul_of_nonneg_left hp (by omega)
          omega
        · omega
/-- what is too large, is large -/
theorem atV_large : ∀ (m : Nat) (n : Int), (atV m n).2 = false → 0 < m ∧ (n * 2 ^ m < -1152921504606846976 ∨ 1152921504606846976 < n * 2 ^ m)
  | m, n, h => by
    refine ⟨?_, ?_⟩
    · cases m with
      | zero => simp [atV] at h
      | succ m => omega
    · rcases Int.lt_or_le (n * 2 ^ m) (-1152921504606846976) with h1 | h1
      · exact .inl h1
      · rcases Int.lt_or_le 1152921504606846976 (n * 2 ^ m) with h2 | h2
        · exact .inr h2
        · rw [atV_small m n h1 h2] at h; cases h
end Go.Ev.G
