/- What the plain functions of the laws compute, for all inputs within the sizes that the theorems name. -/
import Derived.Test.YtdlpejdadikggaaQ2c
set_option linter.unusedVariables false
namespace Go.Ev.G
open Go Go.Ev
set_option maxRecDepth 100000

def cmpI (a b : Int) : Int := if a < b then -1 else if b < a then 1 else 0

theorem cmpU_eq (a b : Int) : cmp_Compare_uint64 a b = some (cmpI a b) := by
  unfold cmp_Compare_uint64 cmp_isNaN_uint64 cmpI
  by_cases h1 : a < b
  · have : decide (a < b) = true := by simpa using h1
    simp [h1]
  · by_cases h2 : b < a
    · simp [h1, h2]
    · simp [h1, h2]

def orI (x y : Int) : Int := bif x == 0 then y else x
theorem orI_ne {x : Int} (h : x ≠ 0) (y : Int) : orI x y = x := by
  have : (x == 0) = false := by simpa using h
  rw [orI, this]; rfl
theorem orI_z (y : Int) : orI 0 y = y := rfl

theorem or2_ev (x y : Int) : Evt (fun k _ => cmp_Or_int k [x, y]) (orI x y) := by
  refine Evt.eq (f := fun k q => _) ?_ (fun k q => by rw [cmp_Or_int])
  have step : ∀ (i : Nat) (F : Nat → Nat → Option _) r, (∀ k q, cmp_Or_int_L58 k (q + 1) 0 [x, y] ([x, y].length : Int) i = F k q) → Evt F r → Evt (fun k q => cmp_Or_int_L58 k q 0 [x, y] ([x, y].length : Int) i) r := fun i F r h h' => Evt.step h h'
  by_cases hx : x = 0
  · subst hx
    by_cases hy : y = 0
    · subst hy
      refine Evt.inr (y := (0, ())) (Evt.diag (f := fun k q => cmp_Or_int_L58 k q 0 [0, 0] ([0, 0].length : Int) 0) ?_) .pure
      refine step 0 _ _ (fun k q => cmp_Or_int_L58.eq_2 k _ _ _ _ q) ?_
      refine Evt.ctrue rfl (Evt.ctrue rfl (Evt.ctrue rfl (Evt.cfalse rfl ?_)))
      refine step 1 _ _ (fun k q => cmp_Or_int_L58.eq_2 k _ _ _ _ q) ?_
      refine Evt.ctrue rfl (Evt.ctrue rfl (Evt.ctrue rfl (Evt.cfalse rfl ?_)))
      refine step 2 _ _ (fun k q => cmp_Or_int_L58.eq_2 k _ _ _ _ q) ?_
      exact Evt.cfalse rfl .pure
    · refine Evt.inl (q := y) (Evt.diag (f := fun k q => cmp_Or_int_L58 k q 0 [0, y] ([0, y].length : Int) 0) ?_) (by rw [orI_z]; exact .pure)
      refine step 0 _ _ (fun k q => cmp_Or_int_L58.eq_2 k _ _ _ _ q) ?_
      refine Evt.ctrue rfl (Evt.ctrue rfl (Evt.ctrue rfl (Evt.cfalse rfl ?_)))
      refine step 1 _ _ (fun k q => cmp_Or_int_L58.eq_2 k _ _ _ _ q) ?_
      refine Evt.ctrue rfl (Evt.ctrue rfl (Evt.ctrue rfl (Evt.ctrue ?_ .pure)))
      show (y != 0) = true
      simpa using hy
  · refine Evt.inl (q := x) (Evt.diag (f := fun k q => cmp_Or_int_L58 k q 0 [x, y] ([x, y].length : Int) 0) ?_) (by rw [orI_ne hx]; exact .pure)
    refine step 0 _ _ (fun k q => cmp_Or_int_L58.eq_2 k _ _ _ _ q) ?_
    refine Evt.ctrue rfl (Evt.ctrue rfl (Evt.ctrue rfl (Evt.ctrue ?_ .pure)))
    show (x != 0) = true
    simpa using hx

theorem sizes_ev (n1 n2 : Bool) (M1 M2 : Nat) : Evt (fun k _ => impl_compareSizes k (wN n1 M1) (wN n2 M2)) (cmpI M1 M2) := by
  refine Evt.eq (f := fun k q => _) ?_ (fun k q => by rw [impl_compareSizes])
  refine Evt.bind (.const (cmpU_eq _ _)) (Evt.bind (.const (cmpU_eq _ _)) (Evt.bind (or2_ev _ _) ?_))
  refine .const ?_
  congr 1
  simp only [wN]
  have e1 := Nat.div_add_mod M1 B64
  have e2 := Nat.div_add_mod M2 B64
  have l1 := Nat.mod_lt M1 (y := B64) (by simp [B64])
  have l2 := Nat.mod_lt M2 (y := B64) (by simp [B64])
  rcases Nat.lt_trichotomy (M1 / B64) (M2 / B64) with h | h | h
  · have : M1 < M2 := by
      have : (M1 / B64 + 1) * B64 ≤ M2 / B64 * B64 := Nat.mul_le_mul_right _ h
      rw [Nat.add_mul, Nat.one_mul, Nat.mul_comm, Nat.mul_comm (M2 / B64)] at this
      omega
    have c1 : cmpI ((M1 / B64 : Nat) : Int) ((M2 / B64 : Nat) : Int) = -1 := by unfold cmpI; rw [if_pos (by omega)]
    have c2 : cmpI M1 M2 = -1 := by unfold cmpI; rw [if_pos (by omega)]
    rw [c1, c2]; rfl
  · rw [h] at e1
    have c1 : cmpI ((M1 / B64 : Nat) : Int) ((M2 / B64 : Nat) : Int) = 0 := by unfold cmpI; rw [if_neg (by omega), if_neg (by omega)]
    rw [c1, orI_z]
    have i1 : (((M1 % B64 : Nat) : Int) < ((M2 % B64 : Nat) : Int)) ↔ ((M1 : Int) < M2) := by omega
    have i2 : (((M2 % B64 : Nat) : Int) < ((M1 % B64 : Nat) : Int)) ↔ ((M2 : Int) < M1) := by omega
    unfold cmpI
    simp only [i1, i2]
  · have : M2 < M1 := by
      have : (M2 / B64 + 1) * B64 ≤ M1 / B64 * B64 := Nat.mul_le_mul_right _ h
      rw [Nat.add_mul, Nat.one_mul, Nat.mul_comm, Nat.mul_comm (M1 / B64)] at this
      omega
    have c1 : cmpI ((M1 / B64 : Nat) : Int) ((M2 / B64 : Nat) : Int) = 1 := by unfold cmpI; rw [if_neg (by omega), if_pos (by omega)]
    have c2 : cmpI M1 M2 = 1 := by unfold cmpI; rw [if_neg (by omega), if_pos (by omega)]
    rw [c1, c2]; rfl

theorem isZero_eq (neg : Bool) (M : Nat) : impl_wide_isZero (wN neg M) = some (decide (M = 0)) := by
  unfold impl_wide_isZero wN
  have e1 := Nat.div_add_mod M B64
  by_cases h : M = 0
  · subst h; simp
  · have hd : decide (M = 0) = false := by simpa using h
    rw [hd]
    by_cases h1 : M / B64 = 0
    · have h2 : M % B64 ≠ 0 := by
        intro h2
        rw [h1, h2] at e1
        omega
      have : ((((M % B64 : Nat) : Int)) == 0) = false := by rw [beq_eq_false_iff_ne]; intro h3; exact h2 (Int.ofNat.inj h3)
      simp only [h1, this]
      rfl
    · have : ((((M / B64 : Nat) : Int)) == 0) = false := by
        rw [beq_eq_false_iff_ne]; intro h3; exact h1 (Int.ofNat.inj h3)
      simp only [this]
      rfl

theorem wV_cmp (n1 n2 : Bool) (M1 M2 : Nat) : Evt (fun k _ => impl_compareWide k (wN n1 M1) (wN n2 M2)) (cmpI (wV n1 M1) (wV n2 M2)) := by
  refine Evt.eq (f := fun k q => _) ?_ (fun k q => by rw [impl_compareWide])
  have rest : ¬ (M1 = 0 ∧ M2 = 0) → ∀ (f : Nat → Nat → Option (Int ⊕ ((Bool × Int × Int) × (Bool × Int × Int) × Unit))), (∀ k q, f k q = (bif (!((wN n1 M1).1 == (wN n2 M2).1)) then (bif (wN n1 M1).1 then some (Sum.inl (-1)) else some (Sum.inl 1)) else (bif (wN n1 M1).1 then (Option.bind (impl_compareSizes k (wN n2 M2) (wN n1 M1)) fun r4 => some (Sum.inl r4)) else some (Sum.inr (wN n1 M1, wN n2 M2, ()))))) →
      Evt (fun k q => both (R := Int) (P := (Bool × Int × Int) × (Bool × Int × Int) × Unit) (f k q) (fun q7 => some q7) (fun y5 => (Option.bind (impl_compareSizes k y5.1 y5.2.1) fun r6 => some r6))) (cmpI (wV n1 M1) (wV n2 M2)) := by
    intro hne f hf
    cases n1 <;> cases n2
    · refine Evt.inr (y := (wN false M1, wN false M2, ())) (Evt.eq (f := fun _ _ => some _) .pure (fun k q => by rw [hf]; rfl)) ?_
      exact Evt.bind (sizes_ev _ _ _ _) .pure
    · refine Evt.inl (q := 1) (Evt.eq (f := fun _ _ => some _) .pure (fun k q => by rw [hf]; rfl)) ?_
      refine .const ?_
      congr 1
      simp only [cmpI, wV]
      simp <;> omega
    · refine Evt.inl (q := -1) (Evt.eq (f := fun _ _ => some _) .pure (fun k q => by rw [hf]; rfl)) ?_
      refine .const ?_
      congr 1
      simp only [cmpI, wV]
      simp <;> omega
    · refine Evt.inl (q := cmpI M2 M1) (Evt.eq (f := fun k q => Option.bind (impl_compareSizes k (wN true M2) (wN true M1)) fun r4 => some (Sum.inl r4)) (Evt.bind (sizes_ev _ _ _ _) .pure) (fun k q => by rw [hf]; rfl)) ?_
      refine .const ?_
      congr 1
      simp only [cmpI, wV]
      simp
  by_cases h1 : M1 = 0
  · by_cases h2 : M2 = 0
    · refine Evt.inl (q := 0) ?_ ?_
      · exact Evt.bind (.const (isZero_eq _ _)) (Evt.ctrue (by simp [h1]) (Evt.bind (.const (isZero_eq _ _)) (Evt.ctrue (by simp [h2]) .pure)))
      · refine .const ?_
        subst h1; subst h2
        cases n1 <;> cases n2 <;> rfl
    · refine rest (fun h => h2 h.2) _ (fun k q => ?_)
      rw [isZero_eq, isZero_eq]
      simp [h1, h2]
  · refine rest (fun h => h1 h.1) _ (fun k q => ?_)
    rw [isZero_eq]
    simp [h1]

/-! The sum of two. -/
theorem add64_eq {a b : Nat} {c : Nat} (hc : c ≤ 1) : math_bits_Add64 a b c = some ((((a + b + c) % B64 : Nat) : Int), (((a + b + c) / B64 : Nat) : Int)) := by
  unfold math_bits_Add64
  have : ((c : Int) == 0 || (c : Int) == 1) = true := by
    have : c = 0 ∨ c = 1 := by omega
    rcases this with rfl | rfl <;> rfl
  rw [this]
  rfl
theorem sub64_eq {a b : Nat} {c : Nat} (hc : c ≤ 1) : math_bits_Sub64 a b c = some ((((a + B64 - b - c) % B64 : Nat) : Int), ((if a < b + c then 1 else 0 : Nat) : Int)) := by
  unfold math_bits_Sub64
  have : ((c : Int) == 0 || (c : Int) == 1) = true := by
    have : c = 0 ∨ c = 1 := by omega
    rcases this with rfl | rfl <;> rfl
  rw [this]
  rfl

theorem divmod_unique {a q r : Nat} (h : a = q * B64 + r) (hr : r < B64) : a / B64 = q ∧ a % B64 = r := by
  subst h
  constructor
  · rw [Nat.mul_comm, Nat.mul_add_div (by simp [B64]), Nat.div_eq_of_lt hr, Nat.add_zero]
  · rw [Nat.mul_comm, Nat.mul_add_mod, Nat.mod_eq_of_lt hr]

theorem add_same {neg : Bool} {M1 M2 : Nat} (h : M1 + M2 < B64 * B64) (k : Nat) : impl_wide_add k (wN neg M1) (wN neg M2) = some (wN neg (M1 + M2)) := by
  unfold impl_wide_add
  have e : ((wN neg M1).1 == (wN neg M2).1) = true := by simp [wN]
  rw [e]
  simp only [cond_true, wN]
  have a1 := add64_eq (a := M1 % B64) (b := M2 % B64) (c := 0) (by omega)
  simp only [Nat.add_zero] at a1
  rw [show ((0 : Nat) : Int) = 0 from rfl] at a1
  rw [a1]
  simp only [Option.bind_some]
  have l1 := Nat.mod_lt M1 (y := B64) (by simp [B64])
  have l2 := Nat.mod_lt M2 (y := B64) (by simp [B64])
  have hc : (M1 % B64 + M2 % B64) / B64 ≤ 1 := by
    have : (M1 % B64 + M2 % B64) / B64 < 2 := Nat.div_lt_of_lt_mul (by omega)
    omega
  rw [add64_eq hc]
  simp only [Option.bind_some]
  have e1 := Nat.div_add_mod M1 B64
  have e2 := Nat.div_add_mod M2 B64
  have e3 := Nat.div_add_mod (M1 % B64 + M2 % B64) B64
  have l3 := Nat.mod_lt (M1 % B64 + M2 % B64) (y := B64) (by simp [B64])
  have hs : M1 + M2 = (M1 / B64 + M2 / B64 + (M1 % B64 + M2 % B64) / B64) * B64 + (M1 % B64 + M2 % B64) % B64 := by
    rw [Nat.add_mul, Nat.add_mul, Nat.mul_comm (M1 / B64), Nat.mul_comm (M2 / B64), Nat.mul_comm ((M1 % B64 + M2 % B64) / B64)]
    omega
  obtain ⟨u1, u2⟩ := divmod_unique hs l3
  have hq : (M1 + M2) / B64 < B64 := Nat.div_lt_of_lt_mul h
  rw [u1] at hq
  rw [u1, u2, Nat.mod_eq_of_lt hq]

theorem sub_big {neg n2 : Bool} {M1 M2 : Nat} (h : M2 ≤ M1) (hM : M1 < B64 * B64) : (Option.bind (math_bits_Sub64 (wN neg M1).2.2 (wN n2 M2).2.2 0) fun r5 => (Option.bind (math_bits_Sub64 (wN neg M1).2.1 (wN n2 M2).2.1 r5.2) fun r6 => some ((wN neg M1).1, r6.1, r5.1))) = some (wN neg (M1 - M2)) := by
  simp only [wN]
  have a1 := sub64_eq (a := M1 % B64) (b := M2 % B64) (c := 0) (by omega)
  simp only [Nat.add_zero, Nat.sub_zero] at a1
  rw [show ((0 : Nat) : Int) = 0 from rfl] at a1
  rw [a1]
  simp only [Option.bind_some]
  have l1 := Nat.mod_lt M1 (y := B64) (by simp [B64])
  have l2 := Nat.mod_lt M2 (y := B64) (by simp [B64])
  have e1 := Nat.div_add_mod M1 B64
  have e2 := Nat.div_add_mod M2 B64
  have hle : M2 / B64 ≤ M1 / B64 := Nat.div_le_div_right h
  have hq : M1 / B64 < B64 := Nat.div_lt_of_lt_mul hM
  generalize M1 / B64 = q1 at *
  generalize M2 / B64 = q2 at *
  generalize M1 % B64 = r1 at *
  generalize M2 % B64 = r2 at *
  by_cases hb : r1 < r2
  · rw [if_pos hb]
    rw [sub64_eq (c := 1) (by omega)]
    simp only [Option.bind_some]
    have hlt : q2 < q1 := by
      rcases Nat.lt_or_ge (q2) (q1) with h' | h'
      · exact h'
      · have : q1 = q2 := by omega
        rw [this] at e1
        omega
    have h3 : B64 * (q2) + B64 ≤ B64 * (q1) := by
      have : B64 * (q2 + 1) ≤ B64 * (q1) := Nat.mul_le_mul_left _ hlt
      rwa [Nat.mul_add, Nat.mul_one] at this
    have hs : M1 - M2 = (q1 - q2 - 1) * B64 + (r1 + B64 - r2) := by
      rw [Nat.sub_mul, Nat.sub_mul, Nat.one_mul, Nat.mul_comm (q1), Nat.mul_comm (q2)]
      omega
    have hlt2 : r1 + B64 - r2 < B64 := by omega
    obtain ⟨u1, u2⟩ := divmod_unique hs hlt2
    rw [u1, u2, Nat.mod_eq_of_lt hlt2]
    have h5 : q1 + B64 - q2 - 1 = (q1 - q2 - 1) + B64 := by omega
    rw [h5, Nat.add_mod_right, Nat.mod_eq_of_lt (by omega)]
  · rw [if_neg hb]
    rw [sub64_eq (c := 0) (by omega)]
    simp only [Option.bind_some, Nat.sub_zero]
    have hs : M1 - M2 = (q1 - q2) * B64 + (r1 - r2) := by
      have h3 : B64 * (q2) ≤ B64 * (q1) := Nat.mul_le_mul_left _ hle
      rw [Nat.sub_mul, Nat.mul_comm (q1), Nat.mul_comm (q2)]
      omega
    have hlt2 : r1 - r2 < B64 := by omega
    obtain ⟨u1, u2⟩ := divmod_unique hs hlt2
    rw [u1, u2]
    have h5 : q1 + B64 - q2 = (q1 - q2) + B64 := by omega
    have h6 : r1 + B64 - r2 = (r1 - r2) + B64 := by omega
    rw [h5, h6, Nat.add_mod_right, Nat.add_mod_right, Nat.mod_eq_of_lt (by omega), Nat.mod_eq_of_lt hlt2]

theorem add_ev {n1 n2 : Bool} {M1 M2 : Nat} (h : M1 + M2 < B64 * B64) : ∃ neg M, M ≤ M1 + M2 ∧ wV neg M = wV n1 M1 + wV n2 M2 ∧ Evt (fun k _ => impl_wide_add k (wN n1 M1) (wN n2 M2)) (wN neg M) := by
  by_cases hn : n1 = n2
  · subst hn
    refine ⟨n1, M1 + M2, Nat.le_refl _, ?_, Evt.eq (f := fun _ _ => some _) .pure (fun k q => add_same h k)⟩
    cases n1 <;> simp [wV] <;> omega
  · have e : ((wN n1 M1).1 == (wN n2 M2).1) = false := by
      simp only [wN]; cases n1 <;> cases n2 <;> simp_all
    rcases Nat.lt_or_ge M1 M2 with hlt | hge
    · refine ⟨n2, M2 - M1, by omega, ?_, Evt.eq (f := fun k q => _) ?_ (fun k q => by rw [impl_wide_add])⟩
      · cases n1 <;> cases n2 <;> simp_all [wV] <;> omega
      · refine Evt.cfalse e ?_
        refine Evt.inr (y := (wN n2 M2, wN n1 M1, (false, 0, 0), ())) (Evt.bind (sizes_ev _ _ _ _) (Evt.ctrue ?_ .pure)) (.const (sub_big (by omega) (by omega)))
        simp [cmpI]; omega
    · refine ⟨n1, M1 - M2, by omega, ?_, Evt.eq (f := fun k q => _) ?_ (fun k q => by rw [impl_wide_add])⟩
      · cases n1 <;> cases n2 <;> simp_all [wV] <;> omega
      · refine Evt.cfalse e ?_
        refine Evt.inr (y := (wN n1 M1, wN n2 M2, (false, 0, 0), ())) (Evt.bind (sizes_ev _ _ _ _) (Evt.cfalse ?_ .pure)) (.const (sub_big hge (by omega)))
        have : ¬ (M1 : Int) < M2 := by omega
        simp only [cmpI, if_neg this]
        split <;> simp

/-! A number that fits. -/
theorem fit_loop : ∀ (m : Nat) (neg : Bool) (M : Nat) (z : Int × Int), m < 9223372036854775808 → M < B64 * B64 →
    Evt (fun k q => impl_wide_fit_L28 k q m (wN neg M) z) (.inr (((strip m M).2 : Int), wN neg (strip m M).1.toNat, z, ())) := by
  intro m
  induction m with
  | zero =>
    intro neg M z _ _
    refine Evt.step (fun k q => impl_wide_fit_L28.eq_2 k _ _ z q) (Evt.cfalse (by simp) ?_)
    simp only [strip, Int.toNat_natCast]
    exact .pure
  | succ m ih =>
    intro neg M z hm hM
    refine Evt.step (fun k q => impl_wide_fit_L28.eq_2 k _ _ z q) (Evt.ctrue (by simp <;> omega) ?_)
    have hpar : (M % B64) % 2 = M % 2 := Nat.mod_mod_of_dvd M ⟨9223372036854775808, rfl⟩
    by_cases h : M % 2 = 0
    · have c : (Int.tmod (wN neg M).2.2 2 == 0) = true := by
        simp only [wN]
        have : Int.tmod ((M % B64 : Nat) : Int) 2 = (((M % B64) % 2 : Nat) : Int) := rfl
        rw [this, hpar, h]; rfl
      refine Evt.ctrue c ?_
      have hs := shr_eq (neg := neg) (M := M) (j := 1) (by omega) (by omega) hM
      rw [show (-((1 : Nat) : Int)) = -1 from rfl, Nat.pow_one] at hs
      refine Evt.bind (.const hs) ?_
      rw [show ((m + 1 : Nat) : Int) - 1 = (m : Int) by omega, w64 (by omega) (by omega)]
      have := ih neg (M / 2) z (by omega) (Nat.lt_of_le_of_lt (Nat.div_le_self _ _) hM)
      have e : strip (m + 1) (M : Int) = strip m ((M / 2 : Nat) : Int) := by
        rw [strip, if_pos (by omega)]
        rfl
      rw [e]
      exact this
    · have c : (Int.tmod (wN neg M).2.2 2 == 0) = false := by
        simp only [wN]
        have : Int.tmod ((M % B64 : Nat) : Int) 2 = (((M % B64) % 2 : Nat) : Int) := rfl
        rw [this, hpar]
        have : M % 2 = 1 := by omega
        rw [this]; rfl
      refine Evt.cfalse c ?_
      have e : strip (m + 1) (M : Int) = ((M : Int), m + 1) := strip_odd (by omega)
      rw [e]
      simp only [Int.toNat_natCast]
      exact .pure

theorem fit_ev {neg : Bool} {M m : Nat} (hM : M < B64 * B64) (hm : m < 9223372036854775808) : Evt (fun k _ => impl_wide_fit k (wN neg M) m) (mkD (wV neg M) m) := by
  refine Evt.eq (f := fun k q => _) ?_ (fun k q => by rw [impl_wide_fit])
  refine Evt.bind (.const (isZero_eq _ _)) ?_
  by_cases h0 : M = 0
  · refine Evt.ctrue (by simp [h0]) ?_
    have : wV neg M = 0 := by subst h0; cases neg <;> rfl
    rw [this, mkD_zero]
    exact .pure
  · refine Evt.cfalse (by simp [h0]) ?_
    refine Evt.inr (Evt.diag (fit_loop m neg M (0, 0) hm hM)) ?_
    have hb := strip_bound m (M : Int) (by omega)
    have hne := strip_ne m (M : Int) (by omega)
    have hv : strip m (wV neg M) = (wV neg (strip m M).1.toNat, (strip m M).2) := by
      cases neg with
      | false => simp only [wV]; simp; rw [Int.max_eq_left hb.1]
      | true =>
        simp only [wV, if_true]
        rw [strip_neg, Int.toNat_of_nonneg hb.1]
    obtain ⟨S, hS⟩ := Int.eq_ofNat_of_zero_le hb.1
    rw [hS] at hv
    simp only [Int.toNat_natCast, hS] at hv ⊢
    have hSM : S < B64 * B64 := by omega
    have hS0 : S ≠ 0 := by omega
    unfold mkD
    rw [hv]
    simp only [wN]
    have e1 := Nat.div_add_mod S B64
    have hlt := Nat.mod_lt S (y := B64) (by simp [B64])
    by_cases g1 : (strip m (M : Int)).2 ≤ 24
    · refine Evt.cfalse (by simp; omega) ?_
      by_cases g2 : S / B64 = 0
      · refine Evt.cfalse (by simp [g2]) ?_
        have g3 : S % B64 = S := by rw [g2] at e1; omega
        simp only [g3]
        by_cases g4 : S ≤ 1099511627776
        · refine Evt.cfalse (by simp; omega) ?_
          rw [if_pos (by cases neg <;> simp [wV] <;> omega)]
          have w1 : IntKind.wrap .i64 (S : Int) = S := by rw [w64] <;> omega
          have w2 : IntKind.wrap .i64 (0 - (S : Int)) = -(S : Int) := by rw [w64] <;> omega
          cases neg with
          | true =>
            refine Evt.ctrue rfl (.const ?_)
            rw [w1, w2]; rfl
          | false =>
            refine Evt.cfalse rfl (.const ?_)
            rw [w1]; rfl
        · refine Evt.ctrue (by simp; omega) ?_
          rw [if_neg (by cases neg <;> simp [wV] <;> omega)]
          exact .pure
      · have hq : 0 < S / B64 := Nat.pos_of_ne_zero g2
        refine Evt.ctrue (decide_eq_true (Int.ofNat_lt.2 hq)) ?_
        have : B64 ≤ S := by
          have : B64 * 1 ≤ B64 * (S / B64) := Nat.mul_le_mul_left _ hq
          omega
        simp only [B64] at this
        rw [if_neg (by cases neg <;> simp [wV] <;> omega)]
        exact .pure
    · refine Evt.ctrue (by simp; omega) ?_
      rw [if_neg (by intro h; exact g1 h.2.2)]
      exact .pure
end Go.Ev.G
