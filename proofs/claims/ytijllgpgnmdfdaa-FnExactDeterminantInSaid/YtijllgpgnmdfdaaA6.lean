/- What the plain functions of the laws compute, for all inputs within the sizes that the theorems name. -/
import Derived.Test.YtijllgpgnmdfdaaA5
set_option linter.unusedVariables false
namespace Go.Ev.G
open Go Go.Ev
set_option maxRecDepth 100000

/-! The arithmetic of intervals. -/
abbrev Iv := (Int × Int) × Int × Int
def gdI (x : Iv) : Prop := gd x.1 ∧ gd x.2

/-- numbers in their form are told by their values -/
theorem sv_inj {a b : Int × Int} (ha : gd a) (hb : gd b) (h : sv a = sv b) : a = b := by
  have key : ∀ {n m : Int} {j i : Nat}, j < i → i ≤ 24 → (i = 0 ∨ m % 2 ≠ 0) → n * 2 ^ (24 - j) = m * 2 ^ (24 - i) → False := by
    intro n m j i hji hi hodd e
    have e1 : (24 - j) = (i - j) + (24 - i) := by omega
    rw [e1, Int.pow_add, ← Int.mul_assoc] at e
    have hp : (2 : Int) ^ (24 - i) ≠ 0 := Int.ne_of_gt (Int.pow_pos (by omega))
    have e2 := Int.eq_of_mul_eq_mul_right hp e
    have e3 : i - j = (i - j - 1) + 1 := by omega
    rw [e3, Int.pow_succ, ← Int.mul_assoc] at e2
    omega
  obtain ⟨n, j, rfl, hj, _, _, hn⟩ := gd_nat ha
  obtain ⟨m, i, rfl, hi, _, _, hm⟩ := gd_nat hb
  unfold sv at h
  simp only [Int.toNat_natCast] at h
  rcases Nat.lt_trichotomy j i with hlt | rfl | hlt
  · exact (key hlt hi hm h).elim
  · have hp : (2 : Int) ^ (24 - j) ≠ 0 := Int.ne_of_gt (Int.pow_pos (by omega))
    rw [Int.eq_of_mul_eq_mul_right hp h]
  · exact (key hlt hj hn h.symm).elim

def minD (a b : Int × Int) : Int × Int := if sv b < sv a then b else a
def maxD (a b : Int × Int) : Int × Int := if sv a < sv b then b else a
theorem minD_gd {a b : Int × Int} (ha : gd a) (hb : gd b) : gd (minD a b) := by unfold minD; split; exact hb; exact ha
theorem maxD_gd {a b : Int × Int} (ha : gd a) (hb : gd b) : gd (maxD a b) := by unfold maxD; split; exact hb; exact ha
theorem minD_sv (a b : Int × Int) : sv (minD a b) = min (sv a) (sv b) := by unfold minD; split <;> omega
theorem maxD_sv (a b : Int × Int) : sv (maxD a b) = max (sv a) (sv b) := by unfold maxD; split <;> omega
theorem lesser_ev {a b : Int × Int} (ha : gd a) (hb : gd b) : Evt (fun k _ => impl_lesser k a b) (minD a b) := by
  refine Evt.eq (f := fun k q => _) ?_ (fun k q => by rw [impl_lesser])
  refine Evt.bind (compareD_ev hb ha) ?_
  rw [cmpI_lt]
  unfold minD
  by_cases h : sv b < sv a
  · rw [if_pos h]; exact Evt.ctrue (decide_eq_true h) .pure
  · rw [if_neg h]; exact Evt.cfalse (decide_eq_false h) .pure
theorem greater_ev2 {a b : Int × Int} (ha : gd a) (hb : gd b) : Evt (fun k _ => impl_greater k a b) (maxD a b) := greater_ev ha hb

/-- a number rounded down to some places -/
def rdD (p : Nat) (a : Int × Int) : Int × Int := if a.2 ≤ p then a else (mkD (a.1 / ((2 ^ (a.2.toNat - p) : Nat) : Int)) p).1
theorem rdD_gd {p : Nat} {a : Int × Int} (h : gd a) : gd (rdD p a) := by
  unfold rdD
  split
  · exact h
  · exact mkD_gd _ _
theorem div_bound {n : Int} {q : Nat} (hq : 0 < q) (h1 : -1099511627776 ≤ n) (h2 : n ≤ 1099511627776) : -1099511627776 ≤ n / (q : Int) ∧ n / (q : Int) ≤ 1099511627776 := by
  constructor
  · exact (Int.le_ediv_iff_mul_le (by omega)).2 (by
      have : (1099511627776 : Int) * 1 ≤ 1099511627776 * q := Int.mul_le_mul_of_nonneg_left (by omega) (by omega)
      rw [Int.neg_mul]; omega)
  · have h := Int.ediv_le_ediv (a := n) (b := 1099511627776) (c := (q : Int)) (by omega) h2
    have h3 : (1099511627776 : Int) / (q : Int) ≤ 1099511627776 := Int.ediv_le_self _ (by omega)
    omega
theorem dyRound_ev {p : Nat} {a : Int × Int} (ha : gd a) (hp : p ≤ 24) : Evt (fun k _ => spec_dyRound k a p) (rdD p a) := by
  refine Evt.eq (f := fun k q => _) ?_ (fun k q => by rw [spec_dyRound])
  obtain ⟨n, j, rfl, hj, h1, h2, hn⟩ := gd_nat ha
  unfold rdD
  simp only [Int.toNat_natCast]
  by_cases h : j ≤ p
  · rw [if_pos (by omega)]; exact Evt.ctrue (decide_eq_true (by omega)) .pure
  · rw [if_neg (by omega)]
    refine Evt.cfalse (decide_eq_false (by omega)) ?_
    have e : IntKind.wrap .i64 ((j : Int) - (p : Int)) = ((j - p : Nat) : Int) := by rw [w64 (by omega) (by omega)]; omega
    rw [e]
    have hq : 0 < 2 ^ (j - p) := Nat.pow_pos (by omega)
    have hb := div_bound hq h1 h2
    exact Evt.bind (.const (dyPower_eq (by omega))) (Evt.bind (.const (dyDown_eq hq (by omega) (by omega))) (Evt.bind (dyMake_ev (by omega) (by omega) (by omega)) .pure))
theorem roundDown_ev {p : Nat} {a : Int × Int} (ha : gd a) (hp : p ≤ 24) : Evt (fun k _ => impl_roundDown k a p) (rdD p a) := by
  refine Evt.eq (f := fun k q => _) ?_ (fun k q => by rw [impl_roundDown])
  obtain ⟨n, j, rfl, hj, h1, h2, hn⟩ := gd_nat ha
  unfold rdD
  simp only [Int.toNat_natCast]
  by_cases h : j ≤ p
  · rw [if_pos (by omega)]; exact Evt.ctrue (decide_eq_true (by omega)) .pure
  · rw [if_neg (by omega)]
    refine Evt.cfalse (decide_eq_false (by omega)) ?_
    have e : IntKind.wrap .i64 ((j : Int) - (p : Int)) = ((j - p : Nat) : Int) := by rw [w64 (by omega) (by omega)]; omega
    rw [e]
    have hq : 0 < 2 ^ (j - p) := Nat.pow_pos (by omega)
    have hb := div_bound hq h1 h2
    refine Evt.cfalse (decide_eq_false (by omega)) ?_
    have e2 : Int.fdiv n (2 ^ min (Int.toNat ((j - p : Nat) : Int)) (IntKind.bits .i64)) = n / ((2 ^ (j - p) : Nat) : Int) := by
      rw [min64 (by omega)]
      have : (2 : Int) ^ (j - p) = ((2 ^ (j - p) : Nat) : Int) := by simp
      rw [this]
      exact Int.fdiv_eq_ediv_of_nonneg _ (by omega)
    rw [e2]
    exact Evt.bind (.const (wideOf_eq (by omega) (by omega))) (Evt.bind (fitD_ev (by omega) (by omega) (by omega)) .pure)

def ng (a : Int × Int) : Int × Int := (-a.1, a.2)
def rdI (p : Nat) (x : Iv) : Iv := (rdD p x.1, ng (rdD p (ng x.2)))
theorem rdI_gd {p : Nat} {x : Iv} (h : gdI x) : gdI (rdI p x) := ⟨rdD_gd h.1, gd_neg (rdD_gd (gd_neg h.2))⟩
theorem ivRound_ev {p : Nat} {x : Iv} (h : gdI x) (hp : p ≤ 24) : Evt (fun k _ => spec_ivRound k x p) (rdI p x) := by
  refine Evt.eq (f := fun k q => _) ?_ (fun k q => by rw [spec_ivRound])
  have up : Evt (fun k _ => spec_ivUp k x.2 p) (ng (rdD p (ng x.2))) := by
    refine Evt.eq (f := fun k q => _) ?_ (fun k q => by rw [spec_ivUp])
    exact Evt.bind (.const (dyMinus_eq h.2)) (Evt.bind (dyRound_ev (gd_neg h.2) hp) (Evt.bind (.const (dyMinus_eq (rdD_gd (gd_neg h.2)))) .pure))
  exact Evt.bind (dyRound_ev h.1 hp) (Evt.bind up .pure)
theorem roundOut_ev {p : Nat} {x : Iv} (h : gdI x) (hp : p ≤ 24) : Evt (fun k _ => impl_roundOut k x p) (rdI p x) := by
  refine Evt.eq (f := fun k q => _) ?_ (fun k q => by rw [impl_roundOut])
  exact Evt.bind (roundDown_ev h.1 hp) (Evt.bind (.const (minus_eq h.2)) (Evt.bind (roundDown_ev (gd_neg h.2) hp) (Evt.bind (.const (minus_eq (rdD_gd (gd_neg h.2)))) .pure)))

/-- the ends of what four numbers lie between -/
def ends4 (a b c d : Int × Int) : Iv := (minD (minD a b) (minD c d), maxD (maxD a b) (maxD c d))
theorem ends4_gd {a b c d : Int × Int} (ha : gd a) (hb : gd b) (hc : gd c) (hd : gd d) : gdI (ends4 a b c d) := ⟨minD_gd (minD_gd ha hb) (minD_gd hc hd), maxD_gd (maxD_gd ha hb) (maxD_gd hc hd)⟩
def foldE : Iv → List (Int × Int) → Iv
  | s, [] => s
  | s, x :: r => foldE (minD s.1 x, maxD s.2 x) r
theorem ivEnds_ev {x : Int × Int} {xs : Pt} (hx : ∀ y ∈ x :: xs, gd y) (hb : (x :: xs).length < lenB) : Evt (fun k _ => spec_ivEnds k (x :: xs)) (foldE (x, x) (x :: xs)) := by
  refine Evt.eq (f := fun k q => _) ?_ (fun k q => by rw [spec_ivEnds])
  have key : ∀ (r d : Pt) (s z : Iv), d ++ r = x :: xs → gdI s → Evt (fun k n => spec_ivEnds_L58 k n z s (x :: xs) ((x :: xs).length : Int) d.length) (.inr (z, foldE s r, ())) := by
    intro r
    induction r with
    | nil =>
      intro d s z h hs
      refine Evt.step (fun k n => spec_ivEnds_L58.eq_2 k _ _ _ _ _ n) ?_
      rw [List.append_nil] at h
      rw [← h]
      exact Evt.rng0 .pure
    | cons e r ih =>
      intro d s z h hs
      have ge : gd e := hx e (by rw [← h]; simp)
      refine Evt.step (fun k n => spec_ivEnds_L58.eq_2 k _ _ _ _ _ n) ?_
      have ih := ih (d ++ [e]) (minD s.1 e, maxD s.2 e) z (by simpa using h) ⟨minD_gd hs.1 ge, maxD_gd hs.2 ge⟩
      rw [← len_next (r := r) (by rw [h]; exact hb)] at ih
      rw [← h] at ih ⊢
      refine Evt.ctrue mid_lt (Evt.ctrue mid_ge (Evt.ctrue mid_lt ?_))
      rw [mid_get]
      refine Evt.inr (y := (z, (minD s.1 e, s.2), e, d ++ e :: r, ((d ++ e :: r).length : Int), (d.length : Int), ())) ?_ ?_
      · refine Evt.bind (dyCmp_ev ge hs.1) ?_
        rw [cmpI_lt]
        unfold minD
        by_cases hh : sv e < sv s.1
        · rw [if_pos hh]; exact Evt.ctrue (decide_eq_true hh) .pure
        · rw [if_neg hh]; exact Evt.cfalse (decide_eq_false hh) .pure
      · refine Evt.bind (dyCmp_ev hs.2 ge) ?_
        rw [cmpI_lt]
        rw [show foldE s (e :: r) = foldE (minD s.1 e, maxD s.2 e) r from rfl]
        by_cases hh : sv s.2 < sv e
        · have hmx : maxD s.2 e = e := if_pos hh
          rw [hmx] at ih ⊢; exact Evt.ctrue (decide_eq_true hh) ih
        · have hmx : maxD s.2 e = s.2 := if_neg hh
          rw [hmx] at ih ⊢; exact Evt.cfalse (decide_eq_false hh) ih
  have gx := hx x (by simp)
  refine Evt.ctrue (by simp <;> omega) (Evt.ctrue (by simp <;> omega) ?_)
  exact Evt.inr (Evt.diag (key (x :: xs) [] (x, x) ((0, 0), 0, 0) rfl ⟨gx, gx⟩)) .pure
theorem fold4 {a b c d : Int × Int} (ha : gd a) (hb : gd b) (hc : gd c) (hd : gd d) : foldE (a, a) [a, b, c, d] = ends4 a b c d := by
  simp only [foldE, ends4]
  refine Prod.ext (sv_inj ?_ ?_ ?_) (sv_inj ?_ ?_ ?_)
  · exact minD_gd (minD_gd (minD_gd (minD_gd ha ha) hb) hc) hd
  · exact minD_gd (minD_gd ha hb) (minD_gd hc hd)
  · simp only [minD_sv]; omega
  · exact maxD_gd (maxD_gd (maxD_gd (maxD_gd ha ha) hb) hc) hd
  · exact maxD_gd (maxD_gd ha hb) (maxD_gd hc hd)
  · simp only [maxD_sv]; omega

/-- the product of intervals, if it is told -/
def mulO (i k : Iv) : Option Iv := match prO (i.1, k.1), prO (i.1, k.2), prO (i.2, k.1), prO (i.2, k.2) with
  | some a, some b, some c, some d => some (rdI 16 (ends4 a b c d))
  | _, _, _, _ => none
theorem prO_gd {p : (Int × Int) × Int × Int} {t : Int × Int} (h : prO p = some t) : gd t := by
  unfold prO at h
  split at h
  · cases h; exact prodD_gd _ _
  · cases h
theorem mulO_gd {i k t : Iv} (h : mulO i k = some t) : gdI t := by
  unfold mulO at h
  split at h
  · rename_i h1 h2 h3 h4
    cases h
    exact rdI_gd (ends4_gd (prO_gd h1) (prO_gd h2) (prO_gd h3) (prO_gd h4))
  · cases h
theorem mul1_ev {x y : Int × Int} (hx : gd x) (hy : gd y) : Evt (fun k _ => spec_dyMul k x y) (match prO (x, y) with | some t => (t, true) | none => ((0, 0), false)) := by
  have := dyMul_ev hx hy
  unfold prO
  cases h : (prodD x y).2 with
  | true => rw [if_pos rfl]; rw [show prodD x y = ((prodD x y).1, true) from Prod.ext rfl h] at this; exact this
  | false => rw [if_neg (by simp)]; rw [show prodD x y = ((0, 0), false) from Prod.ext (mkD_false h) h] at this; exact this

theorem ivMul_ev {i k' : Iv} (hi : gdI i) (hk : gdI k') : Evt (fun k _ => spec_ivMul k i k') (match mulO i k' with | some t => (t, true) | none => (((0, 0), 0, 0), false)) := by
  refine Evt.eq (f := fun k q => _) ?_ (fun k q => by rw [spec_ivMul])
  have w1 : IntKind.wrap .i64 (0 + 1) = 1 := by decide
  have w2 : IntKind.wrap .i64 (1 + 1) = 2 := by decide
  have row : ∀ (x : Int × Int) (z : Iv) (acc : Pt) (x17 : Pt) (x18 x19 : Int), gd x → acc.length ≤ 2 → Evt (fun k n => spec_ivMul_L14950 k n k' z acc x x17 x18 x19 [k'.1, k'.2] 2 0) (match prO (x, k'.1), prO (x, k'.2) with | some a, some b => .inr (k', z, acc ++ [a] ++ [b], x17, x18, x19, ()) | _, _ => .inl (((0, 0), 0, 0), false)) := by
    intro x z acc x17 x18 x19 hx hacc
    refine Evt.step (fun k n => spec_ivMul_L14950.eq_2 k _ _ _ _ _ _ _ _ _ _ n) (Evt.ctrue rfl (Evt.ctrue rfl (Evt.ctrue rfl (Evt.bind (mul1_ev (y := k'.1) hx hk.1) ?_))))
    cases prO (x, k'.1) with
    | none => exact Evt.ctrue rfl .pure
    | some a =>
      refine Evt.cfalse rfl (Evt.ctrue (by simp; omega) ?_)
      rw [w1]
      refine Evt.step (fun k n => spec_ivMul_L14950.eq_2 k _ _ _ _ _ _ _ _ _ _ n) (Evt.ctrue rfl (Evt.ctrue rfl (Evt.ctrue rfl (Evt.bind (mul1_ev (y := k'.2) hx hk.2) ?_))))
      cases prO (x, k'.2) with
      | none => exact Evt.ctrue rfl .pure
      | some b =>
        refine Evt.cfalse rfl (Evt.ctrue (by simp; omega) ?_)
        rw [w2]
        exact Evt.step (fun k n => spec_ivMul_L14950.eq_2 k _ _ _ _ _ _ _ _ _ _ n) (Evt.cfalse rfl .pure)
  unfold mulO
  have r1 := fun z => row i.1 z [] [i.1, i.2] 2 0 hi.1 (by simp)
  have r2 := fun z a b => row i.2 z [a, b] [i.1, i.2] 2 1 hi.2 (by simp)
  cases h1 : prO (i.1, k'.1) with
  | none =>
    rw [h1] at r1
    exact Evt.inl (Evt.diag (f := fun k n => spec_ivMul_L58 k n k' ((0, 0), 0, 0) [] [i.1, i.2] 2 0) (Evt.step (fun k n => spec_ivMul_L58.eq_2 k _ _ _ _ _ _ n) (Evt.ctrue rfl (Evt.ctrue rfl (Evt.ctrue rfl (Evt.inl (Evt.diag (r1 _)) .pure)))))) .pure
  | some a =>
  cases h2 : prO (i.1, k'.2) with
  | none =>
    rw [h1, h2] at r1
    exact Evt.inl (Evt.diag (f := fun k n => spec_ivMul_L58 k n k' ((0, 0), 0, 0) [] [i.1, i.2] 2 0) (Evt.step (fun k n => spec_ivMul_L58.eq_2 k _ _ _ _ _ _ n) (Evt.ctrue rfl (Evt.ctrue rfl (Evt.ctrue rfl (Evt.inl (Evt.diag (r1 _)) .pure)))))) .pure
  | some b =>
  rw [h1, h2] at r1
  have go : ∀ {y : ((Iv × Bool) ⊕ (Iv × Pt × Unit))}, Evt (fun k n => spec_ivMul_L58 k n k' ((0, 0), 0, 0) [a, b] [i.1, i.2] 2 1) y → Evt (fun k _ => spec_ivMul_L58 k k k' ((0, 0), 0, 0) [] [i.1, i.2] 2 0) y := by
    intro y hy
    refine Evt.diag (f := fun k n => spec_ivMul_L58 k n k' ((0, 0), 0, 0) [] [i.1, i.2] 2 0) (Evt.step (fun k n => spec_ivMul_L58.eq_2 k _ _ _ _ _ _ n) (Evt.ctrue rfl (Evt.ctrue rfl (Evt.ctrue rfl (Evt.inr (Evt.diag (r1 _)) ?_)))))
    exact hy
  cases h3 : prO (i.2, k'.1) with
  | none =>
    rw [h3] at r2
    exact Evt.inl (go (Evt.step (fun k n => spec_ivMul_L58.eq_2 k _ _ _ _ _ _ n) (Evt.ctrue rfl (Evt.ctrue rfl (Evt.ctrue rfl (Evt.inl (Evt.diag (r2 _ a b)) .pure)))))) .pure
  | some c =>
  cases h4 : prO (i.2, k'.2) with
  | none =>
    rw [h3, h4] at r2
    exact Evt.inl (go (Evt.step (fun k n => spec_ivMul_L58.eq_2 k _ _ _ _ _ _ n) (Evt.ctrue rfl (Evt.ctrue rfl (Evt.ctrue rfl (Evt.inl (Evt.diag (r2 _ a b)) .pure)))))) .pure
  | some d =>
    rw [h3, h4] at r2
    have ga := prO_gd h1
    have gb := prO_gd h2
    have gc := prO_gd h3
    have ge := prO_gd h4
    refine Evt.inr (go (y := .inr (((0, 0), 0, 0), [a, b, c, d], ())) (Evt.step (fun k n => spec_ivMul_L58.eq_2 k _ _ _ _ _ _ n) (Evt.ctrue rfl (Evt.ctrue rfl (Evt.ctrue rfl (Evt.inr (Evt.diag (r2 _ a b)) ?_)))))) ?_
    · exact Evt.step (fun k n => spec_ivMul_L58.eq_2 k _ _ _ _ _ _ n) (Evt.cfalse rfl .pure)
    · refine Evt.bind (ivEnds_ev (x := a) (xs := [b, c, d]) (by simp [ga, gb, gc, ge]) (by simp [lenB])) ?_
      rw [fold4 ga gb gc ge]
      exact Evt.bind (ivRound_ev (p := 16) (ends4_gd ga gb gc ge) (by omega)) .pure

theorem multiply_ev {b : Bool} {i k' : Iv} (hi : gdI i) (hk : gdI k') : ∃ v, gdI v ∧ (b = true → (mulO i k').isSome = true → mulO i k' = some v) ∧ Evt (fun k _ => impl_reckoner_multiply k b i k') (v, b && (mulO i k').isSome) := by
  let P (c : Bool) (x y : Int × Int) : (Int × Int) × Bool := if c then prodD x y else ((0, 0), false)
  have gP : ∀ c x y, gd (P c x y).1 := by
    intro c x y
    simp only [P]
    split
    · exact prodD_gd _ _
    · decide
  have eP : ∀ c x y, (P c x y).2 = (c && (prO (x, y)).isSome) := by
    intro c x y
    simp only [P]
    cases c with
    | false => rfl
    | true =>
      unfold prO
      simp only [if_true, Bool.true_and]
      cases (prodD x y).2 <;> rfl
  let p1 := P b i.1 k'.1
  let p2 := P p1.2 i.1 k'.2
  let p3 := P p2.2 i.2 k'.1
  let p4 := P p3.2 i.2 k'.2
  have f4 : p4.2 = (b && (mulO i k').isSome) := by
    simp only [p4, p3, p2, p1, eP]
    unfold mulO
    cases b with
    | false => rfl
    | true =>
      cases prO (i.1, k'.1) <;> cases prO (i.1, k'.2) <;> cases prO (i.2, k'.1) <;> cases prO (i.2, k'.2) <;> rfl
  refine ⟨rdI 16 (ends4 p1.1 p2.1 p3.1 p4.1), rdI_gd (ends4_gd (gP _ _ _) (gP _ _ _) (gP _ _ _) (gP _ _ _)), ?_, ?_⟩
  · intro hb hs
    subst hb
    have hv : ∀ {x y t}, prO (x, y) = some t → (P true x y).1 = t := by
      intro x y t h
      simp only [P, if_true]
      unfold prO at h
      split at h
      · cases h; rfl
      · cases h
    unfold mulO at hs ⊢
    split at hs
    · rename_i a b c d h1 h2 h3 h4
      try simp only [h1, h2, h3, h4]
      have q1 : p1.1 = a := hv h1
      have t1 : p1.2 = true := by simp only [p1, eP, h1]; rfl
      have q2 : p2.1 = b := by simp only [p2, t1]; exact hv h2
      have t2 : p2.2 = true := by simp only [p2, eP, t1, h2]; rfl
      have q3 : p3.1 = c := by simp only [p3, t2]; exact hv h3
      have t3 : p3.2 = true := by simp only [p3, eP, t2, h3]; rfl
      have q4 : p4.1 = d := by simp only [p4, t3]; exact hv h4
      rw [q1, q2, q3, q4]
    · cases hs
  · rw [← f4]
    refine Evt.eq (f := fun k q => _) ?_ (fun k q => by rw [impl_reckoner_multiply])
    have e1 : Evt (fun k _ => impl_reckoner_product k b i.1 k'.1) p1 := reckoner_product_ev hi.1 hk.1
    have e2 : Evt (fun k _ => impl_reckoner_product k p1.2 i.1 k'.2) p2 := reckoner_product_ev hi.1 hk.2
    have e3 : Evt (fun k _ => impl_reckoner_product k p2.2 i.2 k'.1) p3 := reckoner_product_ev hi.2 hk.1
    have e4 : Evt (fun k _ => impl_reckoner_product k p3.2 i.2 k'.2) p4 := reckoner_product_ev hi.2 hk.2
    refine Evt.bind e1 (Evt.bind e2 (Evt.bind e3 (Evt.bind e4 ?_)))
    refine Evt.bind (lesser_ev (gP _ _ _) (gP _ _ _)) (Evt.bind (lesser_ev (gP _ _ _) (gP _ _ _)) (Evt.bind (lesser_ev (minD_gd (gP _ _ _) (gP _ _ _)) (minD_gd (gP _ _ _) (gP _ _ _))) ?_))
    refine Evt.bind (greater_ev2 (gP _ _ _) (gP _ _ _)) (Evt.bind (greater_ev2 (gP _ _ _) (gP _ _ _)) (Evt.bind (greater_ev2 (maxD_gd (gP _ _ _) (gP _ _ _)) (maxD_gd (gP _ _ _) (gP _ _ _))) ?_))
    exact Evt.bind (roundOut_ev (p := 16) (ends4_gd (gP _ _ _) (gP _ _ _) (gP _ _ _) (gP _ _ _)) (by omega)) .pure

/-- the sum of intervals, if it is told -/
def smO (a b : Int × Int) : Option (Int × Int) := if (sumD a b).2 then some (sumD a b).1 else none
def addO (i k : Iv) : Option Iv := match smO i.1 k.1, smO i.2 k.2 with
  | some a, some b => some (a, b)
  | _, _ => none
def subO (i k : Iv) : Option Iv := addO i (ng k.2, ng k.1)
theorem addO_gd {i k t : Iv} (h : addO i k = some t) : gdI t := by
  unfold addO smO at h
  split at h
  · rename_i h1 h2
    cases h
    split at h1
    · cases h1
      split at h2
      · cases h2; exact ⟨sumD_gd _ _, sumD_gd _ _⟩
      · cases h2
    · cases h1
  · cases h
theorem ivAdd_ev {i k' : Iv} (hi : gdI i) (hk : gdI k') : Evt (fun k _ => spec_ivAdd k i k') (match addO i k' with | some t => (t, true) | none => (((0, 0), 0, 0), false)) := by
  refine Evt.eq (f := fun k q => _) ?_ (fun k q => by rw [spec_ivAdd])
  refine Evt.bind (dyAdd_ev hi.1 hk.1) (Evt.bind (dyAdd_ev hi.2 hk.2) (.const ?_))
  unfold spec_ivBoth addO smO
  cases (sumD i.1 k'.1).2 <;> cases (sumD i.2 k'.2).2 <;> rfl
theorem ivSub_ev {i k' : Iv} (hi : gdI i) (hk : gdI k') : Evt (fun k _ => spec_ivSub k i k') (match subO i k' with | some t => (t, true) | none => (((0, 0), 0, 0), false)) := by
  refine Evt.eq (f := fun k q => _) ?_ (fun k q => by rw [spec_ivSub])
  have hmn : spec_ivMinus k' = some (ng k'.2, ng k'.1) := by
    unfold spec_ivMinus
    rw [dyMinus_eq hk.2, Option.bind_some, dyMinus_eq hk.1]
    rfl
  refine Evt.bind (.const hmn) (Evt.bind (ivAdd_ev hi (k' := (ng k'.2, ng k'.1)) ⟨gd_neg hk.2, gd_neg hk.1⟩) ?_)
  unfold subO
  exact .pure
theorem add_ev2 {b : Bool} {i k' : Iv} (hi : gdI i) (hk : gdI k') : ∃ v, gdI v ∧ (b = true → (addO i k').isSome = true → addO i k' = some v) ∧ (∀ f : Nat → Option ((Int × Int) × Bool), True) ∧
    ∃ r2 r4 : (Int × Int) × Bool, v = (r2.1, r4.1) ∧ r4.2 = (b && (addO i k').isSome) ∧ Evt (fun k _ => impl_reckoner_sum k b i.1 k'.1) r2 ∧ Evt (fun k _ => impl_reckoner_sum k r2.2 i.2 k'.2) r4 := by
  let S (c : Bool) (x y : Int × Int) : (Int × Int) × Bool := if c then sumD x y else ((0, 0), false)
  have gS : ∀ c x y, gd (S c x y).1 := by
    intro c x y
    simp only [S]
    split
    · exact sumD_gd _ _
    · decide
  have eS : ∀ c x y, (S c x y).2 = (c && (smO x y).isSome) := by
    intro c x y
    simp only [S]
    cases c with
    | false => rfl
    | true =>
      unfold smO
      simp only [if_true, Bool.true_and]
      cases (sumD x y).2 <;> rfl
  refine ⟨((S b i.1 k'.1).1, (S (S b i.1 k'.1).2 i.2 k'.2).1), ⟨gS _ _ _, gS _ _ _⟩, ?_, fun _ => trivial, S b i.1 k'.1, S (S b i.1 k'.1).2 i.2 k'.2, rfl, ?_, reckoner_sum_ev hi.1 hk.1, reckoner_sum_ev hi.2 hk.2⟩
  · intro hb hs
    subst hb
    have hv : ∀ {x y t}, smO x y = some t → (S true x y).1 = t := by
      intro x y t h
      simp only [S, if_true]
      unfold smO at h
      split at h
      · cases h; rfl
      · cases h
    unfold addO at hs ⊢
    split at hs
    · rename_i a c h1 h2
      try simp only [h1, h2]
      have t1 : (S true i.1 k'.1).2 = true := by rw [eS, h1]; rfl
      rw [hv h1, t1, hv h2]
    · cases hs
  · simp only [eS]
    unfold addO
    cases b with
    | false => rfl
    | true => cases smO i.1 k'.1 <;> cases smO i.2 k'.2 <;> rfl
theorem addI_ev {b : Bool} {i k' : Iv} (hi : gdI i) (hk : gdI k') : ∃ v, gdI v ∧ (b = true → (addO i k').isSome = true → addO i k' = some v) ∧ Evt (fun k _ => impl_reckoner_add k b i k') (v, b && (addO i k').isSome) := by
  obtain ⟨v, gv, hv, _, r2, r4, rfl, hf, e1, e2⟩ := add_ev2 (b := b) hi hk
  refine ⟨_, gv, hv, ?_⟩
  rw [← hf]
  refine Evt.eq (f := fun k q => _) ?_ (fun k q => by rw [impl_reckoner_add])
  exact Evt.bind e1 (Evt.bind e2 .pure)
theorem subI_ev {b : Bool} {i k' : Iv} (hi : gdI i) (hk : gdI k') : ∃ v, gdI v ∧ (b = true → (subO i k').isSome = true → subO i k' = some v) ∧ Evt (fun k _ => impl_reckoner_subtract k b i k') (v, b && (subO i k').isSome) := by
  obtain ⟨v, gv, hv, _, r2, r4, rfl, hf, e1, e2⟩ := add_ev2 (b := b) hi (k' := (ng k'.2, ng k'.1)) ⟨gd_neg hk.2, gd_neg hk.1⟩
  refine ⟨_, gv, hv, ?_⟩
  unfold subO
  rw [← hf]
  refine Evt.eq (f := fun k q => _) ?_ (fun k q => by rw [impl_reckoner_subtract])
  exact Evt.bind (.const (minus_eq hk.2)) (Evt.bind e1 (Evt.bind (.const (minus_eq hk.1)) (Evt.bind e2 .pure)))
end Go.Ev.G
namespace Go.Ev.G
open Go Go.Ev
set_option maxRecDepth 100000

/-! Determinants of tables of intervals. -/
theorem concatI_ev {a b : List Iv} (ha : a.length < 1000) (hb : b.length < 1000) : Evt (fun k _ => slices_Concat_Interval_Interval k [a, b]) (a ++ b) := by
  refine Evt.eq (f := fun k q => _) ?_ (fun k q => by rw [slices_Concat_Interval_Interval])
  have w1 : IntKind.wrap .i64 (0 + 1) = 1 := by decide
  have w2 : IntKind.wrap .i64 (1 + 1) = 2 := by decide
  have wa : IntKind.wrap .i64 (0 + (a.length : Int)) = (a.length : Int) := by rw [w64 (by omega) (by omega)]; omega
  have wb : IntKind.wrap .i64 ((a.length : Int) + (b.length : Int)) = ((a.length + b.length : Nat) : Int) := by rw [w64 (by omega) (by omega)]; omega
  have l1 : Evt (fun k n => slices_Concat_Interval_Interval_L58 k n [a, b] 0 [a, b] 2 0) (.inr ([a, b], ((a.length + b.length : Nat) : Int), ())) := by
    refine Evt.step (fun k n => slices_Concat_Interval_Interval_L58.eq_2 k _ _ _ _ _ n) (Evt.ctrue rfl (Evt.ctrue rfl (Evt.ctrue rfl ?_)))
    simp only [List.getD_cons_zero, show Int.toNat 0 = 0 from rfl, wa, w1]
    refine Evt.cfalse (decide_eq_false (by omega)) ?_
    refine Evt.step (fun k n => slices_Concat_Interval_Interval_L58.eq_2 k _ _ _ _ _ n) (Evt.ctrue rfl (Evt.ctrue rfl (Evt.ctrue rfl ?_)))
    have e1 : [a, b].getD (Int.toNat 1) [] = b := rfl
    simp only [e1, wb, w2]
    refine Evt.cfalse (decide_eq_false (by omega)) ?_
    exact Evt.step (fun k n => slices_Concat_Interval_Interval_L58.eq_2 k _ _ _ _ _ n) (Evt.cfalse rfl .pure)
  have grow : slices_Grow_Interval_Interval () ((a.length + b.length : Nat) : Int) = some [] := by
    unfold slices_Grow_Interval_Interval
    have e : IntKind.wrap .i64 (((a.length + b.length : Nat) : Int) - IntKind.wrap .i64 (0 - 0)) = ((a.length + b.length : Nat) : Int) := by
      have : IntKind.wrap .i64 (0 - 0) = 0 := by decide
      rw [this, w64 (by omega) (by omega)]; omega
    rw [e, decide_eq_false (by omega), cond_false]
    by_cases h : a.length + b.length = 0
    · rw [h]; rfl
    · rw [decide_eq_true (by omega), decide_eq_true (by omega), decide_eq_true (by omega)]
      simp only [cond_true, List.take_zero]
      rw [decide_eq_true (by simp; omega)]
      rfl
  have l2 : Evt (fun k n => slices_Concat_Interval_Interval_L250 k n [] [a, b] 2 0) (.inr (a ++ b, ())) := by
    refine Evt.step (fun k n => slices_Concat_Interval_Interval_L250.eq_2 k _ _ _ _ n) (Evt.ctrue rfl (Evt.ctrue rfl (Evt.ctrue rfl ?_)))
    simp only [List.getD_cons_zero, show Int.toNat 0 = 0 from rfl, w1, List.nil_append, List.length_nil]
    refine Evt.ctrue (decide_eq_true (by omega)) ?_
    refine Evt.step (fun k n => slices_Concat_Interval_Interval_L250.eq_2 k _ _ _ _ n) (Evt.ctrue rfl (Evt.ctrue rfl (Evt.ctrue rfl ?_)))
    have e1 : [a, b].getD (Int.toNat 1) [] = b := rfl
    simp only [e1, w2]
    refine Evt.ctrue (decide_eq_true (by omega)) ?_
    exact Evt.step (fun k n => slices_Concat_Interval_Interval_L250.eq_2 k _ _ _ _ n) (Evt.cfalse rfl .pure)
  exact Evt.inr (Evt.diag l1) (Evt.bind (.const grow) (Evt.inr (Evt.diag l2) .pure))

theorem impl_partI_ev {m : List (List Iv)} {n i j : Nat} (h : sq ivGd (n + 1) m) (hn : n ≤ 2) (hj : j ≤ n) : Evt (fun k _ => impl_part_Interval k m i j) (partV m i j) := by
  refine Evt.eq (f := fun k q => _) ?_ (fun k q => by rw [impl_part_Interval])
  have hb : m.length ≤ 3 := by have := h.1; omega
  have key : ∀ (r d : List (List Iv)), d ++ r = m → Evt (fun k q => impl_part_Interval_L58 k q i j ((d.eraseIdx i).map (·.eraseIdx j)) m (m.length : Int) d.length) (.inr (partV m i j, ())) := by
    intro r
    induction r with
    | nil =>
      intro d hd
      refine Evt.step (fun k q => impl_part_Interval_L58.eq_2 k _ _ _ _ _ _ q) ?_
      rw [List.append_nil] at hd
      subst hd
      exact Evt.rng0 .pure
    | cons e r ih =>
      intro d hd
      refine Evt.step (fun k q => impl_part_Interval_L58.eq_2 k _ _ _ _ _ _ q) ?_
      have he := (h.2 e (by rw [← hd]; simp)).1
      have ih := ih (d ++ [e]) (by simpa using hd)
      rw [← len_next (r := r) (by rw [hd]; simp only [lenB]; omega), erase_snoc] at ih
      have hl := congrArg List.length hd
      simp at hl
      have hdl : (d.eraseIdx i).length ≤ d.length := by rw [List.length_eraseIdx]; split <;> omega
      subst hd
      refine Evt.ctrue mid_lt (Evt.ctrue mid_ge (Evt.ctrue mid_lt ?_))
      rw [mid_get]
      by_cases hi : d.length = i
      · rw [if_pos hi] at ih
        exact Evt.cfalse (by simp [hi]) ih
      · rw [if_neg hi, List.map_append] at ih
        have wj : IntKind.wrap .i64 ((j : Int) + 1) = ((j + 1 : Nat) : Int) := w64_next (by simp only [lenB]; omega)
        rw [wj]
        have htd := take_drop e j
        simp only [Int.toNat_natCast] at htd ⊢
        have t1 : ((e.take j).drop 0).length < 1000 := by simp; omega
        have t2 : ((e.take e.length).drop (j + 1)).length < 1000 := by simp; omega
        have hc := concatI_ev t1 t2
        rw [htd] at hc
        exact Evt.ctrue (by simp; omega) (Evt.ctrue mid_ge (Evt.ctrue (by simp; omega) (Evt.ctrue mid_ge (Evt.ctrue (by simp; omega) (Evt.bind hc (Evt.ctrue (by simp; omega) ih))))))
  exact Evt.inr (Evt.diag (key m [] rfl)) .pure

theorem mxLess_ev {m : List (List Iv)} {n j : Nat} (h : sq ivGd (n + 1) m) (hn : n ≤ 2) (hj : j ≤ n) : Evt (fun k _ => spec_mxLess k m j) (partV m 0 j) := by
  refine Evt.eq (f := fun k q => _) ?_ (fun k q => by rw [spec_mxLess])
  have hb : m.length ≤ 3 := by have := h.1; omega
  have hpos : 1 ≤ m.length := by have := h.1; omega
  obtain ⟨m0, ms, rfl⟩ : ∃ x y, m = x :: y := by cases m with
    | nil => simp at hpos
    | cons x y => exact ⟨x, y, rfl⟩
  refine Evt.ctrue (decide_eq_true (by simp; omega)) ?_
  have e1 : ((m0 :: ms).take (Int.toNat ((m0 :: ms).length : Int))).drop 1 = ms := by simp
  rw [e1]
  have key : ∀ (r d : List (List Iv)), d ++ r = ms → Evt (fun k q => spec_mxLess_L58 k q j (d.map (·.eraseIdx j)) ms (ms.length : Int) d.length) (.inr (ms.map (·.eraseIdx j), ())) := by
    intro r
    induction r with
    | nil =>
      intro d hd
      refine Evt.step (fun k q => spec_mxLess_L58.eq_2 k _ _ _ _ _ q) ?_
      rw [List.append_nil] at hd
      subst hd
      exact Evt.rng0 .pure
    | cons e r ih =>
      intro d hd
      refine Evt.step (fun k q => spec_mxLess_L58.eq_2 k _ _ _ _ _ q) ?_
      have he := (h.2 e (by rw [← hd]; simp)).1
      have ih := ih (d ++ [e]) (by simpa using hd)
      have hl := congrArg List.length hd
      simp at hl hb
      rw [← len_next (r := r) (by rw [hd]; simp only [lenB]; omega)] at ih
      subst hd
      refine Evt.ctrue mid_lt (Evt.ctrue mid_ge (Evt.ctrue mid_lt ?_))
      rw [mid_get]
      rw [List.map_append] at ih
      have wj : IntKind.wrap .i64 ((j : Int) + 1) = ((j + 1 : Nat) : Int) := w64_next (by simp only [lenB]; omega)
      rw [wj]
      simp only [List.nil_append, Int.toNat_natCast]
      have htd := take_drop e j
      rw [Int.toNat_natCast] at htd
      rw [htd]
      have hel := erase_len he hj
      have t1 : ((e.take j).drop 0).length ≤ 3 := by simp; omega
      refine Evt.ctrue mid_ge (Evt.ctrue (by simp; omega) (Evt.ctrue (decide_eq_true (by simp only [List.length_nil]; omega)) (Evt.ctrue mid_ge (Evt.ctrue (by simp; omega) (Evt.ctrue ?_ (Evt.ctrue (by simp; omega) ih))))))
      refine decide_eq_true ?_
      have := congrArg List.length htd
      rw [List.length_append] at this
      omega
  refine Evt.inr (Evt.diag (key ms [] rfl)) ?_
  unfold partV
  exact .pure

def accI (c : Nat) (o t : Option Iv) : Option Iv := match o, t with
  | some s, some p => if c % 2 = 1 then subO s p else addO s p
  | _, _ => none
def foldI : Nat → Option Iv → List (Option Iv) → Option Iv
  | _, o, [] => o
  | c, o, t :: r => foldI (c + 1) (accI c o t) r
theorem foldI_none : ∀ (r : List (Option Iv)) (c : Nat), foldI c none r = none
  | [], _ => rfl
  | _ :: r, c => by rw [foldI]; exact foldI_none r (c + 1)
theorem accI_gd {c : Nat} {o t : Option Iv} {v : Iv} (h : accI c o t = some v) : gdI v := by
  unfold accI at h
  split at h
  · split at h
    · exact addO_gd h
    · exact addO_gd h
  · cases h
def tmI (a : Iv) (d : Option Iv) : Option Iv := match d with
  | none => none
  | some d => mulO a d
theorem tmI_gd {a : Iv} {d : Option Iv} {v : Iv} (h : tmI a d = some v) : gdI v := by
  cases d with
  | none => cases h
  | some d => exact mulO_gd h
abbrev zI : Iv := ((0, 0), 0, 0)
theorem zI_gd : gdI zI := ⟨by decide, by decide⟩
theorem addO_zero {p : Iv} (h : gdI p) : addO zI p = some p := by
  unfold addO smO
  rw [sumD_zero h.1, sumD_zero h.2]
  rfl
def detIO : Nat → List (List Iv) → Option Iv
  | 0, m => some ((m.getD 0 []).getD 0 zI)
  | n + 1, m => foldI 0 (some zI) ((List.range (n + 2)).map fun c => tmI ((m.getD 0 []).getD c zI) (detIO n (partV m 0 c)))
def termsI (n : Nat) (m : List (List Iv)) : List (Option Iv) := (List.range (n + 2)).map fun c => tmI ((m.getD 0 []).getD c zI) (detIO n (partV m 0 c))
def oI (o : Option Iv) : Iv × Bool := match o with
  | some t => (t, true)
  | none => (zI, false)

theorem foldI_gd : ∀ (r : List (Option Iv)) (c : Nat) (o : Option Iv) (v : Iv), (∀ s, o = some s → gdI s) → foldI c o r = some v → gdI v
  | [], _, _, v, ho, h => ho v h
  | _ :: r, c, _, v, _, h => by
    rw [foldI] at h
    exact foldI_gd r (c + 1) _ v (fun s hs => accI_gd hs) h
theorem detIO_gd : ∀ (n : Nat) (m : List (List Iv)) (t : Iv), sq ivGd (n + 1) m → detIO n m = some t → gdI t
  | 0, m, t, h, e => by
    obtain ⟨h1, h2⟩ := h
    match m, h1 with
    | [r], _ =>
      obtain ⟨h3, h4⟩ := h2 r (by simp)
      match r, h3 with
      | [x], _ =>
        simp only [detIO, List.getD_cons_zero, Option.some.injEq] at e
        rw [← e]
        have := h4 x (by simp)
        exact ⟨this.1, this.2.1⟩
  | n + 1, m, t, h, e => foldI_gd _ _ _ _ (fun s hs => by cases hs; exact zI_gd) e
theorem termsI_get {n c : Nat} {m : List (List Iv)} {d r : List (Option Iv)} {t : Option Iv} (h : d ++ t :: r = termsI n m) (hc : d.length = c) : t = tmI ((m.getD 0 []).getD c zI) (detIO n (partV m 0 c)) ∧ c ≤ n + 1 := by
  have hl := congrArg List.length h
  simp [termsI] at hl
  have h2 : (d ++ t :: r)[d.length]? = some t := by simp
  rw [h, termsI, List.getElem?_map, List.getElem?_range (by omega)] at h2
  simp only [Option.map_some, Option.some.injEq] at h2
  rw [← hc]
  exact ⟨h2.symm, by omega⟩
theorem getI_mem {r : List Iv} {j : Nat} (h : j < r.length) : r.getD j zI ∈ r := by
  rw [List.getD_eq_getElem?_getD, List.getElem?_eq_getElem h]
  exact List.getElem_mem h

theorem mxDetIn_ev : ∀ (n : Nat) (m : List (List Iv)), n ≤ 2 → sq ivGd (n + 1) m → Evt (fun k q => spec_mxDetIn_R k q m) (oI (detIO n m))
  | 0, m, _, h => by
    obtain ⟨h1, h2⟩ := h
    match m, h1 with
    | [r], _ =>
      obtain ⟨h3, h4⟩ := h2 r (by simp)
      match r, h3 with
      | [x], _ => exact Evt.step (fun k q => (rfl : spec_mxDetIn_R k (q + 1) [[x]] = some (x, true))) .pure
  | n + 1, m, hn, h => by
    refine Evt.step (F := fun k q => spec_mxDetIn_B k (spec_mxDetIn_R k q) m) (fun k q => rfl) ?_
    refine Evt.eq (f := fun k q => _) ?_ (fun k q => by rw [spec_mxDetIn_B])
    have hm := h.1
    have hrow : (m.getD 0 []).length = n + 2 ∧ ∀ x ∈ m.getD 0 [], ivGd x := by
      match m, hm with
      | r :: _, _ => exact h.2 r (by simp)
    refine Evt.cfalse (by rw [hm]; simp; omega) (Evt.ctrue (by rw [hm]; simp; omega) ?_)
    generalize hrw : m.getD 0 [] = row at hrow ⊢
    have hsub : ∀ c, c ≤ n + 1 → Ev3 (fun k q _ => spec_mxDetIn_R k q (partV m 0 c)) (oI (detIO n (partV m 0 c))) := fun c hc => Ev3.rec (mxDetIn_ev n _ (by omega) (sq_part h (by omega) hc))
    have key : ∀ (r d : List (Option Iv)) (z s : Iv), d ++ r = termsI n m → gdI s →
        Ev3 (fun k q f => spec_mxDetIn_L122 k (spec_mxDetIn_R k q) f m z s row (row.length : Int) d.length) (match foldI d.length (some s) r with | some t => .inr (z, t, ()) | none => .inl (zI, false)) := by
      intro r
      induction r with
      | nil =>
        intro d z s hd hs
        refine Ev3.step (fun k q f => spec_mxDetIn_L122.eq_2 k _ _ _ _ _ _ _ f) ?_
        rw [List.append_nil] at hd
        have : d.length = n + 2 := by rw [hd]; simp [termsI]
        exact Ev3.cfalse (decide_eq_false (by omega)) .pure
      | cons t r ih =>
        intro d z s hd hs
        obtain ⟨ht, hc⟩ := termsI_get hd rfl
        rw [hrw] at ht
        refine Ev3.step (fun k q f => spec_mxDetIn_L122.eq_2 k _ _ _ _ _ _ _ f) ?_
        have ih := fun s => ih (d ++ [t]) z s (by simpa using hd)
        have hnx : IntKind.wrap .i64 ((d.length : Int) + 1) = ((d ++ [t]).length : Int) := by rw [w64_next (by simp only [lenB]; omega)]; simp
        rw [← hnx] at ih
        have hdl : (d ++ [t]).length = d.length + 1 := by simp
        rw [hdl] at ih
        generalize hcd : d.length = c at ht hc ih ⊢
        rw [foldI]
        have ga := hrow.2 _ (getI_mem (r := row) (j := c) (by omega))
        have ga : gdI (row.getD c zI) := ⟨ga.1, ga.2.1⟩
        refine Ev3.ctrue (decide_eq_true (by omega)) (Ev3.ctrue mid_ge (Ev3.ctrue (decide_eq_true (by omega)) ?_))
        rw [Int.toNat_natCast]
        refine Ev3.bind (Ev3.of (mxLess_ev h hn hc)) (Ev3.bind (hsub c hc) ?_)
        cases hdo : detIO n (partV m 0 c) with
        | none =>
          rw [hdo] at ht
          rw [ht]
          simp only [tmI, accI, foldI_none]
          exact Ev3.ctrue rfl .pure
        | some dv =>
          rw [hdo] at ht
          have gdv := detIO_gd n _ _ (sq_part h (by omega) hc) hdo
          have hm1 := ivMul_ev ga gdv
          rw [ht]
          simp only [tmI]
          cases hmu : mulO (row.getD c zI) dv with
          | none =>
            rw [hmu] at hm1
            simp only [accI, foldI_none]
            exact Ev3.cfalse rfl (Ev3.bind (Ev3.of hm1) (Ev3.ctrue rfl .pure))
          | some p =>
            rw [hmu] at hm1
            have gp := mulO_gd hmu
            refine Ev3.cfalse rfl (Ev3.bind (Ev3.of hm1) (Ev3.cfalse rfl (Ev3.bind (Ev3.of (ivAdd_ev hs gp)) ?_)))
            have hacc : accI c (some s) (some p) = if c % 2 = 1 then subO s p else addO s p := rfl
            refine Ev3.inr (y := (m, z, s, (oI (accI c (some s) (some p))).1, (oI (accI c (some s) (some p))).2, row, (row.length : Int), (c : Int), ())) ?_ ?_
            · rw [tmod_odd, hacc]
              by_cases hodd : c % 2 = 1
              · rw [if_pos hodd]
                refine Ev3.ctrue (decide_eq_true hodd) (Ev3.bind (Ev3.of (ivSub_ev hs gp)) ?_)
                cases subO s p <;> exact .pure
              · rw [if_neg hodd]
                refine Ev3.cfalse (decide_eq_false hodd) ?_
                cases addO s p <;> exact .pure
            · cases hac : accI c (some s) (some p) with
              | none =>
                simp only [foldI_none]
                exact Ev3.ctrue rfl .pure
              | some s' => exact Ev3.cfalse rfl (ih s' (accI_gd hac))
    have h0 := (key (termsI n m) [] zI zI rfl zI_gd).diag
    simp only [List.length_nil] at h0
    have hdet : detIO (n + 1) m = foldI 0 (some zI) (termsI n m) := rfl
    rw [hdet]
    cases hs : foldI 0 (some zI) (termsI n m) with
    | none => rw [hs] at h0; exact Evt.inl h0 .pure
    | some t => rw [hs] at h0; exact Evt.inr h0 .pure

theorem detIn_ev : ∀ (n : Nat) (m : List (List Iv)), n ≤ 2 → sq ivGd (n + 1) m → ∀ b : Bool, ∃ v, gdI v ∧ (b = true → (detIO n m).isSome = true → detIO n m = some v) ∧ Evt (fun k q => impl_reckoner_determinantIn_R k q b m) (v, b && (detIO n m).isSome)
  | 0, m, _, h, b => by
    obtain ⟨h1, h2⟩ := h
    match m, h1 with
    | [r], _ =>
      obtain ⟨h3, h4⟩ := h2 r (by simp)
      match r, h3 with
      | [x], _ =>
        have := h4 x (by simp)
        exact ⟨x, ⟨this.1, this.2.1⟩, fun _ _ => rfl, Evt.step (fun k q => (rfl : impl_reckoner_determinantIn_R k (q + 1) b [[x]] = some (x, b))) (.const (by simp [detIO]))⟩
  | n + 1, m, hn, h, b => by
    have hm := h.1
    have hrow : (m.getD 0 []).length = n + 2 ∧ ∀ x ∈ m.getD 0 [], ivGd x := by
      match m, hm with
      | r :: _, _ => exact h.2 r (by simp)
    generalize hrw : m.getD 0 [] = row at hrow
    have key : ∀ (r d : List (Option Iv)) (c : Bool) (z s : Iv) (o : Option Iv), d ++ r = termsI n m → gdI s → c = (b && o.isSome) → (c = true → o = some s) → (d = [] → o = some zI) → ∃ c' s', gdI s' ∧ c' = (b && (foldI d.length o r).isSome) ∧ (c' = true → foldI d.length o r = some s') ∧
        Ev3 (fun k q f => impl_reckoner_determinantIn_L122 k (impl_reckoner_determinantIn_R k q) f c m z s row (row.length : Int) d.length) (.inr (z, s', c', ())) := by
      intro r
      induction r with
      | nil =>
        intro d c z s o hd hs hc hcs _
        rw [List.append_nil] at hd
        have hdl : d.length = n + 2 := by rw [hd]; simp [termsI]
        exact ⟨c, s, hs, hc, hcs, Ev3.step (fun k q f => impl_reckoner_determinantIn_L122.eq_2 k _ _ _ _ _ _ _ _ f) (Ev3.cfalse (decide_eq_false (by omega)) .pure)⟩
      | cons t r ih =>
        intro d c z s o hd hs hc hcs hdo0
        obtain ⟨ht, hcn⟩ := termsI_get hd rfl
        rw [hrw] at ht
        have hdl : (d ++ [t]).length = d.length + 1 := by simp
        have hnx : IntKind.wrap .i64 ((d.length : Int) + 1) = ((d ++ [t]).length : Int) := by rw [w64_next (by simp only [lenB]; omega)]; simp
        obtain ⟨dv, gdv, hdv, hdev⟩ := detIn_ev n (partV m 0 d.length) (by omega) (sq_part h (by omega) hcn) c
        have ga := hrow.2 _ (getI_mem (r := row) (j := d.length) (by omega))
        have ga : gdI (row.getD d.length zI) := ⟨ga.1, ga.2.1⟩
        generalize hod : detIO n (partV m 0 d.length) = od at ht hdv hdev
        obtain ⟨p, gp, hpv, hpev⟩ := multiply_ev (b := c && od.isSome) ga gdv
        -- the term as it is reckoned
        have hfl : ((c && od.isSome) && (mulO (row.getD d.length zI) dv).isSome) = (c && t.isSome) := by
          rw [ht]
          cases c with
          | false => rfl
          | true =>
            cases od with
            | none => rfl
            | some d2 =>
              have := hdv rfl rfl
              cases this
              rfl
        have hval : (c && t.isSome) = true → t = some p := by
          intro hh
          rw [Bool.and_eq_true] at hh
          cases od with
          | none => rw [ht] at hh; cases hh.2
          | some d2 =>
            have := hdv hh.1 rfl
            cases this
            rw [ht] at hh ⊢
            exact hpv (by rw [hh.1]; rfl) hh.2
        rw [hfl] at hpev
        have fin : ∀ (c3 : Bool) (s3 : Iv), gdI s3 → c3 = (b && (accI d.length o t).isSome) → (c3 = true → accI d.length o t = some s3) → ∃ c' s', gdI s' ∧ c' = (b && (foldI d.length o (t :: r)).isSome) ∧ (c' = true → foldI d.length o (t :: r) = some s') ∧
            Ev3 (fun k q f => impl_reckoner_determinantIn_L122 k (impl_reckoner_determinantIn_R k q) f c3 m z s3 row (row.length : Int) (IntKind.wrap .i64 ((d.length : Int) + 1))) (.inr (z, s', c', ())) := by
          intro c3 s3 g3 h1 h2
          obtain ⟨c', s', q1, q2, q3, q4⟩ := ih (d ++ [t]) c3 z s3 (accI d.length o t) (by simpa using hd) g3 h1 h2 (by simp)
          rw [hdl] at q2 q3
          rw [← hnx] at q4
          exact ⟨c', s', q1, q2, q3, q4⟩
        have start : ∀ {c' : Bool} {s' : Iv}, Ev3 (fun k q f => (bif ((d.length : Int) == 0) then (impl_reckoner_determinantIn_L122 k (impl_reckoner_determinantIn_R k q) f (c && t.isSome) m z p row (row.length : Int) (IntKind.wrap .i64 ((d.length : Int) + 1))) else (bif ((Int.tmod (d.length : Int) 2) == 1) then (Option.bind (impl_reckoner_subtract k (c && t.isSome) s p) fun r4 => (impl_reckoner_determinantIn_L122 k (impl_reckoner_determinantIn_R k q) f r4.2 m z r4.1 row (row.length : Int) (IntKind.wrap .i64 ((d.length : Int) + 1)))) else (Option.bind (impl_reckoner_add k (c && t.isSome) s p) fun r5 => (impl_reckoner_determinantIn_L122 k (impl_reckoner_determinantIn_R k q) f r5.2 m z r5.1 row (row.length : Int) (IntKind.wrap .i64 ((d.length : Int) + 1))))))) (.inr (z, s', c', ())) →
            Ev3 (fun k q f => impl_reckoner_determinantIn_L122 k (impl_reckoner_determinantIn_R k q) f c m z s row (row.length : Int) d.length) (.inr (z, s', c', ())) := by
          intro c' s' hh
          refine Ev3.step (fun k q f => impl_reckoner_determinantIn_L122.eq_2 k _ _ _ _ _ _ _ _ f) ?_
          refine Ev3.ctrue (decide_eq_true (by omega)) (Ev3.ctrue mid_ge (Ev3.ctrue (decide_eq_true (by omega)) ?_))
          rw [Int.toNat_natCast]
          exact Ev3.bind (Ev3.of (impl_partI_ev h hn hcn)) (Ev3.bind (Ev3.rec hdev) (Ev3.bind (Ev3.of hpev) hh))
        -- the flag of what is summed
        have ho : c = true → o = some s := hcs
        by_cases h0 : d = []
        · have hoz := hdo0 h0
          have hacc : (accI d.length o t) = t := by
            rw [hoz, h0]
            cases hts : t with
            | none => rfl
            | some p' =>
              have gp' : gdI p' := tmI_gd (by rw [← ht]; exact hts)
              simp only [accI, List.length_nil, Nat.zero_mod, Nat.zero_ne_one, if_false]
              exact addO_zero gp'
          obtain ⟨c', s', q1, q2, q3, q4⟩ := fin (c && t.isSome) p gp (by rw [hacc, hc, hoz]; simp) (fun hh => by rw [hacc]; exact hval hh)
          exact ⟨c', s', q1, q2, q3, start (Ev3.ctrue (by rw [h0]; rfl) q4)⟩
        · have hne : ((d.length : Int) == 0) = false := by
            have : d.length ≠ 0 := fun hh => h0 (List.length_eq_zero_iff.1 hh)
            simp; omega
          by_cases hodd : d.length % 2 = 1
          · obtain ⟨v, gv, hv, hev⟩ := subI_ev (b := c && t.isSome) hs gp
            have hacc : ((c && t.isSome) && (subO s p).isSome) = (b && (accI d.length o t).isSome) := by
              cases hct : (c && t.isSome) with
              | true =>
                have h1 := hval hct
                rw [Bool.and_eq_true] at hct
                have h2 := ho hct.1
                have h3 : b = true := by rw [hct.1] at hc; have := hc.symm; rw [Bool.and_eq_true] at this; exact this.1
                rw [h1, h2, h3]
                simp only [accI, if_pos hodd]
              | false =>
                rw [Bool.false_and]
                cases b with
                | false => rfl
                | true =>
                  rw [Bool.true_and] at hc ⊢
                  rw [hc] at hct
                  cases o <;> cases t <;> first | rfl | (simp at hct)
            obtain ⟨c', s', q1, q2, q3, q4⟩ := fin ((c && t.isSome) && (subO s p).isSome) v gv hacc (fun hh => by
              rw [Bool.and_eq_true] at hh
              have h1 := hval hh.1
              have h2 := ho (by have := hh.1; rw [Bool.and_eq_true] at this; exact this.1)
              rw [h1, h2]
              simp only [accI, if_pos hodd]
              exact hv hh.1 hh.2)
            exact ⟨c', s', q1, q2, q3, start (Ev3.cfalse hne (Ev3.ctrue (by rw [tmod_odd]; exact decide_eq_true hodd) (Ev3.bind (Ev3.of hev) q4)))⟩
          · obtain ⟨v, gv, hv, hev⟩ := addI_ev (b := c && t.isSome) hs gp
            have hacc : ((c && t.isSome) && (addO s p).isSome) = (b && (accI d.length o t).isSome) := by
              cases hct : (c && t.isSome) with
              | true =>
                have h1 := hval hct
                rw [Bool.and_eq_true] at hct
                have h2 := ho hct.1
                have h3 : b = true := by rw [hct.1] at hc; have := hc.symm; rw [Bool.and_eq_true] at this; exact this.1
                rw [h1, h2, h3]
                simp only [accI, if_neg hodd]
              | false =>
                rw [Bool.false_and]
                cases b with
                | false => rfl
                | true =>
                  rw [Bool.true_and] at hc ⊢
                  rw [hc] at hct
                  cases o <;> cases t <;> first | rfl | (simp at hct)
            obtain ⟨c', s', q1, q2, q3, q4⟩ := fin ((c && t.isSome) && (addO s p).isSome) v gv hacc (fun hh => by
              rw [Bool.and_eq_true] at hh
              have h1 := hval hh.1
              have h2 := ho (by have := hh.1; rw [Bool.and_eq_true] at this; exact this.1)
              rw [h1, h2]
              simp only [accI, if_neg hodd]
              exact hv hh.1 hh.2)
            exact ⟨c', s', q1, q2, q3, start (Ev3.cfalse hne (Ev3.cfalse (by rw [tmod_odd]; exact decide_eq_false hodd) (Ev3.bind (Ev3.of hev) q4)))⟩
    obtain ⟨c', s', q1, q2, q3, q4⟩ := key (termsI n m) [] b zI zI (some zI) rfl zI_gd (by simp) (fun _ => rfl) (fun _ => rfl)
    have hdet : detIO (n + 1) m = foldI 0 (some zI) (termsI n m) := rfl
    simp only [List.length_nil] at q2 q3 q4
    rw [hdet]
    refine ⟨s', q1, fun hb hs => q3 (by rw [q2, hb, hs]; rfl), ?_⟩
    rw [← q2]
    refine Evt.step (F := fun k q => impl_reckoner_determinantIn_B k (impl_reckoner_determinantIn_R k q) b m) (fun k q => rfl) ?_
    refine Evt.eq (f := fun k q => _) ?_ (fun k q => by rw [impl_reckoner_determinantIn_B])
    refine Evt.cfalse (by rw [hm]; simp; omega) (Evt.ctrue (by rw [hm]; simp; omega) ?_)
    rw [hrw]
    exact Evt.inr q4.diag .pure
end Go.Ev.G
namespace Go.Ev.G
open Go Go.Ev
set_option maxRecDepth 100000

def diV (m : List (List Iv)) : Iv × Bool := if tab ivGd m then oI (detIO (m.length - 1) m) else (zI, false)

theorem determinantIn_law (a : List (List Iv)) (ha : a.length ≤ maxLen) (hm : ∀ x ∈ a, x.length ≤ maxLen) : ∃ k, laws_FnExactDeterminantIn k a = some true := by
  refine Evt.get (Evt.eq (f := fun k q => _) ?_ (fun k q => by rw [laws_FnExactDeterminantIn]))
  refine Evt.bind (szIntervalSS_ev (a := 1000000) ha hm (by omega)) ?_
  by_cases hz : a.length + (a.map List.length).sum ≤ 1000000
  · rw [if_pos hz]
    have hs : Sized a := hz
    refine Evt.cfalse (by simp <;> omega) ?_
    have hb : a.length < 274877906944 := by have := hs.len; omega
    have hr : ∀ r ∈ a, r.length < lenB := fun r hr => by have := hs.row r hr; simp only [lenB]; omega
    have spec : Evt (fun k _ => spec_DeterminantIn k a) (diV a) := by
      refine Evt.eq (f := fun k q => _) ?_ (fun k q => by rw [spec_DeterminantIn])
      refine Evt.bind (mxFits_ev hb hr) ?_
      unfold diV
      cases ht : tab ivGd a with
      | false => exact Evt.ctrue rfl .pure
      | true =>
        obtain ⟨n, hn, hsq⟩ := sq_tab ht
        have e : a.length - 1 = n := by have := hsq.1; omega
        rw [e]
        have hd : Evt (fun k _ => spec_mxDetIn k a) (oI (detIO n a)) := Evt.eq (Evt.diag (mxDetIn_ev n a hn hsq)) (fun k q => by rw [spec_mxDetIn])
        exact Evt.cfalse rfl (Evt.bind hd .pure)
    have impl : Evt (fun k _ => impl_DeterminantIn k a) (diV a) := by
      refine Evt.eq (f := fun k q => _) ?_ (fun k q => by rw [impl_DeterminantIn])
      refine Evt.bind (isIntervalTable_ev (by simp only [lenB]; omega) hr) ?_
      unfold diV
      cases ht : tab ivGd a with
      | false => exact Evt.ctrue rfl .pure
      | true =>
        obtain ⟨n, hn, hsq⟩ := sq_tab ht
        have e : a.length - 1 = n := by have := hsq.1; omega
        rw [e]
        obtain ⟨v, gv, hv, hev⟩ := detIn_ev n a hn hsq true
        have hev : Evt (fun k _ => impl_reckoner_determinantIn k true a) (v, true && (detIO n a).isSome) := Evt.eq (Evt.diag hev) (fun k q => by rw [impl_reckoner_determinantIn])
        refine Evt.cfalse rfl (Evt.bind hev (.const ?_))
        unfold impl_reckoner_result
        cases hdo : detIO n a with
        | some t =>
          have := hv rfl (by rw [hdo]; rfl)
          rw [hdo] at this
          cases this
          rfl
        | none => rfl
    refine Evt.bind (toIntervalSS_ev hs.len hs.row) ?_
    simp only [toV_rows]
    refine Evt.bind spec (Evt.bind (toIntervalSS_ev hs.len hs.row) ?_)
    simp only [toV_rows]
    refine Evt.bind impl (Evt.bind (.const (eqInterval_rfl _)) (Evt.cfalse rfl (Evt.cfalse (by simp) (Evt.bind (toIntervalSS_ev hs.len hs.row) (Evt.bind (intactV_ev hs) (Evt.cfalse rfl (Evt.bind (toIntervalSS_ev hs.len hs.row) ?_)))))))
    simp only [toV_rows]
    exact Evt.bind impl (Evt.bind (.const (eqInterval_rfl _)) (Evt.cfalse rfl (Evt.cfalse (by simp) .pure)))
  · rw [if_neg hz]
    exact Evt.ctrue rfl .pure
theorem determinantIn_row (a : List (List Iv)) (h : WfT (.sl (.sl tInterval)) a) : ∃ k, laws_FnExactDeterminantIn k a = some true := determinantIn_law a h.1 (fun x hx => (h.2 x hx).1)
end Go.Ev.G
