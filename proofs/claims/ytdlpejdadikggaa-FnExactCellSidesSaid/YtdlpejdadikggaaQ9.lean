/- What the plain functions of the laws compute, for all inputs within the sizes that the theorems name. -/
import Derived.Test.YtdlpejdadikggaaQ8
set_option linter.unusedVariables false
namespace Go.Ev.G
open Go Go.Ev
set_option maxRecDepth 100000

/-! Boxes. -/
theorem two_lt {α β : Type} {d r : List α} {d' r' : List β} {e' : β} (h : d.length = d'.length) : decide ((d.length : Int) < ((d' ++ e' :: r').length : Int)) = true := by simp; omega
theorem two_get {α β : Type} {d : List α} {d' r' : List β} {e' z : β} (h : d.length = d'.length) : (d' ++ e' :: r').getD (Int.toNat (d.length : Int)) z = e' := by rw [h]; exact mid_get

def sideOk (L : Int) (p : Int × Int) : Bool := decide ((-L ≤ p.1 ∧ p.1 ≤ L) ∧ (-L ≤ p.2 ∧ p.2 ≤ L) ∧ p.1 < p.2)
def sideOdd (p : Int × Int) : Bool := (Int.tmod p.1 2 != 0) || (Int.tmod p.2 2 != 0)
def bxV (b : Int × List Int × List Int) : Bool :=
  decide (0 ≤ b.1 ∧ b.1 ≤ 8) && (decide (1 ≤ (b.2.1.length : Int) ∧ (b.2.1.length : Int) ≤ 3) && (decide (b.2.2.length = b.2.1.length) && ((b.2.1.zip b.2.2).all (sideOk (8 * 2 ^ b.1.toNat)) && (b.1 == 0 || (b.2.1.zip b.2.2).any sideOdd))))

theorem bxGood_loop {k : Nat} {d8 L : Int} {los his : List Int} (hL : 0 ≤ L ∧ L ≤ 1000000) (hb : los.length < lenB) : ∀ (r r' d d' : List Int) (b : Bool), d ++ r = los → d' ++ r' = his → d.length = d'.length → r.length = r'.length →
    Evt (fun k n => spec_bxGood_L250 k n (d8, los, his) L b los (los.length : Int) d.length) (if (r.zip r').all (sideOk L) then .inr (b || (r.zip r').any sideOdd, ()) else .inl false) := by
  intro r
  induction r with
  | nil =>
    intro r' d d' b h h' hl hr
    refine Evt.step (fun k n => spec_bxGood_L250.eq_2 k _ _ _ _ _ _ n) ?_
    rw [List.append_nil] at h
    subst h
    simp only [List.zip_nil_left, List.all_nil, List.any_nil, Bool.or_false, if_true]
    exact Evt.rng0 .pure
  | cons e r ih =>
    intro r' d d' b h h' hl hr
    obtain ⟨e', r', rfl⟩ : ∃ x y, r' = x :: y := by cases r' with
      | nil => simp at hr
      | cons x y => exact ⟨x, y, rfl⟩
    refine Evt.step (fun k n => spec_bxGood_L250.eq_2 k _ _ _ _ _ _ n) ?_
    have ih := fun b => ih r' (d ++ [e]) (d' ++ [e']) b (by simpa using h) (by simpa using h') (by simp [hl]) (by simpa using hr)
    rw [← len_next (r := r) (by rw [h]; exact hb)] at ih
    subst h
    subst h'
    simp only
    refine Evt.ctrue mid_lt (Evt.ctrue mid_ge (Evt.ctrue mid_lt (Evt.ctrue mid_ge (Evt.ctrue (two_lt (r := r) hl) ?_))))
    rw [mid_get, two_get hl]
    have hw : IntKind.wrap .i64 (0 - L) = -L := by rw [w64 (by omega) (by omega)]; omega
    rw [hw]
    refine Evt.bind (.const (l1In_eq _ _ _)) ?_
    simp only [List.zip_cons_cons, List.all_cons, List.any_cons]
    by_cases h1 : -L ≤ e ∧ e ≤ L
    · refine Evt.cfalse (by simp [h1]) (Evt.bind (.const (l1In_eq _ _ _)) ?_)
      by_cases h2 : -L ≤ e' ∧ e' ≤ L
      · refine Evt.cfalse (by simp [h2]) ?_
        by_cases h3 : e ≥ e'
        · refine Evt.ctrue (decide_eq_true h3) ?_
          have : sideOk L (e, e') = false := by unfold sideOk; exact decide_eq_false (by simp only; omega)
          simp only [this, Bool.false_and]
          exact .pure
        · refine Evt.cfalse (decide_eq_false h3) ?_
          have : sideOk L (e, e') = true := by unfold sideOk; exact decide_eq_true (by simp only; omega)
          simp only [this, Bool.true_and]
          cases b with
          | true => exact Evt.ctrue rfl (by simpa using ih true)
          | false =>
            refine Evt.cfalse rfl ?_
            cases h4 : (Int.tmod e 2 != 0) with
            | true => refine Evt.ctrue rfl ?_; simp only [sideOdd, h4, Bool.true_or, Bool.or_true]; simpa using ih true
            | false => refine Evt.cfalse rfl ?_; simp only [sideOdd, h4, Bool.false_or]; exact ih _
      · refine Evt.ctrue (by rw [decide_eq_false h2]; rfl) ?_
        have : sideOk L (e, e') = false := by unfold sideOk; exact decide_eq_false (by simp only; omega)
        simp only [this, Bool.false_and]
        exact .pure
    · refine Evt.ctrue (by rw [decide_eq_false h1]; rfl) ?_
      have : sideOk L (e, e') = false := by unfold sideOk; exact decide_eq_false (by simp only; omega)
      simp only [this, Bool.false_and]
      exact .pure

theorem isBox_loop {k : Nat} {d8 L : Int} {los his : List Int} (hL : 0 ≤ L ∧ L ≤ 1000000) (hb : los.length < lenB) : ∀ (r r' d d' : List Int) (b : Bool), d ++ r = los → d' ++ r' = his → d.length = d'.length → r.length = r'.length →
    Evt (fun k n => impl_isBox_L122 k n (d8, los, his) L b los (los.length : Int) d.length) (if (r.zip r').all (sideOk L) then .inr (b || (r.zip r').any sideOdd, ()) else .inl false) := by
  intro r
  induction r with
  | nil =>
    intro r' d d' b h h' hl hr
    refine Evt.step (fun k n => impl_isBox_L122.eq_2 k _ _ _ _ _ _ n) ?_
    rw [List.append_nil] at h
    subst h
    simp only [List.zip_nil_left, List.all_nil, List.any_nil, Bool.or_false, if_true]
    exact Evt.rng0 .pure
  | cons e r ih =>
    intro r' d d' b h h' hl hr
    obtain ⟨e', r', rfl⟩ : ∃ x y, r' = x :: y := by cases r' with
      | nil => simp at hr
      | cons x y => exact ⟨x, y, rfl⟩
    refine Evt.step (fun k n => impl_isBox_L122.eq_2 k _ _ _ _ _ _ n) ?_
    have ih := fun b => ih r' (d ++ [e]) (d' ++ [e']) b (by simpa using h) (by simpa using h') (by simp [hl]) (by simpa using hr)
    rw [← len_next (r := r) (by rw [h]; exact hb)] at ih
    subst h
    subst h'
    simp only
    refine Evt.ctrue mid_lt (Evt.ctrue mid_ge (Evt.ctrue mid_lt ?_))
    rw [mid_get]
    have hw : IntKind.wrap .i64 (0 - L) = -L := by rw [w64 (by omega) (by omega)]; omega
    rw [hw]
    refine Evt.bind (.const (inside_eq _ _ _)) ?_
    simp only [List.zip_cons_cons, List.all_cons, List.any_cons]
    by_cases h1 : -L ≤ e ∧ e ≤ L
    · refine Evt.cfalse (by simp [h1]) (Evt.ctrue mid_ge (Evt.ctrue (two_lt (r := r) hl) ?_))
      rw [two_get hl, w64 (n := e + 1) (by omega) (by omega)]
      refine Evt.bind (.const (inside_eq _ _ _)) ?_
      by_cases h2 : e + 1 ≤ e' ∧ e' ≤ L
      · refine Evt.cfalse (by simp [h2]) ?_
        have : sideOk L (e, e') = true := by unfold sideOk; exact decide_eq_true (by simp only; omega)
        simp only [this, Bool.true_and]
        cases b with
        | true => exact Evt.ctrue rfl (by simpa using ih true)
        | false =>
          refine Evt.cfalse rfl ?_
          cases h4 : (Int.tmod e 2 != 0) with
          | true => refine Evt.ctrue rfl ?_; simp only [sideOdd, h4, Bool.true_or, Bool.or_true]; simpa using ih true
          | false =>
            refine Evt.cfalse rfl (Evt.ctrue mid_ge (Evt.ctrue (two_lt (r := r) hl) ?_))
            simp only [sideOdd, h4, Bool.false_or]; exact ih _
      · refine Evt.ctrue (by rw [decide_eq_false h2]; rfl) ?_
        have : sideOk L (e, e') = false := by unfold sideOk; exact decide_eq_false (by simp only; omega)
        simp only [this, Bool.false_and]
        exact .pure
    · refine Evt.ctrue (by rw [decide_eq_false h1]; rfl) ?_
      have : sideOk L (e, e') = false := by unfold sideOk; exact decide_eq_false (by simp only; omega)
      simp only [this, Bool.false_and]
      exact .pure

theorem pow8 {n : Nat} (h : n ≤ 8) : (0 : Int) ≤ 8 * 2 ^ n ∧ (8 : Int) * 2 ^ n ≤ 2048 := by
  have h1 : (2 : Nat) ^ n ≤ 2 ^ 8 := Nat.pow_le_pow_right (by omega) h
  have h2 : ((2 : Int) ^ n) = ((2 ^ n : Nat) : Int) := by simp
  rw [h2]
  have h3 : (2 : Nat) ^ 8 = 256 := by decide
  rw [h3] at h1
  generalize (2 : Nat) ^ n = q at h1
  omega

theorem bxGood_ev {b : Int × List Int × List Int} (hb : b.2.1.length < lenB) : Evt (fun k _ => spec_bxGood k b) (bxV b) := by
  obtain ⟨d8, los, his⟩ := b
  refine Evt.eq (f := fun k q => _) ?_ (fun k q => by rw [spec_bxGood])
  unfold bxV
  simp only at hb ⊢
  refine Evt.bind (.const (l1In_eq _ _ _)) ?_
  by_cases h1 : 0 ≤ d8 ∧ d8 ≤ 8
  · refine Evt.cfalse (by simp [h1]) (Evt.bind (.const (l1In_eq _ _ _)) ?_)
    rw [decide_eq_true h1, Bool.true_and]
    by_cases h2 : 1 ≤ (los.length : Int) ∧ (los.length : Int) ≤ 3
    · refine Evt.cfalse (by rw [decide_eq_true h2]; rfl) ?_
      rw [decide_eq_true h2, Bool.true_and]
      by_cases h3 : his.length = los.length
      · refine Evt.cfalse (by simp [h3]) ?_
        rw [decide_eq_true h3, Bool.true_and]
        obtain ⟨m, rfl⟩ : ∃ m : Nat, d8 = m := ⟨d8.toNat, by omega⟩
        have hm : m ≤ 8 := by omega
        have hp := pow8 hm
        have e1 : ((2 ^ m : Nat) : Int) = 2 ^ m := by simp
        refine Evt.bind (.const (dyPower_eq (by omega))) ?_
        rw [e1, w64 (by omega) (by omega)]
        have h0 := bxGood_loop (k := 0) (d8 := (m : Int)) (L := 8 * 2 ^ m) (los := los) (his := his) (by omega) hb los his [] [] ((m : Int) == 0) rfl rfl rfl h3.symm
        simp only [List.length_nil, Int.toNat_natCast] at h0 ⊢
        cases hall : (los.zip his).all (sideOk (8 * 2 ^ m)) with
        | true => rw [hall] at h0; exact Evt.inr (Evt.diag h0) .pure
        | false => rw [hall] at h0; exact Evt.inl (Evt.diag h0) .pure
      · refine Evt.ctrue (by rw [bne_iff_ne]; omega) ?_
        rw [decide_eq_false h3]; exact .pure
    · refine Evt.ctrue (by rw [decide_eq_false h2]; rfl) ?_
      rw [decide_eq_false h2]; exact .pure
  · refine Evt.ctrue (by rw [decide_eq_false h1]; rfl) ?_
    rw [decide_eq_false h1]; exact .pure

theorem isBox_ev {b : Int × List Int × List Int} (hb : b.2.1.length < lenB) : Evt (fun k _ => impl_isBox k b) (bxV b) := by
  obtain ⟨d8, los, his⟩ := b
  refine Evt.eq (f := fun k q => _) ?_ (fun k q => by rw [impl_isBox])
  unfold bxV
  simp only at hb ⊢
  refine Evt.bind (.const (inside_eq _ _ _)) ?_
  by_cases h1 : 0 ≤ d8 ∧ d8 ≤ 8
  · refine Evt.cfalse (by simp [h1]) (Evt.bind (.const (inside_eq _ _ _)) ?_)
    rw [decide_eq_true h1, Bool.true_and]
    by_cases h2 : 1 ≤ (los.length : Int) ∧ (los.length : Int) ≤ 3
    · refine Evt.cfalse (by rw [decide_eq_true h2]; rfl) ?_
      rw [decide_eq_true h2, Bool.true_and]
      by_cases h3 : his.length = los.length
      · refine Evt.cfalse (by simp [h3]) ?_
        rw [decide_eq_true h3, Bool.true_and]
        obtain ⟨m, rfl⟩ : ∃ m : Nat, d8 = m := ⟨d8.toNat, by omega⟩
        have hm : m ≤ 8 := by omega
        have hp := pow8 hm
        refine Evt.cfalse (by simp) ?_
        have e0 : min (Int.toNat (m : Int)) (IntKind.bits .i64) = m := by
          rw [Int.toNat_natCast]; exact Nat.min_eq_left (by simp only [IntKind.bits]; omega)
        rw [e0, w64 (by omega) (by omega)]
        have h0 := isBox_loop (k := 0) (d8 := (m : Int)) (L := 8 * 2 ^ m) (los := los) (his := his) (by omega) hb los his [] [] ((m : Int) == 0) rfl rfl rfl h3.symm
        simp only [List.length_nil, Int.toNat_natCast] at h0 ⊢
        cases hall : (los.zip his).all (sideOk (8 * 2 ^ m)) with
        | true => rw [hall] at h0; exact Evt.inr (Evt.diag h0) .pure
        | false => rw [hall] at h0; exact Evt.inl (Evt.diag h0) .pure
      · refine Evt.ctrue (by rw [bne_iff_ne]; omega) ?_
        rw [decide_eq_false h3]; exact .pure
    · refine Evt.ctrue (by rw [decide_eq_false h2]; rfl) ?_
      rw [decide_eq_false h2]; exact .pure
  · refine Evt.ctrue (by rw [decide_eq_false h1]; rfl) ?_
    rw [decide_eq_false h1]; exact .pure

def cbV (b : Int × List Int × List Int) : Bool := bxV b && (((b.2.1.length : Int) == 3) && decide (b.1 ≤ 3))
theorem cbBox_ev {b : Int × List Int × List Int} (hb : b.2.1.length < lenB) : Evt (fun k _ => spec_cbBox k b) (cbV b) := by
  refine Evt.eq (f := fun k q => _) ?_ (fun k q => by rw [spec_cbBox])
  refine Evt.bind (bxGood_ev hb) ?_
  unfold cbV
  cases bxV b with
  | false => exact Evt.cfalse rfl .pure
  | true =>
    refine Evt.ctrue rfl ?_
    cases ((b.2.1.length : Int) == 3) with
    | false => exact Evt.cfalse rfl .pure
    | true => exact Evt.ctrue rfl .pure
theorem isCubeBox_ev {b : Int × List Int × List Int} (hb : b.2.1.length < lenB) : Evt (fun k _ => impl_isCubeBox k b) (cbV b) := by
  refine Evt.eq (f := fun k q => _) ?_ (fun k q => by rw [impl_isCubeBox])
  refine Evt.bind (isBox_ev hb) ?_
  unfold cbV
  cases bxV b with
  | false => exact Evt.cfalse rfl .pure
  | true =>
    refine Evt.ctrue rfl ?_
    cases ((b.2.1.length : Int) == 3) with
    | false => exact Evt.cfalse rfl .pure
    | true => exact Evt.ctrue rfl .pure

/-- what a cube's box is -/
theorem cbV_form {b : Int × List Int × List Int} (h : cbV b = true) : ∃ (m : Nat) (l0 l1 l2 h0 h1 h2 : Int), b = ((m : Int), [l0, l1, l2], [h0, h1, h2]) ∧ m ≤ 3 ∧ (-64 ≤ l0 ∧ l0 < h0 ∧ h0 ≤ 64) ∧ (-64 ≤ l1 ∧ l1 < h1 ∧ h1 ≤ 64) ∧ (-64 ≤ l2 ∧ l2 < h2 ∧ h2 ≤ 64) := by
  obtain ⟨d8, los, his⟩ := b
  unfold cbV bxV at h
  simp only [Bool.and_eq_true, decide_eq_true_eq, beq_iff_eq] at h
  obtain ⟨⟨g1, g2, g3, g4, _⟩, g5, g6⟩ := h
  match los, his, g3, g5, g4 with
  | [l0, l1, l2], [h0, h1, h2], _, _, g4 =>
    refine ⟨d8.toNat, l0, l1, l2, h0, h1, h2, by rw [Int.toNat_of_nonneg g1.1], by omega, ?_⟩
    have hp : (8 : Int) * 2 ^ d8.toNat ≤ 64 := by
      have h1 : (2 : Nat) ^ d8.toNat ≤ 2 ^ 3 := Nat.pow_le_pow_right (by omega) (by omega)
      have h2 : ((2 : Int) ^ d8.toNat) = ((2 ^ d8.toNat : Nat) : Int) := by simp
      rw [h2]
      have : (2 : Nat) ^ 3 = 8 := by decide
      omega
    generalize (8 : Int) * 2 ^ d8.toNat = L at hp g4
    simp only [List.zip_cons_cons, List.zip_nil_left, List.all_cons, List.all_nil, Bool.and_true, Bool.and_eq_true, sideOk, decide_eq_true_eq] at g4
    omega
end Go.Ev.G
