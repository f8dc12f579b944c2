/- What the plain functions of the laws compute, for all inputs within the sizes that the theorems name. -/
import Derived.Test.YtijllgpgnmdfdaaA2
set_option linter.unusedVariables false
namespace Go.Ev.G
open Go Go.Ev
set_option maxRecDepth 100000

/-! Boxes. -/
theorem two_lt {α β : Type} {d r : List α} {d' r' : List β} {e' : β} (h : d.length = d'.length) : decide ((d.length : Int) < ((d' ++ e' :: r').length : Int)) = true := by simp; omega
theorem two_get {α β : Type} {d : List α} {d' r' : List β} {e' z : β} (h : d.length = d'.length) : (d' ++ e' :: r').getD (Int.toNat (d.length : Int)) z = e' := by rw [h]; exact mid_get

def sideOk (L : Int) (p : Int × Int) : Bool := decide ((-L ≤ p.1 ∧ p.1 ≤ L) ∧ (-L ≤ p.2 ∧ p.2 ≤ L) ∧ p.1 < p.2)
def sideOdd (p : Int × Int) : Bool := (Int.tmod p.1 2 != 0) || (Int.tmod p.2 2 != 0)
def bxV (b : Int × List Int × List Int) : Bool :=
  decide (0 ≤ b.1 ∧ b.1 ≤ 8) && (decide (1 ≤ (b.2.1.length : Int) ∧ (b.2.1.length : Int) ≤ 3) && (decide (b.2.2.length = b.2.1.length) && ((b.2.1.zip b.2.2).all (sideOk (8 * 2 ^ b.1.toNat)) && (b.1 == 0 || (b.2.1.zip b.2.2).any sideOdd))))

theorem bxGood_loop {k : Nat} {d8 L : Int} {los his : List Int} (hL : 0 ≤ L ∧ L ≤ 1000000) (hb : los.length < lenB) : ∀ (r r' d d' : List Int) (b : Bool), d ++ r = los → d' ++ r' = his → d.length = d'.length → r.length = r'.length →
    Evt (fun k n => spec_bxGood_L250 k n (d8, los, his) L b los (los.length : Int) d.length) (if (r.zip r').all (sideOk L) then .inr (b || (r.zip r').any sideOdd, ()) else .inl false) := by
  intro r
  induction r with
  | nil =>
    intro r' d d' b h h' hl hr
    refine Evt.step (fun k n => spec_bxGood_L250.eq_2 k _ _ _ _ _ _ n) ?_
    rw [List.append_nil] at h
    subst h
    simp only [List.zip_nil_left, List.all_nil, List.any_nil, Bool.or_false, if_true]
    exact Evt.rng0 .pure
  | cons e r ih =>
    intro r' d d' b h h' hl hr
    obtain ⟨e', r', rfl⟩ : ∃ x y, r' = x :: y := by cases r' with
      | nil => simp at hr
      | cons x y => exact ⟨x, y, rfl⟩
    refine Evt.step (fun k n => spec_bxGood_L250.eq_2 k _ _ _ _ _ _ n) ?_
    have ih := fun b => ih r' (d ++ [e]) (d' ++ [e']) b (by simpa using h) (by simpa using h') (by simp [hl]) (by simpa using hr)
    rw [← len_next (r := r) (by rw [h]; exact hb)] at ih
    subst h
    subst h'
    simp only
    refine Evt.ctrue mid_lt (Evt.ctrue mid_ge (Evt.ctrue mid_lt (Evt.ctrue mid_ge (Evt.ctrue (two_lt (r := r) hl) ?_))))
    rw [mid_get, two_get hl]
    have hw : IntKind.wrap .i64 (0 - L) = -L := by rw [w64 (by omega) (by omega)]; omega
    rw [hw]
    refine Evt.bind (.const (l1In_eq _ _ _)) ?_
    simp only [List.zip_cons_cons, List.all_cons, List.any_cons]
    by_cases h1 : -L ≤ e ∧ e ≤ L
    · refine Evt.cfalse (by simp [h1]) (Evt.bind (.const (l1In_eq _ _ _)) ?_)
      by_cases h2 : -L ≤ e' ∧ e' ≤ L
      · refine Evt.cfalse (by simp [h2]) ?_
        by_cases h3 : e ≥ e'
        · refine Evt.ctrue (decide_eq_true h3) ?_
          have : sideOk L (e, e') = false := by unfold sideOk; exact decide_eq_false (by simp only; omega)
          simp only [this, Bool.false_and]
          exact .pure
        · refine Evt.cfalse (decide_eq_false h3) ?_
          have : sideOk L (e, e') = true := by unfold sideOk; exact decide_eq_true (by simp only; omega)
          simp only [this, Bool.true_and]
          cases b with
          | true => exact Evt.ctrue rfl (by simpa using ih true)
          | false =>
            refine Evt.cfalse rfl ?_
            cases h4 : (Int.tmod e 2 != 0) with
            | true => refine Evt.ctrue rfl ?_; simp only [sideOdd, h4, Bool.true_or, Bool.or_true]; simpa using ih true
            | false => refine Evt.cfalse rfl ?_; simp only [sideOdd, h4, Bool.false_or]; exact ih _
      · refine Evt.ctrue (by rw [decide_eq_false h2]; rfl) ?_
        have : sideOk L (e, e') = false := by unfold sideOk; exact decide_eq_false (by simp only; omega)
        simp only [this, Bool.false_and]
        exact .pure
    · refine Evt.ctrue (by rw [decide_eq_false h1]; rfl) ?_
      have : sideOk L (e, e') = false := by unfold sideOk; exact decide_eq_false (by simp only; omega)
      simp only [this, Bool.false_and]
      exact .pure

theorem isBox_loop {k : Nat} {d8 L : Int} {los his : List Int} (hL : 0 ≤ L ∧ L ≤ 1000000) (hb : los.length < lenB) : ∀ (r r' d d' : List Int) (b : Bool), d ++ r = los → d' ++ r' = his → d.length = d'.length → r.length = r'.length →
    Evt (fun k n => impl_isBox_L122 k n (d8, los, his) L b los (los.length : Int) d.length) (if (r.zip r').all (sideOk L) then .inr (b || (r.zip r').any sideOdd, ()) else .inl false) := by
  intro r
  induction r with
  | nil =>
    intro r' d d' b h h' hl hr
    refine Evt.step (fun k n => impl_isBox_L122.eq_2 k _ _ _ _ _ _ n) ?_
    rw [List.append_nil] at h
    subst h
    simp only [List.zip_nil_left, List.all_nil, List.any_nil, Bool.or_false, if_true]
    exact Evt.rng0 .pure
  | cons e r ih =>
    intro r' d d' b h h' hl hr
    obtain ⟨e', r', rfl⟩ : ∃ x y, r' = x :: y := by cases r' with
      | nil => simp at hr
      | cons x y => exact ⟨x, y, rfl⟩
    refine Evt.step (fun k n => impl_isBox_L122.eq_2 k _ _ _ _ _ _ n) ?_
    have ih := fun b => ih r' (d ++ [e]) (d' ++ [e']) b (by simpa using h) (by simpa using h') (by simp [hl]) (by simpa using hr)
    rw [← len_next (r := r) (by rw [h]; exact hb)] at ih
    subst h
    subst h'
    simp only
    refine Evt.ctrue mid_lt (Evt.ctrue mid_ge (Evt.ctrue mid_lt ?_))
    rw [mid_get]
    have hw : IntKind.wrap .i64 (0 - L) = -L := by rw [w64 (by omega) (by omega)]; omega
    rw [hw]
    refine Evt.bind (.const (inside_eq _ _ _)) ?_
    simp only [List.zip_cons_cons, List.all_cons, List.any_cons]
    by_cases h1 : -L ≤ e ∧ e ≤ L
    · refine Evt.cfalse (by simp [h1]) (Evt.ctrue mid_ge (Evt.ctrue (two_lt (r := r) hl) ?_))
      rw [two_get hl, w64 (n := e + 1) (by omega) (by omega)]
      refine Evt.bind (.const (inside_eq _ _ _)) ?_
      by_cases h2 : e + 1 ≤ e' ∧ e' ≤ L
      · refine Evt.cfalse (by simp [h2]) ?_
        have : sideOk L (e, e') = true := by unfold sideOk; exact decide_eq_true (by simp only; omega)
        simp only [this, Bool.true_and]
        cases b with
        | true => exact Evt.ctrue rfl (by simpa using ih true)
        | false =>
          refine Evt.cfalse rfl ?_
          cases h4 : (Int.tmod e 2 != 0) with
          | true => refine Evt.ctrue rfl ?_; simp only [sideOdd, h4, Bool.true_or, Bool.or_true]; simpa using ih true
          | false =>
            refine Evt.cfalse rfl (Evt.ctrue mid_ge (Evt.ctrue (two_lt (r := r) hl) ?_))
            simp only [sideOdd, h4, Bool.false_or]; exact ih _
      · refine Evt.ctrue (by rw [decide_eq_false h2]; rfl) ?_
        have : sideOk L (e, e') = false := by unfold sideOk; exact decide_eq_false (by simp only; omega)
        simp only [this, Bool.false_and]
        exact .pure
    · refine Evt.ctrue (by rw [decide_eq_false h1]; rfl) ?_
      have : sideOk L (e, e') = false := by unfold sideOk; exact decide_eq_false (by simp only; omega)
      simp only [this, Bool.false_and]
      exact .pure

theorem pow8 {n : Nat} (h : n ≤ 8) : (0 : Int) ≤ 8 * 2 ^ n ∧ (8 : Int) * 2 ^ n ≤ 2048 := by
  have h1 : (2 : Nat) ^ n ≤ 2 ^ 8 := Nat.pow_le_pow_right (by omega) h
  have h2 : ((2 : Int) ^ n) = ((2 ^ n : Nat) : Int) := by simp
  rw [h2]
  have h3 : (2 : Nat) ^ 8 = 256 := by decide
  rw [h3] at h1
  generalize (2 : Nat) ^ n = q at h1
  omega

theorem bxGood_ev {b : Int × List Int × List Int} (hb : b.2.1.length < lenB) : Evt (fun k _ => spec_bxGood k b) (bxV b) := by
  obtain ⟨d8, los, his⟩ := b
  refine Evt.eq (f := fun k q => _) ?_ (fun k q => by rw [spec_bxGood])
  unfold bxV
  simp only at hb ⊢
  refine Evt.bind (.const (l1In_eq _ _ _)) ?_
  by_cases h1 : 0 ≤ d8 ∧ d8 ≤ 8
  · refine Evt.cfalse (by simp [h1]) (Evt.bind (.const (l1In_eq _ _ _)) ?_)
    rw [decide_eq_true h1, Bool.true_and]
    by_cases h2 : 1 ≤ (los.length : Int) ∧ (los.length : Int) ≤ 3
    · refine Evt.cfalse (by rw [decide_eq_true h2]; rfl) ?_
      rw [decide_eq_true h2, Bool.true_and]
      by_cases h3 : his.length = los.length
      · refine Evt.cfalse (by simp [h3]) ?_
        rw [decide_eq_true h3, Bool.true_and]
        obtain ⟨m, rfl⟩ : ∃ m : Nat, d8 = m := ⟨d8.toNat, by omega⟩
        have hm : m ≤ 8 := by omega
        have hp := pow8 hm
        have e1 : ((2 ^ m : Nat) : Int) = 2 ^ m := by simp
        refine Evt.bind (.const (dyPower_eq (by omega))) ?_
        rw [e1, w64 (by omega) (by omega)]
        have h0 := bxGood_loop (k := 0) (d8 := (m : Int)) (L := 8 * 2 ^ m) (los := los) (his := his) (by omega) hb los his [] [] ((m : Int) == 0) rfl rfl rfl h3.symm
        simp only [List.length_nil, Int.toNat_natCast] at h0 ⊢
        cases hall : (los.zip his).all (sideOk (8 * 2 ^ m)) with
        | true => rw [hall] at h0; exact Evt.inr (Evt.diag h0) .pure
        | false => rw [hall] at h0; exact Evt.inl (Evt.diag h0) .pure
      · refine Evt.ctrue (by rw [bne_iff_ne]; omega) ?_
        rw [decide_eq_false h3]; exact .pure
    · refine Evt.ctrue (by rw [decide_eq_false h2]; rfl) ?_
      rw [decide_eq_false h2]; exact .pure
  · refine Evt.ctrue (by rw [decide_eq_false h1]; rfl) ?_
    rw [decide_eq_false h1]; exact .pure

theorem isBox_ev {b : Int × List Int × List Int} (hb : b.2.1.length < lenB) : Evt (fun k _ => impl_isBox k b) (bxV b) := by
  obtain ⟨d8, los, his⟩ := b
  refine Evt.eq (f := fun k q => _) ?_ (fun k q => by rw [impl_isBox])
  unfold bxV
  simp only at hb ⊢
  refine Evt.bind (.const (inside_eq _ _ _)) ?_
  by_cases h1 : 0 ≤ d8 ∧ d8 ≤ 8
  · refine Evt.cfalse (by simp [h1]) (Evt.bind (.const (inside_eq _ _ _)) ?_)
    rw [decide_eq_true h1, Bool.true_and]
    by_cases h2 : 1 ≤ (los.length : Int) ∧ (los.length : Int) ≤ 3
    · refine Evt.cfalse (by rw [decide_eq_true h2]; rfl) ?_
      rw [decide_eq_true h2, Bool.true_and]
      by_cases h3 : his.length = los.length
      · refine Evt.cfalse (by simp [h3]) ?_
        rw [decide_eq_true h3, Bool.true_and]
        obtain ⟨m, rfl⟩ : ∃ m : Nat, d8 = m := ⟨d8.toNat, by omega⟩
        have hm : m ≤ 8 := by omega
        have hp := pow8 hm
        refine Evt.cfalse (by simp) ?_
        have e0 : min (Int.toNat (m : Int)) (IntKind.bits .i64) = m := by
          rw [Int.toNat_natCast]; exact Nat.min_eq_left (by simp only [IntKind.bits]; omega)
        rw [e0, w64 (by omega) (by omega)]
        have h0 := isBox_loop (k := 0) (d8 := (m : Int)) (L := 8 * 2 ^ m) (los := los) (his := his) (by omega) hb los his [] [] ((m : Int) == 0) rfl rfl rfl h3.symm
        simp only [List.length_nil, Int.toNat_natCast] at h0 ⊢
        cases hall : (los.zip his).all (sideOk (8 * 2 ^ m)) with
        | true => rw [hall] at h0; exact Evt.inr (Evt.diag h0) .pure
        | false => rw [hall] at h0; exact Evt.inl (Evt.diag h0) .pure
      · refine Evt.ctrue (by rw [bne_iff_ne]; omega) ?_
        rw [decide_eq_false h3]; exact .pure
    · refine Evt.ctrue (by rw [decide_eq_false h2]; rfl) ?_
      rw [decide_eq_false h2]; exact .pure
  · refine Evt.ctrue (by rw [decide_eq_false h1]; rfl) ?_
    rw [decide_eq_false h1]; exact .pure

def cbV (b : Int × List Int × List Int) : Bool := bxV b && (((b.2.1.length : Int) == 3) && decide (b.1 ≤ 3))
theorem cbBox_ev {b : Int × List Int × List Int} (hb : b.2.1.length < lenB) : Evt (fun k _ => spec_cbBox k b) (cbV b) := by
  refine Evt.eq (f := fun k q => _) ?_ (fun k q => by rw [spec_cbBox])
  refine Evt.bind (bxGood_ev hb) ?_
  unfold cbV
  cases bxV b with
  | false => exact Evt.cfalse rfl .pure
  | true =>
    refine Evt.ctrue rfl ?_
    cases ((b.2.1.length : Int) == 3) with
    | false => exact Evt.cfalse rfl .pure
    | true => exact Evt.ctrue rfl .pure
theorem isCubeBox_ev {b : Int × List Int × List Int} (hb : b.2.1.length < lenB) : Evt (fun k _ => impl_isCubeBox k b) (cbV b) := by
  refine Evt.eq (f := fun k q => _) ?_ (fun k q => by rw [impl_isCubeBox])
  refine Evt.bind (isBox_ev hb) ?_
  unfold cbV
  cases bxV b with
  | false => exact Evt.cfalse rfl .pure
  | true =>
    refine Evt.ctrue rfl ?_
    cases ((b.2.1.length : Int) == 3) with
    | false => exact Evt.cfalse rfl .pure
    | true => exact Evt.ctrue rfl .pure

/-- what a cube's box is -/
theorem cbV_form {b : Int × List Int × List Int} (h : cbV b = true) : ∃ (m : Nat) (l0 l1 l2 h0 h1 h2 : Int), b = ((m : Int), [l0, l1, l2], [h0, h1, h2]) ∧ m ≤ 3 ∧ (-64 ≤ l0 ∧ l0 < h0 ∧ h0 ≤ 64) ∧ (-64 ≤ l1 ∧ l1 < h1 ∧ h1 ≤ 64) ∧ (-64 ≤ l2 ∧ l2 < h2 ∧ h2 ≤ 64) := by
  obtain ⟨d8, los, his⟩ := b
  unfold cbV bxV at h
  simp only [Bool.and_eq_true, decide_eq_true_eq, beq_iff_eq] at h
  obtain ⟨⟨g1, g2, g3, g4, _⟩, g5, g6⟩ := h
  match los, his, g3, g5, g4 with
  | [l0, l1, l2], [h0, h1, h2], _, _, g4 =>
    refine ⟨d8.toNat, l0, l1, l2, h0, h1, h2, by rw [Int.toNat_of_nonneg g1.1], by omega, ?_⟩
    have hp : (8 : Int) * 2 ^ d8.toNat ≤ 64 := by
      have h1 : (2 : Nat) ^ d8.toNat ≤ 2 ^ 3 := Nat.pow_le_pow_right (by omega) (by omega)
      have h2 : ((2 : Int) ^ d8.toNat) = ((2 ^ d8.toNat : Nat) : Int) := by simp
      rw [h2]
      have : (2 : Nat) ^ 3 = 8 := by decide
      omega
    generalize (8 : Int) * 2 ^ d8.toNat = L at hp g4
    simp only [List.zip_cons_cons, List.zip_nil_left, List.all_cons, List.all_nil, Bool.and_true, Bool.and_eq_true, sideOk, decide_eq_true_eq] at g4
    omega
end Go.Ev.G
namespace Go.Ev.G
open Go Go.Ev
set_option maxRecDepth 100000

/-! Terms, polynomials, systems. -/
abbrev Tm := Int × Int × Int × Int
def tmGd (t : Tm) : Prop := (-1000 ≤ t.1 ∧ t.1 ≤ 1000) ∧ (0 ≤ t.2.1 ∧ t.2.1 ≤ 4) ∧ (0 ≤ t.2.2.1 ∧ t.2.2.1 ≤ 4) ∧ (0 ≤ t.2.2.2 ∧ t.2.2.2 ≤ 4) ∧ t.2.1 + t.2.2.1 + t.2.2.2 ≤ 4
instance : DecidablePred tmGd := fun x => by unfold tmGd; exact inferInstance

theorem poTerm_eq (t : Tm) : spec_poTerm t = some (decide (tmGd t)) := by
  unfold spec_poTerm
  simp only [l1In_eq, Option.bind_some]
  by_cases h1 : -1000 ≤ t.1 ∧ t.1 ≤ 1000
  · rw [decide_eq_true h1, cond_true]
    by_cases h2 : 0 ≤ t.2.1 ∧ t.2.1 ≤ 4
    · rw [decide_eq_true h2, cond_true]
      by_cases h3 : 0 ≤ t.2.2.1 ∧ t.2.2.1 ≤ 4
      · rw [decide_eq_true h3, cond_true]
        by_cases h4 : 0 ≤ t.2.2.2 ∧ t.2.2.2 ≤ 4
        · rw [decide_eq_true h4, cond_true, w64 (n := t.2.1 + t.2.2.1) (by omega) (by omega), w64 (by omega) (by omega)]
          congr 1
          rw [decide_eq_decide]
          exact ⟨fun h => ⟨h1, h2, h3, h4, h⟩, fun h => h.2.2.2.2⟩
        · rw [decide_eq_false h4, decide_eq_false fun h : tmGd t => h4 h.2.2.2.1]; rfl
      · rw [decide_eq_false h3, decide_eq_false fun h : tmGd t => h3 h.2.2.1]; rfl
    · rw [decide_eq_false h2, decide_eq_false fun h : tmGd t => h2 h.2.1]; rfl
  · rw [decide_eq_false h1, decide_eq_false fun h : tmGd t => h1 h.1]; rfl

theorem hasDegree_eq {t : Tm} (h1 : -1000 ≤ t.1 ∧ t.1 ≤ 1000) : impl_hasDegree t = some (decide (tmGd t)) := by
  unfold impl_hasDegree impl_Term_degree
  simp only [inside_eq, Option.bind_some]
  by_cases h2 : 0 ≤ t.2.1 ∧ t.2.1 ≤ 4
  · rw [decide_eq_true h2, cond_true]
    by_cases h3 : 0 ≤ t.2.2.1 ∧ t.2.2.1 ≤ 4
    · rw [decide_eq_true h3, cond_true]
      by_cases h4 : 0 ≤ t.2.2.2 ∧ t.2.2.2 ≤ 4
      · rw [decide_eq_true h4, cond_true, w64 (n := t.2.1 + t.2.2.1) (by omega) (by omega), w64 (by omega) (by omega)]
        congr 1
        rw [decide_eq_decide]
        exact ⟨fun h => ⟨h1, h2, h3, h4, h⟩, fun h => h.2.2.2.2⟩
      · rw [decide_eq_false h4, decide_eq_false fun h : tmGd t => h4 h.2.2.2.1]; rfl
    · rw [decide_eq_false h3, decide_eq_false fun h : tmGd t => h3 h.2.2.1]; rfl
  · rw [decide_eq_false h2, decide_eq_false fun h : tmGd t => h2 h.2.1]; rfl

/-- the order of terms, by their exponents -/
def lexI (a b : Tm) : Int := if a.2.1 ≠ b.2.1 then cmpI a.2.1 b.2.1 else if a.2.2.1 ≠ b.2.2.1 then cmpI a.2.2.1 b.2.2.1 else cmpI a.2.2.2 b.2.2.2
theorem cmpI_sub (a b : Int) : cmpI (a - b) 0 = cmpI a b := by
  unfold cmpI
  split <;> split <;> (try split) <;> (try split) <;> omega
theorem poOrder_eq {a b : Tm} (ha : tmGd a) (hb : tmGd b) : spec_poOrder a b = some (lexI a b) := by
  have a1 := ha.2
  have b1 := hb.2
  unfold spec_poOrder lexI
  rw [w64 (n := a.2.1 - b.2.1) (by omega) (by omega), w64 (n := a.2.2.1 - b.2.2.1) (by omega) (by omega), w64 (n := a.2.2.2 - b.2.2.2) (by omega) (by omega)]
  simp only [sign_eq, Option.bind_some, cmpI_sub]
  by_cases h1 : a.2.1 = b.2.1
  · rw [if_neg (by simpa using h1), show (a.2.1 != b.2.1) = false by simpa using h1, cond_false]
    by_cases h2 : a.2.2.1 = b.2.2.1
    · rw [if_neg (by simpa using h2), show (a.2.2.1 != b.2.2.1) = false by simpa using h2, cond_false]
    · rw [if_pos h2, show (a.2.2.1 != b.2.2.1) = true by simpa using h2, cond_true]
  · rw [if_pos h1, show (a.2.1 != b.2.1) = true by simpa using h1, cond_true]

theorem cmpC_eq (a b : Int) : cmp_Compare_int a b = some (cmpI a b) := by
  unfold cmp_Compare_int cmp_isNaN_int cmpI
  simp only [bne_self_eq_false, Option.bind_some, cond_false]
  by_cases h : a < b
  · simp [h]
  · by_cases h2 : b < a
    · simp [h, h2]
    · simp [h, h2]

theorem or3_ev (x y z : Int) : Evt (fun k _ => cmp_Or_int k [x, y, z]) (orI x (orI y z)) := by
  refine Evt.eq (f := fun k q => _) ?_ (fun k q => by rw [cmp_Or_int])
  have w1 : IntKind.wrap .i64 (0 + 1) = 1 := by decide
  have w2 : IntKind.wrap .i64 (1 + 1) = 2 := by decide
  have w3 : IntKind.wrap .i64 (2 + 1) = 3 := by decide
  have l3 : Evt (fun k n => cmp_Or_int_L58 k n 0 [x, y, z] 3 3) (.inr (0, ())) := Evt.step (fun k n => cmp_Or_int_L58.eq_2 k _ _ _ _ n) (Evt.cfalse rfl .pure)
  have l2 : Evt (fun k n => cmp_Or_int_L58 k n 0 [x, y, z] 3 2) (if z != 0 then .inl z else .inr (0, ())) := by
    refine Evt.step (fun k n => cmp_Or_int_L58.eq_2 k _ _ _ _ n) (Evt.ctrue rfl (Evt.ctrue rfl (Evt.ctrue rfl ?_)))
    rw [w3]
    cases h : (z != 0) with
    | true => exact Evt.ctrue h .pure
    | false => exact Evt.cfalse h l3
  have l1 : Evt (fun k n => cmp_Or_int_L58 k n 0 [x, y, z] 3 1) (if y != 0 then .inl y else if z != 0 then .inl z else .inr (0, ())) := by
    refine Evt.step (fun k n => cmp_Or_int_L58.eq_2 k _ _ _ _ n) (Evt.ctrue rfl (Evt.ctrue rfl (Evt.ctrue rfl ?_)))
    rw [w2]
    cases h : (y != 0) with
    | true => exact Evt.ctrue h .pure
    | false => exact Evt.cfalse h l2
  have l0 : Evt (fun k n => cmp_Or_int_L58 k n 0 [x, y, z] (([x, y, z] : List Int).length : Int) 0) (if x != 0 then .inl x else if y != 0 then .inl y else if z != 0 then .inl z else .inr (0, ())) := by
    refine Evt.step (fun k n => cmp_Or_int_L58.eq_2 k _ _ _ _ n) (Evt.ctrue rfl (Evt.ctrue rfl (Evt.ctrue rfl ?_)))
    rw [w1]
    cases h : (x != 0) with
    | true => exact Evt.ctrue h .pure
    | false => exact Evt.cfalse h l1
  unfold orI
  cases hx : (x != 0) with
  | true =>
    rw [hx] at l0
    rw [show (x == 0) = false by simpa using hx]
    exact Evt.inl (Evt.diag l0) .pure
  | false =>
    rw [hx] at l0
    rw [show (x == 0) = true by simpa using hx, cond_true]
    cases hy : (y != 0) with
    | true =>
      rw [hy] at l0
      rw [show (y == 0) = false by simpa using hy]
      exact Evt.inl (Evt.diag l0) .pure
    | false =>
      rw [hy] at l0
      rw [show (y == 0) = true by simpa using hy, cond_true]
      cases hz : (z != 0) with
      | true => rw [hz] at l0; exact Evt.inl (Evt.diag l0) .pure
      | false =>
        rw [hz] at l0
        have hz0 : z = 0 := by simpa using hz
        subst hz0
        exact Evt.inr (Evt.diag l0) .pure

theorem cmpI_zero (a b : Int) : cmpI a b = 0 ↔ a = b := by
  unfold cmpI
  split <;> (try split) <;> omega
theorem compareTerms_ev (a b : Tm) : Evt (fun k _ => impl_compareTerms k a b) (lexI a b) := by
  refine Evt.eq (f := fun k q => _) ?_ (fun k q => by rw [impl_compareTerms])
  refine Evt.bind (.const (cmpC_eq _ _)) (Evt.bind (.const (cmpC_eq _ _)) (Evt.bind (.const (cmpC_eq _ _)) (Evt.bind (or3_ev _ _ _) ?_)))
  have : orI (cmpI a.2.1 b.2.1) (orI (cmpI a.2.2.1 b.2.2.1) (cmpI a.2.2.2 b.2.2.2)) = lexI a b := by
    unfold lexI
    by_cases h1 : a.2.1 = b.2.1
    · rw [(cmpI_zero _ _).2 h1, orI_z, if_neg (by simpa using h1)]
      by_cases h2 : a.2.2.1 = b.2.2.1
      · rw [(cmpI_zero _ _).2 h2, orI_z, if_neg (by simpa using h2)]
      · rw [orI_ne (fun h => h2 ((cmpI_zero _ _).1 h)), if_pos h2]
    · rw [orI_ne (fun h => h1 ((cmpI_zero _ _).1 h)), if_pos h1]
  rw [this]
  exact .pure

/-- a polynomial's terms, from one term on -/
def okFrom : Option Tm → List Tm → Bool
  | _, [] => true
  | p, e :: r => (decide (tmGd e) && !(e.1 == 0)) && ((match p with | none => true | some q => decide (lexI q e < 0)) && okFrom (some e) r)
def lastO (d : List Tm) : Option Tm := d.getLast?
def polyV (xs : List Tm) : Bool := okFrom none xs && decide ((xs.length : Int) ≤ 20)

theorem okFrom_gd : ∀ (r : List Tm) (p : Option Tm), okFrom p r = true → ∀ t ∈ r, tmGd t
  | [], _, _ => by simp
  | e :: r, p, h => by
    unfold okFrom at h
    simp only [Bool.and_eq_true, decide_eq_true_eq] at h
    intro t ht
    rcases List.mem_cons.1 ht with rfl | ht
    · exact h.1.1
    · exact okFrom_gd r _ h.2.2 t ht
theorem polyV_gd {xs : List Tm} (h : polyV xs = true) : ∀ t ∈ xs, tmGd t := by
  unfold polyV at h
  rw [Bool.and_eq_true] at h
  exact okFrom_gd xs _ h.1

theorem last_get {d r : List Tm} {e q z : Tm} : (d ++ [q] ++ e :: r).getD (Int.toNat (d.length : Int)) z = q := by simp

theorem poGood_ev {xs : List Tm} (hb : xs.length < lenB) : Evt (fun k _ => spec_poGood k xs) (polyV xs) := by
  refine Evt.eq (f := fun k q => _) ?_ (fun k q => by rw [spec_poGood])
  have key : ∀ (r d : List Tm), d ++ r = xs → (∀ q, lastO d = some q → tmGd q) → Evt (fun k n => spec_poGood_L26 k n xs xs (xs.length : Int) d.length) (if okFrom (lastO d) r then .inr (xs, ()) else .inl false) := by
    intro r
    induction r with
    | nil =>
      intro d h hg
      refine Evt.step (fun k n => spec_poGood_L26.eq_2 k _ _ _ _ n) ?_
      rw [List.append_nil] at h
      subst h
      exact Evt.rng0 .pure
    | cons e r ih =>
      intro d h hg
      refine Evt.step (fun k n => spec_poGood_L26.eq_2 k _ _ _ _ n) ?_
      have ih := ih (d ++ [e]) (by simpa using h)
      rw [← len_next (r := r) (by rw [h]; exact hb)] at ih
      rw [show lastO (d ++ [e]) = some e by simp [lastO]] at ih
      subst h
      refine Evt.ctrue mid_lt (Evt.ctrue mid_ge (Evt.ctrue mid_lt ?_))
      rw [mid_get]
      refine Evt.bind (.const (poTerm_eq e)) ?_
      unfold okFrom
      by_cases h1 : tmGd e
      · simp only [decide_eq_true h1, Bool.true_and]
        refine Evt.cfalse rfl ?_
        have ih := ih (fun q hq => by cases hq; exact h1)
        cases h2 : (e.1 == 0) with
        | true => exact Evt.ctrue rfl .pure
        | false =>
          refine Evt.cfalse rfl ?_
          simp only [Bool.not_false, Bool.true_and]
          rcases List.eq_nil_or_concat d with rfl | ⟨d0, q, rfl⟩
          · exact Evt.cfalse rfl (by simpa [lastO] using ih)
          · simp only [List.concat_eq_append] at hg ih ⊢
            have hq : lastO (d0 ++ [q]) = some q := by simp [lastO]
            have hl : (((d0 ++ [q]).length : Nat) : Int) = (d0.length : Int) + 1 := by simp
            have hlb : d0.length < lenB := by simp at hb; omega
            simp only [lenB] at hlb
            refine Evt.ctrue (by rw [hl]; exact decide_eq_true (by omega)) ?_
            have hw : IntKind.wrap .i64 (((d0 ++ [q]).length : Int) - 1) = (d0.length : Int) := by rw [hl, w64 (by omega) (by omega)]; omega
            rw [hw, last_get]
            refine Evt.ctrue (by simp) (Evt.ctrue (by simp <;> omega) (Evt.bind (.const (poOrder_eq (hg q hq) h1)) ?_))
            simp only [hq]
            by_cases h3 : lexI q e < 0
            · simp only [decide_eq_true h3, Bool.true_and]
              exact Evt.cfalse (decide_eq_false (by omega)) ih
            · simp only [decide_eq_false h3, Bool.false_and]
              exact Evt.ctrue (decide_eq_true (by omega)) .pure
      · simp only [decide_eq_false h1, Bool.false_and]
        exact Evt.ctrue rfl .pure
  have h0 := key xs [] rfl (by intro q hq; cases hq)
  simp only [List.length_nil] at h0
  unfold polyV
  rw [show lastO [] = none from rfl] at h0
  cases hall : okFrom none xs with
  | true => rw [hall] at h0; exact Evt.inr (Evt.diag h0) .pure
  | false => rw [hall] at h0; exact Evt.inl (Evt.diag h0) .pure

theorem isPoly_ev {xs : List Tm} (hb : xs.length < lenB) : Evt (fun k _ => impl_isPoly k xs) (polyV xs) := by
  refine Evt.eq (f := fun k q => _) ?_ (fun k q => by rw [impl_isPoly])
  have key : ∀ (r d : List Tm), d ++ r = xs → Evt (fun k n => impl_isPoly_L26 k n xs xs (xs.length : Int) d.length) (if okFrom (lastO d) r then .inr (xs, ()) else .inl false) := by
    intro r
    induction r with
    | nil =>
      intro d h
      refine Evt.step (fun k n => impl_isPoly_L26.eq_2 k _ _ _ _ n) ?_
      rw [List.append_nil] at h
      subst h
      exact Evt.rng0 .pure
    | cons e r ih =>
      intro d h
      refine Evt.step (fun k n => impl_isPoly_L26.eq_2 k _ _ _ _ n) ?_
      have ih := ih (d ++ [e]) (by simpa using h)
      rw [← len_next (r := r) (by rw [h]; exact hb)] at ih
      rw [show lastO (d ++ [e]) = some e by simp [lastO]] at ih
      subst h
      refine Evt.ctrue mid_lt (Evt.ctrue mid_ge (Evt.ctrue mid_lt ?_))
      rw [mid_get]
      unfold okFrom
      cases h2 : (e.1 == 0) with
      | true =>
        simp only [Bool.not_true, Bool.and_false, Bool.false_and]
        exact Evt.ctrue rfl .pure
      | false =>
      refine Evt.cfalse rfl (Evt.bind (.const (inside_eq _ _ _)) ?_)
      simp only [Bool.not_false, Bool.and_true]
      by_cases h0 : -1000 ≤ e.1 ∧ e.1 ≤ 1000
      · refine Evt.cfalse (by rw [decide_eq_true h0]; rfl) (Evt.bind (.const (hasDegree_eq h0)) ?_)
        by_cases h1 : tmGd e
        · simp only [decide_eq_true h1, Bool.true_and]
          refine Evt.cfalse rfl ?_
          rcases List.eq_nil_or_concat d with rfl | ⟨d0, q, rfl⟩
          · exact Evt.cfalse rfl (by simpa [lastO] using ih)
          · simp only [List.concat_eq_append] at ih ⊢
            have hq : lastO (d0 ++ [q]) = some q := by simp [lastO]
            have hl : (((d0 ++ [q]).length : Nat) : Int) = (d0.length : Int) + 1 := by simp
            have hlb : d0.length < lenB := by simp at hb; omega
            simp only [lenB] at hlb
            refine Evt.ctrue (by rw [hl]; exact decide_eq_true (by omega)) ?_
            have hw : IntKind.wrap .i64 (((d0 ++ [q]).length : Int) - 1) = (d0.length : Int) := by rw [hl, w64 (by omega) (by omega)]; omega
            rw [hw, last_get]
            refine Evt.ctrue (by simp) (Evt.ctrue (by simp <;> omega) (Evt.bind (compareTerms_ev q e) ?_))
            simp only [hq]
            by_cases h3 : lexI q e < 0
            · simp only [decide_eq_true h3, Bool.true_and]
              exact Evt.cfalse (decide_eq_false (by omega)) ih
            · simp only [decide_eq_false h3, Bool.false_and]
              exact Evt.ctrue (decide_eq_true (by omega)) .pure
        · simp only [decide_eq_false h1, Bool.false_and]
          exact Evt.ctrue rfl .pure
      · simp only [decide_eq_false fun h : tmGd e => h0 h.1, Bool.false_and]
        exact Evt.ctrue (by rw [decide_eq_false h0]; rfl) .pure
  have h0 := key xs [] rfl
  simp only [List.length_nil] at h0
  unfold polyV
  rw [show lastO [] = none from rfl] at h0
  cases hall : okFrom none xs with
  | true => rw [hall] at h0; exact Evt.inr (Evt.diag h0) .pure
  | false => rw [hall] at h0; exact Evt.inl (Evt.diag h0) .pure
end Go.Ev.G
namespace Go.Ev.G
open Go Go.Ev
set_option maxRecDepth 100000

def pw (t : Tm) (j : Nat) : Int := if j = 0 then t.2.1 else if j = 1 then t.2.2.1 else t.2.2.2
def big (xs : List Tm) (j : Nat) : Bool := xs.any fun t => decide (pw t j > 0)
def needs (n : Nat) (xs : List Tm) : Bool := (decide (n ≤ 0) && big xs 0) || ((decide (n ≤ 1) && big xs 1) || (decide (n ≤ 2) && big xs 2))

theorem poPower_eq (t : Tm) (j : Nat) : spec_poPower t j = some (pw t j) := by
  unfold spec_poPower pw
  by_cases h : j = 0
  · subst h; rfl
  · rw [if_neg h, show ((j : Int) == 0) = false by simp; omega, cond_false]
    by_cases h1 : j = 1
    · subst h1; rfl
    · rw [if_neg h1, show ((j : Int) == 1) = false by simp; omega, cond_false]

def degV (j : Nat) : Int → List Tm → Int
  | m, [] => m
  | m, t :: r => degV j (max m (pw t j)) r
theorem degV_pos (j : Nat) : ∀ (xs : List Tm) (m : Int), decide (degV j m xs > 0) = (decide (m > 0) || big xs j)
  | [], m => by simp [degV, big]
  | t :: r, m => by
    rw [degV, degV_pos j r]
    unfold big
    rw [List.any_cons, ← Bool.or_assoc]
    congr 1
    rw [Bool.eq_iff_iff]
    simp only [Bool.or_eq_true, decide_eq_true_eq]
    omega

theorem degreeIn_ev {xs : List Tm} {j : Nat} (hb : xs.length < lenB) : Evt (fun k _ => spec_poDegreeIn k xs j) (degV j (-1) xs) := by
  refine Evt.eq (f := fun k q => _) ?_ (fun k q => by rw [spec_poDegreeIn])
  have key : ∀ (r d : List Tm) (m : Int), d ++ r = xs → Evt (fun k n => spec_poDegreeIn_L58 k n j m xs (xs.length : Int) d.length) (.inr (degV j m r, ())) := by
    intro r
    induction r with
    | nil =>
      intro d m h
      refine Evt.step (fun k n => spec_poDegreeIn_L58.eq_2 k _ _ _ _ _ n) ?_
      rw [List.append_nil] at h
      subst h
      exact Evt.rng0 .pure
    | cons e r ih =>
      intro d m h
      refine Evt.step (fun k n => spec_poDegreeIn_L58.eq_2 k _ _ _ _ _ n) ?_
      have ih := ih (d ++ [e]) (max m (pw e j)) (by simpa using h)
      rw [← len_next (r := r) (by rw [h]; exact hb)] at ih
      subst h
      refine Evt.ctrue mid_lt (Evt.ctrue mid_ge (Evt.ctrue mid_lt ?_))
      rw [mid_get]
      exact Evt.bind (.const (poPower_eq _ _)) (Evt.bind (.const (most_eq _ _)) ih)
  have h0 := key xs [] (-1) rfl
  simp only [List.length_nil] at h0
  exact Evt.inr (Evt.diag h0) .pure

theorem system_inner {n : Nat} {xs : List Tm} (hb : xs.length < lenB) (x0 x6 : List (List Tm)) (x7 x8 : Int) :
    Evt (fun k m => spec_poSystem_L13518 k m x0 xs (n : Int) x6 x7 x8) (if needs n xs then .inl false else .inr (x0, x6, x7, x8, ())) := by
  have l3 : ∀ j : Nat, 3 ≤ j → Evt (fun k m => spec_poSystem_L13518 k m x0 xs (j : Int) x6 x7 x8) (.inr (x0, x6, x7, x8, ())) := by
    intro j hj
    exact Evt.step (fun k m => spec_poSystem_L13518.eq_2 k _ _ _ _ _ _ m) (Evt.cfalse (decide_eq_false (by omega)) .pure)
  have st : ∀ (j : Nat) (b : Bool), j < 3 → Evt (fun k m => spec_poSystem_L13518 k m x0 xs ((j + 1 : Nat) : Int) x6 x7 x8) (if b then .inl false else .inr (x0, x6, x7, x8, ())) → Evt (fun k m => spec_poSystem_L13518 k m x0 xs (j : Int) x6 x7 x8) (if (big xs j || b) then .inl false else .inr (x0, x6, x7, x8, ())) := by
    intro j b hj h
    refine Evt.step (fun k m => spec_poSystem_L13518.eq_2 k _ _ _ _ _ _ m) (Evt.ctrue (decide_eq_true (by omega)) (Evt.bind (degreeIn_ev hb) ?_))
    rw [degV_pos]
    rw [w64_next (by simp only [lenB]; omega)]
    cases big xs j with
    | true => exact Evt.ctrue rfl .pure
    | false => exact Evt.cfalse rfl (by simpa using h)
  have l2 := st 2 false (by omega) (by simpa using l3 3 (by omega))
  have l1 := st 1 _ (by omega) l2
  have l0 := st 0 _ (by omega) l1
  match n with
  | 0 => simpa [needs] using l0
  | 1 => simpa [needs] using l1
  | 2 => simpa [needs] using l2
  | m + 3 =>
    have := l3 (m + 3) (by omega)
    have e : needs (m + 3) xs = false := by simp [needs]
    rw [e]
    exact this

def sysV (m : List (List Tm)) : Bool := (m.all fun xs => polyV xs && !needs m.length xs) && decide (1 ≤ (m.length : Int) ∧ (m.length : Int) ≤ 3)

theorem poSystem_ev {m : List (List Tm)} (hb : m.length < lenB) (hm : ∀ r ∈ m, r.length < lenB) : Evt (fun k _ => spec_poSystem k m) (sysV m) := by
  refine Evt.eq (f := fun k q => _) ?_ (fun k q => by rw [spec_poSystem])
  have key : ∀ (r d : List (List Tm)), d ++ r = m → Evt (fun k n => spec_poSystem_L26 k n m m (m.length : Int) d.length) (if (r.all fun xs => polyV xs && !needs m.length xs) then .inr (m, ()) else .inl false) := by
    intro r
    induction r with
    | nil =>
      intro d h
      refine Evt.step (fun k n => spec_poSystem_L26.eq_2 k _ _ _ _ n) ?_
      rw [List.append_nil] at h
      subst h
      exact Evt.rng0 .pure
    | cons e r ih =>
      intro d h
      refine Evt.step (fun k n => spec_poSystem_L26.eq_2 k _ _ _ _ n) ?_
      have he := hm e (by rw [← h]; simp)
      have ih := ih (d ++ [e]) (by simpa using h)
      rw [← len_next (r := r) (by rw [h]; exact hb)] at ih
      have hi := system_inner (n := m.length) he m m (m.length : Int) (d.length : Int)
      subst h
      refine Evt.ctrue mid_lt (Evt.ctrue mid_ge (Evt.ctrue mid_lt ?_))
      rw [mid_get]
      refine Evt.bind (poGood_ev he) ?_
      cases hp : polyV e with
      | false => simp only [List.all_cons, hp, Bool.false_and]; exact Evt.ctrue rfl .pure
      | true =>
        refine Evt.cfalse rfl ?_
        cases hn : needs (d ++ e :: r).length e with
        | true => rw [hn] at hi; simp only [List.all_cons, hp, hn, Bool.not_true, Bool.and_false, Bool.false_and]; exact Evt.inl (Evt.diag hi) .pure
        | false => rw [hn] at hi; simp only [List.all_cons, hp, hn, Bool.not_false, Bool.true_and]; exact Evt.inr (Evt.diag hi) ih
  have h0 := key m [] rfl
  simp only [List.length_nil] at h0
  unfold sysV
  cases hall : (m.all fun xs => polyV xs && !needs m.length xs) with
  | true => rw [hall] at h0; exact Evt.inr (Evt.diag h0) (Evt.bind (.const (l1In_eq _ _ _)) .pure)
  | false => rw [hall] at h0; exact Evt.inl (Evt.diag h0) .pure

def needsT (n : Nat) (t : Tm) : Bool := (decide (n ≤ 0) && decide (t.2.1 > 0)) || ((decide (n ≤ 1) && decide (t.2.2.1 > 0)) || (decide (n ≤ 2) && decide (t.2.2.2 > 0)))
theorem needs_any (n : Nat) (xs : List Tm) : needs n xs = xs.any (needsT n) := by
  rw [Bool.eq_iff_iff]
  simp only [needs, big, Bool.or_eq_true, Bool.and_eq_true, decide_eq_true_eq, List.any_eq_true, needsT, pw]
  constructor
  · rintro (⟨h, t, ht, hp⟩ | ⟨h, t, ht, hp⟩ | ⟨h, t, ht, hp⟩)
    · exact ⟨t, ht, .inl ⟨h, by simpa using hp⟩⟩
    · exact ⟨t, ht, .inr (.inl ⟨h, by simpa using hp⟩)⟩
    · exact ⟨t, ht, .inr (.inr ⟨h, by simpa using hp⟩)⟩
  · rintro ⟨t, ht, ⟨h, hp⟩ | ⟨h, hp⟩ | ⟨h, hp⟩⟩
    · exact .inl ⟨h, t, ht, by simpa using hp⟩
    · exact .inr (.inl ⟨h, t, ht, by simpa using hp⟩)
    · exact .inr (.inr ⟨h, t, ht, by simpa using hp⟩)

theorem needs_inner (n : Nat) (t : Tm) (x9 : List Tm) (x10 x11 : Int) :
    Evt (fun k m => impl_needsAtMost_L6758 k m (n : Int) x9 x10 x11 t.2 0) (if needsT n t then .inl false else .inr ((n : Int), x9, x10, x11, ())) := by
  have w1 : IntKind.wrap .i64 (0 + 1) = 1 := by decide
  have w2 : IntKind.wrap .i64 (1 + 1) = 2 := by decide
  have w3 : IntKind.wrap .i64 (2 + 1) = 3 := by decide
  have l3 : Evt (fun k m => impl_needsAtMost_L6758 k m (n : Int) x9 x10 x11 t.2 3) (.inr ((n : Int), x9, x10, x11, ())) :=
    Evt.step (fun k m => impl_needsAtMost_L6758.eq_2 k _ _ _ _ _ _ m) (Evt.cfalse rfl .pure)
  have l2 : Evt (fun k m => impl_needsAtMost_L6758 k m (n : Int) x9 x10 x11 t.2 2) (if (decide (n ≤ 2) && decide (t.2.2.2 > 0)) then .inl false else .inr ((n : Int), x9, x10, x11, ())) := by
    refine Evt.step (fun k m => impl_needsAtMost_L6758.eq_2 k _ _ _ _ _ _ m) (Evt.ctrue rfl (Evt.cfalse rfl (Evt.cfalse rfl (Evt.ctrue rfl ?_))))
    rw [w3]
    by_cases h : n ≤ 2
    · refine Evt.ctrue (decide_eq_true (by omega)) ?_
      simp only [decide_eq_true h, Bool.true_and]
      cases decide (t.2.2.2 > 0) with
      | true => exact Evt.ctrue rfl .pure
      | false => exact Evt.cfalse rfl l3
    · simp only [decide_eq_false h, Bool.false_and]
      exact Evt.cfalse (decide_eq_false (by omega)) l3
  have l1 : Evt (fun k m => impl_needsAtMost_L6758 k m (n : Int) x9 x10 x11 t.2 1) (if ((decide (n ≤ 1) && decide (t.2.2.1 > 0)) || (decide (n ≤ 2) && decide (t.2.2.2 > 0))) then .inl false else .inr ((n : Int), x9, x10, x11, ())) := by
    refine Evt.step (fun k m => impl_needsAtMost_L6758.eq_2 k _ _ _ _ _ _ m) (Evt.ctrue rfl (Evt.cfalse rfl (Evt.ctrue rfl ?_)))
    rw [w2]
    by_cases h : n ≤ 1
    · refine Evt.ctrue (decide_eq_true (by omega)) ?_
      simp only [decide_eq_true h, Bool.true_and]
      cases decide (t.2.2.1 > 0) with
      | true => exact Evt.ctrue rfl .pure
      | false => exact Evt.cfalse rfl l2
    · simp only [decide_eq_false h, Bool.false_and, Bool.false_or]
      exact Evt.cfalse (decide_eq_false (by omega)) l2
  refine Evt.step (fun k m => impl_needsAtMost_L6758.eq_2 k _ _ _ _ _ _ m) (Evt.ctrue rfl (Evt.ctrue rfl ?_))
  rw [w1]
  unfold needsT
  by_cases h : n ≤ 0
  · refine Evt.ctrue (decide_eq_true (by omega)) ?_
    simp only [decide_eq_true h, Bool.true_and]
    cases decide (t.2.1 > 0) with
    | true => exact Evt.ctrue rfl .pure
    | false => exact Evt.cfalse rfl l1
  · simp only [decide_eq_false h, Bool.false_and, Bool.false_or]
    exact Evt.cfalse (decide_eq_false (by omega)) l1

theorem needsAtMost_ev {xs : List Tm} {n : Nat} (hb : xs.length < lenB) : Evt (fun k _ => impl_needsAtMost k xs n) (!needs n xs) := by
  refine Evt.eq (f := fun k q => _) ?_ (fun k q => by rw [impl_needsAtMost])
  rw [needs_any]
  have key : ∀ (r d : List Tm), d ++ r = xs → Evt (fun k m => impl_needsAtMost_L26 k m n xs (xs.length : Int) d.length) (if r.any (needsT n) then .inl false else .inr ()) := by
    intro r
    induction r with
    | nil =>
      intro d h
      refine Evt.step (fun k m => impl_needsAtMost_L26.eq_2 k _ _ _ _ m) ?_
      rw [List.append_nil] at h
      subst h
      exact Evt.rng0 .pure
    | cons e r ih =>
      intro d h
      refine Evt.step (fun k m => impl_needsAtMost_L26.eq_2 k _ _ _ _ m) ?_
      have ih := ih (d ++ [e]) (by simpa using h)
      rw [← len_next (r := r) (by rw [h]; exact hb)] at ih
      have hi := needs_inner n e xs (xs.length : Int) (d.length : Int)
      subst h
      refine Evt.ctrue mid_lt (Evt.ctrue mid_ge (Evt.ctrue mid_lt ?_))
      rw [mid_get]
      refine Evt.bind (.const rfl) ?_
      cases hn : needsT n e with
      | true => rw [hn] at hi; simp only [List.any_cons, hn, Bool.true_or]; exact Evt.inl (Evt.diag hi) .pure
      | false => rw [hn] at hi; simp only [List.any_cons, hn, Bool.false_or]; exact Evt.inr (Evt.diag hi) ih
  have h0 := key xs [] rfl
  simp only [List.length_nil] at h0
  cases hall : xs.any (needsT n) with
  | true => rw [hall] at h0; exact Evt.inl (Evt.diag h0) .pure
  | false => rw [hall] at h0; exact Evt.inr (Evt.diag h0) .pure

theorem isSystem_ev {m : List (List Tm)} (hb : m.length < lenB) (hm : ∀ r ∈ m, r.length < lenB) : Evt (fun k _ => impl_isSystem k m) (sysV m) := by
  refine Evt.eq (f := fun k q => _) ?_ (fun k q => by rw [impl_isSystem])
  have key : ∀ (r d : List (List Tm)), d ++ r = m → Evt (fun k n => impl_isSystem_L26 k n m m (m.length : Int) d.length) (if (r.all fun xs => polyV xs && !needs m.length xs) then .inr (m, ()) else .inl false) := by
    intro r
    induction r with
    | nil =>
      intro d h
      refine Evt.step (fun k n => impl_isSystem_L26.eq_2 k _ _ _ _ n) ?_
      rw [List.append_nil] at h
      subst h
      exact Evt.rng0 .pure
    | cons e r ih =>
      intro d h
      refine Evt.step (fun k n => impl_isSystem_L26.eq_2 k _ _ _ _ n) ?_
      have he := hm e (by rw [← h]; simp)
      have ih := ih (d ++ [e]) (by simpa using h)
      rw [← len_next (r := r) (by rw [h]; exact hb)] at ih
      subst h
      refine Evt.ctrue mid_lt (Evt.ctrue mid_ge (Evt.ctrue mid_lt ?_))
      rw [mid_get]
      refine Evt.bind (isPoly_ev he) ?_
      cases hp : polyV e with
      | false => simp only [List.all_cons, hp, Bool.false_and]; exact Evt.ctrue rfl .pure
      | true =>
        refine Evt.cfalse rfl (Evt.bind (needsAtMost_ev he) ?_)
        cases hn : needs (d ++ e :: r).length e with
        | true => simp only [List.all_cons, hp, hn, Bool.not_true, Bool.and_false, Bool.false_and]; exact Evt.ctrue rfl .pure
        | false => simp only [List.all_cons, hp, hn, Bool.not_false, Bool.true_and]; exact Evt.cfalse rfl ih
  have h0 := key m [] rfl
  simp only [List.length_nil] at h0
  unfold sysV
  cases hall : (m.all fun xs => polyV xs && !needs m.length xs) with
  | true => rw [hall] at h0; exact Evt.inr (Evt.diag h0) (Evt.bind (.const (inside_eq _ _ _)) .pure)
  | false => rw [hall] at h0; exact Evt.inl (Evt.diag h0) .pure

def cubeV (m : List (List Tm)) (b : Int × List Int × List Int) : Bool := sysV m && (((m.length : Int) == 3) && cbV b)
theorem cbGood_ev {m : List (List Tm)} {b : Int × List Int × List Int} (hb : m.length < lenB) (hm : ∀ r ∈ m, r.length < lenB) (hx : b.2.1.length < lenB) : Evt (fun k _ => spec_cbGood k m b) (cubeV m b) := by
  refine Evt.eq (f := fun k q => _) ?_ (fun k q => by rw [spec_cbGood])
  refine Evt.bind (poSystem_ev hb hm) ?_
  unfold cubeV
  cases sysV m with
  | false => exact Evt.cfalse rfl .pure
  | true =>
    refine Evt.ctrue rfl ?_
    cases ((m.length : Int) == 3) with
    | false => exact Evt.cfalse rfl .pure
    | true => exact Evt.ctrue rfl (Evt.bind (cbBox_ev hx) .pure)
theorem isCube_ev {m : List (List Tm)} {b : Int × List Int × List Int} (hb : m.length < lenB) (hm : ∀ r ∈ m, r.length < lenB) (hx : b.2.1.length < lenB) : Evt (fun k _ => impl_isCube k m b) (cubeV m b) := by
  refine Evt.eq (f := fun k q => _) ?_ (fun k q => by rw [impl_isCube])
  unfold cubeV
  cases ((m.length : Int) == 3) with
  | false => rw [Bool.false_and, Bool.and_false]; exact Evt.cfalse rfl .pure
  | true =>
    refine Evt.ctrue rfl (Evt.bind (isSystem_ev hb hm) ?_)
    cases sysV m with
    | false => exact Evt.cfalse rfl .pure
    | true => exact Evt.ctrue rfl (Evt.bind (isCubeBox_ev hx) .pure)

/-! A box, as the laws hand it over. -/
theorem szBox_eq {b : Int × List Int × List Int} (h1 : b.2.1.length ≤ maxLen) (h2 : b.2.2.length ≤ maxLen) {a : Nat} (ha : a ≤ 1000000) :
    laws_szBox b a = some (if b.2.1.length + b.2.2.length ≤ a then ((a - (b.2.1.length + b.2.2.length) : Nat) : Int) else -1) := by
  unfold laws_szBox
  rw [szIntS_ev h1 ha]
  by_cases h3 : b.2.1.length ≤ a
  · rw [if_pos h3, Option.bind_some, decide_eq_false (by omega), cond_false, szIntS_ev h2 (by omega)]
    by_cases h4 : b.2.2.length ≤ a - b.2.1.length
    · rw [if_pos h4, if_pos (by omega), Option.bind_some, decide_eq_false (by omega), cond_false]
      congr 2
      omega
    · rw [if_neg h4, if_neg (by omega)]; rfl
  · rw [if_neg h3, if_neg (by omega)]; rfl
def boxR (b : Int × List Int × List Int) (f : Bool) : Int × (List Int × List Int) × List Int × List Int := (b.1, toV id fI b.2.1 f, toV id fI b.2.2 f)
theorem toBox_ev {b : Int × List Int × List Int} {f : Bool} (h1 : b.2.1.length ≤ 1000000) (h2 : b.2.2.length ≤ 1000000) : Evt (fun k _ => laws_toBox k b f) (boxR b f) := by
  refine Evt.eq (f := fun k q => _) ?_ (fun k q => by rw [laws_toBox])
  exact Evt.bind (toIntS_ev h1) (Evt.bind (toIntS_ev h2) .pure)
theorem boxR_eq (b : Int × List Int × List Int) (f : Bool) : ((boxR b f).1, (boxR b f).2.1.1, (boxR b f).2.2.1) = b := by
  simp only [boxR, toV_fst]
theorem intactBox_ev {b : Int × List Int × List Int} (h1 : b.2.1.length ≤ 1000000) (h2 : b.2.2.length ≤ 1000000) : Evt (fun k _ => laws_intactBox k (boxR b false) (boxR b false)) true := by
  refine Evt.eq (f := fun k q => _) ?_ (fun k q => by rw [laws_intactBox])
  exact Evt.cfalse (by simp) (Evt.bind (intactIntS_ev (room_toV h1)) (Evt.cfalse rfl (Evt.bind (intactIntS_ev (room_toV h2)) (Evt.cfalse rfl .pure))))
theorem intactT_ev {a : List (List Tm)} (h : Sized a) : Evt (fun k _ => laws_intactTermSS k (toV (fun x => toV id fT x false) ([fT], []) a false) (toV (fun x => toV id fT x false) ([fT], []) a false)) true := by
  refine intactTermSS_ev (room_toV h.len) ?_ ?_
  · intro y hy
    simp [toV] at hy
    obtain ⟨x, hx, rfl⟩ := hy
    exact ⟨by simp, h.row x hx⟩
  · intro y hy
    simp [toV] at hy
    rw [hy.2]; simp [lenB]

theorem isCubeSystem_law (a : List (List Tm)) (b : Int × List Int × List Int) (ha : a.length ≤ maxLen) (hm : ∀ x ∈ a, x.length ≤ maxLen) (h1 : b.2.1.length ≤ maxLen) (h2 : b.2.2.length ≤ maxLen) : ∃ k, laws_FnExactIsCubeSystem k a b = some true := by
  refine Evt.get (Evt.eq (f := fun k q => _) ?_ (fun k q => by rw [laws_FnExactIsCubeSystem]))
  refine Evt.bind (szTermSS_ev (a := 1000000) ha hm (by omega)) ?_
  by_cases hz : a.length + (a.map List.length).sum ≤ 1000000
  · rw [if_pos hz]
    have hs : Sized a := hz
    refine Evt.cfalse (by simp <;> omega) (Evt.bind (.const (szBox_eq h1 h2 (by omega))) ?_)
    by_cases hy : b.2.1.length + b.2.2.length ≤ 1000000 - (a.length + (a.map List.length).sum)
    · rw [if_pos hy]
      refine Evt.cfalse (by simp <;> omega) ?_
      have b1 : b.2.1.length ≤ 1000000 := by omega
      have b2 : b.2.2.length ≤ 1000000 := by omega
      have hr : ∀ r ∈ a, r.length < lenB := fun r hr => by have := hs.row r hr; simp only [lenB]; omega
      have hb : a.length < lenB := by have := hs.len; simp only [lenB]; omega
      have hx : b.2.1.length < lenB := by simp only [lenB]; omega
      have spec : Evt (fun k _ => spec_IsCubeSystem k a b) (cubeV a b) := Evt.eq (Evt.bind (cbGood_ev hb hr hx) .pure) (fun k n => by rw [spec_IsCubeSystem])
      have impl : Evt (fun k _ => impl_IsCubeSystem k a b) (cubeV a b) := Evt.eq (Evt.bind (isCube_ev hb hr hx) .pure) (fun k n => by rw [impl_IsCubeSystem])
      refine Evt.bind (toTermSS_ev hs.len hs.row) (Evt.bind (toBox_ev b1 b2) ?_)
      simp only [toV_rows, boxR_eq]
      refine Evt.bind spec (Evt.bind (toTermSS_ev hs.len hs.row) (Evt.bind (toBox_ev b1 b2) ?_))
      simp only [toV_rows, boxR_eq]
      refine Evt.bind impl (Evt.cfalse (by simp) (Evt.bind (toTermSS_ev hs.len hs.row) (Evt.bind (intactT_ev hs) (Evt.cfalse rfl (Evt.bind (toBox_ev b1 b2) (Evt.bind (intactBox_ev b1 b2) (Evt.cfalse rfl (Evt.bind (toTermSS_ev hs.len hs.row) (Evt.bind (toBox_ev b1 b2) ?_)))))))))
      simp only [toV_rows, boxR_eq]
      exact Evt.bind impl (Evt.cfalse (by simp) .pure)
    · rw [if_neg hy]
      exact Evt.ctrue rfl .pure
  · rw [if_neg hz]
    exact Evt.ctrue rfl .pure
abbrev tTerm : Ty := .pair (.int .i64) (.pair (.int .i64) (.pair (.int .i64) (.int .i64)))
abbrev tBox : Ty := .pair (.int .i64) (.pair (.sl (.int .i64)) (.sl (.int .i64)))
theorem isCubeSystem_row (a : List (List Tm)) (b : Int × List Int × List Int) (h : WfT (.sl (.sl tTerm)) a) (hb : WfT tBox b) : ∃ k, laws_FnExactIsCubeSystem k a b = some true := isCubeSystem_law a b h.1 (fun x hx => (h.2 x hx).1) hb.2.1.1 hb.2.2.1
end Go.Ev.G
namespace Go.Ev.G
open Go Go.Ev
set_option maxRecDepth 100000

/-! A cell of a cube's surface, and its sides. -/
def cellV (dep : Int) (c : Int × Bool × Int × Int) : Bool := decide (0 ≤ dep ∧ dep ≤ 2) && (decide (0 ≤ c.1 ∧ c.1 ≤ 2) && (decide (0 ≤ c.2.2.1 ∧ c.2.2.1 ≤ 2 ^ dep.toNat - 1) && decide (0 ≤ c.2.2.2 ∧ c.2.2.2 ≤ 2 ^ dep.toNat - 1)))

theorem pow2 {m : Nat} (h : m ≤ 2) : (1 : Int) ≤ 2 ^ m ∧ (2 : Int) ^ m ≤ 4 := by
  have : m = 0 ∨ m = 1 ∨ m = 2 := by omega
  rcases this with rfl | rfl | rfl <;> decide

theorem cbCell_eq {m : Nat} (h : m ≤ 2) (c : Int × Bool × Int × Int) : spec_cbCell c m = some (cellV m c) := by
  have hp := pow2 h
  have e1 : ((2 ^ m : Nat) : Int) = 2 ^ m := by simp
  unfold spec_cbCell cellV
  rw [dyPower_eq (by omega), e1]
  simp only [Option.bind_some, l1In_eq, Int.toNat_natCast]
  rw [w64 (by omega) (by omega), decide_eq_true (show (0 : Int) ≤ m ∧ (m : Int) ≤ 2 by omega), Bool.true_and]
  cases decide (0 ≤ c.1 ∧ c.1 ≤ 2) <;> cases decide (0 ≤ c.2.2.1 ∧ c.2.2.1 ≤ (2 : Int) ^ m - 1) <;> rfl

theorem min64 {m : Nat} (h : m ≤ 64) : min (Int.toNat (m : Int)) (IntKind.bits .i64) = m := by
  rw [Int.toNat_natCast]; exact Nat.min_eq_left (by simp only [IntKind.bits]; omega)

theorem isCell_eq (dep : Int) (c : Int × Bool × Int × Int) : impl_isCell dep c = some (cellV dep c) := by
  unfold impl_isCell cellV
  simp only [inside_eq, Option.bind_some]
  by_cases h0 : 0 ≤ dep ∧ dep ≤ 2
  · obtain ⟨m, rfl⟩ : ∃ m : Nat, dep = m := ⟨dep.toNat, by omega⟩
    have hm : m ≤ 2 := by omega
    have hp := pow2 hm
    rw [decide_eq_true h0, min64 (by omega)]
    simp only [cond_true, Bool.true_and, Int.toNat_natCast, Int.one_mul]
    rw [w64 (n := 2 ^ m) (by omega) (by omega), w64 (by omega) (by omega), decide_eq_false (by omega : ¬ (m : Int) < 0)]
    cases decide (0 ≤ c.1 ∧ c.1 ≤ 2) <;> cases decide (0 ≤ c.2.2.1 ∧ c.2.2.1 ≤ (2 : Int) ^ m - 1) <;> rfl
  · rw [decide_eq_false h0]; rfl

/-- the lowest corner of a cell, in cells -/
def lowV (c : Int × Bool × Int × Int) (s : Int) : Int × Int × Int :=
  let t : Int := if c.2.1 then s else 0
  if c.1 = 0 then (t, c.2.2.1, c.2.2.2) else if c.1 = 1 then (c.2.2.1, t, c.2.2.2) else (c.2.2.1, c.2.2.2, t)

theorem lowest_eq {m : Nat} (hm : m ≤ 2) {c : Int × Bool × Int × Int} (h1 : 0 ≤ c.1 ∧ c.1 ≤ 2) : ∃ y, impl_Cell_lowest c m = some (lowV c (2 ^ m), y) := by
  obtain ⟨ax, hi, i, j⟩ := c
  simp only at h1
  have hd : m = 0 ∨ m = 1 ∨ m = 2 := by omega
  have ha : ax = 0 ∨ ax = 1 ∨ ax = 2 := by omega
  rcases hd with rfl | rfl | rfl <;> rcases ha with rfl | rfl | rfl <;> cases hi <;> exact ⟨_, rfl⟩

def upV (ax j x : Int) : Int := if j = ax then x else x + 1
def upW (ax j x : Int) : Int := if j = ax then x else IntKind.wrap .i64 (x + 1)
theorem upW_eq (ax j : Int) {x : Int} (h : 0 ≤ x ∧ x ≤ 1000) : upW ax j x = upV ax j x := by
  unfold upW upV
  rw [w64 (by omega) (by omega)]
theorem lowV_le {c : Int × Bool × Int × Int} {s : Int} (hi : 0 ≤ c.2.2.1 ∧ c.2.2.1 ≤ 4) (hj : 0 ≤ c.2.2.2 ∧ c.2.2.2 ≤ 4) (hs : 0 ≤ s ∧ s ≤ 4) :
    (0 ≤ (lowV c s).1 ∧ (lowV c s).1 ≤ 4) ∧ (0 ≤ (lowV c s).2.1 ∧ (lowV c s).2.1 ≤ 4) ∧ (0 ≤ (lowV c s).2.2 ∧ (lowV c s).2.2 ≤ 4) := by
  unfold lowV
  simp only
  split <;> split <;> (try split) <;> simp only <;> omega
theorem cbRange_ev {c : Int × Bool × Int × Int} {s : Int} (h1 : 0 ≤ c.1 ∧ c.1 ≤ 2) (hi : 0 ≤ c.2.2.1 ∧ c.2.2.1 ≤ 4) (hj : 0 ≤ c.2.2.2 ∧ c.2.2.2 ≤ 4) (hs : 0 ≤ s ∧ s ≤ 4) :
    Evt (fun k _ => spec_cbRange k c s) ([(lowV c s).1, (lowV c s).2.1, (lowV c s).2.2], [upV c.1 0 (lowV c s).1, upV c.1 1 (lowV c s).2.1, upV c.1 2 (lowV c s).2.2]) := by
  have hl := lowV_le hi hj hs
  rw [← upW_eq c.1 0 (by omega : 0 ≤ (lowV c s).1 ∧ (lowV c s).1 ≤ 1000), ← upW_eq c.1 1 (by omega : 0 ≤ (lowV c s).2.1 ∧ (lowV c s).2.1 ≤ 1000), ← upW_eq c.1 2 (by omega : 0 ≤ (lowV c s).2.2 ∧ (lowV c s).2.2 ≤ 1000)]
  obtain ⟨ax, hi', i, j⟩ := c
  simp only at h1
  have ha : ax = 0 ∨ ax = 1 ∨ ax = 2 := by omega
  clear hl hi hj
  refine ⟨4, fun k n hk _ => ?_⟩
  obtain ⟨k, rfl⟩ : ∃ k', k = k' + 4 := ⟨k - 4, by omega⟩
  rcases ha with rfl | rfl | rfl <;> cases hi' <;> rfl

def sideV (m dep : Nat) (l h x : Int) : Int × Int := (mkD (l * 2 ^ dep + (h - l) * x) (m + dep)).1
def cellSides (m dep : Nat) (l h : List Int) (a b : List Int) : List ((Int × Int) × Int × Int) :=
  match l, h, a, b with
  | [l0, l1, l2], [h0, h1, h2], [a0, a1, a2], [b0, b1, b2] => [(sideV m dep l0 h0 a0, sideV m dep l0 h0 b0), (sideV m dep l1 h1 a1, sideV m dep l1 h1 b1), (sideV m dep l2 h2 a2, sideV m dep l2 h2 b2)]
  | _, _, _, _ => []

theorem side_bound {l h x s : Int} (hl : -64 ≤ l ∧ l < h ∧ h ≤ 64) (hx : 0 ≤ x ∧ x ≤ 5) (hs : 1 ≤ s ∧ s ≤ 4) : (-256 ≤ l * s ∧ l * s ≤ 256) ∧ (0 ≤ (h - l) * x ∧ (h - l) * x ≤ 640) := by
  have hs' : s = 1 ∨ s = 2 ∨ s = 3 ∨ s = 4 := by omega
  have hx' : x = 0 ∨ x = 1 ∨ x = 2 ∨ x = 3 ∨ x = 4 ∨ x = 5 := by omega
  refine ⟨?_, ?_⟩
  · rcases hs' with rfl | rfl | rfl | rfl <;> omega
  · rcases hx' with rfl | rfl | rfl | rfl | rfl | rfl <;> omega

theorem number_ev {m dep : Nat} {l h x s : Int} (hl : -64 ≤ l ∧ l < h ∧ h ≤ 64) (hx : 0 ≤ x ∧ x ≤ 5) (hd : dep ≤ 2) (hs : s = 2 ^ dep) (hm : m ≤ 3) :
    Evt (fun k _ => spec_bxNumber k (IntKind.wrap .i64 ((IntKind.wrap .i64 (l * s)) + (IntKind.wrap .i64 ((IntKind.wrap .i64 (h - l)) * x)))) (IntKind.wrap .i64 ((m : Int) + (dep : Int)))) (sideV m dep l h x) := by
  have hp := pow2 hd
  subst hs
  have hb := side_bound hl hx hp
  rw [w64 (n := h - l) (by omega) (by omega), w64 (n := l * 2 ^ dep) (by omega) (by omega), w64 (n := (h - l) * x) (by omega) (by omega), w64 (by omega) (by omega), w64 (n := (m : Int) + dep) (by omega) (by omega)]
  refine Evt.eq (f := fun k q => _) ?_ (fun k q => by rw [spec_bxNumber])
  have := dyMake_ev (n := l * 2 ^ dep + (h - l) * x) (m := m + dep) (by omega) (by omega) (by omega)
  rw [Int.natCast_add] at this
  exact Evt.bind this .pure

theorem cbSides_ev {m dep : Nat} {l0 l1 l2 h0 h1 h2 : Int} {c : Int × Bool × Int × Int} (hm : m ≤ 3) (hd : dep ≤ 2) (g0 : -64 ≤ l0 ∧ l0 < h0 ∧ h0 ≤ 64) (g1 : -64 ≤ l1 ∧ l1 < h1 ∧ h1 ≤ 64) (g2 : -64 ≤ l2 ∧ l2 < h2 ∧ h2 ≤ 64)
    (k1 : 0 ≤ c.1 ∧ c.1 ≤ 2) (hi : 0 ≤ c.2.2.1 ∧ c.2.2.1 ≤ 4) (hj : 0 ≤ c.2.2.2 ∧ c.2.2.2 ≤ 4) :
    Evt (fun k _ => spec_cbSides k ((m : Int), [l0, l1, l2], [h0, h1, h2]) (dep : Int) c) (cellSides m dep [l0, l1, l2] [h0, h1, h2] [(lowV c (2 ^ dep)).1, (lowV c (2 ^ dep)).2.1, (lowV c (2 ^ dep)).2.2] [upV c.1 0 (lowV c (2 ^ dep)).1, upV c.1 1 (lowV c (2 ^ dep)).2.1, upV c.1 2 (lowV c (2 ^ dep)).2.2]) := by
  have hp := pow2 hd
  have e1 : ((2 ^ dep : Nat) : Int) = 2 ^ dep := by simp
  have hl := lowV_le (c := c) (s := 2 ^ dep) hi hj (by omega)
  have hu : ∀ ax j x : Int, 0 ≤ x ∧ x ≤ 4 → 0 ≤ upV ax j x ∧ upV ax j x ≤ 5 := by
    intro ax j x hx
    unfold upV
    split <;> omega
  refine Evt.eq (f := fun k q => _) ?_ (fun k q => by rw [spec_cbSides])
  refine Evt.bind (.const (dyPower_eq (by omega))) ?_
  rw [e1]
  refine Evt.bind (cbRange_ev k1 hi hj (by omega)) ?_
  obtain ⟨hx, hy, hz⟩ := hl
  generalize (lowV c (2 ^ dep)).1 = x at hx ⊢
  generalize (lowV c (2 ^ dep)).2.1 = y at hy ⊢
  generalize (lowV c (2 ^ dep)).2.2 = z at hz ⊢
  have ux := hu c.1 0 x hx
  have uy := hu c.1 1 y hy
  have uz := hu c.1 2 z hz
  generalize upV c.1 0 x = x' at ux ⊢
  generalize upV c.1 1 y = y' at uy ⊢
  generalize upV c.1 2 z = z' at uz ⊢
  have w1 : IntKind.wrap .i64 (0 + 1) = 1 := by decide
  have w2 : IntKind.wrap .i64 (1 + 1) = 2 := by decide
  have w3 : IntKind.wrap .i64 (2 + 1) = 3 := by decide
  refine Evt.inr (y := (cellSides m dep [l0, l1, l2] [h0, h1, h2] [x, y, z] [x', y', z'], ())) (Evt.diag (f := fun k n => spec_cbSides_L250 k n (dep : Int) ((m : Int), [l0, l1, l2], [h0, h1, h2]) (2 ^ dep) [x, y, z] [x', y', z'] [] 3 0) ?_) .pure
  refine Evt.step (fun k n => spec_cbSides_L250.eq_2 k _ _ _ _ _ _ _ _ n) (Evt.ctrue rfl (Evt.ctrue rfl (Evt.ctrue rfl (Evt.ctrue rfl (Evt.ctrue rfl (Evt.ctrue rfl (Evt.ctrue rfl (Evt.ctrue rfl (Evt.ctrue rfl (Evt.bind (number_ev (x := x) g0 (by omega) hd rfl hm) (Evt.ctrue rfl (Evt.ctrue rfl (Evt.ctrue rfl (Evt.ctrue rfl (Evt.bind (number_ev (x := x') g0 (by omega) hd rfl hm) (Evt.ctrue rfl ?_))))))))))))))))
  rw [w1]
  refine Evt.step (fun k n => spec_cbSides_L250.eq_2 k _ _ _ _ _ _ _ _ n) (Evt.ctrue rfl (Evt.ctrue rfl (Evt.ctrue rfl (Evt.ctrue rfl (Evt.ctrue rfl (Evt.ctrue rfl (Evt.ctrue rfl (Evt.ctrue rfl (Evt.ctrue rfl (Evt.bind (number_ev (x := y) g1 (by omega) hd rfl hm) (Evt.ctrue rfl (Evt.ctrue rfl (Evt.ctrue rfl (Evt.ctrue rfl (Evt.bind (number_ev (x := y') g1 (by omega) hd rfl hm) (Evt.ctrue rfl ?_))))))))))))))))
  rw [w2]
  refine Evt.step (fun k n => spec_cbSides_L250.eq_2 k _ _ _ _ _ _ _ _ n) (Evt.ctrue rfl (Evt.ctrue rfl (Evt.ctrue rfl (Evt.ctrue rfl (Evt.ctrue rfl (Evt.ctrue rfl (Evt.ctrue rfl (Evt.ctrue rfl (Evt.ctrue rfl (Evt.bind (number_ev (x := z) g2 (by omega) hd rfl hm) (Evt.ctrue rfl (Evt.ctrue rfl (Evt.ctrue rfl (Evt.ctrue rfl (Evt.bind (number_ev (x := z') g2 (by omega) hd rfl hm) (Evt.ctrue rfl ?_))))))))))))))))
  rw [w3]
  exact Evt.step (fun k n => spec_cbSides_L250.eq_2 k _ _ _ _ _ _ _ _ n) (Evt.cfalse rfl .pure)
end Go.Ev.G
namespace Go.Ev.G
open Go Go.Ev
set_option maxRecDepth 100000

theorem fitD_ev {n : Int} {p : Nat} (h1 : -9223372036854775808 < n) (h2 : n < 9223372036854775808) (hp : p < 9223372036854775808) : Evt (fun k _ => impl_wide_fit k (wN (decide (n < 0)) n.natAbs) (p : Int)) (mkD n p) := by
  have := fit_ev (neg := decide (n < 0)) (M := n.natAbs) (m := p) (by simp only [B64]; omega) hp
  rw [wV_of] at this
  exact this

abbrev CellSt := (Int × (List Int) × List Int) × Int × (Int × Bool × Int × Int) × (List ((Int × Int) × Int × Int)) × Int × Int × (Int × Int × Int) × Int × Unit
theorem piece_ev (x0 : Int × (List Int) × List Int) (dep : Nat) (x5 : Int × Bool × Int × Int) (x9 : List ((Int × Int) × Int × Int)) (x24 : Int × Int × Int) (i : Int) {l h x : Int} (hd : dep ≤ 2) (hl : -64 ≤ l ∧ l < h ∧ h ≤ 64) (hx : 0 ≤ x ∧ x ≤ 4) (hlen : impl_Box_length x0 i = some (h - l)) :
    Evt (fun k _ => ((bif (i != x5.1) then (Option.bind (impl_Box_length x0 i) fun r3 => some (Sum.inr (x0, (dep : Int), x5, x9, (IntKind.wrap .i64 ((IntKind.wrap .i64 (l * 2 ^ min (Int.toNat (dep : Int)) (IntKind.bits .i64))) + (IntKind.wrap .i64 (x * (h - l))))), (IntKind.wrap .i64 ((IntKind.wrap .i64 ((IntKind.wrap .i64 (l * 2 ^ min (Int.toNat (dep : Int)) (IntKind.bits .i64))) + (IntKind.wrap .i64 (x * (h - l))))) + r3)), x24, i, ()))) else some (Sum.inr (x0, (dep : Int), x5, x9, (IntKind.wrap .i64 ((IntKind.wrap .i64 (l * 2 ^ min (Int.toNat (dep : Int)) (IntKind.bits .i64))) + (IntKind.wrap .i64 (x * (h - l))))), (IntKind.wrap .i64 ((IntKind.wrap .i64 (l * 2 ^ min (Int.toNat (dep : Int)) (IntKind.bits .i64))) + (IntKind.wrap .i64 (x * (h - l))))), x24, i, ()))) : Option (List ((Int × Int) × Int × Int) ⊕ CellSt))) (.inr (x0, (dep : Int), x5, x9, l * 2 ^ dep + (h - l) * x, l * 2 ^ dep + (h - l) * upV x5.1 i x, x24, i, ())) := by
  have hp := pow2 hd
  have hb := side_bound (x := x) hl (by omega) hp
  have hb2 := side_bound (x := x + 1) hl (by omega) hp
  have e2 : (h - l) * (x + 1) = (h - l) * x + (h - l) := by rw [Int.mul_add, Int.mul_one]
  rw [min64 (by omega), Int.mul_comm x, w64 (n := l * 2 ^ dep) (by omega) (by omega), w64 (n := (h - l) * x) (by omega) (by omega), w64 (n := l * 2 ^ dep + (h - l) * x) (by omega) (by omega), hlen]
  unfold upV
  by_cases hi : i = x5.1
  · rw [if_pos hi]
    exact Evt.cfalse (by simp [hi]) .pure
  · rw [if_neg hi, e2]
    refine Evt.ctrue (by simpa using hi) (.const ?_)
    rw [Option.bind_some, w64 (by omega) (by omega), Int.add_assoc]

theorem impl_cellSides_ev {m dep : Nat} {l0 l1 l2 h0 h1 h2 : Int} {c : Int × Bool × Int × Int} (hm : m ≤ 3) (hd : dep ≤ 2) (g0 : -64 ≤ l0 ∧ l0 < h0 ∧ h0 ≤ 64) (g1 : -64 ≤ l1 ∧ l1 < h1 ∧ h1 ≤ 64) (g2 : -64 ≤ l2 ∧ l2 < h2 ∧ h2 ≤ 64)
    (k1 : 0 ≤ c.1 ∧ c.1 ≤ 2) (hi : 0 ≤ c.2.2.1 ∧ c.2.2.1 ≤ 4) (hj : 0 ≤ c.2.2.2 ∧ c.2.2.2 ≤ 4) :
    Evt (fun k _ => impl_cellSides k ((m : Int), [l0, l1, l2], [h0, h1, h2]) (dep : Int) c) (cellSides m dep [l0, l1, l2] [h0, h1, h2] [(lowV c (2 ^ dep)).1, (lowV c (2 ^ dep)).2.1, (lowV c (2 ^ dep)).2.2] [upV c.1 0 (lowV c (2 ^ dep)).1, upV c.1 1 (lowV c (2 ^ dep)).2.1, upV c.1 2 (lowV c (2 ^ dep)).2.2]) := by
  have hp := pow2 hd
  have hl := lowV_le (c := c) (s := 2 ^ dep) hi hj (by omega)
  have hu : ∀ j x : Int, 0 ≤ x ∧ x ≤ 4 → 0 ≤ upV c.1 j x ∧ upV c.1 j x ≤ 5 := by
    intro j x hx
    unfold upV
    split <;> omega
  refine Evt.eq (f := fun k q => _) ?_ (fun k q => by rw [impl_cellSides])
  obtain ⟨z, hz⟩ := lowest_eq hd k1
  refine Evt.bind (.const hz) ?_
  obtain ⟨hx, hy, hz⟩ := hl
  generalize lowV c (2 ^ dep) = low at hx hy hz ⊢
  obtain ⟨x, y, z⟩ := low
  simp only at hx hy hz ⊢
  have w1 : IntKind.wrap .i64 (0 + 1) = 1 := by decide
  have w2 : IntKind.wrap .i64 (1 + 1) = 2 := by decide
  have w3 : IntKind.wrap .i64 (2 + 1) = 3 := by decide
  have hneg : decide ((dep : Int) < 0) = false := decide_eq_false (by omega)
  have wm : IntKind.wrap .i64 ((m : Int) + dep) = ((m + dep : Nat) : Int) := by rw [w64 (by omega) (by omega), Int.natCast_add]
  have q0 : IntKind.wrap .i64 (h0 - l0) = h0 - l0 := w64 (by omega) (by omega)
  have q1 : IntKind.wrap .i64 (h1 - l1) = h1 - l1 := w64 (by omega) (by omega)
  have q2 : IntKind.wrap .i64 (h2 - l2) = h2 - l2 := w64 (by omega) (by omega)
  have len0 : impl_Box_length ((m : Int), [l0, l1, l2], [h0, h1, h2]) 0 = some (h0 - l0) := by rw [← q0]; rfl
  have len1 : impl_Box_length ((m : Int), [l0, l1, l2], [h0, h1, h2]) 1 = some (h1 - l1) := by rw [← q1]; rfl
  have len2 : impl_Box_length ((m : Int), [l0, l1, l2], [h0, h1, h2]) 2 = some (h2 - l2) := by rw [← q2]; rfl
  have fit : ∀ {l h x : Int}, (-64 ≤ l ∧ l < h ∧ h ≤ 64) → (0 ≤ x ∧ x ≤ 5) → Evt (fun k _ => impl_wide_fit k (wN (decide (l * 2 ^ dep + (h - l) * x < 0)) (l * 2 ^ dep + (h - l) * x).natAbs) (IntKind.wrap .i64 ((m : Int) + dep))) (mkD (l * 2 ^ dep + (h - l) * x) (m + dep)) := by
    intro l h x g gx
    have hb := side_bound g gx hp
    rw [wm]
    exact fitD_ev (by omega) (by omega) (by omega)
  have wide : ∀ {l h x : Int}, (-64 ≤ l ∧ l < h ∧ h ≤ 64) → (0 ≤ x ∧ x ≤ 5) → impl_wideOf (l * 2 ^ dep + (h - l) * x) = some (wN (decide (l * 2 ^ dep + (h - l) * x < 0)) (l * 2 ^ dep + (h - l) * x).natAbs) := by
    intro l h x g gx
    have hb := side_bound g gx hp
    exact wideOf_eq (by omega) (by omega)
  refine Evt.inr (y := (cellSides m dep [l0, l1, l2] [h0, h1, h2] [x, y, z] [upV c.1 0 x, upV c.1 1 y, upV c.1 2 z], ())) (Evt.diag (f := fun k n => impl_cellSides_L122 k n ((m : Int), [l0, l1, l2], [h0, h1, h2]) (dep : Int) c [] (x, y, z) 0) ?_) .pure
  refine Evt.step (fun k n => impl_cellSides_L122.eq_2 k _ _ _ _ _ _ n) (Evt.ctrue rfl (Evt.ctrue rfl (Evt.ctrue rfl (Evt.ctrue rfl (Evt.cfalse hneg (Evt.bind (.const len0) ?_))))))
  refine Evt.inr (piece_ev ((m : Int), [l0, l1, l2], [h0, h1, h2]) dep c _ (x, y, z) 0 (l := l0) (h := h0) (x := x) hd g0 (by omega) len0) ?_
  refine Evt.bind (.const (wide g0 (by omega))) (Evt.bind (fit g0 (by omega)) (Evt.bind (.const (wide g0 (hu 0 x (by omega)))) (Evt.bind (fit g0 (hu 0 x (by omega))) (Evt.ctrue rfl ?_))))
  rw [show IntKind.wrap .i64 ((0 : Int) + 1) = 1 by decide]
  refine Evt.step (fun k n => impl_cellSides_L122.eq_2 k _ _ _ _ _ _ n) (Evt.ctrue rfl (Evt.cfalse rfl (Evt.ctrue rfl (Evt.ctrue rfl (Evt.ctrue rfl (Evt.cfalse hneg (Evt.bind (.const len1) ?_)))))))
  refine Evt.inr (piece_ev ((m : Int), [l0, l1, l2], [h0, h1, h2]) dep c _ (x, y, z) 1 (l := l1) (h := h1) (x := y) hd g1 (by omega) len1) ?_
  refine Evt.bind (.const (wide g1 (by omega))) (Evt.bind (fit g1 (by omega)) (Evt.bind (.const (wide g1 (hu 1 y (by omega)))) (Evt.bind (fit g1 (hu 1 y (by omega))) (Evt.ctrue rfl ?_))))
  rw [show IntKind.wrap .i64 ((1 : Int) + 1) = 2 by decide]
  refine Evt.step (fun k n => impl_cellSides_L122.eq_2 k _ _ _ _ _ _ n) (Evt.ctrue rfl (Evt.cfalse rfl (Evt.cfalse rfl (Evt.ctrue rfl (Evt.ctrue rfl (Evt.ctrue rfl (Evt.cfalse hneg (Evt.bind (.const len2) ?_))))))))
  refine Evt.inr (piece_ev ((m : Int), [l0, l1, l2], [h0, h1, h2]) dep c _ (x, y, z) 2 (l := l2) (h := h2) (x := z) hd g2 (by omega) len2) ?_
  refine Evt.bind (.const (wide g2 (by omega))) (Evt.bind (fit g2 (by omega)) (Evt.bind (.const (wide g2 (hu 2 z (by omega)))) (Evt.bind (fit g2 (hu 2 z (by omega))) (Evt.ctrue rfl ?_))))
  rw [show IntKind.wrap .i64 ((2 : Int) + 1) = 3 by decide]
  exact Evt.step (fun k n => impl_cellSides_L122.eq_2 k _ _ _ _ _ _ n) (Evt.cfalse rfl .pure)

def csV (b : Int × List Int × List Int) (dep : Int) (c : Int × Bool × Int × Int) : List ((Int × Int) × Int × Int) × Bool :=
  if (cbV b && cellV dep c) = true then (cellSides b.1.toNat dep.toNat b.2.1 b.2.2 [(lowV c (2 ^ dep.toNat)).1, (lowV c (2 ^ dep.toNat)).2.1, (lowV c (2 ^ dep.toNat)).2.2] [upV c.1 0 (lowV c (2 ^ dep.toNat)).1, upV c.1 1 (lowV c (2 ^ dep.toNat)).2.1, upV c.1 2 (lowV c (2 ^ dep.toNat)).2.2], true) else ([], false)
theorem cellV_form {dep : Int} {c : Int × Bool × Int × Int} (h : cellV dep c = true) : ∃ n : Nat, dep = n ∧ n ≤ 2 ∧ (0 ≤ c.1 ∧ c.1 ≤ 2) ∧ (0 ≤ c.2.2.1 ∧ c.2.2.1 ≤ 4) ∧ (0 ≤ c.2.2.2 ∧ c.2.2.2 ≤ 4) := by
  unfold cellV at h
  simp only [Bool.and_eq_true, decide_eq_true_eq] at h
  obtain ⟨g1, g2, g3, g4⟩ := h
  have hp := pow2 (m := dep.toNat) (by omega)
  exact ⟨dep.toNat, by omega, by omega, g2, by omega, by omega⟩
theorem csV_len (b : Int × List Int × List Int) (dep : Int) (c : Int × Bool × Int × Int) : (csV b dep c).1.length ≤ 3 := by
  unfold csV
  split
  · unfold cellSides; split <;> simp
  · simp

theorem spec_cellSides_ev {b : Int × List Int × List Int} {dep : Int} {c : Int × Bool × Int × Int} (hb : b.2.1.length < lenB) : Evt (fun k _ => spec_CellSides k b dep c) (csV b dep c) := by
  refine Evt.eq (f := fun k q => _) ?_ (fun k q => by rw [spec_CellSides])
  refine Evt.bind (cbBox_ev hb) ?_
  unfold csV
  cases h1 : cbV b with
  | false => exact Evt.ctrue rfl .pure
  | true =>
  refine Evt.cfalse rfl (Evt.bind (.const (by rw [spec_cbDepth, l1In_eq, Option.bind_some])) ?_)
  by_cases h2 : 0 ≤ dep ∧ dep ≤ 2
  · refine Evt.cfalse (by rw [decide_eq_true h2]; rfl) ?_
    obtain ⟨n, rfl⟩ : ∃ n : Nat, dep = n := ⟨dep.toNat, by omega⟩
    refine Evt.bind (.const (cbCell_eq (by omega) c)) ?_
    cases h3 : cellV n c with
    | false => exact Evt.ctrue rfl .pure
    | true =>
      refine Evt.cfalse rfl ?_
      obtain ⟨m, l0, l1, l2, h0, h1, h2, rfl, hm, g0, g1, g2⟩ := cbV_form h1
      obtain ⟨n', e, hn, k1, k2, k3⟩ := cellV_form h3
      have : n' = n := by omega
      subst this
      simp only [Bool.and_true, if_true, Int.toNat_natCast]
      exact Evt.bind (cbSides_ev hm hn g0 g1 g2 k1 k2 k3) .pure
  · refine Evt.ctrue (by rw [decide_eq_false h2]; rfl) ?_
    have : cellV dep c = false := by unfold cellV; rw [decide_eq_false h2]; rfl
    rw [this]
    exact .pure

theorem impl_CellSides_ev {b : Int × List Int × List Int} {dep : Int} {c : Int × Bool × Int × Int} (hb : b.2.1.length < lenB) : Evt (fun k _ => impl_CellSides k b dep c) (csV b dep c) := by
  refine Evt.eq (f := fun k q => _) ?_ (fun k q => by rw [impl_CellSides])
  refine Evt.bind (isCubeBox_ev hb) ?_
  unfold csV
  cases h1 : cbV b with
  | false => exact Evt.ctrue rfl .pure
  | true =>
  refine Evt.cfalse rfl (Evt.bind (.const (isCell_eq dep c)) ?_)
  cases h3 : cellV dep c with
  | false => exact Evt.ctrue rfl .pure
  | true =>
    refine Evt.cfalse rfl ?_
    obtain ⟨m, l0, l1, l2, h0, h1, h2, rfl, hm, g0, g1, g2⟩ := cbV_form h1
    obtain ⟨n, rfl, hn, k1, k2, k3⟩ := cellV_form h3
    simp only [Bool.and_true, if_true, Int.toNat_natCast]
    exact Evt.bind (impl_cellSides_ev hm hn g0 g1 g2 k1 k2 k3) .pure

theorem markBox_ev {b : Int × List Int × List Int} {a : Nat} (h : a + b.2.1.length + b.2.2.length < lenB) : Evt (fun k _ => laws_markBox k b a) ((a + 1 * b.2.1.length + 1 * b.2.2.length : Nat) : Int) := by
  refine Evt.eq (f := fun k q => _) ?_ (fun k q => by rw [laws_markBox])
  obtain ⟨y, hy, _⟩ := markIntS_only b.2.1 a (by show a + 1 * b.2.1.length < lenB; omega)
  obtain ⟨z, hz, _⟩ := markIntS_only b.2.2 (a + 1 * b.2.1.length) (by show a + 1 * b.2.1.length + 1 * b.2.2.length < lenB; omega)
  exact Evt.bind hy (Evt.bind hz .pure)

theorem cellSides_law (b : Int × List Int × List Int) (dep : Int) (c : Int × Bool × Int × Int) (h1 : b.2.1.length ≤ maxLen) (h2 : b.2.2.length ≤ maxLen) : ∃ k, laws_FnExactCellSides k b dep c = some true := by
  refine Evt.get (Evt.eq (f := fun k q => _) ?_ (fun k q => by rw [laws_FnExactCellSides]))
  refine Evt.bind (.const (szBox_eq h1 h2 (a := 1000000) (by omega))) ?_
  by_cases hy : b.2.1.length + b.2.2.length ≤ 1000000
  · rw [if_pos hy]
    refine Evt.cfalse (by simp <;> omega) ?_
    have b1 : b.2.1.length ≤ 1000000 := by omega
    have b2 : b.2.2.length ≤ 1000000 := by omega
    have hx : b.2.1.length < lenB := by simp only [lenB]; omega
    have spec := spec_cellSides_ev (dep := dep) (c := c) hx
    have impl := impl_CellSides_ev (dep := dep) (c := c) hx
    have hl := csV_len b dep c
    have hl2 : (csV b dep c).1.length < lenB := by simp only [lenB]; omega
    obtain ⟨y, hy1, hy2, _⟩ := markIntervalS_ok (csV b dep c).1 101 (by simp only [lenB]; omega)
    have hcell : ∀ c, laws_toCell c = some c := fun _ => rfl
    refine Evt.bind (toBox_ev b1 b2) (Evt.bind (.const (hcell c)) ?_)
    simp only [boxR_eq]
    refine Evt.bind spec (Evt.bind (toBox_ev b1 b2) (Evt.bind (.const (hcell c)) ?_))
    simp only [boxR_eq]
    refine Evt.bind impl (Evt.bind (eqIntervalS_ev hl2) (Evt.cfalse rfl (Evt.cfalse (by simp) (Evt.bind (toBox_ev b1 b2) (Evt.bind (intactBox_ev b1 b2) (Evt.cfalse rfl (Evt.bind (markBox_ev (by simp only [lenB]; omega)) (Evt.cfalse (by simp <;> omega) ?_))))))))
    refine Evt.bind (eqIntervalS_ev hl2) (Evt.cfalse rfl (Evt.cfalse (by simp) (Evt.bind hy1 (Evt.bind hy2 (Evt.cfalse (by simp <;> omega) (Evt.cfalse (by simp) (Evt.bind (toBox_ev b1 b2) (Evt.bind (.const (hcell c)) ?_))))))))
    simp only [boxR_eq]
    exact Evt.bind impl (Evt.bind (eqIntervalS_ev hl2) (Evt.cfalse rfl (Evt.cfalse (by simp) (Evt.bind hy2 (Evt.cfalse (by simp <;> omega) (Evt.cfalse (by simp) .pure))))))
  · rw [if_neg hy]
    exact Evt.ctrue rfl .pure
abbrev tCell : Ty := .pair (.int .i64) (.pair .bool (.pair (.int .i64) (.int .i64)))
theorem cellSides_row (b : Int × List Int × List Int) (dep : Int) (c : Int × Bool × Int × Int) (h : WfT tBox b) (_ : WfT (.int .i64) dep) (_ : WfT tCell c) : ∃ k, laws_FnExactCellSides k b dep c = some true := cellSides_law b dep c h.2.1.1 h.2.2.1
end Go.Ev.G
