/- What the plain functions of the laws compute, for all inputs within the sizes that the theorems name. -/
import Derived.Test.YtdlpejdadikggaaQ12
set_option linter.unusedVariables false
namespace Go.Ev.G
open Go Go.Ev
set_option maxRecDepth 100000

theorem fitD_ev {n : Int} {p : Nat} (h1 : -9223372036854775808 < n) (h2 : n < 9223372036854775808) (hp : p < 9223372036854775808) : Evt (fun k _ => impl_wide_fit k (wN (decide (n < 0)) n.natAbs) (p : Int)) (mkD n p) := by
  have := fit_ev (neg := decide (n < 0)) (M := n.natAbs) (m := p) (by simp only [B64]; omega) hp
  rw [wV_of] at this
  exact this

abbrev CellSt := (Int × (List Int) × List Int) × Int × (Int × Bool × Int × Int) × (List ((Int × Int) × Int × Int)) × Int × Int × (Int × Int × Int) × Int × Unit
theorem piece_ev (x0 : Int × (List Int) × List Int) (dep : Nat) (x5 : Int × Bool × Int × Int) (x9 : List ((Int × Int) × Int × Int)) (x24 : Int × Int × Int) (i : Int) {l h x : Int} (hd : dep ≤ 2) (hl : -64 ≤ l ∧ l < h ∧ h ≤ 64) (hx : 0 ≤ x ∧ x ≤ 4) (hlen : impl_Box_length x0 i = some (h - l)) :
    Evt (fun k _ => ((bif (i != x5.1) then (Option.bind (impl_Box_length x0 i) fun r3 => some (Sum.inr (x0, (dep : Int), x5, x9, (IntKind.wrap .i64 ((IntKind.wrap .i64 (l * 2 ^ min (Int.toNat (dep : Int)) (IntKind.bits .i64))) + (IntKind.wrap .i64 (x * (h - l))))), (IntKind.wrap .i64 ((IntKind.wrap .i64 ((IntKind.wrap .i64 (l * 2 ^ min (Int.toNat (dep : Int)) (IntKind.bits .i64))) + (IntKind.wrap .i64 (x * (h - l))))) + r3)), x24, i, ()))) else some (Sum.inr (x0, (dep : Int), x5, x9, (IntKind.wrap .i64 ((IntKind.wrap .i64 (l * 2 ^ min (Int.toNat (dep : Int)) (IntKind.bits .i64))) + (IntKind.wrap .i64 (x * (h - l))))), (IntKind.wrap .i64 ((IntKind.wrap .i64 (l * 2 ^ min (Int.toNat (dep : Int)) (IntKind.bits .i64))) + (IntKind.wrap .i64 (x * (h - l))))), x24, i, ()))) : Option (List ((Int × Int) × Int × Int) ⊕ CellSt))) (.inr (x0, (dep : Int), x5, x9, l * 2 ^ dep + (h - l) * x, l * 2 ^ dep + (h - l) * upV x5.1 i x, x24, i, ())) := by
  have hp := pow2 hd
  have hb := side_bound (x := x) hl (by omega) hp
  have hb2 := side_bound (x := x + 1) hl (by omega) hp
  have e2 : (h - l) * (x + 1) = (h - l) * x + (h - l) := by rw [Int.mul_add, Int.mul_one]
  rw [min64 (by omega), Int.mul_comm x, w64 (n := l * 2 ^ dep) (by omega) (by omega), w64 (n := (h - l) * x) (by omega) (by omega), w64 (n := l * 2 ^ dep + (h - l) * x) (by omega) (by omega), hlen]
  unfold upV
  by_cases hi : i = x5.1
  · rw [if_pos hi]
    exact Evt.cfalse (by simp [hi]) .pure
  · rw [if_neg hi, e2]
    refine Evt.ctrue (by simpa using hi) (.const ?_)
    rw [Option.bind_some, w64 (by omega) (by omega), Int.add_assoc]

theorem impl_cellSides_ev {m dep : Nat} {l0 l1 l2 h0 h1 h2 : Int} {c : Int × Bool × Int × Int} (hm : m ≤ 3) (hd : dep ≤ 2) (g0 : -64 ≤ l0 ∧ l0 < h0 ∧ h0 ≤ 64) (g1 : -64 ≤ l1 ∧ l1 < h1 ∧ h1 ≤ 64) (g2 : -64 ≤ l2 ∧ l2 < h2 ∧ h2 ≤ 64)
    (k1 : 0 ≤ c.1 ∧ c.1 ≤ 2) (hi : 0 ≤ c.2.2.1 ∧ c.2.2.1 ≤ 4) (hj : 0 ≤ c.2.2.2 ∧ c.2.2.2 ≤ 4) :
    Evt (fun k _ => impl_cellSides k ((m : Int), [l0, l1, l2], [h0, h1, h2]) (dep : Int) c) (cellSides m dep [l0, l1, l2] [h0, h1, h2] [(lowV c (2 ^ dep)).1, (lowV c (2 ^ dep)).2.1, (lowV c (2 ^ dep)).2.2] [upV c.1 0 (lowV c (2 ^ dep)).1, upV c.1 1 (lowV c (2 ^ dep)).2.1, upV c.1 2 (lowV c (2 ^ dep)).2.2]) := by
  have hp := pow2 hd
  have hl := lowV_le (c := c) (s := 2 ^ dep) hi hj (by omega)
  have hu : ∀ j x : Int, 0 ≤ x ∧ x ≤ 4 → 0 ≤ upV c.1 j x ∧ upV c.1 j x ≤ 5 := by
    intro j x hx
    unfold upV
    split <;> omega
  refine Evt.eq (f := fun k q => _) ?_ (fun k q => by rw [impl_cellSides])
  obtain ⟨z, hz⟩ := lowest_eq hd k1
  refine Evt.bind (.const hz) ?_
  obtain ⟨hx, hy, hz⟩ := hl
  generalize lowV c (2 ^ dep) = low at hx hy hz ⊢
  obtain ⟨x, y, z⟩ := low
  simp only at hx hy hz ⊢
  have w1 : IntKind.wrap .i64 (0 + 1) = 1 := by decide
  have w2 : IntKind.wrap .i64 (1 + 1) = 2 := by decide
  have w3 : IntKind.wrap .i64 (2 + 1) = 3 := by decide
  have hneg : decide ((dep : Int) < 0) = false := decide_eq_false (by omega)
  have wm : IntKind.wrap .i64 ((m : Int) + dep) = ((m + dep : Nat) : Int) := by rw [w64 (by omega) (by omega), Int.natCast_add]
  have q0 : IntKind.wrap .i64 (h0 - l0) = h0 - l0 := w64 (by omega) (by omega)
  have q1 : IntKind.wrap .i64 (h1 - l1) = h1 - l1 := w64 (by omega) (by omega)
  have q2 : IntKind.wrap .i64 (h2 - l2) = h2 - l2 := w64 (by omega) (by omega)
  have len0 : impl_Box_length ((m : Int), [l0, l1, l2], [h0, h1, h2]) 0 = some (h0 - l0) := by rw [← q0]; rfl
  have len1 : impl_Box_length ((m : Int), [l0, l1, l2], [h0, h1, h2]) 1 = some (h1 - l1) := by rw [← q1]; rfl
  have len2 : impl_Box_length ((m : Int), [l0, l1, l2], [h0, h1, h2]) 2 = some (h2 - l2) := by rw [← q2]; rfl
  have fit : ∀ {l h x : Int}, (-64 ≤ l ∧ l < h ∧ h ≤ 64) → (0 ≤ x ∧ x ≤ 5) → Evt (fun k _ => impl_wide_fit k (wN (decide (l * 2 ^ dep + (h - l) * x < 0)) (l * 2 ^ dep + (h - l) * x).natAbs) (IntKind.wrap .i64 ((m : Int) + dep))) (mkD (l * 2 ^ dep + (h - l) * x) (m + dep)) := by
    intro l h x g gx
    have hb := side_bound g gx hp
    rw [wm]
    exact fitD_ev (by omega) (by omega) (by omega)
  have wide : ∀ {l h x : Int}, (-64 ≤ l ∧ l < h ∧ h ≤ 64) → (0 ≤ x ∧ x ≤ 5) → impl_wideOf (l * 2 ^ dep + (h - l) * x) = some (wN (decide (l * 2 ^ dep + (h - l) * x < 0)) (l * 2 ^ dep + (h - l) * x).natAbs) := by
    intro l h x g gx
    have hb := side_bound g gx hp
    exact wideOf_eq (by omega) (by omega)
  refine Evt.inr (y := (cellSides m dep [l0, l1, l2] [h0, h1, h2] [x, y, z] [upV c.1 0 x, upV c.1 1 y, upV c.1 2 z], ())) (Evt.diag (f := fun k n => impl_cellSides_L122 k n ((m : Int), [l0, l1, l2], [h0, h1, h2]) (dep : Int) c [] (x, y, z) 0) ?_) .pure
  refine Evt.step (fun k n => impl_cellSides_L122.eq_2 k _ _ _ _ _ _ n) (Evt.ctrue rfl (Evt.ctrue rfl (Evt.ctrue rfl (Evt.ctrue rfl (Evt.cfalse hneg (Evt.bind (.const len0) ?_))))))
  refine Evt.inr (piece_ev ((m : Int), [l0, l1, l2], [h0, h1, h2]) dep c _ (x, y, z) 0 (l := l0) (h := h0) (x := x) hd g0 (by omega) len0) ?_
  refine Evt.bind (.const (wide g0 (by omega))) (Evt.bind (fit g0 (by omega)) (Evt.bind (.const (wide g0 (hu 0 x (by omega)))) (Evt.bind (fit g0 (hu 0 x (by omega))) (Evt.ctrue rfl ?_))))
  rw [show IntKind.wrap .i64 ((0 : Int) + 1) = 1 by decide]
  refine Evt.step (fun k n => impl_cellSides_L122.eq_2 k _ _ _ _ _ _ n) (Evt.ctrue rfl (Evt.cfalse rfl (Evt.ctrue rfl (Evt.ctrue rfl (Evt.ctrue rfl (Evt.cfalse hneg (Evt.bind (.const len1) ?_)))))))
  refine Evt.inr (piece_ev ((m : Int), [l0, l1, l2], [h0, h1, h2]) dep c _ (x, y, z) 1 (l := l1) (h := h1) (x := y) hd g1 (by omega) len1) ?_
  refine Evt.bind (.const (wide g1 (by omega))) (Evt.bind (fit g1 (by omega)) (Evt.bind (.const (wide g1 (hu 1 y (by omega)))) (Evt.bind (fit g1 (hu 1 y (by omega))) (Evt.ctrue rfl ?_))))
  rw [show IntKind.wrap .i64 ((1 : Int) + 1) = 2 by decide]
  refine Evt.step (fun k n => impl_cellSides_L122.eq_2 k _ _ _ _ _ _ n) (Evt.ctrue rfl (Evt.cfalse rfl (Evt.cfalse rfl (Evt.ctrue rfl (Evt.ctrue rfl (Evt.ctrue rfl (Evt.cfalse hneg (Evt.bind (.const len2) ?_))))))))
  refine Evt.inr (piece_ev ((m : Int), [l0, l1, l2], [h0, h1, h2]) dep c _ (x, y, z) 2 (l := l2) (h := h2) (x := z) hd g2 (by omega) len2) ?_
  refine Evt.bind (.const (wide g2 (by omega))) (Evt.bind (fit g2 (by omega)) (Evt.bind (.const (wide g2 (hu 2 z (by omega)))) (Evt.bind (fit g2 (hu 2 z (by omega))) (Evt.ctrue rfl ?_))))
  rw [show IntKind.wrap .i64 ((2 : Int) + 1) = 3 by decide]
  exact Evt.step (fun k n => impl_cellSides_L122.eq_2 k _ _ _ _ _ _ n) (Evt.cfalse rfl .pure)

def csV (b : Int × List Int × List Int) (dep : Int) (c : Int × Bool × Int × Int) : List ((Int × Int) × Int × Int) × Bool :=
  if (cbV b && cellV dep c) = true then (cellSides b.1.toNat dep.toNat b.2.1 b.2.2 [(lowV c (2 ^ dep.toNat)).1, (lowV c (2 ^ dep.toNat)).2.1, (lowV c (2 ^ dep.toNat)).2.2] [upV c.1 0 (lowV c (2 ^ dep.toNat)).1, upV c.1 1 (lowV c (2 ^ dep.toNat)).2.1, upV c.1 2 (lowV c (2 ^ dep.toNat)).2.2], true) else ([], false)
theorem cellV_form {dep : Int} {c : Int × Bool × Int × Int} (h : cellV dep c = true) : ∃ n : Nat, dep = n ∧ n ≤ 2 ∧ (0 ≤ c.1 ∧ c.1 ≤ 2) ∧ (0 ≤ c.2.2.1 ∧ c.2.2.1 ≤ 4) ∧ (0 ≤ c.2.2.2 ∧ c.2.2.2 ≤ 4) := by
  unfold cellV at h
  simp only [Bool.and_eq_true, decide_eq_true_eq] at h
  obtain ⟨g1, g2, g3, g4⟩ := h
  have hp := pow2 (m := dep.toNat) (by omega)
  exact ⟨dep.toNat, by omega, by omega, g2, by omega, by omega⟩
theorem csV_len (b : Int × List Int × List Int) (dep : Int) (c : Int × Bool × Int × Int) : (csV b dep c).1.length ≤ 3 := by
  unfold csV
  split
  · unfold cellSides; split <;> simp
  · simp

theorem spec_cellSides_ev {b : Int × List Int × List Int} {dep : Int} {c : Int × Bool × Int × Int} (hb : b.2.1.length < lenB) : Evt (fun k _ => spec_CellSides k b dep c) (csV b dep c) := by
  refine Evt.eq (f := fun k q => _) ?_ (fun k q => by rw [spec_CellSides])
  refine Evt.bind (cbBox_ev hb) ?_
  unfold csV
  cases h1 : cbV b with
  | false => exact Evt.ctrue rfl .pure
  | true =>
  refine Evt.cfalse rfl (Evt.bind (.const (by rw [spec_cbDepth, l1In_eq, Option.bind_some])) ?_)
  by_cases h2 : 0 ≤ dep ∧ dep ≤ 2
  · refine Evt.cfalse (by rw [decide_eq_true h2]; rfl) ?_
    obtain ⟨n, rfl⟩ : ∃ n : Nat, dep = n := ⟨dep.toNat, by omega⟩
    refine Evt.bind (.const (cbCell_eq (by omega) c)) ?_
    cases h3 : cellV n c with
    | false => exact Evt.ctrue rfl .pure
    | true =>
      refine Evt.cfalse rfl ?_
      obtain ⟨m, l0, l1, l2, h0, h1, h2, rfl, hm, g0, g1, g2⟩ := cbV_form h1
      obtain ⟨n', e, hn, k1, k2, k3⟩ := cellV_form h3
      have : n' = n := by omega
      subst this
      simp only [Bool.and_true, if_true, Int.toNat_natCast]
      exact Evt.bind (cbSides_ev hm hn g0 g1 g2 k1 k2 k3) .pure
  · refine Evt.ctrue (by rw [decide_eq_false h2]; rfl) ?_
    have : cellV dep c = false := by unfold cellV; rw [decide_eq_false h2]; rfl
    rw [this]
    exact .pure

theorem impl_CellSides_ev {b : Int × List Int × List Int} {dep : Int} {c : Int × Bool × Int × Int} (hb : b.2.1.length < lenB) : Evt (fun k _ => impl_CellSides k b dep c) (csV b dep c) := by
  refine Evt.eq (f := fun k q => _) ?_ (fun k q => by rw [impl_CellSides])
  refine Evt.bind (isCubeBox_ev hb) ?_
  unfold csV
  cases h1 : cbV b with
  | false => exact Evt.ctrue rfl .pure
  | true =>
  refine Evt.cfalse rfl (Evt.bind (.const (isCell_eq dep c)) ?_)
  cases h3 : cellV dep c with
  | false => exact Evt.ctrue rfl .pure
  | true =>
    refine Evt.cfalse rfl ?_
    obtain ⟨m, l0, l1, l2, h0, h1, h2, rfl, hm, g0, g1, g2⟩ := cbV_form h1
    obtain ⟨n, rfl, hn, k1, k2, k3⟩ := cellV_form h3
    simp only [Bool.and_true, if_true, Int.toNat_natCast]
    exact Evt.bind (impl_cellSides_ev hm hn g0 g1 g2 k1 k2 k3) .pure

theorem markBox_ev {b : Int × List Int × List Int} {a : Nat} (h : a + b.2.1.length + b.2.2.length < lenB) : Evt (fun k _ => laws_markBox k b a) ((a + 1 * b.2.1.length + 1 * b.2.2.length : Nat) : Int) := by
  refine Evt.eq (f := fun k q => _) ?_ (fun k q => by rw [laws_markBox])
  obtain ⟨y, hy, _⟩ := markIntS_only b.2.1 a (by show a + 1 * b.2.1.length < lenB; omega)
  obtain ⟨z, hz, _⟩ := markIntS_only b.2.2 (a + 1 * b.2.1.length) (by show a + 1 * b.2.1.length + 1 * b.2.2.length < lenB; omega)
  exact Evt.bind hy (Evt.bind hz .pure)

theorem cellSides_law (b : Int × List Int × List Int) (dep : Int) (c : Int × Bool × Int × Int) (h1 : b.2.1.length ≤ maxLen) (h2 : b.2.2.length ≤ maxLen) : ∃ k, laws_FnExactCellSides k b dep c = some true := by
  refine Evt.get (Evt.eq (f := fun k q => _) ?_ (fun k q => by rw [laws_FnExactCellSides]))
  refine Evt.bind (.const (szBox_eq h1 h2 (a := 1000000) (by omega))) ?_
  by_cases hy : b.2.1.length + b.2.2.length ≤ 1000000
  · rw [if_pos hy]
    refine Evt.cfalse (by simp <;> omega) ?_
    have b1 : b.2.1.length ≤ 1000000 := by omega
    have b2 : b.2.2.length ≤ 1000000 := by omega
    have hx : b.2.1.length < lenB := by simp only [lenB]; omega
    have spec := spec_cellSides_ev (dep := dep) (c := c) hx
    have impl := impl_CellSides_ev (dep := dep) (c := c) hx
    have hl := csV_len b dep c
    have hl2 : (csV b dep c).1.length < lenB := by simp only [lenB]; omega
    obtain ⟨y, hy1, hy2, _⟩ := markIntervalS_ok (csV b dep c).1 101 (by simp only [lenB]; omega)
    have hcell : ∀ c, laws_toCell c = some c := fun _ => rfl
    refine Evt.bind (toBox_ev b1 b2) (Evt.bind (.const (hcell c)) ?_)
    simp only [boxR_eq]
    refine Evt.bind spec (Evt.bind (toBox_ev b1 b2) (Evt.bind (.const (hcell c)) ?_))
    simp only [boxR_eq]
    refine Evt.bind impl (Evt.bind (eqIntervalS_ev hl2) (Evt.cfalse rfl (Evt.cfalse (by simp) (Evt.bind (toBox_ev b1 b2) (Evt.bind (intactBox_ev b1 b2) (Evt.cfalse rfl (Evt.bind (markBox_ev (by simp only [lenB]; omega)) (Evt.cfalse (by simp <;> omega) ?_))))))))
    refine Evt.bind (eqIntervalS_ev hl2) (Evt.cfalse rfl (Evt.cfalse (by simp) (Evt.bind hy1 (Evt.bind hy2 (Evt.cfalse (by simp <;> omega) (Evt.cfalse (by simp) (Evt.bind (toBox_ev b1 b2) (Evt.bind (.const (hcell c)) ?_))))))))
    simp only [boxR_eq]
    exact Evt.bind impl (Evt.bind (eqIntervalS_ev hl2) (Evt.cfalse rfl (Evt.cfalse (by simp) (Evt.bind hy2 (Evt.cfalse (by simp <;> omega) (Evt.cfalse (by simp) .pure))))))
  · rw [if_neg hy]
    exact Evt.ctrue rfl .pure
abbrev tCell : Ty := .pair (.int .i64) (.pair .bool (.pair (.int .i64) (.int .i64)))
theorem cellSides_row (b : Int × List Int × List Int) (dep : Int) (c : Int × Bool × Int × Int) (h : WfT tBox b) (_ : WfT (.int .i64) dep) (_ : WfT tCell c) : ∃ k, laws_FnExactCellSides k b dep c = some true := cellSides_law b dep c h.2.1.1 h.2.2.1
end Go.Ev.G
