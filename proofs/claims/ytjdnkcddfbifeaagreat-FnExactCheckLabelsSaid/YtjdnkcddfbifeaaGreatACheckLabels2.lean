/- What the plain functions of the law compute, for all inputs within the sizes that the theorems name. -/
import Derived.Test.YtjdnkcddfbifeaaGreatPCheckLabels1
import Derived.Test.YtjdnkcddfbifeaaGreatACheckLabels1
set_option linter.unusedVariables false
namespace Go.Ev.G
open Go Go.Ev
set_option maxRecDepth 100000

abbrev CellSt := (Int × (List Int) × List Int) × Int × (Int × Bool × Int × Int) × (List ((Int × Int) × Int × Int)) × Int × Int × (Int × Int × Int) × Int × Unit
theorem piece_ev (x0 : Int × (List Int) × List Int) (dep : Nat) (x5 : Int × Bool × Int × Int) (x9 : List ((Int × Int) × Int × Int)) (x24 : Int × Int × Int) (i : Int) {l h x : Int} (hd : dep ≤ 2) (hl : -64 ≤ l ∧ l < h ∧ h ≤ 64) (hx : 0 ≤ x ∧ x ≤ 4) (hlen : impl_Box_length x0 i = some (h - l)) :
    Evt (fun k _ => ((bif (i != x5.1) then (Option.bind (impl_Box_length x0 i) fun r3 => some (Sum.inr (x0, (dep : Int), x5, x9, (IntKind.wrap .i64 ((IntKind.wrap .i64 (l * 2 ^ min (Int.toNat (dep : Int)) (IntKind.bits .i64))) + (IntKind.wrap .i64 (x * (h - l))))), (IntKind.wrap .i64 ((IntKind.wrap .i64 ((IntKind.wrap .i64 (l * 2 ^ min (Int.toNat (dep : Int)) (IntKind.bits .i64))) + (IntKind.wrap .i64 (x * (h - l))))) + r3)), x24, i, ()))) else some (Sum.inr (x0, (dep : Int), x5, x9, (IntKind.wrap .i64 ((IntKind.wrap .i64 (l * 2 ^ min (Int.toNat (dep : Int)) (IntKind.bits .i64))) + (IntKind.wrap .i64 (x * (h - l))))), (IntKind.wrap .i64 ((IntKind.wrap .i64 (l * 2 ^ min (Int.toNat (dep : Int)) (IntKind.bits .i64))) + (IntKind.wrap .i64 (x * (h - l))))), x24, i, ()))) : Option (List ((Int × Int) × Int × Int) ⊕ CellSt))) (.inr (x0, (dep : Int), x5, x9, l * 2 ^ dep + (h - l) * x, l * 2 ^ dep + (h - l) * upV x5.1 i x, x24, i, ())) := by
  have hp := pow2 hd
  have hb := side_bound (x := x) hl (by omega) hp
  have hb2 := side_bound (x := x + 1) hl (by omega) hp
  have e2 : (h - l) * (x + 1) = (h - l) * x + (h - l) := by rw [Int.mul_add, Int.mul_one]
  rw [min64 (by omega), Int.mul_comm x, w64 (n := l * 2 ^ dep) (by omega) (by omega), w64 (n := (h - l) * x) (by omega) (by omega), w64 (n := l * 2 ^ dep + (h - l) * x) (by omega) (by omega), hlen]
  unfold upV
  by_cases hi : i = x5.1
  · rw [if_pos hi]
    exact Evt.cfalse (by simp [hi]) .pure
  · rw [if_neg hi, e2]
    refine Evt.ctrue (by simpa using hi) (.const ?_)
    rw [Option.bind_some, w64 (by omega) (by omega), Int.add_assoc]

theorem impl_cellSides_ev {m dep : Nat} {l0 l1 l2 h0 h1 h2 : Int} {c : Int × Bool × Int × Int} (hm : m ≤ 3) (hd : dep ≤ 2) (g0 : -64 ≤ l0 ∧ l0 < h0 ∧ h0 ≤ 64) (g1 : -64 ≤ l1 ∧ l1 < h1 ∧ h1 ≤ 64) (g2 : -64 ≤ l2 ∧ l2 < h2 ∧ h2 ≤ 64)
    (k1 : 0 ≤ c.1 ∧ c.1 ≤ 2) (hi : 0 ≤ c.2.2.1 ∧ c.2.2.1 ≤ 4) (hj : 0 ≤ c.2.2.2 ∧ c.2.2.2 ≤ 4) :
    Evt (fun k _ => impl_cellSides k ((m : Int), [l0, l1, l2], [h0, h1, h2]) (dep : Int) c) (cellSides m dep [l0, l1, l2] [h0, h1, h2] [(lowV c (2 ^ dep)).1, (lowV c (2 ^ dep)).2.1, (lowV c (2 ^ dep)).2.2] [upV c.1 0 (lowV c (2 ^ dep)).1, upV c.1 1 (lowV c (2 ^ dep)).2.1, upV c.1 2 (lowV c (2 ^ dep)).2.2]) := by
  have hp := pow2 hd
  have hl := lowV_le (c := c) (s := 2 ^ dep) hi hj (by omega)
  have hu : ∀ j x : Int, 0 ≤ x ∧ x ≤ 4 → 0 ≤ upV c.1 j x ∧ upV c.1 j x ≤ 5 := by
    intro j x hx
    unfold upV
    split <;> omega
  refine Evt.eq (f := fun k q => _) ?_ (fun k q => by rw [impl_cellSides])
  obtain ⟨z, hz⟩ := lowest_eq hd k1
  refine Evt.bind (.const hz) ?_
  obtain ⟨hx, hy, hz⟩ := hl
  generalize lowV c (2 ^ dep) = low at hx hy hz ⊢
  obtain ⟨x, y, z⟩ := low
  simp only at hx hy hz ⊢
  have w1 : IntKind.wrap .i64 (0 + 1) = 1 := by decide
  have w2 : IntKind.wrap .i64 (1 + 1) = 2 := by decide
  have w3 : IntKind.wrap .i64 (2 + 1) = 3 := by decide
  have hneg : decide ((dep : Int) < 0) = false := decide_eq_false (by omega)
  have wm : IntKind.wrap .i64 ((m : Int) + dep) = ((m + dep : Nat) : Int) := by rw [w64 (by omega) (by omega), Int.natCast_add]
  have q0 : IntKind.wrap .i64 (h0 - l0) = h0 - l0 := w64 (by omega) (by omega)
  have q1 : IntKind.wrap .i64 (h1 - l1) = h1 - l1 := w64 (by omega) (by omega)
  have q2 : IntKind.wrap .i64 (h2 - l2) = h2 - l2 := w64 (by omega) (by omega)
  have len0 : impl_Box_length ((m : Int), [l0, l1, l2], [h0, h1, h2]) 0 = some (h0 - l0) := by rw [← q0]; rfl
  have len1 : impl_Box_length ((m : Int), [l0, l1, l2], [h0, h1, h2]) 1 = some (h1 - l1) := by rw [← q1]; rfl
  have len2 : impl_Box_length ((m : Int), [l0, l1, l2], [h0, h1, h2]) 2 = some (h2 - l2) := by rw [← q2]; rfl
  have fit : ∀ {l h x : Int}, (-64 ≤ l ∧ l < h ∧ h ≤ 64) → (0 ≤ x ∧ x ≤ 5) → Evt (fun k _ => impl_wide_fit k (wN (decide (l * 2 ^ dep + (h - l) * x < 0)) (l * 2 ^ dep + (h - l) * x).natAbs) (IntKind.wrap .i64 ((m : Int) + dep))) (mkD (l * 2 ^ dep + (h - l) * x) (m + dep)) := by
    intro l h x g gx
    have hb := side_bound g gx hp
    rw [wm]
    exact fitD_ev (by omega) (by omega) (by omega)
  have wide : ∀ {l h x : Int}, (-64 ≤ l ∧ l < h ∧ h ≤ 64) → (0 ≤ x ∧ x ≤ 5) → impl_wideOf (l * 2 ^ dep + (h - l) * x) = some (wN (decide (l * 2 ^ dep + (h - l) * x < 0)) (l * 2 ^ dep + (h - l) * x).natAbs) := by
    intro l h x g gx
    have hb := side_bound g gx hp
    exact wideOf_eq (by omega) (by omega)
  refine Evt.inr (y := (cellSides m dep [l0, l1, l2] [h0, h1, h2] [x, y, z] [upV c.1 0 x, upV c.1 1 y, upV c.1 2 z], ())) (Evt.diag (f := fun k n => impl_cellSides_L122 k n ((m : Int), [l0, l1, l2], [h0, h1, h2]) (dep : Int) c [] (x, y, z) 0) ?_) .pure
  refine Evt.step (fun k n => impl_cellSides_L122.eq_2 k _ _ _ _ _ _ n) (Evt.ctrue rfl (Evt.ctrue rfl (Evt.ctrue rfl (Evt.ctrue rfl (Evt.cfalse hneg (Evt.bind (.const len0) ?_))))))
  refine Evt.inr (piece_ev ((m : Int), [l0, l1, l2], [h0, h1, h2]) dep c _ (x, y, z) 0 (l := l0) (h := h0) (x := x) hd g0 (by omega) len0) ?_
  refine Evt.bind (.const (wide g0 (by omega))) (Evt.bind (fit g0 (by omega)) (Evt.bind (.const (wide g0 (hu 0 x (by omega)))) (Evt.bind (fit g0 (hu 0 x (by omega))) (Evt.ctrue rfl ?_))))
  rw [show IntKind.wrap .i64 ((0 : Int) + 1) = 1 by decide]
  refine Evt.step (fun k n => impl_cellSides_L122.eq_2 k _ _ _ _ _ _ n) (Evt.ctrue rfl (Evt.cfalse rfl (Evt.ctrue rfl (Evt.ctrue rfl (Evt.ctrue rfl (Evt.cfalse hneg (Evt.bind (.const len1) ?_)))))))
  refine Evt.inr (piece_ev ((m : Int), [l0, l1, l2], [h0, h1, h2]) dep c _ (x, y, z) 1 (l := l1) (h := h1) (x := y) hd g1 (by omega) len1) ?_
  refine Evt.bind (.const (wide g1 (by omega))) (Evt.bind (fit g1 (by omega)) (Evt.bind (.const (wide g1 (hu 1 y (by omega)))) (Evt.bind (fit g1 (hu 1 y (by omega))) (Evt.ctrue rfl ?_))))
  rw [show IntKind.wrap .i64 ((1 : Int) + 1) = 2 by decide]
  refine Evt.step (fun k n => impl_cellSides_L122.eq_2 k _ _ _ _ _ _ n) (Evt.ctrue rfl (Evt.cfalse rfl (Evt.cfalse rfl (Evt.ctrue rfl (Evt.ctrue rfl (Evt.ctrue rfl (Evt.cfalse hneg (Evt.bind (.const len2) ?_))))))))
  refine Evt.inr (piece_ev ((m : Int), [l0, l1, l2], [h0, h1, h2]) dep c _ (x, y, z) 2 (l := l2) (h := h2) (x := z) hd g2 (by omega) len2) ?_
  refine Evt.bind (.const (wide g2 (by omega))) (Evt.bind (fit g2 (by omega)) (Evt.bind (.const (wide g2 (hu 2 z (by omega)))) (Evt.bind (fit g2 (hu 2 z (by omega))) (Evt.ctrue rfl ?_))))
  rw [show IntKind.wrap .i64 ((2 : Int) + 1) = 3 by decide]
  exact Evt.step (fun k n => impl_cellSides_L122.eq_2 k _ _ _ _ _ _ n) (Evt.cfalse rfl .pure)

def csV (b : Int × List Int × List Int) (dep : Int) (c : Int × Bool × Int × Int) : List ((Int × Int) × Int × Int) × Bool :=
  if (cbV b && cellV dep c) = true then (cellSides b.1.toNat dep.toNat b.2.1 b.2.2 [(lowV c (2 ^ dep.toNat)).1, (lowV c (2 ^ dep.toNat)).2.1, (lowV c (2 ^ dep.toNat)).2.2] [upV c.1 0 (lowV c (2 ^ dep.toNat)).1, upV c.1 1 (lowV c (2 ^ dep.toNat)).2.1, upV c.1 2 (lowV c (2 ^ dep.toNat)).2.2], true) else ([], false)
theorem cellV_form {dep : Int} {c : Int × Bool × Int × Int} (h : cellV dep c = true) : ∃ n : Nat, dep = n ∧ n ≤ 2 ∧ (0 ≤ c.1 ∧ c.1 ≤ 2) ∧ (0 ≤ c.2.2.1 ∧ c.2.2.1 ≤ 4) ∧ (0 ≤ c.2.2.2 ∧ c.2.2.2 ≤ 4) := by
  unfold cellV at h
  simp only [Bool.and_eq_true, decide_eq_true_eq] at h
  obtain ⟨g1, g2, g3, g4⟩ := h
  have hp := pow2 (m := dep.toNat) (by omega)
  exact ⟨dep.toNat, by omega, by omega, g2, by omega, by omega⟩
theorem csV_len (b : Int × List Int × List Int) (dep : Int) (c : Int × Bool × Int × Int) : (csV b dep c).1.length ≤ 3 := by
  unfold csV
  split
  · unfold cellSides; split <;> simp
  · simp

end Go.Ev.G

namespace Go.Ev.G
open Go Go.Ev
set_option maxRecDepth 100000

section
variable {V : Type}
end
theorem cmp_bool {v : Bool × Bool} {f : Nat → Nat → Option Bool} {r : Bool} (h : Evt f r) : Evt (fun k n => (bif (!(v.1 == v.1)) then some false else (bif (!(v.2 == v.2)) then some false else f k n))) r := Evt.cfalse (by simp) (Evt.cfalse (by simp) h)
/-- what a plane system is asked to be -/
structure Pl (s : List (List Tm)) : Prop where
  ln : s.length = 2
  tm : ∀ p ∈ s, ∀ t ∈ p, tmW t
  lp : ∀ p ∈ s, p.length < lenB
theorem Pl.sd {s : List (List Tm)} (h : Pl s) {e : Ed} (he : EdOk e) : Sd s (sidesE e) := Sd.edge h.tm h.lp he
end Go.Ev.G

namespace Go.Ev.G
open Go Go.Ev
set_option maxRecDepth 100000

abbrev Cl := Int × Bool × Int × Int
def cellsV (n : Nat) : List Cl := [(0 : Int), 1, 2].flatMap fun s => [false, true].flatMap fun u => (List.range n).flatMap fun i : Nat => (List.range n).map fun j : Nat => (s, u, (i : Int), (j : Int))
theorem cbCells0 (k : Nat) : spec_cbCells (k + 100) 0 = some (cellsV 1) := by kernel_rfl
theorem cbCells1 (k : Nat) : spec_cbCells (k + 100) 1 = some (cellsV 2) := by kernel_rfl
theorem cbCells2 (k : Nat) : spec_cbCells (k + 100) 2 = some (cellsV 4) := by kernel_rfl
theorem surfaceCells0 (k : Nat) : impl_surfaceCells (k + 100) 0 = some (cellsV 1) := by kernel_rfl
theorem surfaceCells1 (k : Nat) : impl_surfaceCells (k + 100) 1 = some (cellsV 2) := by kernel_rfl
theorem surfaceCells2 (k : Nat) : impl_surfaceCells (k + 100) 2 = some (cellsV 4) := by kernel_rfl

theorem evt_100 {α : Type} {f : Nat → Option α} {r : α} (h : ∀ k, f (k + 100) = some r) : Evt (fun k _ => f k) r := ⟨100, fun k n hk _ => by
  obtain ⟨m, rfl⟩ : ∃ m, k = m + 100 := ⟨k - 100, by omega⟩
  exact h m⟩
theorem cbCells_ev {n : Nat} (hn : n ≤ 2) : Evt (fun k _ => spec_cbCells k n) (cellsV (2 ^ n)) := by
  rcases (by omega : n = 0 ∨ n = 1 ∨ n = 2) with rfl | rfl | rfl
  · exact evt_100 cbCells0
  · exact evt_100 cbCells1
  · exact evt_100 cbCells2
theorem surfaceCells_ev {n : Nat} (hn : n ≤ 2) : Evt (fun k _ => impl_surfaceCells k n) (cellsV (2 ^ n)) := by
  rcases (by omega : n = 0 ∨ n = 1 ∨ n = 2) with rfl | rfl | rfl
  · exact evt_100 surfaceCells0
  · exact evt_100 surfaceCells1
  · exact evt_100 surfaceCells2
theorem cellsV_len {n : Nat} (hn : n ≤ 2) : (cellsV (2 ^ n)).length = 6 * 2 ^ (2 * n) ∧ 2 ^ (2 * n) ≤ 16 := by
  rcases (by omega : n = 0 ∨ n = 1 ∨ n = 2) with rfl | rfl | rfl <;> exact ⟨rfl, by decide⟩
theorem cellsV_ok {n : Nat} (hn : n ≤ 2) : ∀ c ∈ cellsV (2 ^ n), cellV n c = true := by
  rcases (by omega : n = 0 ∨ n = 1 ∨ n = 2) with rfl | rfl | rfl <;> decide

theorem sideV_sv {m dep : Nat} {l h x y : Int} (hl : -64 ≤ l ∧ l < h ∧ h ≤ 64) (hx : 0 ≤ x ∧ x ≤ 5) (hy : 0 ≤ y ∧ y ≤ 5) (hd : dep ≤ 2) (hm : m ≤ 3) (hxy : x ≤ y) : ivGd (sideV m dep l h x, sideV m dep l h y) := by
  have hp := pow2 hd
  have b1 := side_bound (s := 2 ^ dep) hl hx hp
  have b2 := side_bound (s := 2 ^ dep) hl hy hp
  have hle : (h - l) * x ≤ (h - l) * y := Int.mul_le_mul_of_nonneg_left hxy (by omega)
  have e1 := sv_mkD (mkD_ok (n := l * 2 ^ dep + (h - l) * x) (k := m + dep) (by omega) (by omega) (by omega))
  have e2 := sv_mkD (mkD_ok (n := l * 2 ^ dep + (h - l) * y) (k := m + dep) (by omega) (by omega) (by omega))
  refine ⟨mkD_gd _ _, mkD_gd _ _, ?_⟩
  unfold sideV
  have hq : (0 : Int) < 2 ^ (m + dep) := Int.pow_pos (by decide)
  have : sv (mkD (l * 2 ^ dep + (h - l) * x) (m + dep)).1 * 2 ^ (m + dep) ≤ sv (mkD (l * 2 ^ dep + (h - l) * y) (m + dep)).1 * 2 ^ (m + dep) := by
    rw [e1, e2]
    exact Int.mul_le_mul_of_nonneg_right (by omega) (by decide)
  exact Int.le_of_mul_le_mul_right this hq
/-- what a cube's system is asked to be -/
structure Cb (s : List (List Tm)) : Prop where
  ln : s.length = 3
  tm : ∀ p ∈ s, ∀ t ∈ p, tmW t
  lp : ∀ p ∈ s, p.length < lenB
theorem low_bound {c : Cl} {n : Nat} (hn : n ≤ 2) (k1 : 0 ≤ c.1 ∧ c.1 ≤ 2) (hi : 0 ≤ c.2.2.1 ∧ c.2.2.1 ≤ 4) (hj : 0 ≤ c.2.2.2 ∧ c.2.2.2 ≤ 4) :
    (0 ≤ (lowV c (2 ^ n)).1 ∧ (lowV c (2 ^ n)).1 ≤ 4) ∧ (0 ≤ (lowV c (2 ^ n)).2.1 ∧ (lowV c (2 ^ n)).2.1 ≤ 4) ∧ (0 ≤ (lowV c (2 ^ n)).2.2 ∧ (lowV c (2 ^ n)).2.2 ≤ 4) := by
  have hp := pow2 hn
  exact lowV_le hi hj (by omega)
theorem up_bound (ax j : Int) {x : Int} (h : 0 ≤ x ∧ x ≤ 4) : (0 ≤ upV ax j x ∧ upV ax j x ≤ 5) ∧ x ≤ upV ax j x := by
  unfold upV; split <;> omega
theorem cell_sd {s : List (List Tm)} {b : Bx} {n : Nat} {c : Cl} (hs : Cb s) (hb : cbV b = true) (hc : cellV n c = true) : Sd s (csV b n c).1 := by
  obtain ⟨m, l0, l1, l2, h0, h1, h2, rfl, hm, g0, g1, g2⟩ := cbV_form hb
  obtain ⟨n', hn', hn2, k1, k2, k3⟩ := cellV_form hc
  have : n' = n := by omega
  subst this
  obtain ⟨q0, q1, q2⟩ := low_bound hn2 k1 k2 k3
  have u0 := up_bound c.1 0 q0
  have u1 := up_bound c.1 1 q1
  have u2 := up_bound c.1 2 q2
  refine ⟨?_, csV_len _ _ _, hs.tm, hs.lp⟩
  intro i hi
  unfold csV at hi
  rw [hb, hc, Bool.true_and, if_pos rfl] at hi
  simp only [Int.toNat_natCast, cellSides, List.mem_cons, List.not_mem_nil, or_false] at hi
  rcases hi with rfl | rfl | rfl
  · exact sideV_sv g0 (by omega) u0.1 hn2 hm u0.2
  · exact sideV_sv g1 (by omega) u1.1 hn2 hm u1.2
  · exact sideV_sv g2 (by omega) u2.1 hn2 hm u2.2
theorem cbSidesB_ev {b : Bx} {n : Nat} {c : Cl} (hb : cbV b = true) (hc : cellV n c = true) : Evt (fun k _ => spec_cbSides k b n c) (csV b n c).1 := by
  have hcs : (csV b n c).1 = cellSides b.1.toNat n b.2.1 b.2.2 [(lowV c (2 ^ n)).1, (lowV c (2 ^ n)).2.1, (lowV c (2 ^ n)).2.2] [upV c.1 0 (lowV c (2 ^ n)).1, upV c.1 1 (lowV c (2 ^ n)).2.1, upV c.1 2 (lowV c (2 ^ n)).2.2] := by
    unfold csV; rw [hb, hc, Bool.true_and, if_pos rfl]; simp only [Int.toNat_natCast]
  rw [hcs]
  obtain ⟨m, l0, l1, l2, h0, h1, h2, rfl, hm, g0, g1, g2⟩ := cbV_form hb
  obtain ⟨n', hn', hn2, k1, k2, k3⟩ := cellV_form hc
  have : n' = n := by omega
  subst this
  exact cbSides_ev hm hn2 g0 g1 g2 k1 k2 k3
theorem cellSidesB_ev {b : Bx} {n : Nat} {c : Cl} (hb : cbV b = true) (hc : cellV n c = true) : Evt (fun k _ => impl_cellSides k b n c) (csV b n c).1 := by
  have hcs : (csV b n c).1 = cellSides b.1.toNat n b.2.1 b.2.2 [(lowV c (2 ^ n)).1, (lowV c (2 ^ n)).2.1, (lowV c (2 ^ n)).2.2] [upV c.1 0 (lowV c (2 ^ n)).1, upV c.1 1 (lowV c (2 ^ n)).2.1, upV c.1 2 (lowV c (2 ^ n)).2.2] := by
    unfold csV; rw [hb, hc, Bool.true_and, if_pos rfl]; simp only [Int.toNat_natCast]
  rw [hcs]
  obtain ⟨m, l0, l1, l2, h0, h1, h2, rfl, hm, g0, g1, g2⟩ := cbV_form hb
  obtain ⟨n', hn', hn2, k1, k2, k3⟩ := cellV_form hc
  have : n' = n := by omega
  subst this
  exact impl_cellSides_ev hm hn2 g0 g1 g2 k1 k2 k3

theorem cbHolds_ev {s : List (List Tm)} {sides : List Iv} (h : Sd s sides) (hl : s.length = 3) {r : Nat} (hr : r < 6) : Evt (fun k _ => spec_cbHolds k s sides r) (hV 3 s sides r) := by
  refine Evt.eq (f := fun k q => _) ?_ (fun k q => by rw [spec_cbHolds])
  have e : Int.tmod (r : Int) 3 = ((r % 3 : Nat) : Int) := rfl
  rw [e]
  have hm : s.getD (r % 3) [] ∈ s := getD_in (by omega)
  refine Evt.ctrue (decide_eq_true (by omega)) (Evt.ctrue (decide_eq_true (by omega)) ?_)
  simp only [Int.toNat_natCast]
  refine Evt.bind (vaOver_ev (h.tm _ hm) h.sd (by have := h.ln; simp only [lenB]; omega) (h.lp _ hm)) ?_
  cases hv : valO (s.getD (r % 3) []) sides with
  | none =>
    have : hV 3 s sides r = false := by unfold hV; rw [hv]
    rw [this]
    exact Evt.cfalse rfl .pure
  | some v =>
    refine Evt.ctrue rfl (Evt.bind (.const (ivSign_eq (valO_iv (h.tm _ hm) hv))) ?_)
    rw [beq_tail hv (x := IntKind.wrap .i64 (1 - (IntKind.wrap .i64 (2 * (IntKind.wrap .i64 (Int.tdiv (r : Int) 3)))))) (by
      have : r = 0 ∨ r = 1 ∨ r = 2 ∨ r = 3 ∨ r = 4 ∨ r = 5 := by omega
      rcases this with rfl | rfl | rfl | rfl | rfl | rfl <;> decide)]
    exact .pure
theorem labelHolds_ev {s : List (List Tm)} {sides : List Iv} (h : Sd s sides) (hl : s.length = 3) {r : Nat} (hr : r < 6) : Evt (fun k _ => impl_labelHolds k s sides r) (hV 3 s sides r) := by
  refine Evt.eq (f := fun k q => _) ?_ (fun k q => by rw [impl_labelHolds])
  have e : Int.tmod (r : Int) 3 = ((r % 3 : Nat) : Int) := rfl
  rw [e]
  have hm : s.getD (r % 3) [] ∈ s := getD_in (by omega)
  refine Evt.bind (.const (inside_eq _ _ _)) (Evt.cfalse (by rw [decide_eq_true (by omega)]; rfl) ?_)
  refine Evt.ctrue (decide_eq_true (by omega)) (Evt.ctrue (decide_eq_true (by omega)) ?_)
  simp only [Int.toNat_natCast]
  refine Evt.bind (valueOver_ev (h.tm _ hm) h.sd h.ln (h.lp _ hm)) ?_
  cases hv : valO (s.getD (r % 3) []) sides with
  | none =>
    have : hV 3 s sides r = false := by unfold hV; rw [hv]
    rw [this]
    exact Evt.cfalse rfl .pure
  | some v =>
    refine Evt.ctrue rfl (Evt.bind (.const (signOf_eq v)) ?_)
    rw [beq_tail hv (x := IntKind.wrap .i64 (1 - (IntKind.wrap .i64 ((IntKind.wrap .i64 (Int.tdiv (r : Int) 3)) * 2)))) (by
      have : r = 0 ∨ r = 1 ∨ r = 2 ∨ r = 3 ∨ r = 4 ∨ r = 5 := by omega
      rcases this with rfl | rfl | rfl | rfl | rfl | rfl <;> decide)]
    exact .pure
theorem cbCount_eq {n : Nat} (hn : n ≤ 2) : spec_cbCount n = some (((cellsV (2 ^ n)).length : Nat) : Int) := by
  have hc := cellsV_len hn
  unfold spec_cbCount
  have e : IntKind.wrap .i64 (2 * (n : Int)) = ((2 * n : Nat) : Int) := by rw [w64 (by omega) (by omega)]; omega
  rw [e, dyPower_eq (by omega), Option.bind_some, w64 (by omega) (by omega), hc.1]
  congr 1
/-- what is asked of a system, a box and a depth -/
def askC (s : List (List Tm)) (b : Bx) (d : Int) : Bool := cubeV s b && decide (0 ≤ d ∧ d ≤ 2)
theorem cbAsked_ev {m : List (List Tm)} {b : Bx} {d : Int} (hb : m.length < lenB) (hm : ∀ r ∈ m, r.length < lenB) (hx : b.2.1.length < lenB) : Evt (fun k _ => spec_cbAsked k m b d) (askC m b d) := by
  refine Evt.eq (f := fun k q => _) ?_ (fun k q => by rw [spec_cbAsked])
  refine Evt.bind (cbGood_ev hb hm hx) ?_
  unfold askC
  cases cubeV m b with
  | false => exact Evt.cfalse rfl .pure
  | true =>
    refine Evt.ctrue rfl (Evt.bind (.const (?_ : spec_cbDepth d = some (decide (0 ≤ d ∧ d ≤ 2)))) .pure)
    unfold spec_cbDepth
    rw [l1In_eq]; rfl
theorem cubeV_form {m : List (List Tm)} {b : Bx} (h : cubeV m b = true) (hm : ∀ r ∈ m, r.length < lenB) : Cb m ∧ cbV b = true := by
  unfold cubeV at h
  simp only [Bool.and_eq_true] at h
  have := h.2.1
  simp at this
  exact ⟨⟨by omega, sysV_tm h.1, hm⟩, h.2.2⟩
theorem askC_form {m : List (List Tm)} {b : Bx} {d : Int} (h : askC m b d = true) (hm : ∀ r ∈ m, r.length < lenB) : ∃ n : Nat, d = n ∧ n ≤ 2 ∧ Cb m ∧ cbV b = true := by
  unfold askC at h
  simp only [Bool.and_eq_true] at h
  have hd := of_decide_eq_true h.2
  have := cubeV_form h.1 hm
  exact ⟨d.toNat, by omega, by omega, this.1, this.2⟩
theorem implC_ask {V : Type} {s : List (List Tm)} {b : Bx} {d : Int} {z : V} {g : Nat → Option V} {v : V} (hb : s.length < lenB) (hm : ∀ r ∈ s, r.length < lenB) (hx : b.2.1.length < lenB) (hz : askC s b d = false → v = z) (hg : askC s b d = true → Evt (fun k _ => g k) v) :
    Evt (fun k _ => (Option.bind (impl_isCube k s b) fun r1 => (bif (!r1) then some z else (Option.bind (impl_inside d 0 2) fun r2 => (bif (!r2) then some z else g k))))) v := by
  refine Evt.bind (isCube_ev hb hm hx) ?_
  unfold askC at hz hg
  cases hp : cubeV s b with
  | false =>
    rw [hp] at hz
    rw [hz rfl]
    exact Evt.ctrue rfl .pure
  | true =>
    rw [hp] at hz hg
    refine Evt.cfalse rfl (Evt.bind (.const (inside_eq d 0 2)) ?_)
    cases hd : decide (0 ≤ d ∧ d ≤ 2) with
    | false =>
      rw [hd] at hz
      rw [hz rfl]
      exact Evt.ctrue rfl .pure
    | true =>
      rw [hd] at hg
      exact Evt.cfalse rfl (hg rfl)
theorem specC_ask {V : Type} {s : List (List Tm)} {b : Bx} {d : Int} {z : V} {g : Nat → Option V} {v : V} (hb : s.length < lenB) (hm : ∀ r ∈ s, r.length < lenB) (hx : b.2.1.length < lenB) (hz : askC s b d = false → v = z) (hg : askC s b d = true → Evt (fun k _ => g k) v) :
    Evt (fun k _ => (Option.bind (spec_cbAsked k s b d) fun r1 => (bif (!r1) then some z else g k))) v := by
  refine Evt.bind (cbAsked_ev hb hm hx) ?_
  cases hp : askC s b d with
  | false => rw [hz hp]; exact Evt.ctrue rfl .pure
  | true => exact Evt.cfalse rfl (hg hp)
end Go.Ev.G

namespace Go.Ev.G
open Go Go.Ev
set_option maxRecDepth 100000

theorem szTermSS_neg {x : List (List Tm)} {a : Int} (hx : x.length ≤ 140737488351232) (h0 : a < 0) (h1 : -1000000000000000 ≤ a) : Evt (fun k _ => laws_szTermSS k x a) (-1) := by
  refine Evt.eq (f := fun k q => _) ?_ (fun k q => by rw [laws_szTermSS])
  rw [w64 (by omega) (by omega)]
  exact Evt.ctrue (decide_eq_true (by omega)) .pure
theorem frame_sbx {V : Type} {a : List (List Tm)} {b : Bx} {xs : List Int} {S I : Nat → List (List Tm) → Bx → List Int → Option V} {C : Nat → V → V → Option Bool → Option Bool} {v : V} (ha' : a.length ≤ 140737488351232) (hm : ∀ x ∈ a, x.length ≤ maxLen) (h1 : b.2.1.length ≤ maxLen) (h2 : b.2.2.length ≤ maxLen) (hxs' : xs.length ≤ 140737488351232)
    (hC : ∀ {f : Nat → Nat → Option Bool} {r : Bool}, Evt f r → Evt (fun k n => C k v v (f k n)) r)
    (hS : a.length < 274877906944 → (∀ r ∈ a, r.length < lenB) → b.2.1.length < lenB → xs.length ≤ 1000000 → Evt (fun k _ => S k a b xs) v) (hI : a.length < lenB → (∀ r ∈ a, r.length < lenB) → b.2.1.length < lenB → xs.length ≤ 1000000 → Evt (fun k _ => I k a b xs) v) :
    Evt (fun k _ => (Option.bind (laws_szTermSS k a (IntKind.wrap .i64 (1000000 - (xs.length : Int)))) fun r1 => (bif (decide (r1 < 0)) then some true else (Option.bind (laws_szBox b r1) fun r2 => (bif (decide (r2 < 0)) then some true else (Option.bind (laws_toTermSS k a false) fun r3 => (Option.bind (laws_toBox k b false) fun r4 => (Option.bind (laws_toIntS k xs false) fun r5 => (Option.bind (S k (r3.1.map fun z => z.1) (r4.1, r4.2.1.1, r4.2.2.1) r5.1) fun r6 => (Option.bind (laws_toTermSS k a false) fun r7 => (Option.bind (laws_toBox k b false) fun r8 => (Option.bind (laws_toIntS k xs false) fun r9 => (Option.bind (I k (r7.1.map fun z => z.1) (r8.1, r8.2.1.1, r8.2.2.1) r9.1) fun r10 => C k r6 r10 (Option.bind (laws_toTermSS k a false) fun r11 => (Option.bind (laws_intactTermSS k r7 r11) fun r12 => (bif (!r12) then some false else (Option.bind (laws_toBox k b false) fun r13 => (Option.bind (laws_intactBox k r8 r13) fun r14 => (bif (!r14) then some false else (Option.bind (laws_toIntS k xs false) fun r15 => (Option.bind (laws_intactIntS k r9 r15) fun r16 => (bif (!r16) then some false else (Option.bind (laws_toTermSS k a true) fun r17 => (Option.bind (laws_toBox k b true) fun r18 => (Option.bind (laws_toIntS k xs true) fun r19 => (Option.bind (I k (r17.1.map fun z => z.1) (r18.1, r18.2.1.1, r18.2.2.1) r19.1) fun r20 => C k r6 r20 (some true))))))))))))))))))))))))))) true := by
  have ha : a.length ≤ maxLen := by simp only [maxLen]; omega
  by_cases hx0 : xs.length ≤ 1000000
  · have ew : IntKind.wrap .i64 (1000000 - (xs.length : Int)) = ((1000000 - xs.length : Nat) : Int) := by rw [w64 (by omega) (by omega)]; omega
    rw [ew]
    refine Evt.bind (szTermSS_ev (a := 1000000 - xs.length) ha hm (by omega)) ?_
    by_cases hz : a.length + (a.map List.length).sum ≤ 1000000 - xs.length
    · rw [if_pos hz]
      have hs : Sized a := by unfold Sized; omega
      refine Evt.cfalse (by simp <;> omega) (Evt.bind (.const (szBox_eq h1 h2 (by omega))) ?_)
      by_cases hy : b.2.1.length + b.2.2.length ≤ 1000000 - xs.length - (a.length + (a.map List.length).sum)
      · rw [if_pos hy]
        refine Evt.cfalse (by simp <;> omega) ?_
        have b1 : b.2.1.length ≤ 1000000 := by omega
        have b2 : b.2.2.length ≤ 1000000 := by omega
        have hr : ∀ r ∈ a, r.length < lenB := fun r hr => by have := hs.row r hr; simp only [lenB]; omega
        have hl := hs.len
        have spec := hS (by omega) hr (by simp only [lenB]; omega) hx0
        have impl := hI (by simp only [lenB]; omega) hr (by simp only [lenB]; omega) hx0
        refine Evt.bind (toTermSS_ev hs.len hs.row) (Evt.bind (toBox_ev b1 b2) (Evt.bind (toIntS_ev hx0) ?_))
        simp only [toV_rows, boxR_eq, toV_fst]
        refine Evt.bind spec (Evt.bind (toTermSS_ev hs.len hs.row) (Evt.bind (toBox_ev b1 b2) (Evt.bind (toIntS_ev hx0) ?_)))
        simp only [toV_rows, boxR_eq, toV_fst]
        refine Evt.bind impl (hC (Evt.bind (toTermSS_ev hs.len hs.row) (Evt.bind (intactT_ev hs) (Evt.cfalse rfl (Evt.bind (toBox_ev b1 b2) (Evt.bind (intactBox_ev b1 b2) (Evt.cfalse rfl (Evt.bind (toIntS_ev hx0) (Evt.bind (intactIntS_ev (room_toV hx0)) (Evt.cfalse rfl (Evt.bind (toTermSS_ev hs.len hs.row) (Evt.bind (toBox_ev b1 b2) (Evt.bind (toIntS_ev hx0) ?_)))))))))))))
        simp only [toV_rows, boxR_eq, toV_fst]
        exact Evt.bind impl (hC .pure)
      · rw [if_neg hy]
        exact Evt.ctrue rfl .pure
    · rw [if_neg hz]
      exact Evt.ctrue rfl .pure
  · have ew : IntKind.wrap .i64 (1000000 - (xs.length : Int)) = 1000000 - (xs.length : Int) := w64 (by omega) (by omega)
    rw [ew]
    exact Evt.bind (szTermSS_neg ha' (by omega) (by omega)) (Evt.ctrue rfl .pure)

def okL (s : List (List Tm)) (b : Bx) (n : Nat) (p : Cl × Int) : Bool := decide (0 ≤ p.2 ∧ p.2 ≤ 5) && hV 3 s (csV b n p.1).1 p.2.toNat
def ckV (s : List (List Tm)) (b : Bx) (d : Int) (xs : List Int) : Bool × Bool := if askC s b d then (if xs.length = (cellsV (2 ^ d.toNat)).length then (((cellsV (2 ^ d.toNat)).zip xs).all (okL s b d.toNat), true) else (false, true)) else (false, false)
theorem spec_checkLabels_ev {s : List (List Tm)} {b : Bx} {d : Int} {xs : List Int} (hb : s.length < lenB) (hm : ∀ r ∈ s, r.length < lenB) (hx : b.2.1.length < lenB) (hxs : xs.length ≤ 1000000) : Evt (fun k _ => spec_CheckLabels k s b d xs) (ckV s b d xs) := by
  refine Evt.eq (f := fun k q => _) ?_ (fun k q => by rw [spec_CheckLabels])
  refine specC_ask hb hm hx (fun h => by unfold ckV; rw [h]; rfl) (fun h => ?_)
  obtain ⟨n, rfl, hn, hs, hbb⟩ := askC_form h hm
  unfold ckV
  rw [h, if_pos rfl]
  simp only [Int.toNat_natCast]
  refine Evt.bind (.const (cbCount_eq hn)) ?_
  by_cases hl : xs.length = (cellsV (2 ^ n)).length
  · rw [if_pos hl]
    have hc := cellsV_len hn
    refine Evt.cfalse (by rw [hl]; simp) (Evt.bind (cbCells_ev hn) ?_)
    have key : ∀ (r d : List Cl) (r' d' : List Int), d ++ r = cellsV (2 ^ n) → d' ++ r' = xs → d.length = d'.length → Evt (fun k m => spec_CheckLabels_L122 k m s n xs b (cellsV (2 ^ n)) ((cellsV (2 ^ n)).length : Int) d.length) (if (r.zip r').all (okL s b n) then .inr () else .inl (false, true)) := by
      intro r
      induction r with
      | nil =>
        intro d r' d' h1 h2 h3
        rw [List.append_nil] at h1
        rw [← h1]
        refine Evt.step (fun k m => spec_CheckLabels_L122.eq_2 k _ _ _ _ _ _ _ m) (Evt.rng0 ?_)
        simp only [List.zip_nil_left, List.all_nil, if_true]
        exact .pure
      | cons e r ih =>
        intro d r' d' h1 h2 h3
        have hlen : r'.length = r.length + 1 := by
          have := congrArg List.length h1
          have := congrArg List.length h2
          simp only [List.length_append, List.length_cons] at *
          omega
        match r', hlen with
        | x :: r', hlen =>
          have ge := cellsV_ok hn e (by rw [← h1]; simp)
          have ih := ih (d ++ [e]) r' (d' ++ [x]) (by simpa using h1) (by simpa using h2) (by simp [h3])
          refine Evt.step (fun k m => spec_CheckLabels_L122.eq_2 k _ _ _ _ _ _ _ m) ?_
          rw [← h1] at ih ⊢
          rw [← h2] at ih ⊢
          refine Evt.ctrue mid_lt (Evt.ctrue mid_ge (Evt.ctrue mid_lt (Evt.ctrue mid_ge (Evt.ctrue (two_lt (r := []) h3) ?_))))
          rw [mid_get, two_get h3, len_next (by rw [h1]; simp only [lenB]; omega)]
          refine Evt.bind (.const (l1In_eq _ _ _)) ?_
          rw [List.zip_cons_cons, List.all_cons]
          unfold okL
          simp only
          cases hi : decide (0 ≤ x ∧ x ≤ 5) with
          | false => exact Evt.ctrue rfl .pure
          | true =>
            have hxx := of_decide_eq_true hi
            refine Evt.cfalse rfl (Evt.bind (cbSidesB_ev hbb ge) (Evt.ctrue mid_ge (Evt.ctrue (two_lt (r := []) h3) ?_)))
            obtain ⟨j, rfl⟩ := Int.eq_ofNat_of_zero_le hxx.1
            refine Evt.bind (cbHolds_ev (cell_sd hs hbb ge) hs.ln (by omega)) ?_
            simp only [Int.toNat_natCast, Bool.true_and]
            cases hV 3 s (csV b n e).1 j with
            | false => exact Evt.ctrue rfl .pure
            | true => exact Evt.cfalse rfl ih
    have hk := key (cellsV (2 ^ n)) [] xs [] rfl rfl rfl
    simp only [List.length_nil] at hk
    cases ha : ((cellsV (2 ^ n)).zip xs).all (okL s b n) with
    | true => rw [ha, if_pos rfl] at hk; exact Evt.inr (Evt.diag hk) .pure
    | false => rw [ha, if_neg (by simp)] at hk; exact Evt.inl (Evt.diag hk) .pure
  · rw [if_neg hl]
    refine Evt.ctrue ?_ .pure
    rw [bne_iff_ne]
    omega
theorem impl_checkLabels_ev {s : List (List Tm)} {b : Bx} {d : Int} {xs : List Int} (hb : s.length < lenB) (hm : ∀ r ∈ s, r.length < lenB) (hx : b.2.1.length < lenB) (hxs : xs.length ≤ 1000000) : Evt (fun k _ => impl_CheckLabels k s b d xs) (ckV s b d xs) := by
  refine Evt.eq (f := fun k q => _) ?_ (fun k q => by rw [impl_CheckLabels])
  refine implC_ask hb hm hx (fun h => by unfold ckV; rw [h]; rfl) (fun h => ?_)
  obtain ⟨n, rfl, hn, hs, hbb⟩ := askC_form h hm
  unfold ckV
  rw [h, if_pos rfl]
  simp only [Int.toNat_natCast]
  refine Evt.bind (surfaceCells_ev hn) ?_
  by_cases hl : xs.length = (cellsV (2 ^ n)).length
  · rw [if_pos hl]
    have hc := cellsV_len hn
    refine Evt.cfalse (by rw [hl]; simp) ?_
    have key : ∀ (r d : List Cl) (r' d' : List Int), d ++ r = cellsV (2 ^ n) → d' ++ r' = xs → d.length = d'.length → Evt (fun k m => impl_CheckLabels_L250 k m s n xs b (cellsV (2 ^ n)) ((cellsV (2 ^ n)).length : Int) d.length) (if (r.zip r').all (okL s b n) then .inr () else .inl (false, true)) := by
      intro r
      induction r with
      | nil =>
        intro d r' d' h1 h2 h3
        rw [List.append_nil] at h1
        rw [← h1]
        refine Evt.step (fun k m => impl_CheckLabels_L250.eq_2 k _ _ _ _ _ _ _ m) (Evt.rng0 ?_)
        simp only [List.zip_nil_left, List.all_nil, if_true]
        exact .pure
      | cons e r ih =>
        intro d r' d' h1 h2 h3
        have hlen : r'.length = r.length + 1 := by
          have := congrArg List.length h1
          have := congrArg List.length h2
          simp only [List.length_append, List.length_cons] at *
          omega
        match r', hlen with
        | x :: r', hlen =>
          have ge := cellsV_ok hn e (by rw [← h1]; simp)
          have ih := ih (d ++ [e]) r' (d' ++ [x]) (by simpa using h1) (by simpa using h2) (by simp [h3])
          refine Evt.step (fun k m => impl_CheckLabels_L250.eq_2 k _ _ _ _ _ _ _ m) ?_
          rw [← h1] at ih ⊢
          rw [← h2] at ih ⊢
          refine Evt.ctrue mid_lt (Evt.ctrue mid_ge (Evt.ctrue mid_lt ?_))
          rw [mid_get, two_get h3, len_next (by rw [h1]; simp only [lenB]; omega)]
          refine Evt.bind (cellSidesB_ev hbb ge) (Evt.ctrue mid_ge (Evt.ctrue (two_lt (r := []) h3) ?_))
          rw [List.zip_cons_cons, List.all_cons]
          unfold okL
          simp only
          cases hi : decide (0 ≤ x ∧ x ≤ 5) with
          | false =>
            have : Evt (fun k _ => impl_labelHolds k s (csV b n e).1 x) false := by
              refine Evt.eq (f := fun k q => _) ?_ (fun k q => by rw [impl_labelHolds])
              exact Evt.bind (.const (inside_eq _ _ _)) (Evt.ctrue (by rw [hi]; rfl) .pure)
            exact Evt.bind this (Evt.ctrue rfl .pure)
          | true =>
            have hxx := of_decide_eq_true hi
            obtain ⟨j, rfl⟩ := Int.eq_ofNat_of_zero_le hxx.1
            refine Evt.bind (labelHolds_ev (cell_sd hs hbb ge) hs.ln (by omega)) ?_
            simp only [Int.toNat_natCast, Bool.true_and]
            cases hV 3 s (csV b n e).1 j with
            | false => exact Evt.ctrue rfl .pure
            | true => exact Evt.cfalse rfl ih
    have hk := key (cellsV (2 ^ n)) [] xs [] rfl rfl rfl
    simp only [List.length_nil] at hk
    cases ha : ((cellsV (2 ^ n)).zip xs).all (okL s b n) with
    | true => rw [ha, if_pos rfl] at hk; exact Evt.inr (Evt.diag hk) .pure
    | false => rw [ha, if_neg (by simp)] at hk; exact Evt.inl (Evt.diag hk) .pure
  · rw [if_neg hl]
    refine Evt.ctrue ?_ .pure
    rw [bne_iff_ne]
    omega
theorem checkLabels_row (a : List (List Tm)) (b : Bx) (d : Int) (xs : List Int) (h : WfT (.sl (.sl tTerm)) a) (hb : WfT tBox b) (_ : WfT (.int .i64) d) (_ : WfT (.sl (.int .i64)) xs) (hla : a.length ≤ 140737488351232) (hlx : xs.length ≤ 140737488351232) : ∃ k, laws_FnExactCheckLabels k a b d xs = some true :=
  Evt.get (Evt.eq (frame_sbx (S := fun k a b xs => spec_CheckLabels k a b d xs) (I := fun k a b xs => impl_CheckLabels k a b d xs) (C := fun _ r5 r8 x => (bif (!(r8.1 == r5.1)) then some false else (bif (!(r8.2 == r5.2)) then some false else x))) (v := ckV a b d xs) hla (fun x hx => (h.2 x hx).1) hb.2.1.1 hb.2.2.1 hlx cmp_bool
    (fun h1 h2 h3 h4 => spec_checkLabels_ev (by simp only [lenB]; omega) h2 h3 h4) (fun h1 h2 h3 h4 => impl_checkLabels_ev h1 h2 h3 h4)) (fun k _ => rfl))
end Go.Ev.G

