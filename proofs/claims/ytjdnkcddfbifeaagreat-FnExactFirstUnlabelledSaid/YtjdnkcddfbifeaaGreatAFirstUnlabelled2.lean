/- What the plain functions of the law compute, for all inputs within the sizes that the theorems name. -/
import Derived.Test.YtjdnkcddfbifeaaGreatPFirstUnlabelled1
import Derived.Test.YtjdnkcddfbifeaaGreatAFirstUnlabelled1
set_option linter.unusedVariables false
namespace Go.Ev.G
open Go Go.Ev
set_option maxRecDepth 100000

abbrev CellSt := (Int × (List Int) × List Int) × Int × (Int × Bool × Int × Int) × (List ((Int × Int) × Int × Int)) × Int × Int × (Int × Int × Int) × Int × Unit
theorem piece_ev (x0 : Int × (List Int) × List Int) (dep : Nat) (x5 : Int × Bool × Int × Int) (x9 : List ((Int × Int) × Int × Int)) (x24 : Int × Int × Int) (i : Int) {l h x : Int} (hd : dep ≤ 2) (hl : -64 ≤ l ∧ l < h ∧ h ≤ 64) (hx : 0 ≤ x ∧ x ≤ 4) (hlen : impl_Box_length x0 i = some (h - l)) :
    Evt (fun k _ => ((bif (i != x5.1) then (Option.bind (impl_Box_length x0 i) fun r3 => some (Sum.inr (x0, (dep : Int), x5, x9, (IntKind.wrap .i64 ((IntKind.wrap .i64 (l * 2 ^ min (Int.toNat (dep : Int)) (IntKind.bits .i64))) + (IntKind.wrap .i64 (x * (h - l))))), (IntKind.wrap .i64 ((IntKind.wrap .i64 ((IntKind.wrap .i64 (l * 2 ^ min (Int.toNat (dep : Int)) (IntKind.bits .i64))) + (IntKind.wrap .i64 (x * (h - l))))) + r3)), x24, i, ()))) else some (Sum.inr (x0, (dep : Int), x5, x9, (IntKind.wrap .i64 ((IntKind.wrap .i64 (l * 2 ^ min (Int.toNat (dep : Int)) (IntKind.bits .i64))) + (IntKind.wrap .i64 (x * (h - l))))), (IntKind.wrap .i64 ((IntKind.wrap .i64 (l * 2 ^ min (Int.toNat (dep : Int)) (IntKind.bits .i64))) + (IntKind.wrap .i64 (x * (h - l))))), x24, i, ()))) : Option (List ((Int × Int) × Int × Int) ⊕ CellSt))) (.inr (x0, (dep : Int), x5, x9, l * 2 ^ dep + (h - l) * x, l * 2 ^ dep + (h - l) * upV x5.1 i x, x24, i, ())) := by
  have hp := pow2 hd
  have hb := side_bound (x := x) hl (by omega) hp
  have hb2 := side_bound (x := x + 1) hl (by omega) hp
  have e2 : (h - l) * (x + 1) = (h - l) * x + (h - l) := by rw [Int.mul_add, Int.mul_one]
  rw [min64 (by omega), Int.mul_comm x, w64 (n := l * 2 ^ dep) (by omega) (by omega), w64 (n := (h - l) * x) (by omega) (by omega), w64 (n := l * 2 ^ dep + (h - l) * x) (by omega) (by omega), hlen]
  unfold upV
  by_cases hi : i = x5.1
  · rw [if_pos hi]
    exact Evt.cfalse (by simp [hi]) .pure
  · rw [if_neg hi, e2]
    refine Evt.ctrue (by simpa using hi) (.const ?_)
    rw [Option.bind_some, w64 (by omega) (by omega), Int.add_assoc]

theorem impl_cellSides_ev {m dep : Nat} {l0 l1 l2 h0 h1 h2 : Int} {c : Int × Bool × Int × Int} (hm : m ≤ 3) (hd : dep ≤ 2) (g0 : -64 ≤ l0 ∧ l0 < h0 ∧ h0 ≤ 64) (g1 : -64 ≤ l1 ∧ l1 < h1 ∧ h1 ≤ 64) (g2 : -64 ≤ l2 ∧ l2 < h2 ∧ h2 ≤ 64)
    (k1 : 0 ≤ c.1 ∧ c.1 ≤ 2) (hi : 0 ≤ c.2.2.1 ∧ c.2.2.1 ≤ 4) (hj : 0 ≤ c.2.2.2 ∧ c.2.2.2 ≤ 4) :
    Evt (fun k _ => impl_cellSides k ((m : Int), [l0, l1, l2], [h0, h1, h2]) (dep : Int) c) (cellSides m dep [l0, l1, l2] [h0, h1, h2] [(lowV c (2 ^ dep)).1, (lowV c (2 ^ dep)).2.1, (lowV c (2 ^ dep)).2.2] [upV c.1 0 (lowV c (2 ^ dep)).1, upV c.1 1 (lowV c (2 ^ dep)).2.1, upV c.1 2 (lowV c (2 ^ dep)).2.2]) := by
  have hp := pow2 hd
  have hl := lowV_le (c := c) (s := 2 ^ dep) hi hj (by omega)
  have hu : ∀ j x : Int, 0 ≤ x ∧ x ≤ 4 → 0 ≤ upV c.1 j x ∧ upV c.1 j x ≤ 5 := by
    intro j x hx
    unfold upV
    split <;> omega
  refine Evt.eq (f := fun k q => _) ?_ (fun k q => by rw [impl_cellSides])
  obtain ⟨z, hz⟩ := lowest_eq hd k1
  refine Evt.bind (.const hz) ?_
  obtain ⟨hx, hy, hz⟩ := hl
  generalize lowV c (2 ^ dep) = low at hx hy hz ⊢
  obtain ⟨x, y, z⟩ := low
  simp only at hx hy hz ⊢
  have w1 : IntKind.wrap .i64 (0 + 1) = 1 := by decide
  have w2 : IntKind.wrap .i64 (1 + 1) = 2 := by decide
  have w3 : IntKind.wrap .i64 (2 + 1) = 3 := by decide
  have hneg : decide ((dep : Int) < 0) = false := decide_eq_false (by omega)
  have wm : IntKind.wrap .i64 ((m : Int) + dep) = ((m + dep : Nat) : Int) := by rw [w64 (by omega) (by omega), Int.natCast_add]
  have q0 : IntKind.wrap .i64 (h0 - l0) = h0 - l0 := w64 (by omega) (by omega)
  have q1 : IntKind.wrap .i64 (h1 - l1) = h1 - l1 := w64 (by omega) (by omega)
  have q2 : IntKind.wrap .i64 (h2 - l2) = h2 - l2 := w64 (by omega) (by omega)
  have len0 : impl_Box_length ((m : Int), [l0, l1, l2], [h0, h1, h2]) 0 = some (h0 - l0) := by rw [← q0]; rfl
  have len1 : impl_Box_length ((m : Int), [l0, l1, l2], [h0, h1, h2]) 1 = some (h1 - l1) := by rw [← q1]; rfl
  have len2 : impl_Box_length ((m : Int), [l0, l1, l2], [h0, h1, h2]) 2 = some (h2 - l2) := by rw [← q2]; rfl
  have fit : ∀ {l h x : Int}, (-64 ≤ l ∧ l < h ∧ h ≤ 64) → (0 ≤ x ∧ x ≤ 5) → Evt (fun k _ => impl_wide_fit k (wN (decide (l * 2 ^ dep + (h - l) * x < 0)) (l * 2 ^ dep + (h - l) * x).natAbs) (IntKind.wrap .i64 ((m : Int) + dep))) (mkD (l * 2 ^ dep + (h - l) * x) (m + dep)) := by
    intro l h x g gx
    have hb := side_bound g gx hp
    rw [wm]
    exact fitD_ev (by omega) (by omega) (by omega)
  have wide : ∀ {l h x : Int}, (-64 ≤ l ∧ l < h ∧ h ≤ 64) → (0 ≤ x ∧ x ≤ 5) → impl_wideOf (l * 2 ^ dep + (h - l) * x) = some (wN (decide (l * 2 ^ dep + (h - l) * x < 0)) (l * 2 ^ dep + (h - l) * x).natAbs) := by
    intro l h x g gx
    have hb := side_bound g gx hp
    exact wideOf_eq (by omega) (by omega)
  refine Evt.inr (y := (cellSides m dep [l0, l1, l2] [h0, h1, h2] [x, y, z] [upV c.1 0 x, upV c.1 1 y, upV c.1 2 z], ())) (Evt.diag (f := fun k n => impl_cellSides_L122 k n ((m : Int), [l0, l1, l2], [h0, h1, h2]) (dep : Int) c [] (x, y, z) 0) ?_) .pure
  refine Evt.step (fun k n => impl_cellSides_L122.eq_2 k _ _ _ _ _ _ n) (Evt.ctrue rfl (Evt.ctrue rfl (Evt.ctrue rfl (Evt.ctrue rfl (Evt.cfalse hneg (Evt.bind (.const len0) ?_))))))
  refine Evt.inr (piece_ev ((m : Int), [l0, l1, l2], [h0, h1, h2]) dep c _ (x, y, z) 0 (l := l0) (h := h0) (x := x) hd g0 (by omega) len0) ?_
  refine Evt.bind (.const (wide g0 (by omega))) (Evt.bind (fit g0 (by omega)) (Evt.bind (.const (wide g0 (hu 0 x (by omega)))) (Evt.bind (fit g0 (hu 0 x (by omega))) (Evt.ctrue rfl ?_))))
  rw [show IntKind.wrap .i64 ((0 : Int) + 1) = 1 by decide]
  refine Evt.step (fun k n => impl_cellSides_L122.eq_2 k _ _ _ _ _ _ n) (Evt.ctrue rfl (Evt.cfalse rfl (Evt.ctrue rfl (Evt.ctrue rfl (Evt.ctrue rfl (Evt.cfalse hneg (Evt.bind (.const len1) ?_)))))))
  refine Evt.inr (piece_ev ((m : Int), [l0, l1, l2], [h0, h1, h2]) dep c _ (x, y, z) 1 (l := l1) (h := h1) (x := y) hd g1 (by omega) len1) ?_
  refine Evt.bind (.const (wide g1 (by omega))) (Evt.bind (fit g1 (by omega)) (Evt.bind (.const (wide g1 (hu 1 y (by omega)))) (Evt.bind (fit g1 (hu 1 y (by omega))) (Evt.ctrue rfl ?_))))
  rw [show IntKind.wrap .i64 ((1 : Int) + 1) = 2 by decide]
  refine Evt.step (fun k n => impl_cellSides_L122.eq_2 k _ _ _ _ _ _ n) (Evt.ctrue rfl (Evt.cfalse rfl (Evt.cfalse rfl (Evt.ctrue rfl (Evt.ctrue rfl (Evt.ctrue rfl (Evt.cfalse hneg (Evt.bind (.const len2) ?_))))))))
  refine Evt.inr (piece_ev ((m : Int), [l0, l1, l2], [h0, h1, h2]) dep c _ (x, y, z) 2 (l := l2) (h := h2) (x := z) hd g2 (by omega) len2) ?_
  refine Evt.bind (.const (wide g2 (by omega))) (Evt.bind (fit g2 (by omega)) (Evt.bind (.const (wide g2 (hu 2 z (by omega)))) (Evt.bind (fit g2 (hu 2 z (by omega))) (Evt.ctrue rfl ?_))))
  rw [show IntKind.wrap .i64 ((2 : Int) + 1) = 3 by decide]
  exact Evt.step (fun k n => impl_cellSides_L122.eq_2 k _ _ _ _ _ _ n) (Evt.cfalse rfl .pure)

def csV (b : Int × List Int × List Int) (dep : Int) (c : Int × Bool × Int × Int) : List ((Int × Int) × Int × Int) × Bool :=
  if (cbV b && cellV dep c) = true then (cellSides b.1.toNat dep.toNat b.2.1 b.2.2 [(lowV c (2 ^ dep.toNat)).1, (lowV c (2 ^ dep.toNat)).2.1, (lowV c (2 ^ dep.toNat)).2.2] [upV c.1 0 (lowV c (2 ^ dep.toNat)).1, upV c.1 1 (lowV c (2 ^ dep.toNat)).2.1, upV c.1 2 (lowV c (2 ^ dep.toNat)).2.2], true) else ([], false)
theorem cellV_form {dep : Int} {c : Int × Bool × Int × Int} (h : cellV dep c = true) : ∃ n : Nat, dep = n ∧ n ≤ 2 ∧ (0 ≤ c.1 ∧ c.1 ≤ 2) ∧ (0 ≤ c.2.2.1 ∧ c.2.2.1 ≤ 4) ∧ (0 ≤ c.2.2.2 ∧ c.2.2.2 ≤ 4) := by
  unfold cellV at h
  simp only [Bool.and_eq_true, decide_eq_true_eq] at h
  obtain ⟨g1, g2, g3, g4⟩ := h
  have hp := pow2 (m := dep.toNat) (by omega)
  exact ⟨dep.toNat, by omega, by omega, g2, by omega, by omega⟩
theorem csV_len (b : Int × List Int × List Int) (dep : Int) (c : Int × Bool × Int × Int) : (csV b dep c).1.length ≤ 3 := by
  unfold csV
  split
  · unfold cellSides; split <;> simp
  · simp

end Go.Ev.G

namespace Go.Ev.G
open Go Go.Ev
set_option maxRecDepth 100000

section
variable {V : Type}
theorem frame_sb {a : List (List Tm)} {b : Bx} {S I : Nat → List (List Tm) → Bx → Option V} {C : Nat → V → V → Option Bool → Option Bool} {v : V} (ha : a.length ≤ maxLen) (hm : ∀ x ∈ a, x.length ≤ maxLen) (h1 : b.2.1.length ≤ maxLen) (h2 : b.2.2.length ≤ maxLen)
    (hC : ∀ {f : Nat → Nat → Option Bool} {r : Bool}, Evt f r → Evt (fun k n => C k v v (f k n)) r)
    (hS : a.length < 274877906944 → (∀ r ∈ a, r.length < lenB) → b.2.1.length < lenB → Evt (fun k _ => S k a b) v) (hI : a.length < lenB → (∀ r ∈ a, r.length < lenB) → b.2.1.length < lenB → Evt (fun k _ => I k a b) v) :
    Evt (fun k _ => (Option.bind (laws_szTermSS k a 1000000) fun r1 => (bif (decide (r1 < 0)) then some true else (Option.bind (laws_szBox b r1) fun r2 => (bif (decide (r2 < 0)) then some true else (Option.bind (laws_toTermSS k a false) fun r3 => (Option.bind (laws_toBox k b false) fun r4 => (Option.bind (S k (r3.1.map fun z => z.1) (r4.1, r4.2.1.1, r4.2.2.1)) fun r5 => (Option.bind (laws_toTermSS k a false) fun r6 => (Option.bind (laws_toBox k b false) fun r7 => (Option.bind (I k (r6.1.map fun z => z.1) (r7.1, r7.2.1.1, r7.2.2.1)) fun r8 => C k r5 r8 (Option.bind (laws_toTermSS k a false) fun r9 => (Option.bind (laws_intactTermSS k r6 r9) fun r10 => (bif (!r10) then some false else (Option.bind (laws_toBox k b false) fun r11 => (Option.bind (laws_intactBox k r7 r11) fun r12 => (bif (!r12) then some false else (Option.bind (laws_toTermSS k a true) fun r13 => (Option.bind (laws_toBox k b true) fun r14 => (Option.bind (I k (r13.1.map fun z => z.1) (r14.1, r14.2.1.1, r14.2.2.1)) fun r15 => C k r5 r15 (some true))))))))))))))))))))) true := by
  refine Evt.bind (szTermSS_ev (a := 1000000) ha hm (by omega)) ?_
  by_cases hz : a.length + (a.map List.length).sum ≤ 1000000
  · rw [if_pos hz]
    have hs : Sized a := hz
    refine Evt.cfalse (by simp <;> omega) (Evt.bind (.const (szBox_eq h1 h2 (by omega))) ?_)
    by_cases hy : b.2.1.length + b.2.2.length ≤ 1000000 - (a.length + (a.map List.length).sum)
    · rw [if_pos hy]
      refine Evt.cfalse (by simp <;> omega) ?_
      have b1 : b.2.1.length ≤ 1000000 := by omega
      have b2 : b.2.2.length ≤ 1000000 := by omega
      have hr : ∀ r ∈ a, r.length < lenB := fun r hr => by have := hs.row r hr; simp only [lenB]; omega
      have hl := hs.len
      have spec := hS (by omega) hr (by simp only [lenB]; omega)
      have impl := hI (by simp only [lenB]; omega) hr (by simp only [lenB]; omega)
      refine Evt.bind (toTermSS_ev hs.len hs.row) (Evt.bind (toBox_ev b1 b2) ?_)
      simp only [toV_rows, boxR_eq]
      refine Evt.bind spec (Evt.bind (toTermSS_ev hs.len hs.row) (Evt.bind (toBox_ev b1 b2) ?_))
      simp only [toV_rows, boxR_eq]
      refine Evt.bind impl (hC (Evt.bind (toTermSS_ev hs.len hs.row) (Evt.bind (intactT_ev hs) (Evt.cfalse rfl (Evt.bind (toBox_ev b1 b2) (Evt.bind (intactBox_ev b1 b2) (Evt.cfalse rfl (Evt.bind (toTermSS_ev hs.len hs.row) (Evt.bind (toBox_ev b1 b2) ?_)))))))))
      simp only [toV_rows, boxR_eq]
      exact Evt.bind impl (hC .pure)
    · rw [if_neg hy]
      exact Evt.ctrue rfl .pure
  · rw [if_neg hz]
    exact Evt.ctrue rfl .pure
end
theorem cmp_int {v : Int × Bool} {f : Nat → Nat → Option Bool} {r : Bool} (h : Evt f r) : Evt (fun k n => (bif (v.1 != v.1) then some false else (bif (!(v.2 == v.2)) then some false else f k n))) r := Evt.cfalse (by simp) (Evt.cfalse (by simp) h)
/-- what a plane system is asked to be -/
structure Pl (s : List (List Tm)) : Prop where
  ln : s.length = 2
  tm : ∀ p ∈ s, ∀ t ∈ p, tmW t
  lp : ∀ p ∈ s, p.length < lenB
theorem Pl.sd {s : List (List Tm)} (h : Pl s) {e : Ed} (he : EdOk e) : Sd s (sidesE e) := Sd.edge h.tm h.lp he
end Go.Ev.G

namespace Go.Ev.G
open Go Go.Ev
set_option maxRecDepth 100000

abbrev Cl := Int × Bool × Int × Int
def cellsV (n : Nat) : List Cl := [(0 : Int), 1, 2].flatMap fun s => [false, true].flatMap fun u => (List.range n).flatMap fun i : Nat => (List.range n).map fun j : Nat => (s, u, (i : Int), (j : Int))
theorem cbCells0 (k : Nat) : spec_cbCells (k + 100) 0 = some (cellsV 1) := by kernel_rfl
theorem cbCells1 (k : Nat) : spec_cbCells (k + 100) 1 = some (cellsV 2) := by kernel_rfl
theorem cbCells2 (k : Nat) : spec_cbCells (k + 100) 2 = some (cellsV 4) := by kernel_rfl
theorem surfaceCells0 (k : Nat) : impl_surfaceCells (k + 100) 0 = some (cellsV 1) := by kernel_rfl
theorem surfaceCells1 (k : Nat) : impl_surfaceCells (k + 100) 1 = some (cellsV 2) := by kernel_rfl
theorem surfaceCells2 (k : Nat) : impl_surfaceCells (k + 100) 2 = some (cellsV 4) := by kernel_rfl

theorem evt_100 {α : Type} {f : Nat → Option α} {r : α} (h : ∀ k, f (k + 100) = some r) : Evt (fun k _ => f k) r := ⟨100, fun k n hk _ => by
  obtain ⟨m, rfl⟩ : ∃ m, k = m + 100 := ⟨k - 100, by omega⟩
  exact h m⟩
theorem cbCells_ev {n : Nat} (hn : n ≤ 2) : Evt (fun k _ => spec_cbCells k n) (cellsV (2 ^ n)) := by
  rcases (by omega : n = 0 ∨ n = 1 ∨ n = 2) with rfl | rfl | rfl
  · exact evt_100 cbCells0
  · exact evt_100 cbCells1
  · exact evt_100 cbCells2
theorem surfaceCells_ev {n : Nat} (hn : n ≤ 2) : Evt (fun k _ => impl_surfaceCells k n) (cellsV (2 ^ n)) := by
  rcases (by omega : n = 0 ∨ n = 1 ∨ n = 2) with rfl | rfl | rfl
  · exact evt_100 surfaceCells0
  · exact evt_100 surfaceCells1
  · exact evt_100 surfaceCells2
theorem cellsV_len {n : Nat} (hn : n ≤ 2) : (cellsV (2 ^ n)).length = 6 * 2 ^ (2 * n) ∧ 2 ^ (2 * n) ≤ 16 := by
  rcases (by omega : n = 0 ∨ n = 1 ∨ n = 2) with rfl | rfl | rfl <;> exact ⟨rfl, by decide⟩
theorem cellsV_ok {n : Nat} (hn : n ≤ 2) : ∀ c ∈ cellsV (2 ^ n), cellV n c = true := by
  rcases (by omega : n = 0 ∨ n = 1 ∨ n = 2) with rfl | rfl | rfl <;> decide

theorem sideV_sv {m dep : Nat} {l h x y : Int} (hl : -64 ≤ l ∧ l < h ∧ h ≤ 64) (hx : 0 ≤ x ∧ x ≤ 5) (hy : 0 ≤ y ∧ y ≤ 5) (hd : dep ≤ 2) (hm : m ≤ 3) (hxy : x ≤ y) : ivGd (sideV m dep l h x, sideV m dep l h y) := by
  have hp := pow2 hd
  have b1 := side_bound (s := 2 ^ dep) hl hx hp
  have b2 := side_bound (s := 2 ^ dep) hl hy hp
  have hle : (h - l) * x ≤ (h - l) * y := Int.mul_le_mul_of_nonneg_left hxy (by omega)
  have e1 := sv_mkD (mkD_ok (n := l * 2 ^ dep + (h - l) * x) (k := m + dep) (by omega) (by omega) (by omega))
  have e2 := sv_mkD (mkD_ok (n := l * 2 ^ dep + (h - l) * y) (k := m + dep) (by omega) (by omega) (by omega))
  refine ⟨mkD_gd _ _, mkD_gd _ _, ?_⟩
  unfold sideV
  have hq : (0 : Int) < 2 ^ (m + dep) := Int.pow_pos (by decide)
  have : sv (mkD (l * 2 ^ dep + (h - l) * x) (m + dep)).1 * 2 ^ (m + dep) ≤ sv (mkD (l * 2 ^ dep + (h - l) * y) (m + dep)).1 * 2 ^ (m + dep) := by
    rw [e1, e2]
    exact Int.mul_le_mul_of_nonneg_right (by omega) (by decide)
  exact Int.le_of_mul_le_mul_right this hq
/-- what a cube's system is asked to be -/
structure Cb (s : List (List Tm)) : Prop where
  ln : s.length = 3
  tm : ∀ p ∈ s, ∀ t ∈ p, tmW t
  lp : ∀ p ∈ s, p.length < lenB
theorem low_bound {c : Cl} {n : Nat} (hn : n ≤ 2) (k1 : 0 ≤ c.1 ∧ c.1 ≤ 2) (hi : 0 ≤ c.2.2.1 ∧ c.2.2.1 ≤ 4) (hj : 0 ≤ c.2.2.2 ∧ c.2.2.2 ≤ 4) :
    (0 ≤ (lowV c (2 ^ n)).1 ∧ (lowV c (2 ^ n)).1 ≤ 4) ∧ (0 ≤ (lowV c (2 ^ n)).2.1 ∧ (lowV c (2 ^ n)).2.1 ≤ 4) ∧ (0 ≤ (lowV c (2 ^ n)).2.2 ∧ (lowV c (2 ^ n)).2.2 ≤ 4) := by
  have hp := pow2 hn
  exact lowV_le hi hj (by omega)
theorem up_bound (ax j : Int) {x : Int} (h : 0 ≤ x ∧ x ≤ 4) : (0 ≤ upV ax j x ∧ upV ax j x ≤ 5) ∧ x ≤ upV ax j x := by
  unfold upV; split <;> omega
theorem cell_sd {s : List (List Tm)} {b : Bx} {n : Nat} {c : Cl} (hs : Cb s) (hb : cbV b = true) (hc : cellV n c = true) : Sd s (csV b n c).1 := by
  obtain ⟨m, l0, l1, l2, h0, h1, h2, rfl, hm, g0, g1, g2⟩ := cbV_form hb
  obtain ⟨n', hn', hn2, k1, k2, k3⟩ := cellV_form hc
  have : n' = n := by omega
  subst this
  obtain ⟨q0, q1, q2⟩ := low_bound hn2 k1 k2 k3
  have u0 := up_bound c.1 0 q0
  have u1 := up_bound c.1 1 q1
  have u2 := up_bound c.1 2 q2
  refine ⟨?_, csV_len _ _ _, hs.tm, hs.lp⟩
  intro i hi
  unfold csV at hi
  rw [hb, hc, Bool.true_and, if_pos rfl] at hi
  simp only [Int.toNat_natCast, cellSides, List.mem_cons, List.not_mem_nil, or_false] at hi
  rcases hi with rfl | rfl | rfl
  · exact sideV_sv g0 (by omega) u0.1 hn2 hm u0.2
  · exact sideV_sv g1 (by omega) u1.1 hn2 hm u1.2
  · exact sideV_sv g2 (by omega) u2.1 hn2 hm u2.2
theorem cbSidesB_ev {b : Bx} {n : Nat} {c : Cl} (hb : cbV b = true) (hc : cellV n c = true) : Evt (fun k _ => spec_cbSides k b n c) (csV b n c).1 := by
  have hcs : (csV b n c).1 = cellSides b.1.toNat n b.2.1 b.2.2 [(lowV c (2 ^ n)).1, (lowV c (2 ^ n)).2.1, (lowV c (2 ^ n)).2.2] [upV c.1 0 (lowV c (2 ^ n)).1, upV c.1 1 (lowV c (2 ^ n)).2.1, upV c.1 2 (lowV c (2 ^ n)).2.2] := by
    unfold csV; rw [hb, hc, Bool.true_and, if_pos rfl]; simp only [Int.toNat_natCast]
  rw [hcs]
  obtain ⟨m, l0, l1, l2, h0, h1, h2, rfl, hm, g0, g1, g2⟩ := cbV_form hb
  obtain ⟨n', hn', hn2, k1, k2, k3⟩ := cellV_form hc
  have : n' = n := by omega
  subst this
  exact cbSides_ev hm hn2 g0 g1 g2 k1 k2 k3
theorem cellSidesB_ev {b : Bx} {n : Nat} {c : Cl} (hb : cbV b = true) (hc : cellV n c = true) : Evt (fun k _ => impl_cellSides k b n c) (csV b n c).1 := by
  have hcs : (csV b n c).1 = cellSides b.1.toNat n b.2.1 b.2.2 [(lowV c (2 ^ n)).1, (lowV c (2 ^ n)).2.1, (lowV c (2 ^ n)).2.2] [upV c.1 0 (lowV c (2 ^ n)).1, upV c.1 1 (lowV c (2 ^ n)).2.1, upV c.1 2 (lowV c (2 ^ n)).2.2] := by
    unfold csV; rw [hb, hc, Bool.true_and, if_pos rfl]; simp only [Int.toNat_natCast]
  rw [hcs]
  obtain ⟨m, l0, l1, l2, h0, h1, h2, rfl, hm, g0, g1, g2⟩ := cbV_form hb
  obtain ⟨n', hn', hn2, k1, k2, k3⟩ := cellV_form hc
  have : n' = n := by omega
  subst this
  exact impl_cellSides_ev hm hn2 g0 g1 g2 k1 k2 k3

theorem cbHolds_ev {s : List (List Tm)} {sides : List Iv} (h : Sd s sides) (hl : s.length = 3) {r : Nat} (hr : r < 6) : Evt (fun k _ => spec_cbHolds k s sides r) (hV 3 s sides r) := by
  refine Evt.eq (f := fun k q => _) ?_ (fun k q => by rw [spec_cbHolds])
  have e : Int.tmod (r : Int) 3 = ((r % 3 : Nat) : Int) := rfl
  rw [e]
  have hm : s.getD (r % 3) [] ∈ s := getD_in (by omega)
  refine Evt.ctrue (decide_eq_true (by omega)) (Evt.ctrue (decide_eq_true (by omega)) ?_)
  simp only [Int.toNat_natCast]
  refine Evt.bind (vaOver_ev (h.tm _ hm) h.sd (by have := h.ln; simp only [lenB]; omega) (h.lp _ hm)) ?_
  cases hv : valO (s.getD (r % 3) []) sides with
  | none =>
    have : hV 3 s sides r = false := by unfold hV; rw [hv]
    rw [this]
    exact Evt.cfalse rfl .pure
  | some v =>
    refine Evt.ctrue rfl (Evt.bind (.const (ivSign_eq (valO_iv (h.tm _ hm) hv))) ?_)
    rw [beq_tail hv (x := IntKind.wrap .i64 (1 - (IntKind.wrap .i64 (2 * (IntKind.wrap .i64 (Int.tdiv (r : Int) 3)))))) (by
      have : r = 0 ∨ r = 1 ∨ r = 2 ∨ r = 3 ∨ r = 4 ∨ r = 5 := by omega
      rcases this with rfl | rfl | rfl | rfl | rfl | rfl <;> decide)]
    exact .pure
theorem labelHolds_ev {s : List (List Tm)} {sides : List Iv} (h : Sd s sides) (hl : s.length = 3) {r : Nat} (hr : r < 6) : Evt (fun k _ => impl_labelHolds k s sides r) (hV 3 s sides r) := by
  refine Evt.eq (f := fun k q => _) ?_ (fun k q => by rw [impl_labelHolds])
  have e : Int.tmod (r : Int) 3 = ((r % 3 : Nat) : Int) := rfl
  rw [e]
  have hm : s.getD (r % 3) [] ∈ s := getD_in (by omega)
  refine Evt.bind (.const (inside_eq _ _ _)) (Evt.cfalse (by rw [decide_eq_true (by omega)]; rfl) ?_)
  refine Evt.ctrue (decide_eq_true (by omega)) (Evt.ctrue (decide_eq_true (by omega)) ?_)
  simp only [Int.toNat_natCast]
  refine Evt.bind (valueOver_ev (h.tm _ hm) h.sd h.ln (h.lp _ hm)) ?_
  cases hv : valO (s.getD (r % 3) []) sides with
  | none =>
    have : hV 3 s sides r = false := by unfold hV; rw [hv]
    rw [this]
    exact Evt.cfalse rfl .pure
  | some v =>
    refine Evt.ctrue rfl (Evt.bind (.const (signOf_eq v)) ?_)
    rw [beq_tail hv (x := IntKind.wrap .i64 (1 - (IntKind.wrap .i64 ((IntKind.wrap .i64 (Int.tdiv (r : Int) 3)) * 2)))) (by
      have : r = 0 ∨ r = 1 ∨ r = 2 ∨ r = 3 ∨ r = 4 ∨ r = 5 := by omega
      rcases this with rfl | rfl | rfl | rfl | rfl | rfl <;> decide)]
    exact .pure
def lbl (s : List (List Tm)) (b : Bx) (n : Nat) (c : Cl) : Option Nat := (List.range 6).find? (hV 3 s (csV b n c).1)
theorem cbLabel_ev {s : List (List Tm)} {b : Bx} {n : Nat} {c : Cl} (hs : Cb s) (hb : cbV b = true) (hc : cellV n c = true) : Evt (fun k _ => spec_cbLabel k s (csV b n c).1) (match lbl s b n c with | some j => ((j : Int), true) | none => (0, false)) := by
  refine Evt.eq (f := fun k q => _) ?_ (fun k q => by rw [spec_cbLabel])
  have h := cell_sd hs hb hc
  have := find_loop (L := fun k m i => spec_cbLabel_L26 k m s (csV b n c).1 i) (p := fun k i => spec_cbHolds k s (csV b n c).1 i) (out := fun j => ((j : Int), true)) (N := 6) (P := hV 3 s (csV b n c).1) (by omega) (fun j hj => cbHolds_ev h hs.ln hj)
    (fun k m i hi => by rw [spec_cbLabel_L26.eq_2, decide_eq_true (by omega)]; rfl) (fun k m => by rw [spec_cbLabel_L26.eq_2]; rfl)
  unfold lbl
  cases hf : (List.range 6).find? (hV 3 s (csV b n c).1) with
  | none => rw [hf] at this; exact Evt.inr (Evt.diag this) .pure
  | some j => rw [hf] at this; exact Evt.inl (Evt.diag this) .pure
theorem cellLabel_ev {s : List (List Tm)} {b : Bx} {n : Nat} {c : Cl} (hs : Cb s) (hb : cbV b = true) (hc : cellV n c = true) : Evt (fun k _ => impl_cellLabel k s b n c) (match lbl s b n c with | some j => (j : Int) | none => -1) := by
  refine Evt.eq (f := fun k q => _) ?_ (fun k q => by rw [impl_cellLabel])
  have h := cell_sd hs hb hc
  refine Evt.bind (cellSidesB_ev hb hc) ?_
  have := find_loop (L := fun k m i => impl_cellLabel_L58 k m s (csV b n c).1 i) (p := fun k i => impl_labelHolds k s (csV b n c).1 i) (out := fun j => (j : Int)) (N := 6) (P := hV 3 s (csV b n c).1) (by omega) (fun j hj => labelHolds_ev h hs.ln hj)
    (fun k m i hi => by rw [impl_cellLabel_L58.eq_2, decide_eq_true (by omega)]; rfl) (fun k m => by rw [impl_cellLabel_L58.eq_2]; rfl)
  unfold lbl
  cases hf : (List.range 6).find? (hV 3 s (csV b n c).1) with
  | none => rw [hf] at this; exact Evt.inr (Evt.diag this) .pure
  | some j => rw [hf] at this; exact Evt.inl (Evt.diag this) .pure

def colV {α : Type} (f : α → Option Nat) : List α → List Int × Bool
  | [] => ([], true)
  | e :: r => match f e with
    | some j => ((j : Int) :: (colV f r).1, (colV f r).2)
    | none => ([], false)
theorem colV_len {α : Type} {f : α → Option Nat} : ∀ (es : List α), (colV f es).1.length ≤ es.length ∧ ((colV f es).2 = true ↔ (colV f es).1.length = es.length)
  | [] => by simp [colV]
  | e :: r => by
    have := colV_len (f := f) r
    unfold colV
    cases f e with
    | none => simp
    | some j =>
      simp only [List.length_cons]
      exact ⟨by omega, by rw [this.2]; omega⟩
theorem colV_index {α : Type} {f : α → Option Nat} : ∀ (es : List α), (match es.findIdx? (fun e => (f e).isNone) with | some j => (j : Int) | none => -1) = (if (colV f es).2 then -1 else ((colV f es).1.length : Int))
  | [] => rfl
  | e :: r => by
    have ih := colV_index (f := f) r
    rw [List.findIdx?_cons]
    unfold colV
    cases hj : f e with
    | none => rfl
    | some j =>
      simp only [Option.isNone_some, Bool.false_eq_true, if_false, List.length_cons]
      cases hi : r.findIdx? (fun e => (f e).isNone) with
      | none =>
        rw [hi] at ih
        change (-1 : Int) = _ at ih
        show (-1 : Int) = _
        split at ih
        · rename_i h; rw [if_pos h]
        · omega
      | some i =>
        rw [hi] at ih
        change (i : Int) = _ at ih
        show ((i + 1 : Nat) : Int) = _
        split at ih
        · omega
        · rename_i h; rw [if_neg h]; omega
theorem cbLabels_loop {s : List (List Tm)} {b : Bx} {n : Nat} (hs : Cb s) (hb : cbV b = true) {es : List Cl} (he : ∀ c ∈ es, cellV n c = true) (hl : es.length ≤ 1000) : ∀ (r d : List Cl) (acc : List Int), d ++ r = es → acc.length = d.length →
    Evt (fun k m => spec_cbLabels_L58 k m s n b acc es (es.length : Int) d.length) (if (colV (lbl s b n) r).2 then .inr (acc ++ (colV (lbl s b n) r).1, ()) else .inl (acc ++ (colV (lbl s b n) r).1))
  | [], d, acc, hd, _ => by
    rw [List.append_nil] at hd
    subst hd
    refine Evt.step (fun k m => spec_cbLabels_L58.eq_2 k _ _ _ _ _ _ _ m) (Evt.rng0 ?_)
    simp only [colV, if_true, List.append_nil]
    exact .pure
  | e :: r, d, acc, hd, ha => by
    have ge := he e (by rw [← hd]; simp)
    have hdl := congrArg List.length hd
    simp only [List.length_append, List.length_cons] at hdl
    refine Evt.step (fun k m => spec_cbLabels_L58.eq_2 k _ _ _ _ _ _ _ m) ?_
    rw [← hd]
    refine Evt.ctrue mid_lt (Evt.ctrue mid_ge (Evt.ctrue mid_lt ?_))
    rw [mid_get, len_next (by rw [hd]; simp only [lenB]; omega)]
    have hre := cbLabel_ev hs hb ge
    refine Evt.bind (cbSidesB_ev hb ge) ?_
    unfold colV
    cases hj : lbl s b n e with
    | none =>
      rw [hj] at hre
      refine Evt.bind hre (Evt.ctrue rfl ?_)
      simp only [Bool.false_eq_true, if_false, List.append_nil]
      exact .pure
    | some j =>
      rw [hj] at hre
      refine Evt.bind hre (Evt.cfalse rfl (Evt.ctrue (decide_eq_true (by simp only [List.length_cons, List.length_nil]; omega)) ?_))
      have ih := cbLabels_loop hs hb he hl r (d ++ [e]) (acc ++ [(j : Int)]) (by simpa using hd) (by simp [ha])
      rw [← hd] at ih
      simp only [List.append_assoc, List.singleton_append] at ih ⊢
      exact ih
def lbsV (s : List (List Tm)) (b : Bx) (n : Nat) : List Int × Bool := colV (lbl s b n) (cellsV (2 ^ n))
theorem cbLabels_ev {s : List (List Tm)} {b : Bx} {n : Nat} (hs : Cb s) (hb : cbV b = true) (hn : n ≤ 2) : Evt (fun k _ => spec_cbLabels k s b n) (lbsV s b n).1 := by
  refine Evt.eq (f := fun k q => _) ?_ (fun k q => by rw [spec_cbLabels])
  refine Evt.bind (cbCells_ev hn) ?_
  have hc := cellsV_len hn
  have h := cbLabels_loop hs hb (es := cellsV (2 ^ n)) (cellsV_ok hn) (by omega) (cellsV (2 ^ n)) [] [] rfl rfl
  simp only [List.length_nil, List.nil_append] at h
  unfold lbsV
  cases hf : (colV (lbl s b n) (cellsV (2 ^ n))).2 with
  | true => rw [hf, if_pos rfl] at h; exact Evt.inr (Evt.diag h) .pure
  | false => rw [hf, if_neg (by simp)] at h; exact Evt.inl (Evt.diag h) .pure
theorem cbCount_eq {n : Nat} (hn : n ≤ 2) : spec_cbCount n = some (((cellsV (2 ^ n)).length : Nat) : Int) := by
  have hc := cellsV_len hn
  unfold spec_cbCount
  have e : IntKind.wrap .i64 (2 * (n : Int)) = ((2 * n : Nat) : Int) := by rw [w64 (by omega) (by omega)]; omega
  rw [e, dyPower_eq (by omega), Option.bind_some, w64 (by omega) (by omega), hc.1]
  congr 1
/-- what is asked of a system, a box and a depth -/
def askC (s : List (List Tm)) (b : Bx) (d : Int) : Bool := cubeV s b && decide (0 ≤ d ∧ d ≤ 2)
theorem cbAsked_ev {m : List (List Tm)} {b : Bx} {d : Int} (hb : m.length < lenB) (hm : ∀ r ∈ m, r.length < lenB) (hx : b.2.1.length < lenB) : Evt (fun k _ => spec_cbAsked k m b d) (askC m b d) := by
  refine Evt.eq (f := fun k q => _) ?_ (fun k q => by rw [spec_cbAsked])
  refine Evt.bind (cbGood_ev hb hm hx) ?_
  unfold askC
  cases cubeV m b with
  | false => exact Evt.cfalse rfl .pure
  | true =>
    refine Evt.ctrue rfl (Evt.bind (.const (?_ : spec_cbDepth d = some (decide (0 ≤ d ∧ d ≤ 2)))) .pure)
    unfold spec_cbDepth
    rw [l1In_eq]; rfl
theorem cubeV_form {m : List (List Tm)} {b : Bx} (h : cubeV m b = true) (hm : ∀ r ∈ m, r.length < lenB) : Cb m ∧ cbV b = true := by
  unfold cubeV at h
  simp only [Bool.and_eq_true] at h
  have := h.2.1
  simp at this
  exact ⟨⟨by omega, sysV_tm h.1, hm⟩, h.2.2⟩
theorem askC_form {m : List (List Tm)} {b : Bx} {d : Int} (h : askC m b d = true) (hm : ∀ r ∈ m, r.length < lenB) : ∃ n : Nat, d = n ∧ n ≤ 2 ∧ Cb m ∧ cbV b = true := by
  unfold askC at h
  simp only [Bool.and_eq_true] at h
  have hd := of_decide_eq_true h.2
  have := cubeV_form h.1 hm
  exact ⟨d.toNat, by omega, by omega, this.1, this.2⟩
theorem implC_ask {V : Type} {s : List (List Tm)} {b : Bx} {d : Int} {z : V} {g : Nat → Option V} {v : V} (hb : s.length < lenB) (hm : ∀ r ∈ s, r.length < lenB) (hx : b.2.1.length < lenB) (hz : askC s b d = false → v = z) (hg : askC s b d = true → Evt (fun k _ => g k) v) :
    Evt (fun k _ => (Option.bind (impl_isCube k s b) fun r1 => (bif (!r1) then some z else (Option.bind (impl_inside d 0 2) fun r2 => (bif (!r2) then some z else g k))))) v := by
  refine Evt.bind (isCube_ev hb hm hx) ?_
  unfold askC at hz hg
  cases hp : cubeV s b with
  | false =>
    rw [hp] at hz
    rw [hz rfl]
    exact Evt.ctrue rfl .pure
  | true =>
    rw [hp] at hz hg
    refine Evt.cfalse rfl (Evt.bind (.const (inside_eq d 0 2)) ?_)
    cases hd : decide (0 ≤ d ∧ d ≤ 2) with
    | false =>
      rw [hd] at hz
      rw [hz rfl]
      exact Evt.ctrue rfl .pure
    | true =>
      rw [hd] at hg
      exact Evt.cfalse rfl (hg rfl)
theorem specC_ask {V : Type} {s : List (List Tm)} {b : Bx} {d : Int} {z : V} {g : Nat → Option V} {v : V} (hb : s.length < lenB) (hm : ∀ r ∈ s, r.length < lenB) (hx : b.2.1.length < lenB) (hz : askC s b d = false → v = z) (hg : askC s b d = true → Evt (fun k _ => g k) v) :
    Evt (fun k _ => (Option.bind (spec_cbAsked k s b d) fun r1 => (bif (!r1) then some z else g k))) v := by
  refine Evt.bind (cbAsked_ev hb hm hx) ?_
  cases hp : askC s b d with
  | false => rw [hz hp]; exact Evt.ctrue rfl .pure
  | true => exact Evt.cfalse rfl (hg hp)
end Go.Ev.G

namespace Go.Ev.G
open Go Go.Ev
set_option maxRecDepth 100000

theorem lbsV_len {s : List (List Tm)} {b : Bx} {n : Nat} (hn : n ≤ 2) : (lbsV s b n).1.length ≤ 96 ∧ ((lbsV s b n).2 = true ↔ (lbsV s b n).1.length = (cellsV (2 ^ n)).length) := by
  have hc := cellsV_len hn
  have h := colV_len (f := lbl s b n) (cellsV (2 ^ n))
  unfold lbsV
  exact ⟨by omega, h.2⟩
def fuV (s : List (List Tm)) (b : Bx) (d : Int) : Int × Bool := if askC s b d then (if (lbsV s b d.toNat).2 then (0, false) else (((lbsV s b d.toNat).1.length : Int), true)) else (0, false)
theorem spec_firstUnlabelled_ev {s : List (List Tm)} {b : Bx} {d : Int} (hb : s.length < lenB) (hm : ∀ r ∈ s, r.length < lenB) (hx : b.2.1.length < lenB) : Evt (fun k _ => spec_FirstUnlabelled k s b d) (fuV s b d) := by
  refine Evt.eq (f := fun k q => _) ?_ (fun k q => by rw [spec_FirstUnlabelled])
  refine specC_ask hb hm hx (fun h => by unfold fuV; rw [h]; rfl) (fun h => ?_)
  obtain ⟨n, rfl, hn, hs, hbb⟩ := askC_form h hm
  unfold fuV
  rw [h, if_pos rfl]
  have hl := lbsV_len (s := s) (b := b) hn
  refine Evt.bind (cbLabels_ev hs hbb hn) (Evt.bind (.const (cbCount_eq hn)) ?_)
  simp only [Int.toNat_natCast]
  cases hf : (lbsV s b n).2 with
  | true =>
    have := hl.2.1 hf
    rw [if_pos rfl]
    exact Evt.ctrue (by rw [this]; simp) .pure
  | false =>
    rw [if_neg (by simp)]
    have : ¬ (lbsV s b n).1.length = (cellsV (2 ^ n)).length := fun h => by rw [hl.2.2 h] at hf; cases hf
    refine Evt.cfalse ?_ .pure
    rw [beq_eq_false_iff_ne]
    omega
theorem impl_firstUnlabelled_ev {s : List (List Tm)} {b : Bx} {d : Int} (hb : s.length < lenB) (hm : ∀ r ∈ s, r.length < lenB) (hx : b.2.1.length < lenB) : Evt (fun k _ => impl_FirstUnlabelled k s b d) (fuV s b d) := by
  refine Evt.eq (f := fun k q => _) ?_ (fun k q => by rw [impl_FirstUnlabelled])
  refine implC_ask hb hm hx (fun h => by unfold fuV; rw [h]; rfl) (fun h => ?_)
  obtain ⟨n, rfl, hn, hs, hbb⟩ := askC_form h hm
  unfold fuV
  rw [h, if_pos rfl]
  simp only [Int.toNat_natCast]
  have hc := cellsV_len hn
  refine Evt.bind (surfaceCells_ev hn) ?_
  have hidx : Evt (fun k _ => slices_IndexFunc_Cell_Cell_impl_FirstUnlabelled_1 k (cellsV (2 ^ n)) (s, b, (n : Int), ())) (match (cellsV (2 ^ n)).findIdx? (fun e => (lbl s b n e).isNone) with | some j => (j : Int) | none => -1) := by
    refine Evt.eq (f := fun k q => _) ?_ (fun k q => by rw [slices_IndexFunc_Cell_Cell_impl_FirstUnlabelled_1])
    have := index_all (d0 := (0, false, 0, 0)) (L := fun k m i => slices_IndexFunc_Cell_Cell_impl_FirstUnlabelled_1_L26 k m (cellsV (2 ^ n)) (s, b, (n : Int), ()) ((cellsV (2 ^ n)).length : Int) i) (xs := cellsV (2 ^ n)) (p := fun k e => impl_FirstUnlabelled_1 k e s b n) (P := fun e => (lbl s b n e).isNone)
      (fun e he => by
        refine Evt.eq (f := fun k q => _) ?_ (fun k q => by rw [impl_FirstUnlabelled_1])
        refine Evt.bind (cellLabel_ev hs hbb (cellsV_ok hn e he)) ?_
        cases lbl s b n e with
        | none => exact .pure
        | some j =>
          refine .const ?_
          simp only [Option.isNone_some]
          rw [decide_eq_false (show ¬ ((j : Int) < 0) by omega)])
      (fun _ _ _ => rfl) (by simp only [lenB]; omega)
    cases hi : (cellsV (2 ^ n)).findIdx? (fun e => (lbl s b n e).isNone) with
    | none => rw [hi] at this; exact Evt.inr (Evt.diag this) .pure
    | some j => rw [hi] at this; exact Evt.inl (Evt.diag this) .pure
  have hidx2 : Evt (fun k _ => slices_IndexFunc_Cell_Cell_impl_FirstUnlabelled_1 k (cellsV (2 ^ n)) (s, b, (n : Int), ())) (if (colV (lbl s b n) (cellsV (2 ^ n))).2 = true then -1 else ((colV (lbl s b n) (cellsV (2 ^ n))).1.length : Int)) := by
    rw [← colV_index (f := lbl s b n)]
    exact hidx
  refine Evt.bind hidx2 ?_
  show Evt _ (if (colV (lbl s b n) (cellsV (2 ^ n))).2 = true then (0, false) else (((colV (lbl s b n) (cellsV (2 ^ n))).1.length : Int), true))
  cases hf : (colV (lbl s b n) (cellsV (2 ^ n))).2 with
  | true => exact .pure
  | false =>
    simp only [Bool.false_eq_true, if_false]
    rw [if_neg (by omega), decide_eq_true (by omega)]
    exact .pure
theorem firstUnlabelled_row (a : List (List Tm)) (b : Bx) (d : Int) (h : WfT (.sl (.sl tTerm)) a) (hb : WfT tBox b) (_ : WfT (.int .i64) d) : ∃ k, laws_FnExactFirstUnlabelled k a b d = some true :=
  Evt.get (Evt.eq (frame_sb (S := fun k a b => spec_FirstUnlabelled k a b d) (I := fun k a b => impl_FirstUnlabelled k a b d) (C := fun _ r5 r8 x => (bif (r8.1 != r5.1) then some false else (bif (!(r8.2 == r5.2)) then some false else x))) (v := fuV a b d) h.1 (fun x hx => (h.2 x hx).1) hb.2.1.1 hb.2.2.1 cmp_int
    (fun h1 h2 h3 => spec_firstUnlabelled_ev (by simp only [lenB]; omega) h2 h3) (fun h1 h2 h3 => impl_firstUnlabelled_ev h1 h2 h3)) (fun k _ => rfl))

end Go.Ev.G

