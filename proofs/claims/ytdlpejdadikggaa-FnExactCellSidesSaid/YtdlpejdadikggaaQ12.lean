/- What the plain functions of the laws compute, for all inputs within the sizes that the theorems name. -/
import Derived.Test.YtdlpejdadikggaaQ11
set_option linter.unusedVariables false
namespace Go.Ev.G
open Go Go.Ev
set_option maxRecDepth 100000

/-! A cell of a cube's surface, and its sides. -/
def cellV (dep : Int) (c : Int × Bool × Int × Int) : Bool := decide (0 ≤ dep ∧ dep ≤ 2) && (decide (0 ≤ c.1 ∧ c.1 ≤ 2) && (decide (0 ≤ c.2.2.1 ∧ c.2.2.1 ≤ 2 ^ dep.toNat - 1) && decide (0 ≤ c.2.2.2 ∧ c.2.2.2 ≤ 2 ^ dep.toNat - 1)))

theorem pow2 {m : Nat} (h : m ≤ 2) : (1 : Int) ≤ 2 ^ m ∧ (2 : Int) ^ m ≤ 4 := by
  have : m = 0 ∨ m = 1 ∨ m = 2 := by omega
  rcases this with rfl | rfl | rfl <;> decide

theorem cbCell_eq {m : Nat} (h : m ≤ 2) (c : Int × Bool × Int × Int) : spec_cbCell c m = some (cellV m c) := by
  have hp := pow2 h
  have e1 : ((2 ^ m : Nat) : Int) = 2 ^ m := by simp
  unfold spec_cbCell cellV
  rw [dyPower_eq (by omega), e1]
  simp only [Option.bind_some, l1In_eq, Int.toNat_natCast]
  rw [w64 (by omega) (by omega), decide_eq_true (show (0 : Int) ≤ m ∧ (m : Int) ≤ 2 by omega), Bool.true_and]
  cases decide (0 ≤ c.1 ∧ c.1 ≤ 2) <;> cases decide (0 ≤ c.2.2.1 ∧ c.2.2.1 ≤ (2 : Int) ^ m - 1) <;> rfl

theorem min64 {m : Nat} (h : m ≤ 64) : min (Int.toNat (m : Int)) (IntKind.bits .i64) = m := by
  rw [Int.toNat_natCast]; exact Nat.min_eq_left (by simp only [IntKind.bits]; omega)

theorem isCell_eq (dep : Int) (c : Int × Bool × Int × Int) : impl_isCell dep c = some (cellV dep c) := by
  unfold impl_isCell cellV
  simp only [inside_eq, Option.bind_some]
  by_cases h0 : 0 ≤ dep ∧ dep ≤ 2
  · obtain ⟨m, rfl⟩ : ∃ m : Nat, dep = m := ⟨dep.toNat, by omega⟩
    have hm : m ≤ 2 := by omega
    have hp := pow2 hm
    rw [decide_eq_true h0, min64 (by omega)]
    simp only [cond_true, Bool.true_and, Int.toNat_natCast, Int.one_mul]
    rw [w64 (n := 2 ^ m) (by omega) (by omega), w64 (by omega) (by omega), decide_eq_false (by omega : ¬ (m : Int) < 0)]
    cases decide (0 ≤ c.1 ∧ c.1 ≤ 2) <;> cases decide (0 ≤ c.2.2.1 ∧ c.2.2.1 ≤ (2 : Int) ^ m - 1) <;> rfl
  · rw [decide_eq_false h0]; rfl

/-- the lowest corner of a cell, in cells -/
def lowV (c : Int × Bool × Int × Int) (s : Int) : Int × Int × Int :=
  let t : Int := if c.2.1 then s else 0
  if c.1 = 0 then (t, c.2.2.1, c.2.2.2) else if c.1 = 1 then (c.2.2.1, t, c.2.2.2) else (c.2.2.1, c.2.2.2, t)

theorem lowest_eq {m : Nat} (hm : m ≤ 2) {c : Int × Bool × Int × Int} (h1 : 0 ≤ c.1 ∧ c.1 ≤ 2) : ∃ y, impl_Cell_lowest c m = some (lowV c (2 ^ m), y) := by
  obtain ⟨ax, hi, i, j⟩ := c
  simp only at h1
  have hd : m = 0 ∨ m = 1 ∨ m = 2 := by omega
  have ha : ax = 0 ∨ ax = 1 ∨ ax = 2 := by omega
  rcases hd with rfl | rfl | rfl <;> rcases ha with rfl | rfl | rfl <;> cases hi <;> exact ⟨_, rfl⟩

def upV (ax j x : Int) : Int := if j = ax then x else x + 1
def upW (ax j x : Int) : Int := if j = ax then x else IntKind.wrap .i64 (x + 1)
theorem upW_eq (ax j : Int) {x : Int} (h : 0 ≤ x ∧ x ≤ 1000) : upW ax j x = upV ax j x := by
  unfold upW upV
  rw [w64 (by omega) (by omega)]
theorem lowV_le {c : Int × Bool × Int × Int} {s : Int} (hi : 0 ≤ c.2.2.1 ∧ c.2.2.1 ≤ 4) (hj : 0 ≤ c.2.2.2 ∧ c.2.2.2 ≤ 4) (hs : 0 ≤ s ∧ s ≤ 4) :
    (0 ≤ (lowV c s).1 ∧ (lowV c s).1 ≤ 4) ∧ (0 ≤ (lowV c s).2.1 ∧ (lowV c s).2.1 ≤ 4) ∧ (0 ≤ (lowV c s).2.2 ∧ (lowV c s).2.2 ≤ 4) := by
  unfold lowV
  simp only
  split <;> split <;> (try split) <;> simp only <;> omega
theorem cbRange_ev {c : Int × Bool × Int × Int} {s : Int} (h1 : 0 ≤ c.1 ∧ c.1 ≤ 2) (hi : 0 ≤ c.2.2.1 ∧ c.2.2.1 ≤ 4) (hj : 0 ≤ c.2.2.2 ∧ c.2.2.2 ≤ 4) (hs : 0 ≤ s ∧ s ≤ 4) :
    Evt (fun k _ => spec_cbRange k c s) ([(lowV c s).1, (lowV c s).2.1, (lowV c s).2.2], [upV c.1 0 (lowV c s).1, upV c.1 1 (lowV c s).2.1, upV c.1 2 (lowV c s).2.2]) := by
  have hl := lowV_le hi hj hs
  rw [← upW_eq c.1 0 (by omega : 0 ≤ (lowV c s).1 ∧ (lowV c s).1 ≤ 1000), ← upW_eq c.1 1 (by omega : 0 ≤ (lowV c s).2.1 ∧ (lowV c s).2.1 ≤ 1000), ← upW_eq c.1 2 (by omega : 0 ≤ (lowV c s).2.2 ∧ (lowV c s).2.2 ≤ 1000)]
  obtain ⟨ax, hi', i, j⟩ := c
  simp only at h1
  have ha : ax = 0 ∨ ax = 1 ∨ ax = 2 := by omega
  clear hl hi hj
  refine ⟨4, fun k n hk _ => ?_⟩
  obtain ⟨k, rfl⟩ : ∃ k', k = k' + 4 := ⟨k - 4, by omega⟩
  rcases ha with rfl | rfl | rfl <;> cases hi' <;> rfl

def sideV (m dep : Nat) (l h x : Int) : Int × Int := (mkD (l * 2 ^ dep + (h - l) * x) (m + dep)).1
def cellSides (m dep : Nat) (l h : List Int) (a b : List Int) : List ((Int × Int) × Int × Int) :=
  match l, h, a, b with
  | [l0, l1, l2], [h0, h1, h2], [a0, a1, a2], [b0, b1, b2] => [(sideV m dep l0 h0 a0, sideV m dep l0 h0 b0), (sideV m dep l1 h1 a1, sideV m dep l1 h1 b1), (sideV m dep l2 h2 a2, sideV m dep l2 h2 b2)]
  | _, _, _, _ => []

theorem side_bound {l h x s : Int} (hl : -64 ≤ l ∧ l < h ∧ h ≤ 64) (hx : 0 ≤ x ∧ x ≤ 5) (hs : 1 ≤ s ∧ s ≤ 4) : (-256 ≤ l * s ∧ l * s ≤ 256) ∧ (0 ≤ (h - l) * x ∧ (h - l) * x ≤ 640) := by
  have hs' : s = 1 ∨ s = 2 ∨ s = 3 ∨ s = 4 := by omega
  have hx' : x = 0 ∨ x = 1 ∨ x = 2 ∨ x = 3 ∨ x = 4 ∨ x = 5 := by omega
  refine ⟨?_, ?_⟩
  · rcases hs' with rfl | rfl | rfl | rfl <;> omega
  · rcases hx' with rfl | rfl | rfl | rfl | rfl | rfl <;> omega

theorem number_ev {m dep : Nat} {l h x s : Int} (hl : -64 ≤ l ∧ l < h ∧ h ≤ 64) (hx : 0 ≤ x ∧ x ≤ 5) (hd : dep ≤ 2) (hs : s = 2 ^ dep) (hm : m ≤ 3) :
    Evt (fun k _ => spec_bxNumber k (IntKind.wrap .i64 ((IntKind.wrap .i64 (l * s)) + (IntKind.wrap .i64 ((IntKind.wrap .i64 (h - l)) * x)))) (IntKind.wrap .i64 ((m : Int) + (dep : Int)))) (sideV m dep l h x) := by
  have hp := pow2 hd
  subst hs
  have hb := side_bound hl hx hp
  rw [w64 (n := h - l) (by omega) (by omega), w64 (n := l * 2 ^ dep) (by omega) (by omega), w64 (n := (h - l) * x) (by omega) (by omega), w64 (by omega) (by omega), w64 (n := (m : Int) + dep) (by omega) (by omega)]
  refine Evt.eq (f := fun k q => _) ?_ (fun k q => by rw [spec_bxNumber])
  have := dyMake_ev (n := l * 2 ^ dep + (h - l) * x) (m := m + dep) (by omega) (by omega) (by omega)
  rw [Int.natCast_add] at this
  exact Evt.bind this .pure

theorem cbSides_ev {m dep : Nat} {l0 l1 l2 h0 h1 h2 : Int} {c : Int × Bool × Int × Int} (hm : m ≤ 3) (hd : dep ≤ 2) (g0 : -64 ≤ l0 ∧ l0 < h0 ∧ h0 ≤ 64) (g1 : -64 ≤ l1 ∧ l1 < h1 ∧ h1 ≤ 64) (g2 : -64 ≤ l2 ∧ l2 < h2 ∧ h2 ≤ 64)
    (k1 : 0 ≤ c.1 ∧ c.1 ≤ 2) (hi : 0 ≤ c.2.2.1 ∧ c.2.2.1 ≤ 4) (hj : 0 ≤ c.2.2.2 ∧ c.2.2.2 ≤ 4) :
    Evt (fun k _ => spec_cbSides k ((m : Int), [l0, l1, l2], [h0, h1, h2]) (dep : Int) c) (cellSides m dep [l0, l1, l2] [h0, h1, h2] [(lowV c (2 ^ dep)).1, (lowV c (2 ^ dep)).2.1, (lowV c (2 ^ dep)).2.2] [upV c.1 0 (lowV c (2 ^ dep)).1, upV c.1 1 (lowV c (2 ^ dep)).2.1, upV c.1 2 (lowV c (2 ^ dep)).2.2]) := by
  have hp := pow2 hd
  have e1 : ((2 ^ dep : Nat) : Int) = 2 ^ dep := by simp
  have hl := lowV_le (c := c) (s := 2 ^ dep) hi hj (by omega)
  have hu : ∀ ax j x : Int, 0 ≤ x ∧ x ≤ 4 → 0 ≤ upV ax j x ∧ upV ax j x ≤ 5 := by
    intro ax j x hx
    unfold upV
    split <;> omega
  refine Evt.eq (f := fun k q => _) ?_ (fun k q => by rw [spec_cbSides])
  refine Evt.bind (.const (dyPower_eq (by omega))) ?_
  rw [e1]
  refine Evt.bind (cbRange_ev k1 hi hj (by omega)) ?_
  obtain ⟨hx, hy, hz⟩ := hl
  generalize (lowV c (2 ^ dep)).1 = x at hx ⊢
  generalize (lowV c (2 ^ dep)).2.1 = y at hy ⊢
  generalize (lowV c (2 ^ dep)).2.2 = z at hz ⊢
  have ux := hu c.1 0 x hx
  have uy := hu c.1 1 y hy
  have uz := hu c.1 2 z hz
  generalize upV c.1 0 x = x' at ux ⊢
  generalize upV c.1 1 y = y' at uy ⊢
  generalize upV c.1 2 z = z' at uz ⊢
  have w1 : IntKind.wrap .i64 (0 + 1) = 1 := by decide
  have w2 : IntKind.wrap .i64 (1 + 1) = 2 := by decide
  have w3 : IntKind.wrap .i64 (2 + 1) = 3 := by decide
  refine Evt.inr (y := (cellSides m dep [l0, l1, l2] [h0, h1, h2] [x, y, z] [x', y', z'], ())) (Evt.diag (f := fun k n => spec_cbSides_L250 k n (dep : Int) ((m : Int), [l0, l1, l2], [h0, h1, h2]) (2 ^ dep) [x, y, z] [x', y', z'] [] 3 0) ?_) .pure
  refine Evt.step (fun k n => spec_cbSides_L250.eq_2 k _ _ _ _ _ _ _ _ n) (Evt.ctrue rfl (Evt.ctrue rfl (Evt.ctrue rfl (Evt.ctrue rfl (Evt.ctrue rfl (Evt.ctrue rfl (Evt.ctrue rfl (Evt.ctrue rfl (Evt.ctrue rfl (Evt.bind (number_ev (x := x) g0 (by omega) hd rfl hm) (Evt.ctrue rfl (Evt.ctrue rfl (Evt.ctrue rfl (Evt.ctrue rfl (Evt.bind (number_ev (x := x') g0 (by omega) hd rfl hm) (Evt.ctrue rfl ?_))))))))))))))))
  rw [w1]
  refine Evt.step (fun k n => spec_cbSides_L250.eq_2 k _ _ _ _ _ _ _ _ n) (Evt.ctrue rfl (Evt.ctrue rfl (Evt.ctrue rfl (Evt.ctrue rfl (Evt.ctrue rfl (Evt.ctrue rfl (Evt.ctrue rfl (Evt.ctrue rfl (Evt.ctrue rfl (Evt.bind (number_ev (x := y) g1 (by omega) hd rfl hm) (Evt.ctrue rfl (Evt.ctrue rfl (Evt.ctrue rfl (Evt.ctrue rfl (Evt.bind (number_ev (x := y') g1 (by omega) hd rfl hm) (Evt.ctrue rfl ?_))))))))))))))))
  rw [w2]
  refine Evt.step (fun k n => spec_cbSides_L250.eq_2 k _ _ _ _ _ _ _ _ n) (Evt.ctrue rfl (Evt.ctrue rfl (Evt.ctrue rfl (Evt.ctrue rfl (Evt.ctrue rfl (Evt.ctrue rfl (Evt.ctrue rfl (Evt.ctrue rfl (Evt.ctrue rfl (Evt.bind (number_ev (x := z) g2 (by omega) hd rfl hm) (Evt.ctrue rfl (Evt.ctrue rfl (Evt.ctrue rfl (Evt.ctrue rfl (Evt.bind (number_ev (x := z') g2 (by omega) hd rfl hm) (Evt.ctrue rfl ?_))))))))))))))))
  rw [w3]
  exact Evt.step (fun k n => spec_cbSides_L250.eq_2 k _ _ _ _ _ _ _ _ n) (Evt.cfalse rfl .pure)
end Go.Ev.G
