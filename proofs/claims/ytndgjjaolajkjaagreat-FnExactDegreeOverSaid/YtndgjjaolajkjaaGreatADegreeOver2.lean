/- What the plain functions of the law compute, for all inputs within the sizes that the theorems name. -/
import Derived.Test.YtndgjjaolajkjaaGreatPDegreeOver1
import Derived.Test.YtndgjjaolajkjaaGreatADegreeOver1
set_option linter.unusedVariables false
namespace Go.Ev.G
open Go Go.Ev
set_option maxRecDepth 100000

abbrev Bx := Int × List Int × List Int
def plV (b : Bx) : Bool := bxV b && (((b.2.1.length : Int) == 2) && decide (b.1 ≤ 3))
theorem imBox_ev {b : Bx} (hb : b.2.1.length < lenB) : Evt (fun k _ => spec_imBox k b) (plV b) := by
  refine Evt.eq (f := fun k q => _) ?_ (fun k q => by rw [spec_imBox])
  refine Evt.bind (bxGood_ev hb) ?_
  unfold plV
  cases bxV b with
  | false => exact Evt.cfalse rfl .pure
  | true =>
    refine Evt.ctrue rfl ?_
    cases ((b.2.1.length : Int) == 2) with
    | false => exact Evt.cfalse rfl .pure
    | true => exact Evt.ctrue rfl .pure
theorem isPlaneBox_ev {b : Bx} (hb : b.2.1.length < lenB) : Evt (fun k _ => impl_isPlaneBox k b) (plV b) := by
  refine Evt.eq (f := fun k q => _) ?_ (fun k q => by rw [impl_isPlaneBox])
  refine Evt.bind (isBox_ev hb) ?_
  unfold plV
  cases bxV b with
  | false => exact Evt.cfalse rfl .pure
  | true =>
    refine Evt.ctrue rfl ?_
    cases ((b.2.1.length : Int) == 2) with
    | false => exact Evt.cfalse rfl .pure
    | true => exact Evt.ctrue rfl .pure
def planeV (m : List (List Tm)) (b : Bx) : Bool := twoV m && plV b
theorem imGood_ev {m : List (List Tm)} {b : Bx} (hb : m.length < lenB) (hm : ∀ r ∈ m, r.length < lenB) (hx : b.2.1.length < lenB) : Evt (fun k _ => spec_imGood k m b) (planeV m b) := by
  refine Evt.eq (f := fun k q => _) ?_ (fun k q => by rw [spec_imGood])
  refine Evt.bind (poSystem_ev hb hm) ?_
  unfold planeV twoV
  cases sysV m with
  | false => exact Evt.cfalse rfl .pure
  | true =>
    refine Evt.ctrue rfl ?_
    cases ((m.length : Int) == 2) with
    | false => exact Evt.cfalse rfl .pure
    | true => exact Evt.ctrue rfl (Evt.bind (imBox_ev hx) .pure)
theorem isPlane_ev {m : List (List Tm)} {b : Bx} (hb : m.length < lenB) (hm : ∀ r ∈ m, r.length < lenB) (hx : b.2.1.length < lenB) : Evt (fun k _ => impl_isPlane k m b) (planeV m b) := by
  refine Evt.eq (f := fun k q => _) ?_ (fun k q => by rw [impl_isPlane])
  refine Evt.bind (isTwo_ev hb hm) ?_
  unfold planeV
  cases twoV m with
  | false => exact Evt.cfalse rfl .pure
  | true => exact Evt.ctrue rfl (Evt.bind (isPlaneBox_ev hx) .pure)
theorem plV_form {b : Bx} (h : plV b = true) : ∃ (m : Nat) (l0 l1 h0 h1 : Int), b = ((m : Int), [l0, l1], [h0, h1]) ∧ m ≤ 3 ∧ (-64 ≤ l0 ∧ l0 < h0 ∧ h0 ≤ 64) ∧ (-64 ≤ l1 ∧ l1 < h1 ∧ h1 ≤ 64) := by
  obtain ⟨d8, los, his⟩ := b
  unfold plV bxV at h
  simp only [Bool.and_eq_true, decide_eq_true_eq, beq_iff_eq] at h
  obtain ⟨⟨g1, g2, g3, g4, _⟩, g5, g6⟩ := h
  match los, his, g3, g5, g4 with
  | [l0, l1], [h0, h1], _, _, g4 =>
    refine ⟨d8.toNat, l0, l1, h0, h1, by rw [Int.toNat_of_nonneg g1.1], by omega, ?_⟩
    have hp : (8 : Int) * 2 ^ d8.toNat ≤ 64 := by
      have h1 : (2 : Nat) ^ d8.toNat ≤ 2 ^ 3 := Nat.pow_le_pow_right (by omega) (by omega)
      have h2 : ((2 : Int) ^ d8.toNat) = ((2 ^ d8.toNat : Nat) : Int) := by simp
      rw [h2]
      have : (2 : Nat) ^ 3 = 8 := by decide
      omega
    generalize (8 : Int) * 2 ^ d8.toNat = L at hp g4
    simp only [List.zip_cons_cons, List.zip_nil_left, List.all_cons, List.all_nil, Bool.and_true, Bool.and_eq_true, sideOk, decide_eq_true_eq] at g4
    omega

theorem strip_scale (k : Nat) (n : Int) : ∀ D : Nat, strip (k + D) (n * 2 ^ D) = strip k n
  | 0 => by simp
  | D + 1 => by
    have e : n * 2 ^ (D + 1) = (n * 2 ^ D) * 2 := by rw [Int.pow_succ, Int.mul_assoc]
    rw [e, ← Nat.add_assoc, strip, if_pos (by omega), Int.mul_ediv_cancel _ (by decide)]
    exact strip_scale k n D
theorem mkD_scale (k D : Nat) (n : Int) : mkD (n * 2 ^ D) (k + D) = mkD n k := by
  unfold mkD
  rw [strip_scale]
theorem pow5 {m : Nat} (h : m ≤ 5) : (1 : Int) ≤ 2 ^ m ∧ (2 : Int) ^ m ≤ 32 := by
  rcases (by omega : m = 0 ∨ m = 1 ∨ m = 2 ∨ m = 3 ∨ m = 4 ∨ m = 5) with rfl | rfl | rfl | rfl | rfl | rfl <;> decide
/-- a number on a side, some parts from its lower end -/
def numV (m D : Nat) (l h x : Int) : Int × Int := (mkD (l * 2 ^ D + x * (h - l)) (m + D)).1
theorem numV_gd (m D : Nat) (l h x : Int) : gd (numV m D l h x) := mkD_gd _ _
theorem mul_range {a b A B : Int} (h1 : -A ≤ a) (h2 : a ≤ A) (h3 : 0 ≤ b) (h4 : b ≤ B) (hA : 0 ≤ A) : -(A * B) ≤ a * b ∧ a * b ≤ A * B := by
  have e1 : a * b ≤ A * b := Int.mul_le_mul_of_nonneg_right h2 h3
  have e2 : A * b ≤ A * B := Int.mul_le_mul_of_nonneg_left h4 hA
  have e3 : -A * b ≤ a * b := Int.mul_le_mul_of_nonneg_right h1 h3
  rw [Int.neg_mul] at e3
  omega
theorem side_range {l h x : Int} {D : Nat} (hl : -64 ≤ l ∧ l < h ∧ h ≤ 64) (hD : D ≤ 5) (hx : 0 ≤ x ∧ x ≤ 64) : (-2048 ≤ l * 2 ^ D ∧ l * 2 ^ D ≤ 2048) ∧ (-2048 ≤ h * 2 ^ D ∧ h * 2 ^ D ≤ 2048) ∧ (0 ≤ x * (h - l) ∧ x * (h - l) ≤ 8192) := by
  have hp := pow5 hD
  have a := mul_range (a := l) (b := 2 ^ D) (A := 64) (B := 32) (by omega) (by omega) (by omega) (by omega) (by omega)
  have b := mul_range (a := h) (b := 2 ^ D) (A := 64) (B := 32) (by omega) (by omega) (by omega) (by omega) (by omega)
  have c := mul_range (a := x) (b := h - l) (A := 64) (B := 128) (by omega) (by omega) (by omega) (by omega) (by omega)
  have d : 0 ≤ x * (h - l) := Int.mul_nonneg hx.1 (by omega)
  omega
/-- the program's way to a number -/
theorem edges1_ev {m D : Nat} {b : Bx} {j : Nat} {l h x : Int} (hb1 : b.1 = m) (hj : j < b.2.1.length) (hj2 : j < b.2.2.length) (e1 : b.2.1.getD j 0 = l) (e2 : b.2.2.getD j 0 = h) (hl : -64 ≤ l ∧ l < h ∧ h ≤ 64) (hm : m ≤ 3) (hD : D ≤ 5) (hx : 0 ≤ x ∧ x ≤ 64) :
    Evt (fun k _ => impl_boundaryEdges_1 k j x b (2 ^ D) D) (numV m D l h x) := by
  have hr := side_range hl hD hx
  refine Evt.eq (f := fun k q => _) ?_ (fun k q => by rw [impl_boundaryEdges_1])
  refine Evt.ctrue (decide_eq_true (by omega)) (Evt.ctrue (decide_eq_true (by omega)) ?_)
  have el : impl_Box_length b j = some (h - l) := by
    unfold impl_Box_length
    rw [decide_eq_true (show (0 : Int) ≤ (j : Int) by omega), decide_eq_true (show (j : Int) < (b.2.2.length : Int) by omega), decide_eq_true (show (j : Int) < (b.2.1.length : Int) by omega)]
    simp only [cond_true, Int.toNat_natCast, e1, e2]
    rw [w64 (by omega) (by omega)]
  refine Evt.bind (.const el) ?_
  simp only [Int.toNat_natCast, e1]
  rw [w64 (n := l * 2 ^ D) (by omega) (by omega), w64 (n := x * (h - l)) (by omega) (by omega), w64 (by omega) (by omega), hb1, w64 (n := (m : Int) + (D : Int)) (by omega) (by omega)]
  refine Evt.bind (.const (wideOf_eq (by omega) (by omega))) ?_
  have := fitD_ev (n := l * 2 ^ D + x * (h - l)) (p := m + D) (by omega) (by omega) (by omega)
  rw [Int.natCast_add] at this
  exact Evt.bind this .pure
/-- one side of the way -/
def wayV (s : Int) (a : Int × Int) (g : Int → Int × Int) (c r : Nat) : List Ed := (List.range' c r).map fun i : Nat => (s, a, g (i : Int), g ((i : Int) + 1))
theorem imWay_ev {s : Int} {a : Int × Int} {u v : Int} {m D : Nat} {g : Int → Int × Int} (hu : -64 ≤ u ∧ u ≤ 64) (hv : -64 ≤ v ∧ v ≤ 64) (hm : m ≤ 3) (hD : D ≤ 5) (hg : ∀ x : Int, 0 ≤ x → x ≤ 2 ^ D → g x = (mkD (u * 2 ^ D + (v - u) * x) (m + D)).1) :
    Evt (fun k _ => spec_imWay k s a u v m D) (wayV s a g 0 (2 ^ D)) := by
  refine Evt.eq (f := fun k q => _) ?_ (fun k q => by rw [spec_imWay])
  refine Evt.bind (.const (dyPower_eq (m := D) (by omega))) ?_
  have hp := pow5 hD
  have hN : ((2 ^ D : Nat) : Int) = 2 ^ D := by simp
  generalize hNN : 2 ^ D = N at hN
  have num : ∀ x : Int, 0 ≤ x → x ≤ N → Evt (fun k _ => spec_bxNumber k (IntKind.wrap .i64 ((IntKind.wrap .i64 (u * (N : Int))) + (IntKind.wrap .i64 ((IntKind.wrap .i64 (v - u)) * x)))) (IntKind.wrap .i64 ((m : Int) + (D : Int)))) (g x) := by
    intro x h1 h2
    have a1 := mul_range (a := u) (b := 2 ^ D) (A := 64) (B := 32) (by omega) (by omega) (by omega) (by omega) (by omega)
    have a2 := mul_range (a := v - u) (b := x) (A := 128) (B := 32) (by omega) (by omega) (by omega) (by omega) (by omega)
    rw [hN, w64 (n := v - u) (by omega) (by omega), w64 (n := u * 2 ^ D) (by omega) (by omega), w64 (n := (v - u) * x) (by omega) (by omega), w64 (by omega) (by omega), w64 (n := (m : Int) + D) (by omega) (by omega), hg x h1 (by omega)]
    refine Evt.eq (f := fun k q => _) ?_ (fun k q => by rw [spec_bxNumber])
    have := dyMake_ev (n := u * 2 ^ D + (v - u) * x) (m := m + D) (by omega) (by omega) (by omega)
    rw [Int.natCast_add] at this
    exact Evt.bind this .pure
  have key : ∀ (r c : Nat) (acc : List Ed), c + r = N → acc.length + r ≤ 1000 → Evt (fun k n => spec_imWay_L122 k n s u v m D a acc (N : Int) c) (.inr (acc ++ wayV s a g c r, ())) := by
    intro r
    induction r with
    | zero =>
      intro c acc hc _
      refine Evt.step (fun k n => spec_imWay_L122.eq_2 k _ _ _ _ _ _ _ _ _ n) (Evt.cfalse (decide_eq_false (by omega)) ?_)
      simp only [wayV, List.range'_zero, List.map_nil, List.append_nil]
      exact .pure
    | succ r ih =>
      intro c acc hc ha
      refine Evt.step (fun k n => spec_imWay_L122.eq_2 k _ _ _ _ _ _ _ _ _ n) (Evt.ctrue (decide_eq_true (by omega)) ?_)
      refine Evt.bind (num c (by omega) (by omega)) ?_
      have w1 : IntKind.wrap .i64 ((c : Int) + 1) = (c : Int) + 1 := by rw [w64 (by omega) (by omega)]
      rw [w1]
      refine Evt.bind (num ((c : Int) + 1) (by omega) (by omega)) (Evt.ctrue (decide_eq_true (by simp only [List.length_cons, List.length_nil]; omega)) ?_)
      have := ih (c + 1) (acc ++ [(s, a, g c, g ((c : Int) + 1))]) (by omega) (by simp; omega)
      rw [Int.natCast_add] at this
      have e : acc ++ [(s, a, g c, g ((c : Int) + 1))] ++ wayV s a g (c + 1) r = acc ++ wayV s a g c (r + 1) := by
        simp only [wayV, List.range'_succ, List.map_cons, List.append_assoc, List.singleton_append]
      rw [e] at this
      exact this
  have hNb : N ≤ 32 := by omega
  have hk := key N 0 [] (by omega) (by simp; omega)
  exact Evt.inr (Evt.diag hk) .pure
def edgesV (m D : Nat) (l0 l1 h0 h1 : Int) : List Ed :=
  wayV 1 (mkD l1 m).1 (numV m D l0 h0) 0 (2 ^ D) ++ wayV 0 (mkD h0 m).1 (numV m D l1 h1) 0 (2 ^ D) ++ wayV 1 (mkD h1 m).1 (fun x => numV m D l0 h0 (2 ^ D - x)) 0 (2 ^ D) ++ wayV 0 (mkD l0 m).1 (fun x => numV m D l1 h1 (2 ^ D - x)) 0 (2 ^ D)
theorem wayV_len (s : Int) (a : Int × Int) (g : Int → Int × Int) (c r : Nat) : (wayV s a g c r).length = r := by simp [wayV]
theorem edgesV_len (m D : Nat) (l0 l1 h0 h1 : Int) : (edgesV m D l0 l1 h0 h1).length = 4 * 2 ^ D := by
  simp only [edgesV, List.length_append, wayV_len]; omega
theorem wayV_ok {s : Int} {a : Int × Int} {g : Int → Int × Int} {c r : Nat} (hs : s = 0 ∨ s = 1) (ha : gd a) (hg : ∀ x, gd (g x)) : ∀ e ∈ wayV s a g c r, EdOk e := by
  intro e he
  simp only [wayV, List.mem_map] at he
  obtain ⟨i, _, rfl⟩ := he
  exact ⟨hs, ha, hg _, hg _⟩
theorem edgesV_ok {m D : Nat} {l0 l1 h0 h1 : Int} : ∀ e ∈ edgesV m D l0 l1 h0 h1, EdOk e := by
  intro e he
  simp only [edgesV, List.mem_append] at he
  rcases he with ((he | he) | he) | he
  · exact wayV_ok (.inr rfl) (mkD_gd _ _) (fun x => numV_gd _ _ _ _ _) e he
  · exact wayV_ok (.inl rfl) (mkD_gd _ _) (fun x => numV_gd _ _ _ _ _) e he
  · exact wayV_ok (.inr rfl) (mkD_gd _ _) (fun x => numV_gd _ _ _ _ _) e he
  · exact wayV_ok (.inl rfl) (mkD_gd _ _) (fun x => numV_gd _ _ _ _ _) e he
theorem imEdges_ev {m D : Nat} {l0 l1 h0 h1 : Int} (hm : m ≤ 3) (hD : D ≤ 5) (g0 : -64 ≤ l0 ∧ l0 < h0 ∧ h0 ≤ 64) (g1 : -64 ≤ l1 ∧ l1 < h1 ∧ h1 ≤ 64) : Evt (fun k _ => spec_imEdges k ((m : Int), [l0, l1], [h0, h1]) D) (edgesV m D l0 l1 h0 h1) := by
  refine Evt.eq (f := fun k q => _) ?_ (fun k q => by rw [spec_imEdges])
  have hp : 2 ^ D ≤ 32 := by
    have := Nat.pow_le_pow_right (n := 2) (by omega) hD
    simpa using this
  have num : ∀ x : Int, -64 ≤ x ∧ x ≤ 64 → Evt (fun k _ => spec_bxNumber k x (m : Int)) (mkD x m).1 := by
    intro x hx
    refine Evt.eq (f := fun k q => _) ?_ (fun k q => by rw [spec_bxNumber])
    exact Evt.bind (dyMake_ev (n := x) (m := m) (by omega) (by omega) (by omega)) .pure
  have fwd : ∀ (l h : Int) (x : Int), 0 ≤ x → x ≤ 2 ^ D → numV m D l h x = (mkD (l * 2 ^ D + (h - l) * x) (m + D)).1 := by
    intro l h x _ _
    rw [numV, Int.mul_comm x]
  have bwd : ∀ (l h : Int) (x : Int), 0 ≤ x → x ≤ 2 ^ D → numV m D l h (2 ^ D - x) = (mkD (h * 2 ^ D + (l - h) * x) (m + D)).1 := by
    intro l h x _ _
    have e : l * 2 ^ D + (2 ^ D - x) * (h - l) = h * 2 ^ D + (l - h) * x := by
      simp only [Int.sub_mul, Int.mul_sub, Int.mul_comm (2 ^ D), Int.mul_comm x]
      omega
    rw [numV, e]
  refine Evt.ctrue rfl (Evt.ctrue rfl (Evt.ctrue rfl (Evt.ctrue rfl ?_)))
  refine Evt.bind (num l1 (by omega)) (Evt.bind (imWay_ev (u := l0) (v := h0) (g := numV m D l0 h0) (by omega) (by omega) hm hD (fwd l0 h0)) ?_)
  refine Evt.bind (num h0 (by omega)) (Evt.bind (imWay_ev (u := l1) (v := h1) (g := numV m D l1 h1) (by omega) (by omega) hm hD (fwd l1 h1)) ?_)
  refine Evt.ctrue (decide_eq_true (by simp only [wayV_len]; omega)) ?_
  refine Evt.bind (num h1 (by omega)) (Evt.bind (imWay_ev (u := h0) (v := l0) (g := fun x => numV m D l0 h0 (2 ^ D - x)) (by omega) (by omega) hm hD (bwd l0 h0)) ?_)
  refine Evt.ctrue (decide_eq_true (by simp only [List.length_append, wayV_len]; omega)) ?_
  refine Evt.bind (num l0 (by omega)) (Evt.bind (imWay_ev (u := h1) (v := l1) (g := fun x => numV m D l1 h1 (2 ^ D - x)) (by omega) (by omega) hm hD (bwd l1 h1)) ?_)
  exact Evt.ctrue (decide_eq_true (by simp only [List.length_append, wayV_len]; omega)) .pure
end Go.Ev.G

namespace Go.Ev.G
open Go Go.Ev
set_option maxRecDepth 100000

theorem edges_inner {m D : Nat} {b : Bx} {j : Nat} {s kk x17 : Int} {l h : Int} {a : Int × Int} (hb1 : b.1 = m) (hj : j < b.2.1.length) (hj2 : j < b.2.2.length) (e1 : b.2.1.getD j 0 = l) (e2 : b.2.2.getD j 0 = h) (hl : -64 ≤ l ∧ l < h ∧ h ≤ 64) (hm : m ≤ 3) (hD : D ≤ 5) (hs : IntKind.wrap .i64 (1 - s) = (j : Int)) :
    ∀ (r c : Nat) (acc : List Ed), c + r = 2 ^ D → acc.length + r ≤ 1000 → Evt (fun k n => impl_boundaryEdges_L512830 k n (2 ^ D) (b, 2 ^ D, (D : Int), ()) acc kk s a x17 (2 ^ D) c) (.inr (2 ^ D, (b, 2 ^ D, (D : Int), ()), acc ++ wayV s a (fun x => numV m D l h (if kk ≥ 2 then 2 ^ D - x else x)) c r, x17, ()))
  | 0, c, acc, hc, _ => by
    have hN : ((2 ^ D : Nat) : Int) = 2 ^ D := by simp
    refine Evt.step (fun k n => impl_boundaryEdges_L512830.eq_2 k _ _ _ _ _ _ _ _ _ n) (Evt.cfalse (decide_eq_false (by omega)) ?_)
    simp only [wayV, List.range'_zero, List.map_nil, List.append_nil]
    exact .pure
  | r + 1, c, acc, hc, ha => by
    have hN : ((2 ^ D : Nat) : Int) = 2 ^ D := by simp
    have hp := pow5 hD
    refine Evt.step (fun k n => impl_boundaryEdges_L512830.eq_2 k _ _ _ _ _ _ _ _ _ n) (Evt.ctrue (decide_eq_true (by omega)) ?_)
    let g : Int → Int × Int := fun x => numV m D l h (if kk ≥ 2 then 2 ^ D - x else x)
    have num : ∀ x : Int, 0 ≤ x → x ≤ 2 ^ D → Evt (fun k _ => impl_boundaryEdges_1 k (IntKind.wrap .i64 (1 - s)) x b (2 ^ D) D) (numV m D l h x) := by
      intro x h1 h2
      rw [hs]
      exact edges1_ev hb1 hj hj2 e1 e2 hl hm hD (by omega)
    have ih := edges_inner (kk := kk) (x17 := x17) (s := s) (a := a) hb1 hj hj2 e1 e2 hl hm hD hs r (c + 1) (acc ++ [(s, a, g c, g ((c : Int) + 1))]) (by omega) (by simp; omega)
    have w1 : IntKind.wrap .i64 ((c : Int) + 1) = ((c + 1 : Nat) : Int) := w64_next (by simp only [lenB]; omega)
    have e : acc ++ [(s, a, g c, g ((c : Int) + 1))] ++ wayV s a g (c + 1) r = acc ++ wayV s a g c (r + 1) := by
      simp only [wayV, List.range'_succ, List.map_cons, List.append_assoc, List.singleton_append]
    have ih2 : Evt (fun k n => impl_boundaryEdges_L512830 k n (2 ^ D) (b, 2 ^ D, (D : Int), ()) (acc ++ [(s, a, g c, g ((c : Int) + 1))]) kk s a x17 (2 ^ D) ((c + 1 : Nat) : Int)) (.inr (2 ^ D, (b, 2 ^ D, (D : Int), ()), acc ++ wayV s a g c (r + 1), x17, ())) := by
      rw [← e]; exact ih
    by_cases hk : kk ≥ 2
    · have g1 : g c = numV m D l h (2 ^ D - c) := by show numV m D l h (if kk ≥ 2 then 2 ^ D - (c : Int) else c) = _; rw [if_pos hk]
      have g2 : g ((c : Int) + 1) = numV m D l h (2 ^ D - c - 1) := by
        show numV m D l h (if kk ≥ 2 then 2 ^ D - ((c : Int) + 1) else (c : Int) + 1) = _
        rw [if_pos hk, show (2 : Int) ^ D - (c + 1) = 2 ^ D - c - 1 by omega]
      refine Evt.inr (Evt.ctrue (decide_eq_true hk) .pure) ?_
      have w2 : IntKind.wrap .i64 ((2 : Int) ^ D - c) = 2 ^ D - c := w64 (by omega) (by omega)
      have w3 : IntKind.wrap .i64 ((2 : Int) ^ D - c - 1) = 2 ^ D - c - 1 := w64 (by omega) (by omega)
      simp only [w2, w3, w1]
      rw [g1, g2] at ih2
      refine Evt.bind (num _ (by omega) (by omega)) (Evt.bind (num _ (by omega) (by omega)) (Evt.ctrue (decide_eq_true (by simp only [List.length_cons, List.length_nil]; omega)) ?_))
      exact ih2
    · have g1 : g c = numV m D l h c := by show numV m D l h (if kk ≥ 2 then 2 ^ D - (c : Int) else c) = _; rw [if_neg hk]
      have g2 : g ((c : Int) + 1) = numV m D l h ((c : Int) + 1) := by
        show numV m D l h (if kk ≥ 2 then 2 ^ D - ((c : Int) + 1) else (c : Int) + 1) = _
        rw [if_neg hk]
      refine Evt.inr (Evt.cfalse (decide_eq_false hk) .pure) ?_
      have w2 : IntKind.wrap .i64 ((c : Int) + 1) = (c : Int) + 1 := w64 (by omega) (by omega)
      simp only [w2]
      rw [g1, g2] at ih2
      refine Evt.bind (num _ (by omega) (by omega)) (Evt.bind (num _ (by omega) (by omega)) (Evt.ctrue (decide_eq_true (by simp only [List.length_cons, List.length_nil]; omega)) ?_))
      exact ih2
theorem boundaryEdges_ev {m D : Nat} {l0 l1 h0 h1 : Int} (hm : m ≤ 3) (hD : D ≤ 5) (g0 : -64 ≤ l0 ∧ l0 < h0 ∧ h0 ≤ 64) (g1 : -64 ≤ l1 ∧ l1 < h1 ∧ h1 ≤ 64) : Evt (fun k _ => impl_boundaryEdges k ((m : Int), [l0, l1], [h0, h1]) D) (edgesV m D l0 l1 h0 h1) := by
  have hN : ((2 ^ D : Nat) : Int) = 2 ^ D := by simp
  have hp := pow5 hD
  have hNb : 2 ^ D ≤ 32 := by omega
  let b : Bx := ((m : Int), [l0, l1], [h0, h1])
  refine Evt.eq (f := fun k q => _) ?_ (fun k q => by rw [impl_boundaryEdges])
  refine Evt.cfalse (decide_eq_false (by omega)) ?_
  have hw : IntKind.wrap .i64 (1 * 2 ^ min (Int.toNat (D : Int)) (IntKind.bits .i64)) = 2 ^ D := by
    rw [min64 (by omega), Int.one_mul, w64 (by omega) (by omega)]
  simp only [hw]
  have one : ∀ {R : List Ed ⊕ (List Ed × Unit)} (kk s : Int) (j : Nat) (l h : Int) (a0 a : Int × Int) (acc : List Ed), 0 ≤ kk → kk < 4 → IntKind.wrap .i64 (1 - Int.tmod kk 2) = s → IntKind.wrap .i64 (1 - s) = (j : Int) → j < 2 → b.2.1.getD j 0 = l → b.2.2.getD j 0 = h → (-64 ≤ l ∧ l < h ∧ h ≤ 64) →
      Evt (fun k _ => impl_boundaryEdges_1 k s 0 b (2 ^ D) D) a0 → (kk = 1 ∨ kk = 2 → Evt (fun k _ => impl_boundaryEdges_1 k s (2 ^ D) b (2 ^ D) D) a) → (¬(kk = 1 ∨ kk = 2) → a0 = a) → acc.length ≤ 200 →
      Evt (fun k n => impl_boundaryEdges_L250 k n (2 ^ D) (b, 2 ^ D, (D : Int), ()) (acc ++ wayV s a (fun x => numV m D l h (if kk ≥ 2 then 2 ^ D - x else x)) 0 (2 ^ D)) (IntKind.wrap .i64 (kk + 1))) R → Evt (fun k n => impl_boundaryEdges_L250 k n (2 ^ D) (b, 2 ^ D, (D : Int), ()) acc kk) R := by
    intro R kk s j l h a0 a acc hk0 hk4 hs hj hj2 e1 e2 hl ha0 ha1 haa hacc hrest
    have hin := edges_inner (kk := kk) (x17 := kk) (s := s) (a := a) (b := b) (j := j) (m := m) rfl (by simpa [b] using hj2) (by simpa [b] using hj2) e1 e2 hl hm hD hj (2 ^ D) 0 acc (by omega) (by omega)
    refine Evt.step (fun k n => impl_boundaryEdges_L250.eq_2 k _ _ _ _ n) (Evt.ctrue (decide_eq_true hk4) ?_)
    simp only [hs]
    refine Evt.bind ha0 (Evt.inr (y := (2 ^ D, (b, 2 ^ D, (D : Int), ()), acc, kk, s, a, kk, ())) ?_ (Evt.inr (Evt.diag hin) hrest))
    by_cases c1 : kk = 1
    · exact Evt.ctrue (by simp [c1]) (Evt.bind (ha1 (.inl c1)) .pure)
    · refine Evt.cfalse (by simpa using c1) ?_
      by_cases c2 : kk = 2
      · exact Evt.ctrue (by simp [c2]) (Evt.bind (ha1 (.inr c2)) .pure)
      · refine Evt.cfalse (by simpa using c2) ?_
        rw [haa (by omega)]
        exact .pure
  have n0 : ∀ {j : Nat} {l h : Int}, j < 2 → b.2.1.getD j 0 = l → b.2.2.getD j 0 = h → (-64 ≤ l ∧ l < h ∧ h ≤ 64) → Evt (fun k _ => impl_boundaryEdges_1 k j 0 b (2 ^ D) D) (mkD l m).1 := by
    intro j l h hj e1 e2 hl
    have := edges1_ev (x := 0) (b := b) (m := m) rfl (by simpa [b] using hj) (by simpa [b] using hj) e1 e2 hl hm hD (by omega)
    rw [numV, Int.zero_mul, Int.add_zero, mkD_scale] at this
    exact this
  have n1 : ∀ {j : Nat} {l h : Int}, j < 2 → b.2.1.getD j 0 = l → b.2.2.getD j 0 = h → (-64 ≤ l ∧ l < h ∧ h ≤ 64) → Evt (fun k _ => impl_boundaryEdges_1 k j (2 ^ D) b (2 ^ D) D) (mkD h m).1 := by
    intro j l h hj e1 e2 hl
    have := edges1_ev (x := 2 ^ D) (b := b) (m := m) rfl (by simpa [b] using hj) (by simpa [b] using hj) e1 e2 hl hm hD (by omega)
    have e : l * 2 ^ D + 2 ^ D * (h - l) = h * 2 ^ D := by
      rw [Int.mul_sub, Int.mul_comm (2 ^ D) h, Int.mul_comm (2 ^ D) l]; omega
    rw [numV, e, mkD_scale] at this
    exact this
  have fin : ∀ acc : List Ed, Evt (fun k n => impl_boundaryEdges_L250 k n (2 ^ D) (b, 2 ^ D, (D : Int), ()) acc 4) (.inr (acc, ())) := fun acc =>
    Evt.step (fun k n => impl_boundaryEdges_L250.eq_2 k _ _ _ _ n) (Evt.cfalse rfl .pure)
  have w1 : IntKind.wrap .i64 (0 + 1) = 1 := by decide
  have w2 : IntKind.wrap .i64 (1 + 1) = 2 := by decide
  have w3 : IntKind.wrap .i64 (2 + 1) = 3 := by decide
  have w4 : IntKind.wrap .i64 (3 + 1) = 4 := by decide
  have all : Evt (fun k n => impl_boundaryEdges_L250 k n (2 ^ D) (b, 2 ^ D, (D : Int), ()) [] 0) (.inr (edgesV m D l0 l1 h0 h1, ())) := by
    refine one 0 1 0 l0 h0 (mkD l1 m).1 (mkD l1 m).1 [] (by omega) (by omega) (by decide) (by decide) (by omega) rfl rfl g0 (n0 (j := 1) (by omega) rfl rfl g1) (by omega) (fun _ => rfl) (by simp) ?_
    rw [w1]
    refine one 1 0 1 l1 h1 (mkD l0 m).1 (mkD h0 m).1 _ (by omega) (by omega) (by decide) (by decide) (by omega) rfl rfl g1 (n0 (j := 0) (by omega) rfl rfl g0) (fun _ => n1 (j := 0) (by omega) rfl rfl g0) (by omega) (by simp only [List.length_append, List.length_nil, wayV_len]; omega) ?_
    rw [w2]
    refine one 2 1 0 l0 h0 (mkD l1 m).1 (mkD h1 m).1 _ (by omega) (by omega) (by decide) (by decide) (by omega) rfl rfl g0 (n0 (j := 1) (by omega) rfl rfl g1) (fun _ => n1 (j := 1) (by omega) rfl rfl g1) (by omega) (by simp only [List.length_append, List.length_nil, wayV_len]; omega) ?_
    rw [w3]
    refine one 3 0 1 l1 h1 (mkD l0 m).1 (mkD l0 m).1 _ (by omega) (by omega) (by decide) (by decide) (by omega) rfl rfl g1 (n0 (j := 0) (by omega) rfl rfl g0) (by omega) (fun _ => rfl) (by simp only [List.length_append, List.length_nil, wayV_len]; omega) ?_
    rw [w4]
    exact fin _
  exact Evt.inr (Evt.diag all) .pure

def edgesB (b : Bx) (D : Nat) : List Ed := edgesV b.1.toNat D (b.2.1.getD 0 0) (b.2.1.getD 1 0) (b.2.2.getD 0 0) (b.2.2.getD 1 0)
theorem edgesB_len (b : Bx) (D : Nat) : (edgesB b D).length = 4 * 2 ^ D := edgesV_len _ _ _ _ _ _
theorem edgesB_ok {b : Bx} {D : Nat} : ∀ e ∈ edgesB b D, EdOk e := edgesV_ok
theorem imEdgesB_ev {b : Bx} {D : Nat} (h : plV b = true) (hD : D ≤ 5) : Evt (fun k _ => spec_imEdges k b D) (edgesB b D) := by
  obtain ⟨m, l0, l1, h0, h1, rfl, hm, g0, g1⟩ := plV_form h
  exact imEdges_ev hm hD g0 g1
theorem boundaryEdgesB_ev {b : Bx} {D : Nat} (h : plV b = true) (hD : D ≤ 5) : Evt (fun k _ => impl_boundaryEdges k b D) (edgesB b D) := by
  obtain ⟨m, l0, l1, h0, h1, rfl, hm, g0, g1⟩ := plV_form h
  exact boundaryEdges_ev hm hD g0 g1
end Go.Ev.G

namespace Go.Ev.G
open Go Go.Ev
set_option maxRecDepth 100000

theorem tmodN (a b : Nat) : Int.tmod (a : Int) (b : Int) = ((a % b : Nat) : Int) := rfl

/-- the turns: both count alike -/
theorem turns2_ev {x : List Int} (h0 : 0 < x.length) (hb : x.length ≤ 128) : ∃ (v : Int) (f : Bool), Evt (fun k _ => spec_imTurns k x) (v, f) ∧ Evt (fun k _ => impl_turnsOf k x) (if f then v else 0, f) := by
  have key : ∀ (r d : List Int) (t : Int), d ++ r = x → ∃ res : (Int × Bool) ⊕ (Int × Unit), (∀ q, res = .inl q → q = (0, false)) ∧ Evt (fun k n => spec_imTurns_L58 k n x t x (x.length : Int) d.length) res ∧ Evt (fun k n => impl_turnsOf_L58 k n x t x (x.length : Int) d.length) res := by
    intro r
    induction r with
    | nil =>
      intro d t h
      rw [List.append_nil] at h
      refine ⟨.inr (t, ()), (fun q hq => by cases hq), ?_, ?_⟩
      · refine Evt.step (fun k n => spec_imTurns_L58.eq_2 k _ _ _ _ _ n) ?_
        rw [h]
        exact Evt.rng0 .pure
      · refine Evt.step (fun k n => impl_turnsOf_L58.eq_2 k _ _ _ _ _ n) ?_
        rw [h]
        exact Evt.rng0 .pure
    | cons e r ih =>
      intro d t h
      have hl := congrArg List.length h
      simp at hl
      have hnx : IntKind.wrap .i64 ((d.length : Int) + 1) = ((d ++ [e]).length : Int) := by rw [w64_next (by simp only [lenB]; omega)]; simp
      have hw : IntKind.wrap .i64 ((d.length : Int) + 1) = ((d.length + 1 : Nat) : Int) := w64_next (by simp only [lenB]; omega)
      have hmod : (d.length + 1) % x.length < x.length := Nat.mod_lt _ h0
      have e1 : x.getD (Int.toNat (d.length : Int)) 0 = e := by rw [← h]; exact mid_get
      generalize hD : Int.tmod (IntKind.wrap .i64 ((IntKind.wrap .i64 ((x.getD (Int.toNat (Int.tmod (IntKind.wrap .i64 ((d.length : Int) + 1)) (x.length : Int))) 0) - (x.getD (Int.toNat (d.length : Int)) 0))) + 4)) 4 = D
      have g1 : decide ((d.length : Int) < (x.length : Int)) = true := decide_eq_true (by omega)
      have g2 : ((x.length : Int) == 0) = false := by rw [beq_eq_false_iff_ne]; omega
      have g3 : decide (0 ≤ Int.tmod (IntKind.wrap .i64 ((d.length : Int) + 1)) (x.length : Int)) = true := by rw [hw, tmodN]; exact decide_eq_true (Int.natCast_nonneg _)
      have g4 : decide (Int.tmod (IntKind.wrap .i64 ((d.length : Int) + 1)) (x.length : Int) < (x.length : Int)) = true := by rw [hw, tmodN]; exact decide_eq_true (Int.ofNat_lt.2 hmod)
      have s1 : ∀ {res}, Evt (fun k n => (bif (D == 1) then (spec_imTurns_L58 k n x (IntKind.wrap .i64 (t + 1)) x (x.length : Int) (IntKind.wrap .i64 ((d.length : Int) + 1))) else (bif (D == 2) then some (Sum.inl (0, false)) else (bif (D == 3) then (spec_imTurns_L58 k n x (IntKind.wrap .i64 (t - 1)) x (x.length : Int) (IntKind.wrap .i64 ((d.length : Int) + 1))) else (spec_imTurns_L58 k n x t x (x.length : Int) (IntKind.wrap .i64 ((d.length : Int) + 1))))))) res → Evt (fun k n => spec_imTurns_L58 k n x t x (x.length : Int) d.length) res := by
        intro res hh
        refine Evt.step (fun k n => spec_imTurns_L58.eq_2 k _ _ _ _ _ n) (Evt.ctrue g1 (Evt.ctrue mid_ge (Evt.ctrue g1 (Evt.cfalse g2 (Evt.ctrue g3 (Evt.ctrue g4 ?_))))))
        rw [hD]
        exact hh
      have s2 : ∀ {res}, Evt (fun k n => (bif (D == 1) then (impl_turnsOf_L58 k n x (IntKind.wrap .i64 (t + 1)) x (x.length : Int) (IntKind.wrap .i64 ((d.length : Int) + 1))) else (bif (D == 2) then some (Sum.inl (0, false)) else (bif (D == 3) then (impl_turnsOf_L58 k n x (IntKind.wrap .i64 (t - 1)) x (x.length : Int) (IntKind.wrap .i64 ((d.length : Int) + 1))) else (impl_turnsOf_L58 k n x t x (x.length : Int) (IntKind.wrap .i64 ((d.length : Int) + 1))))))) res → Evt (fun k n => impl_turnsOf_L58 k n x t x (x.length : Int) d.length) res := by
        intro res hh
        refine Evt.step (fun k n => impl_turnsOf_L58.eq_2 k _ _ _ _ _ n) (Evt.ctrue g1 (Evt.ctrue mid_ge (Evt.ctrue g1 (Evt.cfalse g2 (Evt.ctrue g3 (Evt.ctrue g4 ?_))))))
        rw [hD]
        exact hh
      have ih := fun t => ih (d ++ [e]) t (by simpa using h)
      rw [← hnx] at ih
      cases h1 : (D == 1) with
      | true =>
        obtain ⟨res, q0, q1, q2⟩ := ih (IntKind.wrap .i64 (t + 1))
        exact ⟨res, q0, s1 (Evt.ctrue h1 q1), s2 (Evt.ctrue h1 q2)⟩
      | false =>
      cases h2 : (D == 2) with
      | true => exact ⟨.inl (0, false), (fun q hq => by cases hq; rfl), s1 (Evt.cfalse h1 (Evt.ctrue h2 .pure)), s2 (Evt.cfalse h1 (Evt.ctrue h2 .pure))⟩
      | false =>
      cases h3 : (D == 3) with
      | true =>
        obtain ⟨res, q0, q1, q2⟩ := ih (IntKind.wrap .i64 (t - 1))
        exact ⟨res, q0, s1 (Evt.cfalse h1 (Evt.cfalse h2 (Evt.ctrue h3 q1))), s2 (Evt.cfalse h1 (Evt.cfalse h2 (Evt.ctrue h3 q2)))⟩
      | false =>
        obtain ⟨res, q0, q1, q2⟩ := ih t
        exact ⟨res, q0, s1 (Evt.cfalse h1 (Evt.cfalse h2 (Evt.cfalse h3 q1))), s2 (Evt.cfalse h1 (Evt.cfalse h2 (Evt.cfalse h3 q2)))⟩
  obtain ⟨res, q0, q1, q2⟩ := key x [] 0 rfl
  simp only [List.length_nil] at q1 q2
  cases res with
  | inl q =>
    have hf := q0 _ rfl
    subst hf
    refine ⟨0, false, ?_, ?_⟩
    · refine Evt.eq (f := fun k q => _) ?_ (fun k q => by rw [spec_imTurns])
      exact Evt.inl (Evt.diag q1) .pure
    · refine Evt.eq (f := fun k q => _) ?_ (fun k q => by rw [impl_turnsOf])
      exact Evt.inl (Evt.diag q2) .pure
  | inr y =>
    obtain ⟨t, u⟩ := y
    refine ⟨IntKind.wrap .i64 (Int.tdiv t 4), (Int.tmod t 4 == 0), ?_, ?_⟩
    · refine Evt.eq (f := fun k q => _) ?_ (fun k q => by rw [spec_imTurns])
      exact Evt.inr (Evt.diag q1) .pure
    · refine Evt.eq (f := fun k q => _) ?_ (fun k q => by rw [impl_turnsOf])
      cases ht : (Int.tmod t 4 == 0) with
      | true => exact Evt.inr (Evt.diag q2) (Evt.cfalse (by unfold bne; rw [ht]; rfl) .pure)
      | false => exact Evt.inr (Evt.diag q2) (Evt.ctrue (by unfold bne; rw [ht]; rfl) .pure)
end Go.Ev.G

namespace Go.Ev.G
open Go Go.Ev
set_option maxRecDepth 100000

section
variable {V : Type}
theorem frame_sb {a : List (List Tm)} {b : Bx} {S I : Nat → List (List Tm) → Bx → Option V} {C : Nat → V → V → Option Bool → Option Bool} {v : V} (ha : a.length ≤ maxLen) (hm : ∀ x ∈ a, x.length ≤ maxLen) (h1 : b.2.1.length ≤ maxLen) (h2 : b.2.2.length ≤ maxLen)
    (hC : ∀ {f : Nat → Nat → Option Bool} {r : Bool}, Evt f r → Evt (fun k n => C k v v (f k n)) r)
    (hS : a.length < 274877906944 → (∀ r ∈ a, r.length < lenB) → b.2.1.length < lenB → Evt (fun k _ => S k a b) v) (hI : a.length < lenB → (∀ r ∈ a, r.length < lenB) → b.2.1.length < lenB → Evt (fun k _ => I k a b) v) :
    Evt (fun k _ => (Option.bind (laws_szTermSS k a 1000000) fun r1 => (bif (decide (r1 < 0)) then some true else (Option.bind (laws_szBox b r1) fun r2 => (bif (decide (r2 < 0)) then some true else (Option.bind (laws_toTermSS k a false) fun r3 => (Option.bind (laws_toBox k b false) fun r4 => (Option.bind (S k (r3.1.map fun z => z.1) (r4.1, r4.2.1.1, r4.2.2.1)) fun r5 => (Option.bind (laws_toTermSS k a false) fun r6 => (Option.bind (laws_toBox k b false) fun r7 => (Option.bind (I k (r6.1.map fun z => z.1) (r7.1, r7.2.1.1, r7.2.2.1)) fun r8 => C k r5 r8 (Option.bind (laws_toTermSS k a false) fun r9 => (Option.bind (laws_intactTermSS k r6 r9) fun r10 => (bif (!r10) then some false else (Option.bind (laws_toBox k b false) fun r11 => (Option.bind (laws_intactBox k r7 r11) fun r12 => (bif (!r12) then some false else (Option.bind (laws_toTermSS k a true) fun r13 => (Option.bind (laws_toBox k b true) fun r14 => (Option.bind (I k (r13.1.map fun z => z.1) (r14.1, r14.2.1.1, r14.2.2.1)) fun r15 => C k r5 r15 (some true))))))))))))))))))))) true := by
  refine Evt.bind (szTermSS_ev (a := 1000000) ha hm (by omega)) ?_
  by_cases hz : a.length + (a.map List.length).sum ≤ 1000000
  · rw [if_pos hz]
    have hs : Sized a := hz
    refine Evt.cfalse (by simp <;> omega) (Evt.bind (.const (szBox_eq h1 h2 (by omega))) ?_)
    by_cases hy : b.2.1.length + b.2.2.length ≤ 1000000 - (a.length + (a.map List.length).sum)
    · rw [if_pos hy]
      refine Evt.cfalse (by simp <;> omega) ?_
      have b1 : b.2.1.length ≤ 1000000 := by omega
      have b2 : b.2.2.length ≤ 1000000 := by omega
      have hr : ∀ r ∈ a, r.length < lenB := fun r hr => by have := hs.row r hr; simp only [lenB]; omega
      have hl := hs.len
      have spec := hS (by omega) hr (by simp only [lenB]; omega)
      have impl := hI (by simp only [lenB]; omega) hr (by simp only [lenB]; omega)
      refine Evt.bind (toTermSS_ev hs.len hs.row) (Evt.bind (toBox_ev b1 b2) ?_)
      simp only [toV_rows, boxR_eq]
      refine Evt.bind spec (Evt.bind (toTermSS_ev hs.len hs.row) (Evt.bind (toBox_ev b1 b2) ?_))
      simp only [toV_rows, boxR_eq]
      refine Evt.bind impl (hC (Evt.bind (toTermSS_ev hs.len hs.row) (Evt.bind (intactT_ev hs) (Evt.cfalse rfl (Evt.bind (toBox_ev b1 b2) (Evt.bind (intactBox_ev b1 b2) (Evt.cfalse rfl (Evt.bind (toTermSS_ev hs.len hs.row) (Evt.bind (toBox_ev b1 b2) ?_)))))))))
      simp only [toV_rows, boxR_eq]
      exact Evt.bind impl (hC .pure)
    · rw [if_neg hy]
      exact Evt.ctrue rfl .pure
  · rw [if_neg hz]
    exact Evt.ctrue rfl .pure
end
theorem cmp_int {v : Int × Bool} {f : Nat → Nat → Option Bool} {r : Bool} (h : Evt f r) : Evt (fun k n => (bif (v.1 != v.1) then some false else (bif (!(v.2 == v.2)) then some false else f k n))) r := Evt.cfalse (by simp) (Evt.cfalse (by simp) h)
def rsnsV (s : List (List Tm)) : List Ed → List Int × Bool
  | [] => ([], true)
  | e :: r => match rsn s e with
    | some j => ((j : Int) :: (rsnsV s r).1, (rsnsV s r).2)
    | none => ([], false)
theorem rsnsV_len {s : List (List Tm)} : ∀ (es : List Ed), (rsnsV s es).1.length ≤ es.length ∧ ((rsnsV s es).2 = true ↔ (rsnsV s es).1.length = es.length)
  | [] => by simp [rsnsV]
  | e :: r => by
    have := rsnsV_len (s := s) r
    unfold rsnsV
    cases rsn s e with
    | none => simp
    | some j =>
      simp only [List.length_cons]
      exact ⟨by omega, by rw [this.2]; omega⟩
/-- what a plane system is asked to be -/
structure Pl (s : List (List Tm)) : Prop where
  ln : s.length = 2
  tm : ∀ p ∈ s, ∀ t ∈ p, tmW t
  lp : ∀ p ∈ s, p.length < lenB
theorem twoV_pl {s : List (List Tm)} (h : twoV s = true) (hm : ∀ r ∈ s, r.length < lenB) : Pl s := ⟨(twoV_len h).2, sysV_tm (twoV_len h).1, hm⟩
theorem Pl.sd {s : List (List Tm)} (h : Pl s) {e : Ed} (he : EdOk e) : Sd s (sidesE e) := Sd.edge h.tm h.lp he
theorem imReasons_loop {s : List (List Tm)} (hs : Pl s) {es : List Ed} (he : ∀ e ∈ es, EdOk e) (hl : es.length ≤ 1000) : ∀ (r d : List Ed) (acc : List Int), d ++ r = es → acc.length = d.length →
    Evt (fun k n => spec_imReasons_L58 k n s acc es (es.length : Int) d.length) (if (rsnsV s r).2 then .inr (acc ++ (rsnsV s r).1, ()) else .inl (acc ++ (rsnsV s r).1))
  | [], d, acc, hd, _ => by
    rw [List.append_nil] at hd
    subst hd
    refine Evt.step (fun k n => spec_imReasons_L58.eq_2 k _ _ _ _ _ n) (Evt.rng0 ?_)
    simp only [rsnsV, if_true, List.append_nil]
    exact .pure
  | e :: r, d, acc, hd, ha => by
    have ge := he e (by rw [← hd]; simp)
    have hdl := congrArg List.length hd
    simp only [List.length_append, List.length_cons] at hdl
    refine Evt.step (fun k n => spec_imReasons_L58.eq_2 k _ _ _ _ _ n) ?_
    rw [← hd]
    refine Evt.ctrue mid_lt (Evt.ctrue mid_ge (Evt.ctrue mid_lt ?_))
    rw [mid_get, len_next (by rw [hd]; simp only [lenB]; omega)]
    have hre := imReason_ev2 (hs.sd ge) hs.ln
    refine Evt.bind (imSides_ev ge) ?_
    unfold rsnsV
    cases hj : rsn s e with
    | none =>
      rw [hj] at hre
      refine Evt.bind hre (Evt.ctrue rfl ?_)
      simp only [Bool.false_eq_true, if_false, List.append_nil]
      exact .pure
    | some j =>
      rw [hj] at hre
      refine Evt.bind hre (Evt.cfalse rfl (Evt.ctrue (decide_eq_true (by simp only [List.length_cons, List.length_nil]; omega)) ?_))
      have ih := imReasons_loop hs he hl r (d ++ [e]) (acc ++ [(j : Int)]) (by simpa using hd) (by simp [ha])
      rw [← hd] at ih
      simp only [List.append_assoc, List.singleton_append] at ih ⊢
      exact ih
theorem boundaryReasons_loop {s : List (List Tm)} (hs : Pl s) {es : List Ed} (he : ∀ e ∈ es, EdOk e) (hl : es.length ≤ 1000) : ∀ (r d : List Ed) (acc : List Int), d ++ r = es → acc.length = d.length →
    Evt (fun k n => impl_boundaryReasons_L58 k n s acc es (es.length : Int) d.length) (if (rsnsV s r).2 then .inr (acc ++ (rsnsV s r).1, ()) else .inl ([], false))
  | [], d, acc, hd, _ => by
    rw [List.append_nil] at hd
    subst hd
    refine Evt.step (fun k n => impl_boundaryReasons_L58.eq_2 k _ _ _ _ _ n) (Evt.rng0 ?_)
    simp only [rsnsV, if_true, List.append_nil]
    exact .pure
  | e :: r, d, acc, hd, ha => by
    have ge := he e (by rw [← hd]; simp)
    have hdl := congrArg List.length hd
    simp only [List.length_append, List.length_cons] at hdl
    refine Evt.step (fun k n => impl_boundaryReasons_L58.eq_2 k _ _ _ _ _ n) ?_
    rw [← hd]
    refine Evt.ctrue mid_lt (Evt.ctrue mid_ge (Evt.ctrue mid_lt ?_))
    rw [mid_get, len_next (by rw [hd]; simp only [lenB]; omega)]
    have hre := edgeReason_ev (hs.sd ge) ge hs.ln
    unfold rsnsV
    cases hj : rsn s e with
    | none =>
      rw [hj] at hre
      refine Evt.bind hre (Evt.ctrue rfl ?_)
      simp only [Bool.false_eq_true, if_false]
      exact .pure
    | some j =>
      rw [hj] at hre
      refine Evt.bind hre (Evt.cfalse (decide_eq_false (show ¬ ((j : Int) < 0) by omega)) (Evt.ctrue (decide_eq_true (by simp only [List.length_cons, List.length_nil]; omega)) ?_))
      have ih := boundaryReasons_loop hs he hl r (d ++ [e]) (acc ++ [(j : Int)]) (by simpa using hd) (by simp [ha])
      rw [← hd] at ih
      simp only [List.append_assoc, List.singleton_append] at ih ⊢
      exact ih
/-- the reasons of all edges, if all have one -/
def allV (s : List (List Tm)) (b : Bx) (D : Nat) : List Int × Bool := if (rsnsV s (edgesB b D)).2 then ((rsnsV s (edgesB b D)).1, true) else ([], false)
theorem pow2N5 {D : Nat} (h : D ≤ 5) : 1 ≤ 2 ^ D ∧ 2 ^ D ≤ 32 := by
  have := pow5 h
  have e : ((2 ^ D : Nat) : Int) = 2 ^ D := by simp
  omega
theorem imReasons_ev {s : List (List Tm)} {b : Bx} {D : Nat} (hs : Pl s) (hb : plV b = true) (hD : D ≤ 5) : Evt (fun k _ => spec_imReasons k s b D) (rsnsV s (edgesB b D)).1 := by
  refine Evt.eq (f := fun k q => _) ?_ (fun k q => by rw [spec_imReasons])
  have hp := pow2N5 hD
  refine Evt.bind (imEdgesB_ev hb hD) ?_
  have h := imReasons_loop hs (es := edgesB b D) edgesB_ok (by rw [edgesB_len]; omega) (edgesB b D) [] [] rfl rfl
  simp only [List.length_nil, List.nil_append] at h
  cases hf : (rsnsV s (edgesB b D)).2 with
  | true => rw [hf, if_pos rfl] at h; exact Evt.inr (Evt.diag h) .pure
  | false => rw [hf, if_neg (by simp)] at h; exact Evt.inl (Evt.diag h) .pure
theorem imAll_ev {s : List (List Tm)} {b : Bx} {D : Nat} (hs : Pl s) (hb : plV b = true) (hD : D ≤ 5) : Evt (fun k _ => spec_imAll k s b D) (allV s b D) := by
  refine Evt.eq (f := fun k q => _) ?_ (fun k q => by rw [spec_imAll])
  have hp := pow2N5 hD
  refine Evt.bind (imReasons_ev hs hb hD) (Evt.bind (.const (dyPower_eq (m := D) (by omega))) ?_)
  have hl := rsnsV_len (s := s) (edgesB b D)
  rw [edgesB_len] at hl
  rw [w64 (by omega) (by omega)]
  unfold allV
  cases hf : (rsnsV s (edgesB b D)).2 with
  | true =>
    rw [if_pos rfl]
    have := hl.2.1 hf
    exact Evt.cfalse (decide_eq_false (by omega)) .pure
  | false =>
    rw [if_neg (by simp)]
    have : ¬ (rsnsV s (edgesB b D)).1.length = 4 * 2 ^ D := fun h => by rw [hl.2.2 h] at hf; cases hf
    exact Evt.ctrue (decide_eq_true (by omega)) .pure
theorem boundaryReasons_ev {s : List (List Tm)} {b : Bx} {D : Nat} (hs : Pl s) (hb : plV b = true) (hD : D ≤ 5) : Evt (fun k _ => impl_boundaryReasons k s b D) (allV s b D) := by
  refine Evt.eq (f := fun k q => _) ?_ (fun k q => by rw [impl_boundaryReasons])
  have hp := pow2N5 hD
  refine Evt.bind (boundaryEdgesB_ev hb hD) ?_
  have h := boundaryReasons_loop hs (es := edgesB b D) edgesB_ok (by rw [edgesB_len]; omega) (edgesB b D) [] [] rfl rfl
  simp only [List.length_nil, List.nil_append] at h
  unfold allV
  cases hf : (rsnsV s (edgesB b D)).2 with
  | true => rw [hf, if_pos rfl] at h; exact Evt.inr (Evt.diag h) .pure
  | false => rw [hf, if_neg (by simp)] at h; exact Evt.inl (Evt.diag h) .pure
theorem allV_len {s : List (List Tm)} {b : Bx} {D : Nat} (hD : D ≤ 5) : (allV s b D).1.length ≤ 128 ∧ ((allV s b D).2 = true → 0 < (allV s b D).1.length) := by
  have hp := pow2N5 hD
  have hl := rsnsV_len (s := s) (edgesB b D)
  rw [edgesB_len] at hl
  unfold allV
  split
  · rename_i hf
    have := hl.2.1 hf
    simp only
    exact ⟨by omega, fun _ => by omega⟩
  · simp
/-- what is asked of a system, a box and a depth -/
def askV (s : List (List Tm)) (b : Bx) (d : Int) : Bool := planeV s b && decide (0 ≤ d ∧ d ≤ 5)
theorem imAsked_ev {m : List (List Tm)} {b : Bx} {d : Int} (hb : m.length < lenB) (hm : ∀ r ∈ m, r.length < lenB) (hx : b.2.1.length < lenB) : Evt (fun k _ => spec_imAsked k m b d) (askV m b d) := by
  refine Evt.eq (f := fun k q => _) ?_ (fun k q => by rw [spec_imAsked])
  refine Evt.bind (imGood_ev hb hm hx) ?_
  unfold askV
  cases planeV m b with
  | false => exact Evt.cfalse rfl .pure
  | true =>
    refine Evt.ctrue rfl (Evt.bind (.const (?_ : spec_imDepth d = some (decide (0 ≤ d ∧ d ≤ 5)))) .pure)
    unfold spec_imDepth
    rw [l1In_eq]; rfl
end Go.Ev.G

namespace Go.Ev.G
open Go Go.Ev
set_option maxRecDepth 100000

theorem spec_ask {V : Type} {s : List (List Tm)} {b : Bx} {d : Int} {z : V} {g : Nat → Option V} {v : V} (hb : s.length < lenB) (hm : ∀ r ∈ s, r.length < lenB) (hx : b.2.1.length < lenB) (hz : askV s b d = false → v = z) (hg : askV s b d = true → Evt (fun k _ => g k) v) :
    Evt (fun k _ => (Option.bind (spec_imAsked k s b d) fun r1 => (bif (!r1) then some z else g k))) v := by
  refine Evt.bind (imAsked_ev hb hm hx) ?_
  cases hp : askV s b d with
  | false => rw [hz hp]; exact Evt.ctrue rfl .pure
  | true => exact Evt.cfalse rfl (hg hp)

def ldV (s : List (List Tm)) (b : Bx) : Int × Bool := if planeV s b then (match (List.range 6).find? (fun D => (allV s b D).2) with | some j => ((j : Int), true) | none => (0, false)) else (0, false)
theorem planeV_form {s : List (List Tm)} {b : Bx} (h : planeV s b = true) (hm : ∀ r ∈ s, r.length < lenB) : Pl s ∧ plV b = true := by
  unfold planeV at h
  rw [Bool.and_eq_true] at h
  exact ⟨twoV_pl h.1 hm, h.2⟩
theorem spec_leastDepth_ev {s : List (List Tm)} {b : Bx} (hb : s.length < lenB) (hm : ∀ r ∈ s, r.length < lenB) (hx : b.2.1.length < lenB) : Evt (fun k _ => spec_LeastDepth k s b) (ldV s b) := by
  refine Evt.eq (f := fun k q => _) ?_ (fun k q => by rw [spec_LeastDepth])
  refine Evt.bind (imGood_ev hb hm hx) ?_
  unfold ldV
  cases h : planeV s b with
  | false => exact Evt.ctrue rfl .pure
  | true =>
    obtain ⟨hs, hp⟩ := planeV_form h hm
    have := find_loop (L := fun k n i => spec_LeastDepth_L58 k n s b i) (p := fun k i => Option.bind (spec_imAll k s b i) fun r => some r.2) (out := fun j => ((j : Int), true)) (N := 6) (P := fun D => (allV s b D).2) (by omega) (fun j hj => Evt.bind (imAll_ev hs hp (by omega)) .pure)
      (fun k n i hi => by rw [spec_LeastDepth_L58.eq_2, decide_eq_true (by omega)]; cases spec_imAll k s b i <;> rfl) (fun k n => by rw [spec_LeastDepth_L58.eq_2]; rfl)
    refine Evt.cfalse rfl ?_
    rw [if_pos rfl]
    cases hf : (List.range 6).find? (fun D => (allV s b D).2) with
    | none => rw [hf] at this; exact Evt.inr (Evt.diag this) .pure
    | some j => rw [hf] at this; exact Evt.inl (Evt.diag this) .pure
theorem leastDepth_ev {s : List (List Tm)} {b : Bx} (hs : Pl s) (hp : plV b = true) : Evt (fun k _ => impl_leastDepth k s b) (match (List.range 6).find? (fun D => (allV s b D).2) with | some j => ((j : Int), true) | none => (0, false)) := by
  refine Evt.eq (f := fun k q => _) ?_ (fun k q => by rw [impl_leastDepth])
  have := find_loop (L := fun k n i => impl_leastDepth_L26 k n s b i) (p := fun k i => Option.bind (impl_boundaryReasons k s b i) fun r => some r.2) (out := fun j => ((j : Int), true)) (N := 6) (P := fun D => (allV s b D).2) (by omega) (fun j hj => Evt.bind (boundaryReasons_ev hs hp (by omega)) .pure)
    (fun k n i hi => by rw [impl_leastDepth_L26.eq_2, decide_eq_true (by omega)]; cases impl_boundaryReasons k s b i <;> rfl) (fun k n => by rw [impl_leastDepth_L26.eq_2]; rfl)
  cases hf : (List.range 6).find? (fun D => (allV s b D).2) with
  | none => rw [hf] at this; exact Evt.inr (Evt.diag this) .pure
  | some j => rw [hf] at this; exact Evt.inl (Evt.diag this) .pure
theorem winding_val (s : List (List Tm)) (b : Bx) {D : Nat} (hD : D ≤ 5) : ∃ v : Int × Bool, (Pl s → plV b = true → Evt (fun k _ => impl_windingOf k s b D) v) ∧
    (Pl s → plV b = true → Evt (fun k _ => (Option.bind (spec_imAll k s b D) fun r2 => (bif (!r2.2) then some (0, false) else (Option.bind (spec_imTurns k r2.1) fun r3 => (bif (!r3.2) then some (0, false) else some (r3.1, true)))))) v) := by
  have hl := allV_len (s := s) (b := b) hD
  cases hf : (allV s b D).2 with
  | false =>
    refine ⟨(0, false), fun hs hp => ?_, fun hs hp => ?_⟩
    · refine Evt.eq (f := fun k q => _) ?_ (fun k q => by rw [impl_windingOf])
      exact Evt.bind (boundaryReasons_ev hs hp hD) (Evt.ctrue (by rw [hf]; rfl) .pure)
    · exact Evt.bind (imAll_ev hs hp hD) (Evt.ctrue (by rw [hf]; rfl) .pure)
  | true =>
    obtain ⟨v, f, h1, h2⟩ := turns2_ev (hl.2 hf) hl.1
    refine ⟨(if f then v else 0, f), fun hs hp => ?_, fun hs hp => ?_⟩
    · refine Evt.eq (f := fun k q => _) ?_ (fun k q => by rw [impl_windingOf])
      exact Evt.bind (boundaryReasons_ev hs hp hD) (Evt.cfalse (by rw [hf]; rfl) (Evt.bind h2 .pure))
    · refine Evt.bind (imAll_ev hs hp hD) (Evt.cfalse (by rw [hf]; rfl) (Evt.bind h1 ?_))
      cases f with
      | true => exact Evt.cfalse rfl .pure
      | false => exact Evt.ctrue rfl .pure
end Go.Ev.G

namespace Go.Ev.G
open Go Go.Ev

theorem dgo_val (s : List (List Tm)) (b : Bx) (h : planeV s b = true) : ∃ v : Int × Bool, (Pl s → plV b = true → Evt (fun k _ => impl_degreeOver k s b) v) ∧ (s.length < lenB → (∀ r ∈ s, r.length < lenB) → b.2.1.length < lenB → Evt (fun k _ => spec_dgPlane k s b) v) := by
  cases hf : (List.range 6).find? (fun D => (allV s b D).2) with
  | none =>
    refine ⟨(0, false), fun hs hp => ?_, fun hb hm hx => ?_⟩
    · refine Evt.eq (f := fun k q => _) ?_ (fun k q => by rw [impl_degreeOver])
      have := leastDepth_ev hs hp
      rw [hf] at this
      exact Evt.bind this (Evt.ctrue rfl .pure)
    · refine Evt.eq (f := fun k q => _) ?_ (fun k q => by rw [spec_dgPlane])
      have := spec_leastDepth_ev hb hm hx
      unfold ldV at this
      rw [if_pos h, hf] at this
      exact Evt.bind this (Evt.ctrue rfl .pure)
  | some j =>
    have hj : j ≤ 5 := by
      have := List.mem_range.1 (List.mem_of_find?_eq_some hf)
      omega
    obtain ⟨v, h1, h2⟩ := winding_val s b hj
    refine ⟨v, fun hs hp => ?_, fun hb hm hx => ?_⟩
    · refine Evt.eq (f := fun k q => _) ?_ (fun k q => by rw [impl_degreeOver])
      have := leastDepth_ev hs hp
      rw [hf] at this
      exact Evt.bind this (Evt.cfalse rfl (Evt.bind (h1 hs hp) .pure))
    · refine Evt.eq (f := fun k q => _) ?_ (fun k q => by rw [spec_dgPlane])
      have := spec_leastDepth_ev hb hm hx
      unfold ldV at this
      rw [if_pos h, hf] at this
      refine Evt.bind this (Evt.cfalse rfl (Evt.bind ?_ .pure))
      refine Evt.eq (f := fun k q => _) ?_ (fun k q => by rw [spec_WindingOf])
      have ha : askV s b (j : Int) = true := by
        unfold askV
        rw [h, decide_eq_true (by omega)]
        rfl
      refine spec_ask hb hm hx (fun h' => by rw [ha] at h'; cases h') (fun _ => ?_)
      obtain ⟨hs, hp⟩ := planeV_form h hm
      exact h2 hs hp
theorem degreeOver_val (s : List (List Tm)) (b : Bx) : ∃ v : Int × Bool, (s.length < lenB → (∀ r ∈ s, r.length < lenB) → b.2.1.length < lenB → Evt (fun k _ => spec_DegreeOver k s b) v) ∧ (s.length < lenB → (∀ r ∈ s, r.length < lenB) → b.2.1.length < lenB → Evt (fun k _ => impl_DegreeOver k s b) v) := by
  cases h : planeV s b with
  | false =>
    refine ⟨(0, false), fun hb hm hx => ?_, fun hb hm hx => ?_⟩
    · refine Evt.eq (f := fun k q => _) ?_ (fun k q => by rw [spec_DegreeOver])
      exact Evt.bind (imGood_ev hb hm hx) (Evt.ctrue (by rw [h]; rfl) .pure)
    · refine Evt.eq (f := fun k q => _) ?_ (fun k q => by rw [impl_DegreeOver])
      exact Evt.bind (isPlane_ev hb hm hx) (Evt.ctrue (by rw [h]; rfl) .pure)
  | true =>
    obtain ⟨v, h1, h2⟩ := dgo_val s b h
    refine ⟨v, fun hb hm hx => ?_, fun hb hm hx => ?_⟩
    · refine Evt.eq (f := fun k q => _) ?_ (fun k q => by rw [spec_DegreeOver])
      exact Evt.bind (imGood_ev hb hm hx) (Evt.cfalse (by rw [h]; rfl) (Evt.bind (h2 hb hm hx) .pure))
    · refine Evt.eq (f := fun k q => _) ?_ (fun k q => by rw [impl_DegreeOver])
      obtain ⟨hs, hp⟩ := planeV_form h hm
      exact Evt.bind (isPlane_ev hb hm hx) (Evt.cfalse (by rw [h]; rfl) (Evt.bind (h1 hs hp) .pure))
theorem degreeOver_row (a : List (List Tm)) (b : Bx) (h : WfT (.sl (.sl tTerm)) a) (hb : WfT tBox b) : ∃ k, laws_FnExactDegreeOver k a b = some true := by
  obtain ⟨v, hS, hI⟩ := degreeOver_val a b
  exact Evt.get (Evt.eq (frame_sb (S := fun k a b => spec_DegreeOver k a b) (I := fun k a b => impl_DegreeOver k a b) (C := fun _ r5 r8 x => (bif (r8.1 != r5.1) then some false else (bif (!(r8.2 == r5.2)) then some false else x))) (v := v) h.1 (fun x hx => (h.2 x hx).1) hb.2.1.1 hb.2.2.1 cmp_int
    (fun h1 h2 h3 => hS (by simp only [lenB]; omega) h2 h3) (fun h1 h2 h3 => hI h1 h2 h3)) (fun k _ => rfl))
end Go.Ev.G

