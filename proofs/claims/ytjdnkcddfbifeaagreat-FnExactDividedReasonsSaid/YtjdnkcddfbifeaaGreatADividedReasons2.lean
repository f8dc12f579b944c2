/- What the plain functions of the law compute, for all inputs within the sizes that the theorems name. -/
import Derived.Test.YtjdnkcddfbifeaaGreatPDividedReasons1
import Derived.Test.YtjdnkcddfbifeaaGreatADividedReasons1
set_option linter.unusedVariables false
namespace Go.Ev.G
open Go Go.Ev
set_option maxRecDepth 100000

abbrev Bx := Int × List Int × List Int
def plV (b : Bx) : Bool := bxV b && (((b.2.1.length : Int) == 2) && decide (b.1 ≤ 3))
theorem imBox_ev {b : Bx} (hb : b.2.1.length < lenB) : Evt (fun k _ => spec_imBox k b) (plV b) := by
  refine Evt.eq (f := fun k q => _) ?_ (fun k q => by rw [spec_imBox])
  refine Evt.bind (bxGood_ev hb) ?_
  unfold plV
  cases bxV b with
  | false => exact Evt.cfalse rfl .pure
  | true =>
    refine Evt.ctrue rfl ?_
    cases ((b.2.1.length : Int) == 2) with
    | false => exact Evt.cfalse rfl .pure
    | true => exact Evt.ctrue rfl .pure
theorem isPlaneBox_ev {b : Bx} (hb : b.2.1.length < lenB) : Evt (fun k _ => impl_isPlaneBox k b) (plV b) := by
  refine Evt.eq (f := fun k q => _) ?_ (fun k q => by rw [impl_isPlaneBox])
  refine Evt.bind (isBox_ev hb) ?_
  unfold plV
  cases bxV b with
  | false => exact Evt.cfalse rfl .pure
  | true =>
    refine Evt.ctrue rfl ?_
    cases ((b.2.1.length : Int) == 2) with
    | false => exact Evt.cfalse rfl .pure
    | true => exact Evt.ctrue rfl .pure
def planeV (m : List (List Tm)) (b : Bx) : Bool := twoV m && plV b
theorem imGood_ev {m : List (List Tm)} {b : Bx} (hb : m.length < lenB) (hm : ∀ r ∈ m, r.length < lenB) (hx : b.2.1.length < lenB) : Evt (fun k _ => spec_imGood k m b) (planeV m b) := by
  refine Evt.eq (f := fun k q => _) ?_ (fun k q => by rw [spec_imGood])
  refine Evt.bind (poSystem_ev hb hm) ?_
  unfold planeV twoV
  cases sysV m with
  | false => exact Evt.cfalse rfl .pure
  | true =>
    refine Evt.ctrue rfl ?_
    cases ((m.length : Int) == 2) with
    | false => exact Evt.cfalse rfl .pure
    | true => exact Evt.ctrue rfl (Evt.bind (imBox_ev hx) .pure)
theorem isPlane_ev {m : List (List Tm)} {b : Bx} (hb : m.length < lenB) (hm : ∀ r ∈ m, r.length < lenB) (hx : b.2.1.length < lenB) : Evt (fun k _ => impl_isPlane k m b) (planeV m b) := by
  refine Evt.eq (f := fun k q => _) ?_ (fun k q => by rw [impl_isPlane])
  refine Evt.bind (isTwo_ev hb hm) ?_
  unfold planeV
  cases twoV m with
  | false => exact Evt.cfalse rfl .pure
  | true => exact Evt.ctrue rfl (Evt.bind (isPlaneBox_ev hx) .pure)
theorem plV_form {b : Bx} (h : plV b = true) : ∃ (m : Nat) (l0 l1 h0 h1 : Int), b = ((m : Int), [l0, l1], [h0, h1]) ∧ m ≤ 3 ∧ (-64 ≤ l0 ∧ l0 < h0 ∧ h0 ≤ 64) ∧ (-64 ≤ l1 ∧ l1 < h1 ∧ h1 ≤ 64) := by
  obtain ⟨d8, los, his⟩ := b
  unfold plV bxV at h
  simp only [Bool.and_eq_true, decide_eq_true_eq, beq_iff_eq] at h
  obtain ⟨⟨g1, g2, g3, g4, _⟩, g5, g6⟩ := h
  match los, his, g3, g5, g4 with
  | [l0, l1], [h0, h1], _, _, g4 =>
    refine ⟨d8.toNat, l0, l1, h0, h1, by rw [Int.toNat_of_nonneg g1.1], by omega, ?_⟩
    have hp : (8 : Int) * 2 ^ d8.toNat ≤ 64 := by
      have h1 : (2 : Nat) ^ d8.toNat ≤ 2 ^ 3 := Nat.pow_le_pow_right (by omega) (by omega)
      have h2 : ((2 : Int) ^ d8.toNat) = ((2 ^ d8.toNat : Nat) : Int) := by simp
      rw [h2]
      have : (2 : Nat) ^ 3 = 8 := by decide
      omega
    generalize (8 : Int) * 2 ^ d8.toNat = L at hp g4
    simp only [List.zip_cons_cons, List.zip_nil_left, List.all_cons, List.all_nil, Bool.and_true, Bool.and_eq_true, sideOk, decide_eq_true_eq] at g4
    omega

theorem strip_scale (k : Nat) (n : Int) : ∀ D : Nat, strip (k + D) (n * 2 ^ D) = strip k n
  | 0 => by simp
  | D + 1 => by
    have e : n * 2 ^ (D + 1) = (n * 2 ^ D) * 2 := by rw [Int.pow_succ, Int.mul_assoc]
    rw [e, ← Nat.add_assoc, strip, if_pos (by omega), Int.mul_ediv_cancel _ (by decide)]
    exact strip_scale k n D
theorem mkD_scale (k D : Nat) (n : Int) : mkD (n * 2 ^ D) (k + D) = mkD n k := by
  unfold mkD
  rw [strip_scale]
theorem pow5 {m : Nat} (h : m ≤ 5) : (1 : Int) ≤ 2 ^ m ∧ (2 : Int) ^ m ≤ 32 := by
  rcases (by omega : m = 0 ∨ m = 1 ∨ m = 2 ∨ m = 3 ∨ m = 4 ∨ m = 5) with rfl | rfl | rfl | rfl | rfl | rfl <;> decide
/-- a number on a side, some parts from its lower end -/
def numV (m D : Nat) (l h x : Int) : Int × Int := (mkD (l * 2 ^ D + x * (h - l)) (m + D)).1
theorem numV_gd (m D : Nat) (l h x : Int) : gd (numV m D l h x) := mkD_gd _ _
theorem mul_range {a b A B : Int} (h1 : -A ≤ a) (h2 : a ≤ A) (h3 : 0 ≤ b) (h4 : b ≤ B) (hA : 0 ≤ A) : -(A * B) ≤ a * b ∧ a * b ≤ A * B := by
  have e1 : a * b ≤ A * b := Int.mul_le_mul_of_nonneg_right h2 h3
  have e2 : A * b ≤ A * B := Int.mul_le_mul_of_nonneg_left h4 hA
  have e3 : -A * b ≤ a * b := Int.mul_le_mul_of_nonneg_right h1 h3
  rw [Int.neg_mul] at e3
  omega
theorem side_range {l h x : Int} {D : Nat} (hl : -64 ≤ l ∧ l < h ∧ h ≤ 64) (hD : D ≤ 5) (hx : 0 ≤ x ∧ x ≤ 64) : (-2048 ≤ l * 2 ^ D ∧ l * 2 ^ D ≤ 2048) ∧ (-2048 ≤ h * 2 ^ D ∧ h * 2 ^ D ≤ 2048) ∧ (0 ≤ x * (h - l) ∧ x * (h - l) ≤ 8192) := by
  have hp := pow5 hD
  have a := mul_range (a := l) (b := 2 ^ D) (A := 64) (B := 32) (by omega) (by omega) (by omega) (by omega) (by omega)
  have b := mul_range (a := h) (b := 2 ^ D) (A := 64) (B := 32) (by omega) (by omega) (by omega) (by omega) (by omega)
  have c := mul_range (a := x) (b := h - l) (A := 64) (B := 128) (by omega) (by omega) (by omega) (by omega) (by omega)
  have d : 0 ≤ x * (h - l) := Int.mul_nonneg hx.1 (by omega)
  omega
/-- the program's way to a number -/
theorem edges1_ev {m D : Nat} {b : Bx} {j : Nat} {l h x : Int} (hb1 : b.1 = m) (hj : j < b.2.1.length) (hj2 : j < b.2.2.length) (e1 : b.2.1.getD j 0 = l) (e2 : b.2.2.getD j 0 = h) (hl : -64 ≤ l ∧ l < h ∧ h ≤ 64) (hm : m ≤ 3) (hD : D ≤ 5) (hx : 0 ≤ x ∧ x ≤ 64) :
    Evt (fun k _ => impl_boundaryEdges_1 k j x b (2 ^ D) D) (numV m D l h x) := by
  have hr := side_range hl hD hx
  refine Evt.eq (f := fun k q => _) ?_ (fun k q => by rw [impl_boundaryEdges_1])
  refine Evt.ctrue (decide_eq_true (by omega)) (Evt.ctrue (decide_eq_true (by omega)) ?_)
  have el : impl_Box_length b j = some (h - l) := by
    unfold impl_Box_length
    rw [decide_eq_true (show (0 : Int) ≤ (j : Int) by omega), decide_eq_true (show (j : Int) < (b.2.2.length : Int) by omega), decide_eq_true (show (j : Int) < (b.2.1.length : Int) by omega)]
    simp only [cond_true, Int.toNat_natCast, e1, e2]
    rw [w64 (by omega) (by omega)]
  refine Evt.bind (.const el) ?_
  simp only [Int.toNat_natCast, e1]
  rw [w64 (n := l * 2 ^ D) (by omega) (by omega), w64 (n := x * (h - l)) (by omega) (by omega), w64 (by omega) (by omega), hb1, w64 (n := (m : Int) + (D : Int)) (by omega) (by omega)]
  refine Evt.bind (.const (wideOf_eq (by omega) (by omega))) ?_
  have := fitD_ev (n := l * 2 ^ D + x * (h - l)) (p := m + D) (by omega) (by omega) (by omega)
  rw [Int.natCast_add] at this
  exact Evt.bind this .pure
/-- one side of the way -/
def wayV (s : Int) (a : Int × Int) (g : Int → Int × Int) (c r : Nat) : List Ed := (List.range' c r).map fun i : Nat => (s, a, g (i : Int), g ((i : Int) + 1))
theorem imWay_ev {s : Int} {a : Int × Int} {u v : Int} {m D : Nat} {g : Int → Int × Int} (hu : -64 ≤ u ∧ u ≤ 64) (hv : -64 ≤ v ∧ v ≤ 64) (hm : m ≤ 3) (hD : D ≤ 5) (hg : ∀ x : Int, 0 ≤ x → x ≤ 2 ^ D → g x = (mkD (u * 2 ^ D + (v - u) * x) (m + D)).1) :
    Evt (fun k _ => spec_imWay k s a u v m D) (wayV s a g 0 (2 ^ D)) := by
  refine Evt.eq (f := fun k q => _) ?_ (fun k q => by rw [spec_imWay])
  refine Evt.bind (.const (dyPower_eq (m := D) (by omega))) ?_
  have hp := pow5 hD
  have hN : ((2 ^ D : Nat) : Int) = 2 ^ D := by simp
  generalize hNN : 2 ^ D = N at hN
  have num : ∀ x : Int, 0 ≤ x → x ≤ N → Evt (fun k _ => spec_bxNumber k (IntKind.wrap .i64 ((IntKind.wrap .i64 (u * (N : Int))) + (IntKind.wrap .i64 ((IntKind.wrap .i64 (v - u)) * x)))) (IntKind.wrap .i64 ((m : Int) + (D : Int)))) (g x) := by
    intro x h1 h2
    have a1 := mul_range (a := u) (b := 2 ^ D) (A := 64) (B := 32) (by omega) (by omega) (by omega) (by omega) (by omega)
    have a2 := mul_range (a := v - u) (b := x) (A := 128) (B := 32) (by omega) (by omega) (by omega) (by omega) (by omega)
    rw [hN, w64 (n := v - u) (by omega) (by omega), w64 (n := u * 2 ^ D) (by omega) (by omega), w64 (n := (v - u) * x) (by omega) (by omega), w64 (by omega) (by omega), w64 (n := (m : Int) + D) (by omega) (by omega), hg x h1 (by omega)]
    refine Evt.eq (f := fun k q => _) ?_ (fun k q => by rw [spec_bxNumber])
    have := dyMake_ev (n := u * 2 ^ D + (v - u) * x) (m := m + D) (by omega) (by omega) (by omega)
    rw [Int.natCast_add] at this
    exact Evt.bind this .pure
  have key : ∀ (r c : Nat) (acc : List Ed), c + r = N → acc.length + r ≤ 1000 → Evt (fun k n => spec_imWay_L122 k n s u v m D a acc (N : Int) c) (.inr (acc ++ wayV s a g c r, ())) := by
    intro r
    induction r with
    | zero =>
      intro c acc hc _
      refine Evt.step (fun k n => spec_imWay_L122.eq_2 k _ _ _ _ _ _ _ _ _ n) (Evt.cfalse (decide_eq_false (by omega)) ?_)
      simp only [wayV, List.range'_zero, List.map_nil, List.append_nil]
      exact .pure
    | succ r ih =>
      intro c acc hc ha
      refine Evt.step (fun k n => spec_imWay_L122.eq_2 k _ _ _ _ _ _ _ _ _ n) (Evt.ctrue (decide_eq_true (by omega)) ?_)
      refine Evt.bind (num c (by omega) (by omega)) ?_
      have w1 : IntKind.wrap .i64 ((c : Int) + 1) = (c : Int) + 1 := by rw [w64 (by omega) (by omega)]
      rw [w1]
      refine Evt.bind (num ((c : Int) + 1) (by omega) (by omega)) (Evt.ctrue (decide_eq_true (by simp only [List.length_cons, List.length_nil]; omega)) ?_)
      have := ih (c + 1) (acc ++ [(s, a, g c, g ((c : Int) + 1))]) (by omega) (by simp; omega)
      rw [Int.natCast_add] at this
      have e : acc ++ [(s, a, g c, g ((c : Int) + 1))] ++ wayV s a g (c + 1) r = acc ++ wayV s a g c (r + 1) := by
        simp only [wayV, List.range'_succ, List.map_cons, List.append_assoc, List.singleton_append]
      rw [e] at this
      exact this
  have hNb : N ≤ 32 := by omega
  have hk := key N 0 [] (by omega) (by simp; omega)
  exact Evt.inr (Evt.diag hk) .pure
def edgesV (m D : Nat) (l0 l1 h0 h1 : Int) : List Ed :=
  wayV 1 (mkD l1 m).1 (numV m D l0 h0) 0 (2 ^ D) ++ wayV 0 (mkD h0 m).1 (numV m D l1 h1) 0 (2 ^ D) ++ wayV 1 (mkD h1 m).1 (fun x => numV m D l0 h0 (2 ^ D - x)) 0 (2 ^ D) ++ wayV 0 (mkD l0 m).1 (fun x => numV m D l1 h1 (2 ^ D - x)) 0 (2 ^ D)
theorem wayV_len (s : Int) (a : Int × Int) (g : Int → Int × Int) (c r : Nat) : (wayV s a g c r).length = r := by simp [wayV]
theorem edgesV_len (m D : Nat) (l0 l1 h0 h1 : Int) : (edgesV m D l0 l1 h0 h1).length = 4 * 2 ^ D := by
  simp only [edgesV, List.length_append, wayV_len]; omega
theorem wayV_ok {s : Int} {a : Int × Int} {g : Int → Int × Int} {c r : Nat} (hs : s = 0 ∨ s = 1) (ha : gd a) (hg : ∀ x, gd (g x)) : ∀ e ∈ wayV s a g c r, EdOk e := by
  intro e he
  simp only [wayV, List.mem_map] at he
  obtain ⟨i, _, rfl⟩ := he
  exact ⟨hs, ha, hg _, hg _⟩
theorem edgesV_ok {m D : Nat} {l0 l1 h0 h1 : Int} : ∀ e ∈ edgesV m D l0 l1 h0 h1, EdOk e := by
  intro e he
  simp only [edgesV, List.mem_append] at he
  rcases he with ((he | he) | he) | he
  · exact wayV_ok (.inr rfl) (mkD_gd _ _) (fun x => numV_gd _ _ _ _ _) e he
  · exact wayV_ok (.inl rfl) (mkD_gd _ _) (fun x => numV_gd _ _ _ _ _) e he
  · exact wayV_ok (.inr rfl) (mkD_gd _ _) (fun x => numV_gd _ _ _ _ _) e he
  · exact wayV_ok (.inl rfl) (mkD_gd _ _) (fun x => numV_gd _ _ _ _ _) e he
theorem imEdges_ev {m D : Nat} {l0 l1 h0 h1 : Int} (hm : m ≤ 3) (hD : D ≤ 5) (g0 : -64 ≤ l0 ∧ l0 < h0 ∧ h0 ≤ 64) (g1 : -64 ≤ l1 ∧ l1 < h1 ∧ h1 ≤ 64) : Evt (fun k _ => spec_imEdges k ((m : Int), [l0, l1], [h0, h1]) D) (edgesV m D l0 l1 h0 h1) := by
  refine Evt.eq (f := fun k q => _) ?_ (fun k q => by rw [spec_imEdges])
  have hp : 2 ^ D ≤ 32 := by
    have := Nat.pow_le_pow_right (n := 2) (by omega) hD
    simpa using this
  have num : ∀ x : Int, -64 ≤ x ∧ x ≤ 64 → Evt (fun k _ => spec_bxNumber k x (m : Int)) (mkD x m).1 := by
    intro x hx
    refine Evt.eq (f := fun k q => _) ?_ (fun k q => by rw [spec_bxNumber])
    exact Evt.bind (dyMake_ev (n := x) (m := m) (by omega) (by omega) (by omega)) .pure
  have fwd : ∀ (l h : Int) (x : Int), 0 ≤ x → x ≤ 2 ^ D → numV m D l h x = (mkD (l * 2 ^ D + (h - l) * x) (m + D)).1 := by
    intro l h x _ _
    rw [numV, Int.mul_comm x]
  have bwd : ∀ (l h : Int) (x : Int), 0 ≤ x → x ≤ 2 ^ D → numV m D l h (2 ^ D - x) = (mkD (h * 2 ^ D + (l - h) * x) (m + D)).1 := by
    intro l h x _ _
    have e : l * 2 ^ D + (2 ^ D - x) * (h - l) = h * 2 ^ D + (l - h) * x := by
      simp only [Int.sub_mul, Int.mul_sub, Int.mul_comm (2 ^ D), Int.mul_comm x]
      omega
    rw [numV, e]
  refine Evt.ctrue rfl (Evt.ctrue rfl (Evt.ctrue rfl (Evt.ctrue rfl ?_)))
  refine Evt.bind (num l1 (by omega)) (Evt.bind (imWay_ev (u := l0) (v := h0) (g := numV m D l0 h0) (by omega) (by omega) hm hD (fwd l0 h0)) ?_)
  refine Evt.bind (num h0 (by omega)) (Evt.bind (imWay_ev (u := l1) (v := h1) (g := numV m D l1 h1) (by omega) (by omega) hm hD (fwd l1 h1)) ?_)
  refine Evt.ctrue (decide_eq_true (by simp only [wayV_len]; omega)) ?_
  refine Evt.bind (num h1 (by omega)) (Evt.bind (imWay_ev (u := h0) (v := l0) (g := fun x => numV m D l0 h0 (2 ^ D - x)) (by omega) (by omega) hm hD (bwd l0 h0)) ?_)
  refine Evt.ctrue (decide_eq_true (by simp only [List.length_append, wayV_len]; omega)) ?_
  refine Evt.bind (num l0 (by omega)) (Evt.bind (imWay_ev (u := h1) (v := l1) (g := fun x => numV m D l1 h1 (2 ^ D - x)) (by omega) (by omega) hm hD (bwd l1 h1)) ?_)
  exact Evt.ctrue (decide_eq_true (by simp only [List.length_append, wayV_len]; omega)) .pure
end Go.Ev.G

namespace Go.Ev.G
open Go Go.Ev
set_option maxRecDepth 100000

theorem edges_inner {m D : Nat} {b : Bx} {j : Nat} {s kk x17 : Int} {l h : Int} {a : Int × Int} (hb1 : b.1 = m) (hj : j < b.2.1.length) (hj2 : j < b.2.2.length) (e1 : b.2.1.getD j 0 = l) (e2 : b.2.2.getD j 0 = h) (hl : -64 ≤ l ∧ l < h ∧ h ≤ 64) (hm : m ≤ 3) (hD : D ≤ 5) (hs : IntKind.wrap .i64 (1 - s) = (j : Int)) :
    ∀ (r c : Nat) (acc : List Ed), c + r = 2 ^ D → acc.length + r ≤ 1000 → Evt (fun k n => impl_boundaryEdges_L512830 k n (2 ^ D) (b, 2 ^ D, (D : Int), ()) acc kk s a x17 (2 ^ D) c) (.inr (2 ^ D, (b, 2 ^ D, (D : Int), ()), acc ++ wayV s a (fun x => numV m D l h (if kk ≥ 2 then 2 ^ D - x else x)) c r, x17, ()))
  | 0, c, acc, hc, _ => by
    have hN : ((2 ^ D : Nat) : Int) = 2 ^ D := by simp
    refine Evt.step (fun k n => impl_boundaryEdges_L512830.eq_2 k _ _ _ _ _ _ _ _ _ n) (Evt.cfalse (decide_eq_false (by omega)) ?_)
    simp only [wayV, List.range'_zero, List.map_nil, List.append_nil]
    exact .pure
  | r + 1, c, acc, hc, ha => by
    have hN : ((2 ^ D : Nat) : Int) = 2 ^ D := by simp
    have hp := pow5 hD
    refine Evt.step (fun k n => impl_boundaryEdges_L512830.eq_2 k _ _ _ _ _ _ _ _ _ n) (Evt.ctrue (decide_eq_true (by omega)) ?_)
    let g : Int → Int × Int := fun x => numV m D l h (if kk ≥ 2 then 2 ^ D - x else x)
    have num : ∀ x : Int, 0 ≤ x → x ≤ 2 ^ D → Evt (fun k _ => impl_boundaryEdges_1 k (IntKind.wrap .i64 (1 - s)) x b (2 ^ D) D) (numV m D l h x) := by
      intro x h1 h2
      rw [hs]
      exact edges1_ev hb1 hj hj2 e1 e2 hl hm hD (by omega)
    have ih := edges_inner (kk := kk) (x17 := x17) (s := s) (a := a) hb1 hj hj2 e1 e2 hl hm hD hs r (c + 1) (acc ++ [(s, a, g c, g ((c : Int) + 1))]) (by omega) (by simp; omega)
    have w1 : IntKind.wrap .i64 ((c : Int) + 1) = ((c + 1 : Nat) : Int) := w64_next (by simp only [lenB]; omega)
    have e : acc ++ [(s, a, g c, g ((c : Int) + 1))] ++ wayV s a g (c + 1) r = acc ++ wayV s a g c (r + 1) := by
      simp only [wayV, List.range'_succ, List.map_cons, List.append_assoc, List.singleton_append]
    have ih2 : Evt (fun k n => impl_boundaryEdges_L512830 k n (2 ^ D) (b, 2 ^ D, (D : Int), ()) (acc ++ [(s, a, g c, g ((c : Int) + 1))]) kk s a x17 (2 ^ D) ((c + 1 : Nat) : Int)) (.inr (2 ^ D, (b, 2 ^ D, (D : Int), ()), acc ++ wayV s a g c (r + 1), x17, ())) := by
      rw [← e]; exact ih
    by_cases hk : kk ≥ 2
    · have g1 : g c = numV m D l h (2 ^ D - c) := by show numV m D l h (if kk ≥ 2 then 2 ^ D - (c : Int) else c) = _; rw [if_pos hk]
      have g2 : g ((c : Int) + 1) = numV m D l h (2 ^ D - c - 1) := by
        show numV m D l h (if kk ≥ 2 then 2 ^ D - ((c : Int) + 1) else (c : Int) + 1) = _
        rw [if_pos hk, show (2 : Int) ^ D - (c + 1) = 2 ^ D - c - 1 by omega]
      refine Evt.inr (Evt.ctrue (decide_eq_true hk) .pure) ?_
      have w2 : IntKind.wrap .i64 ((2 : Int) ^ D - c) = 2 ^ D - c := w64 (by omega) (by omega)
      have w3 : IntKind.wrap .i64 ((2 : Int) ^ D - c - 1) = 2 ^ D - c - 1 := w64 (by omega) (by omega)
      simp only [w2, w3, w1]
      rw [g1, g2] at ih2
      refine Evt.bind (num _ (by omega) (by omega)) (Evt.bind (num _ (by omega) (by omega)) (Evt.ctrue (decide_eq_true (by simp only [List.length_cons, List.length_nil]; omega)) ?_))
      exact ih2
    · have g1 : g c = numV m D l h c := by show numV m D l h (if kk ≥ 2 then 2 ^ D - (c : Int) else c) = _; rw [if_neg hk]
      have g2 : g ((c : Int) + 1) = numV m D l h ((c : Int) + 1) := by
        show numV m D l h (if kk ≥ 2 then 2 ^ D - ((c : Int) + 1) else (c : Int) + 1) = _
        rw [if_neg hk]
      refine Evt.inr (Evt.cfalse (decide_eq_false hk) .pure) ?_
      have w2 : IntKind.wrap .i64 ((c : Int) + 1) = (c : Int) + 1 := w64 (by omega) (by omega)
      simp only [w2]
      rw [g1, g2] at ih2
      refine Evt.bind (num _ (by omega) (by omega)) (Evt.bind (num _ (by omega) (by omega)) (Evt.ctrue (decide_eq_true (by simp only [List.length_cons, List.length_nil]; omega)) ?_))
      exact ih2
theorem boundaryEdges_ev {m D : Nat} {l0 l1 h0 h1 : Int} (hm : m ≤ 3) (hD : D ≤ 5) (g0 : -64 ≤ l0 ∧ l0 < h0 ∧ h0 ≤ 64) (g1 : -64 ≤ l1 ∧ l1 < h1 ∧ h1 ≤ 64) : Evt (fun k _ => impl_boundaryEdges k ((m : Int), [l0, l1], [h0, h1]) D) (edgesV m D l0 l1 h0 h1) := by
  have hN : ((2 ^ D : Nat) : Int) = 2 ^ D := by simp
  have hp := pow5 hD
  have hNb : 2 ^ D ≤ 32 := by omega
  let b : Bx := ((m : Int), [l0, l1], [h0, h1])
  refine Evt.eq (f := fun k q => _) ?_ (fun k q => by rw [impl_boundaryEdges])
  refine Evt.cfalse (decide_eq_false (by omega)) ?_
  have hw : IntKind.wrap .i64 (1 * 2 ^ min (Int.toNat (D : Int)) (IntKind.bits .i64)) = 2 ^ D := by
    rw [min64 (by omega), Int.one_mul, w64 (by omega) (by omega)]
  simp only [hw]
  have one : ∀ {R : List Ed ⊕ (List Ed × Unit)} (kk s : Int) (j : Nat) (l h : Int) (a0 a : Int × Int) (acc : List Ed), 0 ≤ kk → kk < 4 → IntKind.wrap .i64 (1 - Int.tmod kk 2) = s → IntKind.wrap .i64 (1 - s) = (j : Int) → j < 2 → b.2.1.getD j 0 = l → b.2.2.getD j 0 = h → (-64 ≤ l ∧ l < h ∧ h ≤ 64) →
      Evt (fun k _ => impl_boundaryEdges_1 k s 0 b (2 ^ D) D) a0 → (kk = 1 ∨ kk = 2 → Evt (fun k _ => impl_boundaryEdges_1 k s (2 ^ D) b (2 ^ D) D) a) → (¬(kk = 1 ∨ kk = 2) → a0 = a) → acc.length ≤ 200 →
      Evt (fun k n => impl_boundaryEdges_L250 k n (2 ^ D) (b, 2 ^ D, (D : Int), ()) (acc ++ wayV s a (fun x => numV m D l h (if kk ≥ 2 then 2 ^ D - x else x)) 0 (2 ^ D)) (IntKind.wrap .i64 (kk + 1))) R → Evt (fun k n => impl_boundaryEdges_L250 k n (2 ^ D) (b, 2 ^ D, (D : Int), ()) acc kk) R := by
    intro R kk s j l h a0 a acc hk0 hk4 hs hj hj2 e1 e2 hl ha0 ha1 haa hacc hrest
    have hin := edges_inner (kk := kk) (x17 := kk) (s := s) (a := a) (b := b) (j := j) (m := m) rfl (by simpa [b] using hj2) (by simpa [b] using hj2) e1 e2 hl hm hD hj (2 ^ D) 0 acc (by omega) (by omega)
    refine Evt.step (fun k n => impl_boundaryEdges_L250.eq_2 k _ _ _ _ n) (Evt.ctrue (decide_eq_true hk4) ?_)
    simp only [hs]
    refine Evt.bind ha0 (Evt.inr (y := (2 ^ D, (b, 2 ^ D, (D : Int), ()), acc, kk, s, a, kk, ())) ?_ (Evt.inr (Evt.diag hin) hrest))
    by_cases c1 : kk = 1
    · exact Evt.ctrue (by simp [c1]) (Evt.bind (ha1 (.inl c1)) .pure)
    · refine Evt.cfalse (by simpa using c1) ?_
      by_cases c2 : kk = 2
      · exact Evt.ctrue (by simp [c2]) (Evt.bind (ha1 (.inr c2)) .pure)
      · refine Evt.cfalse (by simpa using c2) ?_
        rw [haa (by omega)]
        exact .pure
  have n0 : ∀ {j : Nat} {l h : Int}, j < 2 → b.2.1.getD j 0 = l → b.2.2.getD j 0 = h → (-64 ≤ l ∧ l < h ∧ h ≤ 64) → Evt (fun k _ => impl_boundaryEdges_1 k j 0 b (2 ^ D) D) (mkD l m).1 := by
    intro j l h hj e1 e2 hl
    have := edges1_ev (x := 0) (b := b) (m := m) rfl (by simpa [b] using hj) (by simpa [b] using hj) e1 e2 hl hm hD (by omega)
    rw [numV, Int.zero_mul, Int.add_zero, mkD_scale] at this
    exact this
  have n1 : ∀ {j : Nat} {l h : Int}, j < 2 → b.2.1.getD j 0 = l → b.2.2.getD j 0 = h → (-64 ≤ l ∧ l < h ∧ h ≤ 64) → Evt (fun k _ => impl_boundaryEdges_1 k j (2 ^ D) b (2 ^ D) D) (mkD h m).1 := by
    intro j l h hj e1 e2 hl
    have := edges1_ev (x := 2 ^ D) (b := b) (m := m) rfl (by simpa [b] using hj) (by simpa [b] using hj) e1 e2 hl hm hD (by omega)
    have e : l * 2 ^ D + 2 ^ D * (h - l) = h * 2 ^ D := by
      rw [Int.mul_sub, Int.mul_comm (2 ^ D) h, Int.mul_comm (2 ^ D) l]; omega
    rw [numV, e, mkD_scale] at this
    exact this
  have fin : ∀ acc : List Ed, Evt (fun k n => impl_boundaryEdges_L250 k n (2 ^ D) (b, 2 ^ D, (D : Int), ()) acc 4) (.inr (acc, ())) := fun acc =>
    Evt.step (fun k n => impl_boundaryEdges_L250.eq_2 k _ _ _ _ n) (Evt.cfalse rfl .pure)
  have w1 : IntKind.wrap .i64 (0 + 1) = 1 := by decide
  have w2 : IntKind.wrap .i64 (1 + 1) = 2 := by decide
  have w3 : IntKind.wrap .i64 (2 + 1) = 3 := by decide
  have w4 : IntKind.wrap .i64 (3 + 1) = 4 := by decide
  have all : Evt (fun k n => impl_boundaryEdges_L250 k n (2 ^ D) (b, 2 ^ D, (D : Int), ()) [] 0) (.inr (edgesV m D l0 l1 h0 h1, ())) := by
    refine one 0 1 0 l0 h0 (mkD l1 m).1 (mkD l1 m).1 [] (by omega) (by omega) (by decide) (by decide) (by omega) rfl rfl g0 (n0 (j := 1) (by omega) rfl rfl g1) (by omega) (fun _ => rfl) (by simp) ?_
    rw [w1]
    refine one 1 0 1 l1 h1 (mkD l0 m).1 (mkD h0 m).1 _ (by omega) (by omega) (by decide) (by decide) (by omega) rfl rfl g1 (n0 (j := 0) (by omega) rfl rfl g0) (fun _ => n1 (j := 0) (by omega) rfl rfl g0) (by omega) (by simp only [List.length_append, List.length_nil, wayV_len]; omega) ?_
    rw [w2]
    refine one 2 1 0 l0 h0 (mkD l1 m).1 (mkD h1 m).1 _ (by omega) (by omega) (by decide) (by decide) (by omega) rfl rfl g0 (n0 (j := 1) (by omega) rfl rfl g1) (fun _ => n1 (j := 1) (by omega) rfl rfl g1) (by omega) (by simp only [List.length_append, List.length_nil, wayV_len]; omega) ?_
    rw [w3]
    refine one 3 0 1 l1 h1 (mkD l0 m).1 (mkD l0 m).1 _ (by omega) (by omega) (by decide) (by decide) (by omega) rfl rfl g1 (n0 (j := 0) (by omega) rfl rfl g0) (by omega) (fun _ => rfl) (by simp only [List.length_append, List.length_nil, wayV_len]; omega) ?_
    rw [w4]
    exact fin _
  exact Evt.inr (Evt.diag all) .pure

def edgesB (b : Bx) (D : Nat) : List Ed := edgesV b.1.toNat D (b.2.1.getD 0 0) (b.2.1.getD 1 0) (b.2.2.getD 0 0) (b.2.2.getD 1 0)
theorem edgesB_len (b : Bx) (D : Nat) : (edgesB b D).length = 4 * 2 ^ D := edgesV_len _ _ _ _ _ _
theorem edgesB_ok {b : Bx} {D : Nat} : ∀ e ∈ edgesB b D, EdOk e := edgesV_ok
theorem imEdgesB_ev {b : Bx} {D : Nat} (h : plV b = true) (hD : D ≤ 5) : Evt (fun k _ => spec_imEdges k b D) (edgesB b D) := by
  obtain ⟨m, l0, l1, h0, h1, rfl, hm, g0, g1⟩ := plV_form h
  exact imEdges_ev hm hD g0 g1
theorem boundaryEdgesB_ev {b : Bx} {D : Nat} (h : plV b = true) (hD : D ≤ 5) : Evt (fun k _ => impl_boundaryEdges k b D) (edgesB b D) := by
  obtain ⟨m, l0, l1, h0, h1, rfl, hm, g0, g1⟩ := plV_form h
  exact boundaryEdges_ev hm hD g0 g1
end Go.Ev.G

namespace Go.Ev.G
open Go Go.Ev
set_option maxRecDepth 100000

theorem markBox_ev {b : Int × List Int × List Int} {a : Nat} (h : a + b.2.1.length + b.2.2.length < lenB) : Evt (fun k _ => laws_markBox k b a) ((a + 1 * b.2.1.length + 1 * b.2.2.length : Nat) : Int) := by
  refine Evt.eq (f := fun k q => _) ?_ (fun k q => by rw [laws_markBox])
  obtain ⟨y, hy, _⟩ := markIntS_only b.2.1 a (by show a + 1 * b.2.1.length < lenB; omega)
  obtain ⟨z, hz, _⟩ := markIntS_only b.2.2 (a + 1 * b.2.1.length) (by show a + 1 * b.2.1.length + 1 * b.2.2.length < lenB; omega)
  exact Evt.bind hy (Evt.bind hz .pure)

end Go.Ev.G

namespace Go.Ev.G
open Go Go.Ev
set_option maxRecDepth 100000

theorem markIntS_ok : MarkOk laws_markIntS laws_heldIntS (fun x => 1 * x.length) :=
  mark_all (M := laws_markIntS_L26) (H := laws_heldIntS_L26) (mv := fun a => (a : Int)) (by omega)
    (fun k n d r e a h1 h2 => by
      rw [laws_markIntS_L26]
      rw [mid_lt, mid_ge, mid_set, w64_next (m := d.length) (by simp at h2; omega), w64_next (m := a) (by omega)]
      rfl)
    (fun k n d a => by rw [laws_markIntS_L26, mid_end]; rfl)
    (fun k n d r a h1 h2 => by
      rw [laws_heldIntS_L26]
      simp only [mid_lt, mid_ge, mid_get, cond_true]
      rw [w64_next (m := d.length) (by simp at h2; omega), w64_next (m := a) (by omega)]
      simp only [bne_self_eq_false, cond_false])
    (fun k n d a => by rw [laws_heldIntS_L26, mid_end]; rfl)
    (fun _ _ _ => rfl) (fun _ _ _ => rfl)
theorem markTermS_only : MarkOk laws_markTermS (heldAny 4) (fun x => 4 * x.length) :=
  mark_only (M := laws_markTermS_L26) (mv := fun a => ((a : Int), ((a + 1 : Nat) : Int), ((a + 2 : Nat) : Int), ((a + 3 : Nat) : Int))) (by omega)
    (fun k n d r e a h1 h2 => by
      rw [laws_markTermS_L26]
      simp only [mid_lt, mid_ge, mid_get, mid_set, cond_true]
      rw [w64_next (m := d.length) (by simp at h2; omega), w64_next (m := a) (by omega), w64_next (m := a + 1) (by omega), w64_next (m := a + 2) (by omega), w64_next (m := a + 3) (by omega)])
    (fun k n d a => by rw [laws_markTermS_L26, mid_end]; rfl)
    (fun _ _ _ => rfl)
def heldAnyL {γ : Type} (c : Nat) (k : Nat) : Nat → List (List γ) → Int → Int → Option (Int ⊕ (Int × Unit))
  | 0, _, _, _ => none
  | n + 1, x, a, i => (bif (decide (i < (x.length : Int))) then (bif (decide (0 ≤ i)) then (bif (decide (i < (x.length : Int))) then (Option.bind (heldAny c k (x.getD (Int.toNat i) []) a) fun r => bif (decide (r < 0)) then some (.inl (-1)) else heldAnyL c k n x r (IntKind.wrap .i64 (i + 1))) else none) else none) else some (.inr (a, ())))
theorem markTermSS_ev {x : List (List Tm)} {a : Nat} (hx : x.length < lenB) (ha : a + (x.map fun r => 4 * r.length).sum < lenB) : ∃ y, Evt (fun k _ => laws_markTermSS k x a) (((a + (x.map fun r => 4 * r.length).sum : Nat) : Int), y) := by
  obtain ⟨y, h1, _⟩ := mark_rows_all (M := laws_markTermSS_L26) (H := heldAnyL 4) (marks := laws_markTermSS) (helds := fun k x a => both (R := Int) (P := Int × Unit) (heldAnyL 4 k k x a 0) (fun q => some q) (fun y => some y.1)) markTermS_only (fun _ _ _ _ _ => rfl) (fun _ _ _ _ _ => rfl) (fun _ _ _ => rfl) (fun _ _ _ => rfl) hx ha
  exact ⟨y, h1⟩
theorem sum_four : ∀ (x : List (List Tm)), (x.map fun r => 4 * r.length).sum = 4 * (x.map List.length).sum
  | [] => rfl
  | r :: x => by simp only [List.map_cons, List.sum_cons, sum_four x]; omega
theorem Sized.marks4 {a : List (List Tm)} (h : Sized a) : 101 + (a.map fun r => 4 * r.length).sum ≤ 4000101 := by
  rw [sum_four]; unfold Sized at h; omega

section
variable {V : Type}
/-- the same for what is told with memory of its own -/
theorem frame_sbl {W : Type} {a : List (List Tm)} {b : Bx} {S I : Nat → List (List Tm) → Bx → Option V} {C : Nat → V → V → Option Bool → Option Bool} {M : Nat → V → (W → Option Bool) → Option Bool} {H : Nat → W → Option Bool → Option Bool} {v : V} {w : W} (ha : a.length ≤ maxLen) (hm : ∀ x ∈ a, x.length ≤ maxLen) (h1 : b.2.1.length ≤ maxLen) (h2 : b.2.2.length ≤ maxLen)
    (hC : ∀ {f : Nat → Nat → Option Bool} {r : Bool}, Evt f r → Evt (fun k n => C k v v (f k n)) r)
    (hM : ∀ {f : Nat → Nat → W → Option Bool} {r : Bool}, Evt (fun k n => f k n w) r → Evt (fun k n => M k v (f k n)) r) (hH : ∀ {f : Nat → Nat → Option Bool} {r : Bool}, Evt f r → Evt (fun k n => H k w (f k n)) r)
    (hS : a.length < 274877906944 → (∀ r ∈ a, r.length < lenB) → b.2.1.length < lenB → Evt (fun k _ => S k a b) v) (hI : a.length < lenB → (∀ r ∈ a, r.length < lenB) → b.2.1.length < lenB → Evt (fun k _ => I k a b) v) :
    Evt (fun k _ => (Option.bind (laws_szTermSS k a 1000000) fun r1 => (bif (decide (r1 < 0)) then some true else (Option.bind (laws_szBox b r1) fun r2 => (bif (decide (r2 < 0)) then some true else (Option.bind (laws_toTermSS k a false) fun r3 => (Option.bind (laws_toBox k b false) fun r4 => (Option.bind (S k (r3.1.map fun z => z.1) (r4.1, r4.2.1.1, r4.2.2.1)) fun r5 => (Option.bind (laws_toTermSS k a false) fun r6 => (Option.bind (laws_toBox k b false) fun r7 => (Option.bind (I k (r6.1.map fun z => z.1) (r7.1, r7.2.1.1, r7.2.2.1)) fun r8 => C k r5 r8 (Option.bind (laws_toTermSS k a false) fun r10 => (Option.bind (laws_intactTermSS k r6 r10) fun r11 => (bif (!r11) then some false else (Option.bind (laws_toBox k b false) fun r12 => (Option.bind (laws_intactBox k r7 r12) fun r13 => (bif (!r13) then some false else
      (Option.bind (laws_markTermSS k (r6.1.map fun z => z.1) 101) fun r14 => (Option.bind (laws_markBox k (r7.1, r7.2.1.1, r7.2.2.1) r14.1) fun r15 => (bif (decide (r15 < 0)) then some false else C k r5 r8 (M k r8 fun w => H k w (Option.bind (laws_toTermSS k a true) fun r19 => (Option.bind (laws_toBox k b true) fun r20 => (Option.bind (I k (r19.1.map fun z => z.1) (r20.1, r20.2.1.1, r20.2.2.1)) fun r21 => C k r5 r21 (H k w (some true)))))))))))))))))))))))))) true := by
  refine Evt.bind (szTermSS_ev (a := 1000000) ha hm (by omega)) ?_
  by_cases hz : a.length + (a.map List.length).sum ≤ 1000000
  · rw [if_pos hz]
    have hs : Sized a := hz
    refine Evt.cfalse (by simp <;> omega) (Evt.bind (.const (szBox_eq h1 h2 (by omega))) ?_)
    by_cases hy : b.2.1.length + b.2.2.length ≤ 1000000 - (a.length + (a.map List.length).sum)
    · rw [if_pos hy]
      refine Evt.cfalse (by simp <;> omega) ?_
      have b1 : b.2.1.length ≤ 1000000 := by omega
      have b2 : b.2.2.length ≤ 1000000 := by omega
      have hr : ∀ r ∈ a, r.length < lenB := fun r hr => by have := hs.row r hr; simp only [lenB]; omega
      have hl := hs.len
      have spec := hS (by omega) hr (by simp only [lenB]; omega)
      have impl := hI (by simp only [lenB]; omega) hr (by simp only [lenB]; omega)
      have hm4 := hs.marks4
      obtain ⟨y, hy1⟩ := markTermSS_ev (x := a) (a := 101) (by simp only [lenB]; omega) (by simp only [lenB]; omega)
      have hb1 := markBox_ev (b := b) (a := 101 + (a.map fun r => 4 * r.length).sum) (by simp only [lenB]; omega)
      refine Evt.bind (toTermSS_ev hs.len hs.row) (Evt.bind (toBox_ev b1 b2) ?_)
      simp only [toV_rows, boxR_eq]
      refine Evt.bind spec (Evt.bind (toTermSS_ev hs.len hs.row) (Evt.bind (toBox_ev b1 b2) ?_))
      simp only [toV_rows, boxR_eq]
      refine Evt.bind impl (hC (Evt.bind (toTermSS_ev hs.len hs.row) (Evt.bind (intactT_ev hs) (Evt.cfalse rfl (Evt.bind (toBox_ev b1 b2) (Evt.bind (intactBox_ev b1 b2) (Evt.cfalse rfl ?_)))))))
      refine Evt.bind hy1 (Evt.bind hb1 (Evt.cfalse (by simp <;> omega) (hC (hM (hH (Evt.bind (toTermSS_ev hs.len hs.row) (Evt.bind (toBox_ev b1 b2) ?_)))))))
      simp only [toV_rows, boxR_eq]
      exact Evt.bind impl (hC (hH .pure))
    · rw [if_neg hy]
      exact Evt.ctrue rfl .pure
  · rw [if_neg hz]
    exact Evt.ctrue rfl .pure
end
/-- what a plane system is asked to be -/
structure Pl (s : List (List Tm)) : Prop where
  ln : s.length = 2
  tm : ∀ p ∈ s, ∀ t ∈ p, tmW t
  lp : ∀ p ∈ s, p.length < lenB
theorem twoV_pl {s : List (List Tm)} (h : twoV s = true) (hm : ∀ r ∈ s, r.length < lenB) : Pl s := ⟨(twoV_len h).2, sysV_tm (twoV_len h).1, hm⟩
theorem Pl.sd {s : List (List Tm)} (h : Pl s) {e : Ed} (he : EdOk e) : Sd s (sidesE e) := Sd.edge h.tm h.lp he
end Go.Ev.G

namespace Go.Ev.G
open Go Go.Ev
set_option maxRecDepth 100000

theorem planeV_form {s : List (List Tm)} {b : Bx} (h : planeV s b = true) (hm : ∀ r ∈ s, r.length < lenB) : Pl s ∧ plV b = true := by
  unfold planeV at h
  rw [Bool.and_eq_true] at h
  exact ⟨twoV_pl h.1 hm, h.2⟩
end Go.Ev.G

namespace Go.Ev.G
open Go Go.Ev
set_option maxRecDepth 100000

def halfD (a b : Int × Int) : (Int × Int) × Bool := mkD (sumN a b) (exA a b + 1)
theorem halfD_gd (a b : Int × Int) : gd (halfD a b).1 := mkD_gd _ _
theorem dyHalf_ev {a b : Int × Int} (ha : gd a) (hb : gd b) : Evt (fun k _ => spec_dyHalf k a b) (halfD a b) := by
  obtain ⟨n, j⟩ := a
  obtain ⟨m, i⟩ := b
  obtain ⟨a1, a2, a3, a4, a5⟩ := ha
  obtain ⟨b1, b2, b3, b4, b5⟩ := hb
  simp only at *
  obtain ⟨j, rfl⟩ := Int.eq_ofNat_of_zero_le a1
  obtain ⟨i, rfl⟩ := Int.eq_ofNat_of_zero_le b1
  refine Evt.eq (f := fun k q => _) ?_ (fun k q => by rw [spec_dyHalf])
  refine Evt.bind (.const (most_eq _ _)) ?_
  have hmax : max ((j : Nat) : Int) (i : Int) = ((max j i : Nat) : Int) := by omega
  simp only [hmax]
  have e : halfD (n, (j : Int)) (m, (i : Int)) = mkD (n * 2 ^ (max j i - j) + m * 2 ^ (max j i - i)) (max j i + 1) := by simp [halfD, sumN, exA]
  rw [e]
  refine Evt.bind (dyAt_ev (by omega) (by omega) (by omega) (by omega)) (Evt.bind (dyAt_ev (by omega) (by omega) (by omega) (by omega)) ?_)
  have hbn := mul_pow_bound (n := n) (m := max j i - j) (by omega) (B := 1099511627776) (by omega) a3 a4
  have hbm := mul_pow_bound (n := m) (m := max j i - i) (by omega) (B := 1099511627776) (by omega) b3 b4
  cases h1 : (atV (max j i - j) n).2 with
  | false =>
    refine Evt.ctrue rfl ?_
    obtain ⟨hpos, hl⟩ := atV_large _ _ h1
    have hij : max j i = i := by omega
    have hodd : m % 2 ≠ 0 := by
      rcases b5 with h | h
      · omega
      · exact h
    have hev := even_pow (n := n) hpos
    rw [hij] at hl hev ⊢
    simp only [Nat.sub_self, Int.pow_zero, Int.mul_one]
    rw [mkD_odd (by omega) (by omega)]
    exact .pure
  | true =>
    refine Evt.cfalse rfl ?_
    cases h2 : (atV (max j i - i) m).2 with
    | false =>
      refine Evt.ctrue rfl ?_
      obtain ⟨hpos, hl⟩ := atV_large _ _ h2
      have hij : max j i = j := by omega
      have hodd : n % 2 ≠ 0 := by
        rcases a5 with h | h
        · omega
        · exact h
      have hev := even_pow (n := m) hpos
      rw [hij] at hl hev ⊢
      simp only [Nat.sub_self, Int.pow_zero, Int.mul_one]
      rw [mkD_odd (by omega) (by omega)]
      exact .pure
    | true =>
      refine Evt.cfalse rfl ?_
      rw [atV_true _ _ h1, atV_true _ _ h2]
      -- neither is too large: the sum fits
      have hsum : -9223372036854775808 < n * 2 ^ (max j i - j) + m * 2 ^ (max j i - i) ∧ n * 2 ^ (max j i - j) + m * 2 ^ (max j i - i) < 9223372036854775808 := by
        have g1 : ∀ (q : Nat) (z : Int), -1099511627776 ≤ z → z ≤ 1099511627776 → (atV q z).2 = true → -2305843009213693952 ≤ z * 2 ^ q ∧ z * 2 ^ q ≤ 2305843009213693952 := by
          intro q
          induction q with
          | zero => intro z h1 h2 _; simp; omega
          | succ q ih =>
            intro z _ _ h
            have key : ∀ (q : Nat) (z : Int), (atV (q + 1) z).2 = true → -1152921504606846976 ≤ z * 2 ^ q ∧ z * 2 ^ q ≤ 1152921504606846976 := by
              intro q
              induction q with
              | zero =>
                intro z h
                unfold atV at h
                split at h
                · rename_i hc; simpa using hc
                · cases h
              | succ q ih =>
                intro z h
                unfold atV at h
                split at h
                · have := ih (z * 2) h
                  rw [show z * 2 ^ (q + 1) = z * 2 * 2 ^ q by rw [Int.pow_succ, Int.mul_assoc, Int.mul_comm 2]]
                  exact this
                · cases h
            have := key q z h
            rw [Int.pow_succ, ← Int.mul_assoc]
            omega
        have u1 := g1 _ _ a3 a4 h1
        have u2 := g1 _ _ b3 b4 h2
        omega
      have hk : IntKind.wrap .i64 (((max j i : Nat) : Int) + 1) = ((max j i + 1 : Nat) : Int) := w64_next (by simp only [lenB]; omega)
      rw [w64 (by omega) (by omega), hk]
      exact Evt.bind (dyMake_ev hsum.1 hsum.2 (by omega)) .pure

theorem middleOf_ev {a b : Int × Int} (ha : gd a) (hb : gd b) : Evt (fun k _ => impl_middleOf k a b) (halfD a b) := by
  obtain ⟨n, j, rfl, a1, a2, a3, a4⟩ := gd_nat ha
  obtain ⟨m, i, rfl, b1, b2, b3, b4⟩ := gd_nat hb
  refine Evt.eq (f := fun k q => _) ?_ (fun k q => by rw [impl_middleOf])
  simp only [max_if]
  have hmax : max ((j : Nat) : Int) (i : Int) = ((max j i : Nat) : Int) := by omega
  simp only [hmax]
  obtain ⟨u1, u2, u3, u4⟩ := wide_at (n := n) (j := j) (K := max j i) (by omega) (by omega) a2 a3
  obtain ⟨v1, v2, v3, v4⟩ := wide_at (n := m) (j := i) (K := max j i) (by omega) (by omega) b2 b3
  refine Evt.bind (.const u1) (Evt.bind (.const u2) (Evt.bind (.const v1) (Evt.bind (.const v2) ?_)))
  obtain ⟨neg, M, hM, hv, hev⟩ := add_ev (n1 := decide (n < 0)) (n2 := decide (m < 0)) (M1 := n.natAbs * 2 ^ (max j i - j)) (M2 := m.natAbs * 2 ^ (max j i - i)) (by simp only [B64] at *; omega)
  have hk : IntKind.wrap .i64 (((max j i : Nat) : Int) + 1) = ((max j i + 1 : Nat) : Int) := w64_next (by simp only [lenB]; omega)
  rw [hk]
  refine Evt.bind hev (Evt.bind (fit_ev (by simp only [B64] at *; omega) (by omega)) ?_)
  rw [hv, u4, v4]
  have e : halfD (n, (j : Int)) (m, (i : Int)) = mkD (n * 2 ^ (max j i - j) + m * 2 ^ (max j i - i)) (max j i + 1) := by simp [halfD, sumN, exA]
  rw [e]
  exact .pure


def divV (s : List (List Tm)) : Nat → Ed → Int → Option (List Int × List Int)
  | m, e, d => match rsn s e with
    | some j => some ([(j : Int)], [d])
    | none => match m with
      | 0 => none
      | m + 1 => match divV s m (e.1, e.2.1, e.2.2.1, (halfD e.2.2.1 e.2.2.2).1) (d + 1) with
        | none => none
        | some x => match divV s m (e.1, e.2.1, (halfD e.2.2.1 e.2.2.2).1, e.2.2.2) (d + 1) with
          | none => none
          | some y => some (x.1 ++ y.1, x.2 ++ y.2)
theorem divV_len {s : List (List Tm)} : ∀ (m : Nat) (e : Ed) (d : Int) (x : List Int × List Int), divV s m e d = some x → x.1.length ≤ 2 ^ m ∧ x.2.length ≤ 2 ^ m
  | m, e, d, x, h => by
    unfold divV at h
    cases hr : rsn s e with
    | some j =>
      rw [hr] at h
      cases h
      have : 1 ≤ 2 ^ m := Nat.one_le_two_pow
      exact ⟨by simpa using this, by simpa using this⟩
    | none =>
      rw [hr] at h
      cases m with
      | zero => cases h
      | succ m =>
        simp only at h
        split at h
        · cases h
        · rename_i x1 h1
          split at h
          · cases h
          · rename_i x2 h2
            cases h
            have a1 := divV_len m _ _ _ h1
            have a2 := divV_len m _ _ _ h2
            simp only [List.length_append, Nat.pow_succ]
            omega
def dV3 (o : Option (List Int × List Int)) : List Int × List Int × Bool := match o with
  | some x => (x.1, x.2, true)
  | none => ([], [], false)
theorem EdOk.left {e : Ed} (h : EdOk e) : EdOk (e.1, e.2.1, e.2.2.1, (halfD e.2.2.1 e.2.2.2).1) := ⟨h.sd, h.a, h.f, halfD_gd _ _⟩
theorem EdOk.right {e : Ed} (h : EdOk e) : EdOk (e.1, e.2.1, (halfD e.2.2.1 e.2.2.2).1, e.2.2.2) := ⟨h.sd, h.a, halfD_gd _ _, h.t⟩
theorem dgDivide_ev {s : List (List Tm)} (hs : Pl s) : ∀ (m : Nat) (e : Ed) (d : Int), EdOk e → d + m = 5 → 0 ≤ d → Evt (fun k n => spec_dgDivide_R k n s e d) (dV3 (divV s m e d))
  | m, e, d, he, hd, h0 => by
    refine Evt.step (F := fun k n => spec_dgDivide_B k (spec_dgDivide_R k n) s e d) (fun k n => rfl) ?_
    unfold spec_dgDivide_B
    have hre := imReason_ev2 (hs.sd he) hs.ln
    refine Evt.bind (imSides_ev he) (Evt.bind hre ?_)
    unfold divV
    cases hr : rsn s e with
    | some j => exact Evt.ctrue rfl .pure
    | none =>
      refine Evt.cfalse rfl ?_
      cases m with
      | zero =>
        refine Evt.ctrue ?_ .pure
        rw [beq_iff_eq]; omega
      | succ m =>
        refine Evt.cfalse ?_ ?_
        · rw [beq_eq_false_iff_ne]; omega
        have w : IntKind.wrap .i64 (d + 1) = d + 1 := w64 (by omega) (by omega)
        refine Evt.bind (dyHalf_ev he.f he.t) ?_
        rw [w]
        have i1 := dgDivide_ev hs m _ (d + 1) he.left (by omega) (by omega)
        have i2 := dgDivide_ev hs m _ (d + 1) he.right (by omega) (by omega)
        refine Evt.bind i1 ?_
        simp only
        cases h1 : divV s m (e.1, e.2.1, e.2.2.1, (halfD e.2.2.1 e.2.2.2).1) (d + 1) with
        | none => exact Evt.ctrue rfl .pure
        | some x =>
          refine Evt.cfalse rfl (Evt.bind i2 ?_)
          cases h2 : divV s m (e.1, e.2.1, (halfD e.2.2.1 e.2.2.2).1, e.2.2.2) (d + 1) with
          | none => exact Evt.ctrue rfl .pure
          | some y =>
            have a1 := divV_len m _ _ _ h1
            have a2 := divV_len m _ _ _ h2
            have hm : 2 ^ m ≤ 2 ^ 5 := Nat.pow_le_pow_right (by omega) (by omega)
            refine Evt.cfalse rfl (Evt.ctrue (decide_eq_true ?_) (Evt.ctrue (decide_eq_true ?_) .pure))
            · simp only [dV3]; omega
            · simp only [dV3]; omega
theorem divideEdge_ev {s : List (List Tm)} (hs : Pl s) : ∀ (m : Nat) (e : Ed) (d : Int), EdOk e → d + m = 5 → 0 ≤ d → Evt (fun k n => impl_divideEdge_R k n s e d) (dV3 (divV s m e d))
  | m, e, d, he, hd, h0 => by
    refine Evt.step (F := fun k n => impl_divideEdge_B k (impl_divideEdge_R k n) s e d) (fun k n => rfl) ?_
    unfold impl_divideEdge_B
    have hre := edgeReason_ev (hs.sd he) he hs.ln
    unfold divV
    cases hr : rsn s e with
    | some j =>
      rw [hr] at hre
      exact Evt.bind hre (Evt.ctrue (decide_eq_true (show (j : Int) ≥ 0 by omega)) .pure)
    | none =>
      rw [hr] at hre
      refine Evt.bind hre (Evt.cfalse rfl ?_)
      cases m with
      | zero =>
        refine Evt.ctrue ?_ .pure
        rw [beq_iff_eq]; omega
      | succ m =>
        refine Evt.cfalse ?_ ?_
        · rw [beq_eq_false_iff_ne]; omega
        have w : IntKind.wrap .i64 (d + 1) = d + 1 := w64 (by omega) (by omega)
        refine Evt.bind (middleOf_ev he.f he.t) ?_
        rw [w]
        have i1 := divideEdge_ev hs m _ (d + 1) he.left (by omega) (by omega)
        have i2 := divideEdge_ev hs m _ (d + 1) he.right (by omega) (by omega)
        refine Evt.bind i1 ?_
        simp only
        cases h1 : divV s m (e.1, e.2.1, e.2.2.1, (halfD e.2.2.1 e.2.2.2).1) (d + 1) with
        | none => exact Evt.ctrue rfl .pure
        | some x =>
          refine Evt.cfalse rfl (Evt.bind i2 ?_)
          cases h2 : divV s m (e.1, e.2.1, (halfD e.2.2.1 e.2.2.2).1, e.2.2.2) (d + 1) with
          | none => exact Evt.ctrue rfl .pure
          | some y =>
            have a1 := divV_len m _ _ _ h1
            have a2 := divV_len m _ _ _ h2
            have hm : 2 ^ m ≤ 2 ^ 5 := Nat.pow_le_pow_right (by omega) (by omega)
            refine Evt.cfalse rfl (Evt.ctrue (decide_eq_true ?_) (Evt.ctrue (decide_eq_true ?_) .pure))
            · simp only [dV3]; omega
            · simp only [dV3]; omega
/-- all edges, one behind the other -/
def allD (s : List (List Tm)) : List Ed → Option (List Int × List Int)
  | [] => some ([], [])
  | e :: r => match divV s 5 e 0 with
    | none => none
    | some x => match allD s r with
      | none => none
      | some y => some (x.1 ++ y.1, x.2 ++ y.2)
theorem allD_len {s : List (List Tm)} : ∀ (es : List Ed) (x : List Int × List Int), allD s es = some x → x.1.length ≤ 32 * es.length ∧ x.2.length ≤ 32 * es.length
  | [], x, h => by cases h; simp
  | e :: r, x, h => by
    unfold allD at h
    split at h
    · cases h
    · rename_i x1 h1
      split at h
      · cases h
      · rename_i x2 h2
        cases h
        have a1 := divV_len 5 _ _ _ h1
        have a2 := allD_len r _ h2
        simp only [List.length_append, List.length_cons]
        omega
theorem specD_loop {s : List (List Tm)} (hs : Pl s) {es : List Ed} (he : ∀ e ∈ es, EdOk e) (hb : es.length ≤ 4) : ∀ (r d : List Ed) (p q : List Int), d ++ r = es → p.length ≤ 32 * d.length → q.length ≤ 32 * d.length →
    Evt (fun k n => spec_DividedReasons_L122 k n s p q es (es.length : Int) d.length) (match allD s r with | some x => .inr (p ++ x.1, q ++ x.2, ()) | none => .inl ([], [], false))
  | [], d, p, q, hd, _, _ => by
    rw [List.append_nil] at hd
    subst hd
    refine Evt.step (fun k n => spec_DividedReasons_L122.eq_2 k _ _ _ _ _ _ n) (Evt.rng0 ?_)
    simp only [allD, List.append_nil]
    exact .pure
  | e :: r, d, p, q, hd, hp, hq => by
    have ge := he e (by rw [← hd]; simp)
    have hdl := congrArg List.length hd
    simp only [List.length_append, List.length_cons] at hdl
    refine Evt.step (fun k n => spec_DividedReasons_L122.eq_2 k _ _ _ _ _ _ n) ?_
    rw [← hd]
    refine Evt.ctrue mid_lt (Evt.ctrue mid_ge (Evt.ctrue mid_lt ?_))
    rw [mid_get, len_next (by rw [hd]; simp only [lenB]; omega)]
    have h1 : Evt (fun k _ => spec_dgDivide k s e 0) (dV3 (divV s 5 e 0)) := Evt.diag (f := fun k n => spec_dgDivide_R k n s e 0) (dgDivide_ev hs 5 e 0 ge (by omega) (by omega))
    refine Evt.bind h1 ?_
    unfold allD
    cases hv : divV s 5 e 0 with
    | none => exact Evt.ctrue rfl .pure
    | some x =>
      have a1 := divV_len 5 _ _ _ hv
      refine Evt.cfalse rfl (Evt.ctrue (decide_eq_true (by simp only [dV3]; omega)) (Evt.ctrue (decide_eq_true (by simp only [dV3]; omega)) ?_))
      have ih := specD_loop hs he hb r (d ++ [e]) (p ++ x.1) (q ++ x.2) (by simpa using hd) (by simp; omega) (by simp; omega)
      rw [← hd] at ih
      simp only [dV3]
      cases hr : allD s r with
      | none => rw [hr] at ih; exact ih
      | some y =>
        rw [hr] at ih
        simp only [List.append_assoc] at ih ⊢
        exact ih
theorem implD_loop {s : List (List Tm)} (hs : Pl s) {es : List Ed} (he : ∀ e ∈ es, EdOk e) (hb : es.length ≤ 4) : ∀ (r d : List Ed) (p q : List Int), d ++ r = es → p.length ≤ 32 * d.length → q.length ≤ 32 * d.length →
    Evt (fun k n => impl_DividedReasons_L122 k n s p q es (es.length : Int) d.length) (match allD s r with | some x => .inr (p ++ x.1, q ++ x.2, ()) | none => .inl ([], [], false))
  | [], d, p, q, hd, _, _ => by
    rw [List.append_nil] at hd
    subst hd
    refine Evt.step (fun k n => impl_DividedReasons_L122.eq_2 k _ _ _ _ _ _ n) (Evt.rng0 ?_)
    simp only [allD, List.append_nil]
    exact .pure
  | e :: r, d, p, q, hd, hp, hq => by
    have ge := he e (by rw [← hd]; simp)
    have hdl := congrArg List.length hd
    simp only [List.length_append, List.length_cons] at hdl
    refine Evt.step (fun k n => impl_DividedReasons_L122.eq_2 k _ _ _ _ _ _ n) ?_
    rw [← hd]
    refine Evt.ctrue mid_lt (Evt.ctrue mid_ge (Evt.ctrue mid_lt ?_))
    rw [mid_get, len_next (by rw [hd]; simp only [lenB]; omega)]
    have h1 : Evt (fun k _ => impl_divideEdge k s e 0) (dV3 (divV s 5 e 0)) := Evt.diag (f := fun k n => impl_divideEdge_R k n s e 0) (divideEdge_ev hs 5 e 0 ge (by omega) (by omega))
    refine Evt.bind h1 ?_
    unfold allD
    cases hv : divV s 5 e 0 with
    | none => exact Evt.ctrue rfl .pure
    | some x =>
      have a1 := divV_len 5 _ _ _ hv
      refine Evt.cfalse rfl (Evt.ctrue (decide_eq_true (by simp only [dV3]; omega)) (Evt.ctrue (decide_eq_true (by simp only [dV3]; omega)) ?_))
      have ih := implD_loop hs he hb r (d ++ [e]) (p ++ x.1) (q ++ x.2) (by simpa using hd) (by simp; omega) (by simp; omega)
      rw [← hd] at ih
      simp only [dV3]
      cases hr : allD s r with
      | none => rw [hr] at ih; exact ih
      | some y =>
        rw [hr] at ih
        simp only [List.append_assoc] at ih ⊢
        exact ih
def drV (s : List (List Tm)) (b : Bx) : List Int × List Int × Bool := if planeV s b then dV3 (allD s (edgesB b 0)) else ([], [], false)
theorem drV_len (s : List (List Tm)) (b : Bx) : (drV s b).1.length ≤ 128 ∧ (drV s b).2.1.length ≤ 128 := by
  unfold drV
  split
  · cases h : allD s (edgesB b 0) with
    | none => simp [dV3]
    | some x =>
      have := allD_len _ _ h
      rw [edgesB_len] at this
      simp only [dV3]
      omega
  · simp
theorem spec_divided_ev {s : List (List Tm)} {b : Bx} (hb : s.length < lenB) (hm : ∀ r ∈ s, r.length < lenB) (hx : b.2.1.length < lenB) : Evt (fun k _ => spec_DividedReasons k s b) (drV s b) := by
  refine Evt.eq (f := fun k q => _) ?_ (fun k q => by rw [spec_DividedReasons])
  refine Evt.bind (imGood_ev hb hm hx) ?_
  unfold drV
  cases h : planeV s b with
  | false => exact Evt.ctrue rfl .pure
  | true =>
    obtain ⟨hs, hp⟩ := planeV_form h hm
    refine Evt.cfalse rfl (Evt.bind (imEdgesB_ev (D := 0) hp (by omega)) ?_)
    have hl := specD_loop hs (es := edgesB b 0) edgesB_ok (by rw [edgesB_len]; omega) (edgesB b 0) [] [] [] rfl (by simp) (by simp)
    simp only [List.length_nil, List.nil_append] at hl
    rw [if_pos rfl]
    cases ha : allD s (edgesB b 0) with
    | none => rw [ha] at hl; exact Evt.inl (Evt.diag hl) .pure
    | some x => rw [ha] at hl; exact Evt.inr (Evt.diag hl) .pure
theorem impl_divided_ev {s : List (List Tm)} {b : Bx} (hb : s.length < lenB) (hm : ∀ r ∈ s, r.length < lenB) (hx : b.2.1.length < lenB) : Evt (fun k _ => impl_DividedReasons k s b) (drV s b) := by
  refine Evt.eq (f := fun k q => _) ?_ (fun k q => by rw [impl_DividedReasons])
  refine Evt.bind (isPlane_ev hb hm hx) ?_
  unfold drV
  cases h : planeV s b with
  | false => exact Evt.ctrue rfl .pure
  | true =>
    obtain ⟨hs, hp⟩ := planeV_form h hm
    refine Evt.cfalse rfl (Evt.bind (boundaryEdgesB_ev (D := 0) hp (by omega)) ?_)
    have hl := implD_loop hs (es := edgesB b 0) edgesB_ok (by rw [edgesB_len]; omega) (edgesB b 0) [] [] [] rfl (by simp) (by simp)
    simp only [List.length_nil, List.nil_append] at hl
    rw [if_pos rfl]
    cases ha : allD s (edgesB b 0) with
    | none => rw [ha] at hl; exact Evt.inl (Evt.diag hl) .pure
    | some x => rw [ha] at hl; exact Evt.inr (Evt.diag hl) .pure
theorem dividedReasons_row (a : List (List Tm)) (b : Bx) (h : WfT (.sl (.sl tTerm)) a) (hb : WfT tBox b) : ∃ k, laws_FnExactDividedReasons k a b = some true := by
  have hl := drV_len a b
  obtain ⟨y, hy1, hy2, _⟩ := markIntS_ok (drV a b).1 101 (by simp only [lenB]; omega)
  obtain ⟨z, hz1, hz2, _⟩ := markIntS_ok (drV a b).2.1 (101 + 1 * (drV a b).1.length) (by simp only [lenB]; omega)
  exact Evt.get (Evt.eq (frame_sbl (S := fun k a b => spec_DividedReasons k a b) (I := fun k a b => impl_DividedReasons k a b) (C := fun k r5 r8 x => (Option.bind (laws_eqIntS k r8.1 r5.1) fun r9 => (bif (!r9) then some false else (Option.bind (laws_eqIntS k r8.2.1 r5.2.1) fun r10 => (bif (!r10) then some false else (bif (!(r8.2.2 == r5.2.2)) then some false else x))))))
    (W := (Int × List Int) × (Int × List Int)) (M := fun k r8 f => Option.bind (laws_markIntS k r8.1 101) fun r19 => Option.bind (laws_markIntS k r8.2.1 r19.1) fun r20 => f (r19, r20))
    (H := fun k w x => (Option.bind (laws_heldIntS k w.1.2 101) fun r21 => (bif (decide (r21 < 0)) then some false else (Option.bind (laws_heldIntS k w.2.2 r21) fun r22 => (bif (decide (r22 < 0)) then some false else (bif (r22 != w.2.1) then some false else x))))))
    (v := drV a b) (w := ((((101 + 1 * (drV a b).1.length : Nat) : Int), y), (((101 + 1 * (drV a b).1.length + 1 * (drV a b).2.1.length : Nat) : Int), z))) h.1 (fun x hx => (h.2 x hx).1) hb.2.1.1 hb.2.2.1
    (fun hf => Evt.bind (eqIntS_ev (by simp only [lenB]; omega)) (Evt.cfalse rfl (Evt.bind (eqIntS_ev (by simp only [lenB]; omega)) (Evt.cfalse rfl (Evt.cfalse (by simp) hf)))))
    (fun hf => Evt.bind hy1 (Evt.bind hz1 hf)) (fun hf => Evt.bind hy2 (Evt.cfalse (by simp <;> omega) (Evt.bind hz2 (Evt.cfalse (by simp <;> omega) (Evt.cfalse (by simp) hf)))))
    (fun h1 h2 h3 => spec_divided_ev (by simp only [lenB]; omega) h2 h3) (fun h1 h2 h3 => impl_divided_ev h1 h2 h3)) (fun k _ => rfl))
end Go.Ev.G

