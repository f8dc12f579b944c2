/- What the plain functions of the law compute, for all inputs within the sizes that the theorems name. -/
import Derived.Test.YtjdnkcddfbifeaaGreatPCommonReasons1
import Derived.Test.YtjdnkcddfbifeaaGreatACommonReasons1
set_option linter.unusedVariables false
namespace Go.Ev.G
open Go Go.Ev
set_option maxRecDepth 100000

abbrev Bx := Int × List Int × List Int
def plV (b : Bx) : Bool := bxV b && (((b.2.1.length : Int) == 2) && decide (b.1 ≤ 3))
theorem imBox_ev {b : Bx} (hb : b.2.1.length < lenB) : Evt (fun k _ => spec_imBox k b) (plV b) := by
  refine Evt.eq (f := fun k q => _) ?_ (fun k q => by rw [spec_imBox])
  refine Evt.bind (bxGood_ev hb) ?_
  unfold plV
  cases bxV b with
  | false => exact Evt.cfalse rfl .pure
  | true =>
    refine Evt.ctrue rfl ?_
    cases ((b.2.1.length : Int) == 2) with
    | false => exact Evt.cfalse rfl .pure
    | true => exact Evt.ctrue rfl .pure
theorem isPlaneBox_ev {b : Bx} (hb : b.2.1.length < lenB) : Evt (fun k _ => impl_isPlaneBox k b) (plV b) := by
  refine Evt.eq (f := fun k q => _) ?_ (fun k q => by rw [impl_isPlaneBox])
  refine Evt.bind (isBox_ev hb) ?_
  unfold plV
  cases bxV b with
  | false => exact Evt.cfalse rfl .pure
  | true =>
    refine Evt.ctrue rfl ?_
    cases ((b.2.1.length : Int) == 2) with
    | false => exact Evt.cfalse rfl .pure
    | true => exact Evt.ctrue rfl .pure
def planeV (m : List (List Tm)) (b : Bx) : Bool := twoV m && plV b
theorem imGood_ev {m : List (List Tm)} {b : Bx} (hb : m.length < lenB) (hm : ∀ r ∈ m, r.length < lenB) (hx : b.2.1.length < lenB) : Evt (fun k _ => spec_imGood k m b) (planeV m b) := by
  refine Evt.eq (f := fun k q => _) ?_ (fun k q => by rw [spec_imGood])
  refine Evt.bind (poSystem_ev hb hm) ?_
  unfold planeV twoV
  cases sysV m with
  | false => exact Evt.cfalse rfl .pure
  | true =>
    refine Evt.ctrue rfl ?_
    cases ((m.length : Int) == 2) with
    | false => exact Evt.cfalse rfl .pure
    | true => exact Evt.ctrue rfl (Evt.bind (imBox_ev hx) .pure)
theorem isPlane_ev {m : List (List Tm)} {b : Bx} (hb : m.length < lenB) (hm : ∀ r ∈ m, r.length < lenB) (hx : b.2.1.length < lenB) : Evt (fun k _ => impl_isPlane k m b) (planeV m b) := by
  refine Evt.eq (f := fun k q => _) ?_ (fun k q => by rw [impl_isPlane])
  refine Evt.bind (isTwo_ev hb hm) ?_
  unfold planeV
  cases twoV m with
  | false => exact Evt.cfalse rfl .pure
  | true => exact Evt.ctrue rfl (Evt.bind (isPlaneBox_ev hx) .pure)
theorem plV_form {b : Bx} (h : plV b = true) : ∃ (m : Nat) (l0 l1 h0 h1 : Int), b = ((m : Int), [l0, l1], [h0, h1]) ∧ m ≤ 3 ∧ (-64 ≤ l0 ∧ l0 < h0 ∧ h0 ≤ 64) ∧ (-64 ≤ l1 ∧ l1 < h1 ∧ h1 ≤ 64) := by
  obtain ⟨d8, los, his⟩ := b
  unfold plV bxV at h
  simp only [Bool.and_eq_true, decide_eq_true_eq, beq_iff_eq] at h
  obtain ⟨⟨g1, g2, g3, g4, _⟩, g5, g6⟩ := h
  match los, his, g3, g5, g4 with
  | [l0, l1], [h0, h1], _, _, g4 =>
    refine ⟨d8.toNat, l0, l1, h0, h1, by rw [Int.toNat_of_nonneg g1.1], by omega, ?_⟩
    have hp : (8 : Int) * 2 ^ d8.toNat ≤ 64 := by
      have h1 : (2 : Nat) ^ d8.toNat ≤ 2 ^ 3 := Nat.pow_le_pow_right (by omega) (by omega)
      have h2 : ((2 : Int) ^ d8.toNat) = ((2 ^ d8.toNat : Nat) : Int) := by simp
      rw [h2]
      have : (2 : Nat) ^ 3 = 8 := by decide
      omega
    generalize (8 : Int) * 2 ^ d8.toNat = L at hp g4
    simp only [List.zip_cons_cons, List.zip_nil_left, List.all_cons, List.all_nil, Bool.and_true, Bool.and_eq_true, sideOk, decide_eq_true_eq] at g4
    omega

theorem strip_scale (k : Nat) (n : Int) : ∀ D : Nat, strip (k + D) (n * 2 ^ D) = strip k n
  | 0 => by simp
  | D + 1 => by
    have e : n * 2 ^ (D + 1) = (n * 2 ^ D) * 2 := by rw [Int.pow_succ, Int.mul_assoc]
    rw [e, ← Nat.add_assoc, strip, if_pos (by omega), Int.mul_ediv_cancel _ (by decide)]
    exact strip_scale k n D
theorem mkD_scale (k D : Nat) (n : Int) : mkD (n * 2 ^ D) (k + D) = mkD n k := by
  unfold mkD
  rw [strip_scale]
theorem pow5 {m : Nat} (h : m ≤ 5) : (1 : Int) ≤ 2 ^ m ∧ (2 : Int) ^ m ≤ 32 := by
  rcases (by omega : m = 0 ∨ m = 1 ∨ m = 2 ∨ m = 3 ∨ m = 4 ∨ m = 5) with rfl | rfl | rfl | rfl | rfl | rfl <;> decide
/-- a number on a side, some parts from its lower end -/
def numV (m D : Nat) (l h x : Int) : Int × Int := (mkD (l * 2 ^ D + x * (h - l)) (m + D)).1
theorem numV_gd (m D : Nat) (l h x : Int) : gd (numV m D l h x) := mkD_gd _ _
theorem mul_range {a b A B : Int} (h1 : -A ≤ a) (h2 : a ≤ A) (h3 : 0 ≤ b) (h4 : b ≤ B) (hA : 0 ≤ A) : -(A * B) ≤ a * b ∧ a * b ≤ A * B := by
  have e1 : a * b ≤ A * b := Int.mul_le_mul_of_nonneg_right h2 h3
  have e2 : A * b ≤ A * B := Int.mul_le_mul_of_nonneg_left h4 hA
  have e3 : -A * b ≤ a * b := Int.mul_le_mul_of_nonneg_right h1 h3
  rw [Int.neg_mul] at e3
  omega
theorem side_range {l h x : Int} {D : Nat} (hl : -64 ≤ l ∧ l < h ∧ h ≤ 64) (hD : D ≤ 5) (hx : 0 ≤ x ∧ x ≤ 64) : (-2048 ≤ l * 2 ^ D ∧ l * 2 ^ D ≤ 2048) ∧ (-2048 ≤ h * 2 ^ D ∧ h * 2 ^ D ≤ 2048) ∧ (0 ≤ x * (h - l) ∧ x * (h - l) ≤ 8192) := by
  have hp := pow5 hD
  have a := mul_range (a := l) (b := 2 ^ D) (A := 64) (B := 32) (by omega) (by omega) (by omega) (by omega) (by omega)
  have b := mul_range (a := h) (b := 2 ^ D) (A := 64) (B := 32) (by omega) (by omega) (by omega) (by omega) (by omega)
  have c := mul_range (a := x) (b := h - l) (A := 64) (B := 128) (by omega) (by omega) (by omega) (by omega) (by omega)
  have d : 0 ≤ x * (h - l) := Int.mul_nonneg hx.1 (by omega)
  omega
/-- the program's way to a number -/
theorem edges1_ev {m D : Nat} {b : Bx} {j : Nat} {l h x : Int} (hb1 : b.1 = m) (hj : j < b.2.1.length) (hj2 : j < b.2.2.length) (e1 : b.2.1.getD j 0 = l) (e2 : b.2.2.getD j 0 = h) (hl : -64 ≤ l ∧ l < h ∧ h ≤ 64) (hm : m ≤ 3) (hD : D ≤ 5) (hx : 0 ≤ x ∧ x ≤ 64) :
    Evt (fun k _ => impl_boundaryEdges_1 k j x b (2 ^ D) D) (numV m D l h x) := by
  have hr := side_range hl hD hx
  refine Evt.eq (f := fun k q => _) ?_ (fun k q => by rw [impl_boundaryEdges_1])
  refine Evt.ctrue (decide_eq_true (by omega)) (Evt.ctrue (decide_eq_true (by omega)) ?_)
  have el : impl_Box_length b j = some (h - l) := by
    unfold impl_Box_length
    rw [decide_eq_true (show (0 : Int) ≤ (j : Int) by omega), decide_eq_true (show (j : Int) < (b.2.2.length : Int) by omega), decide_eq_true (show (j : Int) < (b.2.1.length : Int) by omega)]
    simp only [cond_true, Int.toNat_natCast, e1, e2]
    rw [w64 (by omega) (by omega)]
  refine Evt.bind (.const el) ?_
  simp only [Int.toNat_natCast, e1]
  rw [w64 (n := l * 2 ^ D) (by omega) (by omega), w64 (n := x * (h - l)) (by omega) (by omega), w64 (by omega) (by omega), hb1, w64 (n := (m : Int) + (D : Int)) (by omega) (by omega)]
  refine Evt.bind (.const (wideOf_eq (by omega) (by omega))) ?_
  have := fitD_ev (n := l * 2 ^ D + x * (h - l)) (p := m + D) (by omega) (by omega) (by omega)
  rw [Int.natCast_add] at this
  exact Evt.bind this .pure
/-- one side of the way -/
def wayV (s : Int) (a : Int × Int) (g : Int → Int × Int) (c r : Nat) : List Ed := (List.range' c r).map fun i : Nat => (s, a, g (i : Int), g ((i : Int) + 1))
theorem imWay_ev {s : Int} {a : Int × Int} {u v : Int} {m D : Nat} {g : Int → Int × Int} (hu : -64 ≤ u ∧ u ≤ 64) (hv : -64 ≤ v ∧ v ≤ 64) (hm : m ≤ 3) (hD : D ≤ 5) (hg : ∀ x : Int, 0 ≤ x → x ≤ 2 ^ D → g x = (mkD (u * 2 ^ D + (v - u) * x) (m + D)).1) :
    Evt (fun k _ => spec_imWay k s a u v m D) (wayV s a g 0 (2 ^ D)) := by
  refine Evt.eq (f := fun k q => _) ?_ (fun k q => by rw [spec_imWay])
  refine Evt.bind (.const (dyPower_eq (m := D) (by omega))) ?_
  have hp := pow5 hD
  have hN : ((2 ^ D : Nat) : Int) = 2 ^ D := by simp
  generalize hNN : 2 ^ D = N at hN
  have num : ∀ x : Int, 0 ≤ x → x ≤ N → Evt (fun k _ => spec_bxNumber k (IntKind.wrap .i64 ((IntKind.wrap .i64 (u * (N : Int))) + (IntKind.wrap .i64 ((IntKind.wrap .i64 (v - u)) * x)))) (IntKind.wrap .i64 ((m : Int) + (D : Int)))) (g x) := by
    intro x h1 h2
    have a1 := mul_range (a := u) (b := 2 ^ D) (A := 64) (B := 32) (by omega) (by omega) (by omega) (by omega) (by omega)
    have a2 := mul_range (a := v - u) (b := x) (A := 128) (B := 32) (by omega) (by omega) (by omega) (by omega) (by omega)
    rw [hN, w64 (n := v - u) (by omega) (by omega), w64 (n := u * 2 ^ D) (by omega) (by omega), w64 (n := (v - u) * x) (by omega) (by omega), w64 (by omega) (by omega), w64 (n := (m : Int) + D) (by omega) (by omega), hg x h1 (by omega)]
    refine Evt.eq (f := fun k q => _) ?_ (fun k q => by rw [spec_bxNumber])
    have := dyMake_ev (n := u * 2 ^ D + (v - u) * x) (m := m + D) (by omega) (by omega) (by omega)
    rw [Int.natCast_add] at this
    exact Evt.bind this .pure
  have key : ∀ (r c : Nat) (acc : List Ed), c + r = N → acc.length + r ≤ 1000 → Evt (fun k n => spec_imWay_L122 k n s u v m D a acc (N : Int) c) (.inr (acc ++ wayV s a g c r, ())) := by
    intro r
    induction r with
    | zero =>
      intro c acc hc _
      refine Evt.step (fun k n => spec_imWay_L122.eq_2 k _ _ _ _ _ _ _ _ _ n) (Evt.cfalse (decide_eq_false (by omega)) ?_)
      simp only [wayV, List.range'_zero, List.map_nil, List.append_nil]
      exact .pure
    | succ r ih =>
      intro c acc hc ha
      refine Evt.step (fun k n => spec_imWay_L122.eq_2 k _ _ _ _ _ _ _ _ _ n) (Evt.ctrue (decide_eq_true (by omega)) ?_)
      refine Evt.bind (num c (by omega) (by omega)) ?_
      have w1 : IntKind.wrap .i64 ((c : Int) + 1) = (c : Int) + 1 := by rw [w64 (by omega) (by omega)]
      rw [w1]
      refine Evt.bind (num ((c : Int) + 1) (by omega) (by omega)) (Evt.ctrue (decide_eq_true (by simp only [List.length_cons, List.length_nil]; omega)) ?_)
      have := ih (c + 1) (acc ++ [(s, a, g c, g ((c : Int) + 1))]) (by omega) (by simp; omega)
      rw [Int.natCast_add] at this
      have e : acc ++ [(s, a, g c, g ((c : Int) + 1))] ++ wayV s a g (c + 1) r = acc ++ wayV s a g c (r + 1) := by
        simp only [wayV, List.range'_succ, List.map_cons, List.append_assoc, List.singleton_append]
      rw [e] at this
      exact this
  have hNb : N ≤ 32 := by omega
  have hk := key N 0 [] (by omega) (by simp; omega)
  exact Evt.inr (Evt.diag hk) .pure
def edgesV (m D : Nat) (l0 l1 h0 h1 : Int) : List Ed :=
  wayV 1 (mkD l1 m).1 (numV m D l0 h0) 0 (2 ^ D) ++ wayV 0 (mkD h0 m).1 (numV m D l1 h1) 0 (2 ^ D) ++ wayV 1 (mkD h1 m).1 (fun x => numV m D l0 h0 (2 ^ D - x)) 0 (2 ^ D) ++ wayV 0 (mkD l0 m).1 (fun x => numV m D l1 h1 (2 ^ D - x)) 0 (2 ^ D)
theorem wayV_len (s : Int) (a : Int × Int) (g : Int → Int × Int) (c r : Nat) : (wayV s a g c r).length = r := by simp [wayV]
theorem edgesV_len (m D : Nat) (l0 l1 h0 h1 : Int) : (edgesV m D l0 l1 h0 h1).length = 4 * 2 ^ D := by
  simp only [edgesV, List.length_append, wayV_len]; omega
theorem wayV_ok {s : Int} {a : Int × Int} {g : Int → Int × Int} {c r : Nat} (hs : s = 0 ∨ s = 1) (ha : gd a) (hg : ∀ x, gd (g x)) : ∀ e ∈ wayV s a g c r, EdOk e := by
  intro e he
  simp only [wayV, List.mem_map] at he
  obtain ⟨i, _, rfl⟩ := he
  exact ⟨hs, ha, hg _, hg _⟩
theorem edgesV_ok {m D : Nat} {l0 l1 h0 h1 : Int} : ∀ e ∈ edgesV m D l0 l1 h0 h1, EdOk e := by
  intro e he
  simp only [edgesV, List.mem_append] at he
  rcases he with ((he | he) | he) | he
  · exact wayV_ok (.inr rfl) (mkD_gd _ _) (fun x => numV_gd _ _ _ _ _) e he
  · exact wayV_ok (.inl rfl) (mkD_gd _ _) (fun x => numV_gd _ _ _ _ _) e he
  · exact wayV_ok (.inr rfl) (mkD_gd _ _) (fun x => numV_gd _ _ _ _ _) e he
  · exact wayV_ok (.inl rfl) (mkD_gd _ _) (fun x => numV_gd _ _ _ _ _) e he
theorem imEdges_ev {m D : Nat} {l0 l1 h0 h1 : Int} (hm : m ≤ 3) (hD : D ≤ 5) (g0 : -64 ≤ l0 ∧ l0 < h0 ∧ h0 ≤ 64) (g1 : -64 ≤ l1 ∧ l1 < h1 ∧ h1 ≤ 64) : Evt (fun k _ => spec_imEdges k ((m : Int), [l0, l1], [h0, h1]) D) (edgesV m D l0 l1 h0 h1) := by
  refine Evt.eq (f := fun k q => _) ?_ (fun k q => by rw [spec_imEdges])
  have hp : 2 ^ D ≤ 32 := by
    have := Nat.pow_le_pow_right (n := 2) (by omega) hD
    simpa using this
  have num : ∀ x : Int, -64 ≤ x ∧ x ≤ 64 → Evt (fun k _ => spec_bxNumber k x (m : Int)) (mkD x m).1 := by
    intro x hx
    refine Evt.eq (f := fun k q => _) ?_ (fun k q => by rw [spec_bxNumber])
    exact Evt.bind (dyMake_ev (n := x) (m := m) (by omega) (by omega) (by omega)) .pure
  have fwd : ∀ (l h : Int) (x : Int), 0 ≤ x → x ≤ 2 ^ D → numV m D l h x = (mkD (l * 2 ^ D + (h - l) * x) (m + D)).1 := by
    intro l h x _ _
    rw [numV, Int.mul_comm x]
  have bwd : ∀ (l h : Int) (x : Int), 0 ≤ x → x ≤ 2 ^ D → numV m D l h (2 ^ D - x) = (mkD (h * 2 ^ D + (l - h) * x) (m + D)).1 := by
    intro l h x _ _
    have e : l * 2 ^ D + (2 ^ D - x) * (h - l) = h * 2 ^ D + (l - h) * x := by
      simp only [Int.sub_mul, Int.mul_sub, Int.mul_comm (2 ^ D), Int.mul_comm x]
      omega
    rw [numV, e]
  refine Evt.ctrue rfl (Evt.ctrue rfl (Evt.ctrue rfl (Evt.ctrue rfl ?_)))
  refine Evt.bind (num l1 (by omega)) (Evt.bind (imWay_ev (u := l0) (v := h0) (g := numV m D l0 h0) (by omega) (by omega) hm hD (fwd l0 h0)) ?_)
  refine Evt.bind (num h0 (by omega)) (Evt.bind (imWay_ev (u := l1) (v := h1) (g := numV m D l1 h1) (by omega) (by omega) hm hD (fwd l1 h1)) ?_)
  refine Evt.ctrue (decide_eq_true (by simp only [wayV_len]; omega)) ?_
  refine Evt.bind (num h1 (by omega)) (Evt.bind (imWay_ev (u := h0) (v := l0) (g := fun x => numV m D l0 h0 (2 ^ D - x)) (by omega) (by omega) hm hD (bwd l0 h0)) ?_)
  refine Evt.ctrue (decide_eq_true (by simp only [List.length_append, wayV_len]; omega)) ?_
  refine Evt.bind (num l0 (by omega)) (Evt.bind (imWay_ev (u := h1) (v := l1) (g := fun x => numV m D l1 h1 (2 ^ D - x)) (by omega) (by omega) hm hD (bwd l1 h1)) ?_)
  exact Evt.ctrue (decide_eq_true (by simp only [List.length_append, wayV_len]; omega)) .pure
end Go.Ev.G

namespace Go.Ev.G
open Go Go.Ev
set_option maxRecDepth 100000

theorem edges_inner {m D : Nat} {b : Bx} {j : Nat} {s kk x17 : Int} {l h : Int} {a : Int × Int} (hb1 : b.1 = m) (hj : j < b.2.1.length) (hj2 : j < b.2.2.length) (e1 : b.2.1.getD j 0 = l) (e2 : b.2.2.getD j 0 = h) (hl : -64 ≤ l ∧ l < h ∧ h ≤ 64) (hm : m ≤ 3) (hD : D ≤ 5) (hs : IntKind.wrap .i64 (1 - s) = (j : Int)) :
    ∀ (r c : Nat) (acc : List Ed), c + r = 2 ^ D → acc.length + r ≤ 1000 → Evt (fun k n => impl_boundaryEdges_L512830 k n (2 ^ D) (b, 2 ^ D, (D : Int), ()) acc kk s a x17 (2 ^ D) c) (.inr (2 ^ D, (b, 2 ^ D, (D : Int), ()), acc ++ wayV s a (fun x => numV m D l h (if kk ≥ 2 then 2 ^ D - x else x)) c r, x17, ()))
  | 0, c, acc, hc, _ => by
    have hN : ((2 ^ D : Nat) : Int) = 2 ^ D := by simp
    refine Evt.step (fun k n => impl_boundaryEdges_L512830.eq_2 k _ _ _ _ _ _ _ _ _ n) (Evt.cfalse (decide_eq_false (by omega)) ?_)
    simp only [wayV, List.range'_zero, List.map_nil, List.append_nil]
    exact .pure
  | r + 1, c, acc, hc, ha => by
    have hN : ((2 ^ D : Nat) : Int) = 2 ^ D := by simp
    have hp := pow5 hD
    refine Evt.step (fun k n => impl_boundaryEdges_L512830.eq_2 k _ _ _ _ _ _ _ _ _ n) (Evt.ctrue (decide_eq_true (by omega)) ?_)
    let g : Int → Int × Int := fun x => numV m D l h (if kk ≥ 2 then 2 ^ D - x else x)
    have num : ∀ x : Int, 0 ≤ x → x ≤ 2 ^ D → Evt (fun k _ => impl_boundaryEdges_1 k (IntKind.wrap .i64 (1 - s)) x b (2 ^ D) D) (numV m D l h x) := by
      intro x h1 h2
      rw [hs]
      exact edges1_ev hb1 hj hj2 e1 e2 hl hm hD (by omega)
    have ih := edges_inner (kk := kk) (x17 := x17) (s := s) (a := a) hb1 hj hj2 e1 e2 hl hm hD hs r (c + 1) (acc ++ [(s, a, g c, g ((c : Int) + 1))]) (by omega) (by simp; omega)
    have w1 : IntKind.wrap .i64 ((c : Int) + 1) = ((c + 1 : Nat) : Int) := w64_next (by simp only [lenB]; omega)
    have e : acc ++ [(s, a, g c, g ((c : Int) + 1))] ++ wayV s a g (c + 1) r = acc ++ wayV s a g c (r + 1) := by
      simp only [wayV, List.range'_succ, List.map_cons, List.append_assoc, List.singleton_append]
    have ih2 : Evt (fun k n => impl_boundaryEdges_L512830 k n (2 ^ D) (b, 2 ^ D, (D : Int), ()) (acc ++ [(s, a, g c, g ((c : Int) + 1))]) kk s a x17 (2 ^ D) ((c + 1 : Nat) : Int)) (.inr (2 ^ D, (b, 2 ^ D, (D : Int), ()), acc ++ wayV s a g c (r + 1), x17, ())) := by
      rw [← e]; exact ih
    by_cases hk : kk ≥ 2
    · have g1 : g c = numV m D l h (2 ^ D - c) := by show numV m D l h (if kk ≥ 2 then 2 ^ D - (c : Int) else c) = _; rw [if_pos hk]
      have g2 : g ((c : Int) + 1) = numV m D l h (2 ^ D - c - 1) := by
        show numV m D l h (if kk ≥ 2 then 2 ^ D - ((c : Int) + 1) else (c : Int) + 1) = _
        rw [if_pos hk, show (2 : Int) ^ D - (c + 1) = 2 ^ D - c - 1 by omega]
      refine Evt.inr (Evt.ctrue (decide_eq_true hk) .pure) ?_
      have w2 : IntKind.wrap .i64 ((2 : Int) ^ D - c) = 2 ^ D - c := w64 (by omega) (by omega)
      have w3 : IntKind.wrap .i64 ((2 : Int) ^ D - c - 1) = 2 ^ D - c - 1 := w64 (by omega) (by omega)
      simp only [w2, w3, w1]
      rw [g1, g2] at ih2
      refine Evt.bind (num _ (by omega) (by omega)) (Evt.bind (num _ (by omega) (by omega)) (Evt.ctrue (decide_eq_true (by simp only [List.length_cons, List.length_nil]; omega)) ?_))
      exact ih2
    · have g1 : g c = numV m D l h c := by show numV m D l h (if kk ≥ 2 then 2 ^ D - (c : Int) else c) = _; rw [if_neg hk]
      have g2 : g ((c : Int) + 1) = numV m D l h ((c : Int) + 1) := by
        show numV m D l h (if kk ≥ 2 then 2 ^ D - ((c : Int) + 1) else (c : Int) + 1) = _
        rw [if_neg hk]
      refine Evt.inr (Evt.cfalse (decide_eq_false hk) .pure) ?_
      have w2 : IntKind.wrap .i64 ((c : Int) + 1) = (c : Int) + 1 := w64 (by omega) (by omega)
      simp only [w2]
      rw [g1, g2] at ih2
      refine Evt.bind (num _ (by omega) (by omega)) (Evt.bind (num _ (by omega) (by omega)) (Evt.ctrue (decide_eq_true (by simp only [List.length_cons, List.length_nil]; omega)) ?_))
      exact ih2
theorem boundaryEdges_ev {m D : Nat} {l0 l1 h0 h1 : Int} (hm : m ≤ 3) (hD : D ≤ 5) (g0 : -64 ≤ l0 ∧ l0 < h0 ∧ h0 ≤ 64) (g1 : -64 ≤ l1 ∧ l1 < h1 ∧ h1 ≤ 64) : Evt (fun k _ => impl_boundaryEdges k ((m : Int), [l0, l1], [h0, h1]) D) (edgesV m D l0 l1 h0 h1) := by
  have hN : ((2 ^ D : Nat) : Int) = 2 ^ D := by simp
  have hp := pow5 hD
  have hNb : 2 ^ D ≤ 32 := by omega
  let b : Bx := ((m : Int), [l0, l1], [h0, h1])
  refine Evt.eq (f := fun k q => _) ?_ (fun k q => by rw [impl_boundaryEdges])
  refine Evt.cfalse (decide_eq_false (by omega)) ?_
  have hw : IntKind.wrap .i64 (1 * 2 ^ min (Int.toNat (D : Int)) (IntKind.bits .i64)) = 2 ^ D := by
    rw [min64 (by omega), Int.one_mul, w64 (by omega) (by omega)]
  simp only [hw]
  have one : ∀ {R : List Ed ⊕ (List Ed × Unit)} (kk s : Int) (j : Nat) (l h : Int) (a0 a : Int × Int) (acc : List Ed), 0 ≤ kk → kk < 4 → IntKind.wrap .i64 (1 - Int.tmod kk 2) = s → IntKind.wrap .i64 (1 - s) = (j : Int) → j < 2 → b.2.1.getD j 0 = l → b.2.2.getD j 0 = h → (-64 ≤ l ∧ l < h ∧ h ≤ 64) →
      Evt (fun k _ => impl_boundaryEdges_1 k s 0 b (2 ^ D) D) a0 → (kk = 1 ∨ kk = 2 → Evt (fun k _ => impl_boundaryEdges_1 k s (2 ^ D) b (2 ^ D) D) a) → (¬(kk = 1 ∨ kk = 2) → a0 = a) → acc.length ≤ 200 →
      Evt (fun k n => impl_boundaryEdges_L250 k n (2 ^ D) (b, 2 ^ D, (D : Int), ()) (acc ++ wayV s a (fun x => numV m D l h (if kk ≥ 2 then 2 ^ D - x else x)) 0 (2 ^ D)) (IntKind.wrap .i64 (kk + 1))) R → Evt (fun k n => impl_boundaryEdges_L250 k n (2 ^ D) (b, 2 ^ D, (D : Int), ()) acc kk) R := by
    intro R kk s j l h a0 a acc hk0 hk4 hs hj hj2 e1 e2 hl ha0 ha1 haa hacc hrest
    have hin := edges_inner (kk := kk) (x17 := kk) (s := s) (a := a) (b := b) (j := j) (m := m) rfl (by simpa [b] using hj2) (by simpa [b] using hj2) e1 e2 hl hm hD hj (2 ^ D) 0 acc (by omega) (by omega)
    refine Evt.step (fun k n => impl_boundaryEdges_L250.eq_2 k _ _ _ _ n) (Evt.ctrue (decide_eq_true hk4) ?_)
    simp only [hs]
    refine Evt.bind ha0 (Evt.inr (y := (2 ^ D, (b, 2 ^ D, (D : Int), ()), acc, kk, s, a, kk, ())) ?_ (Evt.inr (Evt.diag hin) hrest))
    by_cases c1 : kk = 1
    · exact Evt.ctrue (by simp [c1]) (Evt.bind (ha1 (.inl c1)) .pure)
    · refine Evt.cfalse (by simpa using c1) ?_
      by_cases c2 : kk = 2
      · exact Evt.ctrue (by simp [c2]) (Evt.bind (ha1 (.inr c2)) .pure)
      · refine Evt.cfalse (by simpa using c2) ?_
        rw [haa (by omega)]
        exact .pure
  have n0 : ∀ {j : Nat} {l h : Int}, j < 2 → b.2.1.getD j 0 = l → b.2.2.getD j 0 = h → (-64 ≤ l ∧ l < h ∧ h ≤ 64) → Evt (fun k _ => impl_boundaryEdges_1 k j 0 b (2 ^ D) D) (mkD l m).1 := by
    intro j l h hj e1 e2 hl
    have := edges1_ev (x := 0) (b := b) (m := m) rfl (by simpa [b] using hj) (by simpa [b] using hj) e1 e2 hl hm hD (by omega)
    rw [numV, Int.zero_mul, Int.add_zero, mkD_scale] at this
    exact this
  have n1 : ∀ {j : Nat} {l h : Int}, j < 2 → b.2.1.getD j 0 = l → b.2.2.getD j 0 = h → (-64 ≤ l ∧ l < h ∧ h ≤ 64) → Evt (fun k _ => impl_boundaryEdges_1 k j (2 ^ D) b (2 ^ D) D) (mkD h m).1 := by
    intro j l h hj e1 e2 hl
    have := edges1_ev (x := 2 ^ D) (b := b) (m := m) rfl (by simpa [b] using hj) (by simpa [b] using hj) e1 e2 hl hm hD (by omega)
    have e : l * 2 ^ D + 2 ^ D * (h - l) = h * 2 ^ D := by
      rw [Int.mul_sub, Int.mul_comm (2 ^ D) h, Int.mul_comm (2 ^ D) l]; omega
    rw [numV, e, mkD_scale] at this
    exact this
  have fin : ∀ acc : List Ed, Evt (fun k n => impl_boundaryEdges_L250 k n (2 ^ D) (b, 2 ^ D, (D : Int), ()) acc 4) (.inr (acc, ())) := fun acc =>
    Evt.step (fun k n => impl_boundaryEdges_L250.eq_2 k _ _ _ _ n) (Evt.cfalse rfl .pure)
  have w1 : IntKind.wrap .i64 (0 + 1) = 1 := by decide
  have w2 : IntKind.wrap .i64 (1 + 1) = 2 := by decide
  have w3 : IntKind.wrap .i64 (2 + 1) = 3 := by decide
  have w4 : IntKind.wrap .i64 (3 + 1) = 4 := by decide
  have all : Evt (fun k n => impl_boundaryEdges_L250 k n (2 ^ D) (b, 2 ^ D, (D : Int), ()) [] 0) (.inr (edgesV m D l0 l1 h0 h1, ())) := by
    refine one 0 1 0 l0 h0 (mkD l1 m).1 (mkD l1 m).1 [] (by omega) (by omega) (by decide) (by decide) (by omega) rfl rfl g0 (n0 (j := 1) (by omega) rfl rfl g1) (by omega) (fun _ => rfl) (by simp) ?_
    rw [w1]
    refine one 1 0 1 l1 h1 (mkD l0 m).1 (mkD h0 m).1 _ (by omega) (by omega) (by decide) (by decide) (by omega) rfl rfl g1 (n0 (j := 0) (by omega) rfl rfl g0) (fun _ => n1 (j := 0) (by omega) rfl rfl g0) (by omega) (by simp only [List.length_append, List.length_nil, wayV_len]; omega) ?_
    rw [w2]
    refine one 2 1 0 l0 h0 (mkD l1 m).1 (mkD h1 m).1 _ (by omega) (by omega) (by decide) (by decide) (by omega) rfl rfl g0 (n0 (j := 1) (by omega) rfl rfl g1) (fun _ => n1 (j := 1) (by omega) rfl rfl g1) (by omega) (by simp only [List.length_append, List.length_nil, wayV_len]; omega) ?_
    rw [w3]
    refine one 3 0 1 l1 h1 (mkD l0 m).1 (mkD l0 m).1 _ (by omega) (by omega) (by decide) (by decide) (by omega) rfl rfl g1 (n0 (j := 0) (by omega) rfl rfl g0) (by omega) (fun _ => rfl) (by simp only [List.length_append, List.length_nil, wayV_len]; omega) ?_
    rw [w4]
    exact fin _
  exact Evt.inr (Evt.diag all) .pure

def edgesB (b : Bx) (D : Nat) : List Ed := edgesV b.1.toNat D (b.2.1.getD 0 0) (b.2.1.getD 1 0) (b.2.2.getD 0 0) (b.2.2.getD 1 0)
theorem edgesB_len (b : Bx) (D : Nat) : (edgesB b D).length = 4 * 2 ^ D := edgesV_len _ _ _ _ _ _
theorem edgesB_ok {b : Bx} {D : Nat} : ∀ e ∈ edgesB b D, EdOk e := edgesV_ok
theorem imEdgesB_ev {b : Bx} {D : Nat} (h : plV b = true) (hD : D ≤ 5) : Evt (fun k _ => spec_imEdges k b D) (edgesB b D) := by
  obtain ⟨m, l0, l1, h0, h1, rfl, hm, g0, g1⟩ := plV_form h
  exact imEdges_ev hm hD g0 g1
theorem boundaryEdgesB_ev {b : Bx} {D : Nat} (h : plV b = true) (hD : D ≤ 5) : Evt (fun k _ => impl_boundaryEdges k b D) (edgesB b D) := by
  obtain ⟨m, l0, l1, h0, h1, rfl, hm, g0, g1⟩ := plV_form h
  exact boundaryEdges_ev hm hD g0 g1
end Go.Ev.G

namespace Go.Ev.G
open Go Go.Ev
set_option maxRecDepth 100000

theorem markBox_ev {b : Int × List Int × List Int} {a : Nat} (h : a + b.2.1.length + b.2.2.length < lenB) : Evt (fun k _ => laws_markBox k b a) ((a + 1 * b.2.1.length + 1 * b.2.2.length : Nat) : Int) := by
  refine Evt.eq (f := fun k q => _) ?_ (fun k q => by rw [laws_markBox])
  obtain ⟨y, hy, _⟩ := markIntS_only b.2.1 a (by show a + 1 * b.2.1.length < lenB; omega)
  obtain ⟨z, hz, _⟩ := markIntS_only b.2.2 (a + 1 * b.2.1.length) (by show a + 1 * b.2.1.length + 1 * b.2.2.length < lenB; omega)
  exact Evt.bind hy (Evt.bind hz .pure)

end Go.Ev.G

namespace Go.Ev.G
open Go Go.Ev
set_option maxRecDepth 100000

theorem markIntS_ok : MarkOk laws_markIntS laws_heldIntS (fun x => 1 * x.length) :=
  mark_all (M := laws_markIntS_L26) (H := laws_heldIntS_L26) (mv := fun a => (a : Int)) (by omega)
    (fun k n d r e a h1 h2 => by
      rw [laws_markIntS_L26]
      rw [mid_lt, mid_ge, mid_set, w64_next (m := d.length) (by simp at h2; omega), w64_next (m := a) (by omega)]
      rfl)
    (fun k n d a => by rw [laws_markIntS_L26, mid_end]; rfl)
    (fun k n d r a h1 h2 => by
      rw [laws_heldIntS_L26]
      simp only [mid_lt, mid_ge, mid_get, cond_true]
      rw [w64_next (m := d.length) (by simp at h2; omega), w64_next (m := a) (by omega)]
      simp only [bne_self_eq_false, cond_false])
    (fun k n d a => by rw [laws_heldIntS_L26, mid_end]; rfl)
    (fun _ _ _ => rfl) (fun _ _ _ => rfl)
theorem markTermS_only : MarkOk laws_markTermS (heldAny 4) (fun x => 4 * x.length) :=
  mark_only (M := laws_markTermS_L26) (mv := fun a => ((a : Int), ((a + 1 : Nat) : Int), ((a + 2 : Nat) : Int), ((a + 3 : Nat) : Int))) (by omega)
    (fun k n d r e a h1 h2 => by
      rw [laws_markTermS_L26]
      simp only [mid_lt, mid_ge, mid_get, mid_set, cond_true]
      rw [w64_next (m := d.length) (by simp at h2; omega), w64_next (m := a) (by omega), w64_next (m := a + 1) (by omega), w64_next (m := a + 2) (by omega), w64_next (m := a + 3) (by omega)])
    (fun k n d a => by rw [laws_markTermS_L26, mid_end]; rfl)
    (fun _ _ _ => rfl)
def heldAnyL {γ : Type} (c : Nat) (k : Nat) : Nat → List (List γ) → Int → Int → Option (Int ⊕ (Int × Unit))
  | 0, _, _, _ => none
  | n + 1, x, a, i => (bif (decide (i < (x.length : Int))) then (bif (decide (0 ≤ i)) then (bif (decide (i < (x.length : Int))) then (Option.bind (heldAny c k (x.getD (Int.toNat i) []) a) fun r => bif (decide (r < 0)) then some (.inl (-1)) else heldAnyL c k n x r (IntKind.wrap .i64 (i + 1))) else none) else none) else some (.inr (a, ())))
theorem markTermSS_ev {x : List (List Tm)} {a : Nat} (hx : x.length < lenB) (ha : a + (x.map fun r => 4 * r.length).sum < lenB) : ∃ y, Evt (fun k _ => laws_markTermSS k x a) (((a + (x.map fun r => 4 * r.length).sum : Nat) : Int), y) := by
  obtain ⟨y, h1, _⟩ := mark_rows_all (M := laws_markTermSS_L26) (H := heldAnyL 4) (marks := laws_markTermSS) (helds := fun k x a => both (R := Int) (P := Int × Unit) (heldAnyL 4 k k x a 0) (fun q => some q) (fun y => some y.1)) markTermS_only (fun _ _ _ _ _ => rfl) (fun _ _ _ _ _ => rfl) (fun _ _ _ => rfl) (fun _ _ _ => rfl) hx ha
  exact ⟨y, h1⟩
theorem sum_four : ∀ (x : List (List Tm)), (x.map fun r => 4 * r.length).sum = 4 * (x.map List.length).sum
  | [] => rfl
  | r :: x => by simp only [List.map_cons, List.sum_cons, sum_four x]; omega
theorem Sized.marks4 {a : List (List Tm)} (h : Sized a) : 101 + (a.map fun r => 4 * r.length).sum ≤ 4000101 := by
  rw [sum_four]; unfold Sized at h; omega

section
variable {V : Type}
end
theorem held_ints {m : Nat} {w : List Int} (hH : Evt (fun k _ => laws_heldIntS k w 101) (m : Int)) {f : Nat → Nat → Option Bool} {r : Bool} (h : Evt f r) : Evt (fun k n => (Option.bind (laws_heldIntS k w 101) fun r18 => (bif (decide (r18 < 0)) then some false else (bif (r18 != (m : Int)) then some false else f k n)))) r := Evt.bind hH (Evt.cfalse (by simp <;> omega) (Evt.cfalse (by simp) h))
theorem cmp_ints {v : List Int × Bool} (hl : v.1.length < lenB) {f : Nat → Nat → Option Bool} {r : Bool} (h : Evt f r) : Evt (fun k n => (Option.bind (laws_eqIntS k v.1 v.1) fun r9 => (bif (!r9) then some false else (bif (!(v.2 == v.2)) then some false else f k n)))) r := Evt.bind (eqIntS_ev hl) (Evt.cfalse rfl (Evt.cfalse (by simp) h))

/-- what a plane system is asked to be -/
structure Pl (s : List (List Tm)) : Prop where
  ln : s.length = 2
  tm : ∀ p ∈ s, ∀ t ∈ p, tmW t
  lp : ∀ p ∈ s, p.length < lenB
theorem twoV_pl {s : List (List Tm)} (h : twoV s = true) (hm : ∀ r ∈ s, r.length < lenB) : Pl s := ⟨(twoV_len h).2, sysV_tm (twoV_len h).1, hm⟩
theorem Pl.sd {s : List (List Tm)} (h : Pl s) {e : Ed} (he : EdOk e) : Sd s (sidesE e) := Sd.edge h.tm h.lp he
theorem pow2N5 {D : Nat} (h : D ≤ 5) : 1 ≤ 2 ^ D ∧ 2 ^ D ≤ 32 := by
  have := pow5 h
  have e : ((2 ^ D : Nat) : Int) = 2 ^ D := by simp
  omega
/-- what is asked of a system, a box and a depth -/
def askV (s : List (List Tm)) (b : Bx) (d : Int) : Bool := planeV s b && decide (0 ≤ d ∧ d ≤ 5)
theorem imAsked_ev {m : List (List Tm)} {b : Bx} {d : Int} (hb : m.length < lenB) (hm : ∀ r ∈ m, r.length < lenB) (hx : b.2.1.length < lenB) : Evt (fun k _ => spec_imAsked k m b d) (askV m b d) := by
  refine Evt.eq (f := fun k q => _) ?_ (fun k q => by rw [spec_imAsked])
  refine Evt.bind (imGood_ev hb hm hx) ?_
  unfold askV
  cases planeV m b with
  | false => exact Evt.cfalse rfl .pure
  | true =>
    refine Evt.ctrue rfl (Evt.bind (.const (?_ : spec_imDepth d = some (decide (0 ≤ d ∧ d ≤ 5)))) .pure)
    unfold spec_imDepth
    rw [l1In_eq]; rfl
theorem askV_form {m : List (List Tm)} {b : Bx} {d : Int} (h : askV m b d = true) (hm : ∀ r ∈ m, r.length < lenB) : ∃ D : Nat, d = D ∧ D ≤ 5 ∧ Pl m ∧ plV b = true := by
  unfold askV planeV at h
  simp only [Bool.and_eq_true] at h
  have hd := of_decide_eq_true h.2
  exact ⟨d.toNat, by omega, by omega, twoV_pl h.1.1 hm, h.1.2⟩
end Go.Ev.G

namespace Go.Ev.G
open Go Go.Ev
set_option maxRecDepth 100000

def colV {α : Type} (f : α → Option Nat) : List α → List Int × Bool
  | [] => ([], true)
  | e :: r => match f e with
    | some j => ((j : Int) :: (colV f r).1, (colV f r).2)
    | none => ([], false)
theorem colV_len {α : Type} {f : α → Option Nat} : ∀ (es : List α), (colV f es).1.length ≤ es.length ∧ ((colV f es).2 = true ↔ (colV f es).1.length = es.length)
  | [] => by simp [colV]
  | e :: r => by
    have := colV_len (f := f) r
    unfold colV
    cases f e with
    | none => simp
    | some j =>
      simp only [List.length_cons]
      exact ⟨by omega, by rw [this.2]; omega⟩
end Go.Ev.G

namespace Go.Ev.G
open Go Go.Ev
set_option maxRecDepth 100000

theorem inside5_eq (d : Int) : impl_inside d 0 5 = some (decide (0 ≤ d ∧ d ≤ 5)) := inside_eq d 0 5
theorem spec_ask {V : Type} {s : List (List Tm)} {b : Bx} {d : Int} {z : V} {g : Nat → Option V} {v : V} (hb : s.length < lenB) (hm : ∀ r ∈ s, r.length < lenB) (hx : b.2.1.length < lenB) (hz : askV s b d = false → v = z) (hg : askV s b d = true → Evt (fun k _ => g k) v) :
    Evt (fun k _ => (Option.bind (spec_imAsked k s b d) fun r1 => (bif (!r1) then some z else g k))) v := by
  refine Evt.bind (imAsked_ev hb hm hx) ?_
  cases hp : askV s b d with
  | false => rw [hz hp]; exact Evt.ctrue rfl .pure
  | true => exact Evt.cfalse rfl (hg hp)

theorem askV_le {s : List (List Tm)} {b : Bx} {d : Int} (h : askV s b d = true) : d.toNat ≤ 5 := by
  unfold askV at h
  rw [Bool.and_eq_true] at h
  have := of_decide_eq_true h.2
  omega
theorem planeV_form {s : List (List Tm)} {b : Bx} (h : planeV s b = true) (hm : ∀ r ∈ s, r.length < lenB) : Pl s ∧ plV b = true := by
  unfold planeV at h
  rw [Bool.and_eq_true] at h
  exact ⟨twoV_pl h.1 hm, h.2⟩
end Go.Ev.G

namespace Go.Ev.G
open Go Go.Ev
set_option maxRecDepth 100000

def halfD (a b : Int × Int) : (Int × Int) × Bool := mkD (sumN a b) (exA a b + 1)
theorem halfD_gd (a b : Int × Int) : gd (halfD a b).1 := mkD_gd _ _
theorem EdOk.left {e : Ed} (h : EdOk e) : EdOk (e.1, e.2.1, e.2.2.1, (halfD e.2.2.1 e.2.2.2).1) := ⟨h.sd, h.a, h.f, halfD_gd _ _⟩
theorem EdOk.right {e : Ed} (h : EdOk e) : EdOk (e.1, e.2.1, (halfD e.2.2.1 e.2.2.2).1, e.2.2.2) := ⟨h.sd, h.a, halfD_gd _ _, h.t⟩
end Go.Ev.G

namespace Go.Ev.G
open Go Go.Ev
set_option maxRecDepth 100000

def cmP (s t : List (List Tm)) (e : Ed) (r : Nat) : Bool := hV 2 s (sidesE e) r && hV 2 t (sidesE e) r
def cmn (s t : List (List Tm)) (e : Ed) : Option Nat := (List.range 4).find? (cmP s t e)
theorem cmn_if (s t : List (List Tm)) (e : Ed) : cmn s t e = if cmP s t e 0 then some 0 else if cmP s t e 1 then some 1 else if cmP s t e 2 then some 2 else if cmP s t e 3 then some 3 else none := by
  unfold cmn
  show List.find? (cmP s t e) [0, 1, 2, 3] = _
  simp only [List.find?_cons, List.find?_nil]
  cases cmP s t e 0 <;> cases cmP s t e 1 <;> cases cmP s t e 2 <;> cases cmP s t e 3 <;> rfl
abbrev CmO := List (List Tm) × List (List Tm) × List Int × Int × List Ed × Int × Int × Unit
theorem specC_step {s t : List (List Tm)} (hs : Pl s) (ht : Pl t) {e : Ed} (he : EdOk e) {acc : List Int} {x28 : List Ed} {x29 x30 : Int} {r : Nat} (hr : r < 4) (f : Int) {R : (List Int × Bool) ⊕ CmO}
    (h : Evt (fun k n => spec_CommonReasons_L125338 k n s t acc e (if cmP s t e r then (r : Int) else f) ((r : Int) - 1) x28 x29 x30) R) : Evt (fun k n => spec_CommonReasons_L125338 k n s t acc e f r x28 x29 x30) R := by
  refine Evt.step (fun k n => spec_CommonReasons_L125338.eq_2 k _ _ _ _ _ _ _ _ _ n) (Evt.ctrue (decide_eq_true (by omega)) ?_)
  have w : IntKind.wrap .i64 ((r : Int) - 1) = (r : Int) - 1 := w64 (by omega) (by omega)
  rw [w]
  unfold cmP at h
  refine Evt.bind (imSides_ev he) (Evt.bind (imHolds_ev (hs.sd he) hs.ln hr) ?_)
  cases q1 : hV 2 s (sidesE e) r with
  | false =>
    rw [q1, Bool.false_and, if_neg (by simp)] at h
    exact Evt.cfalse rfl h
  | true =>
    refine Evt.ctrue rfl (Evt.bind (imSides_ev he) (Evt.bind (imHolds_ev (ht.sd he) ht.ln hr) ?_))
    cases q2 : hV 2 t (sidesE e) r with
    | false =>
      rw [q1, q2, Bool.and_false, if_neg (by simp)] at h
      exact Evt.cfalse rfl h
    | true =>
      rw [q1, q2, Bool.and_true, if_pos rfl] at h
      exact Evt.ctrue rfl h
theorem specC_inner {s t : List (List Tm)} (hs : Pl s) (ht : Pl t) {e : Ed} (he : EdOk e) {acc : List Int} {x28 : List Ed} {x29 x30 : Int} :
    Evt (fun k n => spec_CommonReasons_L125338 k n s t acc e (-1) 3 x28 x29 x30) (.inr (s, t, acc, (match cmn s t e with | some j => (j : Int) | none => -1), x28, x29, x30, ())) := by
  have s3 := specC_step hs ht he (acc := acc) (x28 := x28) (x29 := x29) (x30 := x30) (r := 3) (by omega) (-1) (R := .inr (s, t, acc, (match cmn s t e with | some j => (j : Int) | none => -1), x28, x29, x30, ()))
  refine s3 ?_
  have e3 : ((3 : Nat) : Int) - 1 = ((2 : Nat) : Int) := rfl
  rw [e3]
  refine specC_step hs ht he (r := 2) (by omega) _ ?_
  have e2 : ((2 : Nat) : Int) - 1 = ((1 : Nat) : Int) := rfl
  rw [e2]
  refine specC_step hs ht he (r := 1) (by omega) _ ?_
  have e1 : ((1 : Nat) : Int) - 1 = ((0 : Nat) : Int) := rfl
  rw [e1]
  refine specC_step hs ht he (r := 0) (by omega) _ ?_
  refine Evt.step (fun k n => spec_CommonReasons_L125338.eq_2 k _ _ _ _ _ _ _ _ _ n) (Evt.cfalse rfl ?_)
  rw [cmn_if]
  cases cmP s t e 0 <;> cases cmP s t e 1 <;> cases cmP s t e 2 <;> cases cmP s t e 3 <;> exact .pure
theorem implC_step {s t : List (List Tm)} (hs : Pl s) (ht : Pl t) {e : Ed} (he : EdOk e) {acc : List Int} {x28 : List Ed} {x29 x30 : Int} {r : Nat} (hr : r < 4) {v : Int}
    (h : cmP s t e r = true → v = r) (h2 : cmP s t e r = false → Evt (fun k n => impl_CommonReasons_L62668 k n s t acc e ((r + 1 : Nat) : Int) x28 x29 x30) (.inr (s, t, acc, v, x28, x29, x30, ()))) : Evt (fun k n => impl_CommonReasons_L62668 k n s t acc e r x28 x29 x30) (.inr (s, t, acc, v, x28, x29, x30, ())) := by
  refine Evt.step (fun k n => impl_CommonReasons_L62668.eq_2 k _ _ _ _ _ _ _ _ n) (Evt.ctrue (decide_eq_true (by omega)) ?_)
  rw [w64_next (by simp only [lenB]; omega)]
  unfold cmP at h h2
  refine Evt.bind (edgeHolds_ev (hs.sd he) he hs.ln hr) ?_
  cases hq : hV 2 s (sidesE e) r with
  | false => exact Evt.ctrue rfl (h2 (by rw [hq]; rfl))
  | true =>
    refine Evt.cfalse rfl (Evt.bind (edgeHolds_ev (ht.sd he) he ht.ln hr) ?_)
    cases hq2 : hV 2 t (sidesE e) r with
    | false => exact Evt.ctrue rfl (h2 (by rw [hq, hq2]; rfl))
    | true =>
      rw [h (by rw [hq, hq2]; rfl)]
      exact Evt.cfalse rfl .pure
theorem implC_inner {s t : List (List Tm)} (hs : Pl s) (ht : Pl t) {e : Ed} (he : EdOk e) {acc : List Int} {x28 : List Ed} {x29 x30 : Int} :
    Evt (fun k n => impl_CommonReasons_L62668 k n s t acc e 0 x28 x29 x30) (.inr (s, t, acc, (match cmn s t e with | some j => (j : Int) | none => 4), x28, x29, x30, ())) := by
  rw [cmn_if]
  refine implC_step hs ht he (r := 0) (by omega) (fun h => by rw [h]; rfl) (fun h0 => ?_)
  refine implC_step hs ht he (r := 1) (by omega) (fun h => by rw [h0, h]; rfl) (fun h1 => ?_)
  refine implC_step hs ht he (r := 2) (by omega) (fun h => by rw [h0, h1, h]; rfl) (fun h2 => ?_)
  refine implC_step hs ht he (r := 3) (by omega) (fun h => by rw [h0, h1, h2, h]; rfl) (fun h3 => ?_)
  refine Evt.step (fun k n => impl_CommonReasons_L62668.eq_2 k _ _ _ _ _ _ _ _ n) (Evt.cfalse rfl ?_)
  rw [h0, h1, h2, h3]
  exact .pure
theorem cmn_lt {s t : List (List Tm)} {e : Ed} {j : Nat} (h : cmn s t e = some j) : j < 4 := by
  have := List.mem_of_find?_eq_some h
  simpa using this
theorem specC_loop {s t : List (List Tm)} (hs : Pl s) (ht : Pl t) {es : List Ed} (he : ∀ e ∈ es, EdOk e) (hl : es.length ≤ 1000) : ∀ (r d : List Ed) (acc : List Int), d ++ r = es → acc.length = d.length →
    Evt (fun k n => spec_CommonReasons_L122 k n s t acc es (es.length : Int) d.length) (if (colV (cmn s t) r).2 then .inr (acc ++ (colV (cmn s t) r).1, ()) else .inl ([], false))
  | [], d, acc, hd, _ => by
    rw [List.append_nil] at hd
    subst hd
    refine Evt.step (fun k n => spec_CommonReasons_L122.eq_2 k _ _ _ _ _ _ n) (Evt.rng0 ?_)
    simp only [colV, if_true, List.append_nil]
    exact .pure
  | e :: r, d, acc, hd, ha => by
    have ge := he e (by rw [← hd]; simp)
    have hdl := congrArg List.length hd
    simp only [List.length_append, List.length_cons] at hdl
    refine Evt.step (fun k n => spec_CommonReasons_L122.eq_2 k _ _ _ _ _ _ n) ?_
    rw [← hd]
    refine Evt.ctrue mid_lt (Evt.ctrue mid_ge (Evt.ctrue mid_lt ?_))
    rw [mid_get]
    have hin := specC_inner hs ht ge (acc := acc) (x28 := d ++ e :: r) (x29 := ((d ++ e :: r).length : Int)) (x30 := (d.length : Int))
    unfold colV
    cases hj : cmn s t e with
    | none =>
      rw [hj] at hin
      refine Evt.inr (Evt.diag hin) (Evt.ctrue rfl ?_)
      simp only [Bool.false_eq_true, if_false]
      exact .pure
    | some j =>
      rw [hj] at hin
      refine Evt.inr (Evt.diag hin) (Evt.cfalse (decide_eq_false (show ¬ ((j : Int) < 0) by omega)) (Evt.ctrue (decide_eq_true (by simp only [List.length_cons, List.length_nil]; omega)) ?_))
      simp only
      rw [len_next (by rw [hd]; simp only [lenB]; omega)]
      have ih := specC_loop hs ht he hl r (d ++ [e]) (acc ++ [(j : Int)]) (by simpa using hd) (by simp [ha])
      rw [← hd] at ih
      simp only [List.append_assoc, List.singleton_append] at ih ⊢
      exact ih
theorem implC_loop {s t : List (List Tm)} (hs : Pl s) (ht : Pl t) {es : List Ed} (he : ∀ e ∈ es, EdOk e) (hl : es.length ≤ 1000) : ∀ (r d : List Ed) (acc : List Int), d ++ r = es → acc.length = d.length →
    Evt (fun k n => impl_CommonReasons_L122 k n s t acc es (es.length : Int) d.length) (if (colV (cmn s t) r).2 then .inr (acc ++ (colV (cmn s t) r).1, ()) else .inl ([], false))
  | [], d, acc, hd, _ => by
    rw [List.append_nil] at hd
    subst hd
    refine Evt.step (fun k n => impl_CommonReasons_L122.eq_2 k _ _ _ _ _ _ n) (Evt.rng0 ?_)
    simp only [colV, if_true, List.append_nil]
    exact .pure
  | e :: r, d, acc, hd, ha => by
    have ge := he e (by rw [← hd]; simp)
    have hdl := congrArg List.length hd
    simp only [List.length_append, List.length_cons] at hdl
    refine Evt.step (fun k n => impl_CommonReasons_L122.eq_2 k _ _ _ _ _ _ n) ?_
    rw [← hd]
    refine Evt.ctrue mid_lt (Evt.ctrue mid_ge (Evt.ctrue mid_lt ?_))
    rw [mid_get]
    have hin := implC_inner hs ht ge (acc := acc) (x28 := d ++ e :: r) (x29 := ((d ++ e :: r).length : Int)) (x30 := (d.length : Int))
    unfold colV
    cases hj : cmn s t e with
    | none =>
      rw [hj] at hin
      refine Evt.inr (Evt.diag hin) (Evt.ctrue rfl ?_)
      simp only [Bool.false_eq_true, if_false]
      exact .pure
    | some j =>
      rw [hj] at hin
      have hj4 := cmn_lt hj
      refine Evt.inr (Evt.diag hin) (Evt.cfalse ?_ (Evt.ctrue (decide_eq_true (by simp only [List.length_cons, List.length_nil]; omega)) ?_))
      · show ((j : Int) == 4) = false
        rw [beq_eq_false_iff_ne]; omega
      simp only
      rw [len_next (by rw [hd]; simp only [lenB]; omega)]
      have ih := implC_loop hs ht he hl r (d ++ [e]) (acc ++ [(j : Int)]) (by simpa using hd) (by simp [ha])
      rw [← hd] at ih
      simp only [List.append_assoc, List.singleton_append] at ih ⊢
      exact ih
def crV (s t : List (List Tm)) (b : Bx) (d : Int) : List Int × Bool := if askV s b d && planeV t b then (if (colV (cmn s t) (edgesB b d.toNat)).2 then ((colV (cmn s t) (edgesB b d.toNat)).1, true) else ([], false)) else ([], false)
theorem crV_len (s t : List (List Tm)) (b : Bx) (d : Int) : (crV s t b d).1.length ≤ 128 := by
  unfold crV
  split
  · rename_i h
    rw [Bool.and_eq_true] at h
    have h5 := pow2N5 (askV_le h.1)
    have hl := (colV_len (f := cmn s t) (edgesB b d.toNat)).1
    rw [edgesB_len] at hl
    split
    · simp only; omega
    · simp
  · simp
theorem spec_common_ev {s t : List (List Tm)} {b : Bx} {d : Int} (hb : s.length < lenB) (hm : ∀ r ∈ s, r.length < lenB) (hb' : t.length < lenB) (hm' : ∀ r ∈ t, r.length < lenB) (hx : b.2.1.length < lenB) : Evt (fun k _ => spec_CommonReasons k s t b d) (crV s t b d) := by
  refine Evt.eq (f := fun k q => _) ?_ (fun k q => by rw [spec_CommonReasons])
  refine spec_ask hb hm hx (fun h => by unfold crV; rw [h]; rfl) (fun h => ?_)
  obtain ⟨D, rfl, hD, hs, hp⟩ := askV_form h hm
  refine Evt.bind (imGood_ev hb' hm' hx) ?_
  unfold crV
  rw [h, Bool.true_and]
  cases ht : planeV t b with
  | false => exact Evt.ctrue rfl .pure
  | true =>
    obtain ⟨ht, _⟩ := planeV_form ht hm'
    have h5 := pow2N5 hD
    refine Evt.cfalse rfl (Evt.bind (imEdgesB_ev hp hD) ?_)
    have hl := specC_loop hs ht (es := edgesB b D) edgesB_ok (by rw [edgesB_len]; omega) (edgesB b D) [] [] rfl rfl
    simp only [List.length_nil, List.nil_append] at hl
    rw [if_pos rfl]
    simp only [Int.toNat_natCast]
    cases hf : (colV (cmn s t) (edgesB b D)).2 with
    | true => rw [hf, if_pos rfl] at hl; exact Evt.inr (Evt.diag hl) .pure
    | false => rw [hf, if_neg (by simp)] at hl; exact Evt.inl (Evt.diag hl) .pure
theorem impl_common_ev {s t : List (List Tm)} {b : Bx} {d : Int} (hb : s.length < lenB) (hm : ∀ r ∈ s, r.length < lenB) (hb' : t.length < lenB) (hm' : ∀ r ∈ t, r.length < lenB) (hx : b.2.1.length < lenB) : Evt (fun k _ => impl_CommonReasons k s t b d) (crV s t b d) := by
  refine Evt.eq (f := fun k q => _) ?_ (fun k q => by rw [impl_CommonReasons])
  refine Evt.bind (isPlane_ev hb hm hx) ?_
  unfold crV askV
  cases hps : planeV s b with
  | false => exact Evt.ctrue rfl .pure
  | true =>
    refine Evt.cfalse rfl (Evt.bind (isPlane_ev hb' hm' hx) ?_)
    cases ht : planeV t b with
    | false => rw [Bool.and_false]; exact Evt.ctrue rfl .pure
    | true =>
      refine Evt.cfalse rfl (Evt.bind (.const (inside5_eq d)) ?_)
      cases hd : decide (0 ≤ d ∧ d ≤ 5) with
      | false => exact Evt.ctrue rfl .pure
      | true =>
        have hdd := of_decide_eq_true hd
        obtain ⟨D, rfl⟩ := Int.eq_ofNat_of_zero_le hdd.1
        obtain ⟨hs, hp⟩ := planeV_form hps hm
        obtain ⟨ht, _⟩ := planeV_form ht hm'
        have hD : D ≤ 5 := by omega
        have h5 := pow2N5 hD
        refine Evt.cfalse rfl (Evt.bind (boundaryEdgesB_ev hp hD) ?_)
        have hl := implC_loop hs ht (es := edgesB b D) edgesB_ok (by rw [edgesB_len]; omega) (edgesB b D) [] [] rfl rfl
        simp only [List.length_nil, List.nil_append] at hl
        simp only [Int.toNat_natCast, Bool.true_and, if_true]
        cases hf : (colV (cmn s t) (edgesB b D)).2 with
        | true => rw [hf, if_pos rfl] at hl; exact Evt.inr (Evt.diag hl) .pure
        | false => rw [hf, if_neg (by simp)] at hl; exact Evt.inl (Evt.diag hl) .pure
theorem commonReasons_law (a t : List (List Tm)) (b : Bx) (d : Int) (ha : a.length ≤ maxLen) (hm : ∀ x ∈ a, x.length ≤ maxLen) (ha' : t.length ≤ maxLen) (hm' : ∀ x ∈ t, x.length ≤ maxLen) (h1 : b.2.1.length ≤ maxLen) (h2 : b.2.2.length ≤ maxLen) : ∃ k, laws_FnExactCommonReasons k a t b d = some true := by
  refine Evt.get (Evt.eq (f := fun k q => _) ?_ (fun k q => by rw [laws_FnExactCommonReasons]))
  refine Evt.bind (szTermSS_ev (a := 1000000) ha hm (by omega)) ?_
  by_cases hz : a.length + (a.map List.length).sum ≤ 1000000
  · rw [if_pos hz]
    have hs : Sized a := hz
    refine Evt.cfalse (by simp <;> omega) (Evt.bind (szTermSS_ev ha' hm' (by omega)) ?_)
    by_cases hz' : t.length + (t.map List.length).sum ≤ 1000000 - (a.length + (a.map List.length).sum)
    · rw [if_pos hz']
      have hs' : Sized t := by unfold Sized; omega
      refine Evt.cfalse (by simp <;> omega) (Evt.bind (.const (szBox_eq h1 h2 (by omega))) ?_)
      by_cases hy : b.2.1.length + b.2.2.length ≤ 1000000 - (a.length + (a.map List.length).sum) - (t.length + (t.map List.length).sum)
      · rw [if_pos hy]
        refine Evt.cfalse (by simp <;> omega) ?_
        have b1 : b.2.1.length ≤ 1000000 := by omega
        have b2 : b.2.2.length ≤ 1000000 := by omega
        have hr : ∀ r ∈ a, r.length < lenB := fun r hr => by have := hs.row r hr; simp only [lenB]; omega
        have hr' : ∀ r ∈ t, r.length < lenB := fun r hr => by have := hs'.row r hr; simp only [lenB]; omega
        have hl := hs.len
        have hl' := hs'.len
        have spec := spec_common_ev (s := a) (t := t) (b := b) (d := d) (by simp only [lenB]; omega) hr (by simp only [lenB]; omega) hr' (by simp only [lenB]; omega)
        have impl := impl_common_ev (s := a) (t := t) (b := b) (d := d) (by simp only [lenB]; omega) hr (by simp only [lenB]; omega) hr' (by simp only [lenB]; omega)
        have hv := crV_len a t b d
        have hm4 := hs.marks4
        have hm4' := hs'.marks4
        obtain ⟨y, hy1⟩ := markTermSS_ev (x := a) (a := 101) (by simp only [lenB]; omega) (by simp only [lenB]; omega)
        obtain ⟨z, hz1⟩ := markTermSS_ev (x := t) (a := 101 + (a.map fun r => 4 * r.length).sum) (by simp only [lenB]; omega) (by simp only [lenB]; omega)
        have hb1 := markBox_ev (b := b) (a := 101 + (a.map fun r => 4 * r.length).sum + (t.map fun r => 4 * r.length).sum) (by simp only [lenB]; omega)
        obtain ⟨w, hw1, hw2, _⟩ := markIntS_ok (crV a t b d).1 101 (by simp only [lenB]; omega)
        have cmp : ∀ {f : Nat → Nat → Option Bool} {r : Bool}, Evt f r → Evt (fun k n => (Option.bind (laws_eqIntS k (crV a t b d).1 (crV a t b d).1) fun r9 => (bif (!r9) then some false else (bif (!((crV a t b d).2 == (crV a t b d).2)) then some false else f k n)))) r := cmp_ints (by simp only [lenB]; omega)
        refine Evt.bind (toTermSS_ev hs.len hs.row) (Evt.bind (toTermSS_ev hs'.len hs'.row) (Evt.bind (toBox_ev b1 b2) ?_))
        simp only [toV_rows, boxR_eq]
        refine Evt.bind spec (Evt.bind (toTermSS_ev hs.len hs.row) (Evt.bind (toTermSS_ev hs'.len hs'.row) (Evt.bind (toBox_ev b1 b2) ?_)))
        simp only [toV_rows, boxR_eq]
        refine Evt.bind impl (cmp (Evt.bind (toTermSS_ev hs.len hs.row) (Evt.bind (intactT_ev hs) (Evt.cfalse rfl (Evt.bind (toTermSS_ev hs'.len hs'.row) (Evt.bind (intactT_ev hs') (Evt.cfalse rfl (Evt.bind (toBox_ev b1 b2) (Evt.bind (intactBox_ev b1 b2) (Evt.cfalse rfl ?_))))))))))
        refine Evt.bind hy1 (Evt.bind hz1 (Evt.bind hb1 (Evt.cfalse (by simp <;> omega) (cmp (Evt.bind hw1 (held_ints hw2 (Evt.bind (toTermSS_ev hs.len hs.row) (Evt.bind (toTermSS_ev hs'.len hs'.row) (Evt.bind (toBox_ev b1 b2) ?_)))))))))
        simp only [toV_rows, boxR_eq]
        exact Evt.bind impl (cmp (held_ints hw2 .pure))
      · rw [if_neg hy]
        exact Evt.ctrue rfl .pure
    · rw [if_neg hz']
      exact Evt.ctrue rfl .pure
  · rw [if_neg hz]
    exact Evt.ctrue rfl .pure
theorem commonReasons_row (a t : List (List Tm)) (b : Bx) (d : Int) (h : WfT (.sl (.sl tTerm)) a) (h' : WfT (.sl (.sl tTerm)) t) (hb : WfT tBox b) (_ : WfT (.int .i64) d) : ∃ k, laws_FnExactCommonReasons k a t b d = some true :=
  commonReasons_law a t b d h.1 (fun x hx => (h.2 x hx).1) h'.1 (fun x hx => (h'.2 x hx).1) hb.2.1.1 hb.2.2.1
end Go.Ev.G

