/- What the plain functions of the law compute, for all inputs within the sizes that the theorems name. -/
import Derived.Test.YtjdnkcddfbifeaaGreatPCheckReasons1
import Derived.Test.YtjdnkcddfbifeaaGreatACheckReasons1
set_option linter.unusedVariables false
namespace Go.Ev.G
open Go Go.Ev
set_option maxRecDepth 100000

abbrev Bx := Int × List Int × List Int
def plV (b : Bx) : Bool := bxV b && (((b.2.1.length : Int) == 2) && decide (b.1 ≤ 3))
theorem imBox_ev {b : Bx} (hb : b.2.1.length < lenB) : Evt (fun k _ => spec_imBox k b) (plV b) := by
  refine Evt.eq (f := fun k q => _) ?_ (fun k q => by rw [spec_imBox])
  refine Evt.bind (bxGood_ev hb) ?_
  unfold plV
  cases bxV b with
  | false => exact Evt.cfalse rfl .pure
  | true =>
    refine Evt.ctrue rfl ?_
    cases ((b.2.1.length : Int) == 2) with
    | false => exact Evt.cfalse rfl .pure
    | true => exact Evt.ctrue rfl .pure
theorem isPlaneBox_ev {b : Bx} (hb : b.2.1.length < lenB) : Evt (fun k _ => impl_isPlaneBox k b) (plV b) := by
  refine Evt.eq (f := fun k q => _) ?_ (fun k q => by rw [impl_isPlaneBox])
  refine Evt.bind (isBox_ev hb) ?_
  unfold plV
  cases bxV b with
  | false => exact Evt.cfalse rfl .pure
  | true =>
    refine Evt.ctrue rfl ?_
    cases ((b.2.1.length : Int) == 2) with
    | false => exact Evt.cfalse rfl .pure
    | true => exact Evt.ctrue rfl .pure
def planeV (m : List (List Tm)) (b : Bx) : Bool := twoV m && plV b
theorem imGood_ev {m : List (List Tm)} {b : Bx} (hb : m.length < lenB) (hm : ∀ r ∈ m, r.length < lenB) (hx : b.2.1.length < lenB) : Evt (fun k _ => spec_imGood k m b) (planeV m b) := by
  refine Evt.eq (f := fun k q => _) ?_ (fun k q => by rw [spec_imGood])
  refine Evt.bind (poSystem_ev hb hm) ?_
  unfold planeV twoV
  cases sysV m with
  | false => exact Evt.cfalse rfl .pure
  | true =>
    refine Evt.ctrue rfl ?_
    cases ((m.length : Int) == 2) with
    | false => exact Evt.cfalse rfl .pure
    | true => exact Evt.ctrue rfl (Evt.bind (imBox_ev hx) .pure)
theorem isPlane_ev {m : List (List Tm)} {b : Bx} (hb : m.length < lenB) (hm : ∀ r ∈ m, r.length < lenB) (hx : b.2.1.length < lenB) : Evt (fun k _ => impl_isPlane k m b) (planeV m b) := by
  refine Evt.eq (f := fun k q => _) ?_ (fun k q => by rw [impl_isPlane])
  refine Evt.bind (isTwo_ev hb hm) ?_
  unfold planeV
  cases twoV m with
  | false => exact Evt.cfalse rfl .pure
  | true => exact Evt.ctrue rfl (Evt.bind (isPlaneBox_ev hx) .pure)
theorem plV_form {b : Bx} (h : plV b = true) : ∃ (m : Nat) (l0 l1 h0 h1 : Int), b = ((m : Int), [l0, l1], [h0, h1]) ∧ m ≤ 3 ∧ (-64 ≤ l0 ∧ l0 < h0 ∧ h0 ≤ 64) ∧ (-64 ≤ l1 ∧ l1 < h1 ∧ h1 ≤ 64) := by
  obtain ⟨d8, los, his⟩ := b
  unfold plV bxV at h
  simp only [Bool.and_eq_true, decide_eq_true_eq, beq_iff_eq] at h
  obtain ⟨⟨g1, g2, g3, g4, _⟩, g5, g6⟩ := h
  match los, his, g3, g5, g4 with
  | [l0, l1], [h0, h1], _, _, g4 =>
    refine ⟨d8.toNat, l0, l1, h0, h1, by rw [Int.toNat_of_nonneg g1.1], by omega, ?_⟩
    have hp : (8 : Int) * 2 ^ d8.toNat ≤ 64 := by
      have h1 : (2 : Nat) ^ d8.toNat ≤ 2 ^ 3 := Nat.pow_le_pow_right (by omega) (by omega)
      have h2 : ((2 : Int) ^ d8.toNat) = ((2 ^ d8.toNat : Nat) : Int) := by simp
      rw [h2]
      have : (2 : Nat) ^ 3 = 8 := by decide
      omega
    generalize (8 : Int) * 2 ^ d8.toNat = L at hp g4
    simp only [List.zip_cons_cons, List.zip_nil_left, List.all_cons, List.all_nil, Bool.and_true, Bool.and_eq_true, sideOk, decide_eq_true_eq] at g4
    omega

theorem strip_scale (k : Nat) (n : Int) : ∀ D : Nat, strip (k + D) (n * 2 ^ D) = strip k n
  | 0 => by simp
  | D + 1 => by
    have e : n * 2 ^ (D + 1) = (n * 2 ^ D) * 2 := by rw [Int.pow_succ, Int.mul_assoc]
    rw [e, ← Nat.add_assoc, strip, if_pos (by omega), Int.mul_ediv_cancel _ (by decide)]
    exact strip_scale k n D
theorem mkD_scale (k D : Nat) (n : Int) : mkD (n * 2 ^ D) (k + D) = mkD n k := by
  unfold mkD
  rw [strip_scale]
theorem pow5 {m : Nat} (h : m ≤ 5) : (1 : Int) ≤ 2 ^ m ∧ (2 : Int) ^ m ≤ 32 := by
  rcases (by omega : m = 0 ∨ m = 1 ∨ m = 2 ∨ m = 3 ∨ m = 4 ∨ m = 5) with rfl | rfl | rfl | rfl | rfl | rfl <;> decide
/-- a number on a side, some parts from its lower end -/
def numV (m D : Nat) (l h x : Int) : Int × Int := (mkD (l * 2 ^ D + x * (h - l)) (m + D)).1
theorem numV_gd (m D : Nat) (l h x : Int) : gd (numV m D l h x) := mkD_gd _ _
theorem mul_range {a b A B : Int} (h1 : -A ≤ a) (h2 : a ≤ A) (h3 : 0 ≤ b) (h4 : b ≤ B) (hA : 0 ≤ A) : -(A * B) ≤ a * b ∧ a * b ≤ A * B := by
  have e1 : a * b ≤ A * b := Int.mul_le_mul_of_nonneg_right h2 h3
  have e2 : A * b ≤ A * B := Int.mul_le_mul_of_nonneg_left h4 hA
  have e3 : -A * b ≤ a * b := Int.mul_le_mul_of_nonneg_right h1 h3
  rw [Int.neg_mul] at e3
  omega
theorem side_range {l h x : Int} {D : Nat} (hl : -64 ≤ l ∧ l < h ∧ h ≤ 64) (hD : D ≤ 5) (hx : 0 ≤ x ∧ x ≤ 64) : (-2048 ≤ l * 2 ^ D ∧ l * 2 ^ D ≤ 2048) ∧ (-2048 ≤ h * 2 ^ D ∧ h * 2 ^ D ≤ 2048) ∧ (0 ≤ x * (h - l) ∧ x * (h - l) ≤ 8192) := by
  have hp := pow5 hD
  have a := mul_range (a := l) (b := 2 ^ D) (A := 64) (B := 32) (by omega) (by omega) (by omega) (by omega) (by omega)
  have b := mul_range (a := h) (b := 2 ^ D) (A := 64) (B := 32) (by omega) (by omega) (by omega) (by omega) (by omega)
  have c := mul_range (a := x) (b := h - l) (A := 64) (B := 128) (by omega) (by omega) (by omega) (by omega) (by omega)
  have d : 0 ≤ x * (h - l) := Int.mul_nonneg hx.1 (by omega)
  omega
/-- the program's way to a number -/
theorem edges1_ev {m D : Nat} {b : Bx} {j : Nat} {l h x : Int} (hb1 : b.1 = m) (hj : j < b.2.1.length) (hj2 : j < b.2.2.length) (e1 : b.2.1.getD j 0 = l) (e2 : b.2.2.getD j 0 = h) (hl : -64 ≤ l ∧ l < h ∧ h ≤ 64) (hm : m ≤ 3) (hD : D ≤ 5) (hx : 0 ≤ x ∧ x ≤ 64) :
    Evt (fun k _ => impl_boundaryEdges_1 k j x b (2 ^ D) D) (numV m D l h x) := by
  have hr := side_range hl hD hx
  refine Evt.eq (f := fun k q => _) ?_ (fun k q => by rw [impl_boundaryEdges_1])
  refine Evt.ctrue (decide_eq_true (by omega)) (Evt.ctrue (decide_eq_true (by omega)) ?_)
  have el : impl_Box_length b j = some (h - l) := by
    unfold impl_Box_length
    rw [decide_eq_true (show (0 : Int) ≤ (j : Int) by omega), decide_eq_true (show (j : Int) < (b.2.2.length : Int) by omega), decide_eq_true (show (j : Int) < (b.2.1.length : Int) by omega)]
    simp only [cond_true, Int.toNat_natCast, e1, e2]
    rw [w64 (by omega) (by omega)]
  refine Evt.bind (.const el) ?_
  simp only [Int.toNat_natCast, e1]
  rw [w64 (n := l * 2 ^ D) (by omega) (by omega), w64 (n := x * (h - l)) (by omega) (by omega), w64 (by omega) (by omega), hb1, w64 (n := (m : Int) + (D : Int)) (by omega) (by omega)]
  refine Evt.bind (.const (wideOf_eq (by omega) (by omega))) ?_
  have := fitD_ev (n := l * 2 ^ D + x * (h - l)) (p := m + D) (by omega) (by omega) (by omega)
  rw [Int.natCast_add] at this
  exact Evt.bind this .pure
/-- one side of the way -/
def wayV (s : Int) (a : Int × Int) (g : Int → Int × Int) (c r : Nat) : List Ed := (List.range' c r).map fun i : Nat => (s, a, g (i : Int), g ((i : Int) + 1))
theorem imWay_ev {s : Int} {a : Int × Int} {u v : Int} {m D : Nat} {g : Int → Int × Int} (hu : -64 ≤ u ∧ u ≤ 64) (hv : -64 ≤ v ∧ v ≤ 64) (hm : m ≤ 3) (hD : D ≤ 5) (hg : ∀ x : Int, 0 ≤ x → x ≤ 2 ^ D → g x = (mkD (u * 2 ^ D + (v - u) * x) (m + D)).1) :
    Evt (fun k _ => spec_imWay k s a u v m D) (wayV s a g 0 (2 ^ D)) := by
  refine Evt.eq (f := fun k q => _) ?_ (fun k q => by rw [spec_imWay])
  refine Evt.bind (.const (dyPower_eq (m := D) (by omega))) ?_
  have hp := pow5 hD
  have hN : ((2 ^ D : Nat) : Int) = 2 ^ D := by simp
  generalize hNN : 2 ^ D = N at hN
  have num : ∀ x : Int, 0 ≤ x → x ≤ N → Evt (fun k _ => spec_bxNumber k (IntKind.wrap .i64 ((IntKind.wrap .i64 (u * (N : Int))) + (IntKind.wrap .i64 ((IntKind.wrap .i64 (v - u)) * x)))) (IntKind.wrap .i64 ((m : Int) + (D : Int)))) (g x) := by
    intro x h1 h2
    have a1 := mul_range (a := u) (b := 2 ^ D) (A := 64) (B := 32) (by omega) (by omega) (by omega) (by omega) (by omega)
    have a2 := mul_range (a := v - u) (b := x) (A := 128) (B := 32) (by omega) (by omega) (by omega) (by omega) (by omega)
    rw [hN, w64 (n := v - u) (by omega) (by omega), w64 (n := u * 2 ^ D) (by omega) (by omega), w64 (n := (v - u) * x) (by omega) (by omega), w64 (by omega) (by omega), w64 (n := (m : Int) + D) (by omega) (by omega), hg x h1 (by omega)]
    refine Evt.eq (f := fun k q => _) ?_ (fun k q => by rw [spec_bxNumber])
    have := dyMake_ev (n := u * 2 ^ D + (v - u) * x) (m := m + D) (by omega) (by omega) (by omega)
    rw [Int.natCast_add] at this
    exact Evt.bind this .pure
  have key : ∀ (r c : Nat) (acc : List Ed), c + r = N → acc.length + r ≤ 1000 → Evt (fun k n => spec_imWay_L122 k n s u v m D a acc (N : Int) c) (.inr (acc ++ wayV s a g c r, ())) := by
    intro r
    induction r with
    | zero =>
      intro c acc hc _
      refine Evt.step (fun k n => spec_imWay_L122.eq_2 k _ _ _ _ _ _ _ _ _ n) (Evt.cfalse (decide_eq_false (by omega)) ?_)
      simp only [wayV, List.range'_zero, List.map_nil, List.append_nil]
      exact .pure
    | succ r ih =>
      intro c acc hc ha
      refine Evt.step (fun k n => spec_imWay_L122.eq_2 k _ _ _ _ _ _ _ _ _ n) (Evt.ctrue (decide_eq_true (by omega)) ?_)
      refine Evt.bind (num c (by omega) (by omega)) ?_
      have w1 : IntKind.wrap .i64 ((c : Int) + 1) = (c : Int) + 1 := by rw [w64 (by omega) (by omega)]
      rw [w1]
      refine Evt.bind (num ((c : Int) + 1) (by omega) (by omega)) (Evt.ctrue (decide_eq_true (by simp only [List.length_cons, List.length_nil]; omega)) ?_)
      have := ih (c + 1) (acc ++ [(s, a, g c, g ((c : Int) + 1))]) (by omega) (by simp; omega)
      rw [Int.natCast_add] at this
      have e : acc ++ [(s, a, g c, g ((c : Int) + 1))] ++ wayV s a g (c + 1) r = acc ++ wayV s a g c (r + 1) := by
        simp only [wayV, List.range'_succ, List.map_cons, List.append_assoc, List.singleton_append]
      rw [e] at this
      exact this
  have hNb : N ≤ 32 := by omega
  have hk := key N 0 [] (by omega) (by simp; omega)
  exact Evt.inr (Evt.diag hk) .pure
def edgesV (m D : Nat) (l0 l1 h0 h1 : Int) : List Ed :=
  wayV 1 (mkD l1 m).1 (numV m D l0 h0) 0 (2 ^ D) ++ wayV 0 (mkD h0 m).1 (numV m D l1 h1) 0 (2 ^ D) ++ wayV 1 (mkD h1 m).1 (fun x => numV m D l0 h0 (2 ^ D - x)) 0 (2 ^ D) ++ wayV 0 (mkD l0 m).1 (fun x => numV m D l1 h1 (2 ^ D - x)) 0 (2 ^ D)
theorem wayV_len (s : Int) (a : Int × Int) (g : Int → Int × Int) (c r : Nat) : (wayV s a g c r).length = r := by simp [wayV]
theorem edgesV_len (m D : Nat) (l0 l1 h0 h1 : Int) : (edgesV m D l0 l1 h0 h1).length = 4 * 2 ^ D := by
  simp only [edgesV, List.length_append, wayV_len]; omega
theorem wayV_ok {s : Int} {a : Int × Int} {g : Int → Int × Int} {c r : Nat} (hs : s = 0 ∨ s = 1) (ha : gd a) (hg : ∀ x, gd (g x)) : ∀ e ∈ wayV s a g c r, EdOk e := by
  intro e he
  simp only [wayV, List.mem_map] at he
  obtain ⟨i, _, rfl⟩ := he
  exact ⟨hs, ha, hg _, hg _⟩
theorem edgesV_ok {m D : Nat} {l0 l1 h0 h1 : Int} : ∀ e ∈ edgesV m D l0 l1 h0 h1, EdOk e := by
  intro e he
  simp only [edgesV, List.mem_append] at he
  rcases he with ((he | he) | he) | he
  · exact wayV_ok (.inr rfl) (mkD_gd _ _) (fun x => numV_gd _ _ _ _ _) e he
  · exact wayV_ok (.inl rfl) (mkD_gd _ _) (fun x => numV_gd _ _ _ _ _) e he
  · exact wayV_ok (.inr rfl) (mkD_gd _ _) (fun x => numV_gd _ _ _ _ _) e he
  · exact wayV_ok (.inl rfl) (mkD_gd _ _) (fun x => numV_gd _ _ _ _ _) e he
theorem imEdges_ev {m D : Nat} {l0 l1 h0 h1 : Int} (hm : m ≤ 3) (hD : D ≤ 5) (g0 : -64 ≤ l0 ∧ l0 < h0 ∧ h0 ≤ 64) (g1 : -64 ≤ l1 ∧ l1 < h1 ∧ h1 ≤ 64) : Evt (fun k _ => spec_imEdges k ((m : Int), [l0, l1], [h0, h1]) D) (edgesV m D l0 l1 h0 h1) := by
  refine Evt.eq (f := fun k q => _) ?_ (fun k q => by rw [spec_imEdges])
  have hp : 2 ^ D ≤ 32 := by
    have := Nat.pow_le_pow_right (n := 2) (by omega) hD
    simpa using this
  have num : ∀ x : Int, -64 ≤ x ∧ x ≤ 64 → Evt (fun k _ => spec_bxNumber k x (m : Int)) (mkD x m).1 := by
    intro x hx
    refine Evt.eq (f := fun k q => _) ?_ (fun k q => by rw [spec_bxNumber])
    exact Evt.bind (dyMake_ev (n := x) (m := m) (by omega) (by omega) (by omega)) .pure
  have fwd : ∀ (l h : Int) (x : Int), 0 ≤ x → x ≤ 2 ^ D → numV m D l h x = (mkD (l * 2 ^ D + (h - l) * x) (m + D)).1 := by
    intro l h x _ _
    rw [numV, Int.mul_comm x]
  have bwd : ∀ (l h : Int) (x : Int), 0 ≤ x → x ≤ 2 ^ D → numV m D l h (2 ^ D - x) = (mkD (h * 2 ^ D + (l - h) * x) (m + D)).1 := by
    intro l h x _ _
    have e : l * 2 ^ D + (2 ^ D - x) * (h - l) = h * 2 ^ D + (l - h) * x := by
      simp only [Int.sub_mul, Int.mul_sub, Int.mul_comm (2 ^ D), Int.mul_comm x]
      omega
    rw [numV, e]
  refine Evt.ctrue rfl (Evt.ctrue rfl (Evt.ctrue rfl (Evt.ctrue rfl ?_)))
  refine Evt.bind (num l1 (by omega)) (Evt.bind (imWay_ev (u := l0) (v := h0) (g := numV m D l0 h0) (by omega) (by omega) hm hD (fwd l0 h0)) ?_)
  refine Evt.bind (num h0 (by omega)) (Evt.bind (imWay_ev (u := l1) (v := h1) (g := numV m D l1 h1) (by omega) (by omega) hm hD (fwd l1 h1)) ?_)
  refine Evt.ctrue (decide_eq_true (by simp only [wayV_len]; omega)) ?_
  refine Evt.bind (num h1 (by omega)) (Evt.bind (imWay_ev (u := h0) (v := l0) (g := fun x => numV m D l0 h0 (2 ^ D - x)) (by omega) (by omega) hm hD (bwd l0 h0)) ?_)
  refine Evt.ctrue (decide_eq_true (by simp only [List.length_append, wayV_len]; omega)) ?_
  refine Evt.bind (num l0 (by omega)) (Evt.bind (imWay_ev (u := h1) (v := l1) (g := fun x => numV m D l1 h1 (2 ^ D - x)) (by omega) (by omega) hm hD (bwd l1 h1)) ?_)
  exact Evt.ctrue (decide_eq_true (by simp only [List.length_append, wayV_len]; omega)) .pure
end Go.Ev.G

namespace Go.Ev.G
open Go Go.Ev
set_option maxRecDepth 100000

theorem edges_inner {m D : Nat} {b : Bx} {j : Nat} {s kk x17 : Int} {l h : Int} {a : Int × Int} (hb1 : b.1 = m) (hj : j < b.2.1.length) (hj2 : j < b.2.2.length) (e1 : b.2.1.getD j 0 = l) (e2 : b.2.2.getD j 0 = h) (hl : -64 ≤ l ∧ l < h ∧ h ≤ 64) (hm : m ≤ 3) (hD : D ≤ 5) (hs : IntKind.wrap .i64 (1 - s) = (j : Int)) :
    ∀ (r c : Nat) (acc : List Ed), c + r = 2 ^ D → acc.length + r ≤ 1000 → Evt (fun k n => impl_boundaryEdges_L512830 k n (2 ^ D) (b, 2 ^ D, (D : Int), ()) acc kk s a x17 (2 ^ D) c) (.inr (2 ^ D, (b, 2 ^ D, (D : Int), ()), acc ++ wayV s a (fun x => numV m D l h (if kk ≥ 2 then 2 ^ D - x else x)) c r, x17, ()))
  | 0, c, acc, hc, _ => by
    have hN : ((2 ^ D : Nat) : Int) = 2 ^ D := by simp
    refine Evt.step (fun k n => impl_boundaryEdges_L512830.eq_2 k _ _ _ _ _ _ _ _ _ n) (Evt.cfalse (decide_eq_false (by omega)) ?_)
    simp only [wayV, List.range'_zero, List.map_nil, List.append_nil]
    exact .pure
  | r + 1, c, acc, hc, ha => by
    have hN : ((2 ^ D : Nat) : Int) = 2 ^ D := by simp
    have hp := pow5 hD
    refine Evt.step (fun k n => impl_boundaryEdges_L512830.eq_2 k _ _ _ _ _ _ _ _ _ n) (Evt.ctrue (decide_eq_true (by omega)) ?_)
    let g : Int → Int × Int := fun x => numV m D l h (if kk ≥ 2 then 2 ^ D - x else x)
    have num : ∀ x : Int, 0 ≤ x → x ≤ 2 ^ D → Evt (fun k _ => impl_boundaryEdges_1 k (IntKind.wrap .i64 (1 - s)) x b (2 ^ D) D) (numV m D l h x) := by
      intro x h1 h2
      rw [hs]
      exact edges1_ev hb1 hj hj2 e1 e2 hl hm hD (by omega)
    have ih := edges_inner (kk := kk) (x17 := x17) (s := s) (a := a) hb1 hj hj2 e1 e2 hl hm hD hs r (c + 1) (acc ++ [(s, a, g c, g ((c : Int) + 1))]) (by omega) (by simp; omega)
    have w1 : IntKind.wrap .i64 ((c : Int) + 1) = ((c + 1 : Nat) : Int) := w64_next (by simp only [lenB]; omega)
    have e : acc ++ [(s, a, g c, g ((c : Int) + 1))] ++ wayV s a g (c + 1) r = acc ++ wayV s a g c (r + 1) := by
      simp only [wayV, List.range'_succ, List.map_cons, List.append_assoc, List.singleton_append]
    have ih2 : Evt (fun k n => impl_boundaryEdges_L512830 k n (2 ^ D) (b, 2 ^ D, (D : Int), ()) (acc ++ [(s, a, g c, g ((c : Int) + 1))]) kk s a x17 (2 ^ D) ((c + 1 : Nat) : Int)) (.inr (2 ^ D, (b, 2 ^ D, (D : Int), ()), acc ++ wayV s a g c (r + 1), x17, ())) := by
      rw [← e]; exact ih
    by_cases hk : kk ≥ 2
    · have g1 : g c = numV m D l h (2 ^ D - c) := by show numV m D l h (if kk ≥ 2 then 2 ^ D - (c : Int) else c) = _; rw [if_pos hk]
      have g2 : g ((c : Int) + 1) = numV m D l h (2 ^ D - c - 1) := by
        show numV m D l h (if kk ≥ 2 then 2 ^ D - ((c : Int) + 1) else (c : Int) + 1) = _
        rw [if_pos hk, show (2 : Int) ^ D - (c + 1) = 2 ^ D - c - 1 by omega]
      refine Evt.inr (Evt.ctrue (decide_eq_true hk) .pure) ?_
      have w2 : IntKind.wrap .i64 ((2 : Int) ^ D - c) = 2 ^ D - c := w64 (by omega) (by omega)
      have w3 : IntKind.wrap .i64 ((2 : Int) ^ D - c - 1) = 2 ^ D - c - 1 := w64 (by omega) (by omega)
      simp only [w2, w3, w1]
      rw [g1, g2] at ih2
      refine Evt.bind (num _ (by omega) (by omega)) (Evt.bind (num _ (by omega) (by omega)) (Evt.ctrue (decide_eq_true (by simp only [List.length_cons, List.length_nil]; omega)) ?_))
      exact ih2
    · have g1 : g c = numV m D l h c := by show numV m D l h (if kk ≥ 2 then 2 ^ D - (c : Int) else c) = _; rw [if_neg hk]
      have g2 : g ((c : Int) + 1) = numV m D l h ((c : Int) + 1) := by
        show numV m D l h (if kk ≥ 2 then 2 ^ D - ((c : Int) + 1) else (c : Int) + 1) = _
        rw [if_neg hk]
      refine Evt.inr (Evt.cfalse (decide_eq_false hk) .pure) ?_
      have w2 : IntKind.wrap .i64 ((c : Int) + 1) = (c : Int) + 1 := w64 (by omega) (by omega)
      simp only [w2]
      rw [g1, g2] at ih2
      refine Evt.bind (num _ (by omega) (by omega)) (Evt.bind (num _ (by omega) (by omega)) (Evt.ctrue (decide_eq_true (by simp only [List.length_cons, List.length_nil]; omega)) ?_))
      exact ih2
theorem boundaryEdges_ev {m D : Nat} {l0 l1 h0 h1 : Int} (hm : m ≤ 3) (hD : D ≤ 5) (g0 : -64 ≤ l0 ∧ l0 < h0 ∧ h0 ≤ 64) (g1 : -64 ≤ l1 ∧ l1 < h1 ∧ h1 ≤ 64) : Evt (fun k _ => impl_boundaryEdges k ((m : Int), [l0, l1], [h0, h1]) D) (edgesV m D l0 l1 h0 h1) := by
  have hN : ((2 ^ D : Nat) : Int) = 2 ^ D := by simp
  have hp := pow5 hD
  have hNb : 2 ^ D ≤ 32 := by omega
  let b : Bx := ((m : Int), [l0, l1], [h0, h1])
  refine Evt.eq (f := fun k q => _) ?_ (fun k q => by rw [impl_boundaryEdges])
  refine Evt.cfalse (decide_eq_false (by omega)) ?_
  have hw : IntKind.wrap .i64 (1 * 2 ^ min (Int.toNat (D : Int)) (IntKind.bits .i64)) = 2 ^ D := by
    rw [min64 (by omega), Int.one_mul, w64 (by omega) (by omega)]
  simp only [hw]
  have one : ∀ {R : List Ed ⊕ (List Ed × Unit)} (kk s : Int) (j : Nat) (l h : Int) (a0 a : Int × Int) (acc : List Ed), 0 ≤ kk → kk < 4 → IntKind.wrap .i64 (1 - Int.tmod kk 2) = s → IntKind.wrap .i64 (1 - s) = (j : Int) → j < 2 → b.2.1.getD j 0 = l → b.2.2.getD j 0 = h → (-64 ≤ l ∧ l < h ∧ h ≤ 64) →
      Evt (fun k _ => impl_boundaryEdges_1 k s 0 b (2 ^ D) D) a0 → (kk = 1 ∨ kk = 2 → Evt (fun k _ => impl_boundaryEdges_1 k s (2 ^ D) b (2 ^ D) D) a) → (¬(kk = 1 ∨ kk = 2) → a0 = a) → acc.length ≤ 200 →
      Evt (fun k n => impl_boundaryEdges_L250 k n (2 ^ D) (b, 2 ^ D, (D : Int), ()) (acc ++ wayV s a (fun x => numV m D l h (if kk ≥ 2 then 2 ^ D - x else x)) 0 (2 ^ D)) (IntKind.wrap .i64 (kk + 1))) R → Evt (fun k n => impl_boundaryEdges_L250 k n (2 ^ D) (b, 2 ^ D, (D : Int), ()) acc kk) R := by
    intro R kk s j l h a0 a acc hk0 hk4 hs hj hj2 e1 e2 hl ha0 ha1 haa hacc hrest
    have hin := edges_inner (kk := kk) (x17 := kk) (s := s) (a := a) (b := b) (j := j) (m := m) rfl (by simpa [b] using hj2) (by simpa [b] using hj2) e1 e2 hl hm hD hj (2 ^ D) 0 acc (by omega) (by omega)
    refine Evt.step (fun k n => impl_boundaryEdges_L250.eq_2 k _ _ _ _ n) (Evt.ctrue (decide_eq_true hk4) ?_)
    simp only [hs]
    refine Evt.bind ha0 (Evt.inr (y := (2 ^ D, (b, 2 ^ D, (D : Int), ()), acc, kk, s, a, kk, ())) ?_ (Evt.inr (Evt.diag hin) hrest))
    by_cases c1 : kk = 1
    · exact Evt.ctrue (by simp [c1]) (Evt.bind (ha1 (.inl c1)) .pure)
    · refine Evt.cfalse (by simpa using c1) ?_
      by_cases c2 : kk = 2
      · exact Evt.ctrue (by simp [c2]) (Evt.bind (ha1 (.inr c2)) .pure)
      · refine Evt.cfalse (by simpa using c2) ?_
        rw [haa (by omega)]
        exact .pure
  have n0 : ∀ {j : Nat} {l h : Int}, j < 2 → b.2.1.getD j 0 = l → b.2.2.getD j 0 = h → (-64 ≤ l ∧ l < h ∧ h ≤ 64) → Evt (fun k _ => impl_boundaryEdges_1 k j 0 b (2 ^ D) D) (mkD l m).1 := by
    intro j l h hj e1 e2 hl
    have := edges1_ev (x := 0) (b := b) (m := m) rfl (by simpa [b] using hj) (by simpa [b] using hj) e1 e2 hl hm hD (by omega)
    rw [numV, Int.zero_mul, Int.add_zero, mkD_scale] at this
    exact this
  have n1 : ∀ {j : Nat} {l h : Int}, j < 2 → b.2.1.getD j 0 = l → b.2.2.getD j 0 = h → (-64 ≤ l ∧ l < h ∧ h ≤ 64) → Evt (fun k _ => impl_boundaryEdges_1 k j (2 ^ D) b (2 ^ D) D) (mkD h m).1 := by
    intro j l h hj e1 e2 hl
    have := edges1_ev (x := 2 ^ D) (b := b) (m := m) rfl (by simpa [b] using hj) (by simpa [b] using hj) e1 e2 hl hm hD (by omega)
    have e : l * 2 ^ D + 2 ^ D * (h - l) = h * 2 ^ D := by
      rw [Int.mul_sub, Int.mul_comm (2 ^ D) h, Int.mul_comm (2 ^ D) l]; omega
    rw [numV, e, mkD_scale] at this
    exact this
  have fin : ∀ acc : List Ed, Evt (fun k n => impl_boundaryEdges_L250 k n (2 ^ D) (b, 2 ^ D, (D : Int), ()) acc 4) (.inr (acc, ())) := fun acc =>
    Evt.step (fun k n => impl_boundaryEdges_L250.eq_2 k _ _ _ _ n) (Evt.cfalse rfl .pure)
  have w1 : IntKind.wrap .i64 (0 + 1) = 1 := by decide
  have w2 : IntKind.wrap .i64 (1 + 1) = 2 := by decide
  have w3 : IntKind.wrap .i64 (2 + 1) = 3 := by decide
  have w4 : IntKind.wrap .i64 (3 + 1) = 4 := by decide
  have all : Evt (fun k n => impl_boundaryEdges_L250 k n (2 ^ D) (b, 2 ^ D, (D : Int), ()) [] 0) (.inr (edgesV m D l0 l1 h0 h1, ())) := by
    refine one 0 1 0 l0 h0 (mkD l1 m).1 (mkD l1 m).1 [] (by omega) (by omega) (by decide) (by decide) (by omega) rfl rfl g0 (n0 (j := 1) (by omega) rfl rfl g1) (by omega) (fun _ => rfl) (by simp) ?_
    rw [w1]
    refine one 1 0 1 l1 h1 (mkD l0 m).1 (mkD h0 m).1 _ (by omega) (by omega) (by decide) (by decide) (by omega) rfl rfl g1 (n0 (j := 0) (by omega) rfl rfl g0) (fun _ => n1 (j := 0) (by omega) rfl rfl g0) (by omega) (by simp only [List.length_append, List.length_nil, wayV_len]; omega) ?_
    rw [w2]
    refine one 2 1 0 l0 h0 (mkD l1 m).1 (mkD h1 m).1 _ (by omega) (by omega) (by decide) (by decide) (by omega) rfl rfl g0 (n0 (j := 1) (by omega) rfl rfl g1) (fun _ => n1 (j := 1) (by omega) rfl rfl g1) (by omega) (by simp only [List.length_append, List.length_nil, wayV_len]; omega) ?_
    rw [w3]
    refine one 3 0 1 l1 h1 (mkD l0 m).1 (mkD l0 m).1 _ (by omega) (by omega) (by decide) (by decide) (by omega) rfl rfl g1 (n0 (j := 0) (by omega) rfl rfl g0) (by omega) (fun _ => rfl) (by simp only [List.length_append, List.length_nil, wayV_len]; omega) ?_
    rw [w4]
    exact fin _
  exact Evt.inr (Evt.diag all) .pure

def edgesB (b : Bx) (D : Nat) : List Ed := edgesV b.1.toNat D (b.2.1.getD 0 0) (b.2.1.getD 1 0) (b.2.2.getD 0 0) (b.2.2.getD 1 0)
theorem edgesB_len (b : Bx) (D : Nat) : (edgesB b D).length = 4 * 2 ^ D := edgesV_len _ _ _ _ _ _
theorem edgesB_ok {b : Bx} {D : Nat} : ∀ e ∈ edgesB b D, EdOk e := edgesV_ok
theorem imEdgesB_ev {b : Bx} {D : Nat} (h : plV b = true) (hD : D ≤ 5) : Evt (fun k _ => spec_imEdges k b D) (edgesB b D) := by
  obtain ⟨m, l0, l1, h0, h1, rfl, hm, g0, g1⟩ := plV_form h
  exact imEdges_ev hm hD g0 g1
theorem boundaryEdgesB_ev {b : Bx} {D : Nat} (h : plV b = true) (hD : D ≤ 5) : Evt (fun k _ => impl_boundaryEdges k b D) (edgesB b D) := by
  obtain ⟨m, l0, l1, h0, h1, rfl, hm, g0, g1⟩ := plV_form h
  exact boundaryEdges_ev hm hD g0 g1
end Go.Ev.G

namespace Go.Ev.G
open Go Go.Ev
set_option maxRecDepth 100000

theorem areReasons1_eq (x : Int) : impl_areReasons_1 x = some (!decide (0 ≤ x ∧ x ≤ 3)) := by
  unfold impl_areReasons_1
  rw [inside_eq]; rfl

theorem containsR_ev {xs : List Int} (hb : xs.length < lenB) : Evt (fun k _ => slices_ContainsFunc_int_int_impl_areReasons_1 k xs ()) (xs.any fun x => !decide (0 ≤ x ∧ x ≤ 3)) := by
  refine Evt.eq (f := fun k q => _) ?_ (fun k q => by rw [slices_ContainsFunc_int_int_impl_areReasons_1])
  have h := index_all (d0 := 0) (L := fun k n i => slices_IndexFunc_int_int_impl_areReasons_1_L26 k n xs () (xs.length : Int) i) (xs := xs) (p := fun _ x => impl_areReasons_1 x) (P := fun x => !decide (0 ≤ x ∧ x ≤ 3)) (fun x _ => .const (areReasons1_eq x)) (fun _ _ _ => rfl) hb
  rw [← findIdx?_any]
  have h2 : Evt (fun k _ => slices_IndexFunc_int_int_impl_areReasons_1 k xs ()) (match xs.findIdx? (fun x => !decide (0 ≤ x ∧ x ≤ 3)) with | some j => (j : Int) | none => -1) := by
    refine Evt.eq (f := fun k q => _) ?_ (fun k q => by rw [slices_IndexFunc_int_int_impl_areReasons_1])
    cases hf : xs.findIdx? (fun x => !decide (0 ≤ x ∧ x ≤ 3)) with
    | none => rw [hf] at h; exact Evt.inr (Evt.diag h) .pure
    | some j => rw [hf] at h; exact Evt.inl (Evt.diag h) .pure
  refine Evt.bind h2 (.const ?_)
  cases hf : xs.findIdx? (fun x => !decide (0 ≤ x ∧ x ≤ 3)) with
  | none => rfl
  | some j => simp

def rsOk (x : List Int) : Bool := decide ((x.length : Int) ≤ 128) && x.all fun y => decide (0 ≤ y ∧ y ≤ 3)
theorem areReasons_ev {x : List Int} (hb : x.length < lenB) : Evt (fun k _ => impl_areReasons k x) (rsOk x) := by
  refine Evt.eq (f := fun k q => _) ?_ (fun k q => by rw [impl_areReasons])
  unfold rsOk
  cases h : decide ((x.length : Int) ≤ 128) with
  | true =>
    refine Evt.ctrue rfl (Evt.bind (containsR_ev hb) (.const ?_))
    rw [Bool.true_and, List.any_eq_not_all_not]
    simp
  | false => exact Evt.cfalse rfl .pure

theorem tmodN (a b : Nat) : Int.tmod (a : Int) (b : Int) = ((a % b : Nat) : Int) := rfl

/-- the turns: both count alike -/
theorem turns2_ev {x : List Int} (h0 : 0 < x.length) (hb : x.length ≤ 128) : ∃ (v : Int) (f : Bool), Evt (fun k _ => spec_imTurns k x) (v, f) ∧ Evt (fun k _ => impl_turnsOf k x) (if f then v else 0, f) := by
  have key : ∀ (r d : List Int) (t : Int), d ++ r = x → ∃ res : (Int × Bool) ⊕ (Int × Unit), (∀ q, res = .inl q → q = (0, false)) ∧ Evt (fun k n => spec_imTurns_L58 k n x t x (x.length : Int) d.length) res ∧ Evt (fun k n => impl_turnsOf_L58 k n x t x (x.length : Int) d.length) res := by
    intro r
    induction r with
    | nil =>
      intro d t h
      rw [List.append_nil] at h
      refine ⟨.inr (t, ()), (fun q hq => by cases hq), ?_, ?_⟩
      · refine Evt.step (fun k n => spec_imTurns_L58.eq_2 k _ _ _ _ _ n) ?_
        rw [h]
        exact Evt.rng0 .pure
      · refine Evt.step (fun k n => impl_turnsOf_L58.eq_2 k _ _ _ _ _ n) ?_
        rw [h]
        exact Evt.rng0 .pure
    | cons e r ih =>
      intro d t h
      have hl := congrArg List.length h
      simp at hl
      have hnx : IntKind.wrap .i64 ((d.length : Int) + 1) = ((d ++ [e]).length : Int) := by rw [w64_next (by simp only [lenB]; omega)]; simp
      have hw : IntKind.wrap .i64 ((d.length : Int) + 1) = ((d.length + 1 : Nat) : Int) := w64_next (by simp only [lenB]; omega)
      have hmod : (d.length + 1) % x.length < x.length := Nat.mod_lt _ h0
      have e1 : x.getD (Int.toNat (d.length : Int)) 0 = e := by rw [← h]; exact mid_get
      generalize hD : Int.tmod (IntKind.wrap .i64 ((IntKind.wrap .i64 ((x.getD (Int.toNat (Int.tmod (IntKind.wrap .i64 ((d.length : Int) + 1)) (x.length : Int))) 0) - (x.getD (Int.toNat (d.length : Int)) 0))) + 4)) 4 = D
      have g1 : decide ((d.length : Int) < (x.length : Int)) = true := decide_eq_true (by omega)
      have g2 : ((x.length : Int) == 0) = false := by rw [beq_eq_false_iff_ne]; omega
      have g3 : decide (0 ≤ Int.tmod (IntKind.wrap .i64 ((d.length : Int) + 1)) (x.length : Int)) = true := by rw [hw, tmodN]; exact decide_eq_true (Int.natCast_nonneg _)
      have g4 : decide (Int.tmod (IntKind.wrap .i64 ((d.length : Int) + 1)) (x.length : Int) < (x.length : Int)) = true := by rw [hw, tmodN]; exact decide_eq_true (Int.ofNat_lt.2 hmod)
      have s1 : ∀ {res}, Evt (fun k n => (bif (D == 1) then (spec_imTurns_L58 k n x (IntKind.wrap .i64 (t + 1)) x (x.length : Int) (IntKind.wrap .i64 ((d.length : Int) + 1))) else (bif (D == 2) then some (Sum.inl (0, false)) else (bif (D == 3) then (spec_imTurns_L58 k n x (IntKind.wrap .i64 (t - 1)) x (x.length : Int) (IntKind.wrap .i64 ((d.length : Int) + 1))) else (spec_imTurns_L58 k n x t x (x.length : Int) (IntKind.wrap .i64 ((d.length : Int) + 1))))))) res → Evt (fun k n => spec_imTurns_L58 k n x t x (x.length : Int) d.length) res := by
        intro res hh
        refine Evt.step (fun k n => spec_imTurns_L58.eq_2 k _ _ _ _ _ n) (Evt.ctrue g1 (Evt.ctrue mid_ge (Evt.ctrue g1 (Evt.cfalse g2 (Evt.ctrue g3 (Evt.ctrue g4 ?_))))))
        rw [hD]
        exact hh
      have s2 : ∀ {res}, Evt (fun k n => (bif (D == 1) then (impl_turnsOf_L58 k n x (IntKind.wrap .i64 (t + 1)) x (x.length : Int) (IntKind.wrap .i64 ((d.length : Int) + 1))) else (bif (D == 2) then some (Sum.inl (0, false)) else (bif (D == 3) then (impl_turnsOf_L58 k n x (IntKind.wrap .i64 (t - 1)) x (x.length : Int) (IntKind.wrap .i64 ((d.length : Int) + 1))) else (impl_turnsOf_L58 k n x t x (x.length : Int) (IntKind.wrap .i64 ((d.length : Int) + 1))))))) res → Evt (fun k n => impl_turnsOf_L58 k n x t x (x.length : Int) d.length) res := by
        intro res hh
        refine Evt.step (fun k n => impl_turnsOf_L58.eq_2 k _ _ _ _ _ n) (Evt.ctrue g1 (Evt.ctrue mid_ge (Evt.ctrue g1 (Evt.cfalse g2 (Evt.ctrue g3 (Evt.ctrue g4 ?_))))))
        rw [hD]
        exact hh
      have ih := fun t => ih (d ++ [e]) t (by simpa using h)
      rw [← hnx] at ih
      cases h1 : (D == 1) with
      | true =>
        obtain ⟨res, q0, q1, q2⟩ := ih (IntKind.wrap .i64 (t + 1))
        exact ⟨res, q0, s1 (Evt.ctrue h1 q1), s2 (Evt.ctrue h1 q2)⟩
      | false =>
      cases h2 : (D == 2) with
      | true => exact ⟨.inl (0, false), (fun q hq => by cases hq; rfl), s1 (Evt.cfalse h1 (Evt.ctrue h2 .pure)), s2 (Evt.cfalse h1 (Evt.ctrue h2 .pure))⟩
      | false =>
      cases h3 : (D == 3) with
      | true =>
        obtain ⟨res, q0, q1, q2⟩ := ih (IntKind.wrap .i64 (t - 1))
        exact ⟨res, q0, s1 (Evt.cfalse h1 (Evt.cfalse h2 (Evt.ctrue h3 q1))), s2 (Evt.cfalse h1 (Evt.cfalse h2 (Evt.ctrue h3 q2)))⟩
      | false =>
        obtain ⟨res, q0, q1, q2⟩ := ih t
        exact ⟨res, q0, s1 (Evt.cfalse h1 (Evt.cfalse h2 (Evt.cfalse h3 q1))), s2 (Evt.cfalse h1 (Evt.cfalse h2 (Evt.cfalse h3 q2)))⟩
  obtain ⟨res, q0, q1, q2⟩ := key x [] 0 rfl
  simp only [List.length_nil] at q1 q2
  cases res with
  | inl q =>
    have hf := q0 _ rfl
    subst hf
    refine ⟨0, false, ?_, ?_⟩
    · refine Evt.eq (f := fun k q => _) ?_ (fun k q => by rw [spec_imTurns])
      exact Evt.inl (Evt.diag q1) .pure
    · refine Evt.eq (f := fun k q => _) ?_ (fun k q => by rw [impl_turnsOf])
      exact Evt.inl (Evt.diag q2) .pure
  | inr y =>
    obtain ⟨t, u⟩ := y
    refine ⟨IntKind.wrap .i64 (Int.tdiv t 4), (Int.tmod t 4 == 0), ?_, ?_⟩
    · refine Evt.eq (f := fun k q => _) ?_ (fun k q => by rw [spec_imTurns])
      exact Evt.inr (Evt.diag q1) .pure
    · refine Evt.eq (f := fun k q => _) ?_ (fun k q => by rw [impl_turnsOf])
      cases ht : (Int.tmod t 4 == 0) with
      | true => exact Evt.inr (Evt.diag q2) (Evt.cfalse (by unfold bne; rw [ht]; rfl) .pure)
      | false => exact Evt.inr (Evt.diag q2) (Evt.ctrue (by unfold bne; rw [ht]; rfl) .pure)
end Go.Ev.G

namespace Go.Ev.G
open Go Go.Ev
set_option maxRecDepth 100000

section
variable {V : Type}
end
theorem cmp_bool {v : Bool × Bool} {f : Nat → Nat → Option Bool} {r : Bool} (h : Evt f r) : Evt (fun k n => (bif (!(v.1 == v.1)) then some false else (bif (!(v.2 == v.2)) then some false else f k n))) r := Evt.cfalse (by simp) (Evt.cfalse (by simp) h)
/-- what a plane system is asked to be -/
structure Pl (s : List (List Tm)) : Prop where
  ln : s.length = 2
  tm : ∀ p ∈ s, ∀ t ∈ p, tmW t
  lp : ∀ p ∈ s, p.length < lenB
theorem twoV_pl {s : List (List Tm)} (h : twoV s = true) (hm : ∀ r ∈ s, r.length < lenB) : Pl s := ⟨(twoV_len h).2, sysV_tm (twoV_len h).1, hm⟩
theorem Pl.sd {s : List (List Tm)} (h : Pl s) {e : Ed} (he : EdOk e) : Sd s (sidesE e) := Sd.edge h.tm h.lp he
theorem pow2N5 {D : Nat} (h : D ≤ 5) : 1 ≤ 2 ^ D ∧ 2 ^ D ≤ 32 := by
  have := pow5 h
  have e : ((2 ^ D : Nat) : Int) = 2 ^ D := by simp
  omega
end Go.Ev.G

namespace Go.Ev.G
open Go Go.Ev
set_option maxRecDepth 100000

theorem planeV_form {s : List (List Tm)} {b : Bx} (h : planeV s b = true) (hm : ∀ r ∈ s, r.length < lenB) : Pl s ∧ plV b = true := by
  unfold planeV at h
  rw [Bool.and_eq_true] at h
  exact ⟨twoV_pl h.1 hm, h.2⟩
end Go.Ev.G

namespace Go.Ev.G
open Go Go.Ev
set_option maxRecDepth 100000

theorem szTermSS_neg {x : List (List Tm)} {a : Int} (hx : x.length ≤ 140737488351232) (h0 : a < 0) (h1 : -1000000000000000 ≤ a) : Evt (fun k _ => laws_szTermSS k x a) (-1) := by
  refine Evt.eq (f := fun k q => _) ?_ (fun k q => by rw [laws_szTermSS])
  rw [w64 (by omega) (by omega)]
  exact Evt.ctrue (decide_eq_true (by omega)) .pure
theorem frame_sbx {V : Type} {a : List (List Tm)} {b : Bx} {xs : List Int} {S I : Nat → List (List Tm) → Bx → List Int → Option V} {C : Nat → V → V → Option Bool → Option Bool} {v : V} (ha' : a.length ≤ 140737488351232) (hm : ∀ x ∈ a, x.length ≤ maxLen) (h1 : b.2.1.length ≤ maxLen) (h2 : b.2.2.length ≤ maxLen) (hxs' : xs.length ≤ 140737488351232)
    (hC : ∀ {f : Nat → Nat → Option Bool} {r : Bool}, Evt f r → Evt (fun k n => C k v v (f k n)) r)
    (hS : a.length < 274877906944 → (∀ r ∈ a, r.length < lenB) → b.2.1.length < lenB → xs.length ≤ 1000000 → Evt (fun k _ => S k a b xs) v) (hI : a.length < lenB → (∀ r ∈ a, r.length < lenB) → b.2.1.length < lenB → xs.length ≤ 1000000 → Evt (fun k _ => I k a b xs) v) :
    Evt (fun k _ => (Option.bind (laws_szTermSS k a (IntKind.wrap .i64 (1000000 - (xs.length : Int)))) fun r1 => (bif (decide (r1 < 0)) then some true else (Option.bind (laws_szBox b r1) fun r2 => (bif (decide (r2 < 0)) then some true else (Option.bind (laws_toTermSS k a false) fun r3 => (Option.bind (laws_toBox k b false) fun r4 => (Option.bind (laws_toIntS k xs false) fun r5 => (Option.bind (S k (r3.1.map fun z => z.1) (r4.1, r4.2.1.1, r4.2.2.1) r5.1) fun r6 => (Option.bind (laws_toTermSS k a false) fun r7 => (Option.bind (laws_toBox k b false) fun r8 => (Option.bind (laws_toIntS k xs false) fun r9 => (Option.bind (I k (r7.1.map fun z => z.1) (r8.1, r8.2.1.1, r8.2.2.1) r9.1) fun r10 => C k r6 r10 (Option.bind (laws_toTermSS k a false) fun r11 => (Option.bind (laws_intactTermSS k r7 r11) fun r12 => (bif (!r12) then some false else (Option.bind (laws_toBox k b false) fun r13 => (Option.bind (laws_intactBox k r8 r13) fun r14 => (bif (!r14) then some false else (Option.bind (laws_toIntS k xs false) fun r15 => (Option.bind (laws_intactIntS k r9 r15) fun r16 => (bif (!r16) then some false else (Option.bind (laws_toTermSS k a true) fun r17 => (Option.bind (laws_toBox k b true) fun r18 => (Option.bind (laws_toIntS k xs true) fun r19 => (Option.bind (I k (r17.1.map fun z => z.1) (r18.1, r18.2.1.1, r18.2.2.1) r19.1) fun r20 => C k r6 r20 (some true))))))))))))))))))))))))))) true := by
  have ha : a.length ≤ maxLen := by simp only [maxLen]; omega
  by_cases hx0 : xs.length ≤ 1000000
  · have ew : IntKind.wrap .i64 (1000000 - (xs.length : Int)) = ((1000000 - xs.length : Nat) : Int) := by rw [w64 (by omega) (by omega)]; omega
    rw [ew]
    refine Evt.bind (szTermSS_ev (a := 1000000 - xs.length) ha hm (by omega)) ?_
    by_cases hz : a.length + (a.map List.length).sum ≤ 1000000 - xs.length
    · rw [if_pos hz]
      have hs : Sized a := by unfold Sized; omega
      refine Evt.cfalse (by simp <;> omega) (Evt.bind (.const (szBox_eq h1 h2 (by omega))) ?_)
      by_cases hy : b.2.1.length + b.2.2.length ≤ 1000000 - xs.length - (a.length + (a.map List.length).sum)
      · rw [if_pos hy]
        refine Evt.cfalse (by simp <;> omega) ?_
        have b1 : b.2.1.length ≤ 1000000 := by omega
        have b2 : b.2.2.length ≤ 1000000 := by omega
        have hr : ∀ r ∈ a, r.length < lenB := fun r hr => by have := hs.row r hr; simp only [lenB]; omega
        have hl := hs.len
        have spec := hS (by omega) hr (by simp only [lenB]; omega) hx0
        have impl := hI (by simp only [lenB]; omega) hr (by simp only [lenB]; omega) hx0
        refine Evt.bind (toTermSS_ev hs.len hs.row) (Evt.bind (toBox_ev b1 b2) (Evt.bind (toIntS_ev hx0) ?_))
        simp only [toV_rows, boxR_eq, toV_fst]
        refine Evt.bind spec (Evt.bind (toTermSS_ev hs.len hs.row) (Evt.bind (toBox_ev b1 b2) (Evt.bind (toIntS_ev hx0) ?_)))
        simp only [toV_rows, boxR_eq, toV_fst]
        refine Evt.bind impl (hC (Evt.bind (toTermSS_ev hs.len hs.row) (Evt.bind (intactT_ev hs) (Evt.cfalse rfl (Evt.bind (toBox_ev b1 b2) (Evt.bind (intactBox_ev b1 b2) (Evt.cfalse rfl (Evt.bind (toIntS_ev hx0) (Evt.bind (intactIntS_ev (room_toV hx0)) (Evt.cfalse rfl (Evt.bind (toTermSS_ev hs.len hs.row) (Evt.bind (toBox_ev b1 b2) (Evt.bind (toIntS_ev hx0) ?_)))))))))))))
        simp only [toV_rows, boxR_eq, toV_fst]
        exact Evt.bind impl (hC .pure)
      · rw [if_neg hy]
        exact Evt.ctrue rfl .pure
    · rw [if_neg hz]
      exact Evt.ctrue rfl .pure
  · have ew : IntKind.wrap .i64 (1000000 - (xs.length : Int)) = 1000000 - (xs.length : Int) := w64 (by omega) (by omega)
    rw [ew]
    exact Evt.bind (szTermSS_neg ha' (by omega) (by omega)) (Evt.ctrue rfl .pure)

end Go.Ev.G

namespace Go.Ev.G
open Go Go.Ev
set_option maxRecDepth 100000

def okR (s : List (List Tm)) (p : Ed × Int) : Bool := decide (0 ≤ p.2 ∧ p.2 ≤ 3) && hV 2 s (sidesE p.1) p.2.toNat
theorem okR_out {s : List (List Tm)} : ∀ (es : List Ed) (xs : List Int), es.length = xs.length → (xs.all fun y => decide (0 ≤ y ∧ y ≤ 3)) = false → (es.zip xs).all (okR s) = false
  | [], [], _, h => by simp at h
  | e :: es, x :: xs, hl, h => by
    rw [List.zip_cons_cons, List.all_cons]
    rw [List.all_cons] at h
    unfold okR
    simp only
    cases hx : decide (0 ≤ x ∧ x ≤ 3) with
    | false => rfl
    | true =>
      rw [hx, Bool.true_and] at h
      have := okR_out (s := s) es xs (by simpa using hl) h
      unfold okR at this
      rw [this, Bool.and_false]
  | [], _ :: _, hl, _ => by simp at hl
  | _ :: _, [], hl, _ => by simp at hl
theorem specCheck_loop {s : List (List Tm)} (hs : Pl s) {es : List Ed} {xs : List Int} (he : ∀ e ∈ es, EdOk e) (hl : es.length = xs.length) (hb : es.length ≤ 1000) : ∀ (r d : List Ed) (r' d' : List Int), d ++ r = es → d' ++ r' = xs → d.length = d'.length →
    Evt (fun k m => spec_CheckReasons_L14922 k m s xs es (es.length : Int) d.length) (if (r.zip r').all (okR s) then .inr (xs, ()) else .inl (false, true))
  | [], d, r', d', h1, h2, h3 => by
    rw [List.append_nil] at h1
    rw [← h1]
    refine Evt.step (fun k m => spec_CheckReasons_L14922.eq_2 k _ _ _ _ _ m) (Evt.rng0 ?_)
    simp only [List.zip_nil_left, List.all_nil, if_true]
    exact .pure
  | e :: r, d, [], d', h1, h2, h3 => by
    have a1 := congrArg List.length h1
    have a2 := congrArg List.length h2
    simp only [List.length_append, List.length_cons, List.length_nil] at *
    omega
  | e :: r, d, x :: r', d', h1, h2, h3 => by
    have ge := he e (by rw [← h1]; simp)
    have ih := specCheck_loop hs he hl hb r (d ++ [e]) r' (d' ++ [x]) (by simpa using h1) (by simpa using h2) (by simp [h3])
    refine Evt.step (fun k m => spec_CheckReasons_L14922.eq_2 k _ _ _ _ _ m) ?_
    rw [← h1] at ih ⊢
    rw [← h2] at ih ⊢
    refine Evt.ctrue mid_lt (Evt.ctrue mid_ge (Evt.ctrue mid_lt (Evt.ctrue mid_ge (Evt.ctrue (two_lt (r := []) h3) ?_))))
    rw [mid_get, two_get h3, len_next (by rw [h1]; simp only [lenB]; omega)]
    refine Evt.bind (.const (l1In_eq _ _ _)) ?_
    rw [List.zip_cons_cons, List.all_cons]
    unfold okR at ih ⊢
    simp only
    cases hi : decide (0 ≤ x ∧ x ≤ 3) with
    | false => exact Evt.ctrue rfl .pure
    | true =>
      have hxx := of_decide_eq_true hi
      refine Evt.cfalse rfl (Evt.bind (imSides_ev ge) (Evt.ctrue mid_ge (Evt.ctrue (two_lt (r := []) h3) ?_)))
      obtain ⟨j, rfl⟩ := Int.eq_ofNat_of_zero_le hxx.1
      refine Evt.bind (imHolds_ev (hs.sd ge) hs.ln (by omega)) ?_
      simp only [Int.toNat_natCast, Bool.true_and]
      cases hV 2 s (sidesE e) j with
      | false => exact Evt.ctrue rfl .pure
      | true => exact Evt.cfalse rfl ih
theorem implCheck_loop {s : List (List Tm)} (hs : Pl s) {es : List Ed} {xs : List Int} (he : ∀ e ∈ es, EdOk e) (hl : es.length = xs.length) (hb : es.length ≤ 1000) (hx : ∀ y ∈ xs, 0 ≤ y ∧ y ≤ 3) : ∀ (r d : List Ed) (r' d' : List Int), d ++ r = es → d' ++ r' = xs → d.length = d'.length →
    Evt (fun k m => impl_checkReasons_L27034 k m s xs es (es.length : Int) d.length) (if (r.zip r').all (okR s) then .inr (xs, ()) else .inl false)
  | [], d, r', d', h1, h2, h3 => by
    rw [List.append_nil] at h1
    rw [← h1]
    refine Evt.step (fun k m => impl_checkReasons_L27034.eq_2 k _ _ _ _ _ m) (Evt.rng0 ?_)
    simp only [List.zip_nil_left, List.all_nil, if_true]
    exact .pure
  | e :: r, d, [], d', h1, h2, h3 => by
    have a1 := congrArg List.length h1
    have a2 := congrArg List.length h2
    simp only [List.length_append, List.length_cons, List.length_nil] at *
    omega
  | e :: r, d, x :: r', d', h1, h2, h3 => by
    have ge := he e (by rw [← h1]; simp)
    have hxx := hx x (by rw [← h2]; simp)
    have ih := implCheck_loop hs he hl hb hx r (d ++ [e]) r' (d' ++ [x]) (by simpa using h1) (by simpa using h2) (by simp [h3])
    refine Evt.step (fun k m => impl_checkReasons_L27034.eq_2 k _ _ _ _ _ m) ?_
    rw [← h1] at ih ⊢
    rw [← h2] at ih ⊢
    refine Evt.ctrue mid_lt (Evt.ctrue mid_ge (Evt.ctrue mid_lt (Evt.ctrue mid_ge (Evt.ctrue (two_lt (r := []) h3) ?_))))
    rw [mid_get, two_get h3, len_next (by rw [h1]; simp only [lenB]; omega)]
    rw [List.zip_cons_cons, List.all_cons]
    unfold okR at ih ⊢
    simp only
    rw [decide_eq_true hxx]
    obtain ⟨j, rfl⟩ := Int.eq_ofNat_of_zero_le hxx.1
    refine Evt.bind (edgeHolds_ev (hs.sd ge) ge hs.ln (by omega)) ?_
    simp only [Int.toNat_natCast, Bool.true_and]
    cases hV 2 s (sidesE e) j with
    | false => exact Evt.ctrue rfl .pure
    | true => exact Evt.cfalse rfl ih
/-- at the depth that has as many edges, both tell the same -/
theorem check_depth {s : List (List Tm)} {b : Bx} {xs : List Int} {D : Nat} (hs : Pl s) (hp : plV b = true) (hD : D ≤ 5) (hl : xs.length = 4 * 2 ^ D) : ∃ f : Bool,
    Evt (fun k m => spec_CheckReasons_L58 k m s xs b D) (.inl (f, true)) ∧ (Evt (fun k m => impl_checkReasons_L26 k m s b xs D) (.inl f) ∨ (f = false ∧ rsOk xs = false)) := by
  have h5 := pow2N5 hD
  have hel : (edgesB b D).length = xs.length := by rw [edgesB_len]; omega
  have hsp := specCheck_loop hs (es := edgesB b D) (xs := xs) edgesB_ok hel (by omega) (edgesB b D) [] xs [] rfl rfl rfl
  simp only [List.length_nil] at hsp
  obtain ⟨v, f, t1, t2⟩ := turns2_ev (x := xs) (by omega) (by omega)
  have hN : ((2 ^ D : Nat) : Int) = 2 ^ D := by simp
  have specStep : ∀ {R : (Bool × Bool) ⊕ Unit}, Evt (fun k _ => (both (R := Bool × Bool) (P := (List Int) × Unit) (spec_CheckReasons_L14922 k k s xs (edgesB b D) ((edgesB b D).length : Int) 0) (fun q9 => some (Sum.inl q9)) (fun y8 => (Option.bind (spec_imTurns k y8.1) fun r10 => some (Sum.inl (r10.2, true)))))) R → Evt (fun k m => spec_CheckReasons_L58 k m s xs b D) R := by
    intro R hR
    refine Evt.step (fun k m => spec_CheckReasons_L58.eq_2 k _ _ _ _ m) (Evt.ctrue (decide_eq_true (by omega)) (Evt.bind (.const (dyPower_eq (m := D) (by omega))) (Evt.cfalse ?_ (Evt.bind (imEdgesB_ev hp hD) hR))))
    rw [w64 (by omega) (by omega), bne_eq_false_iff_eq]
    omega
  cases ho : rsOk xs with
  | false =>
    refine ⟨false, ?_, .inr ⟨rfl, rfl⟩⟩
    have hall : (xs.all fun y => decide (0 ≤ y ∧ y ≤ 3)) = false := by
      unfold rsOk at ho
      rw [decide_eq_true (by omega), Bool.true_and] at ho
      exact ho
    have := okR_out (s := s) (edgesB b D) xs hel hall
    rw [this, if_neg (by simp)] at hsp
    exact specStep (Evt.inl (Evt.diag hsp) .pure)
  | true =>
    have hx : ∀ y ∈ xs, 0 ≤ y ∧ y ≤ 3 := by
      unfold rsOk at ho
      rw [Bool.and_eq_true, List.all_eq_true] at ho
      intro y hy
      exact of_decide_eq_true (ho.2 y hy)
    have him := implCheck_loop hs (es := edgesB b D) (xs := xs) edgesB_ok hel (by omega) hx (edgesB b D) [] xs [] rfl rfl rfl
    simp only [List.length_nil] at him
    have implStep : ∀ {R : Bool ⊕ Unit}, Evt (fun k _ => (both (R := Bool) (P := (List Int) × Unit) (impl_checkReasons_L27034 k k s xs (edgesB b D) ((edgesB b D).length : Int) 0) (fun q6 => some (Sum.inl q6)) (fun y5 => (Option.bind (impl_turnsOf k y5.1) fun r7 => some (Sum.inl r7.2))))) R → Evt (fun k m => impl_checkReasons_L26 k m s b xs D) R := by
      intro R hR
      refine Evt.step (fun k m => impl_checkReasons_L26.eq_2 k _ _ _ _ m) (Evt.ctrue (decide_eq_true (by omega)) (Evt.cfalse (decide_eq_false (by omega)) (Evt.cfalse ?_ (Evt.bind (areReasons_ev (by simp only [lenB]; omega)) (Evt.cfalse (by rw [ho]; rfl) (Evt.bind (boundaryEdgesB_ev hp hD) hR))))))
      rw [min64 (by omega), w64 (by omega) (by omega), bne_eq_false_iff_eq]
      omega
    cases ha : ((edgesB b D).zip xs).all (okR s) with
    | false =>
      rw [ha, if_neg (by simp)] at hsp him
      exact ⟨false, specStep (Evt.inl (Evt.diag hsp) .pure), .inl (implStep (Evt.inl (Evt.diag him) .pure))⟩
    | true =>
      rw [ha, if_pos rfl] at hsp him
      exact ⟨f, specStep (Evt.inr (Evt.diag hsp) (Evt.bind t1 .pure)), .inl (implStep (Evt.inr (Evt.diag him) (Evt.bind t2 .pure)))⟩
theorem spec_skip {s : List (List Tm)} {b : Bx} {xs : List Int} {D : Nat} (hD : D ≤ 5) (hl : xs.length ≠ 4 * 2 ^ D) {R : (Bool × Bool) ⊕ Unit} (h : Evt (fun k m => spec_CheckReasons_L58 k m s xs b ((D + 1 : Nat) : Int)) R) : Evt (fun k m => spec_CheckReasons_L58 k m s xs b D) R := by
  have h5 := pow2N5 hD
  have hN : ((2 ^ D : Nat) : Int) = 2 ^ D := by simp
  refine Evt.step (fun k m => spec_CheckReasons_L58.eq_2 k _ _ _ _ m) (Evt.ctrue (decide_eq_true (by omega)) (Evt.bind (.const (dyPower_eq (m := D) (by omega))) (Evt.ctrue ?_ ?_)))
  · rw [w64 (by omega) (by omega), bne_iff_ne]; omega
  · rw [w64_next (by simp only [lenB]; omega)]; exact h
theorem impl_skip {s : List (List Tm)} {b : Bx} {xs : List Int} {D : Nat} (hD : D ≤ 5) (hb : xs.length < lenB) (hl : xs.length ≠ 4 * 2 ^ D ∨ rsOk xs = false) {R : Bool ⊕ Unit} (h : Evt (fun k m => impl_checkReasons_L26 k m s b xs ((D + 1 : Nat) : Int)) R) : Evt (fun k m => impl_checkReasons_L26 k m s b xs D) R := by
  have h5 := pow2N5 hD
  have hN : ((2 ^ D : Nat) : Int) = 2 ^ D := by simp
  refine Evt.step (fun k m => impl_checkReasons_L26.eq_2 k _ _ _ _ m) (Evt.ctrue (decide_eq_true (by omega)) (Evt.cfalse (decide_eq_false (by omega)) ?_))
  rw [min64 (by omega), w64 (n := 4 * 2 ^ D) (by omega) (by omega), w64_next (by simp only [lenB]; omega)]
  cases hq : ((xs.length : Int) != 4 * 2 ^ D) with
  | true => exact Evt.ctrue rfl h
  | false =>
    rw [bne_eq_false_iff_eq] at hq
    refine Evt.cfalse rfl (Evt.bind (areReasons_ev hb) ?_)
    rcases hl with hl | hl
    · omega
    · rw [hl]; exact Evt.ctrue rfl h
theorem spec_end {s : List (List Tm)} {b : Bx} {xs : List Int} : Evt (fun k m => spec_CheckReasons_L58 k m s xs b ((6 : Nat) : Int)) (.inr ()) := Evt.step (fun k m => spec_CheckReasons_L58.eq_2 k _ _ _ _ m) (Evt.cfalse rfl .pure)
theorem impl_end {s : List (List Tm)} {b : Bx} {xs : List Int} : Evt (fun k m => impl_checkReasons_L26 k m s b xs ((6 : Nat) : Int)) (.inr ()) := Evt.step (fun k m => impl_checkReasons_L26.eq_2 k _ _ _ _ m) (Evt.cfalse rfl .pure)
/-- from a depth on -/
theorem check_from {s : List (List Tm)} {b : Bx} {xs : List Int} (hb : xs.length < lenB) : ∀ (j D : Nat), D + j = 6 → ∃ f : Bool, (Pl s → plV b = true → ∃ R, Evt (fun k m => spec_CheckReasons_L58 k m s xs b D) R ∧ (R = .inl (f, true) ∨ (R = .inr () ∧ f = false))) ∧
    (Pl s → plV b = true → ∃ R, Evt (fun k m => impl_checkReasons_L26 k m s b xs D) R ∧ (R = .inl f ∨ (R = .inr () ∧ f = false)))
  | 0, D, h => by
    have : D = 6 := by omega
    subst this
    exact ⟨false, fun _ _ => ⟨_, spec_end, .inr ⟨rfl, rfl⟩⟩, fun _ _ => ⟨_, impl_end, .inr ⟨rfl, rfl⟩⟩⟩
  | j + 1, D, h => by
    obtain ⟨f, h1, h2⟩ := check_from (s := s) (b := b) hb j (D + 1) (by omega)
    by_cases hl : xs.length = 4 * 2 ^ D
    · by_cases hpl : Pl s ∧ plV b = true
      · obtain ⟨f', q1, q2⟩ := check_depth hpl.1 hpl.2 (show D ≤ 5 by omega) hl
        refine ⟨f', fun _ _ => ⟨_, q1, .inl rfl⟩, fun hs hp => ?_⟩
        rcases q2 with q2 | ⟨hf, ho⟩
        · exact ⟨_, q2, .inl rfl⟩
        · subst hf
          -- behind it no depth has as many edges
          have skipAll : ∀ (i E : Nat), E + i = 6 → Evt (fun k m => impl_checkReasons_L26 k m s b xs E) (.inr ()) := by
            intro i
            induction i with
            | zero =>
              intro E hE
              have : E = 6 := by omega
              subst this
              exact impl_end
            | succ i ih =>
              intro E hE
              exact impl_skip (by omega) hb (.inr ho) (ih (E + 1) (by omega))
          exact ⟨_, skipAll (j + 1) D h, .inr ⟨rfl, rfl⟩⟩
      · exact ⟨false, fun hs hp => absurd ⟨hs, hp⟩ hpl, fun hs hp => absurd ⟨hs, hp⟩ hpl⟩
    · refine ⟨f, fun hs hp => ?_, fun hs hp => ?_⟩
      · obtain ⟨R, r1, r2⟩ := h1 hs hp
        exact ⟨R, spec_skip (by omega) hl r1, r2⟩
      · obtain ⟨R, r1, r2⟩ := h2 hs hp
        exact ⟨R, impl_skip (by omega) hb (.inl hl) r1, r2⟩
theorem checkReasons_val (s : List (List Tm)) (b : Bx) (xs : List Int) (hxs : xs.length ≤ 140737488351232) : ∃ v : Bool × Bool, (s.length < lenB → (∀ r ∈ s, r.length < lenB) → b.2.1.length < lenB → Evt (fun k _ => spec_CheckReasons k s b xs) v) ∧ (s.length < lenB → (∀ r ∈ s, r.length < lenB) → b.2.1.length < lenB → Evt (fun k _ => impl_CheckReasons k s b xs) v) := by
  obtain ⟨f, h1, h2⟩ := check_from (s := s) (b := b) (xs := xs) (by simp only [lenB]; omega) 6 0 rfl
  cases h : planeV s b with
  | false =>
    refine ⟨(false, false), fun hb hm hx => ?_, fun hb hm hx => ?_⟩
    · refine Evt.eq (f := fun k q => _) ?_ (fun k q => by rw [spec_CheckReasons])
      exact Evt.bind (imGood_ev hb hm hx) (Evt.ctrue (by rw [h]; rfl) .pure)
    · refine Evt.eq (f := fun k q => _) ?_ (fun k q => by rw [impl_CheckReasons])
      exact Evt.bind (isPlane_ev hb hm hx) (Evt.ctrue (by rw [h]; rfl) .pure)
  | true =>
    by_cases hl : (xs.length : Int) > 128
    · refine ⟨(false, false), fun hb hm hx => ?_, fun hb hm hx => ?_⟩
      · refine Evt.eq (f := fun k q => _) ?_ (fun k q => by rw [spec_CheckReasons])
        exact Evt.bind (imGood_ev hb hm hx) (Evt.cfalse (by rw [h]; rfl) (Evt.ctrue (decide_eq_true hl) .pure))
      · refine Evt.eq (f := fun k q => _) ?_ (fun k q => by rw [impl_CheckReasons])
        exact Evt.bind (isPlane_ev hb hm hx) (Evt.cfalse (by rw [h]; rfl) (Evt.ctrue (decide_eq_true hl) .pure))
    · refine ⟨(f, true), fun hb hm hx => ?_, fun hb hm hx => ?_⟩
      · obtain ⟨hs, hp⟩ := planeV_form h hm
        obtain ⟨R, r1, r2⟩ := h1 hs hp
        refine Evt.eq (f := fun k q => _) ?_ (fun k q => by rw [spec_CheckReasons])
        refine Evt.bind (imGood_ev hb hm hx) (Evt.cfalse (by rw [h]; rfl) (Evt.cfalse (decide_eq_false hl) ?_))
        rcases r2 with rfl | ⟨rfl, rfl⟩
        · exact Evt.inl (Evt.diag r1) .pure
        · exact Evt.inr (Evt.diag r1) .pure
      · obtain ⟨hs, hp⟩ := planeV_form h hm
        obtain ⟨R, r1, r2⟩ := h2 hs hp
        refine Evt.eq (f := fun k q => _) ?_ (fun k q => by rw [impl_CheckReasons])
        refine Evt.bind (isPlane_ev hb hm hx) (Evt.cfalse (by rw [h]; rfl) (Evt.cfalse (decide_eq_false hl) ?_))
        have : Evt (fun k _ => impl_checkReasons k s b xs) f := by
          refine Evt.eq (f := fun k q => _) ?_ (fun k q => by rw [impl_checkReasons])
          rcases r2 with rfl | ⟨rfl, rfl⟩
          · exact Evt.inl (Evt.diag r1) .pure
          · exact Evt.inr (Evt.diag r1) .pure
        exact Evt.bind this .pure
theorem checkReasons_row (a : List (List Tm)) (b : Bx) (xs : List Int) (h : WfT (.sl (.sl tTerm)) a) (hb : WfT tBox b) (_ : WfT (.sl (.int .i64)) xs) (hla : a.length ≤ 140737488351232) (hlx : xs.length ≤ 140737488351232) : ∃ k, laws_FnExactCheckReasons k a b xs = some true := by
  obtain ⟨v, hS, hI⟩ := checkReasons_val a b xs hlx
  exact Evt.get (Evt.eq (frame_sbx (S := fun k a b xs => spec_CheckReasons k a b xs) (I := fun k a b xs => impl_CheckReasons k a b xs) (C := fun _ r5 r8 x => (bif (!(r8.1 == r5.1)) then some false else (bif (!(r8.2 == r5.2)) then some false else x))) (v := v) hla (fun x hx => (h.2 x hx).1) hb.2.1.1 hb.2.2.1 hlx cmp_bool
    (fun h1 h2 h3 _ => hS (by simp only [lenB]; omega) h2 h3) (fun h1 h2 h3 _ => hI h1 h2 h3)) (fun k _ => rfl))
end Go.Ev.G

