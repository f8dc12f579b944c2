/- What the plain functions of the laws compute, for all inputs within the sizes that the theorems name. -/
import Derived.Test.YtdlpejdadikggaaQ9
set_option linter.unusedVariables false
namespace Go.Ev.G
open Go Go.Ev
set_option maxRecDepth 100000

/-! Terms, polynomials, systems. -/
abbrev Tm := Int × Int × Int × Int
def tmGd (t : Tm) : Prop := (-1000 ≤ t.1 ∧ t.1 ≤ 1000) ∧ (0 ≤ t.2.1 ∧ t.2.1 ≤ 4) ∧ (0 ≤ t.2.2.1 ∧ t.2.2.1 ≤ 4) ∧ (0 ≤ t.2.2.2 ∧ t.2.2.2 ≤ 4) ∧ t.2.1 + t.2.2.1 + t.2.2.2 ≤ 4
instance : DecidablePred tmGd := fun x => by unfold tmGd; exact inferInstance

theorem poTerm_eq (t : Tm) : spec_poTerm t = some (decide (tmGd t)) := by
  unfold spec_poTerm
  simp only [l1In_eq, Option.bind_some]
  by_cases h1 : -1000 ≤ t.1 ∧ t.1 ≤ 1000
  · rw [decide_eq_true h1, cond_true]
    by_cases h2 : 0 ≤ t.2.1 ∧ t.2.1 ≤ 4
    · rw [decide_eq_true h2, cond_true]
      by_cases h3 : 0 ≤ t.2.2.1 ∧ t.2.2.1 ≤ 4
      · rw [decide_eq_true h3, cond_true]
        by_cases h4 : 0 ≤ t.2.2.2 ∧ t.2.2.2 ≤ 4
        · rw [decide_eq_true h4, cond_true, w64 (n := t.2.1 + t.2.2.1) (by omega) (by omega), w64 (by omega) (by omega)]
          congr 1
          rw [decide_eq_decide]
          exact ⟨fun h => ⟨h1, h2, h3, h4, h⟩, fun h => h.2.2.2.2⟩
        · rw [decide_eq_false h4, decide_eq_false fun h : tmGd t => h4 h.2.2.2.1]; rfl
      · rw [decide_eq_false h3, decide_eq_false fun h : tmGd t => h3 h.2.2.1]; rfl
    · rw [decide_eq_false h2, decide_eq_false fun h : tmGd t => h2 h.2.1]; rfl
  · rw [decide_eq_false h1, decide_eq_false fun h : tmGd t => h1 h.1]; rfl

theorem hasDegree_eq {t : Tm} (h1 : -1000 ≤ t.1 ∧ t.1 ≤ 1000) : impl_hasDegree t = some (decide (tmGd t)) := by
  unfold impl_hasDegree impl_Term_degree
  simp only [inside_eq, Option.bind_some]
  by_cases h2 : 0 ≤ t.2.1 ∧ t.2.1 ≤ 4
  · rw [decide_eq_true h2, cond_true]
    by_cases h3 : 0 ≤ t.2.2.1 ∧ t.2.2.1 ≤ 4
    · rw [decide_eq_true h3, cond_true]
      by_cases h4 : 0 ≤ t.2.2.2 ∧ t.2.2.2 ≤ 4
      · rw [decide_eq_true h4, cond_true, w64 (n := t.2.1 + t.2.2.1) (by omega) (by omega), w64 (by omega) (by omega)]
        congr 1
        rw [decide_eq_decide]
        exact ⟨fun h => ⟨h1, h2, h3, h4, h⟩, fun h => h.2.2.2.2⟩
      · rw [decide_eq_false h4, decide_eq_false fun h : tmGd t => h4 h.2.2.2.1]; rfl
    · rw [decide_eq_false h3, decide_eq_false fun h : tmGd t => h3 h.2.2.1]; rfl
  · rw [decide_eq_false h2, decide_eq_false fun h : tmGd t => h2 h.2.1]; rfl

/-- the order of terms, by their exponents -/
def lexI (a b : Tm) : Int := if a.2.1 ≠ b.2.1 then cmpI a.2.1 b.2.1 else if a.2.2.1 ≠ b.2.2.1 then cmpI a.2.2.1 b.2.2.1 else cmpI a.2.2.2 b.2.2.2
theorem cmpI_sub (a b : Int) : cmpI (a - b) 0 = cmpI a b := by
  unfold cmpI
  split <;> split <;> (try split) <;> (try split) <;> omega
theorem poOrder_eq {a b : Tm} (ha : tmGd a) (hb : tmGd b) : spec_poOrder a b = some (lexI a b) := by
  have a1 := ha.2
  have b1 := hb.2
  unfold spec_poOrder lexI
  rw [w64 (n := a.2.1 - b.2.1) (by omega) (by omega), w64 (n := a.2.2.1 - b.2.2.1) (by omega) (by omega), w64 (n := a.2.2.2 - b.2.2.2) (by omega) (by omega)]
  simp only [sign_eq, Option.bind_some, cmpI_sub]
  by_cases h1 : a.2.1 = b.2.1
  · rw [if_neg (by simpa using h1), show (a.2.1 != b.2.1) = false by simpa using h1, cond_false]
    by_cases h2 : a.2.2.1 = b.2.2.1
    · rw [if_neg (by simpa using h2), show (a.2.2.1 != b.2.2.1) = false by simpa using h2, cond_false]
    · rw [if_pos h2, show (a.2.2.1 != b.2.2.1) = true by simpa using h2, cond_true]
  · rw [if_pos h1, show (a.2.1 != b.2.1) = true by simpa using h1, cond_true]

theorem cmpC_eq (a b : Int) : cmp_Compare_int a b = some (cmpI a b) := by
  unfold cmp_Compare_int cmp_isNaN_int cmpI
  simp only [bne_self_eq_false, Option.bind_some, cond_false]
  by_cases h : a < b
  · simp [h]
  · by_cases h2 : b < a
    · simp [h, h2]
    · simp [h, h2]

theorem or3_ev (x y z : Int) : Evt (fun k _ => cmp_Or_int k [x, y, z]) (orI x (orI y z)) := by
  refine Evt.eq (f := fun k q => _) ?_ (fun k q => by rw [cmp_Or_int])
  have w1 : IntKind.wrap .i64 (0 + 1) = 1 := by decide
  have w2 : IntKind.wrap .i64 (1 + 1) = 2 := by decide
  have w3 : IntKind.wrap .i64 (2 + 1) = 3 := by decide
  have l3 : Evt (fun k n => cmp_Or_int_L58 k n 0 [x, y, z] 3 3) (.inr (0, ())) := Evt.step (fun k n => cmp_Or_int_L58.eq_2 k _ _ _ _ n) (Evt.cfalse rfl .pure)
  have l2 : Evt (fun k n => cmp_Or_int_L58 k n 0 [x, y, z] 3 2) (if z != 0 then .inl z else .inr (0, ())) := by
    refine Evt.step (fun k n => cmp_Or_int_L58.eq_2 k _ _ _ _ n) (Evt.ctrue rfl (Evt.ctrue rfl (Evt.ctrue rfl ?_)))
    rw [w3]
    cases h : (z != 0) with
    | true => exact Evt.ctrue h .pure
    | false => exact Evt.cfalse h l3
  have l1 : Evt (fun k n => cmp_Or_int_L58 k n 0 [x, y, z] 3 1) (if y != 0 then .inl y else if z != 0 then .inl z else .inr (0, ())) := by
    refine Evt.step (fun k n => cmp_Or_int_L58.eq_2 k _ _ _ _ n) (Evt.ctrue rfl (Evt.ctrue rfl (Evt.ctrue rfl ?_)))
    rw [w2]
    cases h : (y != 0) with
    | true => exact Evt.ctrue h .pure
    | false => exact Evt.cfalse h l2
  have l0 : Evt (fun k n => cmp_Or_int_L58 k n 0 [x, y, z] (([x, y, z] : List Int).length : Int) 0) (if x != 0 then .inl x else if y != 0 then .inl y else if z != 0 then .inl z else .inr (0, ())) := by
    refine Evt.step (fun k n => cmp_Or_int_L58.eq_2 k _ _ _ _ n) (Evt.ctrue rfl (Evt.ctrue rfl (Evt.ctrue rfl ?_)))
    rw [w1]
    cases h : (x != 0) with
    | true => exact Evt.ctrue h .pure
    | false => exact Evt.cfalse h l1
  unfold orI
  cases hx : (x != 0) with
  | true =>
    rw [hx] at l0
    rw [show (x == 0) = false by simpa using hx]
    exact Evt.inl (Evt.diag l0) .pure
  | false =>
    rw [hx] at l0
    rw [show (x == 0) = true by simpa using hx, cond_true]
    cases hy : (y != 0) with
    | true =>
      rw [hy] at l0
      rw [show (y == 0) = false by simpa using hy]
      exact Evt.inl (Evt.diag l0) .pure
    | false =>
      rw [hy] at l0
      rw [show (y == 0) = true by simpa using hy, cond_true]
      cases hz : (z != 0) with
      | true => rw [hz] at l0; exact Evt.inl (Evt.diag l0) .pure
      | false =>
        rw [hz] at l0
        have hz0 : z = 0 := by simpa using hz
        subst hz0
        exact Evt.inr (Evt.diag l0) .pure

theorem cmpI_zero (a b : Int) : cmpI a b = 0 ↔ a = b := by
  unfold cmpI
  split <;> (try split) <;> omega
theorem compareTerms_ev (a b : Tm) : Evt (fun k _ => impl_compareTerms k a b) (lexI a b) := by
  refine Evt.eq (f := fun k q => _) ?_ (fun k q => by rw [impl_compareTerms])
  refine Evt.bind (.const (cmpC_eq _ _)) (Evt.bind (.const (cmpC_eq _ _)) (Evt.bind (.const (cmpC_eq _ _)) (Evt.bind (or3_ev _ _ _) ?_)))
  have : orI (cmpI a.2.1 b.2.1) (orI (cmpI a.2.2.1 b.2.2.1) (cmpI a.2.2.2 b.2.2.2)) = lexI a b := by
    unfold lexI
    by_cases h1 : a.2.1 = b.2.1
    · rw [(cmpI_zero _ _).2 h1, orI_z, if_neg (by simpa using h1)]
      by_cases h2 : a.2.2.1 = b.2.2.1
      · rw [(cmpI_zero _ _).2 h2, orI_z, if_neg (by simpa using h2)]
      · rw [orI_ne (fun h => h2 ((cmpI_zero _ _).1 h)), if_pos h2]
    · rw [orI_ne (fun h => h1 ((cmpI_zero _ _).1 h)), if_pos h1]
  rw [this]
  exact .pure

/-- a polynomial's terms, from one term on -/
def okFrom : Option Tm → List Tm → Bool
  | _, [] => true
  | p, e :: r => (decide (tmGd e) && !(e.1 == 0)) && ((match p with | none => true | some q => decide (lexI q e < 0)) && okFrom (some e) r)
def lastO (d : List Tm) : Option Tm := d.getLast?
def polyV (xs : List Tm) : Bool := okFrom none xs && decide ((xs.length : Int) ≤ 20)

theorem okFrom_gd : ∀ (r : List Tm) (p : Option Tm), okFrom p r = true → ∀ t ∈ r, tmGd t
  | [], _, _ => by simp
  | e :: r, p, h => by
    unfold okFrom at h
    simp only [Bool.and_eq_true, decide_eq_true_eq] at h
    intro t ht
    rcases List.mem_cons.1 ht with rfl | ht
    · exact h.1.1
    · exact okFrom_gd r _ h.2.2 t ht
theorem polyV_gd {xs : List Tm} (h : polyV xs = true) : ∀ t ∈ xs, tmGd t := by
  unfold polyV at h
  rw [Bool.and_eq_true] at h
  exact okFrom_gd xs _ h.1

theorem last_get {d r : List Tm} {e q z : Tm} : (d ++ [q] ++ e :: r).getD (Int.toNat (d.length : Int)) z = q := by simp

theorem poGood_ev {xs : List Tm} (hb : xs.length < lenB) : Evt (fun k _ => spec_poGood k xs) (polyV xs) := by
  refine Evt.eq (f := fun k q => _) ?_ (fun k q => by rw [spec_poGood])
  have key : ∀ (r d : List Tm), d ++ r = xs → (∀ q, lastO d = some q → tmGd q) → Evt (fun k n => spec_poGood_L26 k n xs xs (xs.length : Int) d.length) (if okFrom (lastO d) r then .inr (xs, ()) else .inl false) := by
    intro r
    induction r with
    | nil =>
      intro d h hg
      refine Evt.step (fun k n => spec_poGood_L26.eq_2 k _ _ _ _ n) ?_
      rw [List.append_nil] at h
      subst h
      exact Evt.rng0 .pure
    | cons e r ih =>
      intro d h hg
      refine Evt.step (fun k n => spec_poGood_L26.eq_2 k _ _ _ _ n) ?_
      have ih := ih (d ++ [e]) (by simpa using h)
      rw [← len_next (r := r) (by rw [h]; exact hb)] at ih
      rw [show lastO (d ++ [e]) = some e by simp [lastO]] at ih
      subst h
      refine Evt.ctrue mid_lt (Evt.ctrue mid_ge (Evt.ctrue mid_lt ?_))
      rw [mid_get]
      refine Evt.bind (.const (poTerm_eq e)) ?_
      unfold okFrom
      by_cases h1 : tmGd e
      · simp only [decide_eq_true h1, Bool.true_and]
        refine Evt.cfalse rfl ?_
        have ih := ih (fun q hq => by cases hq; exact h1)
        cases h2 : (e.1 == 0) with
        | true => exact Evt.ctrue rfl .pure
        | false =>
          refine Evt.cfalse rfl ?_
          simp only [Bool.not_false, Bool.true_and]
          rcases List.eq_nil_or_concat d with rfl | ⟨d0, q, rfl⟩
          · exact Evt.cfalse rfl (by simpa [lastO] using ih)
          · simp only [List.concat_eq_append] at hg ih ⊢
            have hq : lastO (d0 ++ [q]) = some q := by simp [lastO]
            have hl : (((d0 ++ [q]).length : Nat) : Int) = (d0.length : Int) + 1 := by simp
            have hlb : d0.length < lenB := by simp at hb; omega
            simp only [lenB] at hlb
            refine Evt.ctrue (by rw [hl]; exact decide_eq_true (by omega)) ?_
            have hw : IntKind.wrap .i64 (((d0 ++ [q]).length : Int) - 1) = (d0.length : Int) := by rw [hl, w64 (by omega) (by omega)]; omega
            rw [hw, last_get]
            refine Evt.ctrue (by simp) (Evt.ctrue (by simp <;> omega) (Evt.bind (.const (poOrder_eq (hg q hq) h1)) ?_))
            simp only [hq]
            by_cases h3 : lexI q e < 0
            · simp only [decide_eq_true h3, Bool.true_and]
              exact Evt.cfalse (decide_eq_false (by omega)) ih
            · simp only [decide_eq_false h3, Bool.false_and]
              exact Evt.ctrue (decide_eq_true (by omega)) .pure
      · simp only [decide_eq_false h1, Bool.false_and]
        exact Evt.ctrue rfl .pure
  have h0 := key xs [] rfl (by intro q hq; cases hq)
  simp only [List.length_nil] at h0
  unfold polyV
  rw [show lastO [] = none from rfl] at h0
  cases hall : okFrom none xs with
  | true => rw [hall] at h0; exact Evt.inr (Evt.diag h0) .pure
  | false => rw [hall] at h0; exact Evt.inl (Evt.diag h0) .pure

theorem isPoly_ev {xs : List Tm} (hb : xs.length < lenB) : Evt (fun k _ => impl_isPoly k xs) (polyV xs) := by
  refine Evt.eq (f := fun k q => _) ?_ (fun k q => by rw [impl_isPoly])
  have key : ∀ (r d : List Tm), d ++ r = xs → Evt (fun k n => impl_isPoly_L26 k n xs xs (xs.length : Int) d.length) (if okFrom (lastO d) r then .inr (xs, ()) else .inl false) := by
    intro r
    induction r with
    | nil =>
      intro d h
      refine Evt.step (fun k n => impl_isPoly_L26.eq_2 k _ _ _ _ n) ?_
      rw [List.append_nil] at h
      subst h
      exact Evt.rng0 .pure
    | cons e r ih =>
      intro d h
      refine Evt.step (fun k n => impl_isPoly_L26.eq_2 k _ _ _ _ n) ?_
      have ih := ih (d ++ [e]) (by simpa using h)
      rw [← len_next (r := r) (by rw [h]; exact hb)] at ih
      rw [show lastO (d ++ [e]) = some e by simp [lastO]] at ih
      subst h
      refine Evt.ctrue mid_lt (Evt.ctrue mid_ge (Evt.ctrue mid_lt ?_))
      rw [mid_get]
      unfold okFrom
      cases h2 : (e.1 == 0) with
      | true =>
        simp only [Bool.not_true, Bool.and_false, Bool.false_and]
        exact Evt.ctrue rfl .pure
      | false =>
      refine Evt.cfalse rfl (Evt.bind (.const (inside_eq _ _ _)) ?_)
      simp only [Bool.not_false, Bool.and_true]
      by_cases h0 : -1000 ≤ e.1 ∧ e.1 ≤ 1000
      · refine Evt.cfalse (by rw [decide_eq_true h0]; rfl) (Evt.bind (.const (hasDegree_eq h0)) ?_)
        by_cases h1 : tmGd e
        · simp only [decide_eq_true h1, Bool.true_and]
          refine Evt.cfalse rfl ?_
          rcases List.eq_nil_or_concat d with rfl | ⟨d0, q, rfl⟩
          · exact Evt.cfalse rfl (by simpa [lastO] using ih)
          · simp only [List.concat_eq_append] at ih ⊢
            have hq : lastO (d0 ++ [q]) = some q := by simp [lastO]
            have hl : (((d0 ++ [q]).length : Nat) : Int) = (d0.length : Int) + 1 := by simp
            have hlb : d0.length < lenB := by simp at hb; omega
            simp only [lenB] at hlb
            refine Evt.ctrue (by rw [hl]; exact decide_eq_true (by omega)) ?_
            have hw : IntKind.wrap .i64 (((d0 ++ [q]).length : Int) - 1) = (d0.length : Int) := by rw [hl, w64 (by omega) (by omega)]; omega
            rw [hw, last_get]
            refine Evt.ctrue (by simp) (Evt.ctrue (by simp <;> omega) (Evt.bind (compareTerms_ev q e) ?_))
            simp only [hq]
            by_cases h3 : lexI q e < 0
            · simp only [decide_eq_true h3, Bool.true_and]
              exact Evt.cfalse (decide_eq_false (by omega)) ih
            · simp only [decide_eq_false h3, Bool.false_and]
              exact Evt.ctrue (decide_eq_true (by omega)) .pure
        · simp only [decide_eq_false h1, Bool.false_and]
          exact Evt.ctrue rfl .pure
      · simp only [decide_eq_false fun h : tmGd e => h0 h.1, Bool.false_and]
        exact Evt.ctrue (by rw [decide_eq_false h0]; rfl) .pure
  have h0 := key xs [] rfl
  simp only [List.length_nil] at h0
  unfold polyV
  rw [show lastO [] = none from rfl] at h0
  cases hall : okFrom none xs with
  | true => rw [hall] at h0; exact Evt.inr (Evt.diag h0) .pure
  | false => rw [hall] at h0; exact Evt.inl (Evt.diag h0) .pure
end Go.Ev.G
