/- What the plain functions of the laws compute, for all inputs within the sizes that the theorems name. -/
import Derived.Test.YtdlpejdadikggaaQ6
set_option linter.unusedVariables false
namespace Go.Ev.G
open Go Go.Ev
set_option maxRecDepth 100000

/-! Intervals, and their tables. -/
def ivGd (x : (Int × Int) × Int × Int) : Prop := gd x.1 ∧ gd x.2 ∧ sv x.1 ≤ sv x.2
instance : DecidablePred ivGd := fun x => by unfold ivGd; exact inferInstance
theorem cmpI_le (a b : Int) : decide (cmpI a b ≤ 0) = decide (a ≤ b) := by
  unfold cmpI
  rw [decide_eq_decide]
  split <;> (try split) <;> omega
theorem cmpI_lt (a b : Int) : decide (cmpI a b < 0) = decide (a < b) := by
  unfold cmpI
  rw [decide_eq_decide]
  split <;> (try split) <;> omega
theorem cmpI_gt (a b : Int) : decide (cmpI a b > 0) = decide (b < a) := by
  unfold cmpI
  rw [decide_eq_decide]
  split <;> (try split) <;> omega

theorem ivGood_ev (x : (Int × Int) × Int × Int) : Evt (fun k _ => spec_ivGood k x) (decide (ivGd x)) := by
  refine Evt.eq (f := fun k q => _) ?_ (fun k q => by rw [spec_ivGood])
  refine Evt.bind (.const (dyGood_eq _)) ?_
  by_cases h1 : gd x.1
  · refine Evt.ctrue (by simp [h1]) (Evt.bind (.const (dyGood_eq _)) ?_)
    by_cases h2 : gd x.2
    · refine Evt.ctrue (by simp [h2]) (Evt.bind (dyCmp_ev h1 h2) (.const ?_))
      rw [cmpI_le]
      simp [ivGd, h1, h2]
    · refine Evt.cfalse (by simp [h2]) (.const ?_)
      simp [ivGd, h2]
  · refine Evt.cfalse (by simp [h1]) (.const ?_)
    simp [ivGd, h1]
theorem isInterval_ev (x : (Int × Int) × Int × Int) : Evt (fun k _ => impl_isInterval k x) (decide (ivGd x)) := by
  refine Evt.eq (f := fun k q => _) ?_ (fun k q => by rw [impl_isInterval])
  refine Evt.bind (.const (isDyadic_eq _)) ?_
  by_cases h1 : gd x.1
  · refine Evt.ctrue (by simp [h1]) (Evt.bind (.const (isDyadic_eq _)) ?_)
    by_cases h2 : gd x.2
    · refine Evt.ctrue (by simp [h2]) (Evt.bind (compareD_ev h1 h2) (.const ?_))
      rw [cmpI_le]
      simp [ivGd, h1, h2]
    · refine Evt.cfalse (by simp [h2]) (.const ?_)
      simp [ivGd, h2]
  · refine Evt.cfalse (by simp [h1]) (.const ?_)
    simp [ivGd, h1]
theorem isIntervalTable1_ev (x : (Int × Int) × Int × Int) : Evt (fun k _ => impl_isIntervalTable_1 k x) (!decide (ivGd x)) :=
  Evt.eq (Evt.bind (isInterval_ev x) .pure) (fun k q => by rw [impl_isIntervalTable_1])

theorem contains2_ev {xs : List ((Int × Int) × Int × Int)} (hb : xs.length < lenB) : Evt (fun k _ => slices_ContainsFunc_Interval_Interval_impl_isIntervalTable_1 k xs ()) (xs.any fun x => !decide (ivGd x)) := by
  refine Evt.eq (f := fun k q => _) ?_ (fun k q => by rw [slices_ContainsFunc_Interval_Interval_impl_isIntervalTable_1])
  have h := index_all (d0 := ((0, 0), 0, 0)) (L := fun k n i => slices_IndexFunc_Interval_Interval_impl_isIntervalTable_1_L26 k n xs () (xs.length : Int) i) (xs := xs) (p := fun k x => impl_isIntervalTable_1 k x) (P := fun x => !decide (ivGd x)) (fun x _ => isIntervalTable1_ev x) (fun _ _ _ => rfl) hb
  rw [← findIdx?_any]
  have h2 : Evt (fun k _ => slices_IndexFunc_Interval_Interval_impl_isIntervalTable_1 k xs ()) (match xs.findIdx? (fun x => !decide (ivGd x)) with | some j => (j : Int) | none => -1) := by
    refine Evt.eq (f := fun k q => _) ?_ (fun k q => by rw [slices_IndexFunc_Interval_Interval_impl_isIntervalTable_1])
    cases hf : xs.findIdx? (fun x => !decide (ivGd x)) with
    | none => rw [hf] at h; exact Evt.inr (Evt.diag h) .pure
    | some j => rw [hf] at h; exact Evt.inl (Evt.diag h) .pure
  refine Evt.bind h2 (.const ?_)
  cases hf : xs.findIdx? (fun x => !decide (ivGd x)) with
  | none => rfl
  | some j => simp

theorem isIntervalTable_ev {m : List (List ((Int × Int) × Int × Int))} (hb : m.length < lenB) (hm : ∀ r ∈ m, r.length < lenB) : Evt (fun k _ => impl_isIntervalTable k m) (tab ivGd m) := by
  refine Evt.eq (f := fun k q => _) ?_ (fun k q => by rw [impl_isIntervalTable])
  have key : ∀ (r d : List (List ((Int × Int) × Int × Int))), d ++ r = m → Evt (fun k n => impl_isIntervalTable_L26 k n m m (m.length : Int) d.length) (if (r.all fun row => decide (row.length = m.length) && row.all fun x => decide (ivGd x)) then .inr (m, ()) else .inl false) := by
    intro r
    induction r with
    | nil =>
      intro d h
      refine Evt.step (fun k n => impl_isIntervalTable_L26.eq_2 k _ _ _ _ n) ?_
      rw [List.append_nil] at h
      subst h
      exact Evt.rng0 .pure
    | cons e r ih =>
      intro d h
      refine Evt.step (fun k n => impl_isIntervalTable_L26.eq_2 k _ _ _ _ n) ?_
      have ih := ih (d ++ [e]) (by simpa using h)
      rw [← len_next (r := r) (by rw [h]; exact hb)] at ih
      subst h
      refine Evt.rng (F := fun k n x => (bif ((x.length : Int) != ((d ++ e :: r).length : Int)) then some (Sum.inl false) else (Option.bind (slices_ContainsFunc_Interval_Interval_impl_isIntervalTable_1 k x ()) fun r1 => (bif r1 then some (Sum.inl false) else (impl_isIntervalTable_L26 k n (d ++ e :: r) (d ++ e :: r) ((d ++ e :: r).length : Int) (IntKind.wrap .i64 ((d.length : Int) + 1))))))) ?_
      by_cases h1 : e.length = (d ++ e :: r).length
      · refine Evt.cfalse (by rw [h1]; simp) (Evt.bind (contains2_ev (hm e (by simp))) ?_)
        cases h2 : e.any fun x => !decide (ivGd x) with
        | true =>
          refine Evt.ctrue rfl ?_
          have : (e.all fun x => decide (ivGd x)) = false := by
            rw [List.any_eq_not_all_not] at h2
            simpa using h2
          simp only [List.all_cons, this, Bool.and_false, Bool.false_and]
          exact .pure
        | false =>
          refine Evt.cfalse rfl ?_
          have : (e.all fun x => decide (ivGd x)) = true := by
            rw [List.any_eq_not_all_not] at h2
            simpa using h2
          simp only [List.all_cons, this, h1, decide_true, Bool.true_and]
          exact ih
      · refine Evt.ctrue (by rw [bne_iff_ne]; omega) ?_
        simp only [List.all_cons, h1, decide_false, Bool.false_and]
        exact .pure
  have h0 := key m [] rfl
  simp only [List.length_nil] at h0
  unfold tab
  cases hall : (m.all fun row => decide (row.length = m.length) && row.all fun x => decide (ivGd x)) with
  | true =>
    rw [hall] at h0
    refine Evt.inr (Evt.diag h0) (Evt.bind (.const (inside_eq _ _ _)) (.const ?_))
    congr 1
    rw [Bool.and_true]
    simp only [decide_eq_decide]
    omega
  | false =>
    rw [hall] at h0
    refine Evt.inl (Evt.diag h0) (.const ?_)
    rw [Bool.and_false]

/-- rows whose numbers are looked at one after the other, and their lengths kept -/
theorem mxFits_ev {m : List (List ((Int × Int) × Int × Int))} (hb : m.length < 274877906944) (hm : ∀ r ∈ m, r.length < lenB) : Evt (fun k _ => spec_mxFits k m) (tab ivGd m) := by
  refine Evt.eq (f := fun k q => _) ?_ (fun k q => by rw [spec_mxFits])
  have inner : ∀ (x0 : List (List ((Int × Int) × Int × Int))) (x3 : List Int) (x5 : List ((Int × Int) × Int × Int)) (x8 : List (List ((Int × Int) × Int × Int))) (x9 x10 : Int) (x14 : List ((Int × Int) × Int × Int)), x14.length < lenB → ∀ (r d : List ((Int × Int) × Int × Int)), d ++ r = x14 →
      Evt (fun k n => spec_mxFits_L29898 k n x0 x3 x5 x8 x9 x10 x14 (x14.length : Int) d.length) (if (r.all fun x => decide (ivGd x)) then .inr (x0, x3, x5, x8, x9, x10, ()) else .inl false) := by
    intro x0 x3 x5 x8 x9 x10 x14 hb r
    induction r with
    | nil =>
      intro d h
      refine Evt.step (fun k n => spec_mxFits_L29898.eq_2 k _ _ _ _ _ _ _ _ _ n) ?_
      rw [List.append_nil] at h
      subst h
      exact Evt.rng0 .pure
    | cons e r ih =>
      intro d h
      refine Evt.step (fun k n => spec_mxFits_L29898.eq_2 k _ _ _ _ _ _ _ _ _ n) ?_
      have ih := ih (d ++ [e]) (by simpa using h)
      rw [← len_next (r := r) (by rw [h]; exact hb)] at ih
      subst h
      refine Evt.rng (F := fun k n x => (Option.bind (spec_ivGood k x) fun r1 => (bif (!r1) then some (Sum.inl false) else (spec_mxFits_L29898 k n x0 x3 x5 x8 x9 x10 (d ++ e :: r) ((d ++ e :: r).length : Int) (IntKind.wrap .i64 ((d.length : Int) + 1)))))) ?_
      refine Evt.bind (ivGood_ev _) ?_
      by_cases h1 : ivGd e
      · refine Evt.cfalse (by simp [h1]) ?_
        simp only [List.all_cons, h1, decide_true, Bool.true_and]
        exact ih
      · refine Evt.ctrue (by simp [h1]) ?_
        simp only [List.all_cons, h1, decide_false, Bool.false_and]
        exact .pure
  have key : ∀ (r d : List (List ((Int × Int) × Int × Int))), d ++ r = m → Evt (fun k n => spec_mxFits_L58 k n m (d.map fun row => (row.length : Int)) m (m.length : Int) d.length) (if (r.all fun row => row.all fun x => decide (ivGd x)) then .inr (m, m.map fun row => (row.length : Int), ()) else .inl false) := by
    intro r
    induction r with
    | nil =>
      intro d h
      refine Evt.step (fun k n => spec_mxFits_L58.eq_2 k _ _ _ _ _ n) ?_
      rw [List.append_nil] at h
      subst h
      exact Evt.rng0 .pure
    | cons e r ih =>
      intro d h
      refine Evt.step (fun k n => spec_mxFits_L58.eq_2 k _ _ _ _ _ n) ?_
      have ih := ih (d ++ [e]) (by simpa using h)
      have hl := congrArg List.length h
      simp at hl
      rw [← len_next (r := r) (by rw [h]; simp only [lenB]; omega)] at ih
      have hme := hm e (by rw [← h]; simp)
      subst h
      refine Evt.rng (F := fun k n x => (both (R := Bool) (P := (List (List ((Int × Int) × Int × Int))) × (List Int) × (List ((Int × Int) × Int × Int)) × (List (List ((Int × Int) × Int × Int))) × Int × Int × Unit) (spec_mxFits_L29898 k k (d ++ e :: r) (d.map fun row => (row.length : Int)) x (d ++ e :: r) ((d ++ e :: r).length : Int) (d.length : Int) x (x.length : Int) 0) (fun q4 => some (Sum.inl q4)) (fun y3 => (bif (decide (y3.2.1.length + ([(y3.2.2.1.length : Int)] : List Int).length < 274877906944)) then (spec_mxFits_L58 k n y3.1 (y3.2.1 ++ ([(y3.2.2.1.length : Int)] : List Int)) y3.2.2.2.1 y3.2.2.2.2.1 (IntKind.wrap .i64 (y3.2.2.2.2.2.1 + 1))) else none)))) ?_
      have hi := inner (d ++ e :: r) (d.map fun row => (row.length : Int)) e (d ++ e :: r) ((d ++ e :: r).length : Int) (d.length : Int) e hme e [] rfl
      simp only [List.length_nil] at hi
      cases h1 : e.all fun x => decide (ivGd x) with
      | true =>
        rw [h1] at hi
        refine Evt.inr (Evt.diag hi) (Evt.ctrue (by simp; omega) ?_)
        simp only [List.all_cons, h1, Bool.true_and]
        simpa using ih
      | false =>
        rw [h1] at hi
        refine Evt.inl (Evt.diag hi) ?_
        simp only [List.all_cons, h1, Bool.false_and]
        exact .pure
  have h0 := key m [] rfl
  simp only [List.length_nil, List.map_nil] at h0
  have ht : tab ivGd m = ((m.all fun row => row.all fun x => decide (ivGd x)) && (decide (1 ≤ (m.length : Int) ∧ (m.length : Int) ≤ 3) && (m.map fun row => (row.length : Int)).all fun x => decide ((m.length : Int) ≤ x ∧ x ≤ (m.length : Int)))) := by
    unfold tab
    rw [Bool.eq_iff_iff]
    simp only [Bool.and_eq_true, List.all_eq_true, decide_eq_true_eq, List.mem_map, forall_exists_index, and_imp]
    constructor
    · rintro ⟨⟨h1, h2⟩, h3⟩
      refine ⟨fun r hr => (h3 r hr).2, ⟨by omega, by omega⟩, ?_⟩
      rintro x r hr rfl
      have := (h3 r hr).1
      omega
    · rintro ⟨h1, ⟨h2, h3⟩, h4⟩
      refine ⟨⟨by omega, by omega⟩, fun r hr => ⟨?_, h1 r hr⟩⟩
      have := h4 _ r hr rfl
      omega
  rw [ht]
  cases hall : (m.all fun row => row.all fun x => decide (ivGd x)) with
  | true =>
    rw [hall] at h0
    exact Evt.inr (Evt.diag h0) (Evt.bind (square_ev (by simp only [List.length_map, lenB]; omega)) .pure)
  | false =>
    rw [hall] at h0
    exact Evt.inl (Evt.diag h0) .pure
end Go.Ev.G
