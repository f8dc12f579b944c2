/- What the plain functions of the laws compute, for all inputs within the sizes that the theorems name. -/
import Derived.Test.YtdlpejdadikggaaQ7
set_option linter.unusedVariables false
namespace Go.Ev.G
open Go Go.Ev
set_option maxRecDepth 100000

/-! The rows of a table of intervals, and their sums. -/
def magI (x : (Int × Int) × Int × Int) : Int × Int := if sv (absD x.1) < sv (absD x.2) then absD x.2 else absD x.1
theorem magI_gd {x : (Int × Int) × Int × Int} (h : ivGd x) : gd (magI x) := by
  unfold magI
  split
  · exact absD_gd h.2.1
  · exact absD_gd h.1
def irow (row : List ((Int × Int) × Int × Int)) : Option (Int × Int) := osum (0, 0) (row.map magI)
def below1 (o : Option (Int × Int)) : Bool := decide (sv (o.getD (0, 0)) < sv (1, 0))
def shV (m : List (List ((Int × Int) × Int × Int))) : Bool × Bool := if (m.all fun r => (irow r).isSome) then (m.all fun r => below1 (irow r), true) else (false, false)

theorem tab_all {α : Type} {g : α → Prop} [DecidablePred g] {m : List (List α)} (h : tab g m = true) : ∀ r ∈ m, (r.length = m.length ∧ 1 ≤ m.length ∧ m.length ≤ 3) ∧ ∀ x ∈ r, g x := by
  unfold tab at h
  simp only [Bool.and_eq_true, List.all_eq_true, decide_eq_true_eq] at h
  intro r hr
  exact ⟨⟨(h.2 r hr).1, h.1⟩, (h.2 r hr).2⟩

theorem one_gd : gd (1, 0) := by decide
theorem osum_getD {s : Int × Int} {xs : List (Int × Int)} (hs : gd s) : gd ((osum s xs).getD (0, 0)) := by
  cases h : osum s xs with
  | none => decide
  | some t => exact osum_gd _ _ _ hs h

theorem mxShrinking_ev {m : List (List ((Int × Int) × Int × Int))} (hb : m.length < 274877906944) (hm : ∀ r ∈ m, r.length < lenB) (hg : ∀ r ∈ m, ∀ x ∈ r, ivGd x) : Evt (fun k _ => spec_mxShrinking k m) (shV m) := by
  refine Evt.eq (f := fun k q => _) ?_ (fun k q => by rw [spec_mxShrinking])
  have inner : ∀ (x4 : Bool) (x13 : List (List ((Int × Int) × Int × Int))) (x14 x15 : Int) (xs : List ((Int × Int) × Int × Int)), xs.length < lenB → (∀ x ∈ xs, ivGd x) → ∀ (r d : List ((Int × Int) × Int × Int)) (s : Int × Int), gd s → d ++ r = xs →
      Evt (fun k n => spec_mxShrinking_L59802 k n x4 s x13 x14 x15 xs (xs.length : Int) d.length) (match osum s (r.map magI) with | some t => .inr (x4, t, x13, x14, x15, ()) | none => .inl (false, false)) := by
    intro x4 x13 x14 x15 xs hb hxs r
    induction r with
    | nil =>
      intro d s hs h
      refine Evt.step (fun k n => spec_mxShrinking_L59802.eq_2 k _ _ _ _ _ _ _ _ n) ?_
      rw [List.append_nil] at h
      subst h
      exact Evt.rng0 .pure
    | cons e r ih =>
      intro d s hs h
      refine Evt.step (fun k n => spec_mxShrinking_L59802.eq_2 k _ _ _ _ _ _ _ _ n) ?_
      have he : ivGd e := hxs e (by rw [← h]; simp)
      have ih := ih (d ++ [e]) (sumD s (magI e)).1 (sumD_gd _ _) (by simpa using h)
      rw [← len_next (r := r) (by rw [h]; exact hb)] at ih
      subst h
      refine Evt.ctrue mid_lt (Evt.ctrue mid_ge (Evt.ctrue mid_lt ?_))
      rw [mid_get]
      refine Evt.bind (.const (mxAbs_eq he.1)) ?_
      refine Evt.inr (y := (x4, s, magI e, x13, x14, x15, d ++ e :: r, ((d ++ e :: r).length : Int), (d.length : Int), ())) ?_ ?_
      · refine Evt.bind (.const (mxAbs_eq he.2.1)) (Evt.bind (dyCmp_ev (absD_gd he.1) (absD_gd he.2.1)) ?_)
        rw [cmpI_lt]
        unfold magI
        by_cases hh : sv (absD e.1) < sv (absD e.2)
        · rw [if_pos hh]
          exact Evt.ctrue (decide_eq_true hh) (Evt.bind (.const (mxAbs_eq he.2.1)) .pure)
        · rw [if_neg hh]
          exact Evt.cfalse (decide_eq_false hh) .pure
      · refine Evt.bind (dyAdd_ev hs (magI_gd he)) ?_
        rw [List.map_cons, osum]
        cases hh : (sumD s (magI e)).2 with
        | true => exact Evt.cfalse rfl ih
        | false => exact Evt.ctrue rfl .pure
  have key : ∀ (r d : List (List ((Int × Int) × Int × Int))), d ++ r = m → Evt (fun k n => spec_mxShrinking_L58 k n (d.all fun r => below1 (irow r)) m (m.length : Int) d.length) (if (r.all fun r => (irow r).isSome) then .inr (m.all fun r => below1 (irow r), ()) else .inl (false, false)) := by
    intro r
    induction r with
    | nil =>
      intro d h
      refine Evt.step (fun k n => spec_mxShrinking_L58.eq_2 k _ _ _ _ n) ?_
      rw [List.append_nil] at h
      subst h
      exact Evt.rng0 .pure
    | cons e r ih =>
      intro d h
      refine Evt.step (fun k n => spec_mxShrinking_L58.eq_2 k _ _ _ _ n) ?_
      have hme : e ∈ m := by rw [← h]; simp
      have ih := ih (d ++ [e]) (by simpa using h)
      rw [← len_next (r := r) (by rw [h]; simp only [lenB]; omega)] at ih
      have hi := inner (d.all fun r => below1 (irow r)) m (m.length : Int) (d.length : Int) e (hm e hme) (hg e hme) e [] (0, 0) (by decide) rfl
      simp only [List.length_nil] at hi
      generalize hall : (m.all fun r => below1 (irow r)) = all at ih ⊢
      subst h
      refine Evt.ctrue mid_lt (Evt.ctrue mid_ge (Evt.ctrue mid_lt ?_))
      rw [mid_get]
      change Evt _ (if ((irow e).isSome && r.all fun r => (irow r).isSome) then _ else _)
      have hd : ((d ++ [e]).all fun r => below1 (irow r)) = ((d.all fun r => below1 (irow r)) && below1 (irow e)) := by simp
      rw [hd] at ih
      cases ho : irow e with
      | none =>
        rw [show osum (0, 0) (e.map magI) = none from ho] at hi
        exact Evt.inl (Evt.diag hi) .pure
      | some t =>
        rw [show osum (0, 0) (e.map magI) = some t from ho] at hi
        refine Evt.inr (Evt.diag hi) ?_
        simp only [Option.isSome_some, Bool.true_and]
        rw [ho] at ih
        cases hb : (d.all fun r => below1 (irow r)) with
        | true =>
          rw [hb, Bool.true_and] at ih
          refine Evt.ctrue rfl (Evt.bind (.const rfl) (Evt.bind (dyCmp_ev (osum_gd _ _ _ (by decide) ho) one_gd) ?_))
          rw [cmpI_lt]
          exact ih
        | false =>
          rw [hb, Bool.false_and] at ih
          exact Evt.cfalse rfl ih
  have h0 := key m [] rfl
  simp only [List.length_nil, List.all_nil] at h0
  unfold shV
  cases hall : m.all fun r => (irow r).isSome with
  | true => rw [hall] at h0; exact Evt.inr (Evt.diag h0) .pure
  | false => rw [hall] at h0; exact Evt.inl (Evt.diag h0) .pure

theorem greater_ev {a b : Int × Int} (ha : gd a) (hb : gd b) : Evt (fun k _ => impl_greater k a b) (if sv a < sv b then b else a) := by
  refine Evt.eq (f := fun k q => _) ?_ (fun k q => by rw [impl_greater])
  refine Evt.bind (compareD_ev hb ha) ?_
  rw [cmpI_gt]
  by_cases h : sv a < sv b
  · rw [if_pos h]; exact Evt.ctrue (decide_eq_true h) .pure
  · rw [if_neg h]; exact Evt.cfalse (decide_eq_false h) .pure

theorem impl_isShrinking_ev {m : List (List ((Int × Int) × Int × Int))} (ht : tab ivGd m = true) : Evt (fun k _ => impl_isShrinking k m) (shV m) := by
  refine Evt.eq (f := fun k q => _) ?_ (fun k q => by rw [impl_isShrinking])
  have hg := tab_all ht
  have hb : m.length < lenB := by
    unfold tab at ht
    simp only [Bool.and_eq_true, decide_eq_true_eq] at ht
    have := ht.1.2
    simp only [lenB]; omega
  have inner : ∀ (x4 x5 : Bool) (x13 : List (List ((Int × Int) × Int × Int))) (x14 x15 : Int) (xs : List ((Int × Int) × Int × Int)), xs.length ≤ 3 → (∀ x ∈ xs, ivGd x) → ∀ (r d : List ((Int × Int) × Int × Int)), d ++ r = xs →
      Evt (fun k n => impl_isShrinking_L125338 k n x4 x5 (d.map magI) x13 x14 x15 xs (xs.length : Int) d.length) (.inr (x4, x5, xs.map magI, x13, x14, x15, ())) := by
    intro x4 x5 x13 x14 x15 xs hb hxs r
    induction r with
    | nil =>
      intro d h
      refine Evt.step (fun k n => impl_isShrinking_L125338.eq_2 k _ _ _ _ _ _ _ _ _ n) ?_
      rw [List.append_nil] at h
      subst h
      exact Evt.rng0 .pure
    | cons e r ih =>
      intro d h
      refine Evt.step (fun k n => impl_isShrinking_L125338.eq_2 k _ _ _ _ _ _ _ _ _ n) ?_
      have he : ivGd e := hxs e (by rw [← h]; simp)
      have ih := ih (d ++ [e]) (by simpa using h)
      rw [← len_next (r := r) (by rw [h]; simp only [lenB]; omega)] at ih
      have hl := congrArg List.length h
      simp at hl
      subst h
      refine Evt.ctrue mid_lt (Evt.ctrue mid_ge (Evt.ctrue mid_lt ?_))
      rw [mid_get]
      refine Evt.bind (.const (minus_eq he.1)) (Evt.bind (greater_abs_ev he.1) (Evt.bind (.const (minus_eq he.2.1)) (Evt.bind (greater_abs_ev he.2.1) (Evt.bind (greater_ev (absD_gd he.1) (absD_gd he.2.1)) (Evt.ctrue (by simp; omega) ?_)))))
      rw [List.map_append] at ih
      exact ih
  have key : ∀ (r d : List (List ((Int × Int) × Int × Int))) (b s : Bool), d ++ r = m → b = (d.all fun r => (irow r).isSome) → (b = true → s = d.all fun r => below1 (irow r)) →
      ∃ s', ((m.all fun r => (irow r).isSome) = true → s' = m.all fun r => below1 (irow r)) ∧ Evt (fun k n => impl_isShrinking_L122 k n b s m (m.length : Int) d.length) (.inr (m.all fun r => (irow r).isSome, s', ())) := by
    intro r
    induction r with
    | nil =>
      intro d b s h hbd ho
      rw [List.append_nil] at h
      subst h
      refine ⟨s, fun hh => ho (by rw [hbd, hh]), ?_⟩
      refine Evt.step (fun k n => impl_isShrinking_L122.eq_2 k _ _ _ _ _ n) ?_
      rw [← hbd]
      exact Evt.rng0 .pure
    | cons e r ih =>
      intro d b s h hbd ho
      have hme : e ∈ m := by rw [← h]; simp
      have hge := hg e hme
      obtain ⟨x, xs, rfl⟩ : ∃ x xs, e = x :: xs := by
        cases e with
        | nil => have := hge.1; simp at this; omega
        | cons x xs => exact ⟨x, xs, rfl⟩
      have hxg : ivGd x := hge.2 x (by simp)
      have hfs : irow (x :: xs) = osum (magI x) (xs.map magI) := by
        unfold irow
        rw [List.map_cons, osum, sumD_zero (magI_gd hxg)]
        rfl
      have hb2 : (fsum b (magI x) (xs.map magI)).2 = ((d ++ [x :: xs]).all fun r => (irow r).isSome) := by
        rw [List.all_append, ← hbd]
        simp only [List.all_cons, List.all_nil, Bool.and_true, hfs]
        cases b with
        | false => rw [fsum_false]; rfl
        | true => rw [fsum_true]; cases osum (magI x) (xs.map magI) <;> rfl
      obtain ⟨s', h1, h2⟩ := ih (d ++ [x :: xs]) (fsum b (magI x) (xs.map magI)).2 (if sv (fsum b (magI x) (xs.map magI)).1 < sv (1, 0) then s else false) (by simpa using h) hb2 (by
        intro hh
        cases b with
        | false => rw [fsum_false] at hh; cases hh
        | true =>
          rw [List.all_append, ← ho rfl]
          simp only [List.all_cons, List.all_nil, Bool.and_true, hfs]
          rw [fsum_true] at hh ⊢
          cases hos : osum (magI x) (xs.map magI) with
          | none => rw [hos] at hh; cases hh
          | some t =>
            simp only [below1, Option.getD_some]
            split
            · rename_i h5; simp [h5]
            · rename_i h5; simp [h5])
      refine ⟨s', h1, Evt.step (fun k n => impl_isShrinking_L122.eq_2 k _ _ _ _ _ n) ?_⟩
      have hi := inner b s m (m.length : Int) (d.length : Int) (x :: xs) (by have := hge.1; omega) hge.2 (x :: xs) [] rfl
      simp only [List.length_nil, List.map_nil] at hi
      rw [← len_next (r := r) (by rw [h]; exact hb)] at h2
      generalize hres : (Sum.inr ((m.all fun r => (irow r).isSome), s', ()) : (Bool × Bool) ⊕ (Bool × Bool × Unit)) = res at h2 ⊢
      subst h
      refine Evt.ctrue mid_lt (Evt.ctrue mid_ge (Evt.ctrue mid_lt ?_))
      rw [mid_get]
      refine Evt.inr (Evt.diag hi) (Evt.bind (total_ev (magI_gd hxg) (by
        intro y hy
        obtain ⟨z, hz, rfl⟩ := List.mem_map.1 hy
        exact magI_gd (hge.2 z (by simp [hz]))) (by have := hge.1; simp only [List.length_cons] at this; simp only [List.length_map, lenB]; omega)) (Evt.bind (.const rfl) (Evt.bind (compareD_ev (fsum_gd _ _ _ (magI_gd hxg)) one_gd) ?_)))
      rw [cmpI_lt]
      by_cases h5 : sv (fsum b (magI x) (xs.map magI)).1 < sv (1, 0)
      · rw [if_pos h5] at h2
        exact Evt.ctrue (decide_eq_true h5) h2
      · rw [if_neg h5] at h2
        exact Evt.cfalse (decide_eq_false h5) h2
  obtain ⟨s', h1, h2⟩ := key m [] true true rfl rfl (fun _ => rfl)
  simp only [List.length_nil] at h2
  refine Evt.inr (Evt.diag h2) ?_
  unfold shV
  cases hall : m.all fun r => (irow r).isSome with
  | true => rw [h1 hall]; exact Evt.ctrue rfl .pure
  | false => exact Evt.cfalse rfl .pure

def isV (m : List (List ((Int × Int) × Int × Int))) : Bool × Bool := if tab ivGd m then shV m else (false, false)
theorem intactV_ev {a : List (List ((Int × Int) × Int × Int))} (h : Sized a) : Evt (fun k _ => laws_intactIntervalSS k (toV (fun x => toV id fV x false) ([fV], []) a false) (toV (fun x => toV id fV x false) ([fV], []) a false)) true := by
  refine intactIntervalSS_ev (room_toV h.len) ?_ ?_
  · intro y hy
    simp [toV] at hy
    obtain ⟨x, hx, rfl⟩ := hy
    exact ⟨by simp, h.row x hx⟩
  · intro y hy
    simp [toV] at hy
    rw [hy.2]; simp [lenB]

theorem isShrinking_law (a : List (List ((Int × Int) × Int × Int))) (ha : a.length ≤ maxLen) (hm : ∀ x ∈ a, x.length ≤ maxLen) : ∃ k, laws_FnExactIsShrinking k a = some true := by
  refine Evt.get (Evt.eq (f := fun k q => _) ?_ (fun k q => by rw [laws_FnExactIsShrinking]))
  refine Evt.bind (szIntervalSS_ev (a := 1000000) ha hm (by omega)) ?_
  by_cases hz : a.length + (a.map List.length).sum ≤ 1000000
  · rw [if_pos hz]
    have hs : Sized a := hz
    refine Evt.cfalse (by simp <;> omega) ?_
    have hb : a.length < 274877906944 := by have := hs.len; omega
    have hr : ∀ r ∈ a, r.length < lenB := fun r hr => by have := hs.row r hr; simp only [lenB]; omega
    have spec : Evt (fun k _ => spec_IsShrinking k a) (isV a) := by
      refine Evt.eq (f := fun k q => _) ?_ (fun k q => by rw [spec_IsShrinking])
      refine Evt.bind (mxFits_ev hb hr) ?_
      unfold isV
      cases ht : tab ivGd a with
      | false => exact Evt.ctrue rfl .pure
      | true => exact Evt.cfalse rfl (Evt.bind (mxShrinking_ev hb hr (fun r hr => (tab_all ht r hr).2)) .pure)
    have impl : Evt (fun k _ => impl_IsShrinking k a) (isV a) := by
      refine Evt.eq (f := fun k q => _) ?_ (fun k q => by rw [impl_IsShrinking])
      refine Evt.bind (isIntervalTable_ev (by simp only [lenB]; omega) hr) ?_
      unfold isV
      cases ht : tab ivGd a with
      | false => exact Evt.ctrue rfl .pure
      | true => exact Evt.cfalse rfl (Evt.bind (impl_isShrinking_ev ht) .pure)
    refine Evt.bind (toIntervalSS_ev hs.len hs.row) ?_
    simp only [toV_rows]
    refine Evt.bind spec (Evt.bind (toIntervalSS_ev hs.len hs.row) ?_)
    simp only [toV_rows]
    refine Evt.bind impl (Evt.cfalse (by simp) (Evt.cfalse (by simp) (Evt.bind (toIntervalSS_ev hs.len hs.row) (Evt.bind (intactV_ev hs) (Evt.cfalse rfl (Evt.bind (toIntervalSS_ev hs.len hs.row) ?_))))))
    simp only [toV_rows]
    exact Evt.bind impl (Evt.cfalse (by simp) (Evt.cfalse (by simp) .pure))
  · rw [if_neg hz]
    exact Evt.ctrue rfl .pure
abbrev tInterval : Ty := .pair tDyadic tDyadic
theorem isShrinking_row (a : List (List ((Int × Int) × Int × Int))) (h : WfT (.sl (.sl tInterval)) a) : ∃ k, laws_FnExactIsShrinking k a = some true := isShrinking_law a h.1 (fun x hx => (h.2 x hx).1)
end Go.Ev.G
