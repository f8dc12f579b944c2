/- What the plain functions of the laws compute, for all inputs within the sizes that the theorems name. -/
import Derived.Test.YtdlpejdadikggaaQ4
set_option linter.unusedVariables false
namespace Go.Ev.G
open Go Go.Ev
set_option maxRecDepth 100000

theorem mkD_false {n : Int} {k : Nat} (h : (mkD n k).2 = false) : (mkD n k).1 = (0, 0) := by
  unfold mkD at h ⊢
  split at h
  · cases h
  · rename_i h2; rw [if_neg h2]

/-- a sum that is held: once a sum fails, none is -/
def fsum : Bool → (Int × Int) → List (Int × Int) → (Int × Int) × Bool
  | b, s, [] => (s, b)
  | true, s, x :: xs => fsum (sumD s x).2 (sumD s x).1 xs
  | false, _, _ :: xs => fsum false (0, 0) xs
def osum : (Int × Int) → List (Int × Int) → Option (Int × Int)
  | s, [] => some s
  | s, x :: xs => if (sumD s x).2 then osum (sumD s x).1 xs else none
theorem fsum_false : ∀ (xs : List (Int × Int)) (s : Int × Int), (fsum false s xs).2 = false
  | [], _ => rfl
  | _ :: xs, _ => by rw [fsum]; exact fsum_false xs _
theorem fsum_false0 : ∀ (xs : List (Int × Int)), fsum false (0, 0) xs = ((0, 0), false)
  | [] => rfl
  | _ :: xs => by rw [fsum]; exact fsum_false0 xs
theorem fsum_true : ∀ (xs : List (Int × Int)) (s : Int × Int), fsum true s xs = match osum s xs with | some t => (t, true) | none => ((0, 0), false)
  | [], _ => rfl
  | x :: xs, s => by
    rw [fsum, osum]
    cases h : (sumD s x).2 with
    | true => rw [if_pos rfl]; exact fsum_true xs _
    | false => rw [if_neg (by simp), show (sumD s x).1 = (0, 0) from mkD_false h]; exact fsum_false0 xs
theorem fsum_gd : ∀ (xs : List (Int × Int)) (b : Bool) (s : Int × Int), gd s → gd (fsum b s xs).1
  | [], _, _, h => h
  | _ :: xs, true, _, _ => by rw [fsum]; exact fsum_gd xs _ _ (sumD_gd _ _)
  | _ :: xs, false, _, _ => by rw [fsum]; exact fsum_gd xs _ _ (by decide)
theorem osum_gd : ∀ (xs : List (Int × Int)) (s t : Int × Int), gd s → osum s xs = some t → gd t
  | [], s, t, h, e => by cases e; exact h
  | x :: xs, s, t, h, e => by
    rw [osum] at e
    split at e
    · exact osum_gd xs _ t (sumD_gd _ _) e
    · cases e

theorem reckoner_sum_ev {b : Bool} {s x : Int × Int} (hs : gd s) (hx : gd x) : Evt (fun k _ => impl_reckoner_sum k b s x) (if b then sumD s x else ((0, 0), false)) := by
  refine Evt.eq (f := fun k q => _) ?_ (fun k q => by rw [impl_reckoner_sum])
  refine Evt.bind (sumOf_ev hs hx) (.const ?_)
  unfold impl_reckoner_keep
  cases b with
  | true =>
    cases h : (sumD s x).2 with
    | true => simp [h, Prod.ext_iff]
    | false =>
      have h3 : sumD s x = ((0, 0), false) := Prod.ext (mkD_false h) h
      rw [h3]; simp
  | false => rfl

theorem fsum_step (b : Bool) (s x : Int × Int) (xs : List (Int × Int)) : fsum b s (x :: xs) = fsum (if b then sumD s x else ((0, 0), false)).2 (if b then sumD s x else ((0, 0), false)).1 xs := by cases b <;> rfl

theorem total_ev {b : Bool} {x : Int × Int} {xs : List (Int × Int)} (hx : gd x) (hxs : ∀ y ∈ xs, gd y) (hb : xs.length < lenB) : Evt (fun k _ => impl_reckoner_total k b (x :: xs)) (fsum b x xs) := by
  refine Evt.eq (f := fun k q => _) ?_ (fun k q => by rw [impl_reckoner_total])
  have key : ∀ (r d : List (Int × Int)) (b : Bool) (z s : Int × Int), gd s → d ++ r = xs → Evt (fun k n => impl_reckoner_total_L58 k n b z s xs (xs.length : Int) d.length) (.inr (z, (fsum b s r).1, (fsum b s r).2, ())) := by
    intro r
    induction r with
    | nil =>
      intro d b z s hs h
      refine Evt.step (fun k n => impl_reckoner_total_L58.eq_2 k _ _ _ _ _ _ n) ?_
      rw [List.append_nil] at h
      subst h
      exact Evt.rng0 .pure
    | cons e r ih =>
      intro d b z s hs h
      refine Evt.step (fun k n => impl_reckoner_total_L58.eq_2 k _ _ _ _ _ _ n) ?_
      have he : gd e := hxs e (by rw [← h]; simp)
      have ih := ih (d ++ [e]) (if b then sumD s e else ((0, 0), false)).2 z (if b then sumD s e else ((0, 0), false)).1 (by split; exact sumD_gd _ _; decide) (by simpa using h)
      rw [← len_next (r := r) (by rw [h]; exact hb)] at ih
      subst h
      refine Evt.ctrue mid_lt (Evt.ctrue mid_ge (Evt.ctrue mid_lt ?_))
      rw [mid_get]
      refine Evt.bind (reckoner_sum_ev hs he) ?_
      rw [fsum_step]
      exact ih
  have h0 := key xs [] b (0, 0) x hx rfl
  simp only [List.length_nil] at h0
  refine Evt.ctrue (by simp <;> omega) (Evt.ctrue (by simp <;> omega) ?_)
  have e1 : ((x :: xs).take (Int.toNat ((x :: xs).length : Int))).drop 1 = xs := by simp
  rw [e1]
  exact Evt.inr (Evt.diag h0) .pure

theorem sumD_abs {x : Int × Int} (h : gd x) : sumD (0, 0) (absD x) = (absD x, true) := sumD_zero (absD_gd h)

theorem greater_abs_ev {x : Int × Int} (h : gd x) : Evt (fun k _ => impl_greater k x (-x.1, x.2)) (absD x) := by
  refine Evt.eq (f := fun k q => _) ?_ (fun k q => by rw [impl_greater])
  refine Evt.bind (compareD_ev (gd_neg h) h) (.const ?_)
  rw [sv_neg]
  have := sv_pos (a := (-x.1, x.2))
  rw [sv_neg] at this
  simp only at this
  unfold cmpI absD
  by_cases h1 : x.1 < 0
  · have h2 := this.2 (by omega)
    rw [if_neg (by omega), if_pos (by omega)]
    simp only [gt_iff_lt, Int.zero_lt_one, decide_true, cond_true]
    congr 2; omega
  · have h2 : ¬ (0 < -sv x) := fun hh => h1 (by have := this.1 hh; omega)
    have hc : ¬ ((if -sv x < sv x then (-1 : Int) else if sv x < -sv x then 1 else 0) > 0) := by
      split
      · omega
      · rw [if_neg (by omega)]; omega
    rw [decide_eq_false hc]
    simp only [cond_false]
    congr 1
    exact Prod.ext (by simp; omega) rfl

def orow (row : List (Int × Int)) : Option (Int × Int) := osum (0, 0) (row.map absD)
def rsV (m : List (List (Int × Int))) : List (Int × Int) × Bool := if (tab gd m && m.all fun r => (orow r).isSome) then (m.map fun r => (orow r).getD (0, 0), true) else ([], false)

theorem tab_gd {m : List (List (Int × Int))} (h : tab gd m = true) : ∀ r ∈ m, (r.length = m.length ∧ 1 ≤ m.length ∧ m.length ≤ 3) ∧ ∀ x ∈ r, gd x := by
  unfold tab at h
  simp only [Bool.and_eq_true, List.all_eq_true, decide_eq_true_eq] at h
  intro r hr
  exact ⟨⟨(h.2 r hr).1, h.1⟩, (h.2 r hr).2⟩

theorem spec_rowSums_ev {m : List (List (Int × Int))} (hb : m.length < 274877906944) (hm : ∀ r ∈ m, r.length < lenB) : Evt (fun k _ => spec_RowSums k m) (rsV m) := by
  refine Evt.eq (f := fun k q => _) ?_ (fun k q => by rw [spec_RowSums])
  refine Evt.bind (mxGood_ev hb hm) ?_
  cases ht : tab gd m with
  | false =>
    refine Evt.ctrue rfl ?_
    unfold rsV
    rw [ht]
    exact .pure
  | true =>
  refine Evt.cfalse rfl ?_
  have hg := tab_gd ht
  have inner : ∀ (x4 : List (Int × Int)) (x15 : List (List (Int × Int))) (x16 x17 : Int) (xs : List (Int × Int)), xs.length < lenB → (∀ x ∈ xs, gd x) → ∀ (r d : List (Int × Int)) (s : Int × Int), gd s → d ++ r = xs →
      Evt (fun k n => spec_RowSums_L125338 k n x4 s x15 x16 x17 xs (xs.length : Int) d.length) (match osum s (r.map absD) with | some t => .inr (x4, t, x15, x16, x17, ()) | none => .inl ([], false)) := by
    intro x4 x15 x16 x17 xs hb hxs r
    induction r with
    | nil =>
      intro d s hs h
      refine Evt.step (fun k n => spec_RowSums_L125338.eq_2 k _ _ _ _ _ _ _ _ n) ?_
      rw [List.append_nil] at h
      subst h
      exact Evt.rng0 .pure
    | cons e r ih =>
      intro d s hs h
      refine Evt.step (fun k n => spec_RowSums_L125338.eq_2 k _ _ _ _ _ _ _ _ n) ?_
      have he : gd e := hxs e (by rw [← h]; simp)
      have ih := ih (d ++ [e]) (sumD s (absD e)).1 (sumD_gd _ _) (by simpa using h)
      rw [← len_next (r := r) (by rw [h]; exact hb)] at ih
      subst h
      refine Evt.ctrue mid_lt (Evt.ctrue mid_ge (Evt.ctrue mid_lt ?_))
      rw [mid_get]
      refine Evt.bind (.const (mxAbs_eq he)) (Evt.bind (dyAdd_ev hs (absD_gd he)) ?_)
      rw [List.map_cons, osum]
      cases hh : (sumD s (absD e)).2 with
      | true => exact Evt.cfalse rfl ih
      | false => exact Evt.ctrue rfl .pure
  have key : ∀ (r d : List (List (Int × Int))), d ++ r = m → Evt (fun k n => spec_RowSums_L122 k n (d.map fun r => (orow r).getD (0, 0)) m (m.length : Int) d.length) (if (r.all fun r => (orow r).isSome) then .inr (m.map fun r => (orow r).getD (0, 0), ()) else .inl ([], false)) := by
    intro r
    induction r with
    | nil =>
      intro d h
      refine Evt.step (fun k n => spec_RowSums_L122.eq_2 k _ _ _ _ n) ?_
      rw [List.append_nil] at h
      subst h
      exact Evt.rng0 .pure
    | cons e r ih =>
      intro d h
      refine Evt.step (fun k n => spec_RowSums_L122.eq_2 k _ _ _ _ n) ?_
      have hme : e ∈ m := by rw [← h]; simp
      have ih := ih (d ++ [e]) (by simpa using h)
      rw [← len_next (r := r) (by rw [h]; simp only [lenB]; omega)] at ih
      have hl := congrArg List.length h
      simp at hl
      have hi := inner (d.map fun r => (orow r).getD (0, 0)) (d ++ e :: r) ((d ++ e :: r).length : Int) (d.length : Int) e (hm e hme) (hg e hme).2 e [] (0, 0) (by decide) rfl
      simp only [List.length_nil] at hi
      subst h
      refine Evt.ctrue mid_lt (Evt.ctrue mid_ge (Evt.ctrue mid_lt ?_))
      rw [mid_get]
      change Evt _ (if ((orow e).isSome && r.all fun r => (orow r).isSome) then _ else _)
      cases ho : orow e with
      | none =>
        rw [show osum (0, 0) (e.map absD) = none from ho] at hi
        exact Evt.inl (Evt.diag hi) .pure
      | some t =>
        rw [show osum (0, 0) (e.map absD) = some t from ho] at hi
        refine Evt.inr (Evt.diag hi) (Evt.ctrue (by simp; omega) ?_)
        simp only [Option.isSome_some, Bool.true_and]
        rw [List.map_append, List.map_cons, ho] at ih
        exact ih
  have h0 := key m [] rfl
  simp only [List.length_nil, List.map_nil] at h0
  unfold rsV
  rw [ht, Bool.true_and]
  cases hall : m.all fun r => (orow r).isSome with
  | true => rw [hall] at h0; exact Evt.inr (Evt.diag h0) .pure
  | false => rw [hall] at h0; exact Evt.inl (Evt.diag h0) .pure

theorem impl_rowSums_ev {m : List (List (Int × Int))} (hb : m.length < lenB) (hm : ∀ r ∈ m, r.length < lenB) : Evt (fun k _ => impl_RowSums k m) (rsV m) := by
  refine Evt.eq (f := fun k q => _) ?_ (fun k q => by rw [impl_RowSums])
  refine Evt.bind (isTable_ev hb hm) ?_
  cases ht : tab gd m with
  | false =>
    refine Evt.ctrue rfl ?_
    unfold rsV
    rw [ht]
    exact .pure
  | true =>
  refine Evt.cfalse rfl ?_
  have hg := tab_gd ht
  have inner : ∀ (x4 : Bool) (x5 : List (Int × Int)) (x16 : List (List (Int × Int))) (x17 x18 : Int) (xs : List (Int × Int)), xs.length ≤ 3 → (∀ x ∈ xs, gd x) → ∀ (r d : List (Int × Int)), d ++ r = xs →
      Evt (fun k n => impl_RowSums_L256410 k n x4 x5 (d.map absD) x16 x17 x18 xs (xs.length : Int) d.length) (.inr (x4, x5, xs.map absD, x16, x17, x18, ())) := by
    intro x4 x5 x16 x17 x18 xs hb hxs r
    induction r with
    | nil =>
      intro d h
      refine Evt.step (fun k n => impl_RowSums_L256410.eq_2 k _ _ _ _ _ _ _ _ _ n) ?_
      rw [List.append_nil] at h
      subst h
      exact Evt.rng0 .pure
    | cons e r ih =>
      intro d h
      refine Evt.step (fun k n => impl_RowSums_L256410.eq_2 k _ _ _ _ _ _ _ _ _ n) ?_
      have he : gd e := hxs e (by rw [← h]; simp)
      have ih := ih (d ++ [e]) (by simpa using h)
      rw [← len_next (r := r) (by rw [h]; simp only [lenB]; omega)] at ih
      have hl := congrArg List.length h
      simp at hl
      subst h
      refine Evt.ctrue mid_lt (Evt.ctrue mid_ge (Evt.ctrue mid_lt ?_))
      rw [mid_get]
      refine Evt.bind (.const (minus_eq he)) (Evt.bind (greater_abs_ev he) (Evt.ctrue (by simp; omega) ?_))
      rw [List.map_append] at ih
      exact ih
  have key : ∀ (r d : List (List (Int × Int))) (b : Bool) (o : List (Int × Int)), d ++ r = m → b = (d.all fun r => (orow r).isSome) → o.length = d.length → (b = true → o = d.map fun r => (orow r).getD (0, 0)) →
      ∃ o', ((m.all fun r => (orow r).isSome) = true → o' = m.map fun r => (orow r).getD (0, 0)) ∧ Evt (fun k n => impl_RowSums_L250 k n b o m (m.length : Int) d.length) (.inr (m.all fun r => (orow r).isSome, o', ())) := by
    intro r
    induction r with
    | nil =>
      intro d b o h hbd hod ho
      rw [List.append_nil] at h
      subst h
      refine ⟨o, fun hh => ho (by rw [hbd, hh]), ?_⟩
      refine Evt.step (fun k n => impl_RowSums_L250.eq_2 k _ _ _ _ _ n) ?_
      rw [← hbd]
      exact Evt.rng0 .pure
    | cons e r ih =>
      intro d b o h hbd hod ho
      have hme : e ∈ m := by rw [← h]; simp
      have hge := hg e hme
      obtain ⟨x, xs, rfl⟩ : ∃ x xs, e = x :: xs := by
        cases e with
        | nil => have := hge.1; simp at this; omega
        | cons x xs => exact ⟨x, xs, rfl⟩
      have hxg : gd x := hge.2 x (by simp)
      have hfs : orow (x :: xs) = osum (absD x) (xs.map absD) := by
        unfold orow
        rw [List.map_cons, osum, sumD_abs hxg]
        rfl
      have hb2 : (fsum b (absD x) (xs.map absD)).2 = ((d ++ [x :: xs]).all fun r => (orow r).isSome) := by
        rw [List.all_append, ← hbd]
        simp only [List.all_cons, List.all_nil, Bool.and_true, hfs]
        cases b with
        | false => rw [fsum_false]; rfl
        | true => rw [fsum_true]; cases osum (absD x) (xs.map absD) <;> rfl
      obtain ⟨o', h1, h2⟩ := ih (d ++ [x :: xs]) (fsum b (absD x) (xs.map absD)).2 (o ++ [(fsum b (absD x) (xs.map absD)).1]) (by simpa using h) hb2 (by simp [hod]) (by
        intro hh
        cases b with
        | false => rw [fsum_false] at hh; cases hh
        | true =>
          rw [List.map_append, ← ho rfl]
          simp only [List.map_cons, List.map_nil, hfs]
          rw [fsum_true] at hh ⊢
          cases hos : osum (absD x) (xs.map absD) with
          | none => rw [hos] at hh; cases hh
          | some t => rfl)
      refine ⟨o', h1, Evt.step (fun k n => impl_RowSums_L250.eq_2 k _ _ _ _ _ n) ?_⟩
      have hi := inner b o m (m.length : Int) (d.length : Int) (x :: xs) (by have := hge.1; omega) hge.2 (x :: xs) [] rfl
      simp only [List.length_nil, List.map_nil] at hi
      rw [← len_next (r := r) (by rw [h]; exact hb)] at h2
      have hl := congrArg List.length h
      simp at hl
      generalize hres : (Sum.inr ((m.all fun r => (orow r).isSome), o', ()) : ((List (Int × Int)) × Bool) ⊕ (Bool × (List (Int × Int)) × Unit)) = res at h2 ⊢
      subst h
      refine Evt.ctrue mid_lt (Evt.ctrue mid_ge (Evt.ctrue mid_lt ?_))
      rw [mid_get]
      refine Evt.inr (Evt.diag hi) (Evt.bind (total_ev (absD_gd hxg) (by
        intro y hy
        obtain ⟨z, hz, rfl⟩ := List.mem_map.1 hy
        exact absD_gd (hge.2 z (by simp [hz]))) (by have := hge.1; simp only [List.length_cons] at this; simp only [List.length_map, lenB]; omega)) (Evt.ctrue (by have := hge.1; simp; omega) h2))
  obtain ⟨o', h1, h2⟩ := key m [] true [] rfl rfl rfl (fun _ => rfl)
  simp only [List.length_nil] at h2
  refine Evt.inr (Evt.diag h2) ?_
  unfold rsV
  rw [ht, Bool.true_and]
  cases hall : m.all fun r => (orow r).isSome with
  | true => rw [h1 hall]; exact Evt.cfalse rfl .pure
  | false => exact Evt.ctrue rfl .pure
end Go.Ev.G
