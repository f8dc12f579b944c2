/- What the plain functions of the laws compute, for all inputs within the sizes that the theorems name. -/
import Derived.Test.YtdlpejdadikggaaA1
set_option linter.unusedVariables false
namespace Go.Ev.G
open Go Go.Ev
set_option maxRecDepth 100000

theorem toV_fst {γ : Type} {v : γ} {a : List γ} {b : Bool} : (toV id v a b).1 = a := by
  unfold toV
  split
  · rename_i h; exact h.2.symm
  · simp
theorem toV_rows {γ : Type} {v : γ} {w : List γ × List γ} {a : List (List γ)} {b : Bool} : ((toV (fun x => toV id v x b) w a b).1.map fun z => z.1) = a := by
  unfold toV
  split
  · rename_i h; rw [h.2]; rfl
  · simp only [List.map_map]
    conv => rhs; rw [← List.map_id a]
    apply List.map_congr_left
    intro x hx
    exact toV_fst

/-- what a table of lists must be for its law to look at it -/
def Sized {γ : Type} (a : List (List γ)) : Prop := a.length + (a.map List.length).sum ≤ 1000000

theorem le_sum {l : List Nat} {x : Nat} (h : x ∈ l) : x ≤ l.sum := by
  induction l with
  | nil => simp at h
  | cons y l ih =>
    simp only [List.sum_cons]
    rcases List.mem_cons.1 h with rfl | h
    · omega
    · have := ih h; omega
theorem Sized.len {γ : Type} {a : List (List γ)} (h : Sized a) : a.length ≤ 1000000 := by unfold Sized at h; omega
theorem Sized.row {γ : Type} {a : List (List γ)} (h : Sized a) : ∀ x ∈ a, x.length ≤ 1000000 := by
  intro x hx
  unfold Sized at h
  have := le_sum (List.mem_map.2 ⟨x, hx, rfl⟩ : x.length ∈ a.map List.length)
  omega

theorem intactD_ev {a : List (List (Int × Int))} (h : Sized a) : Evt (fun k _ => laws_intactDyadicSS k (toV (fun x => toV id fD x false) ([fD], []) a false) (toV (fun x => toV id fD x false) ([fD], []) a false)) true := by
  refine intactDyadicSS_ev (room_toV h.len) ?_ ?_
  · intro y hy
    simp [toV] at hy
    obtain ⟨x, hx, rfl⟩ := hy
    exact ⟨by simp, h.row x hx⟩
  · intro y hy
    simp [toV] at hy
    rw [hy.2]; simp [lenB]

theorem isTable_law (a : List (List (Int × Int))) (ha : a.length ≤ maxLen) (hm : ∀ x ∈ a, x.length ≤ maxLen) : ∃ k, laws_FnExactIsTable k a = some true := by
  refine Evt.get (Evt.eq (f := fun k q => _) ?_ (fun k q => by rw [laws_FnExactIsTable]))
  refine Evt.bind (szDyadicSS_ev (a := 1000000) ha hm (by omega)) ?_
  by_cases hz : a.length + (a.map List.length).sum ≤ 1000000
  · rw [if_pos hz]
    have hs : Sized a := hz
    refine Evt.cfalse (by simp <;> omega) ?_
    have hb : a.length < 274877906944 := by have := hs.len; omega
    have hr : ∀ r ∈ a, r.length < lenB := fun r hr => by have := hs.row r hr; simp only [lenB]; omega
    have spec : Evt (fun k _ => spec_IsTable k a) (tab gd a) := Evt.eq (Evt.bind (mxGood_ev hb hr) .pure) (fun k n => by rw [spec_IsTable])
    have impl : Evt (fun k _ => impl_IsTable k a) (tab gd a) := Evt.eq (Evt.bind (isTable_ev (by simp only [lenB]; omega) hr) .pure) (fun k n => by rw [impl_IsTable])
    refine Evt.bind (toDyadicSS_ev hs.len hs.row) ?_
    simp only [toV_rows]
    refine Evt.bind spec (Evt.bind (toDyadicSS_ev hs.len hs.row) ?_)
    simp only [toV_rows]
    refine Evt.bind impl (Evt.cfalse (by simp) (Evt.bind (toDyadicSS_ev hs.len hs.row) (Evt.bind (intactD_ev hs) (Evt.cfalse rfl (Evt.bind (toDyadicSS_ev hs.len hs.row) ?_)))))
    simp only [toV_rows]
    exact Evt.bind impl (Evt.cfalse (by simp) .pure)
  · rw [if_neg hz]
    exact Evt.ctrue rfl .pure
abbrev tDyadic : Ty := .pair (.int .i64) (.int .i64)
theorem isTable_row (a : List (List (Int × Int))) (h : WfT (.sl (.sl tDyadic)) a) : ∃ k, laws_FnExactIsTable k a = some true := isTable_law a h.1 (fun x hx => (h.2 x hx).1)
end Go.Ev.G
namespace Go.Ev.G
open Go Go.Ev
set_option maxRecDepth 100000

theorem mkD_false {n : Int} {k : Nat} (h : (mkD n k).2 = false) : (mkD n k).1 = (0, 0) := by
  unfold mkD at h ⊢
  split at h
  · cases h
  · rename_i h2; rw [if_neg h2]

/-- a sum that is held: once a sum fails, none is -/
def fsum : Bool → (Int × Int) → List (Int × Int) → (Int × Int) × Bool
  | b, s, [] => (s, b)
  | true, s, x :: xs => fsum (sumD s x).2 (sumD s x).1 xs
  | false, _, _ :: xs => fsum false (0, 0) xs
def osum : (Int × Int) → List (Int × Int) → Option (Int × Int)
  | s, [] => some s
  | s, x :: xs => if (sumD s x).2 then osum (sumD s x).1 xs else none
theorem fsum_false : ∀ (xs : List (Int × Int)) (s : Int × Int), (fsum false s xs).2 = false
  | [], _ => rfl
  | _ :: xs, _ => by rw [fsum]; exact fsum_false xs _
theorem fsum_false0 : ∀ (xs : List (Int × Int)), fsum false (0, 0) xs = ((0, 0), false)
  | [] => rfl
  | _ :: xs => by rw [fsum]; exact fsum_false0 xs
theorem fsum_true : ∀ (xs : List (Int × Int)) (s : Int × Int), fsum true s xs = match osum s xs with | some t => (t, true) | none => ((0, 0), false)
  | [], _ => rfl
  | x :: xs, s => by
    rw [fsum, osum]
    cases h : (sumD s x).2 with
    | true => rw [if_pos rfl]; exact fsum_true xs _
    | false => rw [if_neg (by simp), show (sumD s x).1 = (0, 0) from mkD_false h]; exact fsum_false0 xs
theorem fsum_gd : ∀ (xs : List (Int × Int)) (b : Bool) (s : Int × Int), gd s → gd (fsum b s xs).1
  | [], _, _, h => h
  | _ :: xs, true, _, _ => by rw [fsum]; exact fsum_gd xs _ _ (sumD_gd _ _)
  | _ :: xs, false, _, _ => by rw [fsum]; exact fsum_gd xs _ _ (by decide)
theorem osum_gd : ∀ (xs : List (Int × Int)) (s t : Int × Int), gd s → osum s xs = some t → gd t
  | [], s, t, h, e => by cases e; exact h
  | x :: xs, s, t, h, e => by
    rw [osum] at e
    split at e
    · exact osum_gd xs _ t (sumD_gd _ _) e
    · cases e

theorem reckoner_sum_ev {b : Bool} {s x : Int × Int} (hs : gd s) (hx : gd x) : Evt (fun k _ => impl_reckoner_sum k b s x) (if b then sumD s x else ((0, 0), false)) := by
  refine Evt.eq (f := fun k q => _) ?_ (fun k q => by rw [impl_reckoner_sum])
  refine Evt.bind (sumOf_ev hs hx) (.const ?_)
  unfold impl_reckoner_keep
  cases b with
  | true =>
    cases h : (sumD s x).2 with
    | true => simp [h, Prod.ext_iff]
    | false =>
      have h3 : sumD s x = ((0, 0), false) := Prod.ext (mkD_false h) h
      rw [h3]; simp
  | false => rfl

theorem fsum_step (b : Bool) (s x : Int × Int) (xs : List (Int × Int)) : fsum b s (x :: xs) = fsum (if b then sumD s x else ((0, 0), false)).2 (if b then sumD s x else ((0, 0), false)).1 xs := by cases b <;> rfl

theorem total_ev {b : Bool} {x : Int × Int} {xs : List (Int × Int)} (hx : gd x) (hxs : ∀ y ∈ xs, gd y) (hb : xs.length < lenB) : Evt (fun k _ => impl_reckoner_total k b (x :: xs)) (fsum b x xs) := by
  refine Evt.eq (f := fun k q => _) ?_ (fun k q => by rw [impl_reckoner_total])
  have key : ∀ (r d : List (Int × Int)) (b : Bool) (z s : Int × Int), gd s → d ++ r = xs → Evt (fun k n => impl_reckoner_total_L58 k n b z s xs (xs.length : Int) d.length) (.inr (z, (fsum b s r).1, (fsum b s r).2, ())) := by
    intro r
    induction r with
    | nil =>
      intro d b z s hs h
      refine Evt.step (fun k n => impl_reckoner_total_L58.eq_2 k _ _ _ _ _ _ n) ?_
      rw [List.append_nil] at h
      subst h
      exact Evt.rng0 .pure
    | cons e r ih =>
      intro d b z s hs h
      refine Evt.step (fun k n => impl_reckoner_total_L58.eq_2 k _ _ _ _ _ _ n) ?_
      have he : gd e := hxs e (by rw [← h]; simp)
      have ih := ih (d ++ [e]) (if b then sumD s e else ((0, 0), false)).2 z (if b then sumD s e else ((0, 0), false)).1 (by split; exact sumD_gd _ _; decide) (by simpa using h)
      rw [← len_next (r := r) (by rw [h]; exact hb)] at ih
      subst h
      refine Evt.ctrue mid_lt (Evt.ctrue mid_ge (Evt.ctrue mid_lt ?_))
      rw [mid_get]
      refine Evt.bind (reckoner_sum_ev hs he) ?_
      rw [fsum_step]
      exact ih
  have h0 := key xs [] b (0, 0) x hx rfl
  simp only [List.length_nil] at h0
  refine Evt.ctrue (by simp <;> omega) (Evt.ctrue (by simp <;> omega) ?_)
  have e1 : ((x :: xs).take (Int.toNat ((x :: xs).length : Int))).drop 1 = xs := by simp
  rw [e1]
  exact Evt.inr (Evt.diag h0) .pure

theorem sumD_abs {x : Int × Int} (h : gd x) : sumD (0, 0) (absD x) = (absD x, true) := sumD_zero (absD_gd h)

theorem greater_abs_ev {x : Int × Int} (h : gd x) : Evt (fun k _ => impl_greater k x (-x.1, x.2)) (absD x) := by
  refine Evt.eq (f := fun k q => _) ?_ (fun k q => by rw [impl_greater])
  refine Evt.bind (compareD_ev (gd_neg h) h) (.const ?_)
  rw [sv_neg]
  have := sv_pos (a := (-x.1, x.2))
  rw [sv_neg] at this
  simp only at this
  unfold cmpI absD
  by_cases h1 : x.1 < 0
  · have h2 := this.2 (by omega)
    rw [if_neg (by omega), if_pos (by omega)]
    simp only [gt_iff_lt, Int.zero_lt_one, decide_true, cond_true]
    congr 2; omega
  · have h2 : ¬ (0 < -sv x) := fun hh => h1 (by have := this.1 hh; omega)
    have hc : ¬ ((if -sv x < sv x then (-1 : Int) else if sv x < -sv x then 1 else 0) > 0) := by
      split
      · omega
      · rw [if_neg (by omega)]; omega
    rw [decide_eq_false hc]
    simp only [cond_false]
    congr 1
    exact Prod.ext (by simp; omega) rfl

def orow (row : List (Int × Int)) : Option (Int × Int) := osum (0, 0) (row.map absD)
def rsV (m : List (List (Int × Int))) : List (Int × Int) × Bool := if (tab gd m && m.all fun r => (orow r).isSome) then (m.map fun r => (orow r).getD (0, 0), true) else ([], false)

theorem tab_gd {m : List (List (Int × Int))} (h : tab gd m = true) : ∀ r ∈ m, (r.length = m.length ∧ 1 ≤ m.length ∧ m.length ≤ 3) ∧ ∀ x ∈ r, gd x := by
  unfold tab at h
  simp only [Bool.and_eq_true, List.all_eq_true, decide_eq_true_eq] at h
  intro r hr
  exact ⟨⟨(h.2 r hr).1, h.1⟩, (h.2 r hr).2⟩

theorem spec_rowSums_ev {m : List (List (Int × Int))} (hb : m.length < 274877906944) (hm : ∀ r ∈ m, r.length < lenB) : Evt (fun k _ => spec_RowSums k m) (rsV m) := by
  refine Evt.eq (f := fun k q => _) ?_ (fun k q => by rw [spec_RowSums])
  refine Evt.bind (mxGood_ev hb hm) ?_
  cases ht : tab gd m with
  | false =>
    refine Evt.ctrue rfl ?_
    unfold rsV
    rw [ht]
    exact .pure
  | true =>
  refine Evt.cfalse rfl ?_
  have hg := tab_gd ht
  have inner : ∀ (x4 : List (Int × Int)) (x15 : List (List (Int × Int))) (x16 x17 : Int) (xs : List (Int × Int)), xs.length < lenB → (∀ x ∈ xs, gd x) → ∀ (r d : List (Int × Int)) (s : Int × Int), gd s → d ++ r = xs →
      Evt (fun k n => spec_RowSums_L125338 k n x4 s x15 x16 x17 xs (xs.length : Int) d.length) (match osum s (r.map absD) with | some t => .inr (x4, t, x15, x16, x17, ()) | none => .inl ([], false)) := by
    intro x4 x15 x16 x17 xs hb hxs r
    induction r with
    | nil =>
      intro d s hs h
      refine Evt.step (fun k n => spec_RowSums_L125338.eq_2 k _ _ _ _ _ _ _ _ n) ?_
      rw [List.append_nil] at h
      subst h
      exact Evt.rng0 .pure
    | cons e r ih =>
      intro d s hs h
      refine Evt.step (fun k n => spec_RowSums_L125338.eq_2 k _ _ _ _ _ _ _ _ n) ?_
      have he : gd e := hxs e (by rw [← h]; simp)
      have ih := ih (d ++ [e]) (sumD s (absD e)).1 (sumD_gd _ _) (by simpa using h)
      rw [← len_next (r := r) (by rw [h]; exact hb)] at ih
      subst h
      refine Evt.ctrue mid_lt (Evt.ctrue mid_ge (Evt.ctrue mid_lt ?_))
      rw [mid_get]
      refine Evt.bind (.const (mxAbs_eq he)) (Evt.bind (dyAdd_ev hs (absD_gd he)) ?_)
      rw [List.map_cons, osum]
      cases hh : (sumD s (absD e)).2 with
      | true => exact Evt.cfalse rfl ih
      | false => exact Evt.ctrue rfl .pure
  have key : ∀ (r d : List (List (Int × Int))), d ++ r = m → Evt (fun k n => spec_RowSums_L122 k n (d.map fun r => (orow r).getD (0, 0)) m (m.length : Int) d.length) (if (r.all fun r => (orow r).isSome) then .inr (m.map fun r => (orow r).getD (0, 0), ()) else .inl ([], false)) := by
    intro r
    induction r with
    | nil =>
      intro d h
      refine Evt.step (fun k n => spec_RowSums_L122.eq_2 k _ _ _ _ n) ?_
      rw [List.append_nil] at h
      subst h
      exact Evt.rng0 .pure
    | cons e r ih =>
      intro d h
      refine Evt.step (fun k n => spec_RowSums_L122.eq_2 k _ _ _ _ n) ?_
      have hme : e ∈ m := by rw [← h]; simp
      have ih := ih (d ++ [e]) (by simpa using h)
      rw [← len_next (r := r) (by rw [h]; simp only [lenB]; omega)] at ih
      have hl := congrArg List.length h
      simp at hl
      have hi := inner (d.map fun r => (orow r).getD (0, 0)) (d ++ e :: r) ((d ++ e :: r).length : Int) (d.length : Int) e (hm e hme) (hg e hme).2 e [] (0, 0) (by decide) rfl
      simp only [List.length_nil] at hi
      subst h
      refine Evt.ctrue mid_lt (Evt.ctrue mid_ge (Evt.ctrue mid_lt ?_))
      rw [mid_get]
      change Evt _ (if ((orow e).isSome && r.all fun r => (orow r).isSome) then _ else _)
      cases ho : orow e with
      | none =>
        rw [show osum (0, 0) (e.map absD) = none from ho] at hi
        exact Evt.inl (Evt.diag hi) .pure
      | some t =>
        rw [show osum (0, 0) (e.map absD) = some t from ho] at hi
        refine Evt.inr (Evt.diag hi) (Evt.ctrue (by simp; omega) ?_)
        simp only [Option.isSome_some, Bool.true_and]
        rw [List.map_append, List.map_cons, ho] at ih
        exact ih
  have h0 := key m [] rfl
  simp only [List.length_nil, List.map_nil] at h0
  unfold rsV
  rw [ht, Bool.true_and]
  cases hall : m.all fun r => (orow r).isSome with
  | true => rw [hall] at h0; exact Evt.inr (Evt.diag h0) .pure
  | false => rw [hall] at h0; exact Evt.inl (Evt.diag h0) .pure

theorem impl_rowSums_ev {m : List (List (Int × Int))} (hb : m.length < lenB) (hm : ∀ r ∈ m, r.length < lenB) : Evt (fun k _ => impl_RowSums k m) (rsV m) := by
  refine Evt.eq (f := fun k q => _) ?_ (fun k q => by rw [impl_RowSums])
  refine Evt.bind (isTable_ev hb hm) ?_
  cases ht : tab gd m with
  | false =>
    refine Evt.ctrue rfl ?_
    unfold rsV
    rw [ht]
    exact .pure
  | true =>
  refine Evt.cfalse rfl ?_
  have hg := tab_gd ht
  have inner : ∀ (x4 : Bool) (x5 : List (Int × Int)) (x16 : List (List (Int × Int))) (x17 x18 : Int) (xs : List (Int × Int)), xs.length ≤ 3 → (∀ x ∈ xs, gd x) → ∀ (r d : List (Int × Int)), d ++ r = xs →
      Evt (fun k n => impl_RowSums_L256410 k n x4 x5 (d.map absD) x16 x17 x18 xs (xs.length : Int) d.length) (.inr (x4, x5, xs.map absD, x16, x17, x18, ())) := by
    intro x4 x5 x16 x17 x18 xs hb hxs r
    induction r with
    | nil =>
      intro d h
      refine Evt.step (fun k n => impl_RowSums_L256410.eq_2 k _ _ _ _ _ _ _ _ _ n) ?_
      rw [List.append_nil] at h
      subst h
      exact Evt.rng0 .pure
    | cons e r ih =>
      intro d h
      refine Evt.step (fun k n => impl_RowSums_L256410.eq_2 k _ _ _ _ _ _ _ _ _ n) ?_
      have he : gd e := hxs e (by rw [← h]; simp)
      have ih := ih (d ++ [e]) (by simpa using h)
      rw [← len_next (r := r) (by rw [h]; simp only [lenB]; omega)] at ih
      have hl := congrArg List.length h
      simp at hl
      subst h
      refine Evt.ctrue mid_lt (Evt.ctrue mid_ge (Evt.ctrue mid_lt ?_))
      rw [mid_get]
      refine Evt.bind (.const (minus_eq he)) (Evt.bind (greater_abs_ev he) (Evt.ctrue (by simp; omega) ?_))
      rw [List.map_append] at ih
      exact ih
  have key : ∀ (r d : List (List (Int × Int))) (b : Bool) (o : List (Int × Int)), d ++ r = m → b = (d.all fun r => (orow r).isSome) → o.length = d.length → (b = true → o = d.map fun r => (orow r).getD (0, 0)) →
      ∃ o', ((m.all fun r => (orow r).isSome) = true → o' = m.map fun r => (orow r).getD (0, 0)) ∧ Evt (fun k n => impl_RowSums_L250 k n b o m (m.length : Int) d.length) (.inr (m.all fun r => (orow r).isSome, o', ())) := by
    intro r
    induction r with
    | nil =>
      intro d b o h hbd hod ho
      rw [List.append_nil] at h
      subst h
      refine ⟨o, fun hh => ho (by rw [hbd, hh]), ?_⟩
      refine Evt.step (fun k n => impl_RowSums_L250.eq_2 k _ _ _ _ _ n) ?_
      rw [← hbd]
      exact Evt.rng0 .pure
    | cons e r ih =>
      intro d b o h hbd hod ho
      have hme : e ∈ m := by rw [← h]; simp
      have hge := hg e hme
      obtain ⟨x, xs, rfl⟩ : ∃ x xs, e = x :: xs := by
        cases e with
        | nil => have := hge.1; simp at this; omega
        | cons x xs => exact ⟨x, xs, rfl⟩
      have hxg : gd x := hge.2 x (by simp)
      have hfs : orow (x :: xs) = osum (absD x) (xs.map absD) := by
        unfold orow
        rw [List.map_cons, osum, sumD_abs hxg]
        rfl
      have hb2 : (fsum b (absD x) (xs.map absD)).2 = ((d ++ [x :: xs]).all fun r => (orow r).isSome) := by
        rw [List.all_append, ← hbd]
        simp only [List.all_cons, List.all_nil, Bool.and_true, hfs]
        cases b with
        | false => rw [fsum_false]; rfl
        | true => rw [fsum_true]; cases osum (absD x) (xs.map absD) <;> rfl
      obtain ⟨o', h1, h2⟩ := ih (d ++ [x :: xs]) (fsum b (absD x) (xs.map absD)).2 (o ++ [(fsum b (absD x) (xs.map absD)).1]) (by simpa using h) hb2 (by simp [hod]) (by
        intro hh
        cases b with
        | false => rw [fsum_false] at hh; cases hh
        | true =>
          rw [List.map_append, ← ho rfl]
          simp only [List.map_cons, List.map_nil, hfs]
          rw [fsum_true] at hh ⊢
          cases hos : osum (absD x) (xs.map absD) with
          | none => rw [hos] at hh; cases hh
          | some t => rfl)
      refine ⟨o', h1, Evt.step (fun k n => impl_RowSums_L250.eq_2 k _ _ _ _ _ n) ?_⟩
      have hi := inner b o m (m.length : Int) (d.length : Int) (x :: xs) (by have := hge.1; omega) hge.2 (x :: xs) [] rfl
      simp only [List.length_nil, List.map_nil] at hi
      rw [← len_next (r := r) (by rw [h]; exact hb)] at h2
      have hl := congrArg List.length h
      simp at hl
      generalize hres : (Sum.inr ((m.all fun r => (orow r).isSome), o', ()) : ((List (Int × Int)) × Bool) ⊕ (Bool × (List (Int × Int)) × Unit)) = res at h2 ⊢
      subst h
      refine Evt.ctrue mid_lt (Evt.ctrue mid_ge (Evt.ctrue mid_lt ?_))
      rw [mid_get]
      refine Evt.inr (Evt.diag hi) (Evt.bind (total_ev (absD_gd hxg) (by
        intro y hy
        obtain ⟨z, hz, rfl⟩ := List.mem_map.1 hy
        exact absD_gd (hge.2 z (by simp [hz]))) (by have := hge.1; simp only [List.length_cons] at this; simp only [List.length_map, lenB]; omega)) (Evt.ctrue (by have := hge.1; simp; omega) h2))
  obtain ⟨o', h1, h2⟩ := key m [] true [] rfl rfl rfl (fun _ => rfl)
  simp only [List.length_nil] at h2
  refine Evt.inr (Evt.diag h2) ?_
  unfold rsV
  rw [ht, Bool.true_and]
  cases hall : m.all fun r => (orow r).isSome with
  | true => rw [h1 hall]; exact Evt.cfalse rfl .pure
  | false => exact Evt.ctrue rfl .pure
end Go.Ev.G
namespace Go.Ev.G
open Go Go.Ev
set_option maxRecDepth 100000

theorem markDyadicSS_ev {x : List (List (Int × Int))} {a : Nat} (hx : x.length < lenB) (ha : a + (x.map fun r => 2 * r.length).sum < lenB) : ∃ y, Evt (fun k _ => laws_markDyadicSS k x a) (((a + (x.map fun r => 2 * r.length).sum : Nat) : Int), y) ∧ Evt (fun k _ => laws_heldDyadicSS k y a) ((a + (x.map fun r => 2 * r.length).sum : Nat) : Int) :=
  mark_rows_all (M := laws_markDyadicSS_L26) (H := laws_heldDyadicSS_L26) markDyadicS_ok (fun _ _ _ _ _ => rfl) (fun _ _ _ _ _ => rfl) (fun _ _ _ => rfl) (fun _ _ _ => rfl) hx ha

theorem sum_twice : ∀ (x : List (List (Int × Int))), (x.map fun r => 2 * r.length).sum = 2 * (x.map List.length).sum
  | [] => rfl
  | r :: x => by simp only [List.map_cons, List.sum_cons]; rw [sum_twice x]; omega
theorem Sized.marks {a : List (List (Int × Int))} (h : Sized a) : 101 + (a.map fun r => 2 * r.length).sum < lenB := by
  unfold Sized at h
  rw [sum_twice]
  simp only [lenB]; omega

theorem rsV_len {m : List (List (Int × Int))} (h : m.length ≤ 1000000) : (rsV m).1.length ≤ 1000000 := by
  unfold rsV
  split
  · simp; exact h
  · simp

theorem rowSums_law (a : List (List (Int × Int))) (ha : a.length ≤ maxLen) (hm : ∀ x ∈ a, x.length ≤ maxLen) : ∃ k, laws_FnExactRowSums k a = some true := by
  refine Evt.get (Evt.eq (f := fun k q => _) ?_ (fun k q => by rw [laws_FnExactRowSums]))
  refine Evt.bind (szDyadicSS_ev (a := 1000000) ha hm (by omega)) ?_
  by_cases hz : a.length + (a.map List.length).sum ≤ 1000000
  · rw [if_pos hz]
    have hs : Sized a := hz
    refine Evt.cfalse (by simp <;> omega) ?_
    have hb : a.length < 274877906944 := by have := hs.len; omega
    have hr : ∀ r ∈ a, r.length < lenB := fun r hr => by have := hs.row r hr; simp only [lenB]; omega
    have spec := spec_rowSums_ev hb hr
    have impl := impl_rowSums_ev (m := a) (by simp only [lenB]; omega) hr
    have hl := rsV_len hs.len
    have hl2 : (rsV a).1.length < lenB := by simp only [lenB]; omega
    obtain ⟨y, hy1, hy2, _⟩ := markDyadicS_ok (rsV a).1 101 (by simp only [lenB]; omega)
    obtain ⟨z, hz1, _⟩ := markDyadicSS_ev (x := a) (a := 101) (by simp only [lenB]; omega) hs.marks
    refine Evt.bind (toDyadicSS_ev hs.len hs.row) ?_
    simp only [toV_rows]
    refine Evt.bind spec (Evt.bind (toDyadicSS_ev hs.len hs.row) ?_)
    simp only [toV_rows]
    refine Evt.bind impl (Evt.bind (eqDyadicS_ev hl2) (Evt.cfalse rfl (Evt.cfalse (by simp) (Evt.bind (toDyadicSS_ev hs.len hs.row) (Evt.bind (intactD_ev hs) (Evt.cfalse rfl (Evt.bind hz1 (Evt.cfalse (by simp <;> omega) ?_)))))))) 
    refine Evt.bind (eqDyadicS_ev hl2) (Evt.cfalse rfl (Evt.cfalse (by simp) (Evt.bind hy1 (Evt.bind hy2 (Evt.cfalse (by simp <;> omega) (Evt.cfalse (by simp) (Evt.bind (toDyadicSS_ev hs.len hs.row) ?_)))))))
    simp only [toV_rows]
    exact Evt.bind impl (Evt.bind (eqDyadicS_ev hl2) (Evt.cfalse rfl (Evt.cfalse (by simp) (Evt.bind hy2 (Evt.cfalse (by simp <;> omega) (Evt.cfalse (by simp) .pure))))))
  · rw [if_neg hz]
    exact Evt.ctrue rfl .pure
theorem rowSums_row (a : List (List (Int × Int))) (h : WfT (.sl (.sl tDyadic)) a) : ∃ k, laws_FnExactRowSums k a = some true := rowSums_law a h.1 (fun x hx => (h.2 x hx).1)
end Go.Ev.G
namespace Go.Ev.G
open Go Go.Ev
set_option maxRecDepth 100000

/-! Intervals, and their tables. -/
def ivGd (x : (Int × Int) × Int × Int) : Prop := gd x.1 ∧ gd x.2 ∧ sv x.1 ≤ sv x.2
instance : DecidablePred ivGd := fun x => by unfold ivGd; exact inferInstance
theorem cmpI_le (a b : Int) : decide (cmpI a b ≤ 0) = decide (a ≤ b) := by
  unfold cmpI
  rw [decide_eq_decide]
  split <;> (try split) <;> omega
theorem cmpI_lt (a b : Int) : decide (cmpI a b < 0) = decide (a < b) := by
  unfold cmpI
  rw [decide_eq_decide]
  split <;> (try split) <;> omega
theorem cmpI_gt (a b : Int) : decide (cmpI a b > 0) = decide (b < a) := by
  unfold cmpI
  rw [decide_eq_decide]
  split <;> (try split) <;> omega

theorem ivGood_ev (x : (Int × Int) × Int × Int) : Evt (fun k _ => spec_ivGood k x) (decide (ivGd x)) := by
  refine Evt.eq (f := fun k q => _) ?_ (fun k q => by rw [spec_ivGood])
  refine Evt.bind (.const (dyGood_eq _)) ?_
  by_cases h1 : gd x.1
  · refine Evt.ctrue (by simp [h1]) (Evt.bind (.const (dyGood_eq _)) ?_)
    by_cases h2 : gd x.2
    · refine Evt.ctrue (by simp [h2]) (Evt.bind (dyCmp_ev h1 h2) (.const ?_))
      rw [cmpI_le]
      simp [ivGd, h1, h2]
    · refine Evt.cfalse (by simp [h2]) (.const ?_)
      simp [ivGd, h2]
  · refine Evt.cfalse (by simp [h1]) (.const ?_)
    simp [ivGd, h1]
theorem isInterval_ev (x : (Int × Int) × Int × Int) : Evt (fun k _ => impl_isInterval k x) (decide (ivGd x)) := by
  refine Evt.eq (f := fun k q => _) ?_ (fun k q => by rw [impl_isInterval])
  refine Evt.bind (.const (isDyadic_eq _)) ?_
  by_cases h1 : gd x.1
  · refine Evt.ctrue (by simp [h1]) (Evt.bind (.const (isDyadic_eq _)) ?_)
    by_cases h2 : gd x.2
    · refine Evt.ctrue (by simp [h2]) (Evt.bind (compareD_ev h1 h2) (.const ?_))
      rw [cmpI_le]
      simp [ivGd, h1, h2]
    · refine Evt.cfalse (by simp [h2]) (.const ?_)
      simp [ivGd, h2]
  · refine Evt.cfalse (by simp [h1]) (.const ?_)
    simp [ivGd, h1]
theorem isIntervalTable1_ev (x : (Int × Int) × Int × Int) : Evt (fun k _ => impl_isIntervalTable_1 k x) (!decide (ivGd x)) :=
  Evt.eq (Evt.bind (isInterval_ev x) .pure) (fun k q => by rw [impl_isIntervalTable_1])

theorem contains2_ev {xs : List ((Int × Int) × Int × Int)} (hb : xs.length < lenB) : Evt (fun k _ => slices_ContainsFunc_Interval_Interval_impl_isIntervalTable_1 k xs ()) (xs.any fun x => !decide (ivGd x)) := by
  refine Evt.eq (f := fun k q => _) ?_ (fun k q => by rw [slices_ContainsFunc_Interval_Interval_impl_isIntervalTable_1])
  have h := index_all (d0 := ((0, 0), 0, 0)) (L := fun k n i => slices_IndexFunc_Interval_Interval_impl_isIntervalTable_1_L26 k n xs () (xs.length : Int) i) (xs := xs) (p := fun k x => impl_isIntervalTable_1 k x) (P := fun x => !decide (ivGd x)) (fun x _ => isIntervalTable1_ev x) (fun _ _ _ => rfl) hb
  rw [← findIdx?_any]
  have h2 : Evt (fun k _ => slices_IndexFunc_Interval_Interval_impl_isIntervalTable_1 k xs ()) (match xs.findIdx? (fun x => !decide (ivGd x)) with | some j => (j : Int) | none => -1) := by
    refine Evt.eq (f := fun k q => _) ?_ (fun k q => by rw [slices_IndexFunc_Interval_Interval_impl_isIntervalTable_1])
    cases hf : xs.findIdx? (fun x => !decide (ivGd x)) with
    | none => rw [hf] at h; exact Evt.inr (Evt.diag h) .pure
    | some j => rw [hf] at h; exact Evt.inl (Evt.diag h) .pure
  refine Evt.bind h2 (.const ?_)
  cases hf : xs.findIdx? (fun x => !decide (ivGd x)) with
  | none => rfl
  | some j => simp

theorem isIntervalTable_ev {m : List (List ((Int × Int) × Int × Int))} (hb : m.length < lenB) (hm : ∀ r ∈ m, r.length < lenB) : Evt (fun k _ => impl_isIntervalTable k m) (tab ivGd m) := by
  refine Evt.eq (f := fun k q => _) ?_ (fun k q => by rw [impl_isIntervalTable])
  have key : ∀ (r d : List (List ((Int × Int) × Int × Int))), d ++ r = m → Evt (fun k n => impl_isIntervalTable_L26 k n m m (m.length : Int) d.length) (if (r.all fun row => decide (row.length = m.length) && row.all fun x => decide (ivGd x)) then .inr (m, ()) else .inl false) := by
    intro r
    induction r with
    | nil =>
      intro d h
      refine Evt.step (fun k n => impl_isIntervalTable_L26.eq_2 k _ _ _ _ n) ?_
      rw [List.append_nil] at h
      subst h
      exact Evt.rng0 .pure
    | cons e r ih =>
      intro d h
      refine Evt.step (fun k n => impl_isIntervalTable_L26.eq_2 k _ _ _ _ n) ?_
      have ih := ih (d ++ [e]) (by simpa using h)
      rw [← len_next (r := r) (by rw [h]; exact hb)] at ih
      subst h
      refine Evt.rng (F := fun k n x => (bif ((x.length : Int) != ((d ++ e :: r).length : Int)) then some (Sum.inl false) else (Option.bind (slices_ContainsFunc_Interval_Interval_impl_isIntervalTable_1 k x ()) fun r1 => (bif r1 then some (Sum.inl false) else (impl_isIntervalTable_L26 k n (d ++ e :: r) (d ++ e :: r) ((d ++ e :: r).length : Int) (IntKind.wrap .i64 ((d.length : Int) + 1))))))) ?_
      by_cases h1 : e.length = (d ++ e :: r).length
      · refine Evt.cfalse (by rw [h1]; simp) (Evt.bind (contains2_ev (hm e (by simp))) ?_)
        cases h2 : e.any fun x => !decide (ivGd x) with
        | true =>
          refine Evt.ctrue rfl ?_
          have : (e.all fun x => decide (ivGd x)) = false := by
            rw [List.any_eq_not_all_not] at h2
            simpa using h2
          simp only [List.all_cons, this, Bool.and_false, Bool.false_and]
          exact .pure
        | false =>
          refine Evt.cfalse rfl ?_
          have : (e.all fun x => decide (ivGd x)) = true := by
            rw [List.any_eq_not_all_not] at h2
            simpa using h2
          simp only [List.all_cons, this, h1, decide_true, Bool.true_and]
          exact ih
      · refine Evt.ctrue (by rw [bne_iff_ne]; omega) ?_
        simp only [List.all_cons, h1, decide_false, Bool.false_and]
        exact .pure
  have h0 := key m [] rfl
  simp only [List.length_nil] at h0
  unfold tab
  cases hall : (m.all fun row => decide (row.length = m.length) && row.all fun x => decide (ivGd x)) with
  | true =>
    rw [hall] at h0
    refine Evt.inr (Evt.diag h0) (Evt.bind (.const (inside_eq _ _ _)) (.const ?_))
    congr 1
    rw [Bool.and_true]
    simp only [decide_eq_decide]
    omega
  | false =>
    rw [hall] at h0
    refine Evt.inl (Evt.diag h0) (.const ?_)
    rw [Bool.and_false]

/-- rows whose numbers are looked at one after the other, and their lengths kept -/
theorem mxFits_ev {m : List (List ((Int × Int) × Int × Int))} (hb : m.length < 274877906944) (hm : ∀ r ∈ m, r.length < lenB) : Evt (fun k _ => spec_mxFits k m) (tab ivGd m) := by
  refine Evt.eq (f := fun k q => _) ?_ (fun k q => by rw [spec_mxFits])
  have inner : ∀ (x0 : List (List ((Int × Int) × Int × Int))) (x3 : List Int) (x5 : List ((Int × Int) × Int × Int)) (x8 : List (List ((Int × Int) × Int × Int))) (x9 x10 : Int) (x14 : List ((Int × Int) × Int × Int)), x14.length < lenB → ∀ (r d : List ((Int × Int) × Int × Int)), d ++ r = x14 →
      Evt (fun k n => spec_mxFits_L29898 k n x0 x3 x5 x8 x9 x10 x14 (x14.length : Int) d.length) (if (r.all fun x => decide (ivGd x)) then .inr (x0, x3, x5, x8, x9, x10, ()) else .inl false) := by
    intro x0 x3 x5 x8 x9 x10 x14 hb r
    induction r with
    | nil =>
      intro d h
      refine Evt.step (fun k n => spec_mxFits_L29898.eq_2 k _ _ _ _ _ _ _ _ _ n) ?_
      rw [List.append_nil] at h
      subst h
      exact Evt.rng0 .pure
    | cons e r ih =>
      intro d h
      refine Evt.step (fun k n => spec_mxFits_L29898.eq_2 k _ _ _ _ _ _ _ _ _ n) ?_
      have ih := ih (d ++ [e]) (by simpa using h)
      rw [← len_next (r := r) (by rw [h]; exact hb)] at ih
      subst h
      refine Evt.rng (F := fun k n x => (Option.bind (spec_ivGood k x) fun r1 => (bif (!r1) then some (Sum.inl false) else (spec_mxFits_L29898 k n x0 x3 x5 x8 x9 x10 (d ++ e :: r) ((d ++ e :: r).length : Int) (IntKind.wrap .i64 ((d.length : Int) + 1)))))) ?_
      refine Evt.bind (ivGood_ev _) ?_
      by_cases h1 : ivGd e
      · refine Evt.cfalse (by simp [h1]) ?_
        simp only [List.all_cons, h1, decide_true, Bool.true_and]
        exact ih
      · refine Evt.ctrue (by simp [h1]) ?_
        simp only [List.all_cons, h1, decide_false, Bool.false_and]
        exact .pure
  have key : ∀ (r d : List (List ((Int × Int) × Int × Int))), d ++ r = m → Evt (fun k n => spec_mxFits_L58 k n m (d.map fun row => (row.length : Int)) m (m.length : Int) d.length) (if (r.all fun row => row.all fun x => decide (ivGd x)) then .inr (m, m.map fun row => (row.length : Int), ()) else .inl false) := by
    intro r
    induction r with
    | nil =>
      intro d h
      refine Evt.step (fun k n => spec_mxFits_L58.eq_2 k _ _ _ _ _ n) ?_
      rw [List.append_nil] at h
      subst h
      exact Evt.rng0 .pure
    | cons e r ih =>
      intro d h
      refine Evt.step (fun k n => spec_mxFits_L58.eq_2 k _ _ _ _ _ n) ?_
      have ih := ih (d ++ [e]) (by simpa using h)
      have hl := congrArg List.length h
      simp at hl
      rw [← len_next (r := r) (by rw [h]; simp only [lenB]; omega)] at ih
      have hme := hm e (by rw [← h]; simp)
      subst h
      refine Evt.rng (F := fun k n x => (both (R := Bool) (P := (List (List ((Int × Int) × Int × Int))) × (List Int) × (List ((Int × Int) × Int × Int)) × (List (List ((Int × Int) × Int × Int))) × Int × Int × Unit) (spec_mxFits_L29898 k k (d ++ e :: r) (d.map fun row => (row.length : Int)) x (d ++ e :: r) ((d ++ e :: r).length : Int) (d.length : Int) x (x.length : Int) 0) (fun q4 => some (Sum.inl q4)) (fun y3 => (bif (decide (y3.2.1.length + ([(y3.2.2.1.length : Int)] : List Int).length < 274877906944)) then (spec_mxFits_L58 k n y3.1 (y3.2.1 ++ ([(y3.2.2.1.length : Int)] : List Int)) y3.2.2.2.1 y3.2.2.2.2.1 (IntKind.wrap .i64 (y3.2.2.2.2.2.1 + 1))) else none)))) ?_
      have hi := inner (d ++ e :: r) (d.map fun row => (row.length : Int)) e (d ++ e :: r) ((d ++ e :: r).length : Int) (d.length : Int) e hme e [] rfl
      simp only [List.length_nil] at hi
      cases h1 : e.all fun x => decide (ivGd x) with
      | true =>
        rw [h1] at hi
        refine Evt.inr (Evt.diag hi) (Evt.ctrue (by simp; omega) ?_)
        simp only [List.all_cons, h1, Bool.true_and]
        simpa using ih
      | false =>
        rw [h1] at hi
        refine Evt.inl (Evt.diag hi) ?_
        simp only [List.all_cons, h1, Bool.false_and]
        exact .pure
  have h0 := key m [] rfl
  simp only [List.length_nil, List.map_nil] at h0
  have ht : tab ivGd m = ((m.all fun row => row.all fun x => decide (ivGd x)) && (decide (1 ≤ (m.length : Int) ∧ (m.length : Int) ≤ 3) && (m.map fun row => (row.length : Int)).all fun x => decide ((m.length : Int) ≤ x ∧ x ≤ (m.length : Int)))) := by
    unfold tab
    rw [Bool.eq_iff_iff]
    simp only [Bool.and_eq_true, List.all_eq_true, decide_eq_true_eq, List.mem_map, forall_exists_index, and_imp]
    constructor
    · rintro ⟨⟨h1, h2⟩, h3⟩
      refine ⟨fun r hr => (h3 r hr).2, ⟨by omega, by omega⟩, ?_⟩
      rintro x r hr rfl
      have := (h3 r hr).1
      omega
    · rintro ⟨h1, ⟨h2, h3⟩, h4⟩
      refine ⟨⟨by omega, by omega⟩, fun r hr => ⟨?_, h1 r hr⟩⟩
      have := h4 _ r hr rfl
      omega
  rw [ht]
  cases hall : (m.all fun row => row.all fun x => decide (ivGd x)) with
  | true =>
    rw [hall] at h0
    exact Evt.inr (Evt.diag h0) (Evt.bind (square_ev (by simp only [List.length_map, lenB]; omega)) .pure)
  | false =>
    rw [hall] at h0
    exact Evt.inl (Evt.diag h0) .pure
end Go.Ev.G
namespace Go.Ev.G
open Go Go.Ev
set_option maxRecDepth 100000

/-! The rows of a table of intervals, and their sums. -/
def magI (x : (Int × Int) × Int × Int) : Int × Int := if sv (absD x.1) < sv (absD x.2) then absD x.2 else absD x.1
theorem magI_gd {x : (Int × Int) × Int × Int} (h : ivGd x) : gd (magI x) := by
  unfold magI
  split
  · exact absD_gd h.2.1
  · exact absD_gd h.1
def irow (row : List ((Int × Int) × Int × Int)) : Option (Int × Int) := osum (0, 0) (row.map magI)
def below1 (o : Option (Int × Int)) : Bool := decide (sv (o.getD (0, 0)) < sv (1, 0))
def shV (m : List (List ((Int × Int) × Int × Int))) : Bool × Bool := if (m.all fun r => (irow r).isSome) then (m.all fun r => below1 (irow r), true) else (false, false)

theorem tab_all {α : Type} {g : α → Prop} [DecidablePred g] {m : List (List α)} (h : tab g m = true) : ∀ r ∈ m, (r.length = m.length ∧ 1 ≤ m.length ∧ m.length ≤ 3) ∧ ∀ x ∈ r, g x := by
  unfold tab at h
  simp only [Bool.and_eq_true, List.all_eq_true, decide_eq_true_eq] at h
  intro r hr
  exact ⟨⟨(h.2 r hr).1, h.1⟩, (h.2 r hr).2⟩

theorem one_gd : gd (1, 0) := by decide
theorem osum_getD {s : Int × Int} {xs : List (Int × Int)} (hs : gd s) : gd ((osum s xs).getD (0, 0)) := by
  cases h : osum s xs with
  | none => decide
  | some t => exact osum_gd _ _ _ hs h

theorem mxShrinking_ev {m : List (List ((Int × Int) × Int × Int))} (hb : m.length < 274877906944) (hm : ∀ r ∈ m, r.length < lenB) (hg : ∀ r ∈ m, ∀ x ∈ r, ivGd x) : Evt (fun k _ => spec_mxShrinking k m) (shV m) := by
  refine Evt.eq (f := fun k q => _) ?_ (fun k q => by rw [spec_mxShrinking])
  have inner : ∀ (x4 : Bool) (x13 : List (List ((Int × Int) × Int × Int))) (x14 x15 : Int) (xs : List ((Int × Int) × Int × Int)), xs.length < lenB → (∀ x ∈ xs, ivGd x) → ∀ (r d : List ((Int × Int) × Int × Int)) (s : Int × Int), gd s → d ++ r = xs →
      Evt (fun k n => spec_mxShrinking_L59802 k n x4 s x13 x14 x15 xs (xs.length : Int) d.length) (match osum s (r.map magI) with | some t => .inr (x4, t, x13, x14, x15, ()) | none => .inl (false, false)) := by
    intro x4 x13 x14 x15 xs hb hxs r
    induction r with
    | nil =>
      intro d s hs h
      refine Evt.step (fun k n => spec_mxShrinking_L59802.eq_2 k _ _ _ _ _ _ _ _ n) ?_
      rw [List.append_nil] at h
      subst h
      exact Evt.rng0 .pure
    | cons e r ih =>
      intro d s hs h
      refine Evt.step (fun k n => spec_mxShrinking_L59802.eq_2 k _ _ _ _ _ _ _ _ n) ?_
      have he : ivGd e := hxs e (by rw [← h]; simp)
      have ih := ih (d ++ [e]) (sumD s (magI e)).1 (sumD_gd _ _) (by simpa using h)
      rw [← len_next (r := r) (by rw [h]; exact hb)] at ih
      subst h
      refine Evt.ctrue mid_lt (Evt.ctrue mid_ge (Evt.ctrue mid_lt ?_))
      rw [mid_get]
      refine Evt.bind (.const (mxAbs_eq he.1)) ?_
      refine Evt.inr (y := (x4, s, magI e, x13, x14, x15, d ++ e :: r, ((d ++ e :: r).length : Int), (d.length : Int), ())) ?_ ?_
      · refine Evt.bind (.const (mxAbs_eq he.2.1)) (Evt.bind (dyCmp_ev (absD_gd he.1) (absD_gd he.2.1)) ?_)
        rw [cmpI_lt]
        unfold magI
        by_cases hh : sv (absD e.1) < sv (absD e.2)
        · rw [if_pos hh]
          exact Evt.ctrue (decide_eq_true hh) (Evt.bind (.const (mxAbs_eq he.2.1)) .pure)
        · rw [if_neg hh]
          exact Evt.cfalse (decide_eq_false hh) .pure
      · refine Evt.bind (dyAdd_ev hs (magI_gd he)) ?_
        rw [List.map_cons, osum]
        cases hh : (sumD s (magI e)).2 with
        | true => exact Evt.cfalse rfl ih
        | false => exact Evt.ctrue rfl .pure
  have key : ∀ (r d : List (List ((Int × Int) × Int × Int))), d ++ r = m → Evt (fun k n => spec_mxShrinking_L58 k n (d.all fun r => below1 (irow r)) m (m.length : Int) d.length) (if (r.all fun r => (irow r).isSome) then .inr (m.all fun r => below1 (irow r), ()) else .inl (false, false)) := by
    intro r
    induction r with
    | nil =>
      intro d h
      refine Evt.step (fun k n => spec_mxShrinking_L58.eq_2 k _ _ _ _ n) ?_
      rw [List.append_nil] at h
      subst h
      exact Evt.rng0 .pure
    | cons e r ih =>
      intro d h
      refine Evt.step (fun k n => spec_mxShrinking_L58.eq_2 k _ _ _ _ n) ?_
      have hme : e ∈ m := by rw [← h]; simp
      have ih := ih (d ++ [e]) (by simpa using h)
      rw [← len_next (r := r) (by rw [h]; simp only [lenB]; omega)] at ih
      have hi := inner (d.all fun r => below1 (irow r)) m (m.length : Int) (d.length : Int) e (hm e hme) (hg e hme) e [] (0, 0) (by decide) rfl
      simp only [List.length_nil] at hi
      generalize hall : (m.all fun r => below1 (irow r)) = all at ih ⊢
      subst h
      refine Evt.ctrue mid_lt (Evt.ctrue mid_ge (Evt.ctrue mid_lt ?_))
      rw [mid_get]
      change Evt _ (if ((irow e).isSome && r.all fun r => (irow r).isSome) then _ else _)
      have hd : ((d ++ [e]).all fun r => below1 (irow r)) = ((d.all fun r => below1 (irow r)) && below1 (irow e)) := by simp
      rw [hd] at ih
      cases ho : irow e with
      | none =>
        rw [show osum (0, 0) (e.map magI) = none from ho] at hi
        exact Evt.inl (Evt.diag hi) .pure
      | some t =>
        rw [show osum (0, 0) (e.map magI) = some t from ho] at hi
        refine Evt.inr (Evt.diag hi) ?_
        simp only [Option.isSome_some, Bool.true_and]
        rw [ho] at ih
        cases hb : (d.all fun r => below1 (irow r)) with
        | true =>
          rw [hb, Bool.true_and] at ih
          refine Evt.ctrue rfl (Evt.bind (.const rfl) (Evt.bind (dyCmp_ev (osum_gd _ _ _ (by decide) ho) one_gd) ?_))
          rw [cmpI_lt]
          exact ih
        | false =>
          rw [hb, Bool.false_and] at ih
          exact Evt.cfalse rfl ih
  have h0 := key m [] rfl
  simp only [List.length_nil, List.all_nil] at h0
  unfold shV
  cases hall : m.all fun r => (irow r).isSome with
  | true => rw [hall] at h0; exact Evt.inr (Evt.diag h0) .pure
  | false => rw [hall] at h0; exact Evt.inl (Evt.diag h0) .pure

theorem greater_ev {a b : Int × Int} (ha : gd a) (hb : gd b) : Evt (fun k _ => impl_greater k a b) (if sv a < sv b then b else a) := by
  refine Evt.eq (f := fun k q => _) ?_ (fun k q => by rw [impl_greater])
  refine Evt.bind (compareD_ev hb ha) ?_
  rw [cmpI_gt]
  by_cases h : sv a < sv b
  · rw [if_pos h]; exact Evt.ctrue (decide_eq_true h) .pure
  · rw [if_neg h]; exact Evt.cfalse (decide_eq_false h) .pure

theorem impl_isShrinking_ev {m : List (List ((Int × Int) × Int × Int))} (ht : tab ivGd m = true) : Evt (fun k _ => impl_isShrinking k m) (shV m) := by
  refine Evt.eq (f := fun k q => _) ?_ (fun k q => by rw [impl_isShrinking])
  have hg := tab_all ht
  have hb : m.length < lenB := by
    unfold tab at ht
    simp only [Bool.and_eq_true, decide_eq_true_eq] at ht
    have := ht.1.2
    simp only [lenB]; omega
  have inner : ∀ (x4 x5 : Bool) (x13 : List (List ((Int × Int) × Int × Int))) (x14 x15 : Int) (xs : List ((Int × Int) × Int × Int)), xs.length ≤ 3 → (∀ x ∈ xs, ivGd x) → ∀ (r d : List ((Int × Int) × Int × Int)), d ++ r = xs →
      Evt (fun k n => impl_isShrinking_L125338 k n x4 x5 (d.map magI) x13 x14 x15 xs (xs.length : Int) d.length) (.inr (x4, x5, xs.map magI, x13, x14, x15, ())) := by
    intro x4 x5 x13 x14 x15 xs hb hxs r
    induction r with
    | nil =>
      intro d h
      refine Evt.step (fun k n => impl_isShrinking_L125338.eq_2 k _ _ _ _ _ _ _ _ _ n) ?_
      rw [List.append_nil] at h
      subst h
      exact Evt.rng0 .pure
    | cons e r ih =>
      intro d h
      refine Evt.step (fun k n => impl_isShrinking_L125338.eq_2 k _ _ _ _ _ _ _ _ _ n) ?_
      have he : ivGd e := hxs e (by rw [← h]; simp)
      have ih := ih (d ++ [e]) (by simpa using h)
      rw [← len_next (r := r) (by rw [h]; simp only [lenB]; omega)] at ih
      have hl := congrArg List.length h
      simp at hl
      subst h
      refine Evt.ctrue mid_lt (Evt.ctrue mid_ge (Evt.ctrue mid_lt ?_))
      rw [mid_get]
      refine Evt.bind (.const (minus_eq he.1)) (Evt.bind (greater_abs_ev he.1) (Evt.bind (.const (minus_eq he.2.1)) (Evt.bind (greater_abs_ev he.2.1) (Evt.bind (greater_ev (absD_gd he.1) (absD_gd he.2.1)) (Evt.ctrue (by simp; omega) ?_)))))
      rw [List.map_append] at ih
      exact ih
  have key : ∀ (r d : List (List ((Int × Int) × Int × Int))) (b s : Bool), d ++ r = m → b = (d.all fun r => (irow r).isSome) → (b = true → s = d.all fun r => below1 (irow r)) →
      ∃ s', ((m.all fun r => (irow r).isSome) = true → s' = m.all fun r => below1 (irow r)) ∧ Evt (fun k n => impl_isShrinking_L122 k n b s m (m.length : Int) d.length) (.inr (m.all fun r => (irow r).isSome, s', ())) := by
    intro r
    induction r with
    | nil =>
      intro d b s h hbd ho
      rw [List.append_nil] at h
      subst h
      refine ⟨s, fun hh => ho (by rw [hbd, hh]), ?_⟩
      refine Evt.step (fun k n => impl_isShrinking_L122.eq_2 k _ _ _ _ _ n) ?_
      rw [← hbd]
      exact Evt.rng0 .pure
    | cons e r ih =>
      intro d b s h hbd ho
      have hme : e ∈ m := by rw [← h]; simp
      have hge := hg e hme
      obtain ⟨x, xs, rfl⟩ : ∃ x xs, e = x :: xs := by
        cases e with
        | nil => have := hge.1; simp at this; omega
        | cons x xs => exact ⟨x, xs, rfl⟩
      have hxg : ivGd x := hge.2 x (by simp)
      have hfs : irow (x :: xs) = osum (magI x) (xs.map magI) := by
        unfold irow
        rw [List.map_cons, osum, sumD_zero (magI_gd hxg)]
        rfl
      have hb2 : (fsum b (magI x) (xs.map magI)).2 = ((d ++ [x :: xs]).all fun r => (irow r).isSome) := by
        rw [List.all_append, ← hbd]
        simp only [List.all_cons, List.all_nil, Bool.and_true, hfs]
        cases b with
        | false => rw [fsum_false]; rfl
        | true => rw [fsum_true]; cases osum (magI x) (xs.map magI) <;> rfl
      obtain ⟨s', h1, h2⟩ := ih (d ++ [x :: xs]) (fsum b (magI x) (xs.map magI)).2 (if sv (fsum b (magI x) (xs.map magI)).1 < sv (1, 0) then s else false) (by simpa using h) hb2 (by
        intro hh
        cases b with
        | false => rw [fsum_false] at hh; cases hh
        | true =>
          rw [List.all_append, ← ho rfl]
          simp only [List.all_cons, List.all_nil, Bool.and_true, hfs]
          rw [fsum_true] at hh ⊢
          cases hos : osum (magI x) (xs.map magI) with
          | none => rw [hos] at hh; cases hh
          | some t =>
            simp only [below1, Option.getD_some]
            split
            · rename_i h5; simp [h5]
            · rename_i h5; simp [h5])
      refine ⟨s', h1, Evt.step (fun k n => impl_isShrinking_L122.eq_2 k _ _ _ _ _ n) ?_⟩
      have hi := inner b s m (m.length : Int) (d.length : Int) (x :: xs) (by have := hge.1; omega) hge.2 (x :: xs) [] rfl
      simp only [List.length_nil, List.map_nil] at hi
      rw [← len_next (r := r) (by rw [h]; exact hb)] at h2
      generalize hres : (Sum.inr ((m.all fun r => (irow r).isSome), s', ()) : (Bool × Bool) ⊕ (Bool × Bool × Unit)) = res at h2 ⊢
      subst h
      refine Evt.ctrue mid_lt (Evt.ctrue mid_ge (Evt.ctrue mid_lt ?_))
      rw [mid_get]
      refine Evt.inr (Evt.diag hi) (Evt.bind (total_ev (magI_gd hxg) (by
        intro y hy
        obtain ⟨z, hz, rfl⟩ := List.mem_map.1 hy
        exact magI_gd (hge.2 z (by simp [hz]))) (by have := hge.1; simp only [List.length_cons] at this; simp only [List.length_map, lenB]; omega)) (Evt.bind (.const rfl) (Evt.bind (compareD_ev (fsum_gd _ _ _ (magI_gd hxg)) one_gd) ?_)))
      rw [cmpI_lt]
      by_cases h5 : sv (fsum b (magI x) (xs.map magI)).1 < sv (1, 0)
      · rw [if_pos h5] at h2
        exact Evt.ctrue (decide_eq_true h5) h2
      · rw [if_neg h5] at h2
        exact Evt.cfalse (decide_eq_false h5) h2
  obtain ⟨s', h1, h2⟩ := key m [] true true rfl rfl (fun _ => rfl)
  simp only [List.length_nil] at h2
  refine Evt.inr (Evt.diag h2) ?_
  unfold shV
  cases hall : m.all fun r => (irow r).isSome with
  | true => rw [h1 hall]; exact Evt.ctrue rfl .pure
  | false => exact Evt.cfalse rfl .pure

def isV (m : List (List ((Int × Int) × Int × Int))) : Bool × Bool := if tab ivGd m then shV m else (false, false)
theorem intactV_ev {a : List (List ((Int × Int) × Int × Int))} (h : Sized a) : Evt (fun k _ => laws_intactIntervalSS k (toV (fun x => toV id fV x false) ([fV], []) a false) (toV (fun x => toV id fV x false) ([fV], []) a false)) true := by
  refine intactIntervalSS_ev (room_toV h.len) ?_ ?_
  · intro y hy
    simp [toV] at hy
    obtain ⟨x, hx, rfl⟩ := hy
    exact ⟨by simp, h.row x hx⟩
  · intro y hy
    simp [toV] at hy
    rw [hy.2]; simp [lenB]

theorem isShrinking_law (a : List (List ((Int × Int) × Int × Int))) (ha : a.length ≤ maxLen) (hm : ∀ x ∈ a, x.length ≤ maxLen) : ∃ k, laws_FnExactIsShrinking k a = some true := by
  refine Evt.get (Evt.eq (f := fun k q => _) ?_ (fun k q => by rw [laws_FnExactIsShrinking]))
  refine Evt.bind (szIntervalSS_ev (a := 1000000) ha hm (by omega)) ?_
  by_cases hz : a.length + (a.map List.length).sum ≤ 1000000
  · rw [if_pos hz]
    have hs : Sized a := hz
    refine Evt.cfalse (by simp <;> omega) ?_
    have hb : a.length < 274877906944 := by have := hs.len; omega
    have hr : ∀ r ∈ a, r.length < lenB := fun r hr => by have := hs.row r hr; simp only [lenB]; omega
    have spec : Evt (fun k _ => spec_IsShrinking k a) (isV a) := by
      refine Evt.eq (f := fun k q => _) ?_ (fun k q => by rw [spec_IsShrinking])
      refine Evt.bind (mxFits_ev hb hr) ?_
      unfold isV
      cases ht : tab ivGd a with
      | false => exact Evt.ctrue rfl .pure
      | true => exact Evt.cfalse rfl (Evt.bind (mxShrinking_ev hb hr (fun r hr => (tab_all ht r hr).2)) .pure)
    have impl : Evt (fun k _ => impl_IsShrinking k a) (isV a) := by
      refine Evt.eq (f := fun k q => _) ?_ (fun k q => by rw [impl_IsShrinking])
      refine Evt.bind (isIntervalTable_ev (by simp only [lenB]; omega) hr) ?_
      unfold isV
      cases ht : tab ivGd a with
      | false => exact Evt.ctrue rfl .pure
      | true => exact Evt.cfalse rfl (Evt.bind (impl_isShrinking_ev ht) .pure)
    refine Evt.bind (toIntervalSS_ev hs.len hs.row) ?_
    simp only [toV_rows]
    refine Evt.bind spec (Evt.bind (toIntervalSS_ev hs.len hs.row) ?_)
    simp only [toV_rows]
    refine Evt.bind impl (Evt.cfalse (by simp) (Evt.cfalse (by simp) (Evt.bind (toIntervalSS_ev hs.len hs.row) (Evt.bind (intactV_ev hs) (Evt.cfalse rfl (Evt.bind (toIntervalSS_ev hs.len hs.row) ?_))))))
    simp only [toV_rows]
    exact Evt.bind impl (Evt.cfalse (by simp) (Evt.cfalse (by simp) .pure))
  · rw [if_neg hz]
    exact Evt.ctrue rfl .pure
abbrev tInterval : Ty := .pair tDyadic tDyadic
theorem isShrinking_row (a : List (List ((Int × Int) × Int × Int))) (h : WfT (.sl (.sl tInterval)) a) : ∃ k, laws_FnExactIsShrinking k a = some true := isShrinking_law a h.1 (fun x hx => (h.2 x hx).1)
end Go.Ev.G
namespace Go.Ev.G
open Go Go.Ev
set_option maxRecDepth 100000

theorem two_lt {α β : Type} {d r : List α} {d' r' : List β} {e' : β} (h : d.length = d'.length) : decide ((d.length : Int) < ((d' ++ e' :: r').length : Int)) = true := by simp; omega
theorem two_get {α β : Type} {d : List α} {d' r' : List β} {e' z : β} (h : d.length = d'.length) : (d' ++ e' :: r').getD (Int.toNat (d.length : Int)) z = e' := by rw [h]; exact mid_get

theorem min64 {m : Nat} (h : m ≤ 64) : min (Int.toNat (m : Int)) (IntKind.bits .i64) = m := by
  rw [Int.toNat_natCast]; exact Nat.min_eq_left (by simp only [IntKind.bits]; omega)

theorem fitD_ev {n : Int} {p : Nat} (h1 : -9223372036854775808 < n) (h2 : n < 9223372036854775808) (hp : p < 9223372036854775808) : Evt (fun k _ => impl_wide_fit k (wN (decide (n < 0)) n.natAbs) (p : Int)) (mkD n p) := by
  have := fit_ev (neg := decide (n < 0)) (M := n.natAbs) (m := p) (by simp only [B64]; omega) hp
  rw [wV_of] at this
  exact this

end Go.Ev.G
