/- What the plain functions of the laws compute, for all inputs within the sizes that the theorems name. -/
import Derived.Test.YtijllgpgnmdfdaaA4
set_option linter.unusedVariables false
namespace Go.Ev.G
open Go Go.Ev
set_option maxRecDepth 100000

def cols (b : List Pt) : List Pt := (List.range b.length).map fun j => b.map fun r => r.getD j (0, 0)
def mulRow (b : List Pt) (row : Pt) : Option Pt := if ((cols b).all fun c => (inn row c).isSome) then some ((cols b).map fun c => (inn row c).getD (0, 0)) else none
def mtV (a b : List Pt) : List Pt × Bool :=
  if tab gd a && (tab gd b && (decide (a.length = b.length) && a.all fun r => (mulRow b r).isSome)) then (a.map fun r => (mulRow b r).getD [], true) else ([], false)

theorem cols_len (b : List Pt) : (cols b).length = b.length := by simp [cols]
theorem cols_at {b d r : List Pt} {e : Pt} (h : d ++ e :: r = cols b) : e = (b.map fun r => r.getD d.length (0, 0)) ∧ d.length < b.length := by
  have hl := congrArg List.length h
  rw [cols_len] at hl
  simp at hl
  have h1 : d.length < b.length := by omega
  have h2 : (d ++ e :: r)[d.length]? = some e := by simp
  rw [h] at h2
  unfold cols at h2
  rw [List.getElem?_map, List.getElem?_range h1] at h2
  simp only [Option.map_some, Option.some.injEq] at h2
  exact ⟨h2.symm, h1⟩
theorem getD_mem {r : Pt} {j : Nat} (h : j < r.length) : r.getD j (0, 0) ∈ r := by
  rw [List.getD_eq_getElem?_getD, List.getElem?_eq_getElem h]
  exact List.getElem_mem h

theorem mxColumn_ev {b : List Pt} {j : Nat} (hb : b.length < 274877906944) (hj : ∀ r ∈ b, j < r.length) : Evt (fun k _ => spec_mxColumn k b j) (b.map fun r => r.getD j (0, 0)) := by
  refine Evt.eq (f := fun k q => _) ?_ (fun k q => by rw [spec_mxColumn])
  have key : ∀ (r d : List Pt), d ++ r = b → Evt (fun k n => spec_mxColumn_L58 k n j (d.map fun r => r.getD j (0, 0)) b (b.length : Int) d.length) (.inr (b.map fun r => r.getD j (0, 0), ())) := by
    intro r
    induction r with
    | nil =>
      intro d h
      refine Evt.step (fun k n => spec_mxColumn_L58.eq_2 k _ _ _ _ _ n) ?_
      rw [List.append_nil] at h
      subst h
      exact Evt.rng0 .pure
    | cons e r ih =>
      intro d h
      refine Evt.step (fun k n => spec_mxColumn_L58.eq_2 k _ _ _ _ _ n) ?_
      have hje := hj e (by rw [← h]; simp)
      have ih := ih (d ++ [e]) (by simpa using h)
      rw [← len_next (r := r) (by rw [h]; simp only [lenB]; omega)] at ih
      have hl := congrArg List.length h
      simp at hl
      subst h
      refine Evt.ctrue mid_lt (Evt.ctrue mid_ge (Evt.ctrue mid_lt ?_))
      rw [mid_get]
      refine Evt.ctrue mid_ge (Evt.ctrue (decide_eq_true (by omega)) (Evt.ctrue (by simp; omega) ?_))
      rw [List.map_append] at ih
      exact ih
  exact Evt.inr (Evt.diag (key b [] rfl)) .pure

theorem spec_multiply_ev {a b : List Pt} (hb : a.length < 274877906944) (hm : ∀ r ∈ a, r.length < lenB) (hb' : b.length < 274877906944) (hm' : ∀ r ∈ b, r.length < lenB) : Evt (fun k _ => spec_MultiplyTables k a b) (mtV a b) := by
  refine Evt.eq (f := fun k q => _) ?_ (fun k q => by rw [spec_MultiplyTables])
  refine Evt.bind (mxGood_ev hb hm) ?_
  unfold mtV
  cases ht : tab gd a with
  | false => exact Evt.ctrue rfl .pure
  | true =>
  refine Evt.cfalse rfl (Evt.bind (mxGood_ev hb' hm') ?_)
  cases ht' : tab gd b with
  | false => exact Evt.ctrue rfl .pure
  | true =>
  refine Evt.cfalse rfl ?_
  by_cases hl : ¬ a.length = b.length
  · refine Evt.ctrue (by rw [bne_iff_ne]; omega) ?_
    rw [decide_eq_false hl]
    exact .pure
  have hl := Decidable.not_not.1 hl
  refine Evt.cfalse (by simp [hl]) ?_
  rw [decide_eq_true hl]
  have hg := tab_gd ht
  have hg' := tab_gd ht'
  have inner : ∀ (row : Pt) (x6 x28 : List Pt) (x29 x30 : Int), row.length = b.length → row.length < lenB → (∀ x ∈ row, gd x) → ∀ (r d : List Pt), d ++ r = cols b →
      Evt (fun k n => spec_MultiplyTables_L125338 k n b x6 row (d.map fun c => (inn row c).getD (0, 0)) x28 x29 x30 (b.length : Int) d.length) (if (r.all fun c => (inn row c).isSome) then .inr (b, x6, (cols b).map fun c => (inn row c).getD (0, 0), x28, x29, x30, ()) else .inl ([], false)) := by
    intro row x6 x28 x29 x30 hrl hrb hrg r
    induction r with
    | nil =>
      intro d h
      refine Evt.step (fun k n => spec_MultiplyTables_L125338.eq_2 k _ _ _ _ _ _ _ _ _ n) ?_
      rw [List.append_nil] at h
      rw [h, cols_len]
      exact Evt.cfalse (decide_eq_false (by omega)) .pure
    | cons e r ih =>
      intro d h
      obtain ⟨he, hd⟩ := cols_at h
      refine Evt.step (fun k n => spec_MultiplyTables_L125338.eq_2 k _ _ _ _ _ _ _ _ _ n) (Evt.ctrue (decide_eq_true (by omega)) ?_)
      have ih := ih (d ++ [e]) (by simpa using h)
      rw [← len_next (e := e) (r := r) (by rw [h, cols_len]; simp only [lenB]; omega)] at ih
      refine Evt.bind (mxColumn_ev hb' (fun r hr => by have := (hg' r hr).1; omega)) ?_
      rw [← he]
      refine Evt.bind (mxSum_ev (xs := row) (ys := e) hrb (by rw [he]; simpa using hrl) hrg (by
        intro y hy
        rw [he] at hy
        obtain ⟨q, hq, rfl⟩ := List.mem_map.1 hy
        exact (hg' q hq).2 _ (getD_mem (by have := (hg' q hq).1; omega)))) ?_
      rw [List.map_append, List.map_cons] at ih
      cases ho : inn row e with
      | none =>
        simp only [List.all_cons, ho, Option.isSome_none, Bool.false_and]
        exact Evt.ctrue rfl .pure
      | some t =>
        rw [ho] at ih
        simp only [List.all_cons, ho, Option.isSome_some, Bool.true_and]
        exact Evt.cfalse rfl (Evt.ctrue (by simp; omega) ih)
  have key : ∀ (r d : List Pt), d ++ r = a → Evt (fun k n => spec_MultiplyTables_L122 k n b (d.map fun r => (mulRow b r).getD []) a (a.length : Int) d.length) (if (r.all fun r => (mulRow b r).isSome) then .inr (a.map fun r => (mulRow b r).getD [], ()) else .inl ([], false)) := by
    intro r
    induction r with
    | nil =>
      intro d h
      refine Evt.step (fun k n => spec_MultiplyTables_L122.eq_2 k _ _ _ _ _ n) ?_
      rw [List.append_nil] at h
      subst h
      exact Evt.rng0 .pure
    | cons e r ih =>
      intro d h
      refine Evt.step (fun k n => spec_MultiplyTables_L122.eq_2 k _ _ _ _ _ n) ?_
      have hme : e ∈ a := by rw [← h]; simp
      have hge := hg e hme
      have hi := inner e (d.map fun r => (mulRow b r).getD []) a (a.length : Int) (d.length : Int) (by omega) (hm e hme) hge.2 (cols b) [] rfl
      simp only [List.length_nil, List.map_nil] at hi
      have ih := ih (d ++ [e]) (by simpa using h)
      rw [← len_next (r := r) (by rw [h]; simp only [lenB]; omega)] at ih
      have hxl := congrArg List.length h
      simp at hxl
      subst h
      refine Evt.ctrue mid_lt (Evt.ctrue mid_ge (Evt.ctrue mid_lt ?_))
      rw [mid_get]
      rw [List.map_append, List.map_cons] at ih
      cases hall : (cols b).all fun c => (inn e c).isSome with
      | false =>
        rw [hall] at hi
        have hmr : mulRow b e = none := by unfold mulRow; rw [hall]; rfl
        simp only [List.all_cons, hmr, Option.isSome_none, Bool.false_and]
        exact Evt.inl (Evt.diag hi) .pure
      | true =>
        rw [hall] at hi
        have hmr : mulRow b e = some ((cols b).map fun c => (inn e c).getD (0, 0)) := by unfold mulRow; rw [hall]; rfl
        rw [hmr] at ih
        simp only [List.all_cons, hmr, Option.isSome_some, Bool.true_and]
        exact Evt.inr (Evt.diag hi) (Evt.ctrue (by simp; omega) ih)
  have h0 := key a [] rfl
  simp only [List.length_nil, List.map_nil] at h0
  cases hall : a.all fun r => (mulRow b r).isSome with
  | true => rw [hall] at h0; exact Evt.inr (Evt.diag h0) .pure
  | false => rw [hall] at h0; exact Evt.inl (Evt.diag h0) .pure

theorem impl_multiply_ev {a b : List Pt} (hb : a.length < lenB) (hm : ∀ r ∈ a, r.length < lenB) (hb' : b.length < lenB) (hm' : ∀ r ∈ b, r.length < lenB) : Evt (fun k _ => impl_MultiplyTables k a b) (mtV a b) := by
  refine Evt.eq (f := fun k q => _) ?_ (fun k q => by rw [impl_MultiplyTables])
  refine Evt.bind (isTable_ev hb hm) ?_
  unfold mtV
  cases ht : tab gd a with
  | false => exact Evt.ctrue rfl .pure
  | true =>
  refine Evt.cfalse rfl (Evt.bind (isTable_ev hb' hm') ?_)
  cases ht' : tab gd b with
  | false => exact Evt.ctrue rfl .pure
  | true =>
  refine Evt.cfalse rfl ?_
  by_cases hl : ¬ a.length = b.length
  · refine Evt.ctrue (by rw [bne_iff_ne]; omega) ?_
    rw [decide_eq_false hl]
    exact .pure
  have hl := Decidable.not_not.1 hl
  refine Evt.cfalse (by simp [hl]) ?_
  rw [decide_eq_true hl]
  have hg := tab_gd ht
  have hg' := tab_gd ht'
  have column : ∀ (x6 : Bool) (x7 : List Pt) (x8 : Int) (x9 : Pt) (j : Nat) (x31 x32 x36 x37 : Int), j < b.length → ∀ (r d : List Pt), d ++ r = b →
      Evt (fun k n => impl_MultiplyTables_L262564250 k n a b x6 x7 x8 x9 (j : Int) (d.map fun r => r.getD j (0, 0)) x31 x32 x36 x37 (b.length : Int) d.length) (.inr (a, b, x6, x7, x8, x9, b.map fun r => r.getD j (0, 0), x31, x32, x36, x37, ())) := by
    intro x6 x7 x8 x9 j x31 x32 x36 x37 hj r
    induction r with
    | nil =>
      intro d h
      refine Evt.step (fun k n => impl_MultiplyTables_L262564250.eq_2 k _ _ _ _ _ _ _ _ _ _ _ _ _ _ n) ?_
      rw [List.append_nil] at h
      rw [h]
      exact Evt.rng0 .pure
    | cons e r ih =>
      intro d h
      refine Evt.step (fun k n => impl_MultiplyTables_L262564250.eq_2 k _ _ _ _ _ _ _ _ _ _ _ _ _ _ n) ?_
      have hje := (hg' e (by rw [← h]; simp)).1
      have ih := ih (d ++ [e]) (by simpa using h)
      rw [← len_next (r := r) (by rw [h]; exact hb')] at ih
      have hxl := congrArg List.length h
      simp at hxl
      rw [List.map_append] at ih
      have e1 : (b.getD (Int.toNat (d.length : Int)) []) = e := by rw [← h]; exact mid_get
      refine Evt.ctrue (by rw [← h]; exact mid_lt) (Evt.ctrue mid_ge (Evt.ctrue (by rw [← h]; exact mid_lt) ?_))
      rw [e1]
      exact Evt.ctrue mid_ge (Evt.ctrue (decide_eq_true (by omega)) (Evt.ctrue (by simp; omega) ih))
  have inner : ∀ (row : Pt) (i : Nat) (x7 : List Pt) (x31 x32 : Int), a.getD (Int.toNat (i : Int)) [] = row → i < a.length → row ∈ a → ∀ (b0 : Bool) (r d : List Pt) (c : Bool) (o : Pt), d ++ r = cols b → Flag (fun c => inn row c) (0, 0) b0 d c o →
      ∃ c' o', Flag (fun c => inn row c) (0, 0) b0 (cols b) c' o' ∧ Evt (fun k n => impl_MultiplyTables_L256410 k n a b c x7 (i : Int) o x31 x32 (b.length : Int) d.length) (.inr (a, b, c', x7, o', x31, x32, ())) := by
    intro row i x7 x31 x32 hrow hi hra b0 r
    have hgr := hg row hra
    induction r with
    | nil =>
      intro d c o h hf
      rw [List.append_nil] at h
      subst h
      refine ⟨c, o, hf, Evt.step (fun k n => impl_MultiplyTables_L256410.eq_2 k _ _ _ _ _ _ _ _ _ _ n) ?_⟩
      rw [cols_len]
      exact Evt.cfalse (decide_eq_false (by omega)) .pure
    | cons e r ih =>
      intro d c o h hf
      obtain ⟨he, hd⟩ := cols_at h
      obtain ⟨v, hv, hev⟩ := inner_ev (b := c) (xs := row) (ys := e) (by omega) (by omega) (by rw [he]; simp; omega) hgr.2 (by
        intro y hy
        rw [he] at hy
        obtain ⟨q, hq, rfl⟩ := List.mem_map.1 hy
        exact (hg' q hq).2 _ (getD_mem (by have := (hg' q hq).1; omega)))
      obtain ⟨c', o', q1, q2⟩ := ih (d ++ [e]) _ _ (by simpa using h) (Flag.step hf hv)
      refine ⟨c', o', q1, Evt.step (fun k n => impl_MultiplyTables_L256410.eq_2 k _ _ _ _ _ _ _ _ _ _ n) ?_⟩
      rw [← len_next (r := r) (by rw [h, cols_len]; exact hb')] at q2
      have hcol := column c x7 (i : Int) o d.length x31 x32 (b.length : Int) (d.length : Int) hd b [] rfl
      simp only [List.length_nil, List.map_nil] at hcol
      rw [← he] at hcol
      have hol := hf.1
      refine Evt.ctrue (decide_eq_true (by omega)) (Evt.inr (Evt.diag hcol) (Evt.ctrue mid_ge (Evt.ctrue (decide_eq_true (show (i : Int) < (a.length : Int) by omega)) ?_)))
      simp only [hrow]
      exact Evt.bind hev (Evt.ctrue (by simp; omega) q2)
  have key : ∀ (r d : List Pt) (c : Bool) (o : List Pt), d ++ r = a → Flag (mulRow b) [] true d c o →
      ∃ c' o', Flag (mulRow b) [] true a c' o' ∧ Evt (fun k n => impl_MultiplyTables_L250 k n a b c o (a.length : Int) d.length) (.inr (c', o', ())) := by
    intro r
    induction r with
    | nil =>
      intro d c o h hf
      rw [List.append_nil] at h
      subst h
      exact ⟨c, o, hf, Evt.step (fun k n => impl_MultiplyTables_L250.eq_2 k _ _ _ _ _ _ n) (Evt.cfalse (decide_eq_false (by omega)) .pure)⟩
    | cons e r ih =>
      intro d c o h hf
      have hxl := congrArg List.length h
      simp at hxl
      have hme : e ∈ a := by rw [← h]; simp
      obtain ⟨c1, o1, ⟨f1, f2, f3⟩, q0⟩ := inner e d.length o (a.length : Int) (d.length : Int) (by rw [← h]; exact mid_get) (by omega) hme c (cols b) [] c [] rfl Flag.nil
      simp only [List.length_nil] at q0
      have hst := Flag.step (e := e) (v := o1) hf (by
        intro hc hs
        subst hc
        unfold mulRow at hs ⊢
        split at hs
        · rename_i hall
          rw [if_pos hall, ← f3 (by rw [f2, hall]; rfl)]
        · cases hs)
      have e2 : (c && (mulRow b e).isSome) = c1 := by
        rw [f2]
        unfold mulRow
        cases (cols b).all fun c => (inn e c).isSome <;> rfl
      rw [e2] at hst
      obtain ⟨c', o', q1, q2⟩ := ih (d ++ [e]) c1 (o ++ [o1]) (by simpa using h) hst
      refine ⟨c', o', q1, Evt.step (fun k n => impl_MultiplyTables_L250.eq_2 k _ _ _ _ _ _ n) ?_⟩
      rw [← len_next (r := r) (by rw [h]; exact hb)] at q2
      have hol := hf.1
      exact Evt.ctrue (decide_eq_true (by omega)) (Evt.inr (Evt.diag q0) (Evt.ctrue (by have := (hg e hme).1; simp; omega) q2))
  obtain ⟨c', o', ⟨f1, f2, f3⟩, q2⟩ := key a [] true [] rfl Flag.nil
  rw [Bool.true_and] at f2
  simp only [List.length_nil] at q2
  refine Evt.inr (Evt.diag q2) ?_
  simp only [Bool.true_and]
  rw [← f2]
  cases c' with
  | true => rw [← f3 rfl]; exact Evt.cfalse rfl .pure
  | false => exact Evt.ctrue rfl .pure

theorem mtV_len {a b : List Pt} : (mtV a b).1.length ≤ 3 ∧ ∀ r ∈ (mtV a b).1, r.length ≤ 3 := by
  unfold mtV
  split
  · rename_i h
    simp only [Bool.and_eq_true, decide_eq_true_eq] at h
    have ha : a.length ≤ 3 := by
      have := h.1
      unfold tab at this
      simp only [Bool.and_eq_true, decide_eq_true_eq] at this
      exact this.1.2
    refine ⟨by simp; exact ha, ?_⟩
    intro r hr
    obtain ⟨x, _, rfl⟩ := List.mem_map.1 hr
    unfold mulRow
    split
    · simp [cols_len]; omega
    · simp
  · simp

theorem multiply_law (a b : List Pt) (ha : a.length ≤ maxLen) (hm : ∀ x ∈ a, x.length ≤ maxLen) (hb : b.length ≤ maxLen) (hm' : ∀ x ∈ b, x.length ≤ maxLen) : ∃ k, laws_FnExactMultiplyTables k a b = some true := by
  refine Evt.get (Evt.eq (f := fun k q => _) ?_ (fun k q => by rw [laws_FnExactMultiplyTables]))
  refine Evt.bind (szDyadicSS_ev (a := 1000000) ha hm (by omega)) ?_
  by_cases hz : a.length + (a.map List.length).sum ≤ 1000000
  · rw [if_pos hz]
    have hs : Sized a := hz
    refine Evt.cfalse (by simp <;> omega) (Evt.bind (szDyadicSS_ev hb hm' (by omega)) ?_)
    by_cases hy : b.length + (b.map List.length).sum ≤ 1000000 - (a.length + (a.map List.length).sum)
    · rw [if_pos hy]
      have hs' : Sized b := by unfold Sized; omega
      refine Evt.cfalse (by simp <;> omega) ?_
      have ab : a.length < 274877906944 := by have := hs.len; omega
      have bb : b.length < 274877906944 := by have := hs'.len; omega
      have ar : ∀ r ∈ a, r.length < lenB := fun r hr => by have := hs.row r hr; simp only [lenB]; omega
      have br : ∀ r ∈ b, r.length < lenB := fun r hr => by have := hs'.row r hr; simp only [lenB]; omega
      have spec := spec_multiply_ev ab ar bb br
      have impl := impl_multiply_ev (a := a) (b := b) (by simp only [lenB]; omega) ar (by simp only [lenB]; omega) br
      obtain ⟨l1, l2⟩ := mtV_len (a := a) (b := b)
      have eqs : Evt (fun k _ => laws_eqDyadicSS k (mtV a b).1 (mtV a b).1) true := eqDyadicSS_ev (by simp only [lenB]; omega) (fun y hy => by have := l2 y hy; simp only [lenB]; omega)
      have hrs : Sized (mtV a b).1 := by
        unfold Sized
        have : ∀ (l : List Pt), (∀ r ∈ l, r.length ≤ 3) → (l.map List.length).sum ≤ 3 * l.length := by
          intro l
          induction l with
          | nil => intro _; simp
          | cons x l ih =>
            intro h
            have h1 := h x (by simp)
            have h2 := ih (fun r hr => h r (by simp [hr]))
            simp only [List.map_cons, List.sum_cons, List.length_cons]
            omega
        have := this _ l2
        omega
      obtain ⟨y, hy1, hy2⟩ := markDyadicSS_ev (x := (mtV a b).1) (a := 101) (by simp only [lenB]; omega) hrs.marks
      obtain ⟨z, hz1, _⟩ := markDyadicSS_ev (x := a) (a := 101) (by simp only [lenB]; omega) hs.marks
      have hms : (a.map fun r => 2 * r.length).sum ≤ 2000000 := by rw [sum_twice]; unfold Sized at hs; omega
      have hms' : (b.map fun r => 2 * r.length).sum ≤ 2000000 := by rw [sum_twice]; unfold Sized at hs'; omega
      obtain ⟨w, hw1, _⟩ := markDyadicSS_ev (x := b) (a := 101 + (a.map fun r => 2 * r.length).sum) (by simp only [lenB]; omega) (Nat.lt_of_le_of_lt (Nat.add_le_add_left hms' _) (by simp only [lenB]; omega))
      refine Evt.bind (toDyadicSS_ev hs.len hs.row) (Evt.bind (toDyadicSS_ev hs'.len hs'.row) ?_)
      simp only [toV_rows]
      refine Evt.bind spec (Evt.bind (toDyadicSS_ev hs.len hs.row) (Evt.bind (toDyadicSS_ev hs'.len hs'.row) ?_))
      simp only [toV_rows]
      refine Evt.bind impl (Evt.bind eqs (Evt.cfalse rfl (Evt.cfalse (by simp) (Evt.bind (toDyadicSS_ev hs.len hs.row) (Evt.bind (intactD_ev hs) (Evt.cfalse rfl (Evt.bind (toDyadicSS_ev hs'.len hs'.row) (Evt.bind (intactD_ev hs') (Evt.cfalse rfl (Evt.bind hz1 (Evt.bind hw1 (Evt.cfalse (by simp <;> omega) ?_))))))))))))
      refine Evt.bind eqs (Evt.cfalse rfl (Evt.cfalse (by simp) (Evt.bind hy1 (Evt.bind hy2 (Evt.cfalse (by simp <;> omega) (Evt.cfalse (by simp) (Evt.bind (toDyadicSS_ev hs.len hs.row) (Evt.bind (toDyadicSS_ev hs'.len hs'.row) ?_))))))))
      simp only [toV_rows]
      exact Evt.bind impl (Evt.bind eqs (Evt.cfalse rfl (Evt.cfalse (by simp) (Evt.bind hy2 (Evt.cfalse (by simp <;> omega) (Evt.cfalse (by simp) .pure))))))
    · rw [if_neg hy]
      exact Evt.ctrue rfl .pure
  · rw [if_neg hz]
    exact Evt.ctrue rfl .pure
theorem multiply_row (a b : List Pt) (h : WfT (.sl (.sl tDyadic)) a) (h' : WfT (.sl (.sl tDyadic)) b) : ∃ k, laws_FnExactMultiplyTables k a b = some true := multiply_law a b h.1 (fun x hx => (h.2 x hx).1) h'.1 (fun x hx => (h'.2 x hx).1)
end Go.Ev.G
