/- What the plain functions of the laws compute, for all inputs within the sizes that the theorems name. -/
import Derived.Test.YtijllgpgnmdfdaaA4
import Derived.Test.YtijllgpgnmdfdaaA1
import Derived.Test.YtijllgpgnmdfdaaP3
set_option linter.unusedVariables false
namespace Go.Ev.G
open Go Go.Ev
set_option maxRecDepth 100000

def cols (b : List Pt) : List Pt := (List.range b.length).map fun j => b.map fun r => r.getD j (0, 0)
def mulRow (b : List Pt) (row : Pt) : Option Pt := if ((cols b).all fun c => (inn row c).isSome) then some ((cols b).map fun c => (inn row c).getD (0, 0)) else none
def mtV (a b : List Pt) : List Pt × Bool :=
  if tab gd a && (tab gd b && (decide (a.length = b.length) && a.all fun r => (mulRow b r).isSome)) then (a.map fun r => (mulRow b r).getD [], true) else ([], false)

theorem cols_len (b : List Pt) : (cols b).length = b.length := by simp [cols]
theorem cols_at {b d r : List Pt} {e : Pt} (h : d ++ e :: r = cols b) : e = (b.map fun r => r.getD d.length (0, 0)) ∧ d.length < b.length := by
  have hl := congrArg List.length h
  rw [cols_len] at hl
  simp at hl
  have h1 : d.length < b.length := by omega
  have h2 : (d ++ e :: r)[d.length]? = some e := by simp
  rw [h] at h2
  unfold cols at h2
  rw [List.getElem?_map, List.getElem?_range h1] at h2
  simp only [Option.map_some, Option.some.injEq] at h2
  exact ⟨h2.symm, h1⟩
theorem getD_mem {r : Pt} {j : Nat} (h : j < r.length) : r.getD j (0, 0) ∈ r := by
  rw [List.getD_eq_getElem?_getD, List.getElem?_eq_getElem h]
  exact List.getElem_mem h

theorem mxColumn_ev {b : List Pt} {j : Nat} (hb : b.length < 274877906944) (hj : ∀ r ∈ b, j < r.length) : Evt (fun k _ => spec_mxColumn k b j) (b.map fun r => r.getD j (0, 0)) := by
  refine Evt.eq (f := fun k q => _) ?_ (fun k q => by rw [spec_mxColumn])
  have key : ∀ (r d : List Pt), d ++ r = b → Evt (fun k n => spec_mxColumn_L58 k n j (d.map fun r => r.getD j (0, 0)) b (b.length : Int) d.length) (.inr (b.map fun r => r.getD j (0, 0), ())) := by
    intro r
    induction r with
    | nil =>
      intro d h
      refine Evt.step (fun k n => spec_mxColumn_L58.eq_2 k _ _ _ _ _ n) ?_
      rw [List.append_nil] at h
      subst h
      exact Evt.rng0 .pure
    | cons e r ih =>
      intro d h
      refine Evt.step (fun k n => spec_mxColumn_L58.eq_2 k _ _ _ _ _ n) ?_
      have hje := hj e (by rw [← h]; simp)
      have ih := ih (d ++ [e]) (by simpa using h)
      rw [← len_next (r := r) (by rw [h]; simp only [lenB]; omega)] at ih
      have hl := congrArg List.length h
      simp at hl
      subst h
      refine Evt.ctrue mid_lt (Evt.ctrue mid_ge (Evt.ctrue mid_lt ?_))
      rw [mid_get]
      refine Evt.ctrue mid_ge (Evt.ctrue (decide_eq_true (by omega)) (Evt.ctrue (by simp; omega) ?_))
      rw [List.map_append] at ih
      exact ih
  exact Evt.inr (Evt.diag (key b [] rfl)) .pure

theorem spec_multiply_ev {a b : List Pt} (hb : a.length < 274877906944) (hm : ∀ r ∈ a, r.length < lenB) (hb' : b.length < 274877906944) (hm' : ∀ r ∈ b, r.length < lenB) : Evt (fun k _ => spec_MultiplyTables k a b) (mtV a b) := by
  refine Evt.eq (f := fun k q => _) ?_ (fun k q => by rw [spec_MultiplyTables])
  refine Evt.bind (mxGood_ev hb hm) ?_
  unfold mtV
  cases ht : tab gd a with
  | false => exact Evt.ctrue rfl .pure
  | true =>
  refine Evt.cfalse rfl (Evt.bind (mxGood_ev hb' hm') ?_)
  cases ht' : tab gd b with
  | false => exact Evt.ctrue rfl .pure
  | true =>
  refine Evt.cfalse rfl ?_
  by_cases hl : ¬ a.length = b.length
  · refine Evt.ctrue (by rw [bne_iff_ne]; omega) ?_
    rw [decide_eq_false hl]
    exact .pure
  have hl := Decidable.not_not.1 hl
  refine Evt.cfalse (by simp [hl]) ?_
  rw [decide_eq_true hl]
  have hg := tab_gd ht
  have hg' := tab_gd ht'
  have inner : ∀ (row : Pt) (x6 x28 : List Pt) (x29 x30 : Int), row.length = b.length → row.length < lenB → (∀ x ∈ row, gd x) → ∀ (r d : List Pt), d ++ r = cols b →
      Evt (fun k n => spec_MultiplyTables_L125338 k n b x6 row (d.map fun c => (inn row c).getD (0, 0)) x28 x29 x30 (b.length : Int) d.length) (if (r.all fun c => (inn row c).isSome) then .inr (b, x6, (cols b).map fun c => (inn row c).getD (0, 0), x28, x29, x30, ()) else .inl ([], false)) := by
    intro row x6 x28 x29 x30 hrl hrb hrg r
    induction r with
    | nil =>
      intro d h
      refine Evt.step (fun k n => spec_MultiplyTables_L125338.eq_2 k _ _ _ _ _ _ _ _ _ n) ?_
      rw [List.append_nil] at h
      rw [h, cols_len]
      exact Evt.cfalse (decide_eq_false (by omega)) .pure
    | cons e r ih =>
      intro d h
      obtain ⟨he, hd⟩ := cols_at h
      refine Evt.step (fun k n => spec_MultiplyTables_L125338.eq_2 k _ _ _ _ _ _ _ _ _ n) (Evt.ctrue (decide_eq_true (by omega)) ?_)
      have ih := ih (d ++ [e]) (by simpa using h)
      rw [← len_next (e := e) (r := r) (by rw [h, cols_len]; simp only [lenB]; omega)] at ih
      refine Evt.bind (mxColumn_ev hb' (fun r hr => by have := (hg' r hr).1; omega)) ?_
      rw [← he]
      refine Evt.bind (mxSum_ev (xs := row) (ys := e) hrb (by rw [he]; simpa using hrl) hrg (by
        intro y hy
        rw [he] at hy
        obtain ⟨q, hq, rfl⟩ := List.mem_map.1 hy
        exact (hg' q hq).2 _ (getD_mem (by have := (hg' q hq).1; omega)))) ?_
      rw [List.map_append, List.map_cons] at ih
      cases ho : inn row e with
      | none =>
        simp only [List.all_cons, ho, Option.isSome_none, Bool.false_and]
        exact Evt.ctrue rfl .pure
      | some t =>
        rw [ho] at ih
        simp only [List.all_cons, ho, Option.isSome_some, Bool.true_and]
        exact Evt.cfalse rfl (Evt.ctrue (by simp; omega) ih)
  have key : ∀ (r d : List Pt), d ++ r = a → Evt (fun k n => spec_MultiplyTables_L122 k n b (d.map fun r => (mulRow b r).getD []) a (a.length : Int) d.length) (if (r.all fun r => (mulRow b r).isSome) then .inr (a.map fun r => (mulRow b r).getD [], ()) else .inl ([], false)) := by
    intro r
    induction r with
    | nil =>
      intro d h
      refine Evt.step (fun k n => spec_MultiplyTables_L122.eq_2 k _ _ _ _ _ n) ?_
      rw [List.append_nil] at h
      subst h
      exact Evt.rng0 .pure
    | cons e r ih =>
      intro d h
      refine Evt.step (fun k n => spec_MultiplyTables_L122.eq_2 k _ _ _ _ _ n) ?_
      have hme : e ∈ a := by rw [← h]; simp
      have hge := hg e hme
      have hi := inner e (d.map fun r => (mulRow b r).getD []) a (a.length : Int) (d.length : Int) (by omega) (hm e hme) hge.2 (cols b) [] rfl
      simp only [List.length_nil, List.map_nil] at hi
      have ih := ih (d ++ [e]) (by simpa using h)
      rw [← len_next (r := r) (by rw [h]; simp only [lenB]; omega)] at ih
      have hxl := congrArg List.length h
      simp at hxl
      subst h
      refine Evt.ctrue mid_lt (Evt.ctrue mid_ge (Evt.ctrue mid_lt ?_))
      rw [mid_get]
      rw [List.map_append, List.map_cons] at ih
      cases hall : (cols b).all fun c => (inn e c).isSome with
      | false =>
        rw [hall] at hi
        have hmr : mulRow b e = none := by unfold mulRow; rw [hall]; rfl
        simp only [List.all_cons, hmr, Option.isSome_none, Bool.false_and]
        exact Evt.inl (Evt.diag hi) .pure
      | true =>
        rw [hall] at hi
        have hmr : mulRow b e = some ((cols b).map fun c => (inn e c).getD (0, 0)) := by unfold mulRow; rw [hall]; rfl
        rw [hmr] at ih
        simp only [List.all_cons, hmr, Option.isSome_some, Bool.true_and]
        exact Evt.inr (Evt.diag hi) (Evt.ctrue (by simp; omega) ih)
  have h0 := key a [] rfl
  simp only [List.length_nil, List.map_nil] at h0
  cases hall : a.all fun r => (mulRow b r).isSome with
  | true => rw [hall] at h0; exact Evt.inr (Evt.diag h0) .pure
  | false => rw [hall] at h0; exact Evt.inl (Evt.diag h0) .pure

theorem impl_multiply_ev {a b : List Pt} (hb : a.length < lenB) (hm : ∀ r ∈ a, r.length < lenB) (hb' : b.length < lenB) (hm' : ∀ r ∈ b, r.length < lenB) : Evt (fun k _ => impl_MultiplyTables k a b) (mtV a b) := by
  refine Evt.eq (f := fun k q => _) ?_ (fun k q => by rw [impl_MultiplyTables])
  refine Evt.bind (isTable_ev hb hm) ?_
  unfold mtV
  cases ht : tab gd a with
  | false => exact Evt.ctrue rfl .pure
  | true =>
  refine Evt.cfalse rfl (Evt.bind (isTable_ev hb' hm') ?_)
  cases ht' : tab gd b with
  | false => exact Evt.ctrue rfl .pure
  | true =>
  refine Evt.cfalse rfl ?_
  by_cases hl : ¬ a.length = b.length
  · refine Evt.ctrue (by rw [bne_iff_ne]; omega) ?_
    rw [decide_eq_false hl]
    exact .pure
  have hl := Decidable.not_not.1 hl
  refine Evt.cfalse (by simp [hl]) ?_
  rw [decide_eq_true hl]
  have hg := tab_gd ht
  have hg' := tab_gd ht'
  have column : ∀ (x6 : Bool) (x7 : List Pt) (x8 : Int) (x9 : Pt) (j : Nat) (x31 x32 x36 x37 : Int), j < b.length → ∀ (r d : List Pt), d ++ r = b →
      Evt (fun k n => impl_MultiplyTables_L262564250 k n a b x6 x7 x8 x9 (j : Int) (d.map fun r => r.getD j (0, 0)) x31 x32 x36 x37 (b.length : Int) d.length) (.inr (a, b, x6, x7, x8, x9, b.map fun r => r.getD j (0, 0), x31, x32, x36, x37, ())) := by
    intro x6 x7 x8 x9 j x31 x32 x36 x37 hj r
    induction r with
    | nil =>
      intro d h
      refine Evt.step (fun k n => impl_MultiplyTables_L262564250.eq_2 k _ _ _ _ _ _ _ _ _ _ _ _ _ _ n) ?_
      rw [List.append_nil] at h
      rw [h]
      exact Evt.rng0 .pure
    | cons e r ih =>
      intro d h
      refine Evt.step (fun k n => impl_MultiplyTables_L262564250.eq_2 k _ _ _ _ _ _ _ _ _ _ _ _ _ _ n) ?_
      have hje := (hg' e (by rw [← h]; simp)).1
      have ih := ih (d ++ [e]) (by simpa using h)
      rw [← len_next (r := r) (by rw [h]; exact hb')] at ih
      have hxl := congrArg List.length h
      simp at hxl
      rw [List.map_append] at ih
      have e1 : (b.getD (Int.toNat (d.length : Int)) []) = e := by rw [← h]; exact mid_get
      refine Evt.ctrue (by rw [← h]; exact mid_lt) (Evt.ctrue mid_ge (Evt.ctrue (by rw [← h]; exact mid_lt) ?_))
      rw [e1]
      exact Evt.ctrue mid_ge (Evt.ctrue (decide_eq_true (by omega)) (Evt.ctrue (by simp; omega) ih))
  have inner : ∀ (row : Pt) (i : Nat) (x7 : List Pt) (x31 x32 : Int), a.getD (Int.toNat (i : Int)) [] = row → i < a.length → row ∈ a → ∀ (b0 : Bool) (r d : List Pt) (c : Bool) (o : Pt), d ++ r = cols b → Flag (fun c => inn row c) (0, 0) b0 d c o →
      ∃ c' o', Flag (fun c => inn row c) (0, 0) b0 (cols b) c' o' ∧ Evt (fun k n => impl_MultiplyTables_L256410 k n a b c x7 (i : Int) o x31 x32 (b.length : Int) d.length) (.inr (a, b, c', x7, o', x31, x32, ())) := by
    intro row i x7 x31 x32 hrow hi hra b0 r
    have hgr := hg row hra
    induction r with
    | nil =>
      intro d c o h hf
      rw [List.append_nil] at h
      subst h
      refine ⟨c, o, hf, Evt.step (fun k n => impl_MultiplyTables_L256410.eq_2 k _ _ _ _ _ _ _ _ _ _ n) ?_⟩
      rw [cols_len]
      exact Evt.cfalse (decide_eq_false (by omega)) .pure
    | cons e r ih =>
      intro d c o h hf
      obtain ⟨he, hd⟩ := cols_at h
      obtain ⟨v, hv, hev⟩ := inner_ev (b := c) (xs := row) (ys := e) (by omega) (by omega) (by rw [he]; simp; omega) hgr.2 (by
        intro y hy
        rw [he] at hy
        obtain ⟨q, hq, rfl⟩ := List.mem_map.1 hy
        exact (hg' q hq).2 _ (getD_mem (by have := (hg' q hq).1; omega)))
      obtain ⟨c', o', q1, q2⟩ := ih (d ++ [e]) _ _ (by simpa using h) (Flag.step hf hv)
      refine ⟨c', o', q1, Evt.step (fun k n => impl_MultiplyTables_L256410.eq_2 k _ _ _ _ _ _ _ _ _ _ n) ?_⟩
      rw [← len_next (r := r) (by rw [h, cols_len]; exact hb')] at q2
      have hcol := column c x7 (i : Int) o d.length x31 x32 (b.length : Int) (d.length : Int) hd b [] rfl
      simp only [List.length_nil, List.map_nil] at hcol
      rw [← he] at hcol
      have hol := hf.1
      refine Evt.ctrue (decide_eq_true (by omega)) (Evt.inr (Evt.diag hcol) (Evt.ctrue mid_ge (Evt.ctrue (decide_eq_true (show (i : Int) < (a.length : Int) by omega)) ?_)))
      simp only [hrow]
      exact Evt.bind hev (Evt.ctrue (by simp; omega) q2)
  have key : ∀ (r d : List Pt) (c : Bool) (o : List Pt), d ++ r = a → Flag (mulRow b) [] true d c o →
      ∃ c' o', Flag (mulRow b) [] true a c' o' ∧ Evt (fun k n => impl_MultiplyTables_L250 k n a b c o (a.length : Int) d.length) (.inr (c', o', ())) := by
    intro r
    induction r with
    | nil =>
      intro d c o h hf
      rw [List.append_nil] at h
      subst h
      exact ⟨c, o, hf, Evt.step (fun k n => impl_MultiplyTables_L250.eq_2 k _ _ _ _ _ _ n) (Evt.cfalse (decide_eq_false (by omega)) .pure)⟩
    | cons e r ih =>
      intro d c o h hf
      have hxl := congrArg List.length h
      simp at hxl
      have hme : e ∈ a := by rw [← h]; simp
      obtain ⟨c1, o1, ⟨f1, f2, f3⟩, q0⟩ := inner e d.length o (a.length : Int) (d.length : Int) (by rw [← h]; exact mid_get) (by omega) hme c (cols b) [] c [] rfl Flag.nil
      simp only [List.length_nil] at q0
      have hst := Flag.step (e := e) (v := o1) hf (by
        intro hc hs
        subst hc
        unfold mulRow at hs ⊢
        split at hs
        · rename_i hall
          rw [if_pos hall, ← f3 (by rw [f2, hall]; rfl)]
        · cases hs)
      have e2 : (c && (mulRow b e).isSome) = c1 := by
        rw [f2]
        unfold mulRow
        cases (cols b).all fun c => (inn e c).isSome <;> rfl
      rw [e2] at hst
      obtain ⟨c', o', q1, q2⟩ := ih (d ++ [e]) c1 (o ++ [o1]) (by simpa using h) hst
      refine ⟨c', o', q1, Evt.step (fun k n => impl_MultiplyTables_L250.eq_2 k _ _ _ _ _ _ n) ?_⟩
      rw [← len_next (r := r) (by rw [h]; exact hb)] at q2
      have hol := hf.1
      exact Evt.ctrue (decide_eq_true (by omega)) (Evt.inr (Evt.diag q0) (Evt.ctrue (by have := (hg e hme).1; simp; omega) q2))
  obtain ⟨c', o', ⟨f1, f2, f3⟩, q2⟩ := key a [] true [] rfl Flag.nil
  rw [Bool.true_and] at f2
  simp only [List.length_nil] at q2
  refine Evt.inr (Evt.diag q2) ?_
  simp only [Bool.true_and]
  rw [← f2]
  cases c' with
  | true => rw [← f3 rfl]; exact Evt.cfalse rfl .pure
  | false => exact Evt.ctrue rfl .pure

theorem mtV_len {a b : List Pt} : (mtV a b).1.length ≤ 3 ∧ ∀ r ∈ (mtV a b).1, r.length ≤ 3 := by
  unfold mtV
  split
  · rename_i h
    simp only [Bool.and_eq_true, decide_eq_true_eq] at h
    have ha : a.length ≤ 3 := by
      have := h.1
      unfold tab at this
      simp only [Bool.and_eq_true, decide_eq_true_eq] at this
      exact this.1.2
    refine ⟨by simp; exact ha, ?_⟩
    intro r hr
    obtain ⟨x, _, rfl⟩ := List.mem_map.1 hr
    unfold mulRow
    split
    · simp [cols_len]; omega
    · simp
  · simp

theorem multiply_law (a b : List Pt) (ha : a.length ≤ maxLen) (hm : ∀ x ∈ a, x.length ≤ maxLen) (hb : b.length ≤ maxLen) (hm' : ∀ x ∈ b, x.length ≤ maxLen) : ∃ k, laws_FnExactMultiplyTables k a b = some true := by
  refine Evt.get (Evt.eq (f := fun k q => _) ?_ (fun k q => by rw [laws_FnExactMultiplyTables]))
  refine Evt.bind (szDyadicSS_ev (a := 1000000) ha hm (by omega)) ?_
  by_cases hz : a.length + (a.map List.length).sum ≤ 1000000
  · rw [if_pos hz]
    have hs : Sized a := hz
    refine Evt.cfalse (by simp <;> omega) (Evt.bind (szDyadicSS_ev hb hm' (by omega)) ?_)
    by_cases hy : b.length + (b.map List.length).sum ≤ 1000000 - (a.length + (a.map List.length).sum)
    · rw [if_pos hy]
      have hs' : Sized b := by unfold Sized; omega
      refine Evt.cfalse (by simp <;> omega) ?_
      have ab : a.length < 274877906944 := by have := hs.len; omega
      have bb : b.length < 274877906944 := by have := hs'.len; omega
      have ar : ∀ r ∈ a, r.length < lenB := fun r hr => by have := hs.row r hr; simp only [lenB]; omega
      have br : ∀ r ∈ b, r.length < lenB := fun r hr => by have := hs'.row r hr; simp only [lenB]; omega
      have spec := spec_multiply_ev ab ar bb br
      have impl := impl_multiply_ev (a := a) (b := b) (by simp only [lenB]; omega) ar (by simp only [lenB]; omega) br
      obtain ⟨l1, l2⟩ := mtV_len (a := a) (b := b)
      have eqs : Evt (fun k _ => laws_eqDyadicSS k (mtV a b).1 (mtV a b).1) true := eqDyadicSS_ev (by simp only [lenB]; omega) (fun y hy => by have := l2 y hy; simp only [lenB]; omega)
      have hrs : Sized (mtV a b).1 := by
        unfold Sized
        have : ∀ (l : List Pt), (∀ r ∈ l, r.length ≤ 3) → (l.map List.length).sum ≤ 3 * l.length := by
          intro l
          induction l with
          | nil => intro _; simp
          | cons x l ih =>
            intro h
            have h1 := h x (by simp)
            have h2 := ih (fun r hr => h r (by simp [hr]))
            simp only [List.map_cons, List.sum_cons, List.length_cons]
            omega
        have := this _ l2
        omega
      obtain ⟨y, hy1, hy2⟩ := markDyadicSS_ev (x := (mtV a b).1) (a := 101) (by simp only [lenB]; omega) hrs.marks
      obtain ⟨z, hz1, _⟩ := markDyadicSS_ev (x := a) (a := 101) (by simp only [lenB]; omega) hs.marks
      have hms : (a.map fun r => 2 * r.length).sum ≤ 2000000 := by rw [sum_twice]; unfold Sized at hs; omega
      have hms' : (b.map fun r => 2 * r.length).sum ≤ 2000000 := by rw [sum_twice]; unfold Sized at hs'; omega
      obtain ⟨w, hw1, _⟩ := markDyadicSS_ev (x := b) (a := 101 + (a.map fun r => 2 * r.length).sum) (by simp only [lenB]; omega) (Nat.lt_of_le_of_lt (Nat.add_le_add_left hms' _) (by simp only [lenB]; omega))
      refine Evt.bind (toDyadicSS_ev hs.len hs.row) (Evt.bind (toDyadicSS_ev hs'.len hs'.row) ?_)
      simp only [toV_rows]
      refine Evt.bind spec (Evt.bind (toDyadicSS_ev hs.len hs.row) (Evt.bind (toDyadicSS_ev hs'.len hs'.row) ?_))
      simp only [toV_rows]
      refine Evt.bind impl (Evt.bind eqs (Evt.cfalse rfl (Evt.cfalse (by simp) (Evt.bind (toDyadicSS_ev hs.len hs.row) (Evt.bind (intactD_ev hs) (Evt.cfalse rfl (Evt.bind (toDyadicSS_ev hs'.len hs'.row) (Evt.bind (intactD_ev hs') (Evt.cfalse rfl (Evt.bind hz1 (Evt.bind hw1 (Evt.cfalse (by simp <;> omega) ?_))))))))))))
      refine Evt.bind eqs (Evt.cfalse rfl (Evt.cfalse (by simp) (Evt.bind hy1 (Evt.bind hy2 (Evt.cfalse (by simp <;> omega) (Evt.cfalse (by simp) (Evt.bind (toDyadicSS_ev hs.len hs.row) (Evt.bind (toDyadicSS_ev hs'.len hs'.row) ?_))))))))
      simp only [toV_rows]
      exact Evt.bind impl (Evt.bind eqs (Evt.cfalse rfl (Evt.cfalse (by simp) (Evt.bind hy2 (Evt.cfalse (by simp <;> omega) (Evt.cfalse (by simp) .pure))))))
    · rw [if_neg hy]
      exact Evt.ctrue rfl .pure
  · rw [if_neg hz]
    exact Evt.ctrue rfl .pure
theorem multiply_row (a b : List Pt) (h : WfT (.sl (.sl tDyadic)) a) (h' : WfT (.sl (.sl tDyadic)) b) : ∃ k, laws_FnExactMultiplyTables k a b = some true := multiply_law a b h.1 (fun x hx => (h.2 x hx).1) h'.1 (fun x hx => (h'.2 x hx).1)
end Go.Ev.G
namespace Go.Ev.G
open Go Go.Ev
set_option maxRecDepth 100000

/-! A table without a row and a column. -/
def partV {α : Type} (m : List (List α)) (i j : Nat) : List (List α) := (m.eraseIdx i).map (·.eraseIdx j)
theorem erase_snoc {α : Type} (d : List α) (e : α) (i : Nat) : (d ++ [e]).eraseIdx i = if d.length = i then d.eraseIdx i else d.eraseIdx i ++ [e] := by
  by_cases h : i < d.length
  · rw [if_neg (by omega), List.eraseIdx_append_of_lt_length h]
  · rw [List.eraseIdx_append_of_length_le (by omega), List.eraseIdx_of_length_le (l := d) (by omega)]
    by_cases h2 : d.length = i
    · rw [if_pos h2, h2, Nat.sub_self]; simp
    · rw [if_neg h2, List.eraseIdx_of_length_le (l := [e]) (by simp; omega)]
theorem take_drop {α : Type} (r : List α) (j : Nat) : (r.take j).drop 0 ++ (r.take (Int.toNat (r.length : Int))).drop (j + 1) = r.eraseIdx j := by
  rw [List.eraseIdx_eq_take_drop_succ]; simp
theorem erase_len {α : Type} {r : List α} {j n : Nat} (h : r.length = n + 1) (hj : j ≤ n) : (r.eraseIdx j).length = n := by
  rw [List.length_eraseIdx, if_pos (by omega)]; omega

theorem concatD_ev {a b : Pt} (ha : a.length < 1000) (hb : b.length < 1000) : Evt (fun k _ => slices_Concat_Dyadic_Dyadic k [a, b]) (a ++ b) := by
  refine Evt.eq (f := fun k q => _) ?_ (fun k q => by rw [slices_Concat_Dyadic_Dyadic])
  have w1 : IntKind.wrap .i64 (0 + 1) = 1 := by decide
  have w2 : IntKind.wrap .i64 (1 + 1) = 2 := by decide
  have wa : IntKind.wrap .i64 (0 + (a.length : Int)) = (a.length : Int) := by rw [w64 (by omega) (by omega)]; omega
  have wb : IntKind.wrap .i64 ((a.length : Int) + (b.length : Int)) = ((a.length + b.length : Nat) : Int) := by rw [w64 (by omega) (by omega)]; omega
  have l1 : Evt (fun k n => slices_Concat_Dyadic_Dyadic_L58 k n [a, b] 0 [a, b] 2 0) (.inr ([a, b], ((a.length + b.length : Nat) : Int), ())) := by
    refine Evt.step (fun k n => slices_Concat_Dyadic_Dyadic_L58.eq_2 k _ _ _ _ _ n) (Evt.ctrue rfl (Evt.ctrue rfl (Evt.ctrue rfl ?_)))
    simp only [List.getD_cons_zero, show Int.toNat 0 = 0 from rfl, wa, w1]
    refine Evt.cfalse (decide_eq_false (by omega)) ?_
    refine Evt.step (fun k n => slices_Concat_Dyadic_Dyadic_L58.eq_2 k _ _ _ _ _ n) (Evt.ctrue rfl (Evt.ctrue rfl (Evt.ctrue rfl ?_)))
    have e1 : [a, b].getD (Int.toNat 1) [] = b := rfl
    simp only [e1, wb, w2]
    refine Evt.cfalse (decide_eq_false (by omega)) ?_
    exact Evt.step (fun k n => slices_Concat_Dyadic_Dyadic_L58.eq_2 k _ _ _ _ _ n) (Evt.cfalse rfl .pure)
  have grow : slices_Grow_Dyadic_Dyadic () ((a.length + b.length : Nat) : Int) = some [] := by
    unfold slices_Grow_Dyadic_Dyadic
    have e : IntKind.wrap .i64 (((a.length + b.length : Nat) : Int) - IntKind.wrap .i64 (0 - 0)) = ((a.length + b.length : Nat) : Int) := by
      have : IntKind.wrap .i64 (0 - 0) = 0 := by decide
      rw [this, w64 (by omega) (by omega)]; omega
    rw [e, decide_eq_false (by omega), cond_false]
    by_cases h : a.length + b.length = 0
    · rw [h]; rfl
    · rw [decide_eq_true (by omega), decide_eq_true (by omega), decide_eq_true (by omega)]
      simp only [cond_true, List.take_zero]
      rw [decide_eq_true (by simp; omega)]
      rfl
  have l2 : Evt (fun k n => slices_Concat_Dyadic_Dyadic_L250 k n [] [a, b] 2 0) (.inr (a ++ b, ())) := by
    refine Evt.step (fun k n => slices_Concat_Dyadic_Dyadic_L250.eq_2 k _ _ _ _ n) (Evt.ctrue rfl (Evt.ctrue rfl (Evt.ctrue rfl ?_)))
    simp only [List.getD_cons_zero, show Int.toNat 0 = 0 from rfl, w1, List.nil_append, List.length_nil]
    refine Evt.ctrue (decide_eq_true (by omega)) ?_
    refine Evt.step (fun k n => slices_Concat_Dyadic_Dyadic_L250.eq_2 k _ _ _ _ n) (Evt.ctrue rfl (Evt.ctrue rfl (Evt.ctrue rfl ?_)))
    have e1 : [a, b].getD (Int.toNat 1) [] = b := rfl
    simp only [e1, w2]
    refine Evt.ctrue (decide_eq_true (by omega)) ?_
    exact Evt.step (fun k n => slices_Concat_Dyadic_Dyadic_L250.eq_2 k _ _ _ _ n) (Evt.cfalse rfl .pure)
  exact Evt.inr (Evt.diag l1) (Evt.bind (.const grow) (Evt.inr (Evt.diag l2) .pure))

/-- a square table of valid numbers -/
def sq {α : Type} (g : α → Prop) (n : Nat) (m : List (List α)) : Prop := m.length = n ∧ ∀ r ∈ m, r.length = n ∧ ∀ x ∈ r, g x
theorem mem_erase {α : Type} {r : List α} {j : Nat} {x : α} (h : x ∈ r.eraseIdx j) : x ∈ r := List.eraseIdx_subset h
theorem sq_part {α : Type} {g : α → Prop} {n i j : Nat} {m : List (List α)} (h : sq g (n + 1) m) (hi : i ≤ n) (hj : j ≤ n) : sq g n (partV m i j) := by
  refine ⟨by unfold partV; rw [List.length_map, erase_len h.1 hi], ?_⟩
  intro r hr
  unfold partV at hr
  obtain ⟨r0, h0, rfl⟩ := List.mem_map.1 hr
  have h1 := h.2 r0 (mem_erase h0)
  exact ⟨erase_len h1.1 hj, fun x hx => h1.2 x (mem_erase hx)⟩
theorem sq_tab {α : Type} {g : α → Prop} [DecidablePred g] {m : List (List α)} (h : tab g m = true) : ∃ n, n ≤ 2 ∧ sq g (n + 1) m := by
  have h0 := h
  unfold tab at h0
  simp only [Bool.and_eq_true, decide_eq_true_eq] at h0
  refine ⟨m.length - 1, by omega, by omega, fun r hr => ?_⟩
  have := tab_all h r hr
  exact ⟨by omega, this.2⟩

theorem mxPart_ev {m : List Pt} {n i j : Nat} (h : sq gd (n + 1) m) (hn : n ≤ 2) (hj : j ≤ n) : Evt (fun k _ => spec_mxPart k m i j) (partV m i j) := by
  refine Evt.eq (f := fun k q => _) ?_ (fun k q => by rw [spec_mxPart])
  have hb : m.length ≤ 3 := by have := h.1; omega
  have key : ∀ (r d : List Pt), d ++ r = m → Evt (fun k q => spec_mxPart_L58 k q i j ((d.eraseIdx i).map (·.eraseIdx j)) m (m.length : Int) d.length) (.inr (partV m i j, ())) := by
    intro r
    induction r with
    | nil =>
      intro d hd
      refine Evt.step (fun k q => spec_mxPart_L58.eq_2 k _ _ _ _ _ _ q) ?_
      rw [List.append_nil] at hd
      subst hd
      exact Evt.rng0 .pure
    | cons e r ih =>
      intro d hd
      refine Evt.step (fun k q => spec_mxPart_L58.eq_2 k _ _ _ _ _ _ q) ?_
      have he := (h.2 e (by rw [← hd]; simp)).1
      have ih := ih (d ++ [e]) (by simpa using hd)
      rw [← len_next (r := r) (by rw [hd]; simp only [lenB]; omega), erase_snoc] at ih
      have hl := congrArg List.length hd
      simp at hl
      have hdl : (d.eraseIdx i).length ≤ d.length := by rw [List.length_eraseIdx]; split <;> omega
      subst hd
      refine Evt.ctrue mid_lt (Evt.ctrue mid_ge (Evt.ctrue mid_lt ?_))
      rw [mid_get]
      by_cases hi : d.length = i
      · rw [if_pos hi] at ih
        exact Evt.cfalse (by simp [hi]) ih
      · rw [if_neg hi, List.map_append] at ih
        have wj : IntKind.wrap .i64 ((j : Int) + 1) = ((j + 1 : Nat) : Int) := w64_next (by simp only [lenB]; omega)
        rw [wj]
        simp only [List.nil_append, Int.toNat_natCast]
        have htd := take_drop e j
        rw [Int.toNat_natCast] at htd
        rw [htd]
        have hel := erase_len he hj
        have t1 : ((e.take j).drop 0).length ≤ 3 := by simp; omega
        refine Evt.ctrue (by simp; omega) (Evt.ctrue mid_ge (Evt.ctrue (by simp; omega) (Evt.ctrue (decide_eq_true (by simp only [List.length_nil]; omega)) (Evt.ctrue mid_ge (Evt.ctrue (by simp; omega) (Evt.ctrue ?_ (Evt.ctrue (by simp; omega) ih)))))))
        refine decide_eq_true ?_
        have := congrArg List.length htd
        rw [List.length_append] at this
        omega
  exact Evt.inr (Evt.diag (key m [] rfl)) .pure

theorem impl_part_ev {m : List Pt} {n i j : Nat} (h : sq gd (n + 1) m) (hn : n ≤ 2) (hj : j ≤ n) : Evt (fun k _ => impl_part_Dyadic k m i j) (partV m i j) := by
  refine Evt.eq (f := fun k q => _) ?_ (fun k q => by rw [impl_part_Dyadic])
  have hb : m.length ≤ 3 := by have := h.1; omega
  have key : ∀ (r d : List Pt), d ++ r = m → Evt (fun k q => impl_part_Dyadic_L58 k q i j ((d.eraseIdx i).map (·.eraseIdx j)) m (m.length : Int) d.length) (.inr (partV m i j, ())) := by
    intro r
    induction r with
    | nil =>
      intro d hd
      refine Evt.step (fun k q => impl_part_Dyadic_L58.eq_2 k _ _ _ _ _ _ q) ?_
      rw [List.append_nil] at hd
      subst hd
      exact Evt.rng0 .pure
    | cons e r ih =>
      intro d hd
      refine Evt.step (fun k q => impl_part_Dyadic_L58.eq_2 k _ _ _ _ _ _ q) ?_
      have he := (h.2 e (by rw [← hd]; simp)).1
      have ih := ih (d ++ [e]) (by simpa using hd)
      rw [← len_next (r := r) (by rw [hd]; simp only [lenB]; omega), erase_snoc] at ih
      have hl := congrArg List.length hd
      simp at hl
      have hdl : (d.eraseIdx i).length ≤ d.length := by rw [List.length_eraseIdx]; split <;> omega
      subst hd
      refine Evt.ctrue mid_lt (Evt.ctrue mid_ge (Evt.ctrue mid_lt ?_))
      rw [mid_get]
      by_cases hi : d.length = i
      · rw [if_pos hi] at ih
        exact Evt.cfalse (by simp [hi]) ih
      · rw [if_neg hi, List.map_append] at ih
        have wj : IntKind.wrap .i64 ((j : Int) + 1) = ((j + 1 : Nat) : Int) := w64_next (by simp only [lenB]; omega)
        rw [wj]
        have htd := take_drop e j
        simp only [Int.toNat_natCast] at htd ⊢
        have t1 : ((e.take j).drop 0).length < 1000 := by simp; omega
        have t2 : ((e.take e.length).drop (j + 1)).length < 1000 := by simp; omega
        have hc := concatD_ev t1 t2
        rw [htd] at hc
        exact Evt.ctrue (by simp; omega) (Evt.ctrue mid_ge (Evt.ctrue (by simp; omega) (Evt.ctrue mid_ge (Evt.ctrue (by simp; omega) (Evt.bind hc (Evt.ctrue (by simp; omega) ih))))))
  exact Evt.inr (Evt.diag (key m [] rfl)) .pure
end Go.Ev.G
namespace Go.Ev.G
open Go Go.Ev
set_option maxRecDepth 100000

/-! Determinants. -/
def ngD (c : Nat) (x : Int × Int) : Int × Int := if c % 2 = 1 then (-x.1, x.2) else x
theorem ngD_gd {c : Nat} {x : Int × Int} (h : gd x) : gd (ngD c x) := by
  unfold ngD
  split
  · exact gd_neg h
  · exact h
/-- a term: a number times what is left, with its sign -/
def tmO (c : Nat) (a : Int × Int) (d : Option (Int × Int)) : Option (Int × Int) := match d with
  | none => none
  | some d => if (prodD a d).2 then some (ngD c (prodD a d).1) else none
def detO : Nat → List Pt → Option (Int × Int)
  | 0, m => some ((m.getD 0 []).getD 0 (0, 0))
  | n + 1, m =>
    let ts := (List.range (n + 2)).map fun c => tmO c ((m.getD 0 []).getD c (0, 0)) (detO n (partV m 0 c))
    if ts.all (·.isSome) then osum (0, 0) (ts.map fun o => o.getD (0, 0)) else none
def oV (o : Option (Int × Int)) : (Int × Int) × Bool := match o with
  | some t => (t, true)
  | none => ((0, 0), false)

/-- a sum of what may fail -/
def sumO : (Int × Int) → List (Option (Int × Int)) → Option (Int × Int)
  | s, [] => some s
  | s, o :: r => match o with
    | none => none
    | some x => if (sumD s x).2 then sumO (sumD s x).1 r else none
theorem sumO_eq : ∀ (ts : List (Option (Int × Int))) (s : Int × Int), sumO s ts = if ts.all (·.isSome) then osum s (ts.map fun o => o.getD (0, 0)) else none
  | [], s => rfl
  | none :: r, s => by simp [sumO]
  | some x :: r, s => by
    simp only [sumO, List.all_cons, Option.isSome_some, Bool.true_and, List.map_cons, Option.getD_some, osum]
    cases (sumD s x).2 with
    | true => simp only [if_true]; exact sumO_eq r _
    | false => simp

theorem tmod_odd (c : Nat) : ((Int.tmod (c : Int) 2) == 1) = decide (c % 2 = 1) := by
  have : Int.tmod (c : Int) 2 = ((c % 2 : Nat) : Int) := rfl
  rw [this, Bool.eq_iff_iff, beq_iff_eq, decide_eq_true_eq]
  omega

theorem dyMinus_eq {x : Int × Int} (h : gd x) : spec_dyMinus x = some (-x.1, x.2) := by
  have := h.2.2
  unfold spec_dyMinus
  rw [w64 (by omega) (by omega)]
  congr 2
  omega

def terms (n : Nat) (m : List Pt) : List (Option (Int × Int)) := (List.range (n + 2)).map fun c => tmO c ((m.getD 0 []).getD c (0, 0)) (detO n (partV m 0 c))
theorem detO_gd : ∀ (n : Nat) (m : List Pt) (t : Int × Int), sq gd (n + 1) m → detO n m = some t → gd t
  | 0, m, t, h, e => by
    obtain ⟨h1, h2⟩ := h
    match m, h1 with
    | [r], _ =>
      obtain ⟨h3, h4⟩ := h2 r (by simp)
      match r, h3 with
      | [x], _ =>
        simp only [detO, List.getD_cons_zero, Option.some.injEq] at e
        rw [← e]
        exact h4 x (by simp)
  | n + 1, m, t, h, e => by
    unfold detO at e
    simp only at e
    split at e
    · exact osum_gd _ _ _ (by decide) e
    · cases e

theorem terms_get {n c : Nat} {m : List Pt} {d r : List (Option (Int × Int))} {t : Option (Int × Int)} (h : d ++ t :: r = terms n m) (hc : d.length = c) : t = tmO c ((m.getD 0 []).getD c (0, 0)) (detO n (partV m 0 c)) ∧ c ≤ n + 1 := by
  have hl := congrArg List.length h
  simp [terms] at hl
  have h2 : (d ++ t :: r)[d.length]? = some t := by simp
  rw [h, terms, List.getElem?_map, List.getElem?_range (by omega)] at h2
  simp only [Option.map_some, Option.some.injEq] at h2
  rw [← hc]
  exact ⟨h2.symm, by omega⟩

theorem mxDet_ev : ∀ (n : Nat) (m : List Pt), n ≤ 2 → sq gd (n + 1) m → Evt (fun k q => spec_mxDet_R k q m) (oV (detO n m))
  | 0, m, _, h => by
    obtain ⟨h1, h2⟩ := h
    match m, h1 with
    | [r], _ =>
      obtain ⟨h3, h4⟩ := h2 r (by simp)
      match r, h3 with
      | [x], _ => exact Evt.step (fun k q => (rfl : spec_mxDet_R k (q + 1) [[x]] = some (x, true))) .pure
  | n + 1, m, hn, h => by
    refine Evt.step (F := fun k q => spec_mxDet_B k (spec_mxDet_R k q) m) (fun k q => rfl) ?_
    refine Evt.eq (f := fun k q => _) ?_ (fun k q => by rw [spec_mxDet_B])
    have hm := h.1
    have hrow : (m.getD 0 []).length = n + 2 ∧ ∀ x ∈ m.getD 0 [], gd x := by
      match m, hm with
      | r :: _, _ => exact h.2 r (by simp)
    refine Evt.cfalse (by rw [hm]; simp; omega) (Evt.ctrue (by rw [hm]; simp; omega) ?_)
    generalize hrw : m.getD 0 [] = row at hrow ⊢
    have hsub : ∀ c, c ≤ n + 1 → Ev3 (fun k q _ => spec_mxDet_R k q (partV m 0 c)) (oV (detO n (partV m 0 c))) := fun c hc => Ev3.rec (mxDet_ev n _ (by omega) (sq_part h (by omega) hc))
    have key : ∀ (r d : List (Option (Int × Int))) (z s : Int × Int), d ++ r = terms n m → gd s →
        Ev3 (fun k q f => spec_mxDet_L122 k (spec_mxDet_R k q) f m z s row (row.length : Int) d.length) (match sumO s r with | some t => .inr (z, t, ()) | none => .inl ((0, 0), false)) := by
      intro r
      induction r with
      | nil =>
        intro d z s hd hs
        refine Ev3.step (fun k q f => spec_mxDet_L122.eq_2 k _ _ _ _ _ _ _ f) ?_
        rw [List.append_nil] at hd
        have : d.length = n + 2 := by rw [hd]; simp [terms]
        exact Ev3.cfalse (decide_eq_false (by omega)) .pure
      | cons t r ih =>
        intro d z s hd hs
        obtain ⟨ht, hc⟩ := terms_get hd rfl
        rw [hrw] at ht
        generalize hcd : d.length = c at ht hc
        refine Ev3.step (fun k q f => spec_mxDet_L122.eq_2 k _ _ _ _ _ _ _ f) ?_
        have ih := fun s => ih (d ++ [t]) z s (by simpa using hd)
        have hnx : IntKind.wrap .i64 ((c : Int) + 1) = ((d ++ [t]).length : Int) := by rw [w64_next (by simp only [lenB]; omega)]; simp; omega
        rw [← hnx] at ih
        have ga : gd (row.getD c (0, 0)) := hrow.2 _ (getD_mem (by omega))
        refine Ev3.ctrue (decide_eq_true (by omega)) (Ev3.ctrue mid_ge (Ev3.ctrue (decide_eq_true (by omega)) ?_))
        rw [Int.toNat_natCast]
        refine Ev3.bind (Ev3.of (mxPart_ev h hn hc)) (Ev3.bind (hsub c hc) ?_)
        cases hdo : detO n (partV m 0 c) with
        | none =>
          rw [hdo] at ht
          rw [ht]
          exact Ev3.ctrue rfl .pure
        | some dv =>
          rw [hdo] at ht
          have gdv := detO_gd n _ _ (sq_part h (by omega) hc) hdo
          refine Ev3.cfalse rfl (Ev3.bind (Ev3.of (dyMul_ev ga gdv)) ?_)
          refine Ev3.inr (y := (m, z, s, ngD c (prodD (row.getD c (0, 0)) dv).1, (prodD (row.getD c (0, 0)) dv).2, row, (row.length : Int), (c : Int), ())) ?_ ?_
          · rw [tmod_odd]
            unfold ngD
            by_cases hodd : c % 2 = 1
            · rw [if_pos hodd]
              exact Ev3.ctrue (decide_eq_true hodd) (Ev3.bind (.const (dyMinus_eq (prodD_gd _ _))) .pure)
            · rw [if_neg hodd]
              exact Ev3.cfalse (decide_eq_false hodd) .pure
          · refine Ev3.bind (Ev3.of (dyAdd_ev hs (ngD_gd (prodD_gd _ _)))) ?_
            rw [ht]
            unfold tmO
            simp only
            cases hp : (prodD (row.getD c (0, 0)) dv).2 with
            | false => exact Ev3.ctrue rfl .pure
            | true =>
              refine Ev3.cfalse rfl ?_
              simp only [if_true, sumO]
              cases hsm : (sumD s (ngD c (prodD (row.getD c (0, 0)) dv).1)).2 with
              | false => exact Ev3.ctrue rfl .pure
              | true => exact Ev3.cfalse rfl (ih _ (sumD_gd _ _))
    have h0 := (key (terms n m) [] (0, 0) (0, 0) rfl (by decide)).diag
    simp only [List.length_nil] at h0
    have hdet : detO (n + 1) m = sumO (0, 0) (terms n m) := by
      rw [sumO_eq]; rfl
    rw [hdet]
    cases hs : sumO (0, 0) (terms n m) with
    | none => rw [hs] at h0; exact Evt.inl h0 .pure
    | some t => rw [hs] at h0; exact Evt.inr h0 .pure

theorem prod_flag {c : Bool} {od : Option (Int × Int)} {v a : Int × Int} {j : Nat} (hv : c = true → od.isSome = true → od = some v) : (if (c && od.isSome) then prodD a v else ((0, 0), false)).2 = (c && (tmO j a od).isSome) := by
  cases c with
  | false => rfl
  | true =>
    cases od with
    | none => rfl
    | some dv =>
      have := hv rfl rfl
      cases this
      simp only [Bool.true_and, Option.isSome_some, if_true, tmO]
      cases (prodD a v).2 <;> rfl
theorem prod_val {od : Option (Int × Int)} {v a : Int × Int} {j : Nat} (hv : od.isSome = true → od = some v) (hs : (tmO j a od).isSome = true) : tmO j a od = some (ngD j (if (true && od.isSome) then prodD a v else ((0, 0), false)).1) := by
  cases od with
  | none => cases hs
  | some dv =>
    have := hv rfl
    cases this
    simp only [tmO, Bool.true_and, Option.isSome_some, if_true] at hs ⊢
    split
    · rfl
    · rename_i hn2; rw [if_neg hn2] at hs; cases hs

theorem fsum_fail {c : Bool} {x : Int × Int} {xs : Pt} (hx : xs ≠ []) (h : (fsum c x xs).2 = false) : (fsum c x xs).1 = (0, 0) := by
  cases c with
  | false =>
    cases xs with
    | nil => exact absurd rfl hx
    | cons y ys => rw [fsum, fsum_false0]
  | true =>
    rw [fsum_true] at h ⊢
    cases ho : osum x xs with
    | none => rfl
    | some t => rw [ho] at h; cases h

theorem det_ev : ∀ (n : Nat) (m : List Pt), n ≤ 2 → sq gd (n + 1) m → ∀ b : Bool, ∃ v, (gd v ∧ (1 ≤ n → (b && (detO n m).isSome) = false → v = (0, 0))) ∧ (b = true → (detO n m).isSome = true → detO n m = some v) ∧ Evt (fun k q => impl_reckoner_determinant_R k q b m) (v, b && (detO n m).isSome)
  | 0, m, _, h, b => by
    obtain ⟨h1, h2⟩ := h
    match m, h1 with
    | [r], _ =>
      obtain ⟨h3, h4⟩ := h2 r (by simp)
      match r, h3 with
      | [x], _ => exact ⟨x, ⟨h4 x (by simp), fun h => absurd h (by omega)⟩, fun _ _ => rfl, Evt.step (fun k q => (rfl : impl_reckoner_determinant_R k (q + 1) b [[x]] = some (x, b))) (.const (by simp [detO]))⟩
  | n + 1, m, hn, h, b => by
    have hm := h.1
    have hrow : (m.getD 0 []).length = n + 2 ∧ ∀ x ∈ m.getD 0 [], gd x := by
      match m, hm with
      | r :: _, _ => exact h.2 r (by simp)
    generalize hrw : m.getD 0 [] = row at hrow
    have key : ∀ (r d : List (Option (Int × Int))) (c : Bool) (z : Int × Int) (o : Pt), d ++ r = terms n m → (∀ y ∈ o, gd y) → Flag (fun t => t) (0, 0) b d c o →
        ∃ c' o', Flag (fun t => t) (0, 0) b (terms n m) c' o' ∧ (∀ y ∈ o', gd y) ∧ Ev3 (fun k q f => impl_reckoner_determinant_L122 k (impl_reckoner_determinant_R k q) f c m z o row (row.length : Int) d.length) (.inr (c', z, o', ())) := by
      intro r
      induction r with
      | nil =>
        intro d c z o hd ho hf
        rw [List.append_nil] at hd
        have hdl : d.length = n + 2 := by rw [hd]; simp [terms]
        rw [hd] at hf
        exact ⟨c, o, hf, ho, Ev3.step (fun k q f => impl_reckoner_determinant_L122.eq_2 k _ _ _ _ _ _ _ _ f) (Ev3.cfalse (decide_eq_false (by omega)) .pure)⟩
      | cons t r ih =>
        intro d c z o hd ho hf
        obtain ⟨ht, hc⟩ := terms_get hd rfl
        rw [hrw] at ht
        generalize hcd : d.length = j at ht hc
        obtain ⟨v, ⟨gv, _⟩, hv, hev⟩ := det_ev n (partV m 0 j) (by omega) (sq_part h (by omega) hc) c
        have ga : gd (row.getD j (0, 0)) := hrow.2 _ (getD_mem (by omega))
        let c2 := c && (detO n (partV m 0 j)).isSome
        let p := if c2 then prodD (row.getD j (0, 0)) v else ((0, 0), false)
        have hp : Evt (fun k _ => impl_reckoner_product k c2 (row.getD j (0, 0)) v) p := reckoner_product_ev ga gv
        have gp : gd p.1 := by simp only [p]; split; exact prodD_gd _ _; decide
        have hp2 : p.2 = (c && t.isSome) := by rw [ht]; exact prod_flag hv
        have hst := Flag.step (e := t) (v := ngD j p.1) hf (by
          intro hcb hs
          rw [ht] at hs ⊢
          subst hcb
          exact prod_val (hv rfl) hs)
        rw [← hp2] at hst
        obtain ⟨c', o', q1, q2, q3⟩ := ih (d ++ [t]) p.2 z (o ++ [ngD j p.1]) (by simpa using hd) (by
          intro y hy
          rcases List.mem_append.1 hy with hy | hy
          · exact ho y hy
          · simp at hy; subst hy; exact ngD_gd gp) hst
        refine ⟨c', o', q1, q2, Ev3.step (fun k q f => impl_reckoner_determinant_L122.eq_2 k _ _ _ _ _ _ _ _ f) ?_⟩
        have hnx : IntKind.wrap .i64 ((j : Int) + 1) = ((d ++ [t]).length : Int) := by rw [w64_next (by simp only [lenB]; omega)]; simp; omega
        rw [← hnx] at q3
        refine Ev3.ctrue (decide_eq_true (by omega)) (Ev3.ctrue mid_ge (Ev3.ctrue (decide_eq_true (by omega)) ?_))
        rw [Int.toNat_natCast]
        refine Ev3.bind (Ev3.of (impl_part_ev h hn hc)) (Ev3.bind (Ev3.rec hev) (Ev3.bind (Ev3.of hp) ?_))
        refine Ev3.inr (y := (p.2, m, z, o, ngD j p.1, row, (row.length : Int), (j : Int), ())) ?_ ?_
        · rw [tmod_odd]
          unfold ngD
          by_cases hodd : j % 2 = 1
          · rw [if_pos hodd]
            exact Ev3.ctrue (decide_eq_true hodd) (Ev3.bind (.const (minus_eq gp)) .pure)
          · rw [if_neg hodd]
            exact Ev3.cfalse (decide_eq_false hodd) .pure
        · have hol := hf.1
          exact Ev3.ctrue (by simp; omega) q3
    obtain ⟨c', o', ⟨f1, f2, f3⟩, q2, q3⟩ := key (terms n m) [] b (0, 0) [] rfl (by simp) Flag.nil
    have q3 := q3.diag
    simp only [List.length_nil] at q3
    have hol : o'.length = n + 2 := by rw [f1]; simp [terms]
    obtain ⟨x, xs, rfl⟩ : ∃ x y, o' = x :: y := by cases o' with
      | nil => simp at hol
      | cons x y => exact ⟨x, y, rfl⟩
    have gx := q2 x (by simp)
    have hdet : detO (n + 1) m = if (terms n m).all (·.isSome) then osum (0, 0) ((terms n m).map fun o => o.getD (0, 0)) else none := rfl
    have hsn : (fsum c' x xs).2 = (b && (detO (n + 1) m).isSome) := by
      rw [hdet]
      cases c' with
      | false =>
        rw [fsum_false]
        cases b with
        | false => rfl
        | true =>
          rw [Bool.true_and] at f2 ⊢
          rw [if_neg (by rw [← f2]; simp)]
          rfl
      | true =>
        have hh := f2.symm
        rw [Bool.and_eq_true] at hh
        rw [hh.1, if_pos hh.2, Bool.true_and, ← f3 rfl, osum, sumD_zero gx, if_pos rfl, fsum_true]
        cases osum x xs <;> rfl
    refine ⟨(fsum c' x xs).1, ⟨fsum_gd _ _ _ gx, fun _ hf => fsum_fail (by rintro rfl; simp at hol) (by rw [hsn]; exact hf)⟩, ?_, ?_⟩
    · intro hb hs
      subst hb
      rw [hdet] at hs ⊢
      split at hs
      · rename_i hall
        rw [if_pos hall]
        have hc : c' = true := by rw [f2, hall]; rfl
        subst hc
        rw [← f3 rfl] at hs ⊢
        rw [osum, sumD_zero gx, if_pos rfl] at hs ⊢
        rw [fsum_true]
        cases ho : osum x xs with
        | none => rw [ho] at hs; cases hs
        | some t => rfl
      · cases hs
    · refine Evt.step (F := fun k q => impl_reckoner_determinant_B k (impl_reckoner_determinant_R k q) b m) (fun k q => rfl) ?_
      refine Evt.eq (f := fun k q => _) ?_ (fun k q => by rw [impl_reckoner_determinant_B])
      refine Evt.cfalse (by rw [hm]; simp; omega) (Evt.ctrue (by rw [hm]; simp; omega) ?_)
      rw [hrw]
      refine Evt.inr q3 (Evt.bind (total_ev gx (fun y hy => q2 y (by simp [hy])) (by simp at hol; simp only [lenB]; omega)) (.const ?_))
      rw [← hsn]
end Go.Ev.G
namespace Go.Ev.G
open Go Go.Ev
set_option maxRecDepth 100000

def dtV (m : List Pt) : (Int × Int) × Bool := if tab gd m then oV (detO (m.length - 1) m) else ((0, 0), false)

theorem spec_det_ev {m : List Pt} {n : Nat} (hn : n ≤ 2) (h : sq gd (n + 1) m) : Evt (fun k _ => spec_mxDet k m) (oV (detO n m)) :=
  Evt.eq (Evt.diag (mxDet_ev n m hn h)) (fun k q => by rw [spec_mxDet])
theorem impl_det_ev {m : List Pt} {n : Nat} (hn : n ≤ 2) (h : sq gd (n + 1) m) (b : Bool) : ∃ v, (gd v ∧ (1 ≤ n → (b && (detO n m).isSome) = false → v = (0, 0))) ∧ (b = true → (detO n m).isSome = true → detO n m = some v) ∧ Evt (fun k _ => impl_reckoner_determinant k b m) (v, b && (detO n m).isSome) := by
  obtain ⟨v, h1, h2, h3⟩ := det_ev n m hn h b
  exact ⟨v, h1, h2, Evt.eq (Evt.diag h3) (fun k q => by rw [impl_reckoner_determinant])⟩

theorem determinant_law (a : List Pt) (ha : a.length ≤ maxLen) (hm : ∀ x ∈ a, x.length ≤ maxLen) : ∃ k, laws_FnExactDeterminantOf k a = some true := by
  refine Evt.get (Evt.eq (f := fun k q => _) ?_ (fun k q => by rw [laws_FnExactDeterminantOf]))
  refine Evt.bind (szDyadicSS_ev (a := 1000000) ha hm (by omega)) ?_
  by_cases hz : a.length + (a.map List.length).sum ≤ 1000000
  · rw [if_pos hz]
    have hs : Sized a := hz
    refine Evt.cfalse (by simp <;> omega) ?_
    have hb : a.length < 274877906944 := by have := hs.len; omega
    have hr : ∀ r ∈ a, r.length < lenB := fun r hr => by have := hs.row r hr; simp only [lenB]; omega
    have spec : Evt (fun k _ => spec_DeterminantOf k a) (dtV a) := by
      refine Evt.eq (f := fun k q => _) ?_ (fun k q => by rw [spec_DeterminantOf])
      refine Evt.bind (mxGood_ev hb hr) ?_
      unfold dtV
      cases ht : tab gd a with
      | false => exact Evt.ctrue rfl .pure
      | true =>
        obtain ⟨n, hn, hsq⟩ := sq_tab ht
        have e : a.length - 1 = n := by have := hsq.1; omega
        rw [e]
        exact Evt.cfalse rfl (Evt.bind (spec_det_ev hn hsq) .pure)
    have impl : Evt (fun k _ => impl_DeterminantOf k a) (dtV a) := by
      refine Evt.eq (f := fun k q => _) ?_ (fun k q => by rw [impl_DeterminantOf])
      refine Evt.bind (isTable_ev (by simp only [lenB]; omega) hr) ?_
      unfold dtV
      cases ht : tab gd a with
      | false => exact Evt.ctrue rfl .pure
      | true =>
        obtain ⟨n, hn, hsq⟩ := sq_tab ht
        have e : a.length - 1 = n := by have := hsq.1; omega
        rw [e]
        obtain ⟨v, ⟨gv, hz0⟩, hv, hev⟩ := impl_det_ev hn hsq true
        refine Evt.cfalse rfl (Evt.bind hev (.const ?_))
        simp only [Bool.true_and, if_true]
        rw [Bool.true_and] at hz0
        cases hdo : detO n a with
        | some t =>
          have := hv rfl (by rw [hdo]; rfl)
          rw [hdo] at this
          cases this
          rfl
        | none =>
          have hn1 : 1 ≤ n := by
            cases n with
            | zero => simp [detO] at hdo
            | succ n => omega
          rw [hz0 hn1 (by rw [hdo]; rfl)]
          rfl
    refine Evt.bind (toDyadicSS_ev hs.len hs.row) ?_
    simp only [toV_rows]
    refine Evt.bind spec (Evt.bind (toDyadicSS_ev hs.len hs.row) ?_)
    simp only [toV_rows]
    refine Evt.bind impl (Evt.bind (.const (eqDyadic_rfl _)) (Evt.cfalse rfl (Evt.cfalse (by simp) (Evt.bind (toDyadicSS_ev hs.len hs.row) (Evt.bind (intactD_ev hs) (Evt.cfalse rfl (Evt.bind (toDyadicSS_ev hs.len hs.row) ?_)))))))
    simp only [toV_rows]
    exact Evt.bind impl (Evt.bind (.const (eqDyadic_rfl _)) (Evt.cfalse rfl (Evt.cfalse (by simp) .pure)))
  · rw [if_neg hz]
    exact Evt.ctrue rfl .pure
theorem determinant_row (a : List Pt) (h : WfT (.sl (.sl tDyadic)) a) : ∃ k, laws_FnExactDeterminantOf k a = some true := determinant_law a h.1 (fun x hx => (h.2 x hx).1)

/-! The adjoint table. -/
def adjT (n : Nat) (m : List Pt) (i : Nat) : List (Option (Int × Int)) := (List.range (n + 2)).map fun k => (detO n (partV m k i)).map (ngD (i + k))
theorem adjT_get {n i c : Nat} {m : List Pt} {d r : List (Option (Int × Int))} {t : Option (Int × Int)} (h : d ++ t :: r = adjT n m i) (hc : d.length = c) : t = (detO n (partV m c i)).map (ngD (i + c)) ∧ c ≤ n + 1 := by
  have hl := congrArg List.length h
  simp [adjT] at hl
  have h2 : (d ++ t :: r)[d.length]? = some t := by simp
  rw [h, adjT, List.getElem?_map, List.getElem?_range (by omega)] at h2
  simp only [Option.map_some, Option.some.injEq] at h2
  rw [← hc]
  exact ⟨h2.symm, by omega⟩
def adjRow (n : Nat) (m : List Pt) (i : Nat) : Option Pt := if (adjT n m i).all (·.isSome) then some ((adjT n m i).map fun o => o.getD (0, 0)) else none
def adjV (n : Nat) (m : List Pt) : List Pt × Bool := if ((List.range (n + 2)).all fun i => (adjRow n m i).isSome) then ((List.range (n + 2)).map fun i => (adjRow n m i).getD [], true) else ([], false)

theorem rng_at {N : Nat} {d r : List Nat} {e : Nat} (h : d ++ e :: r = List.range N) : e = d.length ∧ d.length < N := by
  have hl := congrArg List.length h
  simp at hl
  have h2 : (d ++ e :: r)[d.length]? = some e := by simp
  rw [h, List.getElem?_range (by omega)] at h2
  cases h2
  exact ⟨rfl, by omega⟩

theorem spec_adjoint_ev {n : Nat} {m : List Pt} (hn : n + 1 ≤ 2) (h : sq gd (n + 2) m) : Evt (fun k _ => spec_mxAdjoint k m) (adjV n m) := by
  refine Evt.eq (f := fun k q => _) ?_ (fun k q => by rw [spec_mxAdjoint])
  have hm := h.1
  refine Evt.cfalse (by rw [hm]; simp; omega) ?_
  have inner : ∀ (x4 : List Pt) (i : Nat) (x17 x18 : Int), i ≤ n + 1 → ∀ (r d : List (Option (Int × Int))), d ++ r = adjT n m i →
      Evt (fun k q => spec_mxAdjoint_L125338 k q m x4 (i : Int) (d.map fun o => o.getD (0, 0)) x17 x18 (m.length : Int) d.length) (if (r.all (·.isSome)) then .inr (m, x4, (adjT n m i).map fun o => o.getD (0, 0), x17, x18, ()) else .inl ([], false)) := by
    intro x4 i x17 x18 hi r
    induction r with
    | nil =>
      intro d hd
      refine Evt.step (fun k q => spec_mxAdjoint_L125338.eq_2 k _ _ _ _ _ _ _ _ q) ?_
      rw [List.append_nil] at hd
      have : d.length = n + 2 := by rw [hd]; simp [adjT]
      rw [hd]
      refine Evt.cfalse (decide_eq_false (by rw [← hd]; omega)) .pure
    | cons t r ih =>
      intro d hd
      obtain ⟨ht, hc⟩ := adjT_get hd rfl
      refine Evt.step (fun k q => spec_mxAdjoint_L125338.eq_2 k _ _ _ _ _ _ _ _ q) (Evt.ctrue (decide_eq_true (by omega)) ?_)
      have ih := ih (d ++ [t]) (by simpa using hd)
      generalize hcd : d.length = c at ht hc ⊢
      have hnx : IntKind.wrap .i64 ((c : Int) + 1) = ((d ++ [t]).length : Int) := by rw [w64_next (by simp only [lenB]; omega)]; simp; omega
      rw [← hnx] at ih
      refine Evt.bind (mxPart_ev h hn hi) (Evt.bind (spec_det_ev (by omega) (sq_part h hc hi)) ?_)
      cases hdo : detO n (partV m c i) with
      | none =>
        rw [hdo] at ht
        simp only [List.all_cons, ht, Option.map_none, Option.isSome_none, Bool.false_and]
        exact Evt.ctrue rfl .pure
      | some dv =>
        rw [hdo] at ht
        have gdv := detO_gd n _ _ (sq_part h hc hi) hdo
        refine Evt.cfalse rfl ?_
        refine Evt.inr (y := (m, x4, (i : Int), d.map fun o => o.getD (0, 0), ngD (i + c) dv, x17, x18, (m.length : Int), (c : Int), ())) ?_ ?_
        · have e : IntKind.wrap .i64 ((i : Int) + (c : Int)) = ((i + c : Nat) : Int) := by rw [w64 (by omega) (by omega)]; omega
          rw [e, tmod_odd]
          unfold ngD
          by_cases hodd : (i + c) % 2 = 1
          · rw [if_pos hodd]
            exact Evt.ctrue (decide_eq_true hodd) (Evt.bind (.const (dyMinus_eq gdv)) .pure)
          · rw [if_neg hodd]
            exact Evt.cfalse (decide_eq_false hodd) .pure
        · rw [List.map_append] at ih
          simp only [List.all_cons, ht, Option.map_some, Option.isSome_some, Bool.true_and]
          rw [ht] at ih
          exact Evt.ctrue (by simp; omega) ih
  have key : ∀ (r d : List Nat), d ++ r = List.range (n + 2) → Evt (fun k q => spec_mxAdjoint_L122 k q m (d.map fun i => (adjRow n m i).getD []) (m.length : Int) d.length) (if (r.all fun i => (adjRow n m i).isSome) then .inr ((List.range (n + 2)).map fun i => (adjRow n m i).getD [], ()) else .inl ([], false)) := by
    intro r
    induction r with
    | nil =>
      intro d hd
      refine Evt.step (fun k q => spec_mxAdjoint_L122.eq_2 k _ _ _ _ q) ?_
      rw [List.append_nil] at hd
      have : d.length = n + 2 := by rw [hd]; simp
      rw [hd]
      exact Evt.cfalse (decide_eq_false (by rw [← hd]; omega)) .pure
    | cons e r ih =>
      intro d hd
      obtain ⟨he, hlt⟩ := rng_at hd
      refine Evt.step (fun k q => spec_mxAdjoint_L122.eq_2 k _ _ _ _ q) (Evt.ctrue (decide_eq_true (by omega)) ?_)
      have ih := ih (d ++ [e]) (by simpa using hd)
      have hnx : IntKind.wrap .i64 ((d.length : Int) + 1) = ((d ++ [e]).length : Int) := by rw [w64_next (by simp only [lenB]; omega)]; simp
      rw [← hnx] at ih
      have hi := inner (d.map fun i => (adjRow n m i).getD []) d.length (m.length : Int) (d.length : Int) (by omega) (adjT n m d.length) [] rfl
      simp only [List.length_nil, List.map_nil] at hi
      rw [List.map_append, List.map_cons] at ih
      rw [he] at ih ⊢
      cases hall : (adjT n m d.length).all (·.isSome) with
      | false =>
        rw [hall] at hi
        have hr : adjRow n m d.length = none := by unfold adjRow; rw [hall]; rfl
        simp only [List.all_cons, hr, Option.isSome_none, Bool.false_and]
        exact Evt.inl (Evt.diag hi) .pure
      | true =>
        rw [hall] at hi
        have hr : adjRow n m d.length = some ((adjT n m d.length).map fun o => o.getD (0, 0)) := by unfold adjRow; rw [hall]; rfl
        rw [hr] at ih
        simp only [List.all_cons, hr, Option.isSome_some, Bool.true_and]
        exact Evt.inr (Evt.diag hi) (Evt.ctrue (by simp; omega) ih)
  have h0 := key (List.range (n + 2)) [] rfl
  simp only [List.length_nil, List.map_nil] at h0
  unfold adjV
  cases hall : (List.range (n + 2)).all fun i => (adjRow n m i).isSome with
  | true => rw [hall] at h0; exact Evt.inr (Evt.diag h0) .pure
  | false => rw [hall] at h0; exact Evt.inl (Evt.diag h0) .pure

theorem impl_adjoint_ev {n : Nat} {m : List Pt} (hn : n + 1 ≤ 2) (h : sq gd (n + 2) m) : Evt (fun k _ => impl_adjoint k m) (adjV n m) := by
  refine Evt.eq (f := fun k q => _) ?_ (fun k q => by rw [impl_adjoint])
  have hm := h.1
  refine Evt.cfalse (by rw [hm]; simp; omega) ?_
  have inner : ∀ (x5 : List Pt) (i : Nat) (x19 x20 : Int), i ≤ n + 1 → ∀ (b0 : Bool) (r d : List (Option (Int × Int))) (c : Bool) (o : Pt), d ++ r = adjT n m i → Flag (fun t => t) (0, 0) b0 d c o →
      ∃ c' o', Flag (fun t => t) (0, 0) b0 (adjT n m i) c' o' ∧ Evt (fun k q => impl_adjoint_L256410 k q m c x5 (i : Int) o x19 x20 (m.length : Int) d.length) (.inr (m, c', x5, o', x19, x20, ())) := by
    intro x5 i x19 x20 hi b0 r
    induction r with
    | nil =>
      intro d c o hd hf
      rw [List.append_nil] at hd
      have hdl : d.length = n + 2 := by rw [hd]; simp [adjT]
      rw [hd] at hf
      exact ⟨c, o, hf, Evt.step (fun k q => impl_adjoint_L256410.eq_2 k _ _ _ _ _ _ _ _ _ q) (Evt.cfalse (decide_eq_false (by omega)) .pure)⟩
    | cons t r ih =>
      intro d c o hd hf
      obtain ⟨ht, hc⟩ := adjT_get hd rfl
      generalize hcd : d.length = j at ht hc
      obtain ⟨v, ⟨gv, _⟩, hv, hev⟩ := impl_det_ev (n := n) (by omega) (sq_part h hc hi) c
      have hst := Flag.step (e := t) (v := ngD (i + j) v) hf (by
        intro hcb hs
        rw [ht] at hs ⊢
        cases hdo : detO n (partV m j i) with
        | none => rw [hdo] at hs; cases hs
        | some dv =>
          have := hv hcb (by rw [hdo]; rfl)
          rw [hdo] at this
          cases this
          rfl)
      have hts : t.isSome = (detO n (partV m j i)).isSome := by rw [ht]; simp
      rw [hts] at hst
      obtain ⟨c', o', q1, q3⟩ := ih (d ++ [t]) _ _ (by simpa using hd) hst
      refine ⟨c', o', q1, Evt.step (fun k q => impl_adjoint_L256410.eq_2 k _ _ _ _ _ _ _ _ _ q) (Evt.ctrue (decide_eq_true (by omega)) ?_)⟩
      have hnx : IntKind.wrap .i64 ((j : Int) + 1) = ((d ++ [t]).length : Int) := by rw [w64_next (by simp only [lenB]; omega)]; simp; omega
      rw [← hnx] at q3
      refine Evt.bind (impl_part_ev h hn hi) (Evt.bind hev ?_)
      refine Evt.inr (y := (m, (c && (detO n (partV m j i)).isSome), x5, (i : Int), o, ngD (i + j) v, x19, x20, (m.length : Int), (j : Int), ())) ?_ ?_
      · have e : IntKind.wrap .i64 ((i : Int) + (j : Int)) = ((i + j : Nat) : Int) := by rw [w64 (by omega) (by omega)]; omega
        rw [e, tmod_odd]
        unfold ngD
        by_cases hodd : (i + j) % 2 = 1
        · rw [if_pos hodd]
          exact Evt.ctrue (decide_eq_true hodd) (Evt.bind (.const (minus_eq gv)) .pure)
        · rw [if_neg hodd]
          exact Evt.cfalse (decide_eq_false hodd) .pure
      · have hol := hf.1
        exact Evt.ctrue (by simp; omega) q3
  have key : ∀ (r d : List Nat) (c : Bool) (o : List Pt), d ++ r = List.range (n + 2) → Flag (adjRow n m) [] true d c o →
      ∃ c' o', Flag (adjRow n m) [] true (List.range (n + 2)) c' o' ∧ Evt (fun k q => impl_adjoint_L250 k q m c o (m.length : Int) d.length) (.inr (c', o', ())) := by
    intro r
    induction r with
    | nil =>
      intro d c o hd hf
      rw [List.append_nil] at hd
      have hdl : d.length = n + 2 := by rw [hd]; simp
      rw [hd] at hf
      exact ⟨c, o, hf, Evt.step (fun k q => impl_adjoint_L250.eq_2 k _ _ _ _ _ q) (Evt.cfalse (decide_eq_false (by omega)) .pure)⟩
    | cons e r ih =>
      intro d c o hd hf
      obtain ⟨he, hlt⟩ := rng_at hd
      obtain ⟨c1, o1, ⟨f1, f2, f3⟩, q0⟩ := inner o d.length (m.length : Int) (d.length : Int) (by omega) c (adjT n m d.length) [] c [] rfl Flag.nil
      simp only [List.length_nil] at q0
      have hst := Flag.step (e := e) (v := o1) hf (by
        intro hc hs
        subst hc
        rw [he] at hs ⊢
        unfold adjRow at hs ⊢
        split at hs
        · rename_i hall
          rw [if_pos hall, ← f3 (by rw [f2, hall]; rfl)]
        · cases hs)
      have e2 : (c && (adjRow n m e).isSome) = c1 := by
        rw [f2, he]
        unfold adjRow
        cases (adjT n m d.length).all (·.isSome) <;> rfl
      rw [e2] at hst
      obtain ⟨c', o', q1, q2⟩ := ih (d ++ [e]) c1 (o ++ [o1]) (by simpa using hd) hst
      refine ⟨c', o', q1, Evt.step (fun k q => impl_adjoint_L250.eq_2 k _ _ _ _ _ q) (Evt.ctrue (decide_eq_true (by omega)) ?_)⟩
      have hnx : IntKind.wrap .i64 ((d.length : Int) + 1) = ((d ++ [e]).length : Int) := by rw [w64_next (by simp only [lenB]; omega)]; simp
      rw [← hnx] at q2
      have hol := hf.1
      exact Evt.inr (Evt.diag q0) (Evt.ctrue (by simp; omega) q2)
  obtain ⟨c', o', ⟨f1, f2, f3⟩, q2⟩ := key (List.range (n + 2)) [] true [] rfl Flag.nil
  rw [Bool.true_and] at f2
  simp only [List.length_nil] at q2
  refine Evt.inr (Evt.diag q2) ?_
  unfold adjV
  rw [← f2]
  cases c' with
  | true => rw [← f3 rfl]; exact Evt.cfalse rfl .pure
  | false => exact Evt.ctrue rfl .pure

def ajV (m : List Pt) : List Pt × Bool := if tab gd m then (if m.length = 1 then ([[(1, 0)]], true) else adjV (m.length - 2) m) else ([], false)
theorem ajV_len {m : List Pt} : (ajV m).1.length ≤ 3 ∧ ∀ r ∈ (ajV m).1, r.length ≤ 3 := by
  unfold ajV
  split
  · rename_i ht
    obtain ⟨n, hn, hsq⟩ := sq_tab ht
    have hm := hsq.1
    split
    · simp
    · unfold adjV
      split
      · refine ⟨by simp; omega, ?_⟩
        intro r hr
        obtain ⟨i, _, rfl⟩ := List.mem_map.1 hr
        unfold adjRow
        split
        · simp [adjT]; omega
        · simp
      · simp
  · simp
theorem small_sized {m : List Pt} (h1 : m.length ≤ 3) (h2 : ∀ r ∈ m, r.length ≤ 3) : Sized m := by
  unfold Sized
  have : ∀ (l : List Pt), (∀ r ∈ l, r.length ≤ 3) → (l.map List.length).sum ≤ 3 * l.length := by
    intro l
    induction l with
    | nil => intro _; simp
    | cons x l ih =>
      intro h
      have h1 := h x (by simp)
      have h2 := ih (fun r hr => h r (by simp [hr]))
      simp only [List.map_cons, List.sum_cons, List.length_cons]
      omega
  have := this _ h2
  omega
end Go.Ev.G
namespace Go.Ev.G
open Go Go.Ev
set_option maxRecDepth 100000

theorem adjoint_law (a : List Pt) (ha : a.length ≤ maxLen) (hm : ∀ x ∈ a, x.length ≤ maxLen) : ∃ k, laws_FnExactAdjointOf k a = some true := by
  refine Evt.get (Evt.eq (f := fun k q => _) ?_ (fun k q => by rw [laws_FnExactAdjointOf]))
  refine Evt.bind (szDyadicSS_ev (a := 1000000) ha hm (by omega)) ?_
  by_cases hz : a.length + (a.map List.length).sum ≤ 1000000
  · rw [if_pos hz]
    have hs : Sized a := hz
    refine Evt.cfalse (by simp <;> omega) ?_
    have hb : a.length < 274877906944 := by have := hs.len; omega
    have hr : ∀ r ∈ a, r.length < lenB := fun r hr => by have := hs.row r hr; simp only [lenB]; omega
    have sizes : ∀ {n : Nat}, sq gd (n + 1) a → (a.length = 1 ∧ n = 0) ∨ ∃ p, n = p + 1 ∧ a.length ≠ 1 ∧ a.length - 2 = p := by
      intro n hsq
      have := hsq.1
      cases n with
      | zero => exact .inl ⟨by omega, rfl⟩
      | succ p => exact .inr ⟨p, rfl, by omega, by omega⟩
    have spec : Evt (fun k _ => spec_AdjointOf k a) (ajV a) := by
      refine Evt.eq (f := fun k q => _) ?_ (fun k q => by rw [spec_AdjointOf])
      refine Evt.bind (mxGood_ev hb hr) ?_
      unfold ajV
      cases ht : tab gd a with
      | false => exact Evt.ctrue rfl .pure
      | true =>
        obtain ⟨n, hn, hsq⟩ := sq_tab ht
        refine Evt.cfalse rfl ?_
        rcases sizes hsq with ⟨h1, _⟩ | ⟨p, rfl, h1, h2⟩
        · rw [if_pos rfl, if_pos h1]
          have hone : Evt (fun k _ => spec_mxAdjoint k a) ([[(1, 0)]], true) := by
            refine Evt.eq (f := fun k q => _) ?_ (fun k q => by rw [spec_mxAdjoint])
            exact Evt.ctrue (by rw [h1]; rfl) (Evt.bind (a := (1, 0)) (.const rfl) .pure)
          exact Evt.bind hone .pure
        · rw [if_pos rfl, if_neg h1, h2]
          exact Evt.bind (spec_adjoint_ev (by omega) hsq) .pure
    have impl : Evt (fun k _ => impl_AdjointOf k a) (ajV a) := by
      refine Evt.eq (f := fun k q => _) ?_ (fun k q => by rw [impl_AdjointOf])
      refine Evt.bind (isTable_ev (by simp only [lenB]; omega) hr) ?_
      unfold ajV
      cases ht : tab gd a with
      | false => exact Evt.ctrue rfl .pure
      | true =>
        obtain ⟨n, hn, hsq⟩ := sq_tab ht
        refine Evt.cfalse rfl ?_
        rcases sizes hsq with ⟨h1, _⟩ | ⟨p, rfl, h1, h2⟩
        · rw [if_pos rfl, if_pos h1]
          have hone : Evt (fun k _ => impl_adjoint k a) ([[(1, 0)]], true) := by
            refine Evt.eq (f := fun k q => _) ?_ (fun k q => by rw [impl_adjoint])
            exact Evt.ctrue (by rw [h1]; rfl) (Evt.bind (a := (1, 0)) (.const rfl) .pure)
          exact Evt.bind hone .pure
        · rw [if_pos rfl, if_neg h1, h2]
          exact Evt.bind (impl_adjoint_ev (by omega) hsq) .pure
    obtain ⟨l1, l2⟩ := ajV_len (m := a)
    have hrs := small_sized l1 l2
    have eqs : Evt (fun k _ => laws_eqDyadicSS k (ajV a).1 (ajV a).1) true := eqDyadicSS_ev (by simp only [lenB]; omega) (fun y hy => by have := l2 y hy; simp only [lenB]; omega)
    obtain ⟨y, hy1, hy2⟩ := markDyadicSS_ev (x := (ajV a).1) (a := 101) (by simp only [lenB]; omega) hrs.marks
    obtain ⟨z, hz1, _⟩ := markDyadicSS_ev (x := a) (a := 101) (by simp only [lenB]; omega) hs.marks
    refine Evt.bind (toDyadicSS_ev hs.len hs.row) ?_
    simp only [toV_rows]
    refine Evt.bind spec (Evt.bind (toDyadicSS_ev hs.len hs.row) ?_)
    simp only [toV_rows]
    refine Evt.bind impl (Evt.bind eqs (Evt.cfalse rfl (Evt.cfalse (by simp) (Evt.bind (toDyadicSS_ev hs.len hs.row) (Evt.bind (intactD_ev hs) (Evt.cfalse rfl (Evt.bind hz1 (Evt.cfalse (by simp <;> omega) ?_))))))))
    refine Evt.bind eqs (Evt.cfalse rfl (Evt.cfalse (by simp) (Evt.bind hy1 (Evt.bind hy2 (Evt.cfalse (by simp <;> omega) (Evt.cfalse (by simp) (Evt.bind (toDyadicSS_ev hs.len hs.row) ?_)))))))
    simp only [toV_rows]
    exact Evt.bind impl (Evt.bind eqs (Evt.cfalse rfl (Evt.cfalse (by simp) (Evt.bind hy2 (Evt.cfalse (by simp <;> omega) (Evt.cfalse (by simp) .pure))))))
  · rw [if_neg hz]
    exact Evt.ctrue rfl .pure
theorem adjoint_row (a : List Pt) (h : WfT (.sl (.sl tDyadic)) a) : ∃ k, laws_FnExactAdjointOf k a = some true := adjoint_law a h.1 (fun x hx => (h.2 x hx).1)
end Go.Ev.G
