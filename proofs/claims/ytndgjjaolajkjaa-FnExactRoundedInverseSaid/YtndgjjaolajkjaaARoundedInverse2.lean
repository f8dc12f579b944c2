/- What the plain functions of the law compute, for all inputs within the sizes that the theorems name. -/
import Derived.Test.YtndgjjaolajkjaaPRoundedInverse1
import Derived.Test.YtndgjjaolajkjaaARoundedInverse1
set_option linter.unusedVariables false
namespace Go.Ev.G
open Go Go.Ev
set_option maxRecDepth 100000

def adW : Nat → List Pt → List Pt × Bool
  | 0, _ => ([[(1, 0)]], true)
  | n + 1, m => adjV n m
theorem spec_adW {n : Nat} {m : List Pt} (hn : n ≤ 2) (h : sq gd (n + 1) m) : Evt (fun k _ => spec_mxAdjoint k m) (adW n m) := by
  cases n with
  | zero =>
    have h1 := h.1
    refine Evt.eq (f := fun k q => _) ?_ (fun k q => by rw [spec_mxAdjoint])
    exact Evt.ctrue (by rw [h1]; rfl) (Evt.bind (a := (1, 0)) (.const rfl) .pure)
  | succ n => exact spec_adjoint_ev (by omega) h
theorem impl_adW {n : Nat} {m : List Pt} (hn : n ≤ 2) (h : sq gd (n + 1) m) : Evt (fun k _ => impl_adjoint k m) (adW n m) := by
  cases n with
  | zero =>
    have h1 := h.1
    refine Evt.eq (f := fun k q => _) ?_ (fun k q => by rw [impl_adjoint])
    exact Evt.ctrue (by rw [h1]; rfl) (Evt.bind (a := (1, 0)) (.const rfl) .pure)
  | succ n => exact impl_adjoint_ev (by omega) h
theorem adW_ok {n : Nat} {m : List Pt} (hn : n ≤ 2) (h : sq gd (n + 1) m) : (adW n m).1.length ≤ 3 ∧ ∀ r ∈ (adW n m).1, r.length ≤ 3 ∧ ∀ x ∈ r, gd x := by
  cases n with
  | zero =>
    refine ⟨by simp [adW], fun r hr => ?_⟩
    simp only [adW, List.mem_singleton] at hr
    subst hr
    refine ⟨by simp, fun x hx => ?_⟩
    simp only [List.mem_singleton] at hx
    subst hx
    exact gd_int (n := 1) (by omega)
  | succ n =>
    show (adjV n m).1.length ≤ 3 ∧ ∀ r ∈ (adjV n m).1, r.length ≤ 3 ∧ ∀ x ∈ r, gd x
    unfold adjV
    split
    · rename_i hall
      refine ⟨by simp; omega, fun r hr => ?_⟩
      obtain ⟨i, hi, rfl⟩ := List.mem_map.1 hr
      have hs := List.all_eq_true.1 hall i hi
      have hil := List.mem_range.1 hi
      unfold adjRow at hs ⊢
      split at hs
      · rename_i ha
        rw [if_pos ha]
        refine ⟨by simp [adjT]; omega, fun x hx => ?_⟩
        obtain ⟨o, ho, rfl⟩ := List.mem_map.1 hx
        have hos := List.all_eq_true.1 ha o ho
        unfold adjT at ho
        obtain ⟨c, hc, rfl⟩ := List.mem_map.1 ho
        have hcl := List.mem_range.1 hc
        cases hd : detO n (partV m c i) with
        | none => rw [hd] at hos; cases hos
        | some t =>
          simp only [Option.map_some, Option.getD_some]
          exact ngD_gd (detO_gd n _ t (sq_part h (by omega) (by omega)) hd)
      · cases hs
    · exact ⟨by simp, by simp⟩

def dvO (d : Int × Int) (p : Nat) (x : Int × Int) : Option (Int × Int) := if (mkD (quotV x.1 d.1 (d.2 - x.2 + p)) p).2 then some (mkD (quotV x.1 d.1 (d.2 - x.2 + p)) p).1 else none
def rwO (d : Int × Int) (p : Nat) (row : Pt) : Option Pt := allO (dvO d p) (0, 0) row
def invV (n : Nat) (m : List Pt) (p : Nat) : List Pt × Bool := match detO n m with
  | none => ([], false)
  | some d => if (adW n m).2 then (if d.1 = 0 then ([], false) else oL (allO (rwO d p) [] (adW n m).1)) else ([], false)

theorem mxInverse_ev {n : Nat} {m : List Pt} {p : Nat} (hn : n ≤ 2) (h : sq gd (n + 1) m) (hp : p ≤ 24) : Evt (fun k _ => spec_mxInverse k m (p : Int)) (invV n m p) := by
  refine Evt.eq (f := fun k q => _) ?_ (fun k q => by rw [spec_mxInverse])
  refine Evt.bind (spec_det_ev hn h) (Evt.bind (spec_adW hn h) ?_)
  obtain ⟨al, ar⟩ := adW_ok hn h
  unfold invV
  cases hd : detO n m with
  | none => exact Evt.ctrue rfl .pure
  | some d =>
  have hdg := detO_gd n m d h hd
  refine Evt.cfalse rfl ?_
  cases ha : (adW n m).2 with
  | false => exact Evt.ctrue rfl .pure
  | true =>
  refine Evt.cfalse rfl ?_
  dsimp only
  rw [if_pos rfl]
  simp only [oV]
  by_cases hz : d.1 = 0
  · rw [if_pos hz]
    exact Evt.ctrue (beq_iff_eq.2 hz) .pure
  · rw [if_neg hz]
    refine Evt.cfalse (beq_eq_false_iff_ne.2 hz) ?_
    generalize (adW n m).1 = a at al ar ⊢
    have inner : ∀ (row : Pt) (x10 x39 : List Pt) (x40 x41 : Int), row.length ≤ 3 → (∀ x ∈ row, gd x) → ∀ (r e : Pt), e ++ r = row →
        Evt (fun k n => spec_mxInverse_L518554 k n (p : Int) d x10 (e.map fun i => (dvO d p i).getD (0, 0)) x39 x40 x41 row (row.length : Int) e.length) (if (r.all fun i => (dvO d p i).isSome) then .inr ((p : Int), d, x10, row.map fun i => (dvO d p i).getD (0, 0), x39, x40, x41, ()) else .inl ([], false)) := by
      intro row x10 x39 x40 x41 hl hg r
      induction r with
      | nil =>
        intro e h
        refine Evt.step (fun k n => spec_mxInverse_L518554.eq_2 k _ _ _ _ _ _ _ _ _ _ n) ?_
        rw [List.append_nil] at h
        subst h
        exact Evt.rng0 .pure
      | cons x r ih =>
        intro e h
        have hxl := congrArg List.length h
        simp at hxl
        have ih := ih (e ++ [x]) (by simpa using h)
        rw [← len_next (r := r) (by rw [h]; simp only [lenB]; omega), List.map_append] at ih
        have hx := hg x (by rw [← h]; simp)
        have g : row.getD (Int.toNat (e.length : Int)) (0, 0) = x := by rw [← h]; exact mid_get
        refine Evt.step (fun k n => spec_mxInverse_L518554.eq_2 k _ _ _ _ _ _ _ _ _ _ n) ?_
        rw [g]
        refine Evt.ctrue (by rw [← h]; exact mid_lt) (Evt.ctrue mid_ge (Evt.ctrue (by rw [← h]; exact mid_lt) (Evt.bind (dyDivide_ev hx hdg hz hp) ?_)))
        cases hh : (mkD (quotV x.1 d.1 (d.2 - x.2 + p)) p).2 with
        | false =>
          have ho : dvO d p x = none := by unfold dvO; rw [hh]; rfl
          simp only [List.all_cons, ho, Option.isSome_none, Bool.false_and]
          exact Evt.ctrue rfl .pure
        | true =>
          have ho : dvO d p x = some (mkD (quotV x.1 d.1 (d.2 - x.2 + p)) p).1 := by unfold dvO; rw [hh]; rfl
          simp only [List.map_cons, List.map_nil, ho] at ih
          simp only [List.all_cons, ho, Option.isSome_some, Bool.true_and]
          exact Evt.cfalse rfl (Evt.ctrue (by simp; omega) ih)
    have key : ∀ (r e : List Pt), e ++ r = a → Evt (fun k n => spec_mxInverse_L506 k n (p : Int) d (e.map fun r => (rwO d p r).getD []) a (a.length : Int) e.length) (if (r.all fun r => (rwO d p r).isSome) then .inr (a.map fun r => (rwO d p r).getD [], ()) else .inl ([], false)) := by
      intro r
      induction r with
      | nil =>
        intro e h
        refine Evt.step (fun k n => spec_mxInverse_L506.eq_2 k _ _ _ _ _ _ n) ?_
        rw [List.append_nil] at h
        subst h
        exact Evt.rng0 .pure
      | cons x r ih =>
        intro e h
        have hxl := congrArg List.length h
        simp at hxl
        have ih := ih (e ++ [x]) (by simpa using h)
        rw [← len_next (r := r) (by rw [h]; simp only [lenB]; omega), List.map_append] at ih
        obtain ⟨hel, heg⟩ := ar x (by rw [← h]; simp)
        have g : a.getD (Int.toNat (e.length : Int)) [] = x := by rw [← h]; exact mid_get
        refine Evt.step (fun k n => spec_mxInverse_L506.eq_2 k _ _ _ _ _ _ n) ?_
        rw [g]
        have hi := inner x (e.map fun r => (rwO d p r).getD []) a (a.length : Int) (e.length : Int) hel heg x [] rfl
        simp only [List.map_nil, List.length_nil] at hi
        refine Evt.ctrue (by rw [← h]; exact mid_lt) (Evt.ctrue mid_ge (Evt.ctrue (by rw [← h]; exact mid_lt) ?_))
        cases hall : x.all fun i => (dvO d p i).isSome with
        | false =>
          have ho : rwO d p x = none := by unfold rwO allO; rw [hall]; rfl
          rw [hall] at hi
          simp only [List.all_cons, ho, Option.isSome_none, Bool.false_and]
          exact Evt.inl (Evt.diag hi) .pure
        | true =>
          have ho : rwO d p x = some (x.map fun i => (dvO d p i).getD (0, 0)) := by unfold rwO allO; rw [hall]; rfl
          rw [hall] at hi
          simp only [List.map_cons, List.map_nil, ho] at ih
          simp only [List.all_cons, ho, Option.isSome_some, Bool.true_and]
          exact Evt.inr (Evt.diag hi) (Evt.ctrue (by simp; omega) ih)
    have h0 := key a [] rfl
    simp only [List.map_nil, List.length_nil] at h0
    unfold allO
    cases hall : a.all fun r => (rwO d p r).isSome with
    | true => rw [hall] at h0; exact Evt.inr (Evt.diag h0) .pure
    | false => rw [hall] at h0; exact Evt.inl (Evt.diag h0) .pure

theorem roundedInverse_ev {n : Nat} {m : List Pt} {p : Nat} (hn : n ≤ 2) (h : sq gd (n + 1) m) (hp : p ≤ 24) : Evt (fun k _ => impl_roundedInverse k m (p : Int)) (invV n m p) := by
  refine Evt.eq (f := fun k q => _) ?_ (fun k q => by rw [impl_roundedInverse])
  obtain ⟨v, hv1, hv2, hv3⟩ := impl_det_ev hn h true
  refine Evt.bind hv3 (Evt.bind (impl_adW hn h) ?_)
  obtain ⟨al, ar⟩ := adW_ok hn h
  unfold invV
  cases hd : detO n m with
  | none => exact Evt.ctrue rfl .pure
  | some d =>
  have hdg := detO_gd n m d h hd
  have hvd : v = d := by
    have := hv2 rfl (by rw [hd]; rfl)
    rw [hd] at this
    cases this
    rfl
  subst hvd
  refine Evt.cfalse rfl ?_
  cases ha : (adW n m).2 with
  | false => exact Evt.ctrue rfl .pure
  | true =>
  refine Evt.cfalse rfl ?_
  dsimp only
  rw [if_pos rfl]
  by_cases hz : v.1 = 0
  · rw [if_pos hz]
    exact Evt.ctrue (beq_iff_eq.2 hz) .pure
  · rw [if_neg hz]
    refine Evt.cfalse (beq_eq_false_iff_ne.2 hz) ?_
    generalize (adW n m).1 = a at al ar ⊢
    have inner : ∀ (row : Pt) (A R : List Pt) (x39 x40 : Int), row.length ≤ 3 → (∀ x ∈ row, gd x) → ∀ (b0 : Bool) (r e : Pt) (c : Bool) (o : Pt), e ++ r = row → Flag (dvO v p) (0, 0) b0 e c o →
        ∃ c' o', Flag (dvO v p) (0, 0) b0 row c' o' ∧ Evt (fun k n => impl_roundedInverse_L129638 k n () () A.length (p : Int) c v (A ++ (o ++ r) :: R) x39 x40 (row.length : Int) e.length) (.inr ((), (p : Int), c', v, A ++ o' :: R, x39, x40, ())) := by
      intro row A R x39 x40 hl hg b0 r
      induction r with
      | nil =>
        intro e c o h hf
        rw [List.append_nil] at h
        subst h
        refine ⟨c, o, hf, Evt.step (fun k n => impl_roundedInverse_L129638.eq_2 k _ _ _ _ _ _ _ _ _ _ _ n) ?_⟩
        rw [List.append_nil]
        exact Evt.cfalse (by simp) .pure
      | cons x r ih =>
        intro e c o h hf
        have hxl := congrArg List.length h
        simp at hxl
        have hx := hg x (by rw [← h]; simp)
        have hol := hf.1
        obtain ⟨w, hw, hwx⟩ := keep_val c (mkD (quotV x.1 v.1 (v.2 - x.2 + p)) p).1 (mkD (quotV x.1 v.1 (v.2 - x.2 + p)) p).2
        have e1 : (dvO v p x).isSome = (mkD (quotV x.1 v.1 (v.2 - x.2 + p)) p).2 := by unfold dvO; cases (mkD (quotV x.1 v.1 (v.2 - x.2 + p)) p).2 <;> rfl
        have hst := Flag.step (e := x) (v := w) hf (by
          intro hc hs
          rw [e1] at hs
          rw [hwx hc hs]
          unfold dvO
          rw [if_pos hs])
        rw [e1] at hst
        obtain ⟨c', o', q1, q2⟩ := ih (e ++ [x]) _ _ (by simpa using h) hst
        refine ⟨c', o', q1, Evt.step (fun k n => impl_roundedInverse_L129638.eq_2 k _ _ _ _ _ _ _ _ _ _ _ n) ?_⟩
        rw [← len_next (r := r) (by rw [h]; simp only [lenB]; omega)] at q2
        have gr : (A ++ (o ++ x :: r) :: R).getD A.length [] = o ++ x :: r := by simp
        have hoe : (e.length : Int) = (o.length : Int) := by omega
        have gx : (o ++ x :: r).getD (Int.toNat (e.length : Int)) (0, 0) = x := by rw [hoe]; exact mid_get
        have sx : (A ++ (o ++ x :: r) :: R).set A.length ((o ++ x :: r).set (Int.toNat (e.length : Int)) w) = A ++ ((o ++ [w]) ++ r) :: R := by rw [hoe, mid_set]; simp
        have lr : (o ++ x :: r).length = row.length := by simp; omega
        have wk : IntKind.wrap .i64 (v.2 - x.2) = v.2 - x.2 := by
          obtain ⟨a1, a2, _⟩ := hdg
          obtain ⟨b1, b2, _⟩ := hx
          exact w64 (by omega) (by omega)
        have hq := quotientDown_ev (n := x.1) (k := v.2 - x.2) (d := v.1) (p := p) ⟨hx.2.2.1, hx.2.2.2.1⟩ ⟨hdg.2.2.1, hdg.2.2.2.1⟩ hz (by
          obtain ⟨a1, a2, _⟩ := hdg
          obtain ⟨b1, b2, _⟩ := hx
          omega) hp
        rw [gr, gx, lr, wk]
        have c0 : decide ((e.length : Int) < (row.length : Int)) = true := decide_eq_true (by omega)
        refine Evt.ctrue c0 (Evt.ctrue mid_ge (Evt.ctrue c0 (Evt.bind hq (Evt.bind (.const hw) (Evt.ctrue mid_ge (Evt.ctrue c0 ?_))))))
        dsimp only
        rw [sx]
        exact q2
    have key : ∀ (r e : List Pt) (c : Bool) (o : List Pt), e ++ r = a → Flag (rwO v p) [] true e c o →
        ∃ c' o', Flag (rwO v p) [] true a c' o' ∧ Evt (fun k n => impl_roundedInverse_L506 k n () (p : Int) c v (o ++ r) (a.length : Int) e.length) (.inr (c', o', ())) := by
      intro r
      induction r with
      | nil =>
        intro e c o h hf
        rw [List.append_nil] at h
        subst h
        refine ⟨c, o, hf, Evt.step (fun k n => impl_roundedInverse_L506.eq_2 k _ _ _ _ _ _ _ n) ?_⟩
        rw [List.append_nil]
        exact Evt.cfalse (by simp) .pure
      | cons x r ih =>
        intro e c o h hf
        have hxl := congrArg List.length h
        simp at hxl
        obtain ⟨hel, heg⟩ := ar x (by rw [← h]; simp)
        have hol := hf.1
        obtain ⟨c1, o1, ⟨f1, f2, f3⟩, q0⟩ := inner x o r (a.length : Int) (e.length : Int) (by omega) heg c x [] c [] rfl Flag.nil
        simp only [List.length_nil, List.nil_append] at q0
        have hst := Flag.step (e := x) (v := o1) hf (by
          intro hc hs
          subst hc
          unfold rwO allO at hs ⊢
          split at hs
          · rename_i hall
            rw [if_pos hall, ← f3 (by rw [f2, hall]; rfl)]
          · cases hs)
        have e2 : (c && (rwO v p x).isSome) = c1 := by
          rw [f2]
          unfold rwO allO
          cases x.all fun i => (dvO v p i).isSome <;> rfl
        rw [e2] at hst
        obtain ⟨c', o', q1, q2⟩ := ih (e ++ [x]) c1 (o ++ [o1]) (by simpa using h) hst
        refine ⟨c', o', q1, Evt.step (fun k n => impl_roundedInverse_L506.eq_2 k _ _ _ _ _ _ _ n) ?_⟩
        rw [← len_next (r := r) (by rw [h]; simp only [lenB]; omega)] at q2
        have hoe : (e.length : Int) = (o.length : Int) := by omega
        have gx : (o ++ x :: r).getD (Int.toNat (e.length : Int)) [] = x := by rw [hoe]; exact mid_get
        have hn2 : Int.toNat (e.length : Int) = o.length := by omega
        have lo : ((o ++ x :: r).length : Int) = (a.length : Int) := by simp; omega
        rw [gx]
        rw [hn2]
        have q3 : o ++ [o1] ++ r = o ++ o1 :: r := by simp
        rw [q3] at q2
        exact Evt.ctrue (decide_eq_true (by omega)) (Evt.ctrue mid_ge (Evt.ctrue (decide_eq_true (by omega)) (Evt.inr (Evt.diag q0) q2)))
    obtain ⟨c', o', ⟨f1, f2, f3⟩, q2⟩ := key a [] true [] rfl Flag.nil
    rw [Bool.true_and] at f2
    simp only [List.length_nil, List.nil_append] at q2
    refine Evt.inr (Evt.diag q2) ?_
    unfold allO
    rw [← f2]
    cases c' with
    | true => rw [← f3 rfl]; exact Evt.cfalse rfl .pure
    | false => exact Evt.ctrue rfl .pure
theorem invV_small {n p : Nat} {m : List Pt} (hn : n ≤ 2) (h : sq gd (n + 1) m) : small3 (invV n m p).1 := by
  obtain ⟨al, ar⟩ := adW_ok hn h
  unfold invV
  split
  · exact ⟨by simp, by simp⟩
  · split
    · split
      · exact ⟨by simp, by simp⟩
      · rename_i d _ _ _
        cases ho : allO (rwO d p) [] (adW n m).1 with
        | none => exact ⟨by simp [oL], by simp [oL]⟩
        | some M =>
          refine ⟨by simp only [oL]; rw [allO_len ho]; exact al, fun r hr => ?_⟩
          obtain ⟨x, hx, hg⟩ := allO_mem ho r hr
          rw [allO_len hg]
          exact (ar x hx).1
    · exact ⟨by simp, by simp⟩
end Go.Ev.G

namespace Go.Ev.G
open Go Go.Ev
set_option maxRecDepth 100000

def riV (m : List Pt) (p : Int) : List Pt × Bool := if tab gd m && decide (0 ≤ p ∧ p ≤ 24) then invV (m.length - 1) m p.toNat else ([], false)
theorem riV_small (m : List Pt) (p : Int) : small3 (riV m p).1 := by
  unfold riV
  split
  · rename_i h
    rw [Bool.and_eq_true] at h
    obtain ⟨n, hn, hsq⟩ := sq_tab h.1
    have e : m.length - 1 = n := by have := hsq.1; omega
    rw [e]
    exact invV_small hn hsq
  · exact ⟨by simp, by simp⟩
theorem roundedInverse_law (a : List Pt) (p : Int) (ha : a.length ≤ maxLen) (hm : ∀ x ∈ a, x.length ≤ maxLen) : ∃ k, laws_FnExactRoundedInverse k a p = some true := by
  refine Evt.get (Evt.eq (f := fun k q => _) ?_ (fun k q => by rw [laws_FnExactRoundedInverse]))
  refine Evt.bind (szDyadicSS_ev (a := 1000000) ha hm (by omega)) ?_
  by_cases hz : a.length + (a.map List.length).sum ≤ 1000000
  · rw [if_pos hz]
    have hs : Sized a := hz
    refine Evt.cfalse (by simp <;> omega) ?_
    have hb : a.length < 274877906944 := by have := hs.len; omega
    have hr : ∀ r ∈ a, r.length < lenB := fun r hr => by have := hs.row r hr; simp only [lenB]; omega
    have spec : Evt (fun k _ => spec_RoundedInverse k a p) (riV a p) := by
      refine Evt.eq (f := fun k q => _) ?_ (fun k q => by rw [spec_RoundedInverse])
      refine Evt.bind (mxGood_ev hb hr) ?_
      unfold riV
      cases ht : tab gd a with
      | false => exact Evt.ctrue rfl .pure
      | true =>
        refine Evt.cfalse rfl (Evt.bind (.const (l1In_eq p 0 24)) ?_)
        by_cases hp : 0 ≤ p ∧ p ≤ 24
        · obtain ⟨n, hn, hsq⟩ := sq_tab ht
          have e : a.length - 1 = n := by have := hsq.1; omega
          have ep : p = ((p.toNat : Nat) : Int) := by omega
          have hi := mxInverse_ev (p := p.toNat) hn hsq (by omega)
          rw [← ep] at hi
          rw [decide_eq_true hp, e]
          exact Evt.cfalse rfl (Evt.bind hi .pure)
        · rw [decide_eq_false hp]
          exact Evt.ctrue rfl .pure
    have impl : Evt (fun k _ => impl_RoundedInverse k a p) (riV a p) := by
      refine Evt.eq (f := fun k q => _) ?_ (fun k q => by rw [impl_RoundedInverse])
      refine Evt.bind (isTable_ev (by simp only [lenB]; omega) hr) ?_
      unfold riV
      cases ht : tab gd a with
      | false => exact Evt.ctrue rfl .pure
      | true =>
        refine Evt.cfalse rfl (Evt.bind (.const (isPlaces_eq p)) ?_)
        by_cases hp : 0 ≤ p ∧ p ≤ 24
        · obtain ⟨n, hn, hsq⟩ := sq_tab ht
          have e : a.length - 1 = n := by have := hsq.1; omega
          have ep : p = ((p.toNat : Nat) : Int) := by omega
          have hi := roundedInverse_ev (p := p.toNat) hn hsq (by omega)
          rw [← ep] at hi
          rw [decide_eq_true hp, e]
          exact Evt.cfalse rfl (Evt.bind hi .pure)
        · rw [decide_eq_false hp]
          exact Evt.ctrue rfl .pure
    obtain ⟨l1, l2⟩ := riV_small a p
    have hrs := small_sized l1 l2
    have eqs : Evt (fun k _ => laws_eqDyadicSS k (riV a p).1 (riV a p).1) true := eqDyadicSS_ev (by simp only [lenB]; omega) (fun y hy => by have := l2 y hy; simp only [lenB]; omega)
    obtain ⟨y, hy1, hy2⟩ := markDyadicSS_ev (x := (riV a p).1) (a := 101) (by simp only [lenB]; omega) hrs.marks
    obtain ⟨z, hz1, _⟩ := markDyadicSS_ev (x := a) (a := 101) (by simp only [lenB]; omega) hs.marks
    refine Evt.bind (toDyadicSS_ev hs.len hs.row) ?_
    simp only [toV_rows]
    refine Evt.bind spec (Evt.bind (toDyadicSS_ev hs.len hs.row) ?_)
    simp only [toV_rows]
    refine Evt.bind impl (Evt.bind eqs (Evt.cfalse rfl (Evt.cfalse (by simp) (Evt.bind (toDyadicSS_ev hs.len hs.row) (Evt.bind (intactD_ev hs) (Evt.cfalse rfl (Evt.bind hz1 (Evt.cfalse (by simp <;> omega) ?_))))))))
    refine Evt.bind eqs (Evt.cfalse rfl (Evt.cfalse (by simp) (Evt.bind hy1 (Evt.bind hy2 (Evt.cfalse (by simp <;> omega) (Evt.cfalse (by simp) (Evt.bind (toDyadicSS_ev hs.len hs.row) ?_)))))))
    simp only [toV_rows]
    exact Evt.bind impl (Evt.bind eqs (Evt.cfalse rfl (Evt.cfalse (by simp) (Evt.bind hy2 (Evt.cfalse (by simp <;> omega) (Evt.cfalse (by simp) .pure))))))
  · rw [if_neg hz]
    exact Evt.ctrue rfl .pure
theorem roundedInverse_row (a : List Pt) (p : Int) (h : WfT (.sl (.sl tDyadic)) a) (_ : WfT (.int .i64) p) : ∃ k, laws_FnExactRoundedInverse k a p = some true := roundedInverse_law a p h.1 (fun x hx => (h.2 x hx).1)
end Go.Ev.G

