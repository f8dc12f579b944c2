/- What the plain functions of the laws compute, for all inputs within the sizes that the theorems name. -/
import Derived.Test.YtdlpejdadikggaaQ10
set_option linter.unusedVariables false
namespace Go.Ev.G
open Go Go.Ev
set_option maxRecDepth 100000

def pw (t : Tm) (j : Nat) : Int := if j = 0 then t.2.1 else if j = 1 then t.2.2.1 else t.2.2.2
def big (xs : List Tm) (j : Nat) : Bool := xs.any fun t => decide (pw t j > 0)
def needs (n : Nat) (xs : List Tm) : Bool := (decide (n ≤ 0) && big xs 0) || ((decide (n ≤ 1) && big xs 1) || (decide (n ≤ 2) && big xs 2))

theorem poPower_eq (t : Tm) (j : Nat) : spec_poPower t j = some (pw t j) := by
  unfold spec_poPower pw
  by_cases h : j = 0
  · subst h; rfl
  · rw [if_neg h, show ((j : Int) == 0) = false by simp; omega, cond_false]
    by_cases h1 : j = 1
    · subst h1; rfl
    · rw [if_neg h1, show ((j : Int) == 1) = false by simp; omega, cond_false]

def degV (j : Nat) : Int → List Tm → Int
  | m, [] => m
  | m, t :: r => degV j (max m (pw t j)) r
theorem degV_pos (j : Nat) : ∀ (xs : List Tm) (m : Int), decide (degV j m xs > 0) = (decide (m > 0) || big xs j)
  | [], m => by simp [degV, big]
  | t :: r, m => by
    rw [degV, degV_pos j r]
    unfold big
    rw [List.any_cons, ← Bool.or_assoc]
    congr 1
    rw [Bool.eq_iff_iff]
    simp only [Bool.or_eq_true, decide_eq_true_eq]
    omega

theorem degreeIn_ev {xs : List Tm} {j : Nat} (hb : xs.length < lenB) : Evt (fun k _ => spec_poDegreeIn k xs j) (degV j (-1) xs) := by
  refine Evt.eq (f := fun k q => _) ?_ (fun k q => by rw [spec_poDegreeIn])
  have key : ∀ (r d : List Tm) (m : Int), d ++ r = xs → Evt (fun k n => spec_poDegreeIn_L58 k n j m xs (xs.length : Int) d.length) (.inr (degV j m r, ())) := by
    intro r
    induction r with
    | nil =>
      intro d m h
      refine Evt.step (fun k n => spec_poDegreeIn_L58.eq_2 k _ _ _ _ _ n) ?_
      rw [List.append_nil] at h
      subst h
      exact Evt.rng0 .pure
    | cons e r ih =>
      intro d m h
      refine Evt.step (fun k n => spec_poDegreeIn_L58.eq_2 k _ _ _ _ _ n) ?_
      have ih := ih (d ++ [e]) (max m (pw e j)) (by simpa using h)
      rw [← len_next (r := r) (by rw [h]; exact hb)] at ih
      subst h
      refine Evt.ctrue mid_lt (Evt.ctrue mid_ge (Evt.ctrue mid_lt ?_))
      rw [mid_get]
      exact Evt.bind (.const (poPower_eq _ _)) (Evt.bind (.const (most_eq _ _)) ih)
  have h0 := key xs [] (-1) rfl
  simp only [List.length_nil] at h0
  exact Evt.inr (Evt.diag h0) .pure

theorem system_inner {n : Nat} {xs : List Tm} (hb : xs.length < lenB) (x0 x6 : List (List Tm)) (x7 x8 : Int) :
    Evt (fun k m => spec_poSystem_L13518 k m x0 xs (n : Int) x6 x7 x8) (if needs n xs then .inl false else .inr (x0, x6, x7, x8, ())) := by
  have l3 : ∀ j : Nat, 3 ≤ j → Evt (fun k m => spec_poSystem_L13518 k m x0 xs (j : Int) x6 x7 x8) (.inr (x0, x6, x7, x8, ())) := by
    intro j hj
    exact Evt.step (fun k m => spec_poSystem_L13518.eq_2 k _ _ _ _ _ _ m) (Evt.cfalse (decide_eq_false (by omega)) .pure)
  have st : ∀ (j : Nat) (b : Bool), j < 3 → Evt (fun k m => spec_poSystem_L13518 k m x0 xs ((j + 1 : Nat) : Int) x6 x7 x8) (if b then .inl false else .inr (x0, x6, x7, x8, ())) → Evt (fun k m => spec_poSystem_L13518 k m x0 xs (j : Int) x6 x7 x8) (if (big xs j || b) then .inl false else .inr (x0, x6, x7, x8, ())) := by
    intro j b hj h
    refine Evt.step (fun k m => spec_poSystem_L13518.eq_2 k _ _ _ _ _ _ m) (Evt.ctrue (decide_eq_true (by omega)) (Evt.bind (degreeIn_ev hb) ?_))
    rw [degV_pos]
    rw [w64_next (by simp only [lenB]; omega)]
    cases big xs j with
    | true => exact Evt.ctrue rfl .pure
    | false => exact Evt.cfalse rfl (by simpa using h)
  have l2 := st 2 false (by omega) (by simpa using l3 3 (by omega))
  have l1 := st 1 _ (by omega) l2
  have l0 := st 0 _ (by omega) l1
  match n with
  | 0 => simpa [needs] using l0
  | 1 => simpa [needs] using l1
  | 2 => simpa [needs] using l2
  | m + 3 =>
    have := l3 (m + 3) (by omega)
    have e : needs (m + 3) xs = false := by simp [needs]
    rw [e]
    exact this

def sysV (m : List (List Tm)) : Bool := (m.all fun xs => polyV xs && !needs m.length xs) && decide (1 ≤ (m.length : Int) ∧ (m.length : Int) ≤ 3)

theorem poSystem_ev {m : List (List Tm)} (hb : m.length < lenB) (hm : ∀ r ∈ m, r.length < lenB) : Evt (fun k _ => spec_poSystem k m) (sysV m) := by
  refine Evt.eq (f := fun k q => _) ?_ (fun k q => by rw [spec_poSystem])
  have key : ∀ (r d : List (List Tm)), d ++ r = m → Evt (fun k n => spec_poSystem_L26 k n m m (m.length : Int) d.length) (if (r.all fun xs => polyV xs && !needs m.length xs) then .inr (m, ()) else .inl false) := by
    intro r
    induction r with
    | nil =>
      intro d h
      refine Evt.step (fun k n => spec_poSystem_L26.eq_2 k _ _ _ _ n) ?_
      rw [List.append_nil] at h
      subst h
      exact Evt.rng0 .pure
    | cons e r ih =>
      intro d h
      refine Evt.step (fun k n => spec_poSystem_L26.eq_2 k _ _ _ _ n) ?_
      have he := hm e (by rw [← h]; simp)
      have ih := ih (d ++ [e]) (by simpa using h)
      rw [← len_next (r := r) (by rw [h]; exact hb)] at ih
      have hi := system_inner (n := m.length) he m m (m.length : Int) (d.length : Int)
      subst h
      refine Evt.ctrue mid_lt (Evt.ctrue mid_ge (Evt.ctrue mid_lt ?_))
      rw [mid_get]
      refine Evt.bind (poGood_ev he) ?_
      cases hp : polyV e with
      | false => simp only [List.all_cons, hp, Bool.false_and]; exact Evt.ctrue rfl .pure
      | true =>
        refine Evt.cfalse rfl ?_
        cases hn : needs (d ++ e :: r).length e with
        | true => rw [hn] at hi; simp only [List.all_cons, hp, hn, Bool.not_true, Bool.and_false, Bool.false_and]; exact Evt.inl (Evt.diag hi) .pure
        | false => rw [hn] at hi; simp only [List.all_cons, hp, hn, Bool.not_false, Bool.true_and]; exact Evt.inr (Evt.diag hi) ih
  have h0 := key m [] rfl
  simp only [List.length_nil] at h0
  unfold sysV
  cases hall : (m.all fun xs => polyV xs && !needs m.length xs) with
  | true => rw [hall] at h0; exact Evt.inr (Evt.diag h0) (Evt.bind (.const (l1In_eq _ _ _)) .pure)
  | false => rw [hall] at h0; exact Evt.inl (Evt.diag h0) .pure

def needsT (n : Nat) (t : Tm) : Bool := (decide (n ≤ 0) && decide (t.2.1 > 0)) || ((decide (n ≤ 1) && decide (t.2.2.1 > 0)) || (decide (n ≤ 2) && decide (t.2.2.2 > 0)))
theorem needs_any (n : Nat) (xs : List Tm) : needs n xs = xs.any (needsT n) := by
  rw [Bool.eq_iff_iff]
  simp only [needs, big, Bool.or_eq_true, Bool.and_eq_true, decide_eq_true_eq, List.any_eq_true, needsT, pw]
  constructor
  · rintro (⟨h, t, ht, hp⟩ | ⟨h, t, ht, hp⟩ | ⟨h, t, ht, hp⟩)
    · exact ⟨t, ht, .inl ⟨h, by simpa using hp⟩⟩
    · exact ⟨t, ht, .inr (.inl ⟨h, by simpa using hp⟩)⟩
    · exact ⟨t, ht, .inr (.inr ⟨h, by simpa using hp⟩)⟩
  · rintro ⟨t, ht, ⟨h, hp⟩ | ⟨h, hp⟩ | ⟨h, hp⟩⟩
    · exact .inl ⟨h, t, ht, by simpa using hp⟩
    · exact .inr (.inl ⟨h, t, ht, by simpa using hp⟩)
    · exact .inr (.inr ⟨h, t, ht, by simpa using hp⟩)

theorem needs_inner (n : Nat) (t : Tm) (x9 : List Tm) (x10 x11 : Int) :
    Evt (fun k m => impl_needsAtMost_L6758 k m (n : Int) x9 x10 x11 t.2 0) (if needsT n t then .inl false else .inr ((n : Int), x9, x10, x11, ())) := by
  have w1 : IntKind.wrap .i64 (0 + 1) = 1 := by decide
  have w2 : IntKind.wrap .i64 (1 + 1) = 2 := by decide
  have w3 : IntKind.wrap .i64 (2 + 1) = 3 := by decide
  have l3 : Evt (fun k m => impl_needsAtMost_L6758 k m (n : Int) x9 x10 x11 t.2 3) (.inr ((n : Int), x9, x10, x11, ())) :=
    Evt.step (fun k m => impl_needsAtMost_L6758.eq_2 k _ _ _ _ _ _ m) (Evt.cfalse rfl .pure)
  have l2 : Evt (fun k m => impl_needsAtMost_L6758 k m (n : Int) x9 x10 x11 t.2 2) (if (decide (n ≤ 2) && decide (t.2.2.2 > 0)) then .inl false else .inr ((n : Int), x9, x10, x11, ())) := by
    refine Evt.step (fun k m => impl_needsAtMost_L6758.eq_2 k _ _ _ _ _ _ m) (Evt.ctrue rfl (Evt.cfalse rfl (Evt.cfalse rfl (Evt.ctrue rfl ?_))))
    rw [w3]
    by_cases h : n ≤ 2
    · refine Evt.ctrue (decide_eq_true (by omega)) ?_
      simp only [decide_eq_true h, Bool.true_and]
      cases decide (t.2.2.2 > 0) with
      | true => exact Evt.ctrue rfl .pure
      | false => exact Evt.cfalse rfl l3
    · simp only [decide_eq_false h, Bool.false_and]
      exact Evt.cfalse (decide_eq_false (by omega)) l3
  have l1 : Evt (fun k m => impl_needsAtMost_L6758 k m (n : Int) x9 x10 x11 t.2 1) (if ((decide (n ≤ 1) && decide (t.2.2.1 > 0)) || (decide (n ≤ 2) && decide (t.2.2.2 > 0))) then .inl false else .inr ((n : Int), x9, x10, x11, ())) := by
    refine Evt.step (fun k m => impl_needsAtMost_L6758.eq_2 k _ _ _ _ _ _ m) (Evt.ctrue rfl (Evt.cfalse rfl (Evt.ctrue rfl ?_)))
    rw [w2]
    by_cases h : n ≤ 1
    · refine Evt.ctrue (decide_eq_true (by omega)) ?_
      simp only [decide_eq_true h, Bool.true_and]
      cases decide (t.2.2.1 > 0) with
      | true => exact Evt.ctrue rfl .pure
      | false => exact Evt.cfalse rfl l2
    · simp only [decide_eq_false h, Bool.false_and, Bool.false_or]
      exact Evt.cfalse (decide_eq_false (by omega)) l2
  refine Evt.step (fun k m => impl_needsAtMost_L6758.eq_2 k _ _ _ _ _ _ m) (Evt.ctrue rfl (Evt.ctrue rfl ?_))
  rw [w1]
  unfold needsT
  by_cases h : n ≤ 0
  · refine Evt.ctrue (decide_eq_true (by omega)) ?_
    simp only [decide_eq_true h, Bool.true_and]
    cases decide (t.2.1 > 0) with
    | true => exact Evt.ctrue rfl .pure
    | false => exact Evt.cfalse rfl l1
  · simp only [decide_eq_false h, Bool.false_and, Bool.false_or]
    exact Evt.cfalse (decide_eq_false (by omega)) l1

theorem needsAtMost_ev {xs : List Tm} {n : Nat} (hb : xs.length < lenB) : Evt (fun k _ => impl_needsAtMost k xs n) (!needs n xs) := by
  refine Evt.eq (f := fun k q => _) ?_ (fun k q => by rw [impl_needsAtMost])
  rw [needs_any]
  have key : ∀ (r d : List Tm), d ++ r = xs → Evt (fun k m => impl_needsAtMost_L26 k m n xs (xs.length : Int) d.length) (if r.any (needsT n) then .inl false else .inr ()) := by
    intro r
    induction r with
    | nil =>
      intro d h
      refine Evt.step (fun k m => impl_needsAtMost_L26.eq_2 k _ _ _ _ m) ?_
      rw [List.append_nil] at h
      subst h
      exact Evt.rng0 .pure
    | cons e r ih =>
      intro d h
      refine Evt.step (fun k m => impl_needsAtMost_L26.eq_2 k _ _ _ _ m) ?_
      have ih := ih (d ++ [e]) (by simpa using h)
      rw [← len_next (r := r) (by rw [h]; exact hb)] at ih
      have hi := needs_inner n e xs (xs.length : Int) (d.length : Int)
      subst h
      refine Evt.ctrue mid_lt (Evt.ctrue mid_ge (Evt.ctrue mid_lt ?_))
      rw [mid_get]
      refine Evt.bind (.const rfl) ?_
      cases hn : needsT n e with
      | true => rw [hn] at hi; simp only [List.any_cons, hn, Bool.true_or]; exact Evt.inl (Evt.diag hi) .pure
      | false => rw [hn] at hi; simp only [List.any_cons, hn, Bool.false_or]; exact Evt.inr (Evt.diag hi) ih
  have h0 := key xs [] rfl
  simp only [List.length_nil] at h0
  cases hall : xs.any (needsT n) with
  | true => rw [hall] at h0; exact Evt.inl (Evt.diag h0) .pure
  | false => rw [hall] at h0; exact Evt.inr (Evt.diag h0) .pure

theorem isSystem_ev {m : List (List Tm)} (hb : m.length < lenB) (hm : ∀ r ∈ m, r.length < lenB) : Evt (fun k _ => impl_isSystem k m) (sysV m) := by
  refine Evt.eq (f := fun k q => _) ?_ (fun k q => by rw [impl_isSystem])
  have key : ∀ (r d : List (List Tm)), d ++ r = m → Evt (fun k n => impl_isSystem_L26 k n m m (m.length : Int) d.length) (if (r.all fun xs => polyV xs && !needs m.length xs) then .inr (m, ()) else .inl false) := by
    intro r
    induction r with
    | nil =>
      intro d h
      refine Evt.step (fun k n => impl_isSystem_L26.eq_2 k _ _ _ _ n) ?_
      rw [List.append_nil] at h
      subst h
      exact Evt.rng0 .pure
    | cons e r ih =>
      intro d h
      refine Evt.step (fun k n => impl_isSystem_L26.eq_2 k _ _ _ _ n) ?_
      have he := hm e (by rw [← h]; simp)
      have ih := ih (d ++ [e]) (by simpa using h)
      rw [← len_next (r := r) (by rw [h]; exact hb)] at ih
      subst h
      refine Evt.ctrue mid_lt (Evt.ctrue mid_ge (Evt.ctrue mid_lt ?_))
      rw [mid_get]
      refine Evt.bind (isPoly_ev he) ?_
      cases hp : polyV e with
      | false => simp only [List.all_cons, hp, Bool.false_and]; exact Evt.ctrue rfl .pure
      | true =>
        refine Evt.cfalse rfl (Evt.bind (needsAtMost_ev he) ?_)
        cases hn : needs (d ++ e :: r).length e with
        | true => simp only [List.all_cons, hp, hn, Bool.not_true, Bool.and_false, Bool.false_and]; exact Evt.ctrue rfl .pure
        | false => simp only [List.all_cons, hp, hn, Bool.not_false, Bool.true_and]; exact Evt.cfalse rfl ih
  have h0 := key m [] rfl
  simp only [List.length_nil] at h0
  unfold sysV
  cases hall : (m.all fun xs => polyV xs && !needs m.length xs) with
  | true => rw [hall] at h0; exact Evt.inr (Evt.diag h0) (Evt.bind (.const (inside_eq _ _ _)) .pure)
  | false => rw [hall] at h0; exact Evt.inl (Evt.diag h0) .pure

def cubeV (m : List (List Tm)) (b : Int × List Int × List Int) : Bool := sysV m && (((m.length : Int) == 3) && cbV b)
theorem cbGood_ev {m : List (List Tm)} {b : Int × List Int × List Int} (hb : m.length < lenB) (hm : ∀ r ∈ m, r.length < lenB) (hx : b.2.1.length < lenB) : Evt (fun k _ => spec_cbGood k m b) (cubeV m b) := by
  refine Evt.eq (f := fun k q => _) ?_ (fun k q => by rw [spec_cbGood])
  refine Evt.bind (poSystem_ev hb hm) ?_
  unfold cubeV
  cases sysV m with
  | false => exact Evt.cfalse rfl .pure
  | true =>
    refine Evt.ctrue rfl ?_
    cases ((m.length : Int) == 3) with
    | false => exact Evt.cfalse rfl .pure
    | true => exact Evt.ctrue rfl (Evt.bind (cbBox_ev hx) .pure)
theorem isCube_ev {m : List (List Tm)} {b : Int × List Int × List Int} (hb : m.length < lenB) (hm : ∀ r ∈ m, r.length < lenB) (hx : b.2.1.length < lenB) : Evt (fun k _ => impl_isCube k m b) (cubeV m b) := by
  refine Evt.eq (f := fun k q => _) ?_ (fun k q => by rw [impl_isCube])
  unfold cubeV
  cases ((m.length : Int) == 3) with
  | false => rw [Bool.false_and, Bool.and_false]; exact Evt.cfalse rfl .pure
  | true =>
    refine Evt.ctrue rfl (Evt.bind (isSystem_ev hb hm) ?_)
    cases sysV m with
    | false => exact Evt.cfalse rfl .pure
    | true => exact Evt.ctrue rfl (Evt.bind (isCubeBox_ev hx) .pure)

/-! A box, as the laws hand it over. -/
theorem szBox_eq {b : Int × List Int × List Int} (h1 : b.2.1.length ≤ maxLen) (h2 : b.2.2.length ≤ maxLen) {a : Nat} (ha : a ≤ 1000000) :
    laws_szBox b a = some (if b.2.1.length + b.2.2.length ≤ a then ((a - (b.2.1.length + b.2.2.length) : Nat) : Int) else -1) := by
  unfold laws_szBox
  rw [szIntS_ev h1 ha]
  by_cases h3 : b.2.1.length ≤ a
  · rw [if_pos h3, Option.bind_some, decide_eq_false (by omega), cond_false, szIntS_ev h2 (by omega)]
    by_cases h4 : b.2.2.length ≤ a - b.2.1.length
    · rw [if_pos h4, if_pos (by omega), Option.bind_some, decide_eq_false (by omega), cond_false]
      congr 2
      omega
    · rw [if_neg h4, if_neg (by omega)]; rfl
  · rw [if_neg h3, if_neg (by omega)]; rfl
def boxR (b : Int × List Int × List Int) (f : Bool) : Int × (List Int × List Int) × List Int × List Int := (b.1, toV id fI b.2.1 f, toV id fI b.2.2 f)
theorem toBox_ev {b : Int × List Int × List Int} {f : Bool} (h1 : b.2.1.length ≤ 1000000) (h2 : b.2.2.length ≤ 1000000) : Evt (fun k _ => laws_toBox k b f) (boxR b f) := by
  refine Evt.eq (f := fun k q => _) ?_ (fun k q => by rw [laws_toBox])
  exact Evt.bind (toIntS_ev h1) (Evt.bind (toIntS_ev h2) .pure)
theorem boxR_eq (b : Int × List Int × List Int) (f : Bool) : ((boxR b f).1, (boxR b f).2.1.1, (boxR b f).2.2.1) = b := by
  simp only [boxR, toV_fst]
theorem intactBox_ev {b : Int × List Int × List Int} (h1 : b.2.1.length ≤ 1000000) (h2 : b.2.2.length ≤ 1000000) : Evt (fun k _ => laws_intactBox k (boxR b false) (boxR b false)) true := by
  refine Evt.eq (f := fun k q => _) ?_ (fun k q => by rw [laws_intactBox])
  exact Evt.cfalse (by simp) (Evt.bind (intactIntS_ev (room_toV h1)) (Evt.cfalse rfl (Evt.bind (intactIntS_ev (room_toV h2)) (Evt.cfalse rfl .pure))))
theorem intactT_ev {a : List (List Tm)} (h : Sized a) : Evt (fun k _ => laws_intactTermSS k (toV (fun x => toV id fT x false) ([fT], []) a false) (toV (fun x => toV id fT x false) ([fT], []) a false)) true := by
  refine intactTermSS_ev (room_toV h.len) ?_ ?_
  · intro y hy
    simp [toV] at hy
    obtain ⟨x, hx, rfl⟩ := hy
    exact ⟨by simp, h.row x hx⟩
  · intro y hy
    simp [toV] at hy
    rw [hy.2]; simp [lenB]

theorem isCubeSystem_law (a : List (List Tm)) (b : Int × List Int × List Int) (ha : a.length ≤ maxLen) (hm : ∀ x ∈ a, x.length ≤ maxLen) (h1 : b.2.1.length ≤ maxLen) (h2 : b.2.2.length ≤ maxLen) : ∃ k, laws_FnExactIsCubeSystem k a b = some true := by
  refine Evt.get (Evt.eq (f := fun k q => _) ?_ (fun k q => by rw [laws_FnExactIsCubeSystem]))
  refine Evt.bind (szTermSS_ev (a := 1000000) ha hm (by omega)) ?_
  by_cases hz : a.length + (a.map List.length).sum ≤ 1000000
  · rw [if_pos hz]
    have hs : Sized a := hz
    refine Evt.cfalse (by simp <;> omega) (Evt.bind (.const (szBox_eq h1 h2 (by omega))) ?_)
    by_cases hy : b.2.1.length + b.2.2.length ≤ 1000000 - (a.length + (a.map List.length).sum)
    · rw [if_pos hy]
      refine Evt.cfalse (by simp <;> omega) ?_
      have b1 : b.2.1.length ≤ 1000000 := by omega
      have b2 : b.2.2.length ≤ 1000000 := by omega
      have hr : ∀ r ∈ a, r.length < lenB := fun r hr => by have := hs.row r hr; simp only [lenB]; omega
      have hb : a.length < lenB := by have := hs.len; simp only [lenB]; omega
      have hx : b.2.1.length < lenB := by simp only [lenB]; omega
      have spec : Evt (fun k _ => spec_IsCubeSystem k a b) (cubeV a b) := Evt.eq (Evt.bind (cbGood_ev hb hr hx) .pure) (fun k n => by rw [spec_IsCubeSystem])
      have impl : Evt (fun k _ => impl_IsCubeSystem k a b) (cubeV a b) := Evt.eq (Evt.bind (isCube_ev hb hr hx) .pure) (fun k n => by rw [impl_IsCubeSystem])
      refine Evt.bind (toTermSS_ev hs.len hs.row) (Evt.bind (toBox_ev b1 b2) ?_)
      simp only [toV_rows, boxR_eq]
      refine Evt.bind spec (Evt.bind (toTermSS_ev hs.len hs.row) (Evt.bind (toBox_ev b1 b2) ?_))
      simp only [toV_rows, boxR_eq]
      refine Evt.bind impl (Evt.cfalse (by simp) (Evt.bind (toTermSS_ev hs.len hs.row) (Evt.bind (intactT_ev hs) (Evt.cfalse rfl (Evt.bind (toBox_ev b1 b2) (Evt.bind (intactBox_ev b1 b2) (Evt.cfalse rfl (Evt.bind (toTermSS_ev hs.len hs.row) (Evt.bind (toBox_ev b1 b2) ?_)))))))))
      simp only [toV_rows, boxR_eq]
      exact Evt.bind impl (Evt.cfalse (by simp) .pure)
    · rw [if_neg hy]
      exact Evt.ctrue rfl .pure
  · rw [if_neg hz]
    exact Evt.ctrue rfl .pure
abbrev tTerm : Ty := .pair (.int .i64) (.pair (.int .i64) (.pair (.int .i64) (.int .i64)))
abbrev tBox : Ty := .pair (.int .i64) (.pair (.sl (.int .i64)) (.sl (.int .i64)))
theorem isCubeSystem_row (a : List (List Tm)) (b : Int × List Int × List Int) (h : WfT (.sl (.sl tTerm)) a) (hb : WfT tBox b) : ∃ k, laws_FnExactIsCubeSystem k a b = some true := isCubeSystem_law a b h.1 (fun x hx => (h.2 x hx).1) hb.2.1.1 hb.2.2.1
end Go.Ev.G
