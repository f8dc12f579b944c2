/- What the plain functions of the law compute, for all inputs within the sizes that the theorems name. -/
import Derived.Test.YtndgjjaolajkjaaGreatPMiddleJacobian1
import Derived.Test.YtndgjjaolajkjaaGreatAMiddleJacobian1
set_option linter.unusedVariables false
namespace Go.Ev.G
open Go Go.Ev
set_option maxRecDepth 100000

def pw (t : Tm) (j : Nat) : Int := if j = 0 then t.2.1 else if j = 1 then t.2.2.1 else t.2.2.2
def big (xs : List Tm) (j : Nat) : Bool := xs.any fun t => decide (pw t j > 0)
def needs (n : Nat) (xs : List Tm) : Bool := (decide (n ≤ 0) && big xs 0) || ((decide (n ≤ 1) && big xs 1) || (decide (n ≤ 2) && big xs 2))

theorem poPower_eq (t : Tm) (j : Nat) : spec_poPower t j = some (pw t j) := by
  unfold spec_poPower pw
  by_cases h : j = 0
  · subst h; rfl
  · rw [if_neg h, show ((j : Int) == 0) = false by simp; omega, cond_false]
    by_cases h1 : j = 1
    · subst h1; rfl
    · rw [if_neg h1, show ((j : Int) == 1) = false by simp; omega, cond_false]

def degV (j : Nat) : Int → List Tm → Int
  | m, [] => m
  | m, t :: r => degV j (max m (pw t j)) r
theorem degV_pos (j : Nat) : ∀ (xs : List Tm) (m : Int), decide (degV j m xs > 0) = (decide (m > 0) || big xs j)
  | [], m => by simp [degV, big]
  | t :: r, m => by
    rw [degV, degV_pos j r]
    unfold big
    rw [List.any_cons, ← Bool.or_assoc]
    congr 1
    rw [Bool.eq_iff_iff]
    simp only [Bool.or_eq_true, decide_eq_true_eq]
    omega

theorem degreeIn_ev {xs : List Tm} {j : Nat} (hb : xs.length < lenB) : Evt (fun k _ => spec_poDegreeIn k xs j) (degV j (-1) xs) := by
  refine Evt.eq (f := fun k q => _) ?_ (fun k q => by rw [spec_poDegreeIn])
  have key : ∀ (r d : List Tm) (m : Int), d ++ r = xs → Evt (fun k n => spec_poDegreeIn_L58 k n j m xs (xs.length : Int) d.length) (.inr (degV j m r, ())) := by
    intro r
    induction r with
    | nil =>
      intro d m h
      refine Evt.step (fun k n => spec_poDegreeIn_L58.eq_2 k _ _ _ _ _ n) ?_
      rw [List.append_nil] at h
      subst h
      exact Evt.rng0 .pure
    | cons e r ih =>
      intro d m h
      refine Evt.step (fun k n => spec_poDegreeIn_L58.eq_2 k _ _ _ _ _ n) ?_
      have ih := ih (d ++ [e]) (max m (pw e j)) (by simpa using h)
      rw [← len_next (r := r) (by rw [h]; exact hb)] at ih
      subst h
      refine Evt.ctrue mid_lt (Evt.ctrue mid_ge (Evt.ctrue mid_lt ?_))
      rw [mid_get]
      exact Evt.bind (.const (poPower_eq _ _)) (Evt.bind (.const (most_eq _ _)) ih)
  have h0 := key xs [] (-1) rfl
  simp only [List.length_nil] at h0
  exact Evt.inr (Evt.diag h0) .pure

theorem system_inner {n : Nat} {xs : List Tm} (hb : xs.length < lenB) (x0 x6 : List (List Tm)) (x7 x8 : Int) :
    Evt (fun k m => spec_poSystem_L13518 k m x0 xs (n : Int) x6 x7 x8) (if needs n xs then .inl false else .inr (x0, x6, x7, x8, ())) := by
  have l3 : ∀ j : Nat, 3 ≤ j → Evt (fun k m => spec_poSystem_L13518 k m x0 xs (j : Int) x6 x7 x8) (.inr (x0, x6, x7, x8, ())) := by
    intro j hj
    exact Evt.step (fun k m => spec_poSystem_L13518.eq_2 k _ _ _ _ _ _ m) (Evt.cfalse (decide_eq_false (by omega)) .pure)
  have st : ∀ (j : Nat) (b : Bool), j < 3 → Evt (fun k m => spec_poSystem_L13518 k m x0 xs ((j + 1 : Nat) : Int) x6 x7 x8) (if b then .inl false else .inr (x0, x6, x7, x8, ())) → Evt (fun k m => spec_poSystem_L13518 k m x0 xs (j : Int) x6 x7 x8) (if (big xs j || b) then .inl false else .inr (x0, x6, x7, x8, ())) := by
    intro j b hj h
    refine Evt.step (fun k m => spec_poSystem_L13518.eq_2 k _ _ _ _ _ _ m) (Evt.ctrue (decide_eq_true (by omega)) (Evt.bind (degreeIn_ev hb) ?_))
    rw [degV_pos]
    rw [w64_next (by simp only [lenB]; omega)]
    cases big xs j with
    | true => exact Evt.ctrue rfl .pure
    | false => exact Evt.cfalse rfl (by simpa using h)
  have l2 := st 2 false (by omega) (by simpa using l3 3 (by omega))
  have l1 := st 1 _ (by omega) l2
  have l0 := st 0 _ (by omega) l1
  match n with
  | 0 => simpa [needs] using l0
  | 1 => simpa [needs] using l1
  | 2 => simpa [needs] using l2
  | m + 3 =>
    have := l3 (m + 3) (by omega)
    have e : needs (m + 3) xs = false := by simp [needs]
    rw [e]
    exact this

def sysV (m : List (List Tm)) : Bool := (m.all fun xs => polyV xs && !needs m.length xs) && decide (1 ≤ (m.length : Int) ∧ (m.length : Int) ≤ 3)

theorem poSystem_ev {m : List (List Tm)} (hb : m.length < lenB) (hm : ∀ r ∈ m, r.length < lenB) : Evt (fun k _ => spec_poSystem k m) (sysV m) := by
  refine Evt.eq (f := fun k q => _) ?_ (fun k q => by rw [spec_poSystem])
  have key : ∀ (r d : List (List Tm)), d ++ r = m → Evt (fun k n => spec_poSystem_L26 k n m m (m.length : Int) d.length) (if (r.all fun xs => polyV xs && !needs m.length xs) then .inr (m, ()) else .inl false) := by
    intro r
    induction r with
    | nil =>
      intro d h
      refine Evt.step (fun k n => spec_poSystem_L26.eq_2 k _ _ _ _ n) ?_
      rw [List.append_nil] at h
      subst h
      exact Evt.rng0 .pure
    | cons e r ih =>
      intro d h
      refine Evt.step (fun k n => spec_poSystem_L26.eq_2 k _ _ _ _ n) ?_
      have he := hm e (by rw [← h]; simp)
      have ih := ih (d ++ [e]) (by simpa using h)
      rw [← len_next (r := r) (by rw [h]; exact hb)] at ih
      have hi := system_inner (n := m.length) he m m (m.length : Int) (d.length : Int)
      subst h
      refine Evt.ctrue mid_lt (Evt.ctrue mid_ge (Evt.ctrue mid_lt ?_))
      rw [mid_get]
      refine Evt.bind (poGood_ev he) ?_
      cases hp : polyV e with
      | false => simp only [List.all_cons, hp, Bool.false_and]; exact Evt.ctrue rfl .pure
      | true =>
        refine Evt.cfalse rfl ?_
        cases hn : needs (d ++ e :: r).length e with
        | true => rw [hn] at hi; simp only [List.all_cons, hp, hn, Bool.not_true, Bool.and_false, Bool.false_and]; exact Evt.inl (Evt.diag hi) .pure
        | false => rw [hn] at hi; simp only [List.all_cons, hp, hn, Bool.not_false, Bool.true_and]; exact Evt.inr (Evt.diag hi) ih
  have h0 := key m [] rfl
  simp only [List.length_nil] at h0
  unfold sysV
  cases hall : (m.all fun xs => polyV xs && !needs m.length xs) with
  | true => rw [hall] at h0; exact Evt.inr (Evt.diag h0) (Evt.bind (.const (l1In_eq _ _ _)) .pure)
  | false => rw [hall] at h0; exact Evt.inl (Evt.diag h0) .pure

def needsT (n : Nat) (t : Tm) : Bool := (decide (n ≤ 0) && decide (t.2.1 > 0)) || ((decide (n ≤ 1) && decide (t.2.2.1 > 0)) || (decide (n ≤ 2) && decide (t.2.2.2 > 0)))
theorem needs_any (n : Nat) (xs : List Tm) : needs n xs = xs.any (needsT n) := by
  rw [Bool.eq_iff_iff]
  simp only [needs, big, Bool.or_eq_true, Bool.and_eq_true, decide_eq_true_eq, List.any_eq_true, needsT, pw]
  constructor
  · rintro (⟨h, t, ht, hp⟩ | ⟨h, t, ht, hp⟩ | ⟨h, t, ht, hp⟩)
    · exact ⟨t, ht, .inl ⟨h, by simpa using hp⟩⟩
    · exact ⟨t, ht, .inr (.inl ⟨h, by simpa using hp⟩)⟩
    · exact ⟨t, ht, .inr (.inr ⟨h, by simpa using hp⟩)⟩
  · rintro ⟨t, ht, ⟨h, hp⟩ | ⟨h, hp⟩ | ⟨h, hp⟩⟩
    · exact .inl ⟨h, t, ht, by simpa using hp⟩
    · exact .inr (.inl ⟨h, t, ht, by simpa using hp⟩)
    · exact .inr (.inr ⟨h, t, ht, by simpa using hp⟩)

theorem needs_inner (n : Nat) (t : Tm) (x9 : List Tm) (x10 x11 : Int) :
    Evt (fun k m => impl_needsAtMost_L6758 k m (n : Int) x9 x10 x11 t.2 0) (if needsT n t then .inl false else .inr ((n : Int), x9, x10, x11, ())) := by
  have w1 : IntKind.wrap .i64 (0 + 1) = 1 := by decide
  have w2 : IntKind.wrap .i64 (1 + 1) = 2 := by decide
  have w3 : IntKind.wrap .i64 (2 + 1) = 3 := by decide
  have l3 : Evt (fun k m => impl_needsAtMost_L6758 k m (n : Int) x9 x10 x11 t.2 3) (.inr ((n : Int), x9, x10, x11, ())) :=
    Evt.step (fun k m => impl_needsAtMost_L6758.eq_2 k _ _ _ _ _ _ m) (Evt.cfalse rfl .pure)
  have l2 : Evt (fun k m => impl_needsAtMost_L6758 k m (n : Int) x9 x10 x11 t.2 2) (if (decide (n ≤ 2) && decide (t.2.2.2 > 0)) then .inl false else .inr ((n : Int), x9, x10, x11, ())) := by
    refine Evt.step (fun k m => impl_needsAtMost_L6758.eq_2 k _ _ _ _ _ _ m) (Evt.ctrue rfl (Evt.cfalse rfl (Evt.cfalse rfl (Evt.ctrue rfl ?_))))
    rw [w3]
    by_cases h : n ≤ 2
    · refine Evt.ctrue (decide_eq_true (by omega)) ?_
      simp only [decide_eq_true h, Bool.true_and]
      cases decide (t.2.2.2 > 0) with
      | true => exact Evt.ctrue rfl .pure
      | false => exact Evt.cfalse rfl l3
    · simp only [decide_eq_false h, Bool.false_and]
      exact Evt.cfalse (decide_eq_false (by omega)) l3
  have l1 : Evt (fun k m => impl_needsAtMost_L6758 k m (n : Int) x9 x10 x11 t.2 1) (if ((decide (n ≤ 1) && decide (t.2.2.1 > 0)) || (decide (n ≤ 2) && decide (t.2.2.2 > 0))) then .inl false else .inr ((n : Int), x9, x10, x11, ())) := by
    refine Evt.step (fun k m => impl_needsAtMost_L6758.eq_2 k _ _ _ _ _ _ m) (Evt.ctrue rfl (Evt.cfalse rfl (Evt.ctrue rfl ?_)))
    rw [w2]
    by_cases h : n ≤ 1
    · refine Evt.ctrue (decide_eq_true (by omega)) ?_
      simp only [decide_eq_true h, Bool.true_and]
      cases decide (t.2.2.1 > 0) with
      | true => exact Evt.ctrue rfl .pure
      | false => exact Evt.cfalse rfl l2
    · simp only [decide_eq_false h, Bool.false_and, Bool.false_or]
      exact Evt.cfalse (decide_eq_false (by omega)) l2
  refine Evt.step (fun k m => impl_needsAtMost_L6758.eq_2 k _ _ _ _ _ _ m) (Evt.ctrue rfl (Evt.ctrue rfl ?_))
  rw [w1]
  unfold needsT
  by_cases h : n ≤ 0
  · refine Evt.ctrue (decide_eq_true (by omega)) ?_
    simp only [decide_eq_true h, Bool.true_and]
    cases decide (t.2.1 > 0) with
    | true => exact Evt.ctrue rfl .pure
    | false => exact Evt.cfalse rfl l1
  · simp only [decide_eq_false h, Bool.false_and, Bool.false_or]
    exact Evt.cfalse (decide_eq_false (by omega)) l1

theorem needsAtMost_ev {xs : List Tm} {n : Nat} (hb : xs.length < lenB) : Evt (fun k _ => impl_needsAtMost k xs n) (!needs n xs) := by
  refine Evt.eq (f := fun k q => _) ?_ (fun k q => by rw [impl_needsAtMost])
  rw [needs_any]
  have key : ∀ (r d : List Tm), d ++ r = xs → Evt (fun k m => impl_needsAtMost_L26 k m n xs (xs.length : Int) d.length) (if r.any (needsT n) then .inl false else .inr ()) := by
    intro r
    induction r with
    | nil =>
      intro d h
      refine Evt.step (fun k m => impl_needsAtMost_L26.eq_2 k _ _ _ _ m) ?_
      rw [List.append_nil] at h
      subst h
      exact Evt.rng0 .pure
    | cons e r ih =>
      intro d h
      refine Evt.step (fun k m => impl_needsAtMost_L26.eq_2 k _ _ _ _ m) ?_
      have ih := ih (d ++ [e]) (by simpa using h)
      rw [← len_next (r := r) (by rw [h]; exact hb)] at ih
      have hi := needs_inner n e xs (xs.length : Int) (d.length : Int)
      subst h
      refine Evt.ctrue mid_lt (Evt.ctrue mid_ge (Evt.ctrue mid_lt ?_))
      rw [mid_get]
      refine Evt.bind (.const rfl) ?_
      cases hn : needsT n e with
      | true => rw [hn] at hi; simp only [List.any_cons, hn, Bool.true_or]; exact Evt.inl (Evt.diag hi) .pure
      | false => rw [hn] at hi; simp only [List.any_cons, hn, Bool.false_or]; exact Evt.inr (Evt.diag hi) ih
  have h0 := key xs [] rfl
  simp only [List.length_nil] at h0
  cases hall : xs.any (needsT n) with
  | true => rw [hall] at h0; exact Evt.inl (Evt.diag h0) .pure
  | false => rw [hall] at h0; exact Evt.inr (Evt.diag h0) .pure

theorem isSystem_ev {m : List (List Tm)} (hb : m.length < lenB) (hm : ∀ r ∈ m, r.length < lenB) : Evt (fun k _ => impl_isSystem k m) (sysV m) := by
  refine Evt.eq (f := fun k q => _) ?_ (fun k q => by rw [impl_isSystem])
  have key : ∀ (r d : List (List Tm)), d ++ r = m → Evt (fun k n => impl_isSystem_L26 k n m m (m.length : Int) d.length) (if (r.all fun xs => polyV xs && !needs m.length xs) then .inr (m, ()) else .inl false) := by
    intro r
    induction r with
    | nil =>
      intro d h
      refine Evt.step (fun k n => impl_isSystem_L26.eq_2 k _ _ _ _ n) ?_
      rw [List.append_nil] at h
      subst h
      exact Evt.rng0 .pure
    | cons e r ih =>
      intro d h
      refine Evt.step (fun k n => impl_isSystem_L26.eq_2 k _ _ _ _ n) ?_
      have he := hm e (by rw [← h]; simp)
      have ih := ih (d ++ [e]) (by simpa using h)
      rw [← len_next (r := r) (by rw [h]; exact hb)] at ih
      subst h
      refine Evt.ctrue mid_lt (Evt.ctrue mid_ge (Evt.ctrue mid_lt ?_))
      rw [mid_get]
      refine Evt.bind (isPoly_ev he) ?_
      cases hp : polyV e with
      | false => simp only [List.all_cons, hp, Bool.false_and]; exact Evt.ctrue rfl .pure
      | true =>
        refine Evt.cfalse rfl (Evt.bind (needsAtMost_ev he) ?_)
        cases hn : needs (d ++ e :: r).length e with
        | true => simp only [List.all_cons, hp, hn, Bool.not_true, Bool.and_false, Bool.false_and]; exact Evt.ctrue rfl .pure
        | false => simp only [List.all_cons, hp, hn, Bool.not_false, Bool.true_and]; exact Evt.cfalse rfl ih
  have h0 := key m [] rfl
  simp only [List.length_nil] at h0
  unfold sysV
  cases hall : (m.all fun xs => polyV xs && !needs m.length xs) with
  | true => rw [hall] at h0; exact Evt.inr (Evt.diag h0) (Evt.bind (.const (inside_eq _ _ _)) .pure)
  | false => rw [hall] at h0; exact Evt.inl (Evt.diag h0) .pure

theorem szBox_eq {b : Int × List Int × List Int} (h1 : b.2.1.length ≤ maxLen) (h2 : b.2.2.length ≤ maxLen) {a : Nat} (ha : a ≤ 1000000) :
    laws_szBox b a = some (if b.2.1.length + b.2.2.length ≤ a then ((a - (b.2.1.length + b.2.2.length) : Nat) : Int) else -1) := by
  unfold laws_szBox
  rw [szIntS_ev h1 ha]
  by_cases h3 : b.2.1.length ≤ a
  · rw [if_pos h3, Option.bind_some, decide_eq_false (by omega), cond_false, szIntS_ev h2 (by omega)]
    by_cases h4 : b.2.2.length ≤ a - b.2.1.length
    · rw [if_pos h4, if_pos (by omega), Option.bind_some, decide_eq_false (by omega), cond_false]
      congr 2
      omega
    · rw [if_neg h4, if_neg (by omega)]; rfl
  · rw [if_neg h3, if_neg (by omega)]; rfl
def boxR (b : Int × List Int × List Int) (f : Bool) : Int × (List Int × List Int) × List Int × List Int := (b.1, toV id fI b.2.1 f, toV id fI b.2.2 f)
theorem toBox_ev {b : Int × List Int × List Int} {f : Bool} (h1 : b.2.1.length ≤ 1000000) (h2 : b.2.2.length ≤ 1000000) : Evt (fun k _ => laws_toBox k b f) (boxR b f) := by
  refine Evt.eq (f := fun k q => _) ?_ (fun k q => by rw [laws_toBox])
  exact Evt.bind (toIntS_ev h1) (Evt.bind (toIntS_ev h2) .pure)
theorem boxR_eq (b : Int × List Int × List Int) (f : Bool) : ((boxR b f).1, (boxR b f).2.1.1, (boxR b f).2.2.1) = b := by
  simp only [boxR, toV_fst]
theorem intactBox_ev {b : Int × List Int × List Int} (h1 : b.2.1.length ≤ 1000000) (h2 : b.2.2.length ≤ 1000000) : Evt (fun k _ => laws_intactBox k (boxR b false) (boxR b false)) true := by
  refine Evt.eq (f := fun k q => _) ?_ (fun k q => by rw [laws_intactBox])
  exact Evt.cfalse (by simp) (Evt.bind (intactIntS_ev (room_toV h1)) (Evt.cfalse rfl (Evt.bind (intactIntS_ev (room_toV h2)) (Evt.cfalse rfl .pure))))
theorem intactT_ev {a : List (List Tm)} (h : Sized a) : Evt (fun k _ => laws_intactTermSS k (toV (fun x => toV id fT x false) ([fT], []) a false) (toV (fun x => toV id fT x false) ([fT], []) a false)) true := by
  refine intactTermSS_ev (room_toV h.len) ?_ ?_
  · intro y hy
    simp [toV] at hy
    obtain ⟨x, hx, rfl⟩ := hy
    exact ⟨by simp, h.row x hx⟩
  · intro y hy
    simp [toV] at hy
    rw [hy.2]; simp [lenB]

abbrev tTerm : Ty := .pair (.int .i64) (.pair (.int .i64) (.pair (.int .i64) (.int .i64)))
abbrev tBox : Ty := .pair (.int .i64) (.pair (.sl (.int .i64)) (.sl (.int .i64)))
end Go.Ev.G

namespace Go.Ev.G
open Go Go.Ev
set_option maxRecDepth 100000

def tmW (t : Tm) : Prop := (-10000 ≤ t.1 ∧ t.1 ≤ 10000) ∧ (0 ≤ t.2.1 ∧ t.2.1 ≤ 4) ∧ (0 ≤ t.2.2.1 ∧ t.2.2.1 ≤ 4) ∧ (0 ≤ t.2.2.2 ∧ t.2.2.2 ≤ 4)
def sgl (a : Int × Int) : Iv := (a, a)
theorem sgl_iv {a : Int × Int} (h : gd a) : ivGd (sgl a) := ⟨h, h, Int.le_refl _⟩
def stepO (s : Iv) (e : Nat) (o : Option Iv) : Option Iv := o.bind fun a => (powO s e).bind fun q => mulO a q
def partF (t : Tm) : Nat → Option Iv → List Iv → Option Iv
  | _, o, [] => o
  | j, o, s :: r => partF t (j + 1) (stepO s (pw t j).toNat o) r
def monO (t : Tm) (sides : List Iv) : Option Iv := partF t 0 (some (sgl (t.1, 0))) sides
def accO (p o : Option Iv) : Option Iv := o.bind fun a => p.bind fun q => addO a q
def valF (sides : List Iv) : Option Iv → List Tm → Option Iv
  | o, [] => o
  | o, t :: r => valF sides (accO (monO t sides) o) r
def valO (p : List Tm) (sides : List Iv) : Option Iv := valF sides (some zI) p

theorem partF_none {t : Tm} : ∀ (r : List Iv) (j : Nat), partF t j none r = none
  | [], _ => rfl
  | _ :: r, j => partF_none r (j + 1)
theorem valF_none {sides : List Iv} : ∀ (r : List Tm), valF sides none r = none
  | [] => rfl
  | _ :: r => valF_none r
theorem partF_iv {t : Tm} : ∀ (r : List Iv) (j : Nat) (o : Option Iv) (v : Iv), (∀ a, o = some a → ivGd a) → partF t j o r = some v → ivGd v
  | [], _, o, v, ho, h => ho v h
  | s :: r, j, o, v, ho, h => by
    refine partF_iv r (j + 1) _ v ?_ h
    intro a ha
    unfold stepO at ha
    obtain ⟨x, _, hx⟩ := Option.bind_eq_some_iff.1 ha
    obtain ⟨q, _, hq⟩ := Option.bind_eq_some_iff.1 hx
    exact mulO_iv hq
theorem gd_int {n : Int} (h : -10000 ≤ n ∧ n ≤ 10000) : gd (n, 0) := ⟨Int.le_refl _, by simp, by simp only; omega, by simp only; omega, .inl rfl⟩
theorem monO_iv {t : Tm} {sides : List Iv} {v : Iv} (ht : tmW t) (h : monO t sides = some v) : ivGd v :=
  partF_iv sides 0 _ v (fun a ha => by cases ha; exact sgl_iv (gd_int ht.1)) h
theorem valF_iv {sides : List Iv} : ∀ (r : List Tm) (o : Option Iv) (v : Iv), (∀ t ∈ r, tmW t) → (∀ a, o = some a → ivGd a) → valF sides o r = some v → ivGd v
  | [], o, v, _, ho, h => ho v h
  | t :: r, o, v, ht, ho, h => by
    refine valF_iv r _ v (fun x hx => ht x (by simp [hx])) ?_ h
    intro a ha
    unfold accO at ha
    obtain ⟨x, hx0, hx⟩ := Option.bind_eq_some_iff.1 ha
    obtain ⟨q, hq0, hq⟩ := Option.bind_eq_some_iff.1 hx
    exact addO_iv (ho x hx0) (monO_iv (ht t (by simp)) hq0) hq
theorem zI_iv : ivGd zI := ⟨by decide, by decide, Int.le_refl _⟩
theorem valO_iv {p : List Tm} {sides : List Iv} {v : Iv} (ht : ∀ t ∈ p, tmW t) (h : valO p sides = some v) : ivGd v := valF_iv p _ v ht (fun a ha => by cases ha; exact zI_iv) h
theorem pw_nat {t : Tm} (ht : tmW t) (j : Nat) : ∃ e : Nat, pw t j = e ∧ e ≤ 4 := by
  obtain ⟨_, h2, h3, h4⟩ := ht
  unfold pw
  split
  · exact ⟨t.2.1.toNat, by omega, by omega⟩
  · split
    · exact ⟨t.2.2.1.toNat, by omega, by omega⟩
    · exact ⟨t.2.2.2.toNat, by omega, by omega⟩

theorem vaOver_inner {t : Tm} {sides : List Iv} (ht : tmW t) (hs : ∀ s ∈ sides, ivGd s) (hb : sides.length < lenB) (x1 : List Iv) (x4 x6 : Iv) (x20 : List Tm) (x21 x22 : Int) :
    ∀ (r d : List Iv) (o : Iv), d ++ r = sides → gdI o → Evt (fun k n => spec_vaOver_L59802 k n x1 x4 x6 t o x20 x21 x22 sides (sides.length : Int) d.length) (match partF t d.length (some o) r with | some v => .inr (x1, x4, x6, v, x20, x21, x22, ()) | none => .inl (zI, false))
  | [], d, o, hd, ho => by
    rw [List.append_nil] at hd
    subst hd
    refine Evt.step (fun k n => spec_vaOver_L59802.eq_2 k _ _ _ _ _ _ _ _ _ _ _ n) (Evt.rng0 .pure)
  | s :: r, d, o, hd, ho => by
    refine Evt.step (fun k n => spec_vaOver_L59802.eq_2 k _ _ _ _ _ _ _ _ _ _ _ n) ?_
    have gs : ivGd s := hs s (by rw [← hd]; simp)
    obtain ⟨e, he, he4⟩ := pw_nat ht d.length
    rw [← hd]
    refine Evt.ctrue mid_lt (Evt.ctrue mid_ge (Evt.ctrue mid_lt ?_))
    rw [mid_get]
    refine Evt.bind (.const (poPower_eq t d.length)) ?_
    rw [he]
    refine Evt.bind (ivPower_ev gs he4) ?_
    have es : partF t d.length (some o) (s :: r) = partF t (d.length + 1) (stepO s e (some o)) r := by rw [partF, he]; rfl
    rw [es]
    unfold stepO
    rw [Option.bind_some]
    cases hp : powO s e with
    | none =>
      rw [Option.bind_none, partF_none]
      exact Evt.ctrue rfl .pure
    | some q =>
      refine Evt.cfalse rfl ?_
      rw [Option.bind_some]
      have hmul := ivMul_ev ho (powO_gd hp)
      cases hm : mulO o q with
      | none =>
        rw [hm] at hmul
        rw [partF_none]
        exact Evt.bind hmul (Evt.ctrue rfl .pure)
      | some v =>
        rw [hm] at hmul
        refine Evt.bind hmul (Evt.cfalse rfl ?_)
        have ih := vaOver_inner ht hs hb x1 x4 x6 x20 x21 x22 r (d ++ [s]) v (by simpa using hd) (mulO_gd hm)
        rw [← hd] at ih
        rw [len_next (by rw [hd]; exact hb)]
        simpa using ih
theorem vaOver_ev {p : List Tm} {sides : List Iv} (ht : ∀ t ∈ p, tmW t) (hs : ∀ s ∈ sides, ivGd s) (hb : sides.length < lenB) (hp : p.length < lenB) : Evt (fun k _ => spec_vaOver k p sides) (oI (valO p sides)) := by
  refine Evt.eq (f := fun k q => _) ?_ (fun k q => by rw [spec_vaOver])
  refine Evt.bind (.const rfl) (Evt.bind (.const rfl) ?_)
  have key : ∀ (r d : List Tm) (o : Iv), d ++ r = p → gdI o → Evt (fun k n => spec_vaOver_L58 k n sides zI o p (p.length : Int) d.length) (match valF sides (some o) r with | some v => .inr (zI, v, ()) | none => .inl (zI, false)) := by
    intro r
    induction r with
    | nil =>
      intro d o hd ho
      rw [List.append_nil] at hd
      subst hd
      exact Evt.step (fun k n => spec_vaOver_L58.eq_2 k _ _ _ _ _ _ n) (Evt.rng0 .pure)
    | cons t r ih =>
      intro d o hd ho
      refine Evt.step (fun k n => spec_vaOver_L58.eq_2 k _ _ _ _ _ _ n) ?_
      have gt := ht t (by rw [← hd]; simp)
      rw [← hd]
      refine Evt.ctrue mid_lt (Evt.ctrue mid_ge (Evt.ctrue mid_lt ?_))
      rw [mid_get]
      refine Evt.bind (.const rfl) (Evt.bind (.const rfl) ?_)
      have hin := vaOver_inner gt hs hb sides zI o (d ++ t :: r) ((d ++ t :: r).length : Int) (d.length : Int) sides [] (sgl (t.1, 0)) rfl ⟨gd_int gt.1, gd_int gt.1⟩
      simp only [List.length_nil] at hin
      have es : valF sides (some o) (t :: r) = valF sides (accO (monO t sides) (some o)) r := rfl
      rw [es]
      unfold accO
      rw [Option.bind_some]
      have em : partF t 0 (some (sgl (t.1, 0))) sides = monO t sides := rfl
      rw [em] at hin
      cases hm : monO t sides with
      | none =>
        rw [hm] at hin
        rw [Option.bind_none, valF_none]
        exact Evt.inl (Evt.diag hin) .pure
      | some q =>
        rw [hm] at hin
        rw [Option.bind_some]
        refine Evt.inr (Evt.diag hin) ?_
        have gq := monO_iv gt hm
        refine Evt.bind (ivAdd_ev ho ⟨gq.1, gq.2.1⟩) ?_
        cases ha : addO o q with
        | none =>
          rw [valF_none]
          exact Evt.ctrue rfl .pure
        | some v =>
          refine Evt.cfalse rfl ?_
          have ih := ih (d ++ [t]) v (by simpa using hd) (addO_gd ha)
          rw [← hd] at ih
          simp only
          rw [len_next (by rw [hd]; exact hp)]
          exact ih
  have hk := key p [] zI rfl zI_gd
  simp only [List.length_nil] at hk
  unfold valO
  cases hv : valF sides (some zI) p with
  | none => rw [hv] at hk; exact Evt.inl (Evt.diag hk) .pure
  | some v => rw [hv] at hk; exact Evt.inr (Evt.diag hk) .pure

theorem step_flag {b c : Bool} {o : Option Iv} {s v v1 : Iv} {e : Nat} (hc : c = (b && o.isSome)) (ho : c = true → o = some v) (h1 : c = true → (powO s e).isSome = true → powO s e = some v1) :
    ((c && (powO s e).isSome) && (mulO v v1).isSome) = (b && (stepO s e o).isSome) := by
  cases hcc : c with
  | false =>
    rw [hcc] at hc
    cases b with
    | false => rfl
    | true =>
      cases o with
      | none => rfl
      | some _ => cases hc
  | true =>
    have h2 := ho hcc
    subst h2
    have hb : b = true := by rw [hcc] at hc; cases b with | false => cases hc | true => rfl
    rw [hb]
    unfold stepO
    rw [Option.bind_some]
    cases hp : powO s e with
    | none => rfl
    | some q =>
      have := h1 hcc (by rw [hp]; rfl)
      rw [hp] at this
      cases this
      rw [Option.bind_some]
      rfl
theorem step_val {b c : Bool} {o : Option Iv} {s v v1 v2 : Iv} {e : Nat} (ho : c = true → o = some v) (h1 : c = true → (powO s e).isSome = true → powO s e = some v1)
    (h2 : (c && (powO s e).isSome) = true → (mulO v v1).isSome = true → mulO v v1 = some v2) (h : ((c && (powO s e).isSome) && (mulO v v1).isSome) = true) : stepO s e o = some v2 := by
  rw [Bool.and_eq_true, Bool.and_eq_true] at h
  have q1 := ho h.1.1
  have q2 := h1 h.1.1 h.1.2
  have q3 := h2 (by rw [h.1.1, h.1.2]; rfl) h.2
  rw [q1]
  unfold stepO
  rw [Option.bind_some, q2, Option.bind_some, q3]
theorem valueOver_inner {b : Bool} {t : Tm} {sides : List Iv} (ht : tmW t) (hs : ∀ s ∈ sides, ivGd s) (hb : sides.length ≤ 3) (x1 : List Iv) (x4 x7 : Iv) (x16 : List Tm) (x17 x18 : Int) :
    ∀ (r d : List Iv) (c : Bool) (v : Iv) (o : Option Iv), d ++ r = sides → gdI v → c = (b && o.isSome) → (c = true → o = some v) →
      ∃ v', gdI v' ∧ ((b && (partF t d.length o r).isSome) = true → partF t d.length o r = some v') ∧ Evt (fun k n => impl_valueOver_L125338 k n x1 x4 c x7 t v x16 x17 x18 sides (sides.length : Int) d.length) (.inr (x1, x4, b && (partF t d.length o r).isSome, x7, v', x16, x17, x18, ()))
  | [], d, c, v, o, hd, gv, hc, ho => by
    rw [List.append_nil] at hd
    subst hd
    refine ⟨v, gv, fun h => ho (by rw [hc]; exact h), Evt.step (fun k n => impl_valueOver_L125338.eq_2 k _ _ _ _ _ _ _ _ _ _ _ _ n) (Evt.rng0 ?_)⟩
    rw [hc]
    exact .pure
  | s :: r, d, c, v, o, hd, gv, hc, ho => by
    have gs : ivGd s := hs s (by rw [← hd]; simp)
    have hl : d.length ≤ 2 := by
      have := congrArg List.length hd
      simp at this; omega
    obtain ⟨e, he, he4⟩ := pw_nat ht d.length
    obtain ⟨v1, g1, q1, e1⟩ := power_ev (b := c) gs he4
    obtain ⟨v2, g2, q2, e2⟩ := multiply_ev (b := (c && (powO s e).isSome)) gv g1
    have es : partF t d.length o (s :: r) = partF t (d.length + 1) (stepO s e o) r := by rw [partF, he]; rfl
    have hf := step_flag (s := s) (v1 := v1) (e := e) hc ho q1
    obtain ⟨v', g', hv', hl'⟩ := valueOver_inner ht hs hb x1 x4 x7 x16 x17 x18 r (d ++ [s]) ((c && (powO s e).isSome) && (mulO v v1).isSome) v2 (stepO s e o) (by simpa using hd) g2 hf (step_val (b := b) ho q1 q2)
    rw [show (d ++ [s]).length = d.length + 1 by simp] at hv' hl'
    rw [es]
    refine ⟨v', g', hv', Evt.step (fun k n => impl_valueOver_L125338.eq_2 k _ _ _ _ _ _ _ _ _ _ _ _ n) ?_⟩
    rw [← hd] at hl' ⊢
    refine Evt.ctrue mid_lt (Evt.ctrue mid_ge (Evt.ctrue mid_lt ?_))
    rw [mid_get, len_next (by rw [hd]; simp only [lenB]; omega), show (d ++ [s]).length = d.length + 1 by simp]
    refine Evt.bind (.const rfl) ?_
    have hj : d.length = 0 ∨ d.length = 1 ∨ d.length = 2 := by omega
    rcases hj with hj | hj | hj
    · have hpw : t.2.1 = (e : Int) := by rw [← he, hj]; rfl
      refine Evt.ctrue (by rw [hj]; rfl) ?_
      simp only [hpw]
      exact Evt.bind e1 (Evt.bind e2 hl')
    · have hpw : t.2.2.1 = (e : Int) := by rw [← he, hj]; rfl
      refine Evt.cfalse (by rw [hj]; rfl) (Evt.ctrue (by rw [hj]; rfl) ?_)
      simp only [hpw]
      exact Evt.bind e1 (Evt.bind e2 hl')
    · have hpw : t.2.2.2 = (e : Int) := by rw [← he, hj]; rfl
      refine Evt.cfalse (by rw [hj]; rfl) (Evt.cfalse (by rw [hj]; rfl) (Evt.ctrue (by rw [hj]; rfl) ?_))
      simp only [hpw]
      exact Evt.bind e1 (Evt.bind e2 hl')
theorem valueOver_ev {p : List Tm} {sides : List Iv} (ht : ∀ t ∈ p, tmW t) (hs : ∀ s ∈ sides, ivGd s) (hb : sides.length ≤ 3) (hp : p.length < lenB) : Evt (fun k _ => impl_valueOver k p sides) (oI (valO p sides)) := by
  refine Evt.eq (f := fun k q => _) ?_ (fun k q => by rw [impl_valueOver])
  have key : ∀ (r d : List Tm) (c : Bool) (v : Iv) (o : Option Iv), d ++ r = p → gdI v → c = o.isSome → (c = true → o = some v) →
      ∃ v', ((valF sides o r).isSome = true → valF sides o r = some v') ∧ Evt (fun k n => impl_valueOver_L122 k n sides zI c v p (p.length : Int) d.length) (.inr (zI, (valF sides o r).isSome, v', ())) := by
    intro r
    induction r with
    | nil =>
      intro d c v o hd gv hc ho
      rw [List.append_nil] at hd
      subst hd
      refine ⟨v, fun h => ho (by rw [hc]; exact h), Evt.step (fun k n => impl_valueOver_L122.eq_2 k _ _ _ _ _ _ _ n) (Evt.rng0 ?_)⟩
      rw [hc]
      exact .pure
    | cons t r ih =>
      intro d c v o hd gv hc ho
      have gt := ht t (by rw [← hd]; simp)
      obtain ⟨q, gq, hq, hin⟩ := valueOver_inner (b := c) gt hs hb sides zI v (d ++ t :: r) ((d ++ t :: r).length : Int) (d.length : Int) sides [] c (sgl (t.1, 0)) (some (sgl (t.1, 0))) rfl ⟨gd_int gt.1, gd_int gt.1⟩ (by simp) (fun _ => rfl)
      simp only [List.length_nil] at hq hin
      have em : partF t 0 (some (sgl (t.1, 0))) sides = monO t sides := rfl
      rw [em] at hq hin
      obtain ⟨w, gw, hw, ha⟩ := addI_ev (b := (c && (monO t sides).isSome)) gv gq
      have hf : ((c && (monO t sides).isSome) && (addO v q).isSome) = (accO (monO t sides) o).isSome := by
        cases hcc : c with
        | false =>
          rw [hcc] at hc
          cases o with
          | none => rfl
          | some _ => cases hc
        | true =>
          have h2 := ho hcc
          subst h2
          unfold accO
          rw [Option.bind_some]
          cases hm : monO t sides with
          | none => rfl
          | some q' =>
            have := hq (by rw [hcc, hm]; rfl)
            rw [hm] at this
            cases this
            rfl
      obtain ⟨v', hv', hl'⟩ := ih (d ++ [t]) ((c && (monO t sides).isSome) && (addO v q).isSome) w (accO (monO t sides) o) (by simpa using hd) gw hf (by
        intro h
        rw [Bool.and_eq_true] at h
        have h1 := h.1
        rw [Bool.and_eq_true] at h1
        rw [ho h1.1, hq h.1]
        exact hw h.1 h.2)
      have es : valF sides o (t :: r) = valF sides (accO (monO t sides) o) r := rfl
      rw [es]
      refine ⟨v', hv', Evt.step (fun k n => impl_valueOver_L122.eq_2 k _ _ _ _ _ _ _ n) ?_⟩
      rw [← hd] at hl' ⊢
      refine Evt.ctrue mid_lt (Evt.ctrue mid_ge (Evt.ctrue mid_lt ?_))
      rw [mid_get]
      refine Evt.bind (.const rfl) (Evt.bind (.const rfl) (Evt.inr (Evt.diag hin) (Evt.bind ha ?_)))
      simp only
      rw [len_next (by rw [hd]; exact hp)]
      exact hl'
  obtain ⟨v', hv', hl'⟩ := key p [] true zI (some zI) rfl zI_gd rfl (fun _ => rfl)
  simp only [List.length_nil] at hl'
  refine Evt.inr (Evt.diag hl') ?_
  unfold impl_reckoner_result valO
  cases hv : (valF sides (some zI) p).isSome with
  | true =>
    rw [hv' hv]
    exact Evt.bind (.const rfl) .pure
  | false =>
    have : valF sides (some zI) p = none := by simpa using hv
    rw [this]
    exact Evt.bind (.const rfl) .pure
end Go.Ev.G

namespace Go.Ev.G
open Go Go.Ev
set_option maxRecDepth 100000

/-- what sides and polynomials are asked to be -/
structure Sd (s : List (List Tm)) (sides : List Iv) : Prop where
  sd : ∀ i ∈ sides, ivGd i
  ln : sides.length ≤ 3
  tm : ∀ p ∈ s, ∀ t ∈ p, tmW t
  lp : ∀ p ∈ s, p.length < lenB
abbrev Ed := Int × (Int × Int) × (Int × Int) × Int × Int
def sidesE (e : Ed) : List Iv := if e.1 = 0 then [sgl e.2.1, (minD e.2.2.1 e.2.2.2, maxD e.2.2.1 e.2.2.2)] else [(minD e.2.2.1 e.2.2.2, maxD e.2.2.1 e.2.2.2), sgl e.2.1]
/-- an edge whose numbers are in their form -/
structure EdOk (e : Ed) : Prop where
  sd : e.1 = 0 ∨ e.1 = 1
  a : gd e.2.1
  f : gd e.2.2.1
  t : gd e.2.2.2
theorem along_iv {a b : Int × Int} (ha : gd a) (hb : gd b) : ivGd (minD a b, maxD a b) := ⟨minD_gd ha hb, maxD_gd ha hb, by simp only [minD_sv, maxD_sv]; omega⟩
theorem EdOk.sides {e : Ed} (h : EdOk e) : ∀ i ∈ sidesE e, ivGd i := by
  intro i hi
  have q := along_iv h.f h.t
  have r := sgl_iv h.a
  unfold sidesE at hi
  split at hi <;> (simp only [List.mem_cons, List.not_mem_nil, or_false] at hi; rcases hi with rfl | rfl <;> assumption)
theorem EdOk.len (e : Ed) : (sidesE e).length = 2 := by unfold sidesE; split <;> rfl
theorem Sd.edge {s : List (List Tm)} (h1 : ∀ p ∈ s, ∀ t ∈ p, tmW t) (h2 : ∀ p ∈ s, p.length < lenB) {e : Ed} (h : EdOk e) : Sd s (sidesE e) := ⟨h.sides, by rw [EdOk.len]; omega, h1, h2⟩
end Go.Ev.G

namespace Go.Ev.G
open Go Go.Ev
set_option maxRecDepth 100000

abbrev Bx := Int × List Int × List Int
end Go.Ev.G

namespace Go.Ev.G
open Go Go.Ev
set_option maxRecDepth 100000

theorem markBox_ev {b : Int × List Int × List Int} {a : Nat} (h : a + b.2.1.length + b.2.2.length < lenB) : Evt (fun k _ => laws_markBox k b a) ((a + 1 * b.2.1.length + 1 * b.2.2.length : Nat) : Int) := by
  refine Evt.eq (f := fun k q => _) ?_ (fun k q => by rw [laws_markBox])
  obtain ⟨y, hy, _⟩ := markIntS_only b.2.1 a (by show a + 1 * b.2.1.length < lenB; omega)
  obtain ⟨z, hz, _⟩ := markIntS_only b.2.2 (a + 1 * b.2.1.length) (by show a + 1 * b.2.1.length + 1 * b.2.2.length < lenB; omega)
  exact Evt.bind hy (Evt.bind hz .pure)

end Go.Ev.G

namespace Go.Ev.G
open Go Go.Ev
set_option maxRecDepth 100000

theorem markTermS_only : MarkOk laws_markTermS (heldAny 4) (fun x => 4 * x.length) :=
  mark_only (M := laws_markTermS_L26) (mv := fun a => ((a : Int), ((a + 1 : Nat) : Int), ((a + 2 : Nat) : Int), ((a + 3 : Nat) : Int))) (by omega)
    (fun k n d r e a h1 h2 => by
      rw [laws_markTermS_L26]
      simp only [mid_lt, mid_ge, mid_get, mid_set, cond_true]
      rw [w64_next (m := d.length) (by simp at h2; omega), w64_next (m := a) (by omega), w64_next (m := a + 1) (by omega), w64_next (m := a + 2) (by omega), w64_next (m := a + 3) (by omega)])
    (fun k n d a => by rw [laws_markTermS_L26, mid_end]; rfl)
    (fun _ _ _ => rfl)
def heldAnyL {γ : Type} (c : Nat) (k : Nat) : Nat → List (List γ) → Int → Int → Option (Int ⊕ (Int × Unit))
  | 0, _, _, _ => none
  | n + 1, x, a, i => (bif (decide (i < (x.length : Int))) then (bif (decide (0 ≤ i)) then (bif (decide (i < (x.length : Int))) then (Option.bind (heldAny c k (x.getD (Int.toNat i) []) a) fun r => bif (decide (r < 0)) then some (.inl (-1)) else heldAnyL c k n x r (IntKind.wrap .i64 (i + 1))) else none) else none) else some (.inr (a, ())))
theorem markTermSS_ev {x : List (List Tm)} {a : Nat} (hx : x.length < lenB) (ha : a + (x.map fun r => 4 * r.length).sum < lenB) : ∃ y, Evt (fun k _ => laws_markTermSS k x a) (((a + (x.map fun r => 4 * r.length).sum : Nat) : Int), y) := by
  obtain ⟨y, h1, _⟩ := mark_rows_all (M := laws_markTermSS_L26) (H := heldAnyL 4) (marks := laws_markTermSS) (helds := fun k x a => both (R := Int) (P := Int × Unit) (heldAnyL 4 k k x a 0) (fun q => some q) (fun y => some y.1)) markTermS_only (fun _ _ _ _ _ => rfl) (fun _ _ _ _ _ => rfl) (fun _ _ _ => rfl) (fun _ _ _ => rfl) hx ha
  exact ⟨y, h1⟩
theorem sum_four : ∀ (x : List (List Tm)), (x.map fun r => 4 * r.length).sum = 4 * (x.map List.length).sum
  | [] => rfl
  | r :: x => by simp only [List.map_cons, List.sum_cons, sum_four x]; omega
theorem Sized.marks4 {a : List (List Tm)} (h : Sized a) : 101 + (a.map fun r => 4 * r.length).sum ≤ 4000101 := by
  rw [sum_four]; unfold Sized at h; omega

section
variable {V : Type}
/-- the same for what is told with memory of its own -/
theorem frame_sbl {W : Type} {a : List (List Tm)} {b : Bx} {S I : Nat → List (List Tm) → Bx → Option V} {C : Nat → V → V → Option Bool → Option Bool} {M : Nat → V → (W → Option Bool) → Option Bool} {H : Nat → W → Option Bool → Option Bool} {v : V} {w : W} (ha : a.length ≤ maxLen) (hm : ∀ x ∈ a, x.length ≤ maxLen) (h1 : b.2.1.length ≤ maxLen) (h2 : b.2.2.length ≤ maxLen)
    (hC : ∀ {f : Nat → Nat → Option Bool} {r : Bool}, Evt f r → Evt (fun k n => C k v v (f k n)) r)
    (hM : ∀ {f : Nat → Nat → W → Option Bool} {r : Bool}, Evt (fun k n => f k n w) r → Evt (fun k n => M k v (f k n)) r) (hH : ∀ {f : Nat → Nat → Option Bool} {r : Bool}, Evt f r → Evt (fun k n => H k w (f k n)) r)
    (hS : a.length < 274877906944 → (∀ r ∈ a, r.length < lenB) → b.2.1.length < lenB → Evt (fun k _ => S k a b) v) (hI : a.length < lenB → (∀ r ∈ a, r.length < lenB) → b.2.1.length < lenB → Evt (fun k _ => I k a b) v) :
    Evt (fun k _ => (Option.bind (laws_szTermSS k a 1000000) fun r1 => (bif (decide (r1 < 0)) then some true else (Option.bind (laws_szBox b r1) fun r2 => (bif (decide (r2 < 0)) then some true else (Option.bind (laws_toTermSS k a false) fun r3 => (Option.bind (laws_toBox k b false) fun r4 => (Option.bind (S k (r3.1.map fun z => z.1) (r4.1, r4.2.1.1, r4.2.2.1)) fun r5 => (Option.bind (laws_toTermSS k a false) fun r6 => (Option.bind (laws_toBox k b false) fun r7 => (Option.bind (I k (r6.1.map fun z => z.1) (r7.1, r7.2.1.1, r7.2.2.1)) fun r8 => C k r5 r8 (Option.bind (laws_toTermSS k a false) fun r10 => (Option.bind (laws_intactTermSS k r6 r10) fun r11 => (bif (!r11) then some false else (Option.bind (laws_toBox k b false) fun r12 => (Option.bind (laws_intactBox k r7 r12) fun r13 => (bif (!r13) then some false else
      (Option.bind (laws_markTermSS k (r6.1.map fun z => z.1) 101) fun r14 => (Option.bind (laws_markBox k (r7.1, r7.2.1.1, r7.2.2.1) r14.1) fun r15 => (bif (decide (r15 < 0)) then some false else C k r5 r8 (M k r8 fun w => H k w (Option.bind (laws_toTermSS k a true) fun r19 => (Option.bind (laws_toBox k b true) fun r20 => (Option.bind (I k (r19.1.map fun z => z.1) (r20.1, r20.2.1.1, r20.2.2.1)) fun r21 => C k r5 r21 (H k w (some true)))))))))))))))))))))))))) true := by
  refine Evt.bind (szTermSS_ev (a := 1000000) ha hm (by omega)) ?_
  by_cases hz : a.length + (a.map List.length).sum ≤ 1000000
  · rw [if_pos hz]
    have hs : Sized a := hz
    refine Evt.cfalse (by simp <;> omega) (Evt.bind (.const (szBox_eq h1 h2 (by omega))) ?_)
    by_cases hy : b.2.1.length + b.2.2.length ≤ 1000000 - (a.length + (a.map List.length).sum)
    · rw [if_pos hy]
      refine Evt.cfalse (by simp <;> omega) ?_
      have b1 : b.2.1.length ≤ 1000000 := by omega
      have b2 : b.2.2.length ≤ 1000000 := by omega
      have hr : ∀ r ∈ a, r.length < lenB := fun r hr => by have := hs.row r hr; simp only [lenB]; omega
      have hl := hs.len
      have spec := hS (by omega) hr (by simp only [lenB]; omega)
      have impl := hI (by simp only [lenB]; omega) hr (by simp only [lenB]; omega)
      have hm4 := hs.marks4
      obtain ⟨y, hy1⟩ := markTermSS_ev (x := a) (a := 101) (by simp only [lenB]; omega) (by simp only [lenB]; omega)
      have hb1 := markBox_ev (b := b) (a := 101 + (a.map fun r => 4 * r.length).sum) (by simp only [lenB]; omega)
      refine Evt.bind (toTermSS_ev hs.len hs.row) (Evt.bind (toBox_ev b1 b2) ?_)
      simp only [toV_rows, boxR_eq]
      refine Evt.bind spec (Evt.bind (toTermSS_ev hs.len hs.row) (Evt.bind (toBox_ev b1 b2) ?_))
      simp only [toV_rows, boxR_eq]
      refine Evt.bind impl (hC (Evt.bind (toTermSS_ev hs.len hs.row) (Evt.bind (intactT_ev hs) (Evt.cfalse rfl (Evt.bind (toBox_ev b1 b2) (Evt.bind (intactBox_ev b1 b2) (Evt.cfalse rfl ?_)))))))
      refine Evt.bind hy1 (Evt.bind hb1 (Evt.cfalse (by simp <;> omega) (hC (hM (hH (Evt.bind (toTermSS_ev hs.len hs.row) (Evt.bind (toBox_ev b1 b2) ?_)))))))
      simp only [toV_rows, boxR_eq]
      exact Evt.bind impl (hC (hH .pure))
    · rw [if_neg hy]
      exact Evt.ctrue rfl .pure
  · rw [if_neg hz]
    exact Evt.ctrue rfl .pure
end
/-- what a plane system is asked to be -/
structure Pl (s : List (List Tm)) : Prop where
  ln : s.length = 2
  tm : ∀ p ∈ s, ∀ t ∈ p, tmW t
  lp : ∀ p ∈ s, p.length < lenB
theorem Pl.sd {s : List (List Tm)} (h : Pl s) {e : Ed} (he : EdOk e) : Sd s (sidesE e) := Sd.edge h.tm h.lp he
end Go.Ev.G

namespace Go.Ev.G
open Go Go.Ev
set_option maxRecDepth 100000

def halfD (a b : Int × Int) : (Int × Int) × Bool := mkD (sumN a b) (exA a b + 1)
theorem halfD_gd (a b : Int × Int) : gd (halfD a b).1 := mkD_gd _ _
theorem dyHalf_ev {a b : Int × Int} (ha : gd a) (hb : gd b) : Evt (fun k _ => spec_dyHalf k a b) (halfD a b) := by
  obtain ⟨n, j⟩ := a
  obtain ⟨m, i⟩ := b
  obtain ⟨a1, a2, a3, a4, a5⟩ := ha
  obtain ⟨b1, b2, b3, b4, b5⟩ := hb
  simp only at *
  obtain ⟨j, rfl⟩ := Int.eq_ofNat_of_zero_le a1
  obtain ⟨i, rfl⟩ := Int.eq_ofNat_of_zero_le b1
  refine Evt.eq (f := fun k q => _) ?_ (fun k q => by rw [spec_dyHalf])
  refine Evt.bind (.const (most_eq _ _)) ?_
  have hmax : max ((j : Nat) : Int) (i : Int) = ((max j i : Nat) : Int) := by omega
  simp only [hmax]
  have e : halfD (n, (j : Int)) (m, (i : Int)) = mkD (n * 2 ^ (max j i - j) + m * 2 ^ (max j i - i)) (max j i + 1) := by simp [halfD, sumN, exA]
  rw [e]
  refine Evt.bind (dyAt_ev (by omega) (by omega) (by omega) (by omega)) (Evt.bind (dyAt_ev (by omega) (by omega) (by omega) (by omega)) ?_)
  have hbn := mul_pow_bound (n := n) (m := max j i - j) (by omega) (B := 1099511627776) (by omega) a3 a4
  have hbm := mul_pow_bound (n := m) (m := max j i - i) (by omega) (B := 1099511627776) (by omega) b3 b4
  cases h1 : (atV (max j i - j) n).2 with
  | false =>
    refine Evt.ctrue rfl ?_
    obtain ⟨hpos, hl⟩ := atV_large _ _ h1
    have hij : max j i = i := by omega
    have hodd : m % 2 ≠ 0 := by
      rcases b5 with h | h
      · omega
      · exact h
    have hev := even_pow (n := n) hpos
    rw [hij] at hl hev ⊢
    simp only [Nat.sub_self, Int.pow_zero, Int.mul_one]
    rw [mkD_odd (by omega) (by omega)]
    exact .pure
  | true =>
    refine Evt.cfalse rfl ?_
    cases h2 : (atV (max j i - i) m).2 with
    | false =>
      refine Evt.ctrue rfl ?_
      obtain ⟨hpos, hl⟩ := atV_large _ _ h2
      have hij : max j i = j := by omega
      have hodd : n % 2 ≠ 0 := by
        rcases a5 with h | h
        · omega
        · exact h
      have hev := even_pow (n := m) hpos
      rw [hij] at hl hev ⊢
      simp only [Nat.sub_self, Int.pow_zero, Int.mul_one]
      rw [mkD_odd (by omega) (by omega)]
      exact .pure
    | true =>
      refine Evt.cfalse rfl ?_
      rw [atV_true _ _ h1, atV_true _ _ h2]
      -- neither is too large: the sum fits
      have hsum : -9223372036854775808 < n * 2 ^ (max j i - j) + m * 2 ^ (max j i - i) ∧ n * 2 ^ (max j i - j) + m * 2 ^ (max j i - i) < 9223372036854775808 := by
        have g1 : ∀ (q : Nat) (z : Int), -1099511627776 ≤ z → z ≤ 1099511627776 → (atV q z).2 = true → -2305843009213693952 ≤ z * 2 ^ q ∧ z * 2 ^ q ≤ 2305843009213693952 := by
          intro q
          induction q with
          | zero => intro z h1 h2 _; simp; omega
          | succ q ih =>
            intro z _ _ h
            have key : ∀ (q : Nat) (z : Int), (atV (q + 1) z).2 = true → -1152921504606846976 ≤ z * 2 ^ q ∧ z * 2 ^ q ≤ 1152921504606846976 := by
              intro q
              induction q with
              | zero =>
                intro z h
                unfold atV at h
                split at h
                · rename_i hc; simpa using hc
                · cases h
              | succ q ih =>
                intro z h
                unfold atV at h
                split at h
                · have := ih (z * 2) h
                  rw [show z * 2 ^ (q + 1) = z * 2 * 2 ^ q by rw [Int.pow_succ, Int.mul_assoc, Int.mul_comm 2]]
                  exact this
                · cases h
            have := key q z h
            rw [Int.pow_succ, ← Int.mul_assoc]
            omega
        have u1 := g1 _ _ a3 a4 h1
        have u2 := g1 _ _ b3 b4 h2
        omega
      have hk : IntKind.wrap .i64 (((max j i : Nat) : Int) + 1) = ((max j i + 1 : Nat) : Int) := w64_next (by simp only [lenB]; omega)
      rw [w64 (by omega) (by omega), hk]
      exact Evt.bind (dyMake_ev hsum.1 hsum.2 (by omega)) .pure

theorem middleOf_ev {a b : Int × Int} (ha : gd a) (hb : gd b) : Evt (fun k _ => impl_middleOf k a b) (halfD a b) := by
  obtain ⟨n, j, rfl, a1, a2, a3, a4⟩ := gd_nat ha
  obtain ⟨m, i, rfl, b1, b2, b3, b4⟩ := gd_nat hb
  refine Evt.eq (f := fun k q => _) ?_ (fun k q => by rw [impl_middleOf])
  simp only [max_if]
  have hmax : max ((j : Nat) : Int) (i : Int) = ((max j i : Nat) : Int) := by omega
  simp only [hmax]
  obtain ⟨u1, u2, u3, u4⟩ := wide_at (n := n) (j := j) (K := max j i) (by omega) (by omega) a2 a3
  obtain ⟨v1, v2, v3, v4⟩ := wide_at (n := m) (j := i) (K := max j i) (by omega) (by omega) b2 b3
  refine Evt.bind (.const u1) (Evt.bind (.const u2) (Evt.bind (.const v1) (Evt.bind (.const v2) ?_)))
  obtain ⟨neg, M, hM, hv, hev⟩ := add_ev (n1 := decide (n < 0)) (n2 := decide (m < 0)) (M1 := n.natAbs * 2 ^ (max j i - j)) (M2 := m.natAbs * 2 ^ (max j i - i)) (by simp only [B64] at *; omega)
  have hk : IntKind.wrap .i64 (((max j i : Nat) : Int) + 1) = ((max j i + 1 : Nat) : Int) := w64_next (by simp only [lenB]; omega)
  rw [hk]
  refine Evt.bind hev (Evt.bind (fit_ev (by simp only [B64] at *; omega) (by omega)) ?_)
  rw [hv, u4, v4]
  have e : halfD (n, (j : Int)) (m, (i : Int)) = mkD (n * 2 ^ (max j i - j) + m * 2 ^ (max j i - i)) (max j i + 1) := by simp [halfD, sumN, exA]
  rw [e]
  exact .pure


theorem EdOk.left {e : Ed} (h : EdOk e) : EdOk (e.1, e.2.1, e.2.2.1, (halfD e.2.2.1 e.2.2.2).1) := ⟨h.sd, h.a, h.f, halfD_gd _ _⟩
theorem EdOk.right {e : Ed} (h : EdOk e) : EdOk (e.1, e.2.1, (halfD e.2.2.1 e.2.2.2).1, e.2.2.2) := ⟨h.sd, h.a, halfD_gd _ _, h.t⟩
end Go.Ev.G

namespace Go.Ev.G
open Go Go.Ev
set_option maxRecDepth 100000

def nwV (s : List (List Tm)) (b : Bx) : Bool := sysV s && (bxV b && (((s.length : Int) == (b.2.1.length : Int)) && decide (b.1 ≤ 4)))
theorem nwGood_ev {s : List (List Tm)} {b : Bx} (hb : s.length < lenB) (hm : ∀ r ∈ s, r.length < lenB) (hx : b.2.1.length < lenB) : Evt (fun k _ => spec_nwGood k s b) (nwV s b) := by
  refine Evt.eq (f := fun k q => _) ?_ (fun k q => by rw [spec_nwGood, spec_vaBoth])
  unfold nwV
  have h1 := poSystem_ev hb hm
  have h2 := bxGood_ev hx
  cases hs : sysV s with
  | false =>
    rw [hs] at h1
    exact Evt.bind (Evt.bind h1 (Evt.cfalse rfl .pure)) (Evt.cfalse rfl .pure)
  | true =>
    rw [hs] at h1
    cases hv : bxV b with
    | false =>
      rw [hv] at h2
      exact Evt.bind (Evt.bind h1 (Evt.ctrue rfl (Evt.bind h2 (Evt.cfalse rfl .pure)))) (Evt.cfalse rfl .pure)
    | true =>
      rw [hv] at h2
      refine Evt.bind (Evt.bind h1 (Evt.ctrue rfl (Evt.bind h2 (Evt.ctrue rfl .pure)))) ?_
      cases hl : ((s.length : Int) == (b.2.1.length : Int)) with
      | false => exact Evt.cfalse rfl .pure
      | true => exact Evt.ctrue rfl .pure
theorem newtonFits_ev {s : List (List Tm)} {b : Bx} (hb : s.length < lenB) (hm : ∀ r ∈ s, r.length < lenB) (hx : b.2.1.length < lenB) : Evt (fun k _ => impl_newtonFits k s b) (nwV s b) := by
  refine Evt.eq (f := fun k q => _) ?_ (fun k q => by rw [impl_newtonFits, impl_systemOver])
  unfold nwV
  have h1 := isSystem_ev hb hm
  have h2 := isBox_ev hx
  cases hs : sysV s with
  | false =>
    rw [hs] at h1
    exact Evt.bind (Evt.bind h1 (Evt.cfalse rfl .pure)) (Evt.cfalse rfl .pure)
  | true =>
    rw [hs] at h1
    cases hv : bxV b with
    | false =>
      rw [hv] at h2
      exact Evt.bind (Evt.bind h1 (Evt.ctrue rfl (Evt.bind h2 (Evt.cfalse rfl .pure)))) (Evt.cfalse rfl .pure)
    | true =>
      rw [hv] at h2
      refine Evt.bind (Evt.bind h1 (Evt.ctrue rfl (Evt.bind h2 (Evt.ctrue rfl .pure)))) ?_
      cases hl : ((s.length : Int) == (b.2.1.length : Int)) with
      | false => exact Evt.cfalse rfl .pure
      | true => exact Evt.ctrue rfl .pure

/-- what is known of such a system and box -/
structure NwOk (s : List (List Tm)) (m : Nat) (lo hi : List Int) : Prop where
  po : ∀ p ∈ s, polyV p = true
  n1 : 1 ≤ lo.length ∧ lo.length ≤ 3
  sl : s.length = lo.length
  hl : hi.length = lo.length
  m4 : m ≤ 4
  bd : ∀ p ∈ lo.zip hi, -128 ≤ p.1 ∧ p.1 < p.2 ∧ p.2 ≤ 128
theorem nwV_form {s : List (List Tm)} {b : Bx} (h : nwV s b = true) : ∃ m : Nat, b = ((m : Int), b.2.1, b.2.2) ∧ NwOk s m b.2.1 b.2.2 := by
  obtain ⟨d8, los, his⟩ := b
  unfold nwV bxV sysV at h
  simp only [Bool.and_eq_true, decide_eq_true_eq, beq_iff_eq, List.all_eq_true] at h
  obtain ⟨⟨p1, p2⟩, ⟨g1, g2, g3, g4, _⟩, g5, g6⟩ := h
  refine ⟨d8.toNat, by rw [Int.toNat_of_nonneg g1.1], ?_⟩
  show NwOk s d8.toNat los his
  have g2 : 1 ≤ (los.length : Int) ∧ (los.length : Int) ≤ 3 := g2
  have g5 : (s.length : Int) = (los.length : Int) := g5
  refine ⟨fun p hp => (p1 p hp).1, by omega, by omega, g3, by omega, fun p hp => ?_⟩
  have hq := g4 p hp
  unfold sideOk at hq
  have hq := of_decide_eq_true hq
  have hp : (8 : Int) * 2 ^ d8.toNat ≤ 128 := by
    have h1 : (2 : Nat) ^ d8.toNat ≤ 2 ^ 4 := Nat.pow_le_pow_right (by omega) (by omega)
    have h2 : ((2 : Int) ^ d8.toNat) = ((2 ^ d8.toNat : Nat) : Int) := by simp
    have : (2 : Nat) ^ 4 = 16 := by decide
    rw [h2]
    omega
  omega

def sidesB (m : Nat) (lo hi : List Int) : List Iv := (lo.zip hi).map fun p => ((mkD p.1 m).1, (mkD p.2 m).1)
theorem sidesB_len {s : List (List Tm)} {m : Nat} {lo hi : List Int} (h : NwOk s m lo hi) : (sidesB m lo hi).length = lo.length := by
  have := h.hl
  simp [sidesB]
  omega
theorem sidesB_iv {s : List (List Tm)} {m : Nat} {lo hi : List Int} (h : NwOk s m lo hi) : ∀ x ∈ sidesB m lo hi, ivGd x := by
  intro x hx
  obtain ⟨p, hp, rfl⟩ := List.mem_map.1 hx
  obtain ⟨b1, b2, b3⟩ := h.bd p hp
  refine ⟨mkD_gd _ _, mkD_gd _ _, ?_⟩
  have e1 := sv_mkD (mkD_ok (n := p.1) (k := m) (by omega) (by omega) (by have := h.m4; omega))
  have e2 := sv_mkD (mkD_ok (n := p.2) (k := m) (by omega) (by omega) (by have := h.m4; omega))
  have hle : sv (mkD p.1 m).1 * 2 ^ m ≤ sv (mkD p.2 m).1 * 2 ^ m := by
    rw [e1, e2]
    omega
  exact Int.le_of_mul_le_mul_right hle (Int.pow_pos (by decide))

theorem bxNumber_ev {x : Int} {m : Nat} (hx : -128 ≤ x ∧ x ≤ 128) (hm : m ≤ 4) : Evt (fun k _ => spec_bxNumber k x (m : Int)) (mkD x m).1 := by
  refine Evt.eq (f := fun k q => _) ?_ (fun k q => by rw [spec_bxNumber])
  exact Evt.bind (dyMake_ev (n := x) (m := m) (by omega) (by omega) (by omega)) .pure
theorem boxDyadic_ev {x : Int} {m : Nat} {lo hi : List Int} (hx : -128 ≤ x ∧ x ≤ 128) (hm : m ≤ 4) : Evt (fun k _ => impl_Box_dyadic k ((m : Int), lo, hi) x) (mkD x m).1 := by
  refine Evt.eq (f := fun k q => _) ?_ (fun k q => by rw [impl_Box_dyadic])
  exact Evt.bind (.const (wideOf_eq (by omega) (by omega))) (Evt.bind (fitD_ev (n := x) (p := m) (by omega) (by omega) (by omega)) .pure)

theorem vaSides_ev {s : List (List Tm)} {m : Nat} {lo hi : List Int} (h : NwOk s m lo hi) : Evt (fun k _ => spec_vaSides k ((m : Int), lo, hi)) (sidesB m lo hi) := by
  refine Evt.eq (f := fun k q => _) ?_ (fun k q => by rw [spec_vaSides])
  have key : ∀ (r d r2 d2 : List Int), d ++ r = lo → d2 ++ r2 = hi → d.length = d2.length → Evt (fun k n => spec_vaSides_L58 k n ((m : Int), lo, hi) (sidesB m d d2) lo (lo.length : Int) d.length) (.inr (sidesB m lo hi, ())) := by
    intro r
    induction r with
    | nil =>
      intro d r2 d2 hd hd2 hl
      refine Evt.step (fun k n => spec_vaSides_L58.eq_2 k _ _ _ _ _ n) ?_
      rw [List.append_nil] at hd
      subst hd
      have hn : r2 = [] := by
        have h1 := congrArg List.length hd2
        have h2 := h.hl
        simp at h1
        exact List.eq_nil_of_length_eq_zero (by omega)
      subst hn
      rw [List.append_nil] at hd2
      subst hd2
      exact Evt.cfalse (by simp) .pure
    | cons e r ih =>
      intro d r2 d2 hd hd2 hl
      have hxl := congrArg List.length hd
      have hyl := congrArg List.length hd2
      have hh := h.hl
      have hn := h.n1
      simp at hxl hyl
      cases r2 with
      | nil => simp at hyl; omega
      | cons f r2 =>
      have ih := ih (d ++ [e]) r2 (d2 ++ [f]) (by simpa using hd) (by simpa using hd2) (by simp [hl])
      rw [← len_next (r := r) (by rw [hd]; simp only [lenB]; omega)] at ih
      have e2 : sidesB m (d ++ [e]) (d2 ++ [f]) = sidesB m d d2 ++ [((mkD e m).1, (mkD f m).1)] := by
        unfold sidesB
        rw [List.zip_append hl, List.map_append]
        rfl
      rw [e2] at ih
      have hmem : (e, f) ∈ lo.zip hi := by
        rw [← hd, ← hd2, List.zip_append hl]
        exact List.mem_append.2 (.inr (by simp))
      obtain ⟨b1, b2, b3⟩ := h.bd _ hmem
      simp only at b1 b2 b3
      have g1 : lo.getD (Int.toNat (d.length : Int)) 0 = e := by rw [← hd]; exact mid_get
      have g2 : hi.getD (Int.toNat (d.length : Int)) 0 = f := by rw [← hd2, hl]; exact mid_get
      have hsl : (sidesB m d d2).length ≤ 3 := by simp [sidesB]; omega
      refine Evt.step (fun k n => spec_vaSides_L58.eq_2 k _ _ _ _ _ n) ?_
      simp only [g1, g2]
      exact Evt.ctrue (decide_eq_true (by omega)) (Evt.ctrue mid_ge (Evt.ctrue (decide_eq_true (by omega)) (Evt.bind (bxNumber_ev (by omega) h.m4) (Evt.ctrue mid_ge (Evt.ctrue (decide_eq_true (by omega)) (Evt.bind (bxNumber_ev (by omega) h.m4) (Evt.ctrue (decide_eq_true (by simp; omega)) ih)))))))
  exact Evt.inr (Evt.diag (key lo [] hi [] rfl rfl rfl)) .pure

theorem boxSide_ev {s : List (List Tm)} {m : Nat} {lo hi d r d2 r2 : List Int} {e f : Int} (h : NwOk s m lo hi) (hd : d ++ e :: r = lo) (hd2 : d2 ++ f :: r2 = hi) (hl : d.length = d2.length) : Evt (fun k _ => impl_Box_side k ((m : Int), lo, hi) (d.length : Int)) ((mkD e m).1, (mkD f m).1) := by
  have hxl := congrArg List.length hd
  have hyl := congrArg List.length hd2
  simp at hxl hyl
  have hmem : (e, f) ∈ lo.zip hi := by
    rw [← hd, ← hd2, List.zip_append hl]
    exact List.mem_append.2 (.inr (by simp))
  obtain ⟨b1, b2, b3⟩ := h.bd _ hmem
  simp only at b1 b2 b3
  have g1 : lo.getD (Int.toNat (d.length : Int)) 0 = e := by rw [← hd]; exact mid_get
  have g2 : hi.getD (Int.toNat (d.length : Int)) 0 = f := by rw [← hd2, hl]; exact mid_get
  refine Evt.eq (f := fun k q => _) ?_ (fun k q => by rw [impl_Box_side])
  simp only [g1, g2]
  exact Evt.ctrue mid_ge (Evt.ctrue (decide_eq_true (by omega)) (Evt.bind (boxDyadic_ev (by omega) h.m4) (Evt.ctrue mid_ge (Evt.ctrue (decide_eq_true (by omega)) (Evt.bind (boxDyadic_ev (by omega) h.m4) .pure)))))
theorem boxSides_ev {s : List (List Tm)} {m : Nat} {lo hi : List Int} (h : NwOk s m lo hi) : Evt (fun k _ => impl_Box_sides k ((m : Int), lo, hi)) (sidesB m lo hi) := by
  refine Evt.eq (f := fun k q => _) ?_ (fun k q => by rw [impl_Box_sides])
  have key : ∀ (r d r2 d2 : List Int), d ++ r = lo → d2 ++ r2 = hi → d.length = d2.length → Evt (fun k n => impl_Box_sides_L58 k n ((m : Int), lo, hi) (sidesB m d d2) (lo.length : Int) d.length) (.inr (sidesB m lo hi, ())) := by
    intro r
    induction r with
    | nil =>
      intro d r2 d2 hd hd2 hl
      refine Evt.step (fun k n => impl_Box_sides_L58.eq_2 k _ _ _ _ n) ?_
      rw [List.append_nil] at hd
      subst hd
      have hn : r2 = [] := by
        have h1 := congrArg List.length hd2
        have h2 := h.hl
        simp at h1
        exact List.eq_nil_of_length_eq_zero (by omega)
      subst hn
      rw [List.append_nil] at hd2
      subst hd2
      exact Evt.cfalse (by simp) .pure
    | cons e r ih =>
      intro d r2 d2 hd hd2 hl
      have hxl := congrArg List.length hd
      have hyl := congrArg List.length hd2
      have hh := h.hl
      have hn := h.n1
      simp at hxl hyl
      cases r2 with
      | nil => simp at hyl; omega
      | cons f r2 =>
      have ih := ih (d ++ [e]) r2 (d2 ++ [f]) (by simpa using hd) (by simpa using hd2) (by simp [hl])
      rw [← len_next (r := r) (by rw [hd]; simp only [lenB]; omega)] at ih
      have e2 : sidesB m (d ++ [e]) (d2 ++ [f]) = sidesB m d d2 ++ [((mkD e m).1, (mkD f m).1)] := by
        unfold sidesB
        rw [List.zip_append hl, List.map_append]
        rfl
      rw [e2] at ih
      have hsl : (sidesB m d d2).length ≤ 3 := by simp [sidesB]; omega
      refine Evt.step (fun k n => impl_Box_sides_L58.eq_2 k _ _ _ _ n) ?_
      exact Evt.ctrue (decide_eq_true (by omega)) (Evt.bind (boxSide_ev h hd hd2 hl) (Evt.ctrue (decide_eq_true (by simp; omega)) ih))
  exact Evt.inr (Evt.diag (key lo [] hi [] rfl rfl rfl)) .pure

theorem dV_W {i : Nat} {p : List Tm} (h : polyV p = true) : ∀ t ∈ dV i p, tmW t := by
  intro t ht
  obtain ⟨u, hu, rfl⟩ := List.mem_map.1 ht
  have hu := polyV_gd h u (List.mem_filter.1 hu).1
  have h1 := lw_bd (i := i) hu
  have h2 := lw_ex (i := i) hu
  exact ⟨by omega, h2.1, h2.2.1, h2.2.2⟩
theorem dV_len {i : Nat} {p : List Tm} (h : polyV p = true) : (dV i p).length < lenB := by
  have := polyV_len h
  have h2 : (dV i p).length ≤ p.length := by unfold dV; rw [List.length_map]; exact List.length_filter_le _ _
  simp only [lenB]; omega
def allO {α β : Type} (g : α → Option β) (z : β) (l : List α) : Option (List β) := if (l.all fun x => (g x).isSome) then some (l.map fun x => (g x).getD z) else none
def grO (sides : List Iv) (p : List Tm) : Option (List Iv) := allO (fun i => valO (dV i p) sides) zI (List.range sides.length)
def jaO (sides : List Iv) (s : List (List Tm)) : Option (List (List Iv)) := allO (grO sides) [] s
def oL {β : Type} (o : Option (List β)) : List β × Bool := match o with
  | some l => (l, true)
  | none => ([], false)
theorem range_at {N : Nat} {d r : List Nat} {e : Nat} (h : d ++ e :: r = List.range N) : e = d.length ∧ d.length < N := by
  have hl := congrArg List.length h
  simp at hl
  have h1 : d.length < N := by omega
  have h2 : (d ++ e :: r)[d.length]? = some e := by simp
  rw [h, List.getElem?_range h1] at h2
  simp only [Option.some.injEq] at h2
  exact ⟨h2.symm, h1⟩

theorem vaGradient_ev {sides : List Iv} {p : List Tm} (h : polyV p = true) (hs : ∀ x ∈ sides, ivGd x) (hl : sides.length ≤ 3) : Evt (fun k _ => spec_vaGradient k p sides) (oL (grO sides p)) := by
  refine Evt.eq (f := fun k q => _) ?_ (fun k q => by rw [spec_vaGradient])
  have key : ∀ (r d : List Nat), d ++ r = List.range sides.length → Evt (fun k n => spec_vaGradient_L58 k n p sides (d.map fun i => (valO (dV i p) sides).getD zI) (sides.length : Int) d.length) (if (r.all fun i => (valO (dV i p) sides).isSome) then .inr ((List.range sides.length).map fun i => (valO (dV i p) sides).getD zI, ()) else .inl ([], false)) := by
    intro r
    induction r with
    | nil =>
      intro d hd
      refine Evt.step (fun k n => spec_vaGradient_L58.eq_2 k _ _ _ _ _ n) ?_
      rw [List.append_nil] at hd
      have := congrArg List.length hd
      simp at this
      rw [hd]
      exact Evt.cfalse (decide_eq_false (by simp)) .pure
    | cons e r ih =>
      intro d hd
      obtain ⟨rfl, hlt⟩ := range_at hd
      have ih := ih (d ++ [d.length]) (by simpa using hd)
      rw [← len_next (r := r) (by rw [hd]; simp [lenB]; omega), List.map_append] at ih
      refine Evt.step (fun k n => spec_vaGradient_L58.eq_2 k _ _ _ _ _ n) (Evt.ctrue (decide_eq_true (by omega)) ?_)
      refine Evt.bind (poDerive_ev (by omega) h) (Evt.bind (vaOver_ev (dV_W h) hs (by simp only [lenB]; omega) (dV_len h)) ?_)
      cases hv : valO (dV d.length p) sides with
      | none =>
        simp only [List.all_cons, hv, Option.isSome_none, Bool.false_and]
        exact Evt.ctrue rfl .pure
      | some v =>
        simp only [List.map_cons, List.map_nil, hv] at ih
        simp only [List.all_cons, hv, Option.isSome_some, Bool.true_and]
        exact Evt.cfalse rfl (Evt.ctrue (by simp; omega) ih)
  have h0 := key (List.range sides.length) [] rfl
  simp only [List.map_nil, List.length_nil] at h0
  unfold grO allO
  cases ha : (List.range sides.length).all fun i => (valO (dV i p) sides).isSome with
  | true => rw [ha] at h0; exact Evt.inr (Evt.diag h0) .pure
  | false => rw [ha] at h0; exact Evt.inl (Evt.diag h0) .pure

theorem gradientOver_ev {s : List (List Tm)} {m : Nat} {lo hi : List Int} {p : List Tm} (hN : NwOk s m lo hi) (h : polyV p = true) : Evt (fun k _ => impl_gradientOver k p ((m : Int), lo, hi)) (oL (grO (sidesB m lo hi) p)) := by
  refine Evt.eq (f := fun k q => _) ?_ (fun k q => by rw [impl_gradientOver])
  have hsl := sidesB_len hN
  have hn := hN.n1
  have key : ∀ (r d : List Nat), d ++ r = List.range (sidesB m lo hi).length → Evt (fun k n => impl_gradientOver_L58 k n p ((m : Int), lo, hi) (d.map fun i => (valO (dV i p) (sidesB m lo hi)).getD zI) (lo.length : Int) d.length) (if (r.all fun i => (valO (dV i p) (sidesB m lo hi)).isSome) then .inr ((List.range (sidesB m lo hi).length).map fun i => (valO (dV i p) (sidesB m lo hi)).getD zI, ()) else .inl ([], false)) := by
    intro r
    induction r with
    | nil =>
      intro d hd
      refine Evt.step (fun k n => impl_gradientOver_L58.eq_2 k _ _ _ _ _ n) ?_
      rw [List.append_nil] at hd
      have := congrArg List.length hd
      simp at this
      rw [hd]
      exact Evt.cfalse (decide_eq_false (by simp; omega)) .pure
    | cons e r ih =>
      intro d hd
      obtain ⟨rfl, hlt⟩ := range_at hd
      have ih := ih (d ++ [d.length]) (by simpa using hd)
      rw [← len_next (r := r) (by rw [hd]; simp [lenB]; omega), List.map_append] at ih
      refine Evt.step (fun k n => impl_gradientOver_L58.eq_2 k _ _ _ _ _ n) (Evt.ctrue (decide_eq_true (by omega)) ?_)
      refine Evt.bind (derive_ev (by omega) h) (Evt.bind (boxSides_ev hN) (Evt.bind (valueOver_ev (dV_W h) (sidesB_iv hN) (by omega) (dV_len h)) ?_))
      cases hv : valO (dV d.length p) (sidesB m lo hi) with
      | none =>
        simp only [List.all_cons, hv, Option.isSome_none, Bool.false_and]
        exact Evt.ctrue rfl .pure
      | some v =>
        simp only [List.map_cons, List.map_nil, hv] at ih
        simp only [List.all_cons, hv, Option.isSome_some, Bool.true_and]
        exact Evt.cfalse rfl (Evt.ctrue (by simp; omega) ih)
  have h0 := key (List.range (sidesB m lo hi).length) [] rfl
  simp only [List.map_nil, List.length_nil] at h0
  unfold grO allO
  cases ha : (List.range (sidesB m lo hi).length).all fun i => (valO (dV i p) (sidesB m lo hi)).isSome with
  | true => rw [ha] at h0; exact Evt.inr (Evt.diag h0) .pure
  | false => rw [ha] at h0; exact Evt.inl (Evt.diag h0) .pure

theorem vaJacobian_ev {s : List (List Tm)} {m : Nat} {lo hi : List Int} (h : NwOk s m lo hi) : Evt (fun k _ => spec_vaJacobian k s ((m : Int), lo, hi)) (oL (jaO (sidesB m lo hi) s)) := by
  refine Evt.eq (f := fun k q => _) ?_ (fun k q => by rw [spec_vaJacobian])
  have hsl := sidesB_len h
  have hn := h.n1
  have hss := h.sl
  have key : ∀ (r d : List (List Tm)), d ++ r = s → Evt (fun k n => spec_vaJacobian_L58 k n ((m : Int), lo, hi) (d.map fun p => (grO (sidesB m lo hi) p).getD []) s (s.length : Int) d.length) (if (r.all fun p => (grO (sidesB m lo hi) p).isSome) then .inr (s.map fun p => (grO (sidesB m lo hi) p).getD [], ()) else .inl ([], false)) := by
    intro r
    induction r with
    | nil =>
      intro d hd
      refine Evt.step (fun k n => spec_vaJacobian_L58.eq_2 k _ _ _ _ _ n) ?_
      rw [List.append_nil] at hd
      subst hd
      exact Evt.rng0 .pure
    | cons e r ih =>
      intro d hd
      have hxl := congrArg List.length hd
      simp at hxl
      have ih := ih (d ++ [e]) (by simpa using hd)
      rw [← len_next (r := r) (by rw [hd]; simp only [lenB]; omega), List.map_append] at ih
      refine Evt.step (fun k n => spec_vaJacobian_L58.eq_2 k _ _ _ _ _ n) ?_
      have g : s.getD (Int.toNat (d.length : Int)) [] = e := by rw [← hd]; exact mid_get
      rw [g]
      refine Evt.ctrue (by rw [← hd]; exact mid_lt) (Evt.ctrue mid_ge (Evt.ctrue (by rw [← hd]; exact mid_lt) (Evt.bind (vaSides_ev h) (Evt.bind (vaGradient_ev (h.po e (by rw [← hd]; simp)) (sidesB_iv h) (by omega)) ?_))))
      cases hv : grO (sidesB m lo hi) e with
      | none =>
        simp only [List.all_cons, hv, Option.isSome_none, Bool.false_and]
        exact Evt.ctrue rfl .pure
      | some v =>
        simp only [List.map_cons, List.map_nil, hv] at ih
        simp only [List.all_cons, hv, Option.isSome_some, Bool.true_and]
        exact Evt.cfalse rfl (Evt.ctrue (by simp; omega) ih)
  have h0 := key s [] rfl
  simp only [List.map_nil, List.length_nil] at h0
  unfold jaO allO
  cases ha : s.all fun p => (grO (sidesB m lo hi) p).isSome with
  | true => rw [ha] at h0; exact Evt.inr (Evt.diag h0) .pure
  | false => rw [ha] at h0; exact Evt.inl (Evt.diag h0) .pure
theorem jacobianOver_ev {s : List (List Tm)} {m : Nat} {lo hi : List Int} (h : NwOk s m lo hi) : Evt (fun k _ => impl_jacobianOver k s ((m : Int), lo, hi)) (oL (jaO (sidesB m lo hi) s)) := by
  refine Evt.eq (f := fun k q => _) ?_ (fun k q => by rw [impl_jacobianOver])
  have hsl := sidesB_len h
  have hn := h.n1
  have hss := h.sl
  have key : ∀ (r d : List (List Tm)), d ++ r = s → Evt (fun k n => impl_jacobianOver_L58 k n ((m : Int), lo, hi) (d.map fun p => (grO (sidesB m lo hi) p).getD []) s (s.length : Int) d.length) (if (r.all fun p => (grO (sidesB m lo hi) p).isSome) then .inr (s.map fun p => (grO (sidesB m lo hi) p).getD [], ()) else .inl ([], false)) := by
    intro r
    induction r with
    | nil =>
      intro d hd
      refine Evt.step (fun k n => impl_jacobianOver_L58.eq_2 k _ _ _ _ _ n) ?_
      rw [List.append_nil] at hd
      subst hd
      exact Evt.rng0 .pure
    | cons e r ih =>
      intro d hd
      have hxl := congrArg List.length hd
      simp at hxl
      have ih := ih (d ++ [e]) (by simpa using hd)
      rw [← len_next (r := r) (by rw [hd]; simp only [lenB]; omega), List.map_append] at ih
      refine Evt.step (fun k n => impl_jacobianOver_L58.eq_2 k _ _ _ _ _ n) ?_
      have g : s.getD (Int.toNat (d.length : Int)) [] = e := by rw [← hd]; exact mid_get
      rw [g]
      refine Evt.ctrue (by rw [← hd]; exact mid_lt) (Evt.ctrue mid_ge (Evt.ctrue (by rw [← hd]; exact mid_lt) (Evt.bind (gradientOver_ev h (h.po e (by rw [← hd]; simp))) ?_)))
      cases hv : grO (sidesB m lo hi) e with
      | none =>
        simp only [List.all_cons, hv, Option.isSome_none, Bool.false_and]
        exact Evt.ctrue rfl .pure
      | some v =>
        simp only [List.map_cons, List.map_nil, hv] at ih
        simp only [List.all_cons, hv, Option.isSome_some, Bool.true_and]
        exact Evt.cfalse rfl (Evt.ctrue (by simp; omega) ih)
  have h0 := key s [] rfl
  simp only [List.map_nil, List.length_nil] at h0
  unfold jaO allO
  cases ha : s.all fun p => (grO (sidesB m lo hi) p).isSome with
  | true => rw [ha] at h0; exact Evt.inr (Evt.diag h0) .pure
  | false => rw [ha] at h0; exact Evt.inl (Evt.diag h0) .pure
end Go.Ev.G

namespace Go.Ev.G
open Go Go.Ev
set_option maxRecDepth 100000

def hfO (i : Iv) : Option (Int × Int) := if (halfD i.1 i.2).2 then some (halfD i.1 i.2).1 else none
def rmO (row : List Iv) : Option Pt := allO hfO (0, 0) row
def miO (J : List (List Iv)) : Option (List Pt) := allO rmO [] J
theorem allO_some {α β : Type} {g : α → Option β} {z : β} {l : List α} {m : List β} (h : allO g z l = some m) : m = l.map (fun x => (g x).getD z) ∧ ∀ x ∈ l, (g x).isSome = true := by
  unfold allO at h
  split at h
  · rename_i ha
    cases h
    exact ⟨rfl, List.all_eq_true.1 ha⟩
  · cases h
theorem allO_len {α β : Type} {g : α → Option β} {z : β} {l : List α} {m : List β} (h : allO g z l = some m) : m.length = l.length := by
  rw [(allO_some h).1, List.length_map]
theorem allO_mem {α β : Type} {g : α → Option β} {z : β} {l : List α} {m : List β} (h : allO g z l = some m) : ∀ y ∈ m, ∃ x ∈ l, g x = some y := by
  obtain ⟨h1, h2⟩ := allO_some h
  subst h1
  intro y hy
  obtain ⟨x, hx, rfl⟩ := List.mem_map.1 hy
  refine ⟨x, hx, ?_⟩
  have := h2 x hx
  cases hg : g x with
  | none => rw [hg] at this; cases this
  | some v => rfl
theorem jaO_ok {s : List (List Tm)} {m : Nat} {lo hi : List Int} (h : NwOk s m lo hi) {J : List (List Iv)} (hJ : jaO (sidesB m lo hi) s = some J) : J.length = lo.length ∧ ∀ r ∈ J, r.length = lo.length ∧ ∀ x ∈ r, ivGd x := by
  refine ⟨by rw [allO_len hJ, h.sl], fun r hr => ?_⟩
  obtain ⟨p, hp, hg⟩ := allO_mem hJ r hr
  refine ⟨by rw [allO_len hg, List.length_range, sidesB_len h], fun x hx => ?_⟩
  obtain ⟨i, _, hv⟩ := allO_mem hg x hx
  exact valO_iv (dV_W (h.po p hp)) hv

theorem nwMiddle_ev {J : List (List Iv)} (hJ : J.length ≤ 3) (hr : ∀ r ∈ J, r.length ≤ 3 ∧ ∀ x ∈ r, ivGd x) : Evt (fun k _ => spec_nwMiddle k J) (oL (miO J)) := by
  refine Evt.eq (f := fun k q => _) ?_ (fun k q => by rw [spec_nwMiddle])
  have inner : ∀ (row : List Iv) (x4 : List Pt) (x12 : List (List Iv)) (x13 x14 : Int), row.length ≤ 3 → (∀ x ∈ row, ivGd x) → ∀ (r d : List Iv), d ++ r = row →
      Evt (fun k n => spec_nwMiddle_L59802 k n x4 (d.map fun i => (hfO i).getD (0, 0)) x12 x13 x14 row (row.length : Int) d.length) (if (r.all fun i => (hfO i).isSome) then .inr (x4, row.map fun i => (hfO i).getD (0, 0), x12, x13, x14, ()) else .inl ([], false)) := by
    intro row x4 x12 x13 x14 hl hg r
    induction r with
    | nil =>
      intro d h
      refine Evt.step (fun k n => spec_nwMiddle_L59802.eq_2 k _ _ _ _ _ _ _ _ n) ?_
      rw [List.append_nil] at h
      subst h
      exact Evt.rng0 .pure
    | cons e r ih =>
      intro d h
      have hxl := congrArg List.length h
      simp at hxl
      have ih := ih (d ++ [e]) (by simpa using h)
      rw [← len_next (r := r) (by rw [h]; simp only [lenB]; omega), List.map_append] at ih
      have he := hg e (by rw [← h]; simp)
      have g : row.getD (Int.toNat (d.length : Int)) ((0, 0), 0, 0) = e := by rw [← h]; exact mid_get
      refine Evt.step (fun k n => spec_nwMiddle_L59802.eq_2 k _ _ _ _ _ _ _ _ n) ?_
      rw [g]
      refine Evt.ctrue (by rw [← h]; exact mid_lt) (Evt.ctrue mid_ge (Evt.ctrue (by rw [← h]; exact mid_lt) (Evt.bind (dyHalf_ev he.1 he.2.1) ?_)))
      cases hh : (halfD e.1 e.2).2 with
      | false =>
        have ho : hfO e = none := by unfold hfO; rw [hh]; rfl
        simp only [List.all_cons, ho, Option.isSome_none, Bool.false_and]
        exact Evt.ctrue rfl .pure
      | true =>
        have ho : hfO e = some (halfD e.1 e.2).1 := by unfold hfO; rw [hh]; rfl
        simp only [List.map_cons, List.map_nil, ho] at ih
        simp only [List.all_cons, ho, Option.isSome_some, Bool.true_and]
        exact Evt.cfalse rfl (Evt.ctrue (by simp; omega) ih)
  have key : ∀ (r d : List (List Iv)), d ++ r = J → Evt (fun k n => spec_nwMiddle_L58 k n (d.map fun r => (rmO r).getD []) J (J.length : Int) d.length) (if (r.all fun r => (rmO r).isSome) then .inr (J.map fun r => (rmO r).getD [], ()) else .inl ([], false)) := by
    intro r
    induction r with
    | nil =>
      intro d h
      refine Evt.step (fun k n => spec_nwMiddle_L58.eq_2 k _ _ _ _ n) ?_
      rw [List.append_nil] at h
      subst h
      exact Evt.rng0 .pure
    | cons e r ih =>
      intro d h
      have hxl := congrArg List.length h
      simp at hxl
      have ih := ih (d ++ [e]) (by simpa using h)
      rw [← len_next (r := r) (by rw [h]; simp only [lenB]; omega), List.map_append] at ih
      obtain ⟨hel, heg⟩ := hr e (by rw [← h]; simp)
      have g : J.getD (Int.toNat (d.length : Int)) [] = e := by rw [← h]; exact mid_get
      refine Evt.step (fun k n => spec_nwMiddle_L58.eq_2 k _ _ _ _ n) ?_
      rw [g]
      have hi := inner e (d.map fun r => (rmO r).getD []) J (J.length : Int) (d.length : Int) hel heg e [] rfl
      simp only [List.map_nil, List.length_nil] at hi
      refine Evt.ctrue (by rw [← h]; exact mid_lt) (Evt.ctrue mid_ge (Evt.ctrue (by rw [← h]; exact mid_lt) ?_))
      cases ha : e.all fun i => (hfO i).isSome with
      | false =>
        have ho : rmO e = none := by unfold rmO allO; rw [ha]; rfl
        rw [ha] at hi
        simp only [List.all_cons, ho, Option.isSome_none, Bool.false_and]
        exact Evt.inl (Evt.diag hi) .pure
      | true =>
        have ho : rmO e = some (e.map fun i => (hfO i).getD (0, 0)) := by unfold rmO allO; rw [ha]; rfl
        rw [ha] at hi
        simp only [List.map_cons, List.map_nil, ho] at ih
        simp only [List.all_cons, ho, Option.isSome_some, Bool.true_and]
        exact Evt.inr (Evt.diag hi) (Evt.ctrue (by simp; omega) ih)
  have h0 := key J [] rfl
  simp only [List.map_nil, List.length_nil] at h0
  unfold miO allO
  cases ha : J.all fun r => (rmO r).isSome with
  | true => rw [ha] at h0; exact Evt.inr (Evt.diag h0) .pure
  | false => rw [ha] at h0; exact Evt.inl (Evt.diag h0) .pure

theorem keep_val (c : Bool) (x : Int × Int) (ok : Bool) : ∃ v, impl_reckoner_keep c x ok = some (v, c && ok) ∧ (c = true → ok = true → v = x) := by
  cases c with
  | false => exact ⟨(0, 0), rfl, fun h => by cases h⟩
  | true =>
    cases ok with
    | false => exact ⟨(0, 0), rfl, fun _ h => by cases h⟩
    | true => exact ⟨x, rfl, fun _ _ => rfl⟩

theorem middleJacobian_ev {s : List (List Tm)} {m : Nat} {lo hi : List Int} (h : NwOk s m lo hi) : Evt (fun k _ => impl_middleJacobian k s ((m : Int), lo, hi)) (oL ((jaO (sidesB m lo hi) s).bind miO)) := by
  refine Evt.eq (f := fun k q => _) ?_ (fun k q => by rw [impl_middleJacobian])
  refine Evt.bind (jacobianOver_ev h) ?_
  cases hj : jaO (sidesB m lo hi) s with
  | none => exact Evt.ctrue rfl .pure
  | some J =>
  obtain ⟨hJ, hr⟩ := jaO_ok h hj
  have hn := h.n1
  refine Evt.cfalse rfl ?_
  simp only [oL, Option.bind_some]
  have inner : ∀ (row : List Iv) (x9 : List Pt) (x25 : List (List Iv)) (x26 x27 : Int), row.length ≤ 3 → (∀ x ∈ row, ivGd x) → ∀ (b0 : Bool) (r d : List Iv) (c : Bool) (o : Pt), d ++ r = row → Flag hfO (0, 0) b0 d c o →
      ∃ c' o', Flag hfO (0, 0) b0 row c' o' ∧ Evt (fun k n => impl_middleJacobian_L518554 k n c x9 o x25 x26 x27 row (row.length : Int) d.length) (.inr (c', x9, o', x25, x26, x27, ())) := by
    intro row x9 x25 x26 x27 hl hg b0 r
    induction r with
    | nil =>
      intro d c o h hf
      rw [List.append_nil] at h
      subst h
      exact ⟨c, o, hf, Evt.step (fun k n => impl_middleJacobian_L518554.eq_2 k _ _ _ _ _ _ _ _ _ n) (Evt.cfalse (by simp) .pure)⟩
    | cons e r ih =>
      intro d c o h hf
      have hxl := congrArg List.length h
      simp at hxl
      have he := hg e (by rw [← h]; simp)
      obtain ⟨v, hv, hvx⟩ := keep_val c (halfD e.1 e.2).1 (halfD e.1 e.2).2
      have e1 : (hfO e).isSome = (halfD e.1 e.2).2 := by unfold hfO; cases (halfD e.1 e.2).2 <;> rfl
      have hst := Flag.step (e := e) (v := v) hf (by
        intro hc hs
        rw [e1] at hs
        rw [hvx hc hs]
        unfold hfO
        rw [if_pos hs])
      rw [e1] at hst
      obtain ⟨c', o', q1, q2⟩ := ih (d ++ [e]) _ _ (by simpa using h) hst
      refine ⟨c', o', q1, Evt.step (fun k n => impl_middleJacobian_L518554.eq_2 k _ _ _ _ _ _ _ _ _ n) ?_⟩
      rw [← len_next (r := r) (by rw [h]; simp only [lenB]; omega)] at q2
      have g : row.getD (Int.toNat (d.length : Int)) ((0, 0), 0, 0) = e := by rw [← h]; exact mid_get
      have hol := hf.1
      rw [g]
      exact Evt.ctrue (by rw [← h]; exact mid_lt) (Evt.ctrue mid_ge (Evt.ctrue (by rw [← h]; exact mid_lt) (Evt.bind (middleOf_ev he.1 he.2.1) (Evt.bind (.const hv) (Evt.ctrue (by simp; omega) q2)))))
  have key : ∀ (r d : List (List Iv)) (c : Bool) (o : List Pt), d ++ r = J → Flag rmO [] true d c o →
      ∃ c' o', Flag rmO [] true J c' o' ∧ Evt (fun k n => impl_middleJacobian_L506 k n c o J (J.length : Int) d.length) (.inr (c', o', ())) := by
    intro r
    induction r with
    | nil =>
      intro d c o h hf
      rw [List.append_nil] at h
      subst h
      exact ⟨c, o, hf, Evt.step (fun k n => impl_middleJacobian_L506.eq_2 k _ _ _ _ _ n) (Evt.cfalse (by simp) .pure)⟩
    | cons e r ih =>
      intro d c o h hf
      have hxl := congrArg List.length h
      simp at hxl
      obtain ⟨hel, heg⟩ := hr e (by rw [← h]; simp)
      obtain ⟨c1, o1, ⟨f1, f2, f3⟩, q0⟩ := inner e o J (J.length : Int) (d.length : Int) (by omega) heg c e [] c [] rfl Flag.nil
      simp only [List.length_nil] at q0
      have hst := Flag.step (e := e) (v := o1) hf (by
        intro hc hs
        subst hc
        unfold rmO allO at hs ⊢
        split at hs
        · rename_i hall
          rw [if_pos hall, ← f3 (by rw [f2, hall]; rfl)]
        · cases hs)
      have e2 : (c && (rmO e).isSome) = c1 := by
        rw [f2]
        unfold rmO allO
        cases e.all fun i => (hfO i).isSome <;> rfl
      rw [e2] at hst
      obtain ⟨c', o', q1, q2⟩ := ih (d ++ [e]) c1 (o ++ [o1]) (by simpa using h) hst
      refine ⟨c', o', q1, Evt.step (fun k n => impl_middleJacobian_L506.eq_2 k _ _ _ _ _ n) ?_⟩
      rw [← len_next (r := r) (by rw [h]; simp only [lenB]; omega)] at q2
      have hol := hf.1
      have g : J.getD (Int.toNat (d.length : Int)) [] = e := by rw [← h]; exact mid_get
      rw [g]
      exact Evt.ctrue (by rw [← h]; exact mid_lt) (Evt.ctrue mid_ge (Evt.ctrue (by rw [← h]; exact mid_lt) (Evt.inr (Evt.diag q0) (Evt.ctrue (by simp; omega) q2))))
  obtain ⟨c', o', ⟨f1, f2, f3⟩, q2⟩ := key J [] true [] rfl Flag.nil
  rw [Bool.true_and] at f2
  simp only [List.length_nil] at q2
  refine Evt.inr (Evt.diag q2) ?_
  unfold miO allO
  rw [← f2]
  cases c' with
  | true => rw [← f3 rfl]; exact Evt.cfalse rfl .pure
  | false => exact Evt.ctrue rfl .pure

def mjV (s : List (List Tm)) (b : Bx) : List Pt × Bool := if nwV s b then oL ((jaO (sidesB b.1.toNat b.2.1 b.2.2) s).bind miO) else ([], false)
theorem spec_middleJacobian_ev {s : List (List Tm)} {b : Bx} (hb : s.length < lenB) (hm : ∀ r ∈ s, r.length < lenB) (hx : b.2.1.length < lenB) : Evt (fun k _ => spec_MiddleJacobian k s b) (mjV s b) := by
  refine Evt.eq (f := fun k q => _) ?_ (fun k q => by rw [spec_MiddleJacobian])
  refine Evt.bind (nwGood_ev hb hm hx) ?_
  unfold mjV
  cases hv : nwV s b with
  | false => exact Evt.ctrue rfl .pure
  | true =>
    obtain ⟨m, hbm, hN⟩ := nwV_form hv
    have e1 : b.1.toNat = m := by rw [hbm]; exact Int.toNat_natCast m
    refine Evt.cfalse rfl ?_
    rw [if_pos rfl, e1]
    have hja := vaJacobian_ev hN
    rw [← hbm] at hja
    refine Evt.bind hja ?_
    cases hj : jaO (sidesB m b.2.1 b.2.2) s with
    | none => exact Evt.ctrue rfl .pure
    | some J =>
      obtain ⟨hJ, hr⟩ := jaO_ok hN hj
      have hn := hN.n1
      exact Evt.cfalse rfl (Evt.bind (nwMiddle_ev (J := J) (by omega) (fun r h => ⟨by have := (hr r h).1; omega, (hr r h).2⟩)) .pure)
theorem impl_middleJacobian_ev {s : List (List Tm)} {b : Bx} (hb : s.length < lenB) (hm : ∀ r ∈ s, r.length < lenB) (hx : b.2.1.length < lenB) : Evt (fun k _ => impl_MiddleJacobian k s b) (mjV s b) := by
  refine Evt.eq (f := fun k q => _) ?_ (fun k q => by rw [impl_MiddleJacobian])
  refine Evt.bind (newtonFits_ev hb hm hx) ?_
  unfold mjV
  cases hv : nwV s b with
  | false => exact Evt.ctrue rfl .pure
  | true =>
    obtain ⟨m, hbm, hN⟩ := nwV_form hv
    have e1 : b.1.toNat = m := by rw [hbm]; exact Int.toNat_natCast m
    have hja := middleJacobian_ev hN
    rw [← hbm] at hja
    rw [if_pos rfl, e1]
    exact Evt.cfalse rfl (Evt.bind hja .pure)

/-- small tables -/
def small3 (t : List Pt) : Prop := t.length ≤ 3 ∧ ∀ r ∈ t, r.length ≤ 3
theorem mjV_small (s : List (List Tm)) (b : Bx) : small3 (mjV s b).1 := by
  unfold mjV
  split
  · rename_i hv
    obtain ⟨m, hbm, hN⟩ := nwV_form hv
    have e1 : b.1.toNat = m := by rw [hbm]; exact Int.toNat_natCast m
    rw [e1]
    cases hj : jaO (sidesB m b.2.1 b.2.2) s with
    | none => exact ⟨by simp [oL], by simp [oL]⟩
    | some J =>
      obtain ⟨hJ, hr⟩ := jaO_ok hN hj
      have hn := hN.n1
      simp only [Option.bind_some]
      cases hm : miO J with
      | none => exact ⟨by simp [oL], by simp [oL]⟩
      | some M =>
        refine ⟨by simp only [oL]; rw [allO_len hm]; omega, fun r h => ?_⟩
        obtain ⟨x, hx, hg⟩ := allO_mem hm r h
        rw [allO_len hg]
        have := (hr x hx).1
        omega
  · exact ⟨by simp, by simp⟩

/-- the frame of what is told as a small table -/
theorem frame_dss {a : List (List Tm)} {b : Bx} {S I : Nat → List (List Tm) → Bx → Option (List Pt × Bool)} {v : List Pt × Bool} (hv : small3 v.1) (ha : a.length ≤ maxLen) (hm : ∀ x ∈ a, x.length ≤ maxLen) (h1 : b.2.1.length ≤ maxLen) (h2 : b.2.2.length ≤ maxLen)
    (hS : a.length < 274877906944 → (∀ r ∈ a, r.length < lenB) → b.2.1.length < lenB → Evt (fun k _ => S k a b) v) (hI : a.length < lenB → (∀ r ∈ a, r.length < lenB) → b.2.1.length < lenB → Evt (fun k _ => I k a b) v) :
    Evt (fun k _ => (Option.bind (laws_szTermSS k a 1000000) fun r1 => (bif (decide (r1 < 0)) then some true else (Option.bind (laws_szBox b r1) fun r2 => (bif (decide (r2 < 0)) then some true else (Option.bind (laws_toTermSS k a false) fun r3 => (Option.bind (laws_toBox k b false) fun r4 => (Option.bind (S k (r3.1.map fun z => z.1) (r4.1, r4.2.1.1, r4.2.2.1)) fun r5 => (Option.bind (laws_toTermSS k a false) fun r6 => (Option.bind (laws_toBox k b false) fun r7 => (Option.bind (I k (r6.1.map fun z => z.1) (r7.1, r7.2.1.1, r7.2.2.1)) fun r8 => (Option.bind (laws_eqDyadicSS k r8.1 r5.1) fun r9 => (bif (!r9) then some false else (bif (!(r8.2 == r5.2)) then some false else (Option.bind (laws_toTermSS k a false) fun r10 => (Option.bind (laws_intactTermSS k r6 r10) fun r11 => (bif (!r11) then some false else (Option.bind (laws_toBox k b false) fun r12 => (Option.bind (laws_intactBox k r7 r12) fun r13 => (bif (!r13) then some false else
      (Option.bind (laws_markTermSS k (r6.1.map fun z => z.1) 101) fun r14 => (Option.bind (laws_markBox k (r7.1, r7.2.1.1, r7.2.2.1) r14.1) fun r15 => (bif (decide (r15 < 0)) then some false else (Option.bind (laws_eqDyadicSS k r8.1 r5.1) fun r16 => (bif (!r16) then some false else (bif (!(r8.2 == r5.2)) then some false else (Option.bind (laws_markDyadicSS k r8.1 101) fun r17 => (Option.bind (laws_heldDyadicSS k r17.2 101) fun r18 => (bif (decide (r18 < 0)) then some false else (bif (r18 != r17.1) then some false else (Option.bind (laws_toTermSS k a true) fun r19 => (Option.bind (laws_toBox k b true) fun r20 => (Option.bind (I k (r19.1.map fun z => z.1) (r20.1, r20.2.1.1, r20.2.2.1)) fun r21 => (Option.bind (laws_eqDyadicSS k r21.1 r5.1) fun r22 => (bif (!r22) then some false else (bif (!(r21.2 == r5.2)) then some false else (Option.bind (laws_heldDyadicSS k r17.2 101) fun r23 => (bif (decide (r23 < 0)) then some false else (bif (r23 != r17.1) then some false else some true))))))))))))))))))))))))))))))))))))))) true := by
  obtain ⟨l1, l2⟩ := hv
  have hrs : (v.1.map fun r => 2 * r.length).sum ≤ 18 := by
    have : ∀ (l : List Pt), (∀ r ∈ l, r.length ≤ 3) → (l.map fun r => 2 * r.length).sum ≤ 6 * l.length := by
      intro l
      induction l with
      | nil => intro _; simp
      | cons x l ih =>
        intro h
        have h1 := h x (by simp)
        have h2 := ih (fun r hr => h r (by simp [hr]))
        simp only [List.map_cons, List.sum_cons, List.length_cons]
        omega
    have := this _ l2
    omega
  obtain ⟨y, hy1, hy2⟩ := markDyadicSS_ev (x := v.1) (a := 101) (by simp only [lenB]; omega) (Nat.lt_of_le_of_lt (Nat.add_le_add_left hrs 101) (by simp only [lenB]; omega))
  have eqs : Evt (fun k _ => laws_eqDyadicSS k v.1 v.1) true := eqDyadicSS_ev (by simp only [lenB]; omega) (fun y hy => by have := l2 y hy; simp only [lenB]; omega)
  exact frame_sbl (S := S) (I := I) (C := fun k r5 r8 x => (Option.bind (laws_eqDyadicSS k r8.1 r5.1) fun r9 => (bif (!r9) then some false else (bif (!(r8.2 == r5.2)) then some false else x)))) (W := Int × List Pt) (M := fun k r8 f => Option.bind (laws_markDyadicSS k r8.1 101) fun r17 => f r17) (H := fun k w x => (Option.bind (laws_heldDyadicSS k w.2 101) fun r18 => (bif (decide (r18 < 0)) then some false else (bif (r18 != w.1) then some false else x)))) (v := v) (w := (((101 + (v.1.map fun r => 2 * r.length).sum : Nat) : Int), y)) ha hm h1 h2
    (fun hf => Evt.bind eqs (Evt.cfalse rfl (Evt.cfalse (by simp) hf))) (fun hf => Evt.bind hy1 hf) (fun hf => Evt.bind hy2 (Evt.cfalse (by simp <;> omega) (Evt.cfalse (by simp) hf))) hS hI
theorem middleJacobian_row (a : List (List Tm)) (b : Bx) (h : WfT (.sl (.sl tTerm)) a) (hb : WfT tBox b) : ∃ k, laws_FnExactMiddleJacobian k a b = some true :=
  Evt.get (Evt.eq (frame_dss (S := fun k a b => spec_MiddleJacobian k a b) (I := fun k a b => impl_MiddleJacobian k a b) (mjV_small a b) h.1 (fun x hx => (h.2 x hx).1) hb.2.1.1 hb.2.2.1
    (fun h1 h2 h3 => spec_middleJacobian_ev (by simp only [lenB]; omega) h2 h3) (fun h1 h2 h3 => impl_middleJacobian_ev h1 h2 h3)) (fun k _ => rfl))
end Go.Ev.G

