/- What the plain functions of the laws compute, for all inputs within the sizes that the theorems name. -/
import Derived.Test.YtdlpejdadikggaaP1
import Derived.Test.YtdlpejdadikggaaPl1
set_option linter.unusedVariables false
namespace Go.Ev.G
open Go Go.Ev
set_option maxRecDepth 100000

theorem room_eq (n : Nat) : laws_roomBehind n = some (roomN n : Int) := by
  unfold laws_roomBehind roomN
  have h6 : Int.tmod (n : Int) 6 = ((n % 6 : Nat) : Int) := rfl
  have h3 : Int.tmod (n : Int) 3 = ((n % 3 : Nat) : Int) := rfl
  rw [h6, h3]
  by_cases h : n % 6 = 5
  · have e : ((((n % 6 : Nat) : Int)) == 5) = true := by rw [h]; rfl
    rw [e, if_pos h]; rfl
  · have e : ((((n % 6 : Nat) : Int)) == 5) = false := by
      rw [beq_eq_false_iff_ne]; omega
    rw [e, if_neg h]
    by_cases h' : n % 3 = 0
    · have e : ((((n % 3 : Nat) : Int)) == 0) = true := by rw [h']; rfl
      rw [e, if_pos h']; rfl
    · have e : ((((n % 3 : Nat) : Int)) == 0) = false := by
        rw [beq_eq_false_iff_ne]; omega
      rw [e, if_neg h']; rfl

theorem room_le (n : Nat) : roomN n ≤ n + 1 := by unfold roomN; split <;> (try split) <;> omega

def fI : Int := -7000000000000000101
def fD : Int × Int := (fI, fI)
def fV : (Int × Int) × Int × Int := (fD, fD)
def fT : Int × Int × Int × Int := (fI, fI, fI, fI)

theorem toIntS_ev {a : List Int} {b : Bool} (ha : a.length ≤ 1000000) : Evt (fun k _ => laws_toIntS k a b) (toV id fI a b) :=
  to_all (dβ := 0) (dγ := 0) (F := fun _ x => some x) (L1 := laws_toIntS_L122) (L2 := laws_toIntS_L250) room_eq (fun _ _ _ _ _ => rfl) (fun _ _ _ _ _ => rfl)
    (fun k => by unfold laws_toIntS; cases b <;> cases a <;> rfl) ha (fun _ _ => .pure)

theorem toDyadicS_ev {a : List (Int × Int)} {b : Bool} (ha : a.length ≤ 1000000) : Evt (fun k _ => laws_toDyadicS k a b) (toV id fD a b) :=
  to_all (dβ := (0, 0)) (dγ := (0, 0)) (F := fun _ x => laws_toDyadic x) (L1 := laws_toDyadicS_L122) (L2 := laws_toDyadicS_L250) room_eq (fun _ _ _ _ _ => rfl) (fun _ _ _ _ _ => rfl)
    (fun k => by unfold laws_toDyadicS; cases b <;> cases a <;> rfl) ha (fun _ _ => .pure)

theorem toIntervalS_ev {a : List ((Int × Int) × Int × Int)} {b : Bool} (ha : a.length ≤ 1000000) : Evt (fun k _ => laws_toIntervalS k a b) (toV id fV a b) :=
  to_all (dβ := ((0, 0), 0, 0)) (dγ := ((0, 0), 0, 0)) (F := fun _ x => laws_toInterval x) (L1 := laws_toIntervalS_L122) (L2 := laws_toIntervalS_L250) room_eq (fun _ _ _ _ _ => rfl) (fun _ _ _ _ _ => rfl)
    (fun k => by unfold laws_toIntervalS; cases b <;> cases a <;> rfl) ha (fun _ _ => .pure)

theorem toTermS_ev {a : List (Int × Int × Int × Int)} {b : Bool} (ha : a.length ≤ 1000000) : Evt (fun k _ => laws_toTermS k a b) (toV id fT a b) :=
  to_all (dβ := (0, 0, 0, 0)) (dγ := (0, 0, 0, 0)) (F := fun _ x => laws_toTerm x) (L1 := laws_toTermS_L122) (L2 := laws_toTermS_L250) room_eq (fun _ _ _ _ _ => rfl) (fun _ _ _ _ _ => rfl)
    (fun k => by unfold laws_toTermS; cases b <;> cases a <;> rfl) ha (fun _ _ => .pure)

theorem toDyadicSS_ev {a : List (List (Int × Int))} {b : Bool} (ha : a.length ≤ 1000000) (hm : ∀ x ∈ a, x.length ≤ 1000000) : Evt (fun k _ => laws_toDyadicSS k a b) (toV (fun x => toV id fD x b) ([fD], []) a b) :=
  to_all (dβ := []) (dγ := ([], [])) (F := fun k x => laws_toDyadicS k x b) (L1 := fun k n x0 x5 x6 => laws_toDyadicSS_L122 k n x0 b x5 x6) (L2 := laws_toDyadicSS_L250) room_eq (fun _ _ _ _ _ => rfl) (fun _ _ _ _ _ => rfl)
    (fun k => by unfold laws_toDyadicSS; cases b <;> cases a <;> rfl) ha (fun x hx => toDyadicS_ev (hm x hx))

theorem toIntervalSS_ev {a : List (List ((Int × Int) × Int × Int))} {b : Bool} (ha : a.length ≤ 1000000) (hm : ∀ x ∈ a, x.length ≤ 1000000) : Evt (fun k _ => laws_toIntervalSS k a b) (toV (fun x => toV id fV x b) ([fV], []) a b) :=
  to_all (dβ := []) (dγ := ([], [])) (F := fun k x => laws_toIntervalS k x b) (L1 := fun k n x0 x5 x6 => laws_toIntervalSS_L122 k n x0 b x5 x6) (L2 := laws_toIntervalSS_L250) room_eq (fun _ _ _ _ _ => rfl) (fun _ _ _ _ _ => rfl)
    (fun k => by unfold laws_toIntervalSS; cases b <;> cases a <;> rfl) ha (fun x hx => toIntervalS_ev (hm x hx))

theorem toTermSS_ev {a : List (List (Int × Int × Int × Int))} {b : Bool} (ha : a.length ≤ 1000000) (hm : ∀ x ∈ a, x.length ≤ 1000000) : Evt (fun k _ => laws_toTermSS k a b) (toV (fun x => toV id fT x b) ([fT], []) a b) :=
  to_all (dβ := []) (dγ := ([], [])) (F := fun k x => laws_toTermS k x b) (L1 := fun k n x0 x5 x6 => laws_toTermSS_L122 k n x0 b x5 x6) (L2 := laws_toTermSS_L250) room_eq (fun _ _ _ _ _ => rfl) (fun _ _ _ _ _ => rfl)
    (fun k => by unfold laws_toTermSS; cases b <;> cases a <;> rfl) ha (fun x hx => toTermS_ev (hm x hx))

/-! Equal lists. -/
theorem eqIntS_ev {x : List Int} (h : x.length < lenB) : Evt (fun k _ => laws_eqIntS k x x) true :=
  eq_all (d0 := 0) (Q := fun _ a b => some (!(a != b))) (L := laws_eqIntS_L58) (E := laws_eqIntS) (fun k n x0 x1 x5 => by simp only [Option.bind_some, Bool.not_not]; rfl) (fun _ _ _ => rfl) h (fun z _ => .const (by simp))
theorem eqDyadic_rfl (x : Int × Int) : laws_eqDyadic x x = some true := by simp [laws_eqDyadic]
theorem eqInterval_rfl (x : (Int × Int) × Int × Int) : laws_eqInterval x x = some true := by simp [laws_eqInterval, eqDyadic_rfl]
theorem eqTerm_rfl (x : Int × Int × Int × Int) : laws_eqTerm x x = some true := by simp [laws_eqTerm]
theorem eqDyadicS_ev {x : List (Int × Int)} (h : x.length < lenB) : Evt (fun k _ => laws_eqDyadicS k x x) true :=
  eq_all (d0 := (0, 0)) (Q := fun _ a b => laws_eqDyadic a b) (L := laws_eqDyadicS_L58) (E := laws_eqDyadicS) (fun k n x0 x1 x5 => rfl) (fun _ _ _ => rfl) h (fun z _ => .const (eqDyadic_rfl z))
theorem eqIntervalS_ev {x : List ((Int × Int) × Int × Int)} (h : x.length < lenB) : Evt (fun k _ => laws_eqIntervalS k x x) true :=
  eq_all (d0 := ((0, 0), 0, 0)) (Q := fun _ a b => laws_eqInterval a b) (L := laws_eqIntervalS_L58) (E := laws_eqIntervalS) (fun k n x0 x1 x5 => rfl) (fun _ _ _ => rfl) h (fun z _ => .const (eqInterval_rfl z))
theorem eqTermS_ev {x : List (Int × Int × Int × Int)} (h : x.length < lenB) : Evt (fun k _ => laws_eqTermS k x x) true :=
  eq_all (d0 := (0, 0, 0, 0)) (Q := fun _ a b => laws_eqTerm a b) (L := laws_eqTermS_L58) (E := laws_eqTermS) (fun k n x0 x1 x5 => rfl) (fun _ _ _ => rfl) h (fun z _ => .const (eqTerm_rfl z))
theorem eqDyadicSS_ev {x : List (List (Int × Int))} (h : x.length < lenB) (hm : ∀ y ∈ x, y.length < lenB) : Evt (fun k _ => laws_eqDyadicSS k x x) true :=
  eq_all (d0 := []) (Q := fun k a b => laws_eqDyadicS k a b) (L := laws_eqDyadicSS_L58) (E := laws_eqDyadicSS) (fun k n x0 x1 x5 => rfl) (fun _ _ _ => rfl) h (fun z hz => eqDyadicS_ev (hm z hz))
theorem eqIntervalSS_ev {x : List (List ((Int × Int) × Int × Int))} (h : x.length < lenB) (hm : ∀ y ∈ x, y.length < lenB) : Evt (fun k _ => laws_eqIntervalSS k x x) true :=
  eq_all (d0 := []) (Q := fun k a b => laws_eqIntervalS k a b) (L := laws_eqIntervalSS_L58) (E := laws_eqIntervalSS) (fun k n x0 x1 x5 => rfl) (fun _ _ _ => rfl) h (fun z hz => eqIntervalS_ev (hm z hz))
theorem eqTermSS_ev {x : List (List (Int × Int × Int × Int))} (h : x.length < lenB) (hm : ∀ y ∈ x, y.length < lenB) : Evt (fun k _ => laws_eqTermSS k x x) true :=
  eq_all (d0 := []) (Q := fun k a b => laws_eqTermS k a b) (L := laws_eqTermSS_L58) (E := laws_eqTermSS) (fun k n x0 x1 x5 => rfl) (fun _ _ _ => rfl) h (fun z hz => eqTermS_ev (hm z hz))


/-! Nothing has been written. -/
def Room {γ : Type} (x : List γ × List γ) : Prop := x.2.length = roomN x.1.length ∧ x.1.length ≤ 1000000

theorem intact_all {γ : Type} {E : Nat → List γ → List γ → Option Bool} {I : Nat → (List γ × List γ) → (List γ × List γ) → Option Bool} {x : List γ × List γ} (hx : Room x)
    (hI : ∀ k a0 a1, I k a0 a1 = (Option.bind (laws_roomBehind (a1.1.length : Int)) fun r1 => (bif ((a0.1.length : Int) == (a1.1.length : Int)) then (bif (decide (0 ≤ (IntKind.wrap .i64 ((a1.1.length : Int) + r1)))) then (bif (decide ((IntKind.wrap .i64 ((a1.1.length : Int) + r1)) ≤ ((a0.1 ++ a0.2).length : Int))) then (bif (decide (0 ≤ (IntKind.wrap .i64 ((a1.1.length : Int) + r1)))) then (bif (decide ((IntKind.wrap .i64 ((a1.1.length : Int) + r1)) ≤ ((a1.1 ++ a1.2).length : Int))) then (Option.bind (E k (((a0.1 ++ a0.2).take (Int.toNat (IntKind.wrap .i64 ((a1.1.length : Int) + r1)))).drop 0) (((a1.1 ++ a1.2).take (Int.toNat (IntKind.wrap .i64 ((a1.1.length : Int) + r1)))).drop 0)) fun r2 => some r2) else none) else none) else none) else none) else some false)))
    (hE : Evt (fun k _ => E k (x.1 ++ x.2) (x.1 ++ x.2)) true) : Evt (fun k _ => I k x x) true := by
  have hr := room_le x.1.length
  have h1 := hx.1
  have h2 := hx.2
  refine Evt.eq ?_ (fun k _ => hI k x x)
  refine Evt.bind (.const (room_eq _)) ?_
  have hw : IntKind.wrap .i64 ((x.1.length : Int) + (roomN x.1.length : Int)) = (((x.1 ++ x.2).length : Nat) : Int) := by
    rw [List.length_append, h1, w64] <;> omega
  rw [hw]
  refine Evt.ctrue (by simp) (Evt.ctrue mid_ge (Evt.ctrue (by simp) (Evt.ctrue mid_ge (Evt.ctrue (by simp) ?_))))
  have e : (((x.1 ++ x.2).length : Nat) : Int).toNat = (x.1 ++ x.2).length := Int.toNat_natCast _
  rw [e, List.take_length, List.drop_zero]
  exact Evt.bind hE .pure

theorem small {γ : Type} {x : List γ × List γ} (hx : Room x) : (x.1 ++ x.2).length < lenB := by
  have hr := room_le x.1.length
  have h1 := hx.1
  have h2 := hx.2
  rw [List.length_append, h1]
  simp only [lenB]
  omega

theorem intactIntS_ev {x : List Int × List Int} (hx : Room x) : Evt (fun k _ => laws_intactIntS k x x) true := intact_all (E := laws_eqIntS) hx (fun _ _ _ => rfl) (eqIntS_ev (small hx))
theorem intactDyadicS_ev {x : List (Int × Int) × List (Int × Int)} (hx : Room x) : Evt (fun k _ => laws_intactDyadicS k x x) true := intact_all (E := laws_eqDyadicS) hx (fun _ _ _ => rfl) (eqDyadicS_ev (small hx))
theorem intactIntervalS_ev {x : List ((Int × Int) × Int × Int) × List ((Int × Int) × Int × Int)} (hx : Room x) : Evt (fun k _ => laws_intactIntervalS k x x) true := intact_all (E := laws_eqIntervalS) hx (fun _ _ _ => rfl) (eqIntervalS_ev (small hx))
theorem intactTermS_ev {x : List (Int × Int × Int × Int) × List (Int × Int × Int × Int)} (hx : Room x) : Evt (fun k _ => laws_intactTermS k x x) true := intact_all (E := laws_eqTermS) hx (fun _ _ _ => rfl) (eqTermS_ev (small hx))

theorem intact_loop {γ : Type} {d0 : γ} {Q : Nat → γ → γ → Option Bool} {x : List γ × List γ} {m : Int} {L : Nat → Nat → Int → Option (Bool ⊕ ((List γ × List γ) × (List γ × List γ) × Int × Unit))}
    (hL : ∀ k n x6, L k (n + 1) x6 = (bif (decide (x6 < (x.1.length : Int))) then (bif (decide (0 ≤ x6)) then (bif (decide (x6 < (x.1.length : Int))) then (bif (decide (0 ≤ x6)) then (bif (decide (x6 < (x.1.length : Int))) then (Option.bind (Q k (x.1.getD (Int.toNat x6) d0) (x.1.getD (Int.toNat x6) d0)) fun r2 => (bif (!r2) then some (Sum.inl false) else (L k n (IntKind.wrap .i64 (x6 + 1))))) else none) else none) else none) else none) else some (Sum.inr (x, x, m, ())))) (hb : x.1.length < lenB) :
    ∀ (r d : List γ), d ++ r = x.1 → (∀ z ∈ r, Evt (fun k _ => Q k z z) true) → Evt (fun k n => L k n d.length) (.inr (x, x, m, ()))
  | [], d, h, _ => by
    refine Evt.step (fun k n => hL k n _) (Evt.cfalse (by rw [← h]; simp) .pure)
  | z :: r, d, h, hQ => by
    refine Evt.step (fun k n => hL k n _) ?_
    rw [← h]
    refine Evt.ctrue mid_lt (Evt.ctrue mid_ge (Evt.ctrue mid_lt (Evt.ctrue mid_ge (Evt.ctrue mid_lt ?_))))
    rw [mid_get]
    refine Evt.bind (hQ z (by simp)) (Evt.cfalse rfl ?_)
    rw [w64_next (by rw [← h] at hb; simp at hb; omega)]
    have := intact_loop hL hb r (d ++ [z]) (by simpa using h) (fun y hy => hQ y (by simp [hy]))
    simpa using this

theorem intact_rows {γ : Type} {d0 : List γ × List γ} {Q : Nat → (List γ × List γ) → (List γ × List γ) → Option Bool} {E : Nat → List (List γ) → List (List γ) → Option Bool} {x : List (List γ × List γ) × List (List γ × List γ)} (hx : Room x) (hm : ∀ y ∈ x.1, Room y)
    {I : Nat → (List (List γ × List γ) × List (List γ × List γ)) → (List (List γ × List γ) × List (List γ × List γ)) → Option Bool}
    {L : Nat → Nat → (List (List γ × List γ) × List (List γ × List γ)) → (List (List γ × List γ) × List (List γ × List γ)) → Int → Int → Option (Bool ⊕ ((List (List γ × List γ) × List (List γ × List γ)) × (List (List γ × List γ) × List (List γ × List γ)) × Int × Unit))}
    (hL : ∀ k n x0 x1 x5 x6, L k (n + 1) x0 x1 x5 x6 = (bif (decide (x6 < (x1.1.length : Int))) then (bif (decide (0 ≤ x6)) then (bif (decide (x6 < (x0.1.length : Int))) then (bif (decide (0 ≤ x6)) then (bif (decide (x6 < (x1.1.length : Int))) then (Option.bind (Q k (x0.1.getD (Int.toNat x6) d0) (x1.1.getD (Int.toNat x6) d0)) fun r2 => (bif (!r2) then some (Sum.inl false) else (L k n x0 x1 x5 (IntKind.wrap .i64 (x6 + 1))))) else none) else none) else none) else none) else some (Sum.inr (x0, x1, x5, ()))))
    (hI : ∀ k a0 a1, I k a0 a1 = (Option.bind (laws_roomBehind (a1.1.length : Int)) fun r1 => (bif ((a0.1.length : Int) != (a1.1.length : Int)) then some false else (both (R := Bool) (P := (List (List γ × List γ) × List (List γ × List γ)) × (List (List γ × List γ) × List (List γ × List γ)) × Int × Unit) (L k k a0 a1 (IntKind.wrap .i64 ((a1.1.length : Int) + r1)) 0) (fun q5 => some q5) (fun y4 => (bif (decide (0 ≤ (y4.2.1.1.length : Int))) then (bif (decide ((y4.2.1.1.length : Int) ≤ y4.2.2.1)) then (bif (decide (y4.2.2.1 ≤ ((y4.1.1 ++ y4.1.2).length : Int))) then (bif (decide (0 ≤ (y4.2.1.1.length : Int))) then (bif (decide ((y4.2.1.1.length : Int) ≤ y4.2.2.1)) then (bif (decide (y4.2.2.1 ≤ ((y4.2.1.1 ++ y4.2.1.2).length : Int))) then (Option.bind (E k ((((y4.1.1 ++ y4.1.2).take (Int.toNat y4.2.2.1)).drop (Int.toNat (y4.2.1.1.length : Int))).map fun z => z.1) ((((y4.2.1.1 ++ y4.2.1.2).take (Int.toNat y4.2.2.1)).drop (Int.toNat (y4.2.1.1.length : Int))).map fun z => z.1)) fun r6 => some r6) else none) else none) else none) else none) else none) else none))))))
    (hQ : ∀ y ∈ x.1, Evt (fun k _ => Q k y y) true) (hE : Evt (fun k _ => E k (x.2.map fun z => z.1) (x.2.map fun z => z.1)) true) : Evt (fun k _ => I k x x) true := by
  have hr := room_le x.1.length
  have h1 := hx.1
  have h2 := hx.2
  refine Evt.eq ?_ (fun k _ => hI k x x)
  refine Evt.bind (.const (room_eq _)) (Evt.cfalse (by simp) ?_)
  have hw : IntKind.wrap .i64 ((x.1.length : Int) + (roomN x.1.length : Int)) = (((x.1 ++ x.2).length : Nat) : Int) := by
    rw [List.length_append, h1, w64] <;> omega
  rw [hw]
  have := intact_loop (L := fun k n x6 => L k n x x (((x.1 ++ x.2).length : Nat) : Int) x6) (fun k n x6 => hL k n x x _ x6) (by simp only [lenB]; omega) x.1 [] rfl hQ
  simp only [List.length_nil] at this
  refine Evt.inr (Evt.diag this) ?_
  refine Evt.ctrue mid_ge (Evt.ctrue (by simp <;> omega) (Evt.ctrue (by simp <;> omega) (Evt.ctrue mid_ge (Evt.ctrue (by simp <;> omega) (Evt.ctrue (by simp <;> omega) ?_)))))
  have e : (((x.1 ++ x.2).length : Nat) : Int).toNat = (x.1 ++ x.2).length := Int.toNat_natCast _
  have e2 : ((x.1.length : Nat) : Int).toNat = x.1.length := Int.toNat_natCast _
  simp only [e, e2, List.take_length, List.drop_left]
  exact Evt.bind hE .pure

theorem intactDyadicSS_ev {x : List (List (Int × Int) × List (Int × Int)) × List (List (Int × Int) × List (Int × Int))} (hx : Room x) (hm : ∀ y ∈ x.1, Room y) (h2 : ∀ y ∈ x.2, y.1.length < lenB) : Evt (fun k _ => laws_intactDyadicSS k x x) true :=
  intact_rows (d0 := ([], [])) (Q := laws_intactDyadicS) (E := laws_eqDyadicSS) (L := laws_intactDyadicSS_L122) hx hm (fun _ _ _ _ _ _ => rfl) (fun _ _ _ => rfl) (fun y hy => intactDyadicS_ev (hm y hy))
    (eqDyadicSS_ev (by have := small hx; simp at this ⊢; omega) (by intro y hy; obtain ⟨z, hz, rfl⟩ := List.mem_map.1 hy; exact h2 z hz))
theorem intactIntervalSS_ev {x : List (List ((Int × Int) × Int × Int) × List ((Int × Int) × Int × Int)) × List (List ((Int × Int) × Int × Int) × List ((Int × Int) × Int × Int))} (hx : Room x) (hm : ∀ y ∈ x.1, Room y) (h2 : ∀ y ∈ x.2, y.1.length < lenB) : Evt (fun k _ => laws_intactIntervalSS k x x) true :=
  intact_rows (d0 := ([], [])) (Q := laws_intactIntervalS) (E := laws_eqIntervalSS) (L := laws_intactIntervalSS_L122) hx hm (fun _ _ _ _ _ _ => rfl) (fun _ _ _ => rfl) (fun y hy => intactIntervalS_ev (hm y hy))
    (eqIntervalSS_ev (by have := small hx; simp at this ⊢; omega) (by intro y hy; obtain ⟨z, hz, rfl⟩ := List.mem_map.1 hy; exact h2 z hz))
theorem intactTermSS_ev {x : List (List (Int × Int × Int × Int) × List (Int × Int × Int × Int)) × List (List (Int × Int × Int × Int) × List (Int × Int × Int × Int))} (hx : Room x) (hm : ∀ y ∈ x.1, Room y) (h2 : ∀ y ∈ x.2, y.1.length < lenB) : Evt (fun k _ => laws_intactTermSS k x x) true :=
  intact_rows (d0 := ([], [])) (Q := laws_intactTermS) (E := laws_eqTermSS) (L := laws_intactTermSS_L122) hx hm (fun _ _ _ _ _ _ => rfl) (fun _ _ _ => rfl) (fun y hy => intactTermS_ev (hm y hy))
    (eqTermSS_ev (by have := small hx; simp at this ⊢; omega) (by intro y hy; obtain ⟨z, hz, rfl⟩ := List.mem_map.1 hy; exact h2 z hz))

theorem room_toV {β γ : Type} {f : β → γ} {v : γ} {a : List β} (h : a.length ≤ 1000000) : Room (toV f v a false) := by
  refine ⟨?_, ?_⟩
  · simp [toV]
  · simp [toV]; exact h

/-! Marks. -/
def heldAny {γ : Type} (c : Nat) : Nat → List γ → Int → Option Int := fun _ x a => some (a + c * x.length)
theorem nat_mul_sub {c a b : Nat} (h : b < a) : c * (a - b) = c + c * (a - (b + 1)) := by
  obtain ⟨m, rfl⟩ : ∃ m, a = b + 1 + m := ⟨a - (b + 1), by omega⟩
  rw [show b + 1 + m - b = m + 1 by omega, show b + 1 + m - (b + 1) = m by omega, Nat.mul_add, Nat.mul_one, Nat.add_comm]

/-- what is marked, nobody looks -/
theorem mark_only {γ : Type} {M : Nat → Nat → List γ → Int → Int → Option ((Int × List γ) ⊕ (Int × List γ × Unit))} {mark : Nat → List γ → Int → Option (Int × List γ)} {mv : Nat → γ} {c : Nat}
    (hc : 0 < c)
    (hM : ∀ (k n : Nat) (d r : List γ) (e : γ) (a : Nat), a + c < lenB → (d ++ e :: r).length < lenB → M k (n + 1) (d ++ e :: r) a d.length = M k n (d ++ mv a :: r) ((a + c : Nat) : Int) ((d.length + 1 : Nat) : Int))
    (hM0 : ∀ (k n : Nat) (d : List γ) (a : Int), M k (n + 1) d a d.length = some (.inr (a, d, ())))
    (hmark : ∀ k x a, mark k x a = both (R := Int × List γ) (P := Int × List γ × Unit) (M k k x a 0) (fun q => some q) (fun y => some (y.1, y.2.1))) :
    MarkOk mark (heldAny c) (fun x => c * x.length) :=
  mark_all (M := M) (H := fun _ _ x a i => some (.inr (a + c * (x.length - i.toNat : Nat), ()))) (mv := mv) hc hM hM0
    (fun k n d r a h1 h2 => by
      have h : d.length < (d ++ mv a :: r).length := by simp
      have := nat_mul_sub (c := c) h
      simp only [Int.toNat_natCast]
      congr 3
      omega)
    (fun k n d a => by simp) hmark (fun k x a => by simp [heldAny, both])

theorem markIntS_only : MarkOk laws_markIntS (heldAny 1) (fun x => 1 * x.length) :=
  mark_only (M := laws_markIntS_L26) (mv := fun a => (a : Int)) (by omega)
    (fun k n d r e a h1 h2 => by
      rw [laws_markIntS_L26]
      rw [mid_lt, mid_ge, mid_set, w64_next (m := d.length) (by simp at h2; omega), w64_next (m := a) (by omega)]
      rfl)
    (fun k n d a => by rw [laws_markIntS_L26, mid_end]; rfl)
    (fun _ _ _ => rfl)

theorem markDyadicS_ok : MarkOk laws_markDyadicS laws_heldDyadicS (fun x => 2 * x.length) :=
  mark_all (M := laws_markDyadicS_L26) (H := laws_heldDyadicS_L26) (mv := fun a => ((a : Int), ((a + 1 : Nat) : Int))) (by omega)
    (fun k n d r e a h1 h2 => by
      rw [laws_markDyadicS_L26]
      simp only [mid_lt, mid_ge, mid_get, mid_set, cond_true]
      rw [w64_next (m := d.length) (by simp at h2; omega), w64_next (m := a) (by omega), w64_next (m := a + 1) (by omega)])
    (fun k n d a => by rw [laws_markDyadicS_L26, mid_end]; rfl)
    (fun k n d r a h1 h2 => by
      rw [laws_heldDyadicS_L26]
      simp only [mid_lt, mid_ge, mid_get, cond_true]
      have e1 : IntKind.wrap .i64 (((a + 1 : Nat) : Int) + 1) = ((a + 2 : Nat) : Int) := w64_next (m := a + 1) (by omega)
      rw [w64_next (m := d.length) (by simp at h2; omega), w64_next (m := a) (by omega), e1]
      simp only [bne_self_eq_false, cond_false])
    (fun k n d a => by rw [laws_heldDyadicS_L26, mid_end]; rfl)
    (fun _ _ _ => rfl) (fun _ _ _ => rfl)

theorem markIntervalS_ok : MarkOk laws_markIntervalS laws_heldIntervalS (fun x => 4 * x.length) :=
  mark_all (M := laws_markIntervalS_L26) (H := laws_heldIntervalS_L26) (mv := fun a => (((a : Int), ((a + 1 : Nat) : Int)), ((a + 2 : Nat) : Int), ((a + 3 : Nat) : Int))) (by omega)
    (fun k n d r e a h1 h2 => by
      rw [laws_markIntervalS_L26]
      simp only [mid_lt, mid_ge, mid_get, mid_set, cond_true]
      rw [w64_next (m := d.length) (by simp at h2; omega), w64_next (m := a) (by omega), w64_next (m := a + 1) (by omega), w64_next (m := a + 2) (by omega), w64_next (m := a + 3) (by omega)])
    (fun k n d a => by rw [laws_markIntervalS_L26, mid_end]; rfl)
    (fun k n d r a h1 h2 => by
      rw [laws_heldIntervalS_L26]
      simp only [mid_lt, mid_ge, mid_get, cond_true]
      have e1 : IntKind.wrap .i64 (((a + 1 : Nat) : Int) + 1) = ((a + 2 : Nat) : Int) := w64_next (m := a + 1) (by omega)
      have e2 : IntKind.wrap .i64 (((a + 2 : Nat) : Int) + 1) = ((a + 3 : Nat) : Int) := w64_next (m := a + 2) (by omega)
      have e3 : IntKind.wrap .i64 (((a + 3 : Nat) : Int) + 1) = ((a + 4 : Nat) : Int) := w64_next (m := a + 3) (by omega)
      rw [w64_next (m := d.length) (by simp at h2; omega), w64_next (m := a) (by omega), e1, e2, e3]
      simp only [bne_self_eq_false, cond_false])
    (fun k n d a => by rw [laws_heldIntervalS_L26, mid_end]; rfl)
    (fun _ _ _ => rfl) (fun _ _ _ => rfl)

/-! Sizes. -/
theorem szIntS_ev {x : List Int} (hx : x.length ≤ maxLen) {a : Nat} (ha : a ≤ 1000000) : laws_szIntS x a = some (if x.length ≤ a then ((a - x.length : Nat) : Int) else -1) := sz_one (fun _ _ => rfl) hx ha
theorem szDyadicSS_ev {x : List (List (Int × Int))} (hx : x.length ≤ maxLen) (hm : ∀ y ∈ x, y.length ≤ maxLen) {a : Nat} (ha : a ≤ 1000000) :
    Evt (fun k _ => laws_szDyadicSS k x a) (if x.length + (x.map List.length).sum ≤ a then ((a - (x.length + (x.map List.length).sum) : Nat) : Int) else -1) :=
  sz_all (sz := laws_szDyadicS) (S := laws_szDyadicSS_L122) (fun _ _ => rfl) (fun _ _ _ _ _ => rfl) (fun _ _ _ => rfl) hx hm ha
theorem szIntervalSS_ev {x : List (List ((Int × Int) × Int × Int))} (hx : x.length ≤ maxLen) (hm : ∀ y ∈ x, y.length ≤ maxLen) {a : Nat} (ha : a ≤ 1000000) :
    Evt (fun k _ => laws_szIntervalSS k x a) (if x.length + (x.map List.length).sum ≤ a then ((a - (x.length + (x.map List.length).sum) : Nat) : Int) else -1) :=
  sz_all (sz := laws_szIntervalS) (S := laws_szIntervalSS_L122) (fun _ _ => rfl) (fun _ _ _ _ _ => rfl) (fun _ _ _ => rfl) hx hm ha
theorem szTermSS_ev {x : List (List (Int × Int × Int × Int))} (hx : x.length ≤ maxLen) (hm : ∀ y ∈ x, y.length ≤ maxLen) {a : Nat} (ha : a ≤ 1000000) :
    Evt (fun k _ => laws_szTermSS k x a) (if x.length + (x.map List.length).sum ≤ a then ((a - (x.length + (x.map List.length).sum) : Nat) : Int) else -1) :=
  sz_all (sz := laws_szTermS) (S := laws_szTermSS_L122) (fun _ _ => rfl) (fun _ _ _ _ _ => rfl) (fun _ _ _ => rfl) hx hm ha
end Go.Ev.G
