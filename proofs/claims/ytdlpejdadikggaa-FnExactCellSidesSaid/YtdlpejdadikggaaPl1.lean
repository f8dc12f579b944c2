/- Lemmas over plain functions with a bound on their rounds: enough rounds give the answer; no condition beyond the theorems' own hypotheses. -/
import Derived.Test.YtdlpejdadikggaaPl0
set_option linter.unusedVariables false
namespace Go.Ev
open Go

/-! The laws' own helpers, by their shapes. -/
def roomN (n : Nat) : Nat := if n % 6 = 5 then 0 else if n % 3 = 0 then 1 else n

/-- a list copied, with room behind it -/
def toV {β γ : Type} (f : β → γ) (v : γ) (a : List β) (b : Bool) : List γ × List γ := if b = true ∧ a = [] then ([], []) else (a.map f, List.replicate (roomN a.length) v)

section
variable {β γ R : Type}

theorem to_loop {dβ : β} {L : Nat → Nat → List β → List γ → Int → Option (R ⊕ (List β × List γ × Unit))} {F : Nat → β → Option γ} {f : β → γ}
    (hL : ∀ k n x0 x5 x6, L k (n + 1) x0 x5 x6 = (bif (decide (x6 < (x0.length : Int))) then (bif (decide (0 ≤ x6)) then (bif (decide (x6 < (x0.length : Int))) then (Option.bind (F k (x0.getD (Int.toNat x6) dβ)) fun r3 => (bif (decide (0 ≤ x6)) then (bif (decide (x6 < (x5.length : Int))) then (L k n x0 (x5.set (Int.toNat x6) r3) (IntKind.wrap .i64 (x6 + 1))) else none) else none)) else none) else none) else some (Sum.inr (x0, x5, ())))) :
    ∀ (r d : List β) (d' r' : List γ), d'.length = d.length → r.length ≤ r'.length → (d ++ r).length < lenB → (∀ x ∈ r, Evt (fun k _ => F k x) (f x)) →
      Evt (fun k n => L k n (d ++ r) (d' ++ r') d.length) (.inr (d ++ r, d' ++ r.map f ++ r'.drop r.length, ()))
  | [], d, d', r', h1, h2, h3, h4 => by
    refine Evt.step (fun k n => hL k n _ _ _) ?_
    simp only [List.append_nil, mid_end, List.map_nil, List.length_nil, List.drop_zero]
    exact Evt.cfalse rfl .pure
  | x :: r, d, d', [], h1, h2, h3, h4 => by simp at h2
  | x :: r, d, d', y :: r', h1, h2, h3, h4 => by
    refine Evt.step (fun k n => hL k n _ _ _) ?_
    refine Evt.ctrue mid_lt (Evt.ctrue mid_ge (Evt.ctrue mid_lt ?_))
    rw [mid_get]
    refine Evt.bind (h4 x (by simp)) (Evt.ctrue mid_ge (Evt.ctrue (by rw [← h1]; exact mid_lt) ?_))
    rw [← h1, mid_set, w64_next (by simp at h3; omega), h1]
    have := to_loop hL r (d ++ [x]) (d' ++ [f x]) r' (by simp [h1]) (by simpa using h2) (by simpa using h3) (fun z hz => h4 z (by simp [hz]))
    simpa using this

theorem fill_loop {x0 : β} {v : γ} {L : Nat → Nat → List γ → Int → Option (R ⊕ (β × List γ × Unit))}
    (hL : ∀ k n x5 x7, L k (n + 1) x5 x7 = (bif (decide (x7 < (x5.length : Int))) then (bif (decide (0 ≤ x7)) then (bif (decide (x7 < (x5.length : Int))) then (L k n (x5.set (Int.toNat x7) v) (IntKind.wrap .i64 (x7 + 1))) else none) else none) else some (Sum.inr (x0, x5, ())))) :
    ∀ (r d : List γ), (d ++ r).length < lenB → Evt (fun k n => L k n (d ++ r) d.length) (.inr (x0, d ++ List.replicate r.length v, ()))
  | [], d, h => by
    refine Evt.step (fun k n => hL k n _ _) ?_
    simp only [List.append_nil, mid_end, List.length_nil, List.replicate_zero]
    exact Evt.cfalse rfl .pure
  | x :: r, d, h => by
    refine Evt.step (fun k n => hL k n _ _) ?_
    refine Evt.ctrue mid_lt (Evt.ctrue mid_ge (Evt.ctrue mid_lt ?_))
    rw [mid_set, w64_next (by simp at h; omega)]
    have := fill_loop hL r (d ++ [v]) (by simpa using h)
    simpa [List.replicate_succ] using this

theorem to_all {dβ : β} {dγ v : γ} {T : Nat → Option (List γ × List γ)} {room : Int → Option Int} {F : Nat → β → Option γ} {f : β → γ} {a : List β} {b : Bool}
    {L1 : Nat → Nat → List β → List γ → Int → Option ((List γ × List γ) ⊕ (List β × List γ × Unit))} {L2 : Nat → Nat → List β → List γ → Int → Option ((List γ × List γ) ⊕ (List β × List γ × Unit))}
    (hroom : ∀ n : Nat, room n = some (roomN n : Int))
    (hL1 : ∀ k n x0 x5 x6, L1 k (n + 1) x0 x5 x6 = (bif (decide (x6 < (x0.length : Int))) then (bif (decide (0 ≤ x6)) then (bif (decide (x6 < (x0.length : Int))) then (Option.bind (F k (x0.getD (Int.toNat x6) dβ)) fun r3 => (bif (decide (0 ≤ x6)) then (bif (decide (x6 < (x5.length : Int))) then (L1 k n x0 (x5.set (Int.toNat x6) r3) (IntKind.wrap .i64 (x6 + 1))) else none) else none)) else none) else none) else some (Sum.inr (x0, x5, ()))))
    (hL2 : ∀ k n x0 x5 x7, L2 k (n + 1) x0 x5 x7 = (bif (decide (x7 < (x5.length : Int))) then (bif (decide (0 ≤ x7)) then (bif (decide (x7 < (x5.length : Int))) then (L2 k n x0 (x5.set (Int.toNat x7) v) (IntKind.wrap .i64 (x7 + 1))) else none) else none) else some (Sum.inr (x0, x5, ()))))
    (hT : ∀ k, T k = (bif b && ((a.length : Int) == 0) then some ([], []) else (Option.bind (room (a.length : Int)) fun r2 => (bif (decide (0 ≤ (IntKind.wrap .i64 ((a.length : Int) + r2)))) then (bif (decide ((IntKind.wrap .i64 ((a.length : Int) + r2)) < 274877906944)) then (both (R := List γ × List γ) (P := List β × List γ × Unit) (L1 k k a (List.replicate (Int.toNat (IntKind.wrap .i64 ((a.length : Int) + r2))) dγ) 0) (fun q5 => some q5) (fun y4 => (both (R := List γ × List γ) (P := List β × List γ × Unit) (L2 k k y4.1 y4.2.1 (y4.1.length : Int)) (fun q8 => some q8) (fun y7 => (bif (decide (0 ≤ (y7.1.length : Int))) then (bif (decide ((y7.1.length : Int) ≤ (y7.2.1.length : Int))) then some ((y7.2.1.take (Int.toNat (y7.1.length : Int))), (y7.2.1.drop (Int.toNat (y7.1.length : Int)))) else none) else none))))) else none) else none))))
    (ha : a.length ≤ 1000000) (hF : ∀ x ∈ a, Evt (fun k _ => F k x) (f x)) : Evt (fun k _ => T k) (toV f v a b) := by
  have hr : roomN a.length ≤ a.length + 1 := by unfold roomN; split <;> (try split) <;> omega
  refine Evt.eq ?_ (fun k n => hT k)
  by_cases hb : b = true ∧ a = []
  · refine Evt.ctrue (by simp [hb.1, hb.2]) ?_
    rw [toV, if_pos hb]
    exact .pure
  · refine Evt.cfalse ?_ ?_
    · cases b with
      | false => rfl
      | true =>
        have : a ≠ [] := fun h => hb ⟨rfl, h⟩
        simp [this]
    rw [toV, if_neg hb]
    refine Evt.bind (.const (hroom _)) ?_
    have hw : IntKind.wrap .i64 ((a.length : Int) + (roomN a.length : Int)) = ((a.length + roomN a.length : Nat) : Int) := by rw [w64] <;> omega
    rw [hw]
    refine Evt.ctrue mid_ge (Evt.ctrue (by simp <;> omega) ?_)
    have h1 := to_loop hL1 a [] [] (List.replicate (Int.toNat ((a.length + roomN a.length : Nat) : Int)) dγ) rfl (by simp <;> omega) (by simp [lenB]; omega) hF
    simp only [List.nil_append, List.length_nil] at h1
    refine Evt.inr (Evt.diag h1) ?_
    have h2 := fill_loop (x0 := a) (L := fun k n => L2 k n a) (fun k n x5 x7 => hL2 k n a x5 x7) (List.drop a.length (List.replicate (Int.toNat ((a.length + roomN a.length : Nat) : Int)) dγ)) (a.map f) (by simp [lenB]; omega)
    simp only [List.length_map] at h2
    refine Evt.inr (Evt.diag h2) ?_
    have e : (((a.length + roomN a.length : Nat) : Int)).toNat = a.length + roomN a.length := by omega
    rw [e]
    refine Evt.ctrue mid_ge (Evt.ctrue (by simp <;> omega) ?_)
    refine Evt.const ?_
    simp

theorem eq_loop {d0 : γ} {Q : Nat → γ → γ → Option Bool} {L : Nat → Nat → List γ → List γ → Int → Option (Bool ⊕ Unit)}
    (hL : ∀ k n x0 x1 x5, L k (n + 1) x0 x1 x5 = (bif (decide (x5 < (x0.length : Int))) then (bif (decide (0 ≤ x5)) then (bif (decide (x5 < (x0.length : Int))) then (bif (decide (0 ≤ x5)) then (bif (decide (x5 < (x1.length : Int))) then (Option.bind (Q k (x0.getD (Int.toNat x5) d0) (x1.getD (Int.toNat x5) d0)) fun r1 => (bif (!r1) then some (Sum.inl false) else (L k n x0 x1 (IntKind.wrap .i64 (x5 + 1))))) else none) else none) else none) else none) else some (Sum.inr ()))) :
    ∀ (r d : List γ), (d ++ r).length < lenB → (∀ x ∈ r, Evt (fun k _ => Q k x x) true) → Evt (fun k n => L k n (d ++ r) (d ++ r) d.length) (.inr ())
  | [], d, h, _ => by
    refine Evt.step (fun k n => hL k n _ _ _) ?_
    simp only [List.append_nil, mid_end]
    exact Evt.cfalse rfl .pure
  | x :: r, d, h, hQ => by
    refine Evt.step (fun k n => hL k n _ _ _) ?_
    refine Evt.ctrue mid_lt (Evt.ctrue mid_ge (Evt.ctrue mid_lt (Evt.ctrue mid_ge (Evt.ctrue mid_lt ?_))))
    rw [mid_get]
    refine Evt.bind (hQ x (by simp)) (Evt.cfalse rfl ?_)
    rw [w64_next (by simp at h; omega)]
    have := eq_loop hL r (d ++ [x]) (by simpa using h) (fun z hz => hQ z (by simp [hz]))
    simpa using this

theorem eq_all {d0 : γ} {Q : Nat → γ → γ → Option Bool} {L : Nat → Nat → List γ → List γ → Int → Option (Bool ⊕ Unit)} {E : Nat → List γ → List γ → Option Bool}
    (hL : ∀ k n x0 x1 x5, L k (n + 1) x0 x1 x5 = (bif (decide (x5 < (x0.length : Int))) then (bif (decide (0 ≤ x5)) then (bif (decide (x5 < (x0.length : Int))) then (bif (decide (0 ≤ x5)) then (bif (decide (x5 < (x1.length : Int))) then (Option.bind (Q k (x0.getD (Int.toNat x5) d0) (x1.getD (Int.toNat x5) d0)) fun r1 => (bif (!r1) then some (Sum.inl false) else (L k n x0 x1 (IntKind.wrap .i64 (x5 + 1))))) else none) else none) else none) else none) else some (Sum.inr ())))
    (hE : ∀ k x0 x1, E k x0 x1 = (bif ((x0.length : Int) != (x1.length : Int)) then some false else (both (R := Bool) (P := Unit) (L k k x0 x1 0) (fun q3 => some q3) (fun _ => some true))))
    {x : List γ} (h : x.length < lenB) (hQ : ∀ z ∈ x, Evt (fun k _ => Q k z z) true) : Evt (fun k _ => E k x x) true := by
  refine Evt.eq ?_ (fun k n => hE k x x)
  refine Evt.cfalse (by simp) ?_
  have := eq_loop hL x [] (by simpa using h) hQ
  simp only [List.nil_append, List.length_nil] at this
  exact Evt.inr (Evt.diag this) .pure

/-- a mark is written and found again -/
def MarkOk (mark : Nat → γ → Int → Option (Int × γ)) (held : Nat → γ → Int → Option Int) (w : γ → Nat) : Prop :=
  ∀ x (a : Nat), a + w x < lenB → ∃ y, Evt (fun k _ => mark k x a) (((a + w x : Nat) : Int), y) ∧ Evt (fun k _ => held k y a) ((a + w x : Nat) : Int) ∧ w y = w x

theorem mark_loop {M : Nat → Nat → List γ → Int → Int → Option ((Int × List γ) ⊕ (Int × List γ × Unit))} {H : Nat → Nat → List γ → Int → Int → Option (Int ⊕ (Int × Unit))} {mv : Nat → γ} {c : Nat}
    (hM : ∀ (k n : Nat) (d r : List γ) (e : γ) (a : Nat), a + c < lenB → (d ++ e :: r).length < lenB → M k (n + 1) (d ++ e :: r) a d.length = M k n (d ++ mv a :: r) ((a + c : Nat) : Int) ((d.length + 1 : Nat) : Int))
    (hM0 : ∀ (k n : Nat) (d : List γ) (a : Int), M k (n + 1) d a d.length = some (.inr (a, d, ())))
    (hH : ∀ (k n : Nat) (d r : List γ) (a : Nat), a + c < lenB → (d ++ mv a :: r).length < lenB → H k (n + 1) (d ++ mv a :: r) a d.length = H k n (d ++ mv a :: r) ((a + c : Nat) : Int) ((d.length + 1 : Nat) : Int))
    (hH0 : ∀ (k n : Nat) (d : List γ) (a : Int), H k (n + 1) d a d.length = some (.inr (a, ()))) :
    ∀ (r d : List γ) (a : Nat), a + c * r.length < lenB → (d ++ r).length < lenB → ∃ y : List γ, y.length = r.length ∧ Evt (fun k n => M k n (d ++ r) a d.length) (.inr (((a + c * r.length : Nat) : Int), d ++ y, ())) ∧
      ∀ d2 : List γ, (d2 ++ y).length < lenB → Evt (fun k n => H k n (d2 ++ y) a d2.length) (.inr (((a + c * r.length : Nat) : Int), ()))
  | [], d, a, _, _ => by
    refine ⟨[], rfl, ?_, fun d2 _ => ?_⟩
    · exact Evt.step (F := fun _ _ => some (.inr (((a + c * ([] : List γ).length : Nat) : Int), d ++ [], ()))) (fun k n => by simpa using hM0 k n d a) .pure
    · exact Evt.step (F := fun _ _ => some (.inr (((a + c * ([] : List γ).length : Nat) : Int), ()))) (fun k n => by simpa using hH0 k n d2 a) .pure
  | e :: r, d, a, ha, hd => by
    have hc : a + c < lenB := by
      have : c ≤ c * (e :: r).length := Nat.le_mul_of_pos_right _ (by simp)
      omega
    have hs : a + c + c * r.length = a + c * (e :: r).length := by simp [Nat.mul_add]; omega
    obtain ⟨y, h1, h2, h3⟩ := mark_loop hM hM0 hH hH0 r (d ++ [mv a]) (a + c) (by omega) (by simpa using hd)
    refine ⟨mv a :: y, by simp [h1], Evt.step (fun k n => hM k n d r e a hc hd) ?_, fun d2 hd2 => Evt.step (fun k n => hH k n d2 y a hc hd2) ?_⟩
    · rw [hs] at h2
      simpa using h2
    · have := h3 (d2 ++ [mv a]) (by simpa using hd2)
      rw [hs] at this
      simpa using this

theorem mark_all {M : Nat → Nat → List γ → Int → Int → Option ((Int × List γ) ⊕ (Int × List γ × Unit))} {H : Nat → Nat → List γ → Int → Int → Option (Int ⊕ (Int × Unit))} {mark : Nat → List γ → Int → Option (Int × List γ)} {held : Nat → List γ → Int → Option Int} {mv : Nat → γ} {c : Nat}
    (hc : 0 < c)
    (hM : ∀ (k n : Nat) (d r : List γ) (e : γ) (a : Nat), a + c < lenB → (d ++ e :: r).length < lenB → M k (n + 1) (d ++ e :: r) a d.length = M k n (d ++ mv a :: r) ((a + c : Nat) : Int) ((d.length + 1 : Nat) : Int))
    (hM0 : ∀ (k n : Nat) (d : List γ) (a : Int), M k (n + 1) d a d.length = some (.inr (a, d, ())))
    (hH : ∀ (k n : Nat) (d r : List γ) (a : Nat), a + c < lenB → (d ++ mv a :: r).length < lenB → H k (n + 1) (d ++ mv a :: r) a d.length = H k n (d ++ mv a :: r) ((a + c : Nat) : Int) ((d.length + 1 : Nat) : Int))
    (hH0 : ∀ (k n : Nat) (d : List γ) (a : Int), H k (n + 1) d a d.length = some (.inr (a, ())))
    (hmark : ∀ k x a, mark k x a = both (R := Int × List γ) (P := Int × List γ × Unit) (M k k x a 0) (fun q => some q) (fun y => some (y.1, y.2.1)))
    (hheld : ∀ k x a, held k x a = both (R := Int) (P := Int × Unit) (H k k x a 0) (fun q => some q) (fun y => some y.1)) :
    MarkOk mark held (fun x => c * x.length) := by
  intro x a ha
  simp only at ha
  have hx : x.length < lenB := Nat.lt_of_le_of_lt (Nat.le_mul_of_pos_left _ hc) (by omega)
  obtain ⟨y, h1, h2, h3⟩ := mark_loop hM hM0 hH hH0 x [] a ha (by simpa using hx)
  refine ⟨y, Evt.eq ?_ (fun k _ => hmark k x a), Evt.eq ?_ (fun k _ => hheld k y a), by simp [h1]⟩
  · simp only [List.nil_append, List.length_nil] at h2
    exact Evt.inr (Evt.diag h2) .pure
  · have := h3 [] (by simp [h1]; exact hx)
    simp only [List.nil_append, List.length_nil] at this
    exact Evt.inr (Evt.diag this) .pure

/-- rows of what is marked -/
theorem mark_rows {d0 : γ} {M : Nat → Nat → List γ → Int → Int → Option ((Int × List γ) ⊕ (Int × List γ × Unit))} {H : Nat → Nat → List γ → Int → Int → Option (Int ⊕ (Int × Unit))} {mark : Nat → γ → Int → Option (Int × γ)} {held : Nat → γ → Int → Option Int} {w : γ → Nat} (hw : MarkOk mark held w)
    (hM : ∀ (k n : Nat) (x : List γ) (a i : Int), M k (n + 1) x a i = (bif (decide (i < (x.length : Int))) then (bif (decide (0 ≤ i)) then (bif (decide (i < (x.length : Int))) then (Option.bind (mark k (x.getD (Int.toNat i) d0) a) fun r => M k n (x.set (Int.toNat i) r.2) r.1 (IntKind.wrap .i64 (i + 1))) else none) else none) else some (.inr (a, x, ()))))
    (hH : ∀ (k n : Nat) (x : List γ) (a i : Int), H k (n + 1) x a i = (bif (decide (i < (x.length : Int))) then (bif (decide (0 ≤ i)) then (bif (decide (i < (x.length : Int))) then (Option.bind (held k (x.getD (Int.toNat i) d0) a) fun r => bif (decide (r < 0)) then some (.inl (-1)) else H k n x r (IntKind.wrap .i64 (i + 1))) else none) else none) else some (.inr (a, ())))) :
    ∀ (r d : List γ) (a : Nat), a + (r.map w).sum < lenB → (d ++ r).length < lenB → ∃ y : List γ, y.length = r.length ∧ y.map w = r.map w ∧ Evt (fun k n => M k n (d ++ r) a d.length) (.inr (((a + (r.map w).sum : Nat) : Int), d ++ y, ())) ∧
      ∀ d2 : List γ, (d2 ++ y).length < lenB → Evt (fun k n => H k n (d2 ++ y) a d2.length) (.inr (((a + (r.map w).sum : Nat) : Int), ()))
  | [], d, a, _, _ => by
    refine ⟨[], rfl, rfl, Evt.step (fun k n => hM k n _ _ _) ?_, fun d2 _ => Evt.step (fun k n => hH k n _ _ _) ?_⟩
    · refine Evt.cfalse (by simp) ?_
      simpa using Evt.pure
    · refine Evt.cfalse (by simp) ?_
      simpa using Evt.pure
  | e :: r, d, a, ha, hd => by
    simp only [List.map_cons, List.sum_cons] at ha
    obtain ⟨y0, m1, m2, m3⟩ := hw e a (by omega)
    obtain ⟨y, h1, h1', h2, h3⟩ := mark_rows hw hM hH r (d ++ [y0]) (a + w e) (by omega) (by simpa using hd)
    have hs : a + w e + (r.map w).sum = a + ((e :: r).map w).sum := by simp <;> omega
    refine ⟨y0 :: y, by simp [h1], by simp [h1', m3], Evt.step (fun k n => hM k n _ _ _) ?_, fun d2 hd2 => Evt.step (fun k n => hH k n _ _ _) ?_⟩
    · refine Evt.ctrue mid_lt (Evt.ctrue mid_ge (Evt.ctrue mid_lt ?_))
      rw [mid_get]
      refine Evt.bind m1 ?_
      rw [mid_set, w64_next (by simp at hd; omega)]
      rw [hs] at h2
      simpa using h2
    · refine Evt.ctrue mid_lt (Evt.ctrue mid_ge (Evt.ctrue mid_lt ?_))
      rw [mid_get]
      refine Evt.bind m2 (Evt.cfalse (by simp <;> omega) ?_)
      rw [w64_next (by simp at hd2; omega)]
      have := h3 (d2 ++ [y0]) (by simpa using hd2)
      rw [hs] at this
      simpa using this

theorem mark_rows_all {d0 : γ} {M : Nat → Nat → List γ → Int → Int → Option ((Int × List γ) ⊕ (Int × List γ × Unit))} {H : Nat → Nat → List γ → Int → Int → Option (Int ⊕ (Int × Unit))} {mark : Nat → γ → Int → Option (Int × γ)} {held : Nat → γ → Int → Option Int} {w : γ → Nat} (hw : MarkOk mark held w)
    {marks : Nat → List γ → Int → Option (Int × List γ)} {helds : Nat → List γ → Int → Option Int}
    (hM : ∀ (k n : Nat) (x : List γ) (a i : Int), M k (n + 1) x a i = (bif (decide (i < (x.length : Int))) then (bif (decide (0 ≤ i)) then (bif (decide (i < (x.length : Int))) then (Option.bind (mark k (x.getD (Int.toNat i) d0) a) fun r => M k n (x.set (Int.toNat i) r.2) r.1 (IntKind.wrap .i64 (i + 1))) else none) else none) else some (.inr (a, x, ()))))
    (hH : ∀ (k n : Nat) (x : List γ) (a i : Int), H k (n + 1) x a i = (bif (decide (i < (x.length : Int))) then (bif (decide (0 ≤ i)) then (bif (decide (i < (x.length : Int))) then (Option.bind (held k (x.getD (Int.toNat i) d0) a) fun r => bif (decide (r < 0)) then some (.inl (-1)) else H k n x r (IntKind.wrap .i64 (i + 1))) else none) else none) else some (.inr (a, ()))))
    (hmark : ∀ k x a, marks k x a = both (R := Int × List γ) (P := Int × List γ × Unit) (M k k x a 0) (fun q => some q) (fun y => some (y.1, y.2.1)))
    (hheld : ∀ k x a, helds k x a = both (R := Int) (P := Int × Unit) (H k k x a 0) (fun q => some q) (fun y => some y.1)) {x : List γ} (hx : x.length < lenB) {a : Nat} (ha : a + (x.map w).sum < lenB) :
    ∃ y, Evt (fun k _ => marks k x a) (((a + (x.map w).sum : Nat) : Int), y) ∧ Evt (fun k _ => helds k y a) ((a + (x.map w).sum : Nat) : Int) := by
  obtain ⟨y, h1, _, h2, h3⟩ := mark_rows hw hM hH x [] a ha (by simpa using hx)
  refine ⟨y, Evt.eq ?_ (fun k _ => hmark k x a), Evt.eq ?_ (fun k _ => hheld k y a)⟩
  · simp only [List.nil_append, List.length_nil] at h2
    exact Evt.inr (Evt.diag h2) .pure
  · have := h3 [] (by simp [h1]; exact hx)
    simp only [List.nil_append, List.length_nil] at this
    exact Evt.inr (Evt.diag this) .pure

/-- the size of a list, taken off what is left -/
theorem sz_rows {d0 : List γ} {S : Nat → Nat → List (List γ) → Int → Int → Option (Int ⊕ (Int × Unit))} {sz : List γ → Int → Option Int}
    (hsz : ∀ x a, sz x a = (bif (decide ((IntKind.wrap .i64 (a - (x.length : Int))) < 0)) then some (-1) else some (IntKind.wrap .i64 (a - (x.length : Int)))))
    (hS : ∀ (k n : Nat) (x : List (List γ)) (a i : Int), S k (n + 1) x a i = (bif (decide (i < (x.length : Int))) then (bif (decide (0 ≤ i)) then (bif (decide (i < (x.length : Int))) then (Option.bind (sz (x.getD (Int.toNat i) d0) a) fun r => bif (decide (r < 0)) then some (.inl (-1)) else S k n x r (IntKind.wrap .i64 (i + 1))) else none) else none) else some (.inr (a, ())))) :
    ∀ (r d : List (List γ)) (a : Nat), a ≤ 1000000 → (d ++ r).length < lenB → (∀ x ∈ r, x.length ≤ maxLen) → Evt (fun k n => S k n (d ++ r) a d.length) (if (r.map List.length).sum ≤ a then .inr (((a - (r.map List.length).sum : Nat) : Int), ()) else .inl (-1))
  | [], d, a, _, _, _ => by
    refine Evt.step (fun k n => hS k n _ _ _) (Evt.cfalse (by simp) ?_)
    simpa using Evt.pure
  | e :: r, d, a, ha, hd, hm => by
    refine Evt.step (fun k n => hS k n _ _ _) ?_
    refine Evt.ctrue mid_lt (Evt.ctrue mid_ge (Evt.ctrue mid_lt ?_))
    rw [mid_get]
    have hme := hm e (by simp)
    simp only [maxLen] at hme
    have hw : IntKind.wrap .i64 ((a : Int) - (e.length : Int)) = (a : Int) - (e.length : Int) := by rw [w64] <;> omega
    by_cases hle : e.length ≤ a
    · have h1 : sz e a = some (((a - e.length : Nat) : Int)) := by
        rw [hsz, hw]
        have : decide ((a : Int) - (e.length : Int) < 0) = false := by simp <;> omega
        rw [this]
        simp only [cond_false]
        congr 1
        omega
      refine Evt.bind (.const h1) (Evt.cfalse (by simp <;> omega) ?_)
      rw [w64_next (by simp at hd; omega)]
      have := sz_rows hsz hS r (d ++ [e]) (a - e.length) (by omega) (by simpa using hd) (fun x hx => hm x (by simp [hx]))
      simp only [List.map_cons, List.sum_cons]
      have hiff : ((r.map List.length).sum ≤ a - e.length) ↔ (e.length + (r.map List.length).sum ≤ a) := by omega
      rw [show a - (e.length + (r.map List.length).sum) = a - e.length - (r.map List.length).sum by omega]
      simp only [hiff] at this
      simpa using this
    · have h1 : sz e a = some (-1) := by
        rw [hsz, hw]
        have : decide ((a : Int) - (e.length : Int) < 0) = true := by simp <;> omega
        rw [this]
        rfl
      refine Evt.bind (.const h1) (Evt.ctrue rfl ?_)
      rw [if_neg (by simp <;> omega)]
      exact .pure

theorem sz_one {sz : List γ → Int → Option Int}
    (hsz : ∀ x a, sz x a = (bif (decide ((IntKind.wrap .i64 (a - (x.length : Int))) < 0)) then some (-1) else some (IntKind.wrap .i64 (a - (x.length : Int))))) {x : List γ} (hx : x.length ≤ maxLen) {a : Nat} (ha : a ≤ 1000000) :
    sz x a = some (if x.length ≤ a then ((a - x.length : Nat) : Int) else -1) := by
  simp only [maxLen] at hx
  have hw : IntKind.wrap .i64 ((a : Int) - (x.length : Int)) = (a : Int) - (x.length : Int) := by rw [w64] <;> omega
  rw [hsz, hw]
  by_cases h : x.length ≤ a
  · have : decide ((a : Int) - (x.length : Int) < 0) = false := by simp <;> omega
    rw [this, if_pos h]
    simp only [cond_false]
    congr 1
    omega
  · have : decide ((a : Int) - (x.length : Int) < 0) = true := by simp <;> omega
    rw [this, if_neg h]
    rfl

theorem sz_all {d0 : List γ} {S : Nat → Nat → List (List γ) → Int → Int → Option (Int ⊕ (Int × Unit))} {sz : List γ → Int → Option Int} {szs : Nat → List (List γ) → Int → Option Int}
    (hsz : ∀ x a, sz x a = (bif (decide ((IntKind.wrap .i64 (a - (x.length : Int))) < 0)) then some (-1) else some (IntKind.wrap .i64 (a - (x.length : Int)))))
    (hS : ∀ (k n : Nat) (x : List (List γ)) (a i : Int), S k (n + 1) x a i = (bif (decide (i < (x.length : Int))) then (bif (decide (0 ≤ i)) then (bif (decide (i < (x.length : Int))) then (Option.bind (sz (x.getD (Int.toNat i) d0) a) fun r => bif (decide (r < 0)) then some (.inl (-1)) else S k n x r (IntKind.wrap .i64 (i + 1))) else none) else none) else some (.inr (a, ()))))
    (hszs : ∀ k x a, szs k x a = (bif (decide ((IntKind.wrap .i64 (a - (x.length : Int))) < 0)) then some (-1) else (both (R := Int) (P := Int × Unit) (S k k x (IntKind.wrap .i64 (a - (x.length : Int))) 0) (fun q4 => some q4) (fun y3 => some y3.1))))
    {x : List (List γ)} (hx : x.length ≤ maxLen) (hm : ∀ y ∈ x, y.length ≤ maxLen) {a : Nat} (ha : a ≤ 1000000) :
    Evt (fun k _ => szs k x a) (if x.length + (x.map List.length).sum ≤ a then ((a - (x.length + (x.map List.length).sum) : Nat) : Int) else -1) := by
  simp only [maxLen] at hx
  have hw : IntKind.wrap .i64 ((a : Int) - (x.length : Int)) = (a : Int) - (x.length : Int) := by rw [w64] <;> omega
  refine Evt.eq ?_ (fun k _ => hszs k x a)
  rw [hw]
  by_cases h : x.length ≤ a
  · refine Evt.cfalse (by simp <;> omega) ?_
    have e : (a : Int) - (x.length : Int) = ((a - x.length : Nat) : Int) := by omega
    rw [e]
    have := sz_rows hsz hS x [] (a - x.length) (by omega) (by simp [lenB]; omega) hm
    simp only [List.nil_append, List.length_nil] at this
    by_cases h2 : (x.map List.length).sum ≤ a - x.length
    · rw [if_pos h2] at this
      rw [if_pos (by omega)]
      refine Evt.inr (Evt.diag this) (.const ?_)
      simp only
      congr 2
      omega
    · rw [if_neg h2] at this
      rw [if_neg (by omega)]
      exact Evt.inl (Evt.diag this) .pure
  · rw [if_neg (by omega)]
    exact Evt.ctrue (by simp <;> omega) .pure
end
end Go.Ev
