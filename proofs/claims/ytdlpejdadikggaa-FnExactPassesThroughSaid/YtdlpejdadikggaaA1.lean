/- What the plain functions of the laws compute, for all inputs within the sizes that the theorems name. -/
import Derived.Test.YtdlpejdadikggaaE3
import Derived.IntWalk
import Derived.Laws.Bits64
import Derived.Test.YtdlpejdadikggaaP1
set_option linter.unusedVariables false
namespace Go.Ev
open Go

/-! Plain laws: what the plain functions tell, with rounds enough. -/
def Evt {α : Type} (f : Nat → Nat → Option α) (r : α) : Prop := ∃ k0, ∀ k n, k0 ≤ k → k0 ≤ n → f k n = some r

section
variable {α β γ δ : Type}

theorem Evt.const {o : Option α} {r : α} (h : o = some r) : Evt (fun _ _ => o) r := ⟨0, fun _ _ _ _ => h⟩
theorem Evt.pure {r : α} : Evt (fun _ _ => some r) r := ⟨0, fun _ _ _ _ => rfl⟩
theorem Evt.bind {f : Nat → Nat → Option α} {g : Nat → Nat → α → Option β} {a : α} {r : β} (h : Evt f a) (h' : Evt (fun k n => g k n a) r) : Evt (fun k n => Option.bind (f k n) fun x => g k n x) r := by
  obtain ⟨k1, h1⟩ := h
  obtain ⟨k2, h2⟩ := h'
  refine ⟨max k1 k2, fun k n hk hn => ?_⟩
  exact (congrArg (fun o => Option.bind o fun x => g k n x) (h1 k n (by omega) (by omega))).trans (h2 k n (by omega) (by omega))
theorem Evt.inr {R P A : Type} {f : Nat → Nat → Option (R ⊕ P)} {G : Nat → Nat → R → Option A} {K : Nat → Nat → P → Option A} {y : P} {r : A} (h : Evt f (.inr y)) (h' : Evt (fun k n => K k n y) r) : Evt (fun k n => both (f k n) (G k n) (K k n)) r := by
  obtain ⟨k1, h1⟩ := h
  obtain ⟨k2, h2⟩ := h'
  refine ⟨max k1 k2, fun k n hk hn => ?_⟩
  exact (congrArg (fun o => both o (G k n) (K k n)) (h1 k n (by omega) (by omega))).trans (h2 k n (by omega) (by omega))
theorem Evt.inl {R P A : Type} {f : Nat → Nat → Option (R ⊕ P)} {G : Nat → Nat → R → Option A} {K : Nat → Nat → P → Option A} {q : R} {r : A} (h : Evt f (.inl q)) (h' : Evt (fun k n => G k n q) r) : Evt (fun k n => both (f k n) (G k n) (K k n)) r := by
  obtain ⟨k1, h1⟩ := h
  obtain ⟨k2, h2⟩ := h'
  refine ⟨max k1 k2, fun k n hk hn => ?_⟩
  exact (congrArg (fun o => both o (G k n) (K k n)) (h1 k n (by omega) (by omega))).trans (h2 k n (by omega) (by omega))
theorem Evt.ctrue {c : Bool} {f g : Nat → Nat → Option α} {r : α} (hc : c = true) (h : Evt f r) : Evt (fun k n => bif c then f k n else g k n) r := by subst hc; exact h
theorem Evt.cfalse {c : Bool} {f g : Nat → Nat → Option α} {r : α} (hc : c = false) (h : Evt g r) : Evt (fun k n => bif c then f k n else g k n) r := by subst hc; exact h
theorem Evt.ite {c : Bool} {f g : Nat → Nat → Option α} {r : α} (h : c = true → Evt f r) (h' : c = false → Evt g r) : Evt (fun k n => bif c then f k n else g k n) r := by
  cases c with
  | true => exact h rfl
  | false => exact h' rfl
/-- a loop, begun with the rounds there are -/
theorem Evt.diag {f : Nat → Nat → Option α} {r : α} (h : Evt f r) : Evt (fun k _ => f k k) r := by
  obtain ⟨k1, h1⟩ := h
  exact ⟨k1, fun k n hk _ => h1 k k hk hk⟩
theorem Evt.step {L F : Nat → Nat → Option α} {r : α} (hL : ∀ k n, L k (n + 1) = F k n) (h : Evt F r) : Evt L r := by
  obtain ⟨k1, h1⟩ := h
  refine ⟨k1 + 1, fun k n hk hn => ?_⟩
  obtain ⟨m, rfl⟩ : ∃ m, n = m + 1 := ⟨n - 1, by omega⟩
  rw [hL]
  exact h1 k m (by omega) (by omega)
theorem Evt.eq {f g : Nat → Nat → Option α} {r : α} (h : Evt f r) (e : ∀ k n, g k n = f k n) : Evt g r := by
  obtain ⟨k1, h1⟩ := h
  exact ⟨k1, fun k n hk hn => by rw [e]; exact h1 k n hk hn⟩
theorem Evt.get {f : Nat → Option α} {r : α} (h : Evt (fun k _ => f k) r) : ∃ k, f k = some r := by
  obtain ⟨k1, h1⟩ := h
  exact ⟨k1, h1 k1 k1 (Nat.le_refl _) (Nat.le_refl _)⟩
theorem Evt.uniq {f : Nat → Nat → Option α} {r r' : α} (h : Evt f r) (h' : Evt f r') : r = r' := by
  obtain ⟨k1, h1⟩ := h
  obtain ⟨k2, h2⟩ := h'
  have a := h1 (max k1 k2) (max k1 k2) (by omega) (by omega)
  have b := h2 (max k1 k2) (max k1 k2) (by omega) (by omega)
  rw [a] at b
  exact Option.some.inj b
end

/-! Numbers. -/
def lenB : Nat := 4611686018427387904
theorem w64 {n : Int} (h0 : -9223372036854775808 ≤ n) (h1 : n ≤ 9223372036854775807) : IntKind.wrap .i64 n = n := by rw [IntKind.wrap_i64]; omega
theorem w64_next {m : Nat} (h : m < lenB) : IntKind.wrap .i64 ((m : Int) + 1) = ((m + 1 : Nat) : Int) := by
  simp only [lenB] at h
  rw [w64] <;> omega
theorem wu64 {n : Int} (h0 : 0 ≤ n) (h1 : n ≤ 18446744073709551615) : IntKind.wrap .u64 n = n := by
  rw [IntKind.wrap_u64]; omega

/-! A list with a place in it. -/
section
variable {α : Type}
theorem mid_lt {d r : List α} {e : α} : decide ((d.length : Int) < ((d ++ e :: r).length : Int)) = true := by simp; omega
theorem mid_ge {m : Nat} : decide ((0 : Int) ≤ (m : Int)) = true := by simp
theorem mid_get {d r : List α} {e z : α} : (d ++ e :: r).getD (Int.toNat (d.length : Int)) z = e := by simp
theorem mid_set {d r : List α} {e v : α} : (d ++ e :: r).set (Int.toNat (d.length : Int)) v = d ++ v :: r := by simp
theorem mid_end {d : List α} : decide ((d.length : Int) < (d.length : Int)) = false := by simp
end
end Go.Ev
namespace Go.Ev
open Go

/-! The laws' own helpers, by their shapes. -/
def roomN (n : Nat) : Nat := if n % 6 = 5 then 0 else if n % 3 = 0 then 1 else n

/-- a list copied, with room behind it -/
def toV {β γ : Type} (f : β → γ) (v : γ) (a : List β) (b : Bool) : List γ × List γ := if b = true ∧ a = [] then ([], []) else (a.map f, List.replicate (roomN a.length) v)

section
variable {β γ R : Type}

theorem to_loop {dβ : β} {L : Nat → Nat → List β → List γ → Int → Option (R ⊕ (List β × List γ × Unit))} {F : Nat → β → Option γ} {f : β → γ}
    (hL : ∀ k n x0 x5 x6, L k (n + 1) x0 x5 x6 = (bif (decide (x6 < (x0.length : Int))) then (bif (decide (0 ≤ x6)) then (bif (decide (x6 < (x0.length : Int))) then (Option.bind (F k (x0.getD (Int.toNat x6) dβ)) fun r3 => (bif (decide (0 ≤ x6)) then (bif (decide (x6 < (x5.length : Int))) then (L k n x0 (x5.set (Int.toNat x6) r3) (IntKind.wrap .i64 (x6 + 1))) else none) else none)) else none) else none) else some (Sum.inr (x0, x5, ())))) :
    ∀ (r d : List β) (d' r' : List γ), d'.length = d.length → r.length ≤ r'.length → (d ++ r).length < lenB → (∀ x ∈ r, Evt (fun k _ => F k x) (f x)) →
      Evt (fun k n => L k n (d ++ r) (d' ++ r') d.length) (.inr (d ++ r, d' ++ r.map f ++ r'.drop r.length, ()))
  | [], d, d', r', h1, h2, h3, h4 => by
    refine Evt.step (fun k n => hL k n _ _ _) ?_
    simp only [List.append_nil, mid_end, List.map_nil, List.length_nil, List.drop_zero]
    exact Evt.cfalse rfl .pure
  | x :: r, d, d', [], h1, h2, h3, h4 => by simp at h2
  | x :: r, d, d', y :: r', h1, h2, h3, h4 => by
    refine Evt.step (fun k n => hL k n _ _ _) ?_
    refine Evt.ctrue mid_lt (Evt.ctrue mid_ge (Evt.ctrue mid_lt ?_))
    rw [mid_get]
    refine Evt.bind (h4 x (by simp)) (Evt.ctrue mid_ge (Evt.ctrue (by rw [← h1]; exact mid_lt) ?_))
    rw [← h1, mid_set, w64_next (by simp at h3; omega), h1]
    have := to_loop hL r (d ++ [x]) (d' ++ [f x]) r' (by simp [h1]) (by simpa using h2) (by simpa using h3) (fun z hz => h4 z (by simp [hz]))
    simpa using this

theorem fill_loop {x0 : β} {v : γ} {L : Nat → Nat → List γ → Int → Option (R ⊕ (β × List γ × Unit))}
    (hL : ∀ k n x5 x7, L k (n + 1) x5 x7 = (bif (decide (x7 < (x5.length : Int))) then (bif (decide (0 ≤ x7)) then (bif (decide (x7 < (x5.length : Int))) then (L k n (x5.set (Int.toNat x7) v) (IntKind.wrap .i64 (x7 + 1))) else none) else none) else some (Sum.inr (x0, x5, ())))) :
    ∀ (r d : List γ), (d ++ r).length < lenB → Evt (fun k n => L k n (d ++ r) d.length) (.inr (x0, d ++ List.replicate r.length v, ()))
  | [], d, h => by
    refine Evt.step (fun k n => hL k n _ _) ?_
    simp only [List.append_nil, mid_end, List.length_nil, List.replicate_zero]
    exact Evt.cfalse rfl .pure
  | x :: r, d, h => by
    refine Evt.step (fun k n => hL k n _ _) ?_
    refine Evt.ctrue mid_lt (Evt.ctrue mid_ge (Evt.ctrue mid_lt ?_))
    rw [mid_set, w64_next (by simp at h; omega)]
    have := fill_loop hL r (d ++ [v]) (by simpa using h)
    simpa [List.replicate_succ] using this

theorem to_all {dβ : β} {dγ v : γ} {T : Nat → Option (List γ × List γ)} {room : Int → Option Int} {F : Nat → β → Option γ} {f : β → γ} {a : List β} {b : Bool}
    {L1 : Nat → Nat → List β → List γ → Int → Option ((List γ × List γ) ⊕ (List β × List γ × Unit))} {L2 : Nat → Nat → List β → List γ → Int → Option ((List γ × List γ) ⊕ (List β × List γ × Unit))}
    (hroom : ∀ n : Nat, room n = some (roomN n : Int))
    (hL1 : ∀ k n x0 x5 x6, L1 k (n + 1) x0 x5 x6 = (bif (decide (x6 < (x0.length : Int))) then (bif (decide (0 ≤ x6)) then (bif (decide (x6 < (x0.length : Int))) then (Option.bind (F k (x0.getD (Int.toNat x6) dβ)) fun r3 => (bif (decide (0 ≤ x6)) then (bif (decide (x6 < (x5.length : Int))) then (L1 k n x0 (x5.set (Int.toNat x6) r3) (IntKind.wrap .i64 (x6 + 1))) else none) else none)) else none) else none) else some (Sum.inr (x0, x5, ()))))
    (hL2 : ∀ k n x0 x5 x7, L2 k (n + 1) x0 x5 x7 = (bif (decide (x7 < (x5.length : Int))) then (bif (decide (0 ≤ x7)) then (bif (decide (x7 < (x5.length : Int))) then (L2 k n x0 (x5.set (Int.toNat x7) v) (IntKind.wrap .i64 (x7 + 1))) else none) else none) else some (Sum.inr (x0, x5, ()))))
    (hT : ∀ k, T k = (bif b && ((a.length : Int) == 0) then some ([], []) else (Option.bind (room (a.length : Int)) fun r2 => (bif (decide (0 ≤ (IntKind.wrap .i64 ((a.length : Int) + r2)))) then (bif (decide ((IntKind.wrap .i64 ((a.length : Int) + r2)) < 274877906944)) then (both (R := List γ × List γ) (P := List β × List γ × Unit) (L1 k k a (List.replicate (Int.toNat (IntKind.wrap .i64 ((a.length : Int) + r2))) dγ) 0) (fun q5 => some q5) (fun y4 => (both (R := List γ × List γ) (P := List β × List γ × Unit) (L2 k k y4.1 y4.2.1 (y4.1.length : Int)) (fun q8 => some q8) (fun y7 => (bif (decide (0 ≤ (y7.1.length : Int))) then (bif (decide ((y7.1.length : Int) ≤ (y7.2.1.length : Int))) then some ((y7.2.1.take (Int.toNat (y7.1.length : Int))), (y7.2.1.drop (Int.toNat (y7.1.length : Int)))) else none) else none))))) else none) else none))))
    (ha : a.length ≤ 1000000) (hF : ∀ x ∈ a, Evt (fun k _ => F k x) (f x)) : Evt (fun k _ => T k) (toV f v a b) := by
  have hr : roomN a.length ≤ a.length + 1 := by unfold roomN; split <;> (try split) <;> omega
  refine Evt.eq ?_ (fun k n => hT k)
  by_cases hb : b = true ∧ a = []
  · refine Evt.ctrue (by simp [hb.1, hb.2]) ?_
    rw [toV, if_pos hb]
    exact .pure
  · refine Evt.cfalse ?_ ?_
    · cases b with
      | false => rfl
      | true =>
        have : a ≠ [] := fun h => hb ⟨rfl, h⟩
        simp [this]
    rw [toV, if_neg hb]
    refine Evt.bind (.const (hroom _)) ?_
    have hw : IntKind.wrap .i64 ((a.length : Int) + (roomN a.length : Int)) = ((a.length + roomN a.length : Nat) : Int) := by rw [w64] <;> omega
    rw [hw]
    refine Evt.ctrue mid_ge (Evt.ctrue (by simp <;> omega) ?_)
    have h1 := to_loop hL1 a [] [] (List.replicate (Int.toNat ((a.length + roomN a.length : Nat) : Int)) dγ) rfl (by simp <;> omega) (by simp [lenB]; omega) hF
    simp only [List.nil_append, List.length_nil] at h1
    refine Evt.inr (Evt.diag h1) ?_
    have h2 := fill_loop (x0 := a) (L := fun k n => L2 k n a) (fun k n x5 x7 => hL2 k n a x5 x7) (List.drop a.length (List.replicate (Int.toNat ((a.length + roomN a.length : Nat) : Int)) dγ)) (a.map f) (by simp [lenB]; omega)
    simp only [List.length_map] at h2
    refine Evt.inr (Evt.diag h2) ?_
    have e : (((a.length + roomN a.length : Nat) : Int)).toNat = a.length + roomN a.length := by omega
    rw [e]
    refine Evt.ctrue mid_ge (Evt.ctrue (by simp <;> omega) ?_)
    refine Evt.const ?_
    simp

theorem eq_loop {d0 : γ} {Q : Nat → γ → γ → Option Bool} {L : Nat → Nat → List γ → List γ → Int → Option (Bool ⊕ Unit)}
    (hL : ∀ k n x0 x1 x5, L k (n + 1) x0 x1 x5 = (bif (decide (x5 < (x0.length : Int))) then (bif (decide (0 ≤ x5)) then (bif (decide (x5 < (x0.length : Int))) then (bif (decide (0 ≤ x5)) then (bif (decide (x5 < (x1.length : Int))) then (Option.bind (Q k (x0.getD (Int.toNat x5) d0) (x1.getD (Int.toNat x5) d0)) fun r1 => (bif (!r1) then some (Sum.inl false) else (L k n x0 x1 (IntKind.wrap .i64 (x5 + 1))))) else none) else none) else none) else none) else some (Sum.inr ()))) :
    ∀ (r d : List γ), (d ++ r).length < lenB → (∀ x ∈ r, Evt (fun k _ => Q k x x) true) → Evt (fun k n => L k n (d ++ r) (d ++ r) d.length) (.inr ())
  | [], d, h, _ => by
    refine Evt.step (fun k n => hL k n _ _ _) ?_
    simp only [List.append_nil, mid_end]
    exact Evt.cfalse rfl .pure
  | x :: r, d, h, hQ => by
    refine Evt.step (fun k n => hL k n _ _ _) ?_
    refine Evt.ctrue mid_lt (Evt.ctrue mid_ge (Evt.ctrue mid_lt (Evt.ctrue mid_ge (Evt.ctrue mid_lt ?_))))
    rw [mid_get]
    refine Evt.bind (hQ x (by simp)) (Evt.cfalse rfl ?_)
    rw [w64_next (by simp at h; omega)]
    have := eq_loop hL r (d ++ [x]) (by simpa using h) (fun z hz => hQ z (by simp [hz]))
    simpa using this

theorem eq_all {d0 : γ} {Q : Nat → γ → γ → Option Bool} {L : Nat → Nat → List γ → List γ → Int → Option (Bool ⊕ Unit)} {E : Nat → List γ → List γ → Option Bool}
    (hL : ∀ k n x0 x1 x5, L k (n + 1) x0 x1 x5 = (bif (decide (x5 < (x0.length : Int))) then (bif (decide (0 ≤ x5)) then (bif (decide (x5 < (x0.length : Int))) then (bif (decide (0 ≤ x5)) then (bif (decide (x5 < (x1.length : Int))) then (Option.bind (Q k (x0.getD (Int.toNat x5) d0) (x1.getD (Int.toNat x5) d0)) fun r1 => (bif (!r1) then some (Sum.inl false) else (L k n x0 x1 (IntKind.wrap .i64 (x5 + 1))))) else none) else none) else none) else none) else some (Sum.inr ())))
    (hE : ∀ k x0 x1, E k x0 x1 = (bif ((x0.length : Int) != (x1.length : Int)) then some false else (both (R := Bool) (P := Unit) (L k k x0 x1 0) (fun q3 => some q3) (fun _ => some true))))
    {x : List γ} (h : x.length < lenB) (hQ : ∀ z ∈ x, Evt (fun k _ => Q k z z) true) : Evt (fun k _ => E k x x) true := by
  refine Evt.eq ?_ (fun k n => hE k x x)
  refine Evt.cfalse (by simp) ?_
  have := eq_loop hL x [] (by simpa using h) hQ
  simp only [List.nil_append, List.length_nil] at this
  exact Evt.inr (Evt.diag this) .pure

/-- a mark is written and found again -/
def MarkOk (mark : Nat → γ → Int → Option (Int × γ)) (held : Nat → γ → Int → Option Int) (w : γ → Nat) : Prop :=
  ∀ x (a : Nat), a + w x < lenB → ∃ y, Evt (fun k _ => mark k x a) (((a + w x : Nat) : Int), y) ∧ Evt (fun k _ => held k y a) ((a + w x : Nat) : Int) ∧ w y = w x

theorem mark_loop {M : Nat → Nat → List γ → Int → Int → Option ((Int × List γ) ⊕ (Int × List γ × Unit))} {H : Nat → Nat → List γ → Int → Int → Option (Int ⊕ (Int × Unit))} {mv : Nat → γ} {c : Nat}
    (hM : ∀ (k n : Nat) (d r : List γ) (e : γ) (a : Nat), a + c < lenB → (d ++ e :: r).length < lenB → M k (n + 1) (d ++ e :: r) a d.length = M k n (d ++ mv a :: r) ((a + c : Nat) : Int) ((d.length + 1 : Nat) : Int))
    (hM0 : ∀ (k n : Nat) (d : List γ) (a : Int), M k (n + 1) d a d.length = some (.inr (a, d, ())))
    (hH : ∀ (k n : Nat) (d r : List γ) (a : Nat), a + c < lenB → (d ++ mv a :: r).length < lenB → H k (n + 1) (d ++ mv a :: r) a d.length = H k n (d ++ mv a :: r) ((a + c : Nat) : Int) ((d.length + 1 : Nat) : Int))
    (hH0 : ∀ (k n : Nat) (d : List γ) (a : Int), H k (n + 1) d a d.length = some (.inr (a, ()))) :
    ∀ (r d : List γ) (a : Nat), a + c * r.length < lenB → (d ++ r).length < lenB → ∃ y : List γ, y.length = r.length ∧ Evt (fun k n => M k n (d ++ r) a d.length) (.inr (((a + c * r.length : Nat) : Int), d ++ y, ())) ∧
      ∀ d2 : List γ, (d2 ++ y).length < lenB → Evt (fun k n => H k n (d2 ++ y) a d2.length) (.inr (((a + c * r.length : Nat) : Int), ()))
  | [], d, a, _, _ => by
    refine ⟨[], rfl, ?_, fun d2 _ => ?_⟩
    · exact Evt.step (F := fun _ _ => some (.inr (((a + c * ([] : List γ).length : Nat) : Int), d ++ [], ()))) (fun k n => by simpa using hM0 k n d a) .pure
    · exact Evt.step (F := fun _ _ => some (.inr (((a + c * ([] : List γ).length : Nat) : Int), ()))) (fun k n => by simpa using hH0 k n d2 a) .pure
  | e :: r, d, a, ha, hd => by
    have hc : a + c < lenB := by
      have : c ≤ c * (e :: r).length := Nat.le_mul_of_pos_right _ (by simp)
      omega
    have hs : a + c + c * r.length = a + c * (e :: r).length := by simp [Nat.mul_add]; omega
    obtain ⟨y, h1, h2, h3⟩ := mark_loop hM hM0 hH hH0 r (d ++ [mv a]) (a + c) (by omega) (by simpa using hd)
    refine ⟨mv a :: y, by simp [h1], Evt.step (fun k n => hM k n d r e a hc hd) ?_, fun d2 hd2 => Evt.step (fun k n => hH k n d2 y a hc hd2) ?_⟩
    · rw [hs] at h2
      simpa using h2
    · have := h3 (d2 ++ [mv a]) (by simpa using hd2)
      rw [hs] at this
      simpa using this

theorem mark_all {M : Nat → Nat → List γ → Int → Int → Option ((Int × List γ) ⊕ (Int × List γ × Unit))} {H : Nat → Nat → List γ → Int → Int → Option (Int ⊕ (Int × Unit))} {mark : Nat → List γ → Int → Option (Int × List γ)} {held : Nat → List γ → Int → Option Int} {mv : Nat → γ} {c : Nat}
    (hc : 0 < c)
    (hM : ∀ (k n : Nat) (d r : List γ) (e : γ) (a : Nat), a + c < lenB → (d ++ e :: r).length < lenB → M k (n + 1) (d ++ e :: r) a d.length = M k n (d ++ mv a :: r) ((a + c : Nat) : Int) ((d.length + 1 : Nat) : Int))
    (hM0 : ∀ (k n : Nat) (d : List γ) (a : Int), M k (n + 1) d a d.length = some (.inr (a, d, ())))
    (hH : ∀ (k n : Nat) (d r : List γ) (a : Nat), a + c < lenB → (d ++ mv a :: r).length < lenB → H k (n + 1) (d ++ mv a :: r) a d.length = H k n (d ++ mv a :: r) ((a + c : Nat) : Int) ((d.length + 1 : Nat) : Int))
    (hH0 : ∀ (k n : Nat) (d : List γ) (a : Int), H k (n + 1) d a d.length = some (.inr (a, ())))
    (hmark : ∀ k x a, mark k x a = both (R := Int × List γ) (P := Int × List γ × Unit) (M k k x a 0) (fun q => some q) (fun y => some (y.1, y.2.1)))
    (hheld : ∀ k x a, held k x a = both (R := Int) (P := Int × Unit) (H k k x a 0) (fun q => some q) (fun y => some y.1)) :
    MarkOk mark held (fun x => c * x.length) := by
  intro x a ha
  simp only at ha
  have hx : x.length < lenB := Nat.lt_of_le_of_lt (Nat.le_mul_of_pos_left _ hc) (by omega)
  obtain ⟨y, h1, h2, h3⟩ := mark_loop hM hM0 hH hH0 x [] a ha (by simpa using hx)
  refine ⟨y, Evt.eq ?_ (fun k _ => hmark k x a), Evt.eq ?_ (fun k _ => hheld k y a), by simp [h1]⟩
  · simp only [List.nil_append, List.length_nil] at h2
    exact Evt.inr (Evt.diag h2) .pure
  · have := h3 [] (by simp [h1]; exact hx)
    simp only [List.nil_append, List.length_nil] at this
    exact Evt.inr (Evt.diag this) .pure

/-- rows of what is marked -/
theorem mark_rows {d0 : γ} {M : Nat → Nat → List γ → Int → Int → Option ((Int × List γ) ⊕ (Int × List γ × Unit))} {H : Nat → Nat → List γ → Int → Int → Option (Int ⊕ (Int × Unit))} {mark : Nat → γ → Int → Option (Int × γ)} {held : Nat → γ → Int → Option Int} {w : γ → Nat} (hw : MarkOk mark held w)
    (hM : ∀ (k n : Nat) (x : List γ) (a i : Int), M k (n + 1) x a i = (bif (decide (i < (x.length : Int))) then (bif (decide (0 ≤ i)) then (bif (decide (i < (x.length : Int))) then (Option.bind (mark k (x.getD (Int.toNat i) d0) a) fun r => M k n (x.set (Int.toNat i) r.2) r.1 (IntKind.wrap .i64 (i + 1))) else none) else none) else some (.inr (a, x, ()))))
    (hH : ∀ (k n : Nat) (x : List γ) (a i : Int), H k (n + 1) x a i = (bif (decide (i < (x.length : Int))) then (bif (decide (0 ≤ i)) then (bif (decide (i < (x.length : Int))) then (Option.bind (held k (x.getD (Int.toNat i) d0) a) fun r => bif (decide (r < 0)) then some (.inl (-1)) else H k n x r (IntKind.wrap .i64 (i + 1))) else none) else none) else some (.inr (a, ())))) :
    ∀ (r d : List γ) (a : Nat), a + (r.map w).sum < lenB → (d ++ r).length < lenB → ∃ y : List γ, y.length = r.length ∧ y.map w = r.map w ∧ Evt (fun k n => M k n (d ++ r) a d.length) (.inr (((a + (r.map w).sum : Nat) : Int), d ++ y, ())) ∧
      ∀ d2 : List γ, (d2 ++ y).length < lenB → Evt (fun k n => H k n (d2 ++ y) a d2.length) (.inr (((a + (r.map w).sum : Nat) : Int), ()))
  | [], d, a, _, _ => by
    refine ⟨[], rfl, rfl, Evt.step (fun k n => hM k n _ _ _) ?_, fun d2 _ => Evt.step (fun k n => hH k n _ _ _) ?_⟩
    · refine Evt.cfalse (by simp) ?_
      simpa using Evt.pure
    · refine Evt.cfalse (by simp) ?_
      simpa using Evt.pure
  | e :: r, d, a, ha, hd => by
    simp only [List.map_cons, List.sum_cons] at ha
    obtain ⟨y0, m1, m2, m3⟩ := hw e a (by omega)
    obtain ⟨y, h1, h1', h2, h3⟩ := mark_rows hw hM hH r (d ++ [y0]) (a + w e) (by omega) (by simpa using hd)
    have hs : a + w e + (r.map w).sum = a + ((e :: r).map w).sum := by simp <;> omega
    refine ⟨y0 :: y, by simp [h1], by simp [h1', m3], Evt.step (fun k n => hM k n _ _ _) ?_, fun d2 hd2 => Evt.step (fun k n => hH k n _ _ _) ?_⟩
    · refine Evt.ctrue mid_lt (Evt.ctrue mid_ge (Evt.ctrue mid_lt ?_))
      rw [mid_get]
      refine Evt.bind m1 ?_
      rw [mid_set, w64_next (by simp at hd; omega)]
      rw [hs] at h2
      simpa using h2
    · refine Evt.ctrue mid_lt (Evt.ctrue mid_ge (Evt.ctrue mid_lt ?_))
      rw [mid_get]
      refine Evt.bind m2 (Evt.cfalse (by simp <;> omega) ?_)
      rw [w64_next (by simp at hd2; omega)]
      have := h3 (d2 ++ [y0]) (by simpa using hd2)
      rw [hs] at this
      simpa using this

theorem mark_rows_all {d0 : γ} {M : Nat → Nat → List γ → Int → Int → Option ((Int × List γ) ⊕ (Int × List γ × Unit))} {H : Nat → Nat → List γ → Int → Int → Option (Int ⊕ (Int × Unit))} {mark : Nat → γ → Int → Option (Int × γ)} {held : Nat → γ → Int → Option Int} {w : γ → Nat} (hw : MarkOk mark held w)
    {marks : Nat → List γ → Int → Option (Int × List γ)} {helds : Nat → List γ → Int → Option Int}
    (hM : ∀ (k n : Nat) (x : List γ) (a i : Int), M k (n + 1) x a i = (bif (decide (i < (x.length : Int))) then (bif (decide (0 ≤ i)) then (bif (decide (i < (x.length : Int))) then (Option.bind (mark k (x.getD (Int.toNat i) d0) a) fun r => M k n (x.set (Int.toNat i) r.2) r.1 (IntKind.wrap .i64 (i + 1))) else none) else none) else some (.inr (a, x, ()))))
    (hH : ∀ (k n : Nat) (x : List γ) (a i : Int), H k (n + 1) x a i = (bif (decide (i < (x.length : Int))) then (bif (decide (0 ≤ i)) then (bif (decide (i < (x.length : Int))) then (Option.bind (held k (x.getD (Int.toNat i) d0) a) fun r => bif (decide (r < 0)) then some (.inl (-1)) else H k n x r (IntKind.wrap .i64 (i + 1))) else none) else none) else some (.inr (a, ()))))
    (hmark : ∀ k x a, marks k x a = both (R := Int × List γ) (P := Int × List γ × Unit) (M k k x a 0) (fun q => some q) (fun y => some (y.1, y.2.1)))
    (hheld : ∀ k x a, helds k x a = both (R := Int) (P := Int × Unit) (H k k x a 0) (fun q => some q) (fun y => some y.1)) {x : List γ} (hx : x.length < lenB) {a : Nat} (ha : a + (x.map w).sum < lenB) :
    ∃ y, Evt (fun k _ => marks k x a) (((a + (x.map w).sum : Nat) : Int), y) ∧ Evt (fun k _ => helds k y a) ((a + (x.map w).sum : Nat) : Int) := by
  obtain ⟨y, h1, _, h2, h3⟩ := mark_rows hw hM hH x [] a ha (by simpa using hx)
  refine ⟨y, Evt.eq ?_ (fun k _ => hmark k x a), Evt.eq ?_ (fun k _ => hheld k y a)⟩
  · simp only [List.nil_append, List.length_nil] at h2
    exact Evt.inr (Evt.diag h2) .pure
  · have := h3 [] (by simp [h1]; exact hx)
    simp only [List.nil_append, List.length_nil] at this
    exact Evt.inr (Evt.diag this) .pure

/-- the size of a list, taken off what is left -/
theorem sz_rows {d0 : List γ} {S : Nat → Nat → List (List γ) → Int → Int → Option (Int ⊕ (Int × Unit))} {sz : List γ → Int → Option Int}
    (hsz : ∀ x a, sz x a = (bif (decide ((IntKind.wrap .i64 (a - (x.length : Int))) < 0)) then some (-1) else some (IntKind.wrap .i64 (a - (x.length : Int)))))
    (hS : ∀ (k n : Nat) (x : List (List γ)) (a i : Int), S k (n + 1) x a i = (bif (decide (i < (x.length : Int))) then (bif (decide (0 ≤ i)) then (bif (decide (i < (x.length : Int))) then (Option.bind (sz (x.getD (Int.toNat i) d0) a) fun r => bif (decide (r < 0)) then some (.inl (-1)) else S k n x r (IntKind.wrap .i64 (i + 1))) else none) else none) else some (.inr (a, ())))) :
    ∀ (r d : List (List γ)) (a : Nat), a ≤ 1000000 → (d ++ r).length < lenB → (∀ x ∈ r, x.length ≤ maxLen) → Evt (fun k n => S k n (d ++ r) a d.length) (if (r.map List.length).sum ≤ a then .inr (((a - (r.map List.length).sum : Nat) : Int), ()) else .inl (-1))
  | [], d, a, _, _, _ => by
    refine Evt.step (fun k n => hS k n _ _ _) (Evt.cfalse (by simp) ?_)
    simpa using Evt.pure
  | e :: r, d, a, ha, hd, hm => by
    refine Evt.step (fun k n => hS k n _ _ _) ?_
    refine Evt.ctrue mid_lt (Evt.ctrue mid_ge (Evt.ctrue mid_lt ?_))
    rw [mid_get]
    have hme := hm e (by simp)
    simp only [maxLen] at hme
    have hw : IntKind.wrap .i64 ((a : Int) - (e.length : Int)) = (a : Int) - (e.length : Int) := by rw [w64] <;> omega
    by_cases hle : e.length ≤ a
    · have h1 : sz e a = some (((a - e.length : Nat) : Int)) := by
        rw [hsz, hw]
        have : decide ((a : Int) - (e.length : Int) < 0) = false := by simp <;> omega
        rw [this]
        simp only [cond_false]
        congr 1
        omega
      refine Evt.bind (.const h1) (Evt.cfalse (by simp <;> omega) ?_)
      rw [w64_next (by simp at hd; omega)]
      have := sz_rows hsz hS r (d ++ [e]) (a - e.length) (by omega) (by simpa using hd) (fun x hx => hm x (by simp [hx]))
      simp only [List.map_cons, List.sum_cons]
      have hiff : ((r.map List.length).sum ≤ a - e.length) ↔ (e.length + (r.map List.length).sum ≤ a) := by omega
      rw [show a - (e.length + (r.map List.length).sum) = a - e.length - (r.map List.length).sum by omega]
      simp only [hiff] at this
      simpa using this
    · have h1 : sz e a = some (-1) := by
        rw [hsz, hw]
        have : decide ((a : Int) - (e.length : Int) < 0) = true := by simp <;> omega
        rw [this]
        rfl
      refine Evt.bind (.const h1) (Evt.ctrue rfl ?_)
      rw [if_neg (by simp <;> omega)]
      exact .pure

theorem sz_one {sz : List γ → Int → Option Int}
    (hsz : ∀ x a, sz x a = (bif (decide ((IntKind.wrap .i64 (a - (x.length : Int))) < 0)) then some (-1) else some (IntKind.wrap .i64 (a - (x.length : Int))))) {x : List γ} (hx : x.length ≤ maxLen) {a : Nat} (ha : a ≤ 1000000) :
    sz x a = some (if x.length ≤ a then ((a - x.length : Nat) : Int) else -1) := by
  simp only [maxLen] at hx
  have hw : IntKind.wrap .i64 ((a : Int) - (x.length : Int)) = (a : Int) - (x.length : Int) := by rw [w64] <;> omega
  rw [hsz, hw]
  by_cases h : x.length ≤ a
  · have : decide ((a : Int) - (x.length : Int) < 0) = false := by simp <;> omega
    rw [this, if_pos h]
    simp only [cond_false]
    congr 1
    omega
  · have : decide ((a : Int) - (x.length : Int) < 0) = true := by simp <;> omega
    rw [this, if_neg h]
    rfl

theorem sz_all {d0 : List γ} {S : Nat → Nat → List (List γ) → Int → Int → Option (Int ⊕ (Int × Unit))} {sz : List γ → Int → Option Int} {szs : Nat → List (List γ) → Int → Option Int}
    (hsz : ∀ x a, sz x a = (bif (decide ((IntKind.wrap .i64 (a - (x.length : Int))) < 0)) then some (-1) else some (IntKind.wrap .i64 (a - (x.length : Int)))))
    (hS : ∀ (k n : Nat) (x : List (List γ)) (a i : Int), S k (n + 1) x a i = (bif (decide (i < (x.length : Int))) then (bif (decide (0 ≤ i)) then (bif (decide (i < (x.length : Int))) then (Option.bind (sz (x.getD (Int.toNat i) d0) a) fun r => bif (decide (r < 0)) then some (.inl (-1)) else S k n x r (IntKind.wrap .i64 (i + 1))) else none) else none) else some (.inr (a, ()))))
    (hszs : ∀ k x a, szs k x a = (bif (decide ((IntKind.wrap .i64 (a - (x.length : Int))) < 0)) then some (-1) else (both (R := Int) (P := Int × Unit) (S k k x (IntKind.wrap .i64 (a - (x.length : Int))) 0) (fun q4 => some q4) (fun y3 => some y3.1))))
    {x : List (List γ)} (hx : x.length ≤ maxLen) (hm : ∀ y ∈ x, y.length ≤ maxLen) {a : Nat} (ha : a ≤ 1000000) :
    Evt (fun k _ => szs k x a) (if x.length + (x.map List.length).sum ≤ a then ((a - (x.length + (x.map List.length).sum) : Nat) : Int) else -1) := by
  simp only [maxLen] at hx
  have hw : IntKind.wrap .i64 ((a : Int) - (x.length : Int)) = (a : Int) - (x.length : Int) := by rw [w64] <;> omega
  refine Evt.eq ?_ (fun k _ => hszs k x a)
  rw [hw]
  by_cases h : x.length ≤ a
  · refine Evt.cfalse (by simp <;> omega) ?_
    have e : (a : Int) - (x.length : Int) = ((a - x.length : Nat) : Int) := by omega
    rw [e]
    have := sz_rows hsz hS x [] (a - x.length) (by omega) (by simp [lenB]; omega) hm
    simp only [List.nil_append, List.length_nil] at this
    by_cases h2 : (x.map List.length).sum ≤ a - x.length
    · rw [if_pos h2] at this
      rw [if_pos (by omega)]
      refine Evt.inr (Evt.diag this) (.const ?_)
      simp only
      congr 2
      omega
    · rw [if_neg h2] at this
      rw [if_neg (by omega)]
      exact Evt.inl (Evt.diag this) .pure
  · rw [if_neg (by omega)]
    exact Evt.ctrue (by simp <;> omega) .pure
end
end Go.Ev
namespace Go.Ev
open Go

section
variable {α β : Type}

/-- one round over a list -/
theorem Evt.rng {d r : List α} {e z : α} {F : Nat → Nat → α → Option β} {G : Nat → Nat → Option β} {res : β} (h : Evt (fun k n => F k n e) res) :
    Evt (fun k n => bif (decide ((d.length : Int) < ((d ++ e :: r).length : Int))) then (bif (decide (0 ≤ (d.length : Int))) then (bif (decide ((d.length : Int) < ((d ++ e :: r).length : Int))) then F k n ((d ++ e :: r).getD (Int.toNat (d.length : Int)) z) else none) else none) else G k n) res := by
  refine Evt.ctrue mid_lt (Evt.ctrue mid_ge (Evt.ctrue mid_lt ?_))
  rw [mid_get]
  exact h
theorem Evt.rng0 {d : List α} {F G : Nat → Nat → Option β} {res : β} (h : Evt G res) : Evt (fun k n => bif (decide ((d.length : Int) < (d.length : Int))) then F k n else G k n) res := Evt.cfalse mid_end h

theorem len_next {d r : List α} {e : α} (h : (d ++ e :: r).length < lenB) : IntKind.wrap .i64 ((d.length : Int) + 1) = ((d ++ [e]).length : Int) := by
  rw [w64_next (by simp at h; omega)]; simp

/-- the first place of a property -/
theorem index_all {d0 : α} {L : Nat → Nat → Int → Option (Int ⊕ Unit)} {xs : List α} {p : Nat → α → Option Bool} {P : α → Bool} (hp : ∀ x ∈ xs, Evt (fun k _ => p k x) (P x))
    (hL : ∀ k n i, L k (n + 1) i = (bif (decide (i < (xs.length : Int))) then (bif (decide (0 ≤ i)) then (bif (decide (i < (xs.length : Int))) then (Option.bind (p k (xs.getD (Int.toNat i) d0)) fun r1 => (bif r1 then some (Sum.inl i) else L k n (IntKind.wrap .i64 (i + 1)))) else none) else none) else some (.inr ())))
    (hb : xs.length < lenB) : Evt (fun k n => L k n 0) (match xs.findIdx? P with | some j => .inl (j : Int) | none => .inr ()) := by
  have key : ∀ (r d : List α), d ++ r = xs → Evt (fun k n => L k n d.length) (match r.findIdx? P with | some j => .inl ((d.length + j : Nat) : Int) | none => .inr ()) := by
    intro r
    induction r with
    | nil =>
      intro d h
      rw [List.append_nil] at h
      refine Evt.step (fun k n => hL k n _) ?_
      rw [← h]
      exact Evt.rng0 .pure
    | cons e r ih =>
      intro d h
      refine Evt.step (fun k n => hL k n _) ?_
      rw [← h]
      refine Evt.rng (F := fun k n x => (Option.bind (p k x) fun r1 => (bif r1 then some (Sum.inl (d.length : Int)) else L k n (IntKind.wrap .i64 ((d.length : Int) + 1))))) ?_
      refine Evt.bind (hp e (by rw [← h]; simp)) ?_
      rw [List.findIdx?_cons]
      cases hP : P e with
      | true => exact Evt.ctrue rfl .pure
      | false =>
        refine Evt.cfalse rfl ?_
        rw [len_next (e := e) (r := r) (by rw [h]; exact hb)]
        have := ih (d ++ [e]) (by simpa using h)
        cases hr : r.findIdx? P with
        | none => rw [hr] at this; simpa using this
        | some j =>
          rw [hr] at this
          have e2 : (d ++ [e]).length + j = d.length + (j + 1) := by simp; omega
          simp only [e2] at this
          exact this
  have := key xs [] rfl
  simpa using this

theorem findIdx?_any {P : α → Bool} (xs : List α) : (xs.findIdx? P).isSome = xs.any P := by
  induction xs with
  | nil => rfl
  | cons x xs ih =>
    rw [List.findIdx?_cons, List.any_cons]
    cases P x with
    | true => rfl
    | false => simp [ih]
end
end Go.Ev
namespace Go.Ev
open Go

/-! The same with a third bound: the rounds of a recursion. -/
section
variable {α β : Type}
def Ev3 {α : Type} (f : Nat → Nat → Nat → Option α) (r : α) : Prop := ∃ k0, ∀ k m n, k0 ≤ k → k0 ≤ m → k0 ≤ n → f k m n = some r

theorem Ev3.lift {f : Nat → Nat → Option α} {r : α} (h : Evt (fun k _ => f k k) r) : Ev3 (fun k _ _ => f k k) r := by
  obtain ⟨k0, h⟩ := h
  exact ⟨k0, fun k m n hk _ _ => h k k hk hk⟩
theorem Ev3.of {f : Nat → Option α} {r : α} (h : Evt (fun k _ => f k) r) : Ev3 (fun k _ _ => f k) r := by
  obtain ⟨k0, h⟩ := h
  exact ⟨k0, fun k m n hk _ _ => h k k hk hk⟩
theorem Ev3.rec {f : Nat → Nat → Option α} {r : α} (h : Evt f r) : Ev3 (fun k m _ => f k m) r := by
  obtain ⟨k0, h⟩ := h
  exact ⟨k0, fun k m n hk hm _ => h k m hk hm⟩
theorem Ev3.diag {f : Nat → Nat → Nat → Option α} {r : α} (h : Ev3 f r) : Evt (fun k m => f k m k) r := by
  obtain ⟨k0, h⟩ := h
  exact ⟨k0, fun k m hk hm => h k m k hk hm hk⟩
theorem Ev3.const {o : Option α} {r : α} (h : o = some r) : Ev3 (fun _ _ _ => o) r := ⟨0, fun _ _ _ _ _ _ => h⟩
theorem Ev3.pure {r : α} : Ev3 (fun _ _ _ => some r) r := ⟨0, fun _ _ _ _ _ _ => rfl⟩
theorem Ev3.bind {f : Nat → Nat → Nat → Option α} {g : Nat → Nat → Nat → α → Option β} {a : α} {r : β} (h : Ev3 f a) (h' : Ev3 (fun k m n => g k m n a) r) : Ev3 (fun k m n => Option.bind (f k m n) fun x => g k m n x) r := by
  obtain ⟨k0, h⟩ := h
  obtain ⟨k1, h'⟩ := h'
  refine ⟨max k0 k1, fun k m n hk hm hn => ?_⟩
  exact (congrArg (fun o => Option.bind o fun x => g k m n x) (h k m n (by omega) (by omega) (by omega))).trans (h' k m n (by omega) (by omega) (by omega))
theorem Ev3.inr {R P A : Type} {f : Nat → Nat → Nat → Option (R ⊕ P)} {G : Nat → Nat → Nat → R → Option A} {K : Nat → Nat → Nat → P → Option A} {y : P} {r : A} (h : Ev3 f (.inr y)) (h' : Ev3 (fun k m n => K k m n y) r) : Ev3 (fun k m n => both (f k m n) (G k m n) (K k m n)) r := by
  obtain ⟨k0, h⟩ := h
  obtain ⟨k1, h'⟩ := h'
  refine ⟨max k0 k1, fun k m n hk hm hn => ?_⟩
  exact (congrArg (fun o => both o (G k m n) (K k m n)) (h k m n (by omega) (by omega) (by omega))).trans (h' k m n (by omega) (by omega) (by omega))
theorem Ev3.inl {R P A : Type} {f : Nat → Nat → Nat → Option (R ⊕ P)} {G : Nat → Nat → Nat → R → Option A} {K : Nat → Nat → Nat → P → Option A} {q : R} {r : A} (h : Ev3 f (.inl q)) (h' : Ev3 (fun k m n => G k m n q) r) : Ev3 (fun k m n => both (f k m n) (G k m n) (K k m n)) r := by
  obtain ⟨k0, h⟩ := h
  obtain ⟨k1, h'⟩ := h'
  refine ⟨max k0 k1, fun k m n hk hm hn => ?_⟩
  exact (congrArg (fun o => both o (G k m n) (K k m n)) (h k m n (by omega) (by omega) (by omega))).trans (h' k m n (by omega) (by omega) (by omega))
theorem Ev3.ctrue {c : Bool} {f g : Nat → Nat → Nat → Option α} {r : α} (hc : c = true) (h : Ev3 f r) : Ev3 (fun k m n => bif c then f k m n else g k m n) r := by subst hc; exact h
theorem Ev3.cfalse {c : Bool} {f g : Nat → Nat → Nat → Option α} {r : α} (hc : c = false) (h : Ev3 g r) : Ev3 (fun k m n => bif c then f k m n else g k m n) r := by subst hc; exact h
theorem Ev3.step {L F : Nat → Nat → Nat → Option α} {r : α} (hL : ∀ k m n, L k m (n + 1) = F k m n) (h : Ev3 F r) : Ev3 L r := by
  obtain ⟨k0, h⟩ := h
  refine ⟨k0 + 1, fun k m n hk hm hn => ?_⟩
  obtain ⟨n, rfl⟩ : ∃ n', n = n' + 1 := ⟨n - 1, by omega⟩
  rw [hL]
  exact h k m n (by omega) (by omega) (by omega)
end
end Go.Ev
namespace Go.Ev.G
open Go Go.Ev
set_option maxRecDepth 100000

theorem room_eq (n : Nat) : laws_roomBehind n = some (roomN n : Int) := by
  unfold laws_roomBehind roomN
  have h6 : Int.tmod (n : Int) 6 = ((n % 6 : Nat) : Int) := rfl
  have h3 : Int.tmod (n : Int) 3 = ((n % 3 : Nat) : Int) := rfl
  rw [h6, h3]
  by_cases h : n % 6 = 5
  · have e : ((((n % 6 : Nat) : Int)) == 5) = true := by rw [h]; rfl
    rw [e, if_pos h]; rfl
  · have e : ((((n % 6 : Nat) : Int)) == 5) = false := by
      rw [beq_eq_false_iff_ne]; omega
    rw [e, if_neg h]
    by_cases h' : n % 3 = 0
    · have e : ((((n % 3 : Nat) : Int)) == 0) = true := by rw [h']; rfl
      rw [e, if_pos h']; rfl
    · have e : ((((n % 3 : Nat) : Int)) == 0) = false := by
        rw [beq_eq_false_iff_ne]; omega
      rw [e, if_neg h']; rfl

theorem room_le (n : Nat) : roomN n ≤ n + 1 := by unfold roomN; split <;> (try split) <;> omega

def fI : Int := -7000000000000000101
def fD : Int × Int := (fI, fI)
def fV : (Int × Int) × Int × Int := (fD, fD)
def fT : Int × Int × Int × Int := (fI, fI, fI, fI)

theorem toIntS_ev {a : List Int} {b : Bool} (ha : a.length ≤ 1000000) : Evt (fun k _ => laws_toIntS k a b) (toV id fI a b) :=
  to_all (dβ := 0) (dγ := 0) (F := fun _ x => some x) (L1 := laws_toIntS_L122) (L2 := laws_toIntS_L250) room_eq (fun _ _ _ _ _ => rfl) (fun _ _ _ _ _ => rfl)
    (fun k => by unfold laws_toIntS; cases b <;> cases a <;> rfl) ha (fun _ _ => .pure)

theorem toDyadicS_ev {a : List (Int × Int)} {b : Bool} (ha : a.length ≤ 1000000) : Evt (fun k _ => laws_toDyadicS k a b) (toV id fD a b) :=
  to_all (dβ := (0, 0)) (dγ := (0, 0)) (F := fun _ x => laws_toDyadic x) (L1 := laws_toDyadicS_L122) (L2 := laws_toDyadicS_L250) room_eq (fun _ _ _ _ _ => rfl) (fun _ _ _ _ _ => rfl)
    (fun k => by unfold laws_toDyadicS; cases b <;> cases a <;> rfl) ha (fun _ _ => .pure)

theorem toIntervalS_ev {a : List ((Int × Int) × Int × Int)} {b : Bool} (ha : a.length ≤ 1000000) : Evt (fun k _ => laws_toIntervalS k a b) (toV id fV a b) :=
  to_all (dβ := ((0, 0), 0, 0)) (dγ := ((0, 0), 0, 0)) (F := fun _ x => laws_toInterval x) (L1 := laws_toIntervalS_L122) (L2 := laws_toIntervalS_L250) room_eq (fun _ _ _ _ _ => rfl) (fun _ _ _ _ _ => rfl)
    (fun k => by unfold laws_toIntervalS; cases b <;> cases a <;> rfl) ha (fun _ _ => .pure)

theorem toTermS_ev {a : List (Int × Int × Int × Int)} {b : Bool} (ha : a.length ≤ 1000000) : Evt (fun k _ => laws_toTermS k a b) (toV id fT a b) :=
  to_all (dβ := (0, 0, 0, 0)) (dγ := (0, 0, 0, 0)) (F := fun _ x => laws_toTerm x) (L1 := laws_toTermS_L122) (L2 := laws_toTermS_L250) room_eq (fun _ _ _ _ _ => rfl) (fun _ _ _ _ _ => rfl)
    (fun k => by unfold laws_toTermS; cases b <;> cases a <;> rfl) ha (fun _ _ => .pure)

theorem toDyadicSS_ev {a : List (List (Int × Int))} {b : Bool} (ha : a.length ≤ 1000000) (hm : ∀ x ∈ a, x.length ≤ 1000000) : Evt (fun k _ => laws_toDyadicSS k a b) (toV (fun x => toV id fD x b) ([fD], []) a b) :=
  to_all (dβ := []) (dγ := ([], [])) (F := fun k x => laws_toDyadicS k x b) (L1 := fun k n x0 x5 x6 => laws_toDyadicSS_L122 k n x0 b x5 x6) (L2 := laws_toDyadicSS_L250) room_eq (fun _ _ _ _ _ => rfl) (fun _ _ _ _ _ => rfl)
    (fun k => by unfold laws_toDyadicSS; cases b <;> cases a <;> rfl) ha (fun x hx => toDyadicS_ev (hm x hx))

theorem toIntervalSS_ev {a : List (List ((Int × Int) × Int × Int))} {b : Bool} (ha : a.length ≤ 1000000) (hm : ∀ x ∈ a, x.length ≤ 1000000) : Evt (fun k _ => laws_toIntervalSS k a b) (toV (fun x => toV id fV x b) ([fV], []) a b) :=
  to_all (dβ := []) (dγ := ([], [])) (F := fun k x => laws_toIntervalS k x b) (L1 := fun k n x0 x5 x6 => laws_toIntervalSS_L122 k n x0 b x5 x6) (L2 := laws_toIntervalSS_L250) room_eq (fun _ _ _ _ _ => rfl) (fun _ _ _ _ _ => rfl)
    (fun k => by unfold laws_toIntervalSS; cases b <;> cases a <;> rfl) ha (fun x hx => toIntervalS_ev (hm x hx))

theorem toTermSS_ev {a : List (List (Int × Int × Int × Int))} {b : Bool} (ha : a.length ≤ 1000000) (hm : ∀ x ∈ a, x.length ≤ 1000000) : Evt (fun k _ => laws_toTermSS k a b) (toV (fun x => toV id fT x b) ([fT], []) a b) :=
  to_all (dβ := []) (dγ := ([], [])) (F := fun k x => laws_toTermS k x b) (L1 := fun k n x0 x5 x6 => laws_toTermSS_L122 k n x0 b x5 x6) (L2 := laws_toTermSS_L250) room_eq (fun _ _ _ _ _ => rfl) (fun _ _ _ _ _ => rfl)
    (fun k => by unfold laws_toTermSS; cases b <;> cases a <;> rfl) ha (fun x hx => toTermS_ev (hm x hx))

/-! Equal lists. -/
theorem eqIntS_ev {x : List Int} (h : x.length < lenB) : Evt (fun k _ => laws_eqIntS k x x) true :=
  eq_all (d0 := 0) (Q := fun _ a b => some (!(a != b))) (L := laws_eqIntS_L58) (E := laws_eqIntS) (fun k n x0 x1 x5 => by simp only [Option.bind_some, Bool.not_not]; rfl) (fun _ _ _ => rfl) h (fun z _ => .const (by simp))
theorem eqDyadic_rfl (x : Int × Int) : laws_eqDyadic x x = some true := by simp [laws_eqDyadic]
theorem eqInterval_rfl (x : (Int × Int) × Int × Int) : laws_eqInterval x x = some true := by simp [laws_eqInterval, eqDyadic_rfl]
theorem eqTerm_rfl (x : Int × Int × Int × Int) : laws_eqTerm x x = some true := by simp [laws_eqTerm]
theorem eqDyadicS_ev {x : List (Int × Int)} (h : x.length < lenB) : Evt (fun k _ => laws_eqDyadicS k x x) true :=
  eq_all (d0 := (0, 0)) (Q := fun _ a b => laws_eqDyadic a b) (L := laws_eqDyadicS_L58) (E := laws_eqDyadicS) (fun k n x0 x1 x5 => rfl) (fun _ _ _ => rfl) h (fun z _ => .const (eqDyadic_rfl z))
theorem eqIntervalS_ev {x : List ((Int × Int) × Int × Int)} (h : x.length < lenB) : Evt (fun k _ => laws_eqIntervalS k x x) true :=
  eq_all (d0 := ((0, 0), 0, 0)) (Q := fun _ a b => laws_eqInterval a b) (L := laws_eqIntervalS_L58) (E := laws_eqIntervalS) (fun k n x0 x1 x5 => rfl) (fun _ _ _ => rfl) h (fun z _ => .const (eqInterval_rfl z))
theorem eqTermS_ev {x : List (Int × Int × Int × Int)} (h : x.length < lenB) : Evt (fun k _ => laws_eqTermS k x x) true :=
  eq_all (d0 := (0, 0, 0, 0)) (Q := fun _ a b => laws_eqTerm a b) (L := laws_eqTermS_L58) (E := laws_eqTermS) (fun k n x0 x1 x5 => rfl) (fun _ _ _ => rfl) h (fun z _ => .const (eqTerm_rfl z))
theorem eqDyadicSS_ev {x : List (List (Int × Int))} (h : x.length < lenB) (hm : ∀ y ∈ x, y.length < lenB) : Evt (fun k _ => laws_eqDyadicSS k x x) true :=
  eq_all (d0 := []) (Q := fun k a b => laws_eqDyadicS k a b) (L := laws_eqDyadicSS_L58) (E := laws_eqDyadicSS) (fun k n x0 x1 x5 => rfl) (fun _ _ _ => rfl) h (fun z hz => eqDyadicS_ev (hm z hz))
theorem eqIntervalSS_ev {x : List (List ((Int × Int) × Int × Int))} (h : x.length < lenB) (hm : ∀ y ∈ x, y.length < lenB) : Evt (fun k _ => laws_eqIntervalSS k x x) true :=
  eq_all (d0 := []) (Q := fun k a b => laws_eqIntervalS k a b) (L := laws_eqIntervalSS_L58) (E := laws_eqIntervalSS) (fun k n x0 x1 x5 => rfl) (fun _ _ _ => rfl) h (fun z hz => eqIntervalS_ev (hm z hz))
theorem eqTermSS_ev {x : List (List (Int × Int × Int × Int))} (h : x.length < lenB) (hm : ∀ y ∈ x, y.length < lenB) : Evt (fun k _ => laws_eqTermSS k x x) true :=
  eq_all (d0 := []) (Q := fun k a b => laws_eqTermS k a b) (L := laws_eqTermSS_L58) (E := laws_eqTermSS) (fun k n x0 x1 x5 => rfl) (fun _ _ _ => rfl) h (fun z hz => eqTermS_ev (hm z hz))


/-! Nothing has been written. -/
def Room {γ : Type} (x : List γ × List γ) : Prop := x.2.length = roomN x.1.length ∧ x.1.length ≤ 1000000

theorem intact_all {γ : Type} {E : Nat → List γ → List γ → Option Bool} {I : Nat → (List γ × List γ) → (List γ × List γ) → Option Bool} {x : List γ × List γ} (hx : Room x)
    (hI : ∀ k a0 a1, I k a0 a1 = (Option.bind (laws_roomBehind (a1.1.length : Int)) fun r1 => (bif ((a0.1.length : Int) == (a1.1.length : Int)) then (bif (decide (0 ≤ (IntKind.wrap .i64 ((a1.1.length : Int) + r1)))) then (bif (decide ((IntKind.wrap .i64 ((a1.1.length : Int) + r1)) ≤ ((a0.1 ++ a0.2).length : Int))) then (bif (decide (0 ≤ (IntKind.wrap .i64 ((a1.1.length : Int) + r1)))) then (bif (decide ((IntKind.wrap .i64 ((a1.1.length : Int) + r1)) ≤ ((a1.1 ++ a1.2).length : Int))) then (Option.bind (E k (((a0.1 ++ a0.2).take (Int.toNat (IntKind.wrap .i64 ((a1.1.length : Int) + r1)))).drop 0) (((a1.1 ++ a1.2).take (Int.toNat (IntKind.wrap .i64 ((a1.1.length : Int) + r1)))).drop 0)) fun r2 => some r2) else none) else none) else none) else none) else some false)))
    (hE : Evt (fun k _ => E k (x.1 ++ x.2) (x.1 ++ x.2)) true) : Evt (fun k _ => I k x x) true := by
  have hr := room_le x.1.length
  have h1 := hx.1
  have h2 := hx.2
  refine Evt.eq ?_ (fun k _ => hI k x x)
  refine Evt.bind (.const (room_eq _)) ?_
  have hw : IntKind.wrap .i64 ((x.1.length : Int) + (roomN x.1.length : Int)) = (((x.1 ++ x.2).length : Nat) : Int) := by
    rw [List.length_append, h1, w64] <;> omega
  rw [hw]
  refine Evt.ctrue (by simp) (Evt.ctrue mid_ge (Evt.ctrue (by simp) (Evt.ctrue mid_ge (Evt.ctrue (by simp) ?_))))
  have e : (((x.1 ++ x.2).length : Nat) : Int).toNat = (x.1 ++ x.2).length := Int.toNat_natCast _
  rw [e, List.take_length, List.drop_zero]
  exact Evt.bind hE .pure

theorem small {γ : Type} {x : List γ × List γ} (hx : Room x) : (x.1 ++ x.2).length < lenB := by
  have hr := room_le x.1.length
  have h1 := hx.1
  have h2 := hx.2
  rw [List.length_append, h1]
  simp only [lenB]
  omega

theorem intactIntS_ev {x : List Int × List Int} (hx : Room x) : Evt (fun k _ => laws_intactIntS k x x) true := intact_all (E := laws_eqIntS) hx (fun _ _ _ => rfl) (eqIntS_ev (small hx))
theorem intactDyadicS_ev {x : List (Int × Int) × List (Int × Int)} (hx : Room x) : Evt (fun k _ => laws_intactDyadicS k x x) true := intact_all (E := laws_eqDyadicS) hx (fun _ _ _ => rfl) (eqDyadicS_ev (small hx))
theorem intactIntervalS_ev {x : List ((Int × Int) × Int × Int) × List ((Int × Int) × Int × Int)} (hx : Room x) : Evt (fun k _ => laws_intactIntervalS k x x) true := intact_all (E := laws_eqIntervalS) hx (fun _ _ _ => rfl) (eqIntervalS_ev (small hx))
theorem intactTermS_ev {x : List (Int × Int × Int × Int) × List (Int × Int × Int × Int)} (hx : Room x) : Evt (fun k _ => laws_intactTermS k x x) true := intact_all (E := laws_eqTermS) hx (fun _ _ _ => rfl) (eqTermS_ev (small hx))

theorem intact_loop {γ : Type} {d0 : γ} {Q : Nat → γ → γ → Option Bool} {x : List γ × List γ} {m : Int} {L : Nat → Nat → Int → Option (Bool ⊕ ((List γ × List γ) × (List γ × List γ) × Int × Unit))}
    (hL : ∀ k n x6, L k (n + 1) x6 = (bif (decide (x6 < (x.1.length : Int))) then (bif (decide (0 ≤ x6)) then (bif (decide (x6 < (x.1.length : Int))) then (bif (decide (0 ≤ x6)) then (bif (decide (x6 < (x.1.length : Int))) then (Option.bind (Q k (x.1.getD (Int.toNat x6) d0) (x.1.getD (Int.toNat x6) d0)) fun r2 => (bif (!r2) then some (Sum.inl false) else (L k n (IntKind.wrap .i64 (x6 + 1))))) else none) else none) else none) else none) else some (Sum.inr (x, x, m, ())))) (hb : x.1.length < lenB) :
    ∀ (r d : List γ), d ++ r = x.1 → (∀ z ∈ r, Evt (fun k _ => Q k z z) true) → Evt (fun k n => L k n d.length) (.inr (x, x, m, ()))
  | [], d, h, _ => by
    refine Evt.step (fun k n => hL k n _) (Evt.cfalse (by rw [← h]; simp) .pure)
  | z :: r, d, h, hQ => by
    refine Evt.step (fun k n => hL k n _) ?_
    rw [← h]
    refine Evt.ctrue mid_lt (Evt.ctrue mid_ge (Evt.ctrue mid_lt (Evt.ctrue mid_ge (Evt.ctrue mid_lt ?_))))
    rw [mid_get]
    refine Evt.bind (hQ z (by simp)) (Evt.cfalse rfl ?_)
    rw [w64_next (by rw [← h] at hb; simp at hb; omega)]
    have := intact_loop hL hb r (d ++ [z]) (by simpa using h) (fun y hy => hQ y (by simp [hy]))
    simpa using this

theorem intact_rows {γ : Type} {d0 : List γ × List γ} {Q : Nat → (List γ × List γ) → (List γ × List γ) → Option Bool} {E : Nat → List (List γ) → List (List γ) → Option Bool} {x : List (List γ × List γ) × List (List γ × List γ)} (hx : Room x) (hm : ∀ y ∈ x.1, Room y)
    {I : Nat → (List (List γ × List γ) × List (List γ × List γ)) → (List (List γ × List γ) × List (List γ × List γ)) → Option Bool}
    {L : Nat → Nat → (List (List γ × List γ) × List (List γ × List γ)) → (List (List γ × List γ) × List (List γ × List γ)) → Int → Int → Option (Bool ⊕ ((List (List γ × List γ) × List (List γ × List γ)) × (List (List γ × List γ) × List (List γ × List γ)) × Int × Unit))}
    (hL : ∀ k n x0 x1 x5 x6, L k (n + 1) x0 x1 x5 x6 = (bif (decide (x6 < (x1.1.length : Int))) then (bif (decide (0 ≤ x6)) then (bif (decide (x6 < (x0.1.length : Int))) then (bif (decide (0 ≤ x6)) then (bif (decide (x6 < (x1.1.length : Int))) then (Option.bind (Q k (x0.1.getD (Int.toNat x6) d0) (x1.1.getD (Int.toNat x6) d0)) fun r2 => (bif (!r2) then some (Sum.inl false) else (L k n x0 x1 x5 (IntKind.wrap .i64 (x6 + 1))))) else none) else none) else none) else none) else some (Sum.inr (x0, x1, x5, ()))))
    (hI : ∀ k a0 a1, I k a0 a1 = (Option.bind (laws_roomBehind (a1.1.length : Int)) fun r1 => (bif ((a0.1.length : Int) != (a1.1.length : Int)) then some false else (both (R := Bool) (P := (List (List γ × List γ) × List (List γ × List γ)) × (List (List γ × List γ) × List (List γ × List γ)) × Int × Unit) (L k k a0 a1 (IntKind.wrap .i64 ((a1.1.length : Int) + r1)) 0) (fun q5 => some q5) (fun y4 => (bif (decide (0 ≤ (y4.2.1.1.length : Int))) then (bif (decide ((y4.2.1.1.length : Int) ≤ y4.2.2.1)) then (bif (decide (y4.2.2.1 ≤ ((y4.1.1 ++ y4.1.2).length : Int))) then (bif (decide (0 ≤ (y4.2.1.1.length : Int))) then (bif (decide ((y4.2.1.1.length : Int) ≤ y4.2.2.1)) then (bif (decide (y4.2.2.1 ≤ ((y4.2.1.1 ++ y4.2.1.2).length : Int))) then (Option.bind (E k ((((y4.1.1 ++ y4.1.2).take (Int.toNat y4.2.2.1)).drop (Int.toNat (y4.2.1.1.length : Int))).map fun z => z.1) ((((y4.2.1.1 ++ y4.2.1.2).take (Int.toNat y4.2.2.1)).drop (Int.toNat (y4.2.1.1.length : Int))).map fun z => z.1)) fun r6 => some r6) else none) else none) else none) else none) else none) else none))))))
    (hQ : ∀ y ∈ x.1, Evt (fun k _ => Q k y y) true) (hE : Evt (fun k _ => E k (x.2.map fun z => z.1) (x.2.map fun z => z.1)) true) : Evt (fun k _ => I k x x) true := by
  have hr := room_le x.1.length
  have h1 := hx.1
  have h2 := hx.2
  refine Evt.eq ?_ (fun k _ => hI k x x)
  refine Evt.bind (.const (room_eq _)) (Evt.cfalse (by simp) ?_)
  have hw : IntKind.wrap .i64 ((x.1.length : Int) + (roomN x.1.length : Int)) = (((x.1 ++ x.2).length : Nat) : Int) := by
    rw [List.length_append, h1, w64] <;> omega
  rw [hw]
  have := intact_loop (L := fun k n x6 => L k n x x (((x.1 ++ x.2).length : Nat) : Int) x6) (fun k n x6 => hL k n x x _ x6) (by simp only [lenB]; omega) x.1 [] rfl hQ
  simp only [List.length_nil] at this
  refine Evt.inr (Evt.diag this) ?_
  refine Evt.ctrue mid_ge (Evt.ctrue (by simp <;> omega) (Evt.ctrue (by simp <;> omega) (Evt.ctrue mid_ge (Evt.ctrue (by simp <;> omega) (Evt.ctrue (by simp <;> omega) ?_)))))
  have e : (((x.1 ++ x.2).length : Nat) : Int).toNat = (x.1 ++ x.2).length := Int.toNat_natCast _
  have e2 : ((x.1.length : Nat) : Int).toNat = x.1.length := Int.toNat_natCast _
  simp only [e, e2, List.take_length, List.drop_left]
  exact Evt.bind hE .pure

theorem intactDyadicSS_ev {x : List (List (Int × Int) × List (Int × Int)) × List (List (Int × Int) × List (Int × Int))} (hx : Room x) (hm : ∀ y ∈ x.1, Room y) (h2 : ∀ y ∈ x.2, y.1.length < lenB) : Evt (fun k _ => laws_intactDyadicSS k x x) true :=
  intact_rows (d0 := ([], [])) (Q := laws_intactDyadicS) (E := laws_eqDyadicSS) (L := laws_intactDyadicSS_L122) hx hm (fun _ _ _ _ _ _ => rfl) (fun _ _ _ => rfl) (fun y hy => intactDyadicS_ev (hm y hy))
    (eqDyadicSS_ev (by have := small hx; simp at this ⊢; omega) (by intro y hy; obtain ⟨z, hz, rfl⟩ := List.mem_map.1 hy; exact h2 z hz))
theorem intactIntervalSS_ev {x : List (List ((Int × Int) × Int × Int) × List ((Int × Int) × Int × Int)) × List (List ((Int × Int) × Int × Int) × List ((Int × Int) × Int × Int))} (hx : Room x) (hm : ∀ y ∈ x.1, Room y) (h2 : ∀ y ∈ x.2, y.1.length < lenB) : Evt (fun k _ => laws_intactIntervalSS k x x) true :=
  intact_rows (d0 := ([], [])) (Q := laws_intactIntervalS) (E := laws_eqIntervalSS) (L := laws_intactIntervalSS_L122) hx hm (fun _ _ _ _ _ _ => rfl) (fun _ _ _ => rfl) (fun y hy => intactIntervalS_ev (hm y hy))
    (eqIntervalSS_ev (by have := small hx; simp at this ⊢; omega) (by intro y hy; obtain ⟨z, hz, rfl⟩ := List.mem_map.1 hy; exact h2 z hz))
theorem intactTermSS_ev {x : List (List (Int × Int × Int × Int) × List (Int × Int × Int × Int)) × List (List (Int × Int × Int × Int) × List (Int × Int × Int × Int))} (hx : Room x) (hm : ∀ y ∈ x.1, Room y) (h2 : ∀ y ∈ x.2, y.1.length < lenB) : Evt (fun k _ => laws_intactTermSS k x x) true :=
  intact_rows (d0 := ([], [])) (Q := laws_intactTermS) (E := laws_eqTermSS) (L := laws_intactTermSS_L122) hx hm (fun _ _ _ _ _ _ => rfl) (fun _ _ _ => rfl) (fun y hy => intactTermS_ev (hm y hy))
    (eqTermSS_ev (by have := small hx; simp at this ⊢; omega) (by intro y hy; obtain ⟨z, hz, rfl⟩ := List.mem_map.1 hy; exact h2 z hz))

theorem room_toV {β γ : Type} {f : β → γ} {v : γ} {a : List β} (h : a.length ≤ 1000000) : Room (toV f v a false) := by
  refine ⟨?_, ?_⟩
  · simp [toV]
  · simp [toV]; exact h

/-! Marks. -/
def heldAny {γ : Type} (c : Nat) : Nat → List γ → Int → Option Int := fun _ x a => some (a + c * x.length)
theorem nat_mul_sub {c a b : Nat} (h : b < a) : c * (a - b) = c + c * (a - (b + 1)) := by
  obtain ⟨m, rfl⟩ : ∃ m, a = b + 1 + m := ⟨a - (b + 1), by omega⟩
  rw [show b + 1 + m - b = m + 1 by omega, show b + 1 + m - (b + 1) = m by omega, Nat.mul_add, Nat.mul_one, Nat.add_comm]

/-- what is marked, nobody looks -/
theorem mark_only {γ : Type} {M : Nat → Nat → List γ → Int → Int → Option ((Int × List γ) ⊕ (Int × List γ × Unit))} {mark : Nat → List γ → Int → Option (Int × List γ)} {mv : Nat → γ} {c : Nat}
    (hc : 0 < c)
    (hM : ∀ (k n : Nat) (d r : List γ) (e : γ) (a : Nat), a + c < lenB → (d ++ e :: r).length < lenB → M k (n + 1) (d ++ e :: r) a d.length = M k n (d ++ mv a :: r) ((a + c : Nat) : Int) ((d.length + 1 : Nat) : Int))
    (hM0 : ∀ (k n : Nat) (d : List γ) (a : Int), M k (n + 1) d a d.length = some (.inr (a, d, ())))
    (hmark : ∀ k x a, mark k x a = both (R := Int × List γ) (P := Int × List γ × Unit) (M k k x a 0) (fun q => some q) (fun y => some (y.1, y.2.1))) :
    MarkOk mark (heldAny c) (fun x => c * x.length) :=
  mark_all (M := M) (H := fun _ _ x a i => some (.inr (a + c * (x.length - i.toNat : Nat), ()))) (mv := mv) hc hM hM0
    (fun k n d r a h1 h2 => by
      have h : d.length < (d ++ mv a :: r).length := by simp
      have := nat_mul_sub (c := c) h
      simp only [Int.toNat_natCast]
      congr 3
      omega)
    (fun k n d a => by simp) hmark (fun k x a => by simp [heldAny, both])

theorem markIntS_only : MarkOk laws_markIntS (heldAny 1) (fun x => 1 * x.length) :=
  mark_only (M := laws_markIntS_L26) (mv := fun a => (a : Int)) (by omega)
    (fun k n d r e a h1 h2 => by
      rw [laws_markIntS_L26]
      rw [mid_lt, mid_ge, mid_set, w64_next (m := d.length) (by simp at h2; omega), w64_next (m := a) (by omega)]
      rfl)
    (fun k n d a => by rw [laws_markIntS_L26, mid_end]; rfl)
    (fun _ _ _ => rfl)

theorem markDyadicS_ok : MarkOk laws_markDyadicS laws_heldDyadicS (fun x => 2 * x.length) :=
  mark_all (M := laws_markDyadicS_L26) (H := laws_heldDyadicS_L26) (mv := fun a => ((a : Int), ((a + 1 : Nat) : Int))) (by omega)
    (fun k n d r e a h1 h2 => by
      rw [laws_markDyadicS_L26]
      simp only [mid_lt, mid_ge, mid_get, mid_set, cond_true]
      rw [w64_next (m := d.length) (by simp at h2; omega), w64_next (m := a) (by omega), w64_next (m := a + 1) (by omega)])
    (fun k n d a => by rw [laws_markDyadicS_L26, mid_end]; rfl)
    (fun k n d r a h1 h2 => by
      rw [laws_heldDyadicS_L26]
      simp only [mid_lt, mid_ge, mid_get, cond_true]
      have e1 : IntKind.wrap .i64 (((a + 1 : Nat) : Int) + 1) = ((a + 2 : Nat) : Int) := w64_next (m := a + 1) (by omega)
      rw [w64_next (m := d.length) (by simp at h2; omega), w64_next (m := a) (by omega), e1]
      simp only [bne_self_eq_false, cond_false])
    (fun k n d a => by rw [laws_heldDyadicS_L26, mid_end]; rfl)
    (fun _ _ _ => rfl) (fun _ _ _ => rfl)

theorem markIntervalS_ok : MarkOk laws_markIntervalS laws_heldIntervalS (fun x => 4 * x.length) :=
  mark_all (M := laws_markIntervalS_L26) (H := laws_heldIntervalS_L26) (mv := fun a => (((a : Int), ((a + 1 : Nat) : Int)), ((a + 2 : Nat) : Int), ((a + 3 : Nat) : Int))) (by omega)
    (fun k n d r e a h1 h2 => by
      rw [laws_markIntervalS_L26]
      simp only [mid_lt, mid_ge, mid_get, mid_set, cond_true]
      rw [w64_next (m := d.length) (by simp at h2; omega), w64_next (m := a) (by omega), w64_next (m := a + 1) (by omega), w64_next (m := a + 2) (by omega), w64_next (m := a + 3) (by omega)])
    (fun k n d a => by rw [laws_markIntervalS_L26, mid_end]; rfl)
    (fun k n d r a h1 h2 => by
      rw [laws_heldIntervalS_L26]
      simp only [mid_lt, mid_ge, mid_get, cond_true]
      have e1 : IntKind.wrap .i64 (((a + 1 : Nat) : Int) + 1) = ((a + 2 : Nat) : Int) := w64_next (m := a + 1) (by omega)
      have e2 : IntKind.wrap .i64 (((a + 2 : Nat) : Int) + 1) = ((a + 3 : Nat) : Int) := w64_next (m := a + 2) (by omega)
      have e3 : IntKind.wrap .i64 (((a + 3 : Nat) : Int) + 1) = ((a + 4 : Nat) : Int) := w64_next (m := a + 3) (by omega)
      rw [w64_next (m := d.length) (by simp at h2; omega), w64_next (m := a) (by omega), e1, e2, e3]
      simp only [bne_self_eq_false, cond_false])
    (fun k n d a => by rw [laws_heldIntervalS_L26, mid_end]; rfl)
    (fun _ _ _ => rfl) (fun _ _ _ => rfl)

/-! Sizes. -/
theorem szIntS_ev {x : List Int} (hx : x.length ≤ maxLen) {a : Nat} (ha : a ≤ 1000000) : laws_szIntS x a = some (if x.length ≤ a then ((a - x.length : Nat) : Int) else -1) := sz_one (fun _ _ => rfl) hx ha
theorem szDyadicSS_ev {x : List (List (Int × Int))} (hx : x.length ≤ maxLen) (hm : ∀ y ∈ x, y.length ≤ maxLen) {a : Nat} (ha : a ≤ 1000000) :
    Evt (fun k _ => laws_szDyadicSS k x a) (if x.length + (x.map List.length).sum ≤ a then ((a - (x.length + (x.map List.length).sum) : Nat) : Int) else -1) :=
  sz_all (sz := laws_szDyadicS) (S := laws_szDyadicSS_L122) (fun _ _ => rfl) (fun _ _ _ _ _ => rfl) (fun _ _ _ => rfl) hx hm ha
theorem szIntervalSS_ev {x : List (List ((Int × Int) × Int × Int))} (hx : x.length ≤ maxLen) (hm : ∀ y ∈ x, y.length ≤ maxLen) {a : Nat} (ha : a ≤ 1000000) :
    Evt (fun k _ => laws_szIntervalSS k x a) (if x.length + (x.map List.length).sum ≤ a then ((a - (x.length + (x.map List.length).sum) : Nat) : Int) else -1) :=
  sz_all (sz := laws_szIntervalS) (S := laws_szIntervalSS_L122) (fun _ _ => rfl) (fun _ _ _ _ _ => rfl) (fun _ _ _ => rfl) hx hm ha
theorem szTermSS_ev {x : List (List (Int × Int × Int × Int))} (hx : x.length ≤ maxLen) (hm : ∀ y ∈ x, y.length ≤ maxLen) {a : Nat} (ha : a ≤ 1000000) :
    Evt (fun k _ => laws_szTermSS k x a) (if x.length + (x.map List.length).sum ≤ a then ((a - (x.length + (x.map List.length).sum) : Nat) : Int) else -1) :=
  sz_all (sz := laws_szTermS) (S := laws_szTermSS_L122) (fun _ _ => rfl) (fun _ _ _ _ _ => rfl) (fun _ _ _ => rfl) hx hm ha
end Go.Ev.G
namespace Go.Ev.G
open Go Go.Ev
set_option maxRecDepth 100000

/-! Dyadic numbers. -/
def gd (a : Int × Int) : Prop := 0 ≤ a.2 ∧ a.2 ≤ 24 ∧ -1099511627776 ≤ a.1 ∧ a.1 ≤ 1099511627776 ∧ (a.2 = 0 ∨ a.1 % 2 ≠ 0)
instance (a : Int × Int) : Decidable (gd a) := by unfold gd; infer_instance

theorem tmod2 (n : Int) : (Int.tmod n 2 = 0) ↔ n % 2 = 0 := by
  rw [← Int.dvd_iff_tmod_eq_zero, Int.dvd_iff_emod_eq_zero]
theorem tdiv2 {n : Int} (h : n % 2 = 0) : Int.tdiv n 2 = n / 2 := Int.tdiv_eq_ediv_of_dvd (Int.dvd_of_emod_eq_zero h)

theorem l1In_eq (n lo hi : Int) : spec_l1In n lo hi = some (decide (lo ≤ n ∧ n ≤ hi)) := by
  unfold spec_l1In
  by_cases h : lo ≤ n
  · have : decide (n ≥ lo) = true := by simpa using h
    rw [this]; simp [h]
  · have : decide (n ≥ lo) = false := by simpa using h
    rw [this]; simp [h]
theorem inside_eq (n lo hi : Int) : impl_inside n lo hi = some (decide (lo ≤ n ∧ n ≤ hi)) := l1In_eq n lo hi
theorem isPlaces_eq (n : Int) : impl_isPlaces n = some (decide (0 ≤ n ∧ n ≤ 24)) := by
  unfold impl_isPlaces
  rw [inside_eq]; rfl

theorem dyGood_eq (a : Int × Int) : spec_dyGood a = some (decide (gd a)) := by
  unfold spec_dyGood
  rw [l1In_eq, l1In_eq]
  have h0 := tmod2 a.1
  by_cases h1 : 0 ≤ a.2 ∧ a.2 ≤ 24
  · simp only [h1, and_self, decide_true, Option.bind_some, cond_true]
    by_cases h2 : -1099511627776 ≤ a.1 ∧ a.1 ≤ 1099511627776
    · simp only [h2, and_self, decide_true, Option.bind_some, cond_true]
      by_cases h3 : a.2 = 0
      · have : gd a := ⟨h1.1, h1.2, h2.1, h2.2, .inl h3⟩
        simp [h3, this]
      · have e : (a.2 == 0) = false := by simpa using h3
        rw [e]
        by_cases h4 : a.1 % 2 = 0
        · have : ¬ gd a := fun h => by rcases h.2.2.2.2 with h | h <;> contradiction
          simp [h0.2 h4, this]
        · have h5 : gd a := ⟨h1.1, h1.2, h2.1, h2.2, .inr h4⟩
          have : ¬ Int.tmod a.1 2 = 0 := fun h => h4 (h0.1 h)
          simp [this, h5]
    · have : ¬ gd a := fun h => h2 ⟨h.2.2.1, h.2.2.2.1⟩
      simp only [h2, decide_false, Option.bind_some, cond_false, this]
  · have : ¬ gd a := fun h => h1 ⟨h.1, h.2.1⟩
    simp only [h1, decide_false, Option.bind_some, cond_false, this]
theorem isDyadic_eq (a : Int × Int) : impl_isDyadic a = some (decide (gd a)) := by
  rw [← dyGood_eq]
  unfold impl_isDyadic spec_dyGood
  rw [isPlaces_eq, l1In_eq, inside_eq, l1In_eq]

/-- powers of 2 are taken off a numerator, as long as there are places -/
def strip : Nat → Int → Int × Nat
  | 0, n => (n, 0)
  | k + 1, n => if n % 2 = 0 then strip k (n / 2) else (n, k + 1)

def mkD (n : Int) (k : Nat) : (Int × Int) × Bool :=
  if -1099511627776 ≤ (strip k n).1 ∧ (strip k n).1 ≤ 1099511627776 ∧ (strip k n).2 ≤ 24 then (((strip k n).1, ((strip k n).2 : Int)), true) else ((0, 0), false)

theorem strip_form : ∀ (k : Nat) (n : Int), (strip k n).2 = 0 ∨ (strip k n).1 % 2 ≠ 0
  | 0, n => .inl rfl
  | k + 1, n => by
    unfold strip
    split
    · exact strip_form k _
    · rename_i h; exact .inr h
theorem strip_le : ∀ (k : Nat) (n : Int), (strip k n).2 ≤ k
  | 0, n => Nat.le_refl _
  | k + 1, n => by
    unfold strip
    split
    · have := strip_le k (n / 2); omega
    · exact Nat.le_refl _
theorem strip_zero : ∀ (k : Nat), strip k 0 = (0, 0)
  | 0 => rfl
  | k + 1 => by unfold strip; simp [strip_zero k]
theorem strip_neg : ∀ (k : Nat) (n : Int), strip k (-n) = (-(strip k n).1, (strip k n).2)
  | 0, n => rfl
  | k + 1, n => by
    unfold strip
    by_cases h : n % 2 = 0
    · have h' : (-n) % 2 = 0 := by omega
      rw [if_pos h, if_pos h', show -n / 2 = -(n / 2) by omega, strip_neg k]
    · have h' : ¬ (-n) % 2 = 0 := by omega
      rw [if_neg h, if_neg h']
theorem strip_bound : ∀ (k : Nat) (n : Int), 0 ≤ n → 0 ≤ (strip k n).1 ∧ (strip k n).1 ≤ n
  | 0, n, h => ⟨h, Int.le_refl _⟩
  | k + 1, n, h => by
    unfold strip
    split
    · have := strip_bound k (n / 2) (by omega); omega
    · exact ⟨h, Int.le_refl _⟩
theorem strip_ne : ∀ (k : Nat) (n : Int), n ≠ 0 → (strip k n).1 ≠ 0
  | 0, n, h => h
  | k + 1, n, h => by
    unfold strip
    split
    · exact strip_ne k _ (by omega)
    · exact h
theorem strip_odd {k : Nat} {n : Int} (h : n % 2 ≠ 0) : strip k n = (n, k) := by
  cases k with
  | zero => rfl
  | succ k => unfold strip; rw [if_neg h]
/-- the value stays -/
theorem strip_val : ∀ (k : Nat) (n : Int), (strip k n).1 * 2 ^ (k - (strip k n).2) = n
  | 0, n => by simp [strip]
  | k + 1, n => by
    unfold strip
    split
    · rename_i h
      have h1 := strip_val k (n / 2)
      have h2 := strip_le k (n / 2)
      rw [show k + 1 - (strip k (n / 2)).2 = (k - (strip k (n / 2)).2) + 1 by omega, Int.pow_succ, ← Int.mul_assoc, h1]
      omega
    · simp

theorem mkD_gd (n : Int) (k : Nat) : gd (mkD n k).1 := by
  unfold mkD
  split
  · rename_i h
    have := strip_form k n
    refine ⟨by simp, by simp; omega, h.1, h.2.1, ?_⟩
    rcases this with h | h
    · left; simp [h]
    · right; exact h
  · exact ⟨by simp, by simp, by simp, by simp, .inl rfl⟩

theorem mkD_zero (k : Nat) : mkD 0 k = ((0, 0), true) := by simp [mkD, strip_zero]

theorem mkD_self {a : Int × Int} (h : gd a) : mkD a.1 a.2.toNat = (a, true) := by
  obtain ⟨n, k⟩ := a
  obtain ⟨h1, h2, h3, h4, h5⟩ := h
  simp only at *
  obtain ⟨m, rfl⟩ := Int.eq_ofNat_of_zero_le h1
  have e : strip m n = (n, m) := by
    rcases h5 with h5 | h5
    · have : m = 0 := by omega
      subst this; rfl
    · exact strip_odd h5
  simp only [Int.toNat_natCast, mkD, e]
  rw [if_pos ⟨h3, h4, by omega⟩]

/-! The reference's way. -/
theorem dyMake_loop : ∀ (m : Nat) (n : Int) (z : Int × Int), -9223372036854775808 < n → n < 9223372036854775808 → m < 9223372036854775808 →
    Evt (fun k q => spec_dyMake_L28 k q n m z) (.inr ((strip m n).1, ((strip m n).2 : Int), z, ()))
  | 0, n, z, _, _, _ => Evt.step (fun k q => spec_dyMake_L28.eq_2 k n _ z q) (Evt.cfalse (by simp) .pure)
  | m + 1, n, z, h1, h2, h3 => by
    refine Evt.step (fun k q => spec_dyMake_L28.eq_2 k n _ z q) (Evt.ctrue (by simp <;> omega) ?_)
    by_cases h : n % 2 = 0
    · refine Evt.ctrue (by simp [(tmod2 n).2 h]) ?_
      rw [tdiv2 h, w64 (by omega) (by omega), show ((m + 1 : Nat) : Int) - 1 = (m : Int) by omega, w64 (by omega) (by omega)]
      have := dyMake_loop m (n / 2) z (by omega) (by omega) (by omega)
      rw [strip, if_pos h]
      exact this
    · have h' : ¬ Int.tmod n 2 = 0 := fun e => h ((tmod2 n).1 e)
      refine Evt.cfalse (by simp [h']) ?_
      rw [strip, if_neg h]
      exact .pure

theorem dyMake_ev {n : Int} {m : Nat} (h1 : -9223372036854775808 < n) (h2 : n < 9223372036854775808) (h3 : m < 9223372036854775808) : Evt (fun k _ => spec_dyMake k n m) (mkD n m) := by
  refine Evt.eq (f := fun k q => _) ?_ (fun k q => by rw [spec_dyMake])
  have key : ∀ (m' : Nat), strip m' n = strip m n → m' ≤ m → Evt (fun k q => both (R := (Int × Int) × Bool) (P := Int × Int × (Int × Int) × Unit) (spec_dyMake_L28 k k n m' (0, 0)) (fun q4 => some q4) (fun y3 => (Option.bind (spec_dyGood (y3.1, y3.2.1)) fun r5 => (bif (!r5) then some ((0, 0), false) else some ((y3.1, y3.2.1), true))))) (mkD n m) := by
    intro m' hm hle
    refine Evt.inr (Evt.diag (dyMake_loop m' n (0, 0) h1 h2 (by omega))) ?_
    simp only [dyGood_eq, Option.bind_some, hm]
    have hf := strip_form m n
    unfold mkD
    by_cases hg : -1099511627776 ≤ (strip m n).1 ∧ (strip m n).1 ≤ 1099511627776 ∧ (strip m n).2 ≤ 24
    · rw [if_pos hg]
      have : gd ((strip m n).1, ((strip m n).2 : Int)) := ⟨by simp, by simp; omega, hg.1, hg.2.1, by rcases hf with h | h; left; simp [h]; right; exact h⟩
      simp only [this, decide_true, Bool.not_true]
      exact Evt.cfalse rfl .pure
    · rw [if_neg hg]
      have : ¬ gd ((strip m n).1, ((strip m n).2 : Int)) := fun h => hg ⟨h.2.2.1, h.2.2.2.1, by have := h.2.1; simp at this; omega⟩
      simp only [this, decide_false, Bool.not_false]
      exact Evt.ctrue rfl .pure
  by_cases h0 : n = 0
  · subst h0
    refine Evt.inr (y := ((0 : Int), (0 : Int), ((0, 0) : Int × Int), ())) ?_ (key 0 (by rw [strip_zero, strip_zero]) (by omega))
    by_cases hm : m = 0
    · subst hm; exact .const rfl
    · have : decide ((m : Int) > 0) = true := by simp; omega
      refine .const ?_
      simp only [this]; rfl
  · refine Evt.inr (y := (n, (m : Int), ((0, 0) : Int × Int), ())) (.const ?_) (key m rfl (Nat.le_refl _))
    have : (n == 0) = false := by simpa using h0
    simp only [this]; rfl

/-- a numerator over more places; what is too large is told -/
def atV : Nat → Int → Int × Bool
  | 0, n => (n, true)
  | m + 1, n => if -1152921504606846976 ≤ n ∧ n ≤ 1152921504606846976 then atV m (n * 2) else (0, false)

theorem dyPower_eq {m : Nat} (h : m ≤ 62) : spec_dyPower m = some (((2 ^ m : Nat) : Int)) := by
  unfold spec_dyPower
  have h1 : IntKind.wrap .u64 (m : Int) = m := wu64 (by omega) (by omega)
  have h2 : min (Int.toNat (m : Int)) (IntKind.bits .i64) = m := by simp [IntKind.bits]; omega
  rw [h1, h2]
  have h3 : (2 : Nat) ^ m ≤ 4611686018427387904 := Nat.pow_le_pow_right (n := 2) (by omega) h
  have h4 : (1 : Int) * 2 ^ m = ((2 ^ m : Nat) : Int) := by simp
  have h5 : decide ((m : Int) < 0) = false := by simp
  rw [h4]
  generalize 2 ^ m = p at *
  rw [w64 (by omega) (by omega), h5]
  rfl

theorem dyPower60 : spec_dyPower 60 = some 1152921504606846976 := by
  have := dyPower_eq (m := 60) (by omega)
  simpa using this

theorem dyAt_loop (K j : Int) : ∀ (m : Nat) (n : Int) (i : Nat), K = i + m → K < 1000000 → -4611686018427387904 ≤ n → n ≤ 4611686018427387904 →
    Evt (fun k q => spec_dyAt_L58 k q K (n, j) i) (if (atV m n).2 then .inr (((atV m n).1, j), ()) else .inl (0, false)) := by
  intro m
  induction m with
  | zero =>
    intro n i hK hi _ _
    refine Evt.step (fun k q => spec_dyAt_L58.eq_2 k K (n, j) i q) (Evt.cfalse (by simp; omega) ?_)
    simp only [atV, if_true]
    exact .pure
  | succ m ih =>
    intro n i hK hi h1 h2
    refine Evt.step (fun k q => spec_dyAt_L58.eq_2 k K (n, j) i q) (Evt.ctrue (by simp; omega) ?_)
    refine Evt.bind (.const dyPower60) (Evt.bind (.const dyPower60) ?_)
    have hw : IntKind.wrap .i64 (0 - 1152921504606846976) = -1152921504606846976 := by rw [w64] <;> omega
    rw [hw]
    refine Evt.bind (.const (l1In_eq _ _ _)) ?_
    unfold atV
    by_cases hn : -1152921504606846976 ≤ n ∧ n ≤ 1152921504606846976
    · refine Evt.cfalse (by simp [hn]) ?_
      rw [if_pos hn, w64 (n := n * 2) (by omega) (by omega), w64_next (by simp only [lenB]; omega)]
      exact ih (n * 2) (i + 1) (by omega) hi (by omega) (by omega)
    · refine Evt.ctrue (by rw [decide_eq_false hn]; rfl) ?_
      rw [if_neg hn]
      exact .pure

theorem atV_zero : ∀ m, atV m 0 = (0, true)
  | 0 => rfl
  | m + 1 => by unfold atV; simp [atV_zero m]

theorem dyAt_ev {n : Int} {j K : Nat} (hjK : j ≤ K) (hK : K < 1000) (h1 : -4611686018427387904 ≤ n) (h2 : n ≤ 4611686018427387904) : Evt (fun k _ => spec_dyAt k (n, j) K) (atV (K - j) n) := by
  refine Evt.eq (f := fun k q => _) ?_ (fun k q => by rw [spec_dyAt])
  by_cases h0 : n = 0
  · subst h0
    rw [atV_zero]
    exact Evt.ctrue (by simp) .pure
  · refine Evt.cfalse (by simpa using h0) ?_
    have := dyAt_loop K j (K - j) n j (by omega) (by omega) h1 h2
    cases hb : (atV (K - j) n).2 with
    | true =>
      rw [hb] at this
      refine Evt.inr (Evt.diag this) (.const ?_)
      simp only
      rw [← hb]
    | false =>
      rw [hb] at this
      have hz : ∀ (m : Nat) (n : Int), (atV m n).2 = false → atV m n = (0, false) := by
        intro m
        induction m with
        | zero => intro n h; simp [atV] at h
        | succ m ih =>
          intro n h
          unfold atV at h ⊢
          split at h
          · rename_i hc; rw [if_pos hc]; exact ih _ h
          · rename_i hc; rw [if_neg hc]
      rw [hz _ _ hb]
      exact Evt.inl (Evt.diag this) .pure

theorem atV_true : ∀ (m : Nat) (n : Int), (atV m n).2 = true → (atV m n).1 = n * 2 ^ m
  | 0, n, _ => by simp [atV]
  | m + 1, n, h => by
    unfold atV at h ⊢
    split at h
    · rename_i hc
      rw [if_pos hc, atV_true m _ h, Int.pow_succ, Int.mul_assoc, Int.mul_comm 2]
    · cases h
theorem atV_small : ∀ (m : Nat) (n : Int), -1152921504606846976 ≤ n * 2 ^ m → n * 2 ^ m ≤ 1152921504606846976 → (atV m n).2 = true
  | 0, n, _, _ => rfl
  | m + 1, n, h1, h2 => by
    have e : n * 2 ^ (m + 1) = n * 2 * 2 ^ m := by rw [Int.pow_succ, Int.mul_assoc, Int.mul_comm 2]
    have hp : (1 : Int) ≤ 2 ^ m := by have := Int.pow_pos (n := 2) (m := m) (by omega); omega
    unfold atV
    rw [if_pos]
    · exact atV_small m (n * 2) (by rw [← e]; exact h1) (by rw [← e]; exact h2)
    · rw [e] at h1 h2
      constructor
      · rcases Int.le_total 0 n with h | h
        · omega
        · have : n * 2 * 2 ^ m ≤ n * 2 * 1 := Int.mul_le_mul_of_nonpos_left (by omega) hp
          omega
      · rcases Int.le_total 0 n with h | h
        · have : n * 2 * 1 ≤ n * 2 * 2 ^ m := Int.mul_le_mul_of_nonneg_left hp (by omega)
          omega
        · omega
/-- what is too large, is large -/
theorem atV_large : ∀ (m : Nat) (n : Int), (atV m n).2 = false → 0 < m ∧ (n * 2 ^ m < -1152921504606846976 ∨ 1152921504606846976 < n * 2 ^ m)
  | m, n, h => by
    refine ⟨?_, ?_⟩
    · cases m with
      | zero => simp [atV] at h
      | succ m => omega
    · rcases Int.lt_or_le (n * 2 ^ m) (-1152921504606846976) with h1 | h1
      · exact .inl h1
      · rcases Int.lt_or_le 1152921504606846976 (n * 2 ^ m) with h2 | h2
        · exact .inr h2
        · rw [atV_small m n h1 h2] at h; cases h
end Go.Ev.G
namespace Go.Ev.G
open Go Go.Ev
set_option maxRecDepth 100000

def exA (a b : Int × Int) : Nat := max a.2.toNat b.2.toNat
def sumN (a b : Int × Int) : Int := a.1 * 2 ^ (exA a b - a.2.toNat) + b.1 * 2 ^ (exA a b - b.2.toNat)
def sumD (a b : Int × Int) : (Int × Int) × Bool := mkD (sumN a b) (exA a b)

theorem most_eq (a b : Int) : spec_l1Most a b = some (max a b) := by
  unfold spec_l1Most
  by_cases h : a > b
  · have : decide (a > b) = true := by simpa using h
    rw [this]; simp only [cond_true]; congr 1; omega
  · have : decide (a > b) = false := by simpa using h
    rw [this]; simp only [cond_false]; congr 1; omega

theorem exA_eq {a b : Int × Int} (ha : gd a) (hb : gd b) : max a.2 b.2 = ((exA a b : Nat) : Int) := by
  have h1 := ha.1
  have h2 := hb.1
  unfold exA
  omega

theorem pow_mono (m : Nat) (h : m ≤ 24) : (1 : Int) ≤ 2 ^ m ∧ (2 : Int) ^ m ≤ 16777216 := by
  have h1 : (2 : Nat) ^ m ≤ 2 ^ 24 := Nat.pow_le_pow_right (by omega) h
  have h2 : (0 : Nat) < 2 ^ m := Nat.pow_pos (by omega)
  have h3 : ((2 ^ m : Nat) : Int) = (2 : Int) ^ m := by simp
  rw [← h3]
  omega

/-- a bound of a product with a power -/
theorem mul_pow_bound {n : Int} {m : Nat} (h : m ≤ 24) {B : Int} (hB : 0 ≤ B) (h1 : -B ≤ n) (h2 : n ≤ B) : -(B * 16777216) ≤ n * 2 ^ m ∧ n * 2 ^ m ≤ B * 16777216 := by
  have hp := pow_mono m h
  constructor
  · rcases Int.le_total 0 n with hn | hn
    · have : 0 ≤ n * 2 ^ m := Int.mul_nonneg hn (by omega)
      have : 0 ≤ B * 16777216 := Int.mul_nonneg hB (by omega)
      omega
    · have e1 : n * 16777216 ≤ n * 2 ^ m := Int.mul_le_mul_of_nonpos_left hn hp.2
      omega
  · rcases Int.le_total 0 n with hn | hn
    · have e1 : n * 2 ^ m ≤ n * 16777216 := Int.mul_le_mul_of_nonneg_left hp.2 hn
      omega
    · have : n * 2 ^ m ≤ 0 := Int.mul_nonpos_of_nonpos_of_nonneg hn (by omega)
      have : 0 ≤ B * 16777216 := Int.mul_nonneg hB (by omega)
      omega

theorem mkD_odd {n : Int} {k : Nat} (h : n % 2 ≠ 0) (hl : n < -1099511627776 ∨ 1099511627776 < n) : mkD n k = ((0, 0), false) := by
  unfold mkD
  rw [strip_odd h]
  rw [if_neg]
  intro hc
  have := hc.1
  have := hc.2.1
  simp at *
  omega

theorem even_pow {n : Int} {m : Nat} (h : 0 < m) : (n * 2 ^ m) % 2 = 0 := by
  obtain ⟨q, rfl⟩ : ∃ q, m = q + 1 := ⟨m - 1, by omega⟩
  rw [Int.pow_succ, ← Int.mul_assoc]
  omega

theorem dyAdd_ev {a b : Int × Int} (ha : gd a) (hb : gd b) : Evt (fun k _ => spec_dyAdd k a b) (sumD a b) := by
  obtain ⟨n, j⟩ := a
  obtain ⟨m, i⟩ := b
  obtain ⟨a1, a2, a3, a4, a5⟩ := ha
  obtain ⟨b1, b2, b3, b4, b5⟩ := hb
  simp only at *
  obtain ⟨j, rfl⟩ := Int.eq_ofNat_of_zero_le a1
  obtain ⟨i, rfl⟩ := Int.eq_ofNat_of_zero_le b1
  refine Evt.eq (f := fun k q => _) ?_ (fun k q => by rw [spec_dyAdd])
  refine Evt.bind (.const (most_eq _ _)) ?_
  have hmax : max ((j : Nat) : Int) (i : Int) = ((max j i : Nat) : Int) := by omega
  simp only [hmax]
  have e : sumD (n, (j : Int)) (m, (i : Int)) = mkD (n * 2 ^ (max j i - j) + m * 2 ^ (max j i - i)) (max j i) := by simp [sumD, sumN, exA]
  rw [e]
  refine Evt.bind (dyAt_ev (by omega) (by omega) (by omega) (by omega)) (Evt.bind (dyAt_ev (by omega) (by omega) (by omega) (by omega)) ?_)
  have hbn := mul_pow_bound (n := n) (m := max j i - j) (by omega) (B := 1099511627776) (by omega) a3 a4
  have hbm := mul_pow_bound (n := m) (m := max j i - i) (by omega) (B := 1099511627776) (by omega) b3 b4
  cases h1 : (atV (max j i - j) n).2 with
  | false =>
    refine Evt.ctrue rfl ?_
    obtain ⟨hpos, hl⟩ := atV_large _ _ h1
    have hij : max j i = i := by omega
    have hodd : m % 2 ≠ 0 := by
      rcases b5 with h | h
      · omega
      · exact h
    have hev := even_pow (n := n) hpos
    rw [hij] at hl hev ⊢
    simp only [Nat.sub_self, Int.pow_zero, Int.mul_one]
    rw [mkD_odd (by omega) (by omega)]
    exact .pure
  | true =>
    refine Evt.cfalse rfl ?_
    cases h2 : (atV (max j i - i) m).2 with
    | false =>
      refine Evt.ctrue rfl ?_
      obtain ⟨hpos, hl⟩ := atV_large _ _ h2
      have hij : max j i = j := by omega
      have hodd : n % 2 ≠ 0 := by
        rcases a5 with h | h
        · omega
        · exact h
      have hev := even_pow (n := m) hpos
      rw [hij] at hl hev ⊢
      simp only [Nat.sub_self, Int.pow_zero, Int.mul_one]
      rw [mkD_odd (by omega) (by omega)]
      exact .pure
    | true =>
      refine Evt.cfalse rfl ?_
      rw [atV_true _ _ h1, atV_true _ _ h2]
      -- neither is too large: the sum fits
      have hsum : -9223372036854775808 < n * 2 ^ (max j i - j) + m * 2 ^ (max j i - i) ∧ n * 2 ^ (max j i - j) + m * 2 ^ (max j i - i) < 9223372036854775808 := by
        have g1 : ∀ (q : Nat) (z : Int), -1099511627776 ≤ z → z ≤ 1099511627776 → (atV q z).2 = true → -2305843009213693952 ≤ z * 2 ^ q ∧ z * 2 ^ q ≤ 2305843009213693952 := by
          intro q
          induction q with
          | zero => intro z h1 h2 _; simp; omega
          | succ q ih =>
            intro z _ _ h
            have key : ∀ (q : Nat) (z : Int), (atV (q + 1) z).2 = true → -1152921504606846976 ≤ z * 2 ^ q ∧ z * 2 ^ q ≤ 1152921504606846976 := by
              intro q
              induction q with
              | zero =>
                intro z h
                unfold atV at h
                split at h
                · rename_i hc; simpa using hc
                · cases h
              | succ q ih =>
                intro z h
                unfold atV at h
                split at h
                · have := ih (z * 2) h
                  rw [show z * 2 ^ (q + 1) = z * 2 * 2 ^ q by rw [Int.pow_succ, Int.mul_assoc, Int.mul_comm 2]]
                  exact this
                · cases h
            have := key q z h
            rw [Int.pow_succ, ← Int.mul_assoc]
            omega
        have u1 := g1 _ _ a3 a4 h1
        have u2 := g1 _ _ b3 b4 h2
        omega
      rw [w64 (by omega) (by omega)]
      exact Evt.bind (dyMake_ev hsum.1 hsum.2 (by omega)) .pure

theorem sumD_gd (a b : Int × Int) : gd (sumD a b).1 := mkD_gd _ _

theorem sumD_zero {x : Int × Int} (h : gd x) : sumD (0, 0) x = (x, true) := by
  have e : exA (0, 0) x = x.2.toNat := by simp [exA]
  have e2 : sumN (0, 0) x = x.1 := by simp [sumN, e]
  rw [sumD, e, e2, mkD_self h]
end Go.Ev.G
namespace Go.Ev.G
open Go Go.Ev
set_option maxRecDepth 100000

/-! The program's way: numbers of 128 bits with a sign. -/
def B64 : Nat := 18446744073709551616
def wN (neg : Bool) (M : Nat) : Bool × Int × Int := (neg, ((M / B64 : Nat) : Int), ((M % B64 : Nat) : Int))
def wV (neg : Bool) (M : Nat) : Int := if neg then -(M : Int) else M

theorem wu64_mod (n : Nat) : IntKind.wrap .u64 (n : Int) = ((n % B64 : Nat) : Int) := by
  rw [IntKind.wrap_u64]; simp [B64]

theorem size_eq {n : Int} (h1 : -9223372036854775808 < n) (h2 : n < 9223372036854775808) : impl_size n = some (n.natAbs : Int) := by
  unfold impl_size
  by_cases h : n < 0
  · have : decide (n < 0) = true := by simpa using h
    have e1 : IntKind.wrap .i64 (0 - n) = -n := by rw [w64] <;> omega
    have e2 : IntKind.wrap .u64 (-n) = -n := by rw [wu64] <;> omega
    rw [this, e1, e2]
    simp only [cond_true]; congr 1; omega
  · have : decide (n < 0) = false := by simpa using h
    have e2 : IntKind.wrap .u64 n = n := by rw [wu64] <;> omega
    rw [this, e2]
    simp only [cond_false]; congr 1; omega

theorem wideOf_eq {n : Int} (h1 : -9223372036854775808 < n) (h2 : n < 9223372036854775808) : impl_wideOf n = some (wN (decide (n < 0)) n.natAbs) := by
  unfold impl_wideOf wN
  rw [size_eq h1 h2]
  simp only [Option.bind_some]
  have e1 : n.natAbs / B64 = 0 := Nat.div_eq_of_lt (by simp only [B64]; omega)
  have e2 : n.natAbs % B64 = n.natAbs := Nat.mod_eq_of_lt (by simp only [B64]; omega)
  rw [e1, e2]; rfl

theorem wV_of (n : Int) : wV (decide (n < 0)) n.natAbs = n := by
  unfold wV
  by_cases h : n < 0
  · simp [h]; omega
  · simp [h]; omega

theorem or_add {a b : Nat} (i : Nat) (hb : b < 2 ^ i) (ha : a * 2 ^ i < B64) : (a * 2 ^ i) ||| b = a * 2 ^ i + b := by
  have := Nat.shiftLeft_add_eq_or_of_lt hb a
  rw [Nat.shiftLeft_eq] at this
  exact this.symm

theorem orw {a b : Nat} (ha : a < B64) (hb : b < B64) : (BitVec.toNat (BitVec.ofInt (IntKind.bits .u64) (a : Int) ||| BitVec.ofInt (IntKind.bits .u64) (b : Int)) : Int) = ((a ||| b : Nat) : Int) := by
  have key : ∀ c : Nat, c < B64 → (BitVec.ofInt (IntKind.bits .u64) (c : Int)).toNat = c := by
    intro c hc
    simp only [B64] at hc
    rw [BitVec.toNat_ofInt]
    simp only [IntKind.bits]
    omega
  rw [BitVec.toNat_or, key a ha, key b hb]

theorem fdiv_pow (a m : Nat) : Int.fdiv (a : Int) (2 ^ m) = ((a / 2 ^ m : Nat) : Int) := by
  rw [show (2 : Int) ^ m = ((2 ^ m : Nat) : Int) by simp]
  rw [Int.fdiv_eq_ediv_of_nonneg _ (Int.natCast_nonneg _)]
  exact (Int.natCast_ediv a (2 ^ m)).symm
theorem mul_powN (a m : Nat) : (a : Int) * 2 ^ m = ((a * 2 ^ m : Nat) : Int) := by simp

/-- to the left -/
theorem shl_eq {neg : Bool} {M s : Nat} (hs : s < 64) (hM : M * 2 ^ s < B64 * B64) : impl_wide_shift (wN neg M) s = some (wN neg (M * 2 ^ s)) := by
  have hp : 0 < 2 ^ s := Nat.pow_pos (by omega)
  have h64 : 2 ^ s * 2 ^ (64 - s) = B64 := by
    rw [← Nat.pow_add, show s + (64 - s) = 64 by omega]; rfl
  unfold impl_wide_shift
  have c1 : decide ((s : Int) ≥ 0) = true := by simp
  have c2 : decide ((s : Int) ≥ 64) = false := by simp; omega
  have c3 : decide ((s : Int) < 0) = false := by simp
  have w1 : IntKind.wrap .i64 (64 - (s : Int)) = ((64 - s : Nat) : Int) := by rw [w64] <;> omega
  have c4 : decide (((64 - s : Nat) : Int) < 0) = false := by simp
  rw [c1, c2, c3, w1, c4]
  simp only [cond_true, cond_false]
  have m1 : min (Int.toNat (s : Int)) (IntKind.bits .u64) = s := by simp [IntKind.bits]; omega
  have m2 : min (Int.toNat ((64 - s : Nat) : Int)) (IntKind.bits .u64) = 64 - s := by simp [IntKind.bits]
  rw [m1, m2]
  simp only [wN]
  rw [mul_powN, mul_powN, fdiv_pow, wu64_mod (M / B64 * 2 ^ s)]
  have hlo : M % B64 < B64 := Nat.mod_lt _ (by simp [B64])
  have hdiv : M % B64 / 2 ^ (64 - s) < 2 ^ s := by
    apply Nat.div_lt_of_lt_mul
    rw [Nat.mul_comm, h64]; exact hlo
  have hhi : M / B64 * 2 ^ s < B64 := by
    have h1 : M / B64 * B64 ≤ M := Nat.div_mul_le_self M B64
    have h2 : M / B64 * 2 ^ s * B64 ≤ M * 2 ^ s := by
      rw [Nat.mul_right_comm]; exact Nat.mul_le_mul_right _ h1
    exact Nat.lt_of_mul_lt_mul_right (Nat.lt_of_le_of_lt h2 hM)
  rw [Nat.mod_eq_of_lt hhi, orw hhi (Nat.lt_of_lt_of_le hdiv (by rw [← h64]; exact Nat.le_mul_of_pos_right _ (Nat.pow_pos (by omega)))), or_add s hdiv hhi, wu64_mod, wu64_mod]
  have e : M * 2 ^ s = (M / B64 * 2 ^ s + M % B64 / 2 ^ (64 - s)) * B64 + (M % B64 * 2 ^ s) % B64 := by
    have e1 : M = M / B64 * B64 + M % B64 := by rw [Nat.mul_comm]; exact (Nat.div_add_mod M B64).symm
    have e2 : M % B64 * 2 ^ s / B64 = M % B64 / 2 ^ (64 - s) := by
      rw [← h64, Nat.mul_comm (M % (2 ^ s * 2 ^ (64 - s)))]
      exact Nat.mul_div_mul_left _ _ hp
    have e3 : M % B64 * 2 ^ s = M % B64 / 2 ^ (64 - s) * B64 + (M % B64 * 2 ^ s) % B64 := by
      have := Nat.div_add_mod (M % B64 * 2 ^ s) B64
      rw [e2, Nat.mul_comm B64] at this
      exact this.symm
    have e4 : M * 2 ^ s = M / B64 * 2 ^ s * B64 + M % B64 * 2 ^ s := by
      conv => lhs; rw [e1]
      rw [Nat.add_mul, Nat.mul_right_comm]
    rw [Nat.add_mul, Nat.add_assoc, ← e3]
    exact e4
  have hlt : (M % B64 * 2 ^ s) % B64 < B64 := Nat.mod_lt _ (by simp [B64])
  have f1 : M * 2 ^ s / B64 = M / B64 * 2 ^ s + M % B64 / 2 ^ (64 - s) := by
    rw [e, Nat.mul_comm, Nat.mul_add_div (by simp [B64]), Nat.div_eq_of_lt hlt, Nat.add_zero]
  have f2 : M * 2 ^ s % B64 = (M % B64 * 2 ^ s) % B64 := by
    conv => lhs; rw [e]
    rw [Nat.mul_comm, Nat.mul_add_mod, Nat.mod_mod]
  rw [f1, f2]
  have f3 : M / B64 * 2 ^ s + M % B64 / 2 ^ (64 - s) < B64 := by
    rw [← f1]
    exact Nat.div_lt_of_lt_mul hM
  rw [Nat.mod_eq_of_lt f3]

/-- to the right -/
theorem shr_eq {neg : Bool} {M j : Nat} (hj : 0 < j) (hs : j < 64) (hM : M < B64 * B64) : impl_wide_shift (wN neg M) (-(j : Int)) = some (wN neg (M / 2 ^ j)) := by
  have hp : 0 < 2 ^ j := Nat.pow_pos (by omega)
  have h64 : 2 ^ (64 - j) * 2 ^ j = B64 := by
    rw [← Nat.pow_add, show 64 - j + j = 64 by omega]; rfl
  unfold impl_wide_shift
  have c1 : decide (-(j : Int) ≥ 0) = false := by simp; omega
  have w0 : IntKind.wrap .i64 (0 - -(j : Int)) = (j : Int) := by rw [w64] <;> omega
  have c2 : decide ((j : Int) ≥ 64) = false := by simp; omega
  have c3 : decide ((j : Int) < 0) = false := by simp
  have w1 : IntKind.wrap .i64 (64 - (j : Int)) = ((64 - j : Nat) : Int) := by rw [w64] <;> omega
  have c4 : decide (((64 - j : Nat) : Int) < 0) = false := by simp
  rw [c1]
  simp only [cond_false, w0, c2, c3, w1, c4]
  have m1 : min (Int.toNat (j : Int)) (IntKind.bits .u64) = j := by simp [IntKind.bits]; omega
  have m2 : min (Int.toNat ((64 - j : Nat) : Int)) (IntKind.bits .u64) = 64 - j := by simp [IntKind.bits]
  rw [m1, m2]
  simp only [wN]
  rw [mul_powN, fdiv_pow, fdiv_pow, wu64_mod (M / B64 * 2 ^ (64 - j))]
  have hlo : M % B64 < B64 := Nat.mod_lt _ (by simp [B64])
  have hhi : M / B64 < B64 := Nat.div_lt_of_lt_mul hM
  -- the high part's low bits
  have hq : (M / B64 * 2 ^ (64 - j)) % B64 = (M / B64 % 2 ^ j) * 2 ^ (64 - j) := by
    rw [← h64, Nat.mul_comm (M / (2 ^ (64 - j) * 2 ^ j)), Nat.mul_mod_mul_left, Nat.mul_comm]
  have hdiv : M % B64 / 2 ^ j < 2 ^ (64 - j) := by
    apply Nat.div_lt_of_lt_mul
    rw [Nat.mul_comm, h64]; exact hlo
  have hql : (M / B64 % 2 ^ j) * 2 ^ (64 - j) < B64 := by
    rw [← h64, Nat.mul_comm]
    exact Nat.mul_lt_mul_of_pos_left (Nat.mod_lt _ hp) (Nat.pow_pos (by omega))
  rw [hq, orw (Nat.lt_of_lt_of_le hdiv (by rw [← h64]; exact Nat.le_mul_of_pos_right _ hp)) hql, Nat.or_comm, or_add (64 - j) hdiv hql, wu64_mod]
  have f1 : M / 2 ^ j / B64 = M / B64 / 2 ^ j := by rw [Nat.div_div_eq_div_mul, Nat.div_div_eq_div_mul, Nat.mul_comm]
  have f2 : M / 2 ^ j % B64 = (M / B64 % 2 ^ j) * 2 ^ (64 - j) + M % B64 / 2 ^ j := by
    have e1 : M = (M / B64 / 2 ^ j * 2 ^ j + M / B64 % 2 ^ j) * B64 + M % B64 := by
      have a1 := Nat.div_add_mod M B64
      have a2 := Nat.div_add_mod (M / B64) (2 ^ j)
      rw [Nat.mul_comm (M / B64 / 2 ^ j), a2, Nat.mul_comm]
      exact a1.symm
    have e2 : M / 2 ^ j = M / B64 / 2 ^ j * B64 + ((M / B64 % 2 ^ j) * 2 ^ (64 - j) + M % B64 / 2 ^ j) := by
      have e3 : M = 2 ^ j * (M / B64 / 2 ^ j * B64 + (M / B64 % 2 ^ j) * 2 ^ (64 - j)) + M % B64 := by
        conv => lhs; rw [e1]
        have e5 : ∀ a : Nat, a * B64 = 2 ^ j * (a * 2 ^ (64 - j)) := fun a => by
            rw [Nat.mul_left_comm, Nat.mul_comm (2 ^ j), h64]
        rw [Nat.add_mul, e5 (M / B64 % 2 ^ j), Nat.mul_add, Nat.mul_comm (M / B64 / 2 ^ j) (2 ^ j), Nat.mul_assoc]
      conv => lhs; rw [e3]
      rw [Nat.mul_add_div hp, Nat.add_assoc]
    rw [e2, Nat.mul_comm (M / B64 / 2 ^ j), Nat.mul_add_mod, Nat.mod_eq_of_lt]
    have := Nat.mod_lt (M / B64) hp
    have h3 : (M / B64 % 2 ^ j + 1) * 2 ^ (64 - j) ≤ B64 := Nat.le_trans (Nat.mul_le_mul_right _ this) (by rw [Nat.mul_comm, h64]; exact Nat.le_refl _)
    rw [Nat.add_mul, Nat.one_mul] at h3
    omega
  rw [f1, f2]
  have f3 : (M / B64 % 2 ^ j) * 2 ^ (64 - j) + M % B64 / 2 ^ j < B64 := by rw [← f2]; exact Nat.mod_lt _ (by simp [B64])
  rw [Nat.mod_eq_of_lt f3]
end Go.Ev.G
namespace Go.Ev.G
open Go Go.Ev
set_option maxRecDepth 100000

def cmpI (a b : Int) : Int := if a < b then -1 else if b < a then 1 else 0

theorem cmpU_eq (a b : Int) : cmp_Compare_uint64 a b = some (cmpI a b) := by
  unfold cmp_Compare_uint64 cmp_isNaN_uint64 cmpI
  by_cases h1 : a < b
  · have : decide (a < b) = true := by simpa using h1
    simp [h1]
  · by_cases h2 : b < a
    · simp [h1, h2]
    · simp [h1, h2]

def orI (x y : Int) : Int := bif x == 0 then y else x
theorem orI_ne {x : Int} (h : x ≠ 0) (y : Int) : orI x y = x := by
  have : (x == 0) = false := by simpa using h
  rw [orI, this]; rfl
theorem orI_z (y : Int) : orI 0 y = y := rfl

theorem or2_ev (x y : Int) : Evt (fun k _ => cmp_Or_int k [x, y]) (orI x y) := by
  refine Evt.eq (f := fun k q => _) ?_ (fun k q => by rw [cmp_Or_int])
  have step : ∀ (i : Nat) (F : Nat → Nat → Option _) r, (∀ k q, cmp_Or_int_L58 k (q + 1) 0 [x, y] ([x, y].length : Int) i = F k q) → Evt F r → Evt (fun k q => cmp_Or_int_L58 k q 0 [x, y] ([x, y].length : Int) i) r := fun i F r h h' => Evt.step h h'
  by_cases hx : x = 0
  · subst hx
    by_cases hy : y = 0
    · subst hy
      refine Evt.inr (y := (0, ())) (Evt.diag (f := fun k q => cmp_Or_int_L58 k q 0 [0, 0] ([0, 0].length : Int) 0) ?_) .pure
      refine step 0 _ _ (fun k q => cmp_Or_int_L58.eq_2 k _ _ _ _ q) ?_
      refine Evt.ctrue rfl (Evt.ctrue rfl (Evt.ctrue rfl (Evt.cfalse rfl ?_)))
      refine step 1 _ _ (fun k q => cmp_Or_int_L58.eq_2 k _ _ _ _ q) ?_
      refine Evt.ctrue rfl (Evt.ctrue rfl (Evt.ctrue rfl (Evt.cfalse rfl ?_)))
      refine step 2 _ _ (fun k q => cmp_Or_int_L58.eq_2 k _ _ _ _ q) ?_
      exact Evt.cfalse rfl .pure
    · refine Evt.inl (q := y) (Evt.diag (f := fun k q => cmp_Or_int_L58 k q 0 [0, y] ([0, y].length : Int) 0) ?_) (by rw [orI_z]; exact .pure)
      refine step 0 _ _ (fun k q => cmp_Or_int_L58.eq_2 k _ _ _ _ q) ?_
      refine Evt.ctrue rfl (Evt.ctrue rfl (Evt.ctrue rfl (Evt.cfalse rfl ?_)))
      refine step 1 _ _ (fun k q => cmp_Or_int_L58.eq_2 k _ _ _ _ q) ?_
      refine Evt.ctrue rfl (Evt.ctrue rfl (Evt.ctrue rfl (Evt.ctrue ?_ .pure)))
      show (y != 0) = true
      simpa using hy
  · refine Evt.inl (q := x) (Evt.diag (f := fun k q => cmp_Or_int_L58 k q 0 [x, y] ([x, y].length : Int) 0) ?_) (by rw [orI_ne hx]; exact .pure)
    refine step 0 _ _ (fun k q => cmp_Or_int_L58.eq_2 k _ _ _ _ q) ?_
    refine Evt.ctrue rfl (Evt.ctrue rfl (Evt.ctrue rfl (Evt.ctrue ?_ .pure)))
    show (x != 0) = true
    simpa using hx

theorem sizes_ev (n1 n2 : Bool) (M1 M2 : Nat) : Evt (fun k _ => impl_compareSizes k (wN n1 M1) (wN n2 M2)) (cmpI M1 M2) := by
  refine Evt.eq (f := fun k q => _) ?_ (fun k q => by rw [impl_compareSizes])
  refine Evt.bind (.const (cmpU_eq _ _)) (Evt.bind (.const (cmpU_eq _ _)) (Evt.bind (or2_ev _ _) ?_))
  refine .const ?_
  congr 1
  simp only [wN]
  have e1 := Nat.div_add_mod M1 B64
  have e2 := Nat.div_add_mod M2 B64
  have l1 := Nat.mod_lt M1 (y := B64) (by simp [B64])
  have l2 := Nat.mod_lt M2 (y := B64) (by simp [B64])
  rcases Nat.lt_trichotomy (M1 / B64) (M2 / B64) with h | h | h
  · have : M1 < M2 := by
      have : (M1 / B64 + 1) * B64 ≤ M2 / B64 * B64 := Nat.mul_le_mul_right _ h
      rw [Nat.add_mul, Nat.one_mul, Nat.mul_comm, Nat.mul_comm (M2 / B64)] at this
      omega
    have c1 : cmpI ((M1 / B64 : Nat) : Int) ((M2 / B64 : Nat) : Int) = -1 := by unfold cmpI; rw [if_pos (by omega)]
    have c2 : cmpI M1 M2 = -1 := by unfold cmpI; rw [if_pos (by omega)]
    rw [c1, c2]; rfl
  · rw [h] at e1
    have c1 : cmpI ((M1 / B64 : Nat) : Int) ((M2 / B64 : Nat) : Int) = 0 := by unfold cmpI; rw [if_neg (by omega), if_neg (by omega)]
    rw [c1, orI_z]
    have i1 : (((M1 % B64 : Nat) : Int) < ((M2 % B64 : Nat) : Int)) ↔ ((M1 : Int) < M2) := by omega
    have i2 : (((M2 % B64 : Nat) : Int) < ((M1 % B64 : Nat) : Int)) ↔ ((M2 : Int) < M1) := by omega
    unfold cmpI
    simp only [i1, i2]
  · have : M2 < M1 := by
      have : (M2 / B64 + 1) * B64 ≤ M1 / B64 * B64 := Nat.mul_le_mul_right _ h
      rw [Nat.add_mul, Nat.one_mul, Nat.mul_comm, Nat.mul_comm (M1 / B64)] at this
      omega
    have c1 : cmpI ((M1 / B64 : Nat) : Int) ((M2 / B64 : Nat) : Int) = 1 := by unfold cmpI; rw [if_neg (by omega), if_pos (by omega)]
    have c2 : cmpI M1 M2 = 1 := by unfold cmpI; rw [if_neg (by omega), if_pos (by omega)]
    rw [c1, c2]; rfl

theorem isZero_eq (neg : Bool) (M : Nat) : impl_wide_isZero (wN neg M) = some (decide (M = 0)) := by
  unfold impl_wide_isZero wN
  have e1 := Nat.div_add_mod M B64
  by_cases h : M = 0
  · subst h; simp
  · have hd : decide (M = 0) = false := by simpa using h
    rw [hd]
    by_cases h1 : M / B64 = 0
    · have h2 : M % B64 ≠ 0 := by
        intro h2
        rw [h1, h2] at e1
        omega
      have : ((((M % B64 : Nat) : Int)) == 0) = false := by rw [beq_eq_false_iff_ne]; intro h3; exact h2 (Int.ofNat.inj h3)
      simp only [h1, this]
      rfl
    · have : ((((M / B64 : Nat) : Int)) == 0) = false := by
        rw [beq_eq_false_iff_ne]; intro h3; exact h1 (Int.ofNat.inj h3)
      simp only [this]
      rfl

theorem wV_cmp (n1 n2 : Bool) (M1 M2 : Nat) : Evt (fun k _ => impl_compareWide k (wN n1 M1) (wN n2 M2)) (cmpI (wV n1 M1) (wV n2 M2)) := by
  refine Evt.eq (f := fun k q => _) ?_ (fun k q => by rw [impl_compareWide])
  have rest : ¬ (M1 = 0 ∧ M2 = 0) → ∀ (f : Nat → Nat → Option (Int ⊕ ((Bool × Int × Int) × (Bool × Int × Int) × Unit))), (∀ k q, f k q = (bif (!((wN n1 M1).1 == (wN n2 M2).1)) then (bif (wN n1 M1).1 then some (Sum.inl (-1)) else some (Sum.inl 1)) else (bif (wN n1 M1).1 then (Option.bind (impl_compareSizes k (wN n2 M2) (wN n1 M1)) fun r4 => some (Sum.inl r4)) else some (Sum.inr (wN n1 M1, wN n2 M2, ()))))) →
      Evt (fun k q => both (R := Int) (P := (Bool × Int × Int) × (Bool × Int × Int) × Unit) (f k q) (fun q7 => some q7) (fun y5 => (Option.bind (impl_compareSizes k y5.1 y5.2.1) fun r6 => some r6))) (cmpI (wV n1 M1) (wV n2 M2)) := by
    intro hne f hf
    cases n1 <;> cases n2
    · refine Evt.inr (y := (wN false M1, wN false M2, ())) (Evt.eq (f := fun _ _ => some _) .pure (fun k q => by rw [hf]; rfl)) ?_
      exact Evt.bind (sizes_ev _ _ _ _) .pure
    · refine Evt.inl (q := 1) (Evt.eq (f := fun _ _ => some _) .pure (fun k q => by rw [hf]; rfl)) ?_
      refine .const ?_
      congr 1
      simp only [cmpI, wV]
      simp <;> omega
    · refine Evt.inl (q := -1) (Evt.eq (f := fun _ _ => some _) .pure (fun k q => by rw [hf]; rfl)) ?_
      refine .const ?_
      congr 1
      simp only [cmpI, wV]
      simp <;> omega
    · refine Evt.inl (q := cmpI M2 M1) (Evt.eq (f := fun k q => Option.bind (impl_compareSizes k (wN true M2) (wN true M1)) fun r4 => some (Sum.inl r4)) (Evt.bind (sizes_ev _ _ _ _) .pure) (fun k q => by rw [hf]; rfl)) ?_
      refine .const ?_
      congr 1
      simp only [cmpI, wV]
      simp
  by_cases h1 : M1 = 0
  · by_cases h2 : M2 = 0
    · refine Evt.inl (q := 0) ?_ ?_
      · exact Evt.bind (.const (isZero_eq _ _)) (Evt.ctrue (by simp [h1]) (Evt.bind (.const (isZero_eq _ _)) (Evt.ctrue (by simp [h2]) .pure)))
      · refine .const ?_
        subst h1; subst h2
        cases n1 <;> cases n2 <;> rfl
    · refine rest (fun h => h2 h.2) _ (fun k q => ?_)
      rw [isZero_eq, isZero_eq]
      simp [h1, h2]
  · refine rest (fun h => h1 h.1) _ (fun k q => ?_)
    rw [isZero_eq]
    simp [h1]

/-! The sum of two. -/
theorem add64_eq {a b : Nat} {c : Nat} (hc : c ≤ 1) : math_bits_Add64 a b c = some ((((a + b + c) % B64 : Nat) : Int), (((a + b + c) / B64 : Nat) : Int)) := by
  unfold math_bits_Add64
  have : ((c : Int) == 0 || (c : Int) == 1) = true := by
    have : c = 0 ∨ c = 1 := by omega
    rcases this with rfl | rfl <;> rfl
  rw [this]
  rfl
theorem sub64_eq {a b : Nat} {c : Nat} (hc : c ≤ 1) : math_bits_Sub64 a b c = some ((((a + B64 - b - c) % B64 : Nat) : Int), ((if a < b + c then 1 else 0 : Nat) : Int)) := by
  unfold math_bits_Sub64
  have : ((c : Int) == 0 || (c : Int) == 1) = true := by
    have : c = 0 ∨ c = 1 := by omega
    rcases this with rfl | rfl <;> rfl
  rw [this]
  rfl

theorem divmod_unique {a q r : Nat} (h : a = q * B64 + r) (hr : r < B64) : a / B64 = q ∧ a % B64 = r := by
  subst h
  constructor
  · rw [Nat.mul_comm, Nat.mul_add_div (by simp [B64]), Nat.div_eq_of_lt hr, Nat.add_zero]
  · rw [Nat.mul_comm, Nat.mul_add_mod, Nat.mod_eq_of_lt hr]

theorem add_same {neg : Bool} {M1 M2 : Nat} (h : M1 + M2 < B64 * B64) (k : Nat) : impl_wide_add k (wN neg M1) (wN neg M2) = some (wN neg (M1 + M2)) := by
  unfold impl_wide_add
  have e : ((wN neg M1).1 == (wN neg M2).1) = true := by simp [wN]
  rw [e]
  simp only [cond_true, wN]
  have a1 := add64_eq (a := M1 % B64) (b := M2 % B64) (c := 0) (by omega)
  simp only [Nat.add_zero] at a1
  rw [show ((0 : Nat) : Int) = 0 from rfl] at a1
  rw [a1]
  simp only [Option.bind_some]
  have l1 := Nat.mod_lt M1 (y := B64) (by simp [B64])
  have l2 := Nat.mod_lt M2 (y := B64) (by simp [B64])
  have hc : (M1 % B64 + M2 % B64) / B64 ≤ 1 := by
    have : (M1 % B64 + M2 % B64) / B64 < 2 := Nat.div_lt_of_lt_mul (by omega)
    omega
  rw [add64_eq hc]
  simp only [Option.bind_some]
  have e1 := Nat.div_add_mod M1 B64
  have e2 := Nat.div_add_mod M2 B64
  have e3 := Nat.div_add_mod (M1 % B64 + M2 % B64) B64
  have l3 := Nat.mod_lt (M1 % B64 + M2 % B64) (y := B64) (by simp [B64])
  have hs : M1 + M2 = (M1 / B64 + M2 / B64 + (M1 % B64 + M2 % B64) / B64) * B64 + (M1 % B64 + M2 % B64) % B64 := by
    rw [Nat.add_mul, Nat.add_mul, Nat.mul_comm (M1 / B64), Nat.mul_comm (M2 / B64), Nat.mul_comm ((M1 % B64 + M2 % B64) / B64)]
    omega
  obtain ⟨u1, u2⟩ := divmod_unique hs l3
  have hq : (M1 + M2) / B64 < B64 := Nat.div_lt_of_lt_mul h
  rw [u1] at hq
  rw [u1, u2, Nat.mod_eq_of_lt hq]

theorem sub_big {neg n2 : Bool} {M1 M2 : Nat} (h : M2 ≤ M1) (hM : M1 < B64 * B64) : (Option.bind (math_bits_Sub64 (wN neg M1).2.2 (wN n2 M2).2.2 0) fun r5 => (Option.bind (math_bits_Sub64 (wN neg M1).2.1 (wN n2 M2).2.1 r5.2) fun r6 => some ((wN neg M1).1, r6.1, r5.1))) = some (wN neg (M1 - M2)) := by
  simp only [wN]
  have a1 := sub64_eq (a := M1 % B64) (b := M2 % B64) (c := 0) (by omega)
  simp only [Nat.add_zero, Nat.sub_zero] at a1
  rw [show ((0 : Nat) : Int) = 0 from rfl] at a1
  rw [a1]
  simp only [Option.bind_some]
  have l1 := Nat.mod_lt M1 (y := B64) (by simp [B64])
  have l2 := Nat.mod_lt M2 (y := B64) (by simp [B64])
  have e1 := Nat.div_add_mod M1 B64
  have e2 := Nat.div_add_mod M2 B64
  have hle : M2 / B64 ≤ M1 / B64 := Nat.div_le_div_right h
  have hq : M1 / B64 < B64 := Nat.div_lt_of_lt_mul hM
  generalize M1 / B64 = q1 at *
  generalize M2 / B64 = q2 at *
  generalize M1 % B64 = r1 at *
  generalize M2 % B64 = r2 at *
  by_cases hb : r1 < r2
  · rw [if_pos hb]
    rw [sub64_eq (c := 1) (by omega)]
    simp only [Option.bind_some]
    have hlt : q2 < q1 := by
      rcases Nat.lt_or_ge (q2) (q1) with h' | h'
      · exact h'
      · have : q1 = q2 := by omega
        rw [this] at e1
        omega
    have h3 : B64 * (q2) + B64 ≤ B64 * (q1) := by
      have : B64 * (q2 + 1) ≤ B64 * (q1) := Nat.mul_le_mul_left _ hlt
      rwa [Nat.mul_add, Nat.mul_one] at this
    have hs : M1 - M2 = (q1 - q2 - 1) * B64 + (r1 + B64 - r2) := by
      rw [Nat.sub_mul, Nat.sub_mul, Nat.one_mul, Nat.mul_comm (q1), Nat.mul_comm (q2)]
      omega
    have hlt2 : r1 + B64 - r2 < B64 := by omega
    obtain ⟨u1, u2⟩ := divmod_unique hs hlt2
    rw [u1, u2, Nat.mod_eq_of_lt hlt2]
    have h5 : q1 + B64 - q2 - 1 = (q1 - q2 - 1) + B64 := by omega
    rw [h5, Nat.add_mod_right, Nat.mod_eq_of_lt (by omega)]
  · rw [if_neg hb]
    rw [sub64_eq (c := 0) (by omega)]
    simp only [Option.bind_some, Nat.sub_zero]
    have hs : M1 - M2 = (q1 - q2) * B64 + (r1 - r2) := by
      have h3 : B64 * (q2) ≤ B64 * (q1) := Nat.mul_le_mul_left _ hle
      rw [Nat.sub_mul, Nat.mul_comm (q1), Nat.mul_comm (q2)]
      omega
    have hlt2 : r1 - r2 < B64 := by omega
    obtain ⟨u1, u2⟩ := divmod_unique hs hlt2
    rw [u1, u2]
    have h5 : q1 + B64 - q2 = (q1 - q2) + B64 := by omega
    have h6 : r1 + B64 - r2 = (r1 - r2) + B64 := by omega
    rw [h5, h6, Nat.add_mod_right, Nat.add_mod_right, Nat.mod_eq_of_lt (by omega), Nat.mod_eq_of_lt hlt2]

theorem add_ev {n1 n2 : Bool} {M1 M2 : Nat} (h : M1 + M2 < B64 * B64) : ∃ neg M, M ≤ M1 + M2 ∧ wV neg M = wV n1 M1 + wV n2 M2 ∧ Evt (fun k _ => impl_wide_add k (wN n1 M1) (wN n2 M2)) (wN neg M) := by
  by_cases hn : n1 = n2
  · subst hn
    refine ⟨n1, M1 + M2, Nat.le_refl _, ?_, Evt.eq (f := fun _ _ => some _) .pure (fun k q => add_same h k)⟩
    cases n1 <;> simp [wV] <;> omega
  · have e : ((wN n1 M1).1 == (wN n2 M2).1) = false := by
      simp only [wN]; cases n1 <;> cases n2 <;> simp_all
    rcases Nat.lt_or_ge M1 M2 with hlt | hge
    · refine ⟨n2, M2 - M1, by omega, ?_, Evt.eq (f := fun k q => _) ?_ (fun k q => by rw [impl_wide_add])⟩
      · cases n1 <;> cases n2 <;> simp_all [wV] <;> omega
      · refine Evt.cfalse e ?_
        refine Evt.inr (y := (wN n2 M2, wN n1 M1, (false, 0, 0), ())) (Evt.bind (sizes_ev _ _ _ _) (Evt.ctrue ?_ .pure)) (.const (sub_big (by omega) (by omega)))
        simp [cmpI]; omega
    · refine ⟨n1, M1 - M2, by omega, ?_, Evt.eq (f := fun k q => _) ?_ (fun k q => by rw [impl_wide_add])⟩
      · cases n1 <;> cases n2 <;> simp_all [wV] <;> omega
      · refine Evt.cfalse e ?_
        refine Evt.inr (y := (wN n1 M1, wN n2 M2, (false, 0, 0), ())) (Evt.bind (sizes_ev _ _ _ _) (Evt.cfalse ?_ .pure)) (.const (sub_big hge (by omega)))
        have : ¬ (M1 : Int) < M2 := by omega
        simp only [cmpI, if_neg this]
        split <;> simp

/-! A number that fits. -/
theorem fit_loop : ∀ (m : Nat) (neg : Bool) (M : Nat) (z : Int × Int), m < 9223372036854775808 → M < B64 * B64 →
    Evt (fun k q => impl_wide_fit_L28 k q m (wN neg M) z) (.inr (((strip m M).2 : Int), wN neg (strip m M).1.toNat, z, ())) := by
  intro m
  induction m with
  | zero =>
    intro neg M z _ _
    refine Evt.step (fun k q => impl_wide_fit_L28.eq_2 k _ _ z q) (Evt.cfalse (by simp) ?_)
    simp only [strip, Int.toNat_natCast]
    exact .pure
  | succ m ih =>
    intro neg M z hm hM
    refine Evt.step (fun k q => impl_wide_fit_L28.eq_2 k _ _ z q) (Evt.ctrue (by simp <;> omega) ?_)
    have hpar : (M % B64) % 2 = M % 2 := Nat.mod_mod_of_dvd M ⟨9223372036854775808, rfl⟩
    by_cases h : M % 2 = 0
    · have c : (Int.tmod (wN neg M).2.2 2 == 0) = true := by
        simp only [wN]
        have : Int.tmod ((M % B64 : Nat) : Int) 2 = (((M % B64) % 2 : Nat) : Int) := rfl
        rw [this, hpar, h]; rfl
      refine Evt.ctrue c ?_
      have hs := shr_eq (neg := neg) (M := M) (j := 1) (by omega) (by omega) hM
      rw [show (-((1 : Nat) : Int)) = -1 from rfl, Nat.pow_one] at hs
      refine Evt.bind (.const hs) ?_
      rw [show ((m + 1 : Nat) : Int) - 1 = (m : Int) by omega, w64 (by omega) (by omega)]
      have := ih neg (M / 2) z (by omega) (Nat.lt_of_le_of_lt (Nat.div_le_self _ _) hM)
      have e : strip (m + 1) (M : Int) = strip m ((M / 2 : Nat) : Int) := by
        rw [strip, if_pos (by omega)]
        rfl
      rw [e]
      exact this
    · have c : (Int.tmod (wN neg M).2.2 2 == 0) = false := by
        simp only [wN]
        have : Int.tmod ((M % B64 : Nat) : Int) 2 = (((M % B64) % 2 : Nat) : Int) := rfl
        rw [this, hpar]
        have : M % 2 = 1 := by omega
        rw [this]; rfl
      refine Evt.cfalse c ?_
      have e : strip (m + 1) (M : Int) = ((M : Int), m + 1) := strip_odd (by omega)
      rw [e]
      simp only [Int.toNat_natCast]
      exact .pure

theorem fit_ev {neg : Bool} {M m : Nat} (hM : M < B64 * B64) (hm : m < 9223372036854775808) : Evt (fun k _ => impl_wide_fit k (wN neg M) m) (mkD (wV neg M) m) := by
  refine Evt.eq (f := fun k q => _) ?_ (fun k q => by rw [impl_wide_fit])
  refine Evt.bind (.const (isZero_eq _ _)) ?_
  by_cases h0 : M = 0
  · refine Evt.ctrue (by simp [h0]) ?_
    have : wV neg M = 0 := by subst h0; cases neg <;> rfl
    rw [this, mkD_zero]
    exact .pure
  · refine Evt.cfalse (by simp [h0]) ?_
    refine Evt.inr (Evt.diag (fit_loop m neg M (0, 0) hm hM)) ?_
    have hb := strip_bound m (M : Int) (by omega)
    have hne := strip_ne m (M : Int) (by omega)
    have hv : strip m (wV neg M) = (wV neg (strip m M).1.toNat, (strip m M).2) := by
      cases neg with
      | false => simp only [wV]; simp; rw [Int.max_eq_left hb.1]
      | true =>
        simp only [wV, if_true]
        rw [strip_neg, Int.toNat_of_nonneg hb.1]
    obtain ⟨S, hS⟩ := Int.eq_ofNat_of_zero_le hb.1
    rw [hS] at hv
    simp only [Int.toNat_natCast, hS] at hv ⊢
    have hSM : S < B64 * B64 := by omega
    have hS0 : S ≠ 0 := by omega
    unfold mkD
    rw [hv]
    simp only [wN]
    have e1 := Nat.div_add_mod S B64
    have hlt := Nat.mod_lt S (y := B64) (by simp [B64])
    by_cases g1 : (strip m (M : Int)).2 ≤ 24
    · refine Evt.cfalse (by simp; omega) ?_
      by_cases g2 : S / B64 = 0
      · refine Evt.cfalse (by simp [g2]) ?_
        have g3 : S % B64 = S := by rw [g2] at e1; omega
        simp only [g3]
        by_cases g4 : S ≤ 1099511627776
        · refine Evt.cfalse (by simp; omega) ?_
          rw [if_pos (by cases neg <;> simp [wV] <;> omega)]
          have w1 : IntKind.wrap .i64 (S : Int) = S := by rw [w64] <;> omega
          have w2 : IntKind.wrap .i64 (0 - (S : Int)) = -(S : Int) := by rw [w64] <;> omega
          cases neg with
          | true =>
            refine Evt.ctrue rfl (.const ?_)
            rw [w1, w2]; rfl
          | false =>
            refine Evt.cfalse rfl (.const ?_)
            rw [w1]; rfl
        · refine Evt.ctrue (by simp; omega) ?_
          rw [if_neg (by cases neg <;> simp [wV] <;> omega)]
          exact .pure
      · have hq : 0 < S / B64 := Nat.pos_of_ne_zero g2
        refine Evt.ctrue (decide_eq_true (Int.ofNat_lt.2 hq)) ?_
        have : B64 ≤ S := by
          have : B64 * 1 ≤ B64 * (S / B64) := Nat.mul_le_mul_left _ hq
          omega
        simp only [B64] at this
        rw [if_neg (by cases neg <;> simp [wV] <;> omega)]
        exact .pure
    · refine Evt.ctrue (by simp; omega) ?_
      rw [if_neg (by intro h; exact g1 h.2.2)]
      exact .pure
end Go.Ev.G
namespace Go.Ev.G
open Go Go.Ev
set_option maxRecDepth 100000

theorem gd_nat {a : Int × Int} (h : gd a) : ∃ (n : Int) (j : Nat), a = (n, (j : Int)) ∧ j ≤ 24 ∧ -1099511627776 ≤ n ∧ n ≤ 1099511627776 ∧ (j = 0 ∨ n % 2 ≠ 0) := by
  obtain ⟨n, j⟩ := a
  obtain ⟨h1, h2, h3, h4, h5⟩ := h
  simp only at *
  obtain ⟨j, rfl⟩ := Int.eq_ofNat_of_zero_le h1
  exact ⟨n, j, rfl, by omega, h3, h4, by omega⟩

theorem max_if (a b : Int) : (if a < b then b else a) = max a b := by
  by_cases h : a < b
  · rw [if_pos h]; omega
  · rw [if_neg h]; omega

/-- a number over more places, as a wide one -/
theorem wide_at {n : Int} {j K : Nat} (hj : j ≤ K) (hK : K ≤ 48) (h1 : -1099511627776 ≤ n) (h2 : n ≤ 1099511627776) :
    impl_wideOf n = some (wN (decide (n < 0)) n.natAbs) ∧ impl_wide_shift (wN (decide (n < 0)) n.natAbs) (IntKind.wrap .i64 ((K : Int) - (j : Int))) = some (wN (decide (n < 0)) (n.natAbs * 2 ^ (K - j))) ∧
      n.natAbs * 2 ^ (K - j) < B64 * 33554432 ∧ wV (decide (n < 0)) (n.natAbs * 2 ^ (K - j)) = n * 2 ^ (K - j) := by
  have hw : IntKind.wrap .i64 ((K : Int) - (j : Int)) = ((K - j : Nat) : Int) := by rw [w64] <;> omega
  have hp : 2 ^ (K - j) ≤ 2 ^ 48 := Nat.pow_le_pow_right (by omega) (by omega)
  have hb : n.natAbs * 2 ^ (K - j) < B64 * 33554432 := by
    have : n.natAbs * 2 ^ (K - j) ≤ 1099511627776 * 2 ^ 48 := Nat.mul_le_mul (by omega) hp
    simp only [B64]
    omega
  refine ⟨wideOf_eq (by omega) (by omega), ?_, hb, ?_⟩
  · rw [hw]
    exact shl_eq (by omega) (Nat.lt_of_lt_of_le hb (by simp [B64]))
  · have h0 := wV_of n
    unfold wV at h0 ⊢
    by_cases h : n < 0
    · simp only [h, decide_true, if_true] at h0 ⊢
      conv => rhs; rw [← h0]
      simp [Int.neg_mul]
    · simp only [h, decide_false, Bool.false_eq_true, if_false] at h0 ⊢
      conv => rhs; rw [← h0]
      simp

theorem sumOf_ev {a b : Int × Int} (ha : gd a) (hb : gd b) : Evt (fun k _ => impl_sumOf k a b) (sumD a b) := by
  obtain ⟨n, j, rfl, a1, a2, a3, a4⟩ := gd_nat ha
  obtain ⟨m, i, rfl, b1, b2, b3, b4⟩ := gd_nat hb
  refine Evt.eq (f := fun k q => _) ?_ (fun k q => by rw [impl_sumOf])
  simp only [max_if]
  have hmax : max ((j : Nat) : Int) (i : Int) = ((max j i : Nat) : Int) := by omega
  simp only [hmax]
  obtain ⟨u1, u2, u3, u4⟩ := wide_at (n := n) (j := j) (K := max j i) (by omega) (by omega) a2 a3
  obtain ⟨v1, v2, v3, v4⟩ := wide_at (n := m) (j := i) (K := max j i) (by omega) (by omega) b2 b3
  refine Evt.bind (.const u1) (Evt.bind (.const u2) (Evt.bind (.const v1) (Evt.bind (.const v2) ?_)))
  obtain ⟨neg, M, hM, hv, hev⟩ := add_ev (n1 := decide (n < 0)) (n2 := decide (m < 0)) (M1 := n.natAbs * 2 ^ (max j i - j)) (M2 := m.natAbs * 2 ^ (max j i - i)) (by simp only [B64] at *; omega)
  refine Evt.bind hev (Evt.bind (fit_ev (by simp only [B64] at *; omega) (by omega)) ?_)
  rw [hv, u4, v4]
  have e : sumD (n, (j : Int)) (m, (i : Int)) = mkD (n * 2 ^ (max j i - j) + m * 2 ^ (max j i - i)) (max j i) := by simp [sumD, sumN, exA]
  rw [e]
  exact .pure

/-! Order. -/
def sv (a : Int × Int) : Int := a.1 * 2 ^ (24 - a.2.toNat)

theorem cmpI_mul {a b p : Int} (hp : 0 < p) : cmpI (a * p) (b * p) = cmpI a b := by
  unfold cmpI
  have i1 : (a * p < b * p) ↔ (a < b) := Int.mul_lt_mul_right hp
  have i2 : (b * p < a * p) ↔ (b < a) := Int.mul_lt_mul_right hp
  simp only [i1, i2]

theorem cmpD_scale {n m : Int} {j i K : Nat} (hj : j ≤ K) (hi : i ≤ K) (hK : K ≤ 24) : cmpI (n * 2 ^ (K - j)) (m * 2 ^ (K - i)) = cmpI (n * 2 ^ (24 - j)) (m * 2 ^ (24 - i)) := by
  have hp : (0 : Int) < 2 ^ (24 - K) := Int.pow_pos (by omega)
  rw [← cmpI_mul (a := n * 2 ^ (K - j)) (b := m * 2 ^ (K - i)) hp, Int.mul_assoc, Int.mul_assoc, ← Int.pow_add, ← Int.pow_add]
  rw [show K - j + (24 - K) = 24 - j by omega, show K - i + (24 - K) = 24 - i by omega]

theorem compareD_ev {a b : Int × Int} (ha : gd a) (hb : gd b) : Evt (fun k _ => impl_compareD k a b) (cmpI (sv a) (sv b)) := by
  obtain ⟨n, j, rfl, a1, a2, a3, a4⟩ := gd_nat ha
  obtain ⟨m, i, rfl, b1, b2, b3, b4⟩ := gd_nat hb
  refine Evt.eq (f := fun k q => _) ?_ (fun k q => by rw [impl_compareD])
  simp only [max_if]
  have hmax : max ((j : Nat) : Int) (i : Int) = ((max j i : Nat) : Int) := by omega
  simp only [hmax]
  obtain ⟨u1, u2, u3, u4⟩ := wide_at (n := n) (j := j) (K := max j i) (by omega) (by omega) a2 a3
  obtain ⟨v1, v2, v3, v4⟩ := wide_at (n := m) (j := i) (K := max j i) (by omega) (by omega) b2 b3
  refine Evt.bind (.const u1) (Evt.bind (.const u2) (Evt.bind (.const v1) (Evt.bind (.const v2) (Evt.bind (wV_cmp _ _ _ _) ?_))))
  rw [u4, v4, cmpD_scale (by omega) (by omega) (by omega)]
  exact .pure

theorem sign_eq (n : Int) : spec_l1Sign n = some (cmpI n 0) := by
  unfold spec_l1Sign cmpI
  rcases Int.lt_trichotomy n 0 with h | h | h
  · have h1 : ¬ n > 0 := by omega
    simp [h, h1]
  · subst h; rfl
  · have h1 : ¬ n < 0 := by omega
    simp [h, h1]

theorem dyDown_eq {n : Int} {p : Nat} (hp : 0 < p) (h1 : -9223372036854775807 ≤ n) (h2 : n < 9223372036854775808) : spec_dyDown n p = some (n / (p : Int)) := by
  unfold spec_dyDown
  have e0 : (((p : Nat) : Int) == 0) = false := by rw [beq_eq_false_iff_ne]; omega
  have hq : Int.tmod n p + p * Int.tdiv n p = n := Int.tmod_add_mul_tdiv n p
  have hpi : (0 : Int) < p := by omega
  have hle : -9223372036854775807 ≤ Int.tdiv n p ∧ Int.tdiv n p < 9223372036854775808 := by
    have h3 := Int.natAbs_tdiv_le_natAbs n p
    omega
  rw [e0]
  simp only [cond_false]
  by_cases h : Int.tmod n p < 0
  · have hd : decide (Int.tmod n p < 0) = true := by simpa using h
    have hlt : -(p : Int) < Int.tmod n p := by
      have := Int.lt_tmod_of_pos n hpi
      exact this
    have e : n / (p : Int) = Int.tdiv n p - 1 := by
      have h4 : n = (Int.tmod n p + p) + p * (Int.tdiv n p - 1) := by
        rw [Int.mul_sub, Int.mul_one]; omega
      conv => lhs; rw [h4]
      rw [Int.add_mul_ediv_left _ _ (by omega), Int.ediv_eq_zero_of_lt (by omega) (by omega)]
      omega
    rw [hd, w64 (n := Int.tdiv n p) (by omega) (by omega), w64 (by omega) (by omega), e]
    rfl
  · have hd : decide (Int.tmod n p < 0) = false := by simpa using h
    have hlt : Int.tmod n p < p := Int.tmod_lt_of_pos n hpi
    have e : n / (p : Int) = Int.tdiv n p := by
      have h4 : n = Int.tmod n p + p * Int.tdiv n p := by omega
      conv => lhs; rw [h4]
      rw [Int.add_mul_ediv_left _ _ (by omega), Int.ediv_eq_zero_of_lt (by omega) (by omega)]
      omega
    rw [hd, w64 (n := Int.tdiv n p) (by omega) (by omega), e]
    rfl

theorem dyFloor_eq {n : Int} {j : Nat} (hj : j ≤ 24) (h1 : -1099511627776 ≤ n) (h2 : n ≤ 1099511627776) : spec_dyFloor (n, (j : Int)) = some (n / ((2 ^ j : Nat) : Int)) := by
  unfold spec_dyFloor
  simp only [dyPower_eq (show j ≤ 62 by omega), Option.bind_some]
  rw [dyDown_eq (Nat.pow_pos (by omega)) (by omega) (by omega)]
  rfl

theorem dyCmp_ev {a b : Int × Int} (ha : gd a) (hb : gd b) : Evt (fun k _ => spec_dyCmp k a b) (cmpI (sv a) (sv b)) := by
  obtain ⟨n, j, rfl, a1, a2, a3, a4⟩ := gd_nat ha
  obtain ⟨m, i, rfl, b1, b2, b3, b4⟩ := gd_nat hb
  refine Evt.eq (f := fun k q => _) ?_ (fun k q => by rw [spec_dyCmp])
  refine Evt.bind (.const (dyFloor_eq a1 a2 a3)) (Evt.bind (.const (dyFloor_eq b1 b2 b3)) ?_)
  -- what each is made of
  have part : ∀ (n : Int) (j : Nat), j ≤ 24 → -1099511627776 ≤ n → n ≤ 1099511627776 → ∃ r : Int, 0 ≤ r ∧ r < ((2 ^ j : Nat) : Int) ∧ n = r + (n / ((2 ^ j : Nat) : Int)) * ((2 ^ j : Nat) : Int) ∧ -1099511627776 ≤ n / ((2 ^ j : Nat) : Int) ∧ n / ((2 ^ j : Nat) : Int) ≤ 1099511627776 ∧
      n * 2 ^ (24 - j) = r * 2 ^ (24 - j) + (n / ((2 ^ j : Nat) : Int)) * 16777216 ∧ r * 2 ^ (24 - j) < 16777216 ∧ 0 ≤ r * 2 ^ (24 - j) := by
    intro n j hj h1 h2
    have hp : (0 : Nat) < 2 ^ j := Nat.pow_pos (by omega)
    have hpi : (0 : Int) < ((2 ^ j : Nat) : Int) := by omega
    have e := Int.emod_add_mul_ediv n ((2 ^ j : Nat) : Int)
    have h3 := Int.emod_nonneg n (show ((2 ^ j : Nat) : Int) ≠ 0 by omega)
    have h4 := Int.emod_lt_of_pos n hpi
    have hpow : ((2 ^ j : Nat) : Int) * 2 ^ (24 - j) = 16777216 := by
      rw [show ((2 ^ j : Nat) : Int) = (2 : Int) ^ j by simp, ← Int.pow_add, show j + (24 - j) = 24 by omega]
      rfl
    have hq : (0 : Int) < 2 ^ (24 - j) := Int.pow_pos (by omega)
    refine ⟨n % ((2 ^ j : Nat) : Int), h3, h4, ?_, ?_, ?_, ?_, ?_, ?_⟩
    · rw [Int.mul_comm (n / _)]; exact e.symm
    · have := Int.ediv_le_ediv hpi h1
      have h5 : (-1099511627776 : Int) ≤ -1099511627776 / ((2 ^ j : Nat) : Int) := by
        rw [Int.le_ediv_iff_mul_le hpi]
        have : (1 : Int) ≤ ((2 ^ j : Nat) : Int) := by omega
        omega
      omega
    · have := Int.ediv_le_ediv hpi h2
      have h5 : (1099511627776 : Int) / ((2 ^ j : Nat) : Int) ≤ 1099511627776 := Int.ediv_le_self _ (by omega)
      omega
    · conv => lhs; rw [← e]
      rw [Int.add_mul, Int.mul_comm ((2 ^ j : Nat) : Int), Int.mul_assoc, hpow]
    · rw [← hpow]
      exact Int.mul_lt_mul_of_pos_right h4 hq
    · exact Int.mul_nonneg h3 (by omega)
  obtain ⟨r, r1, r2, r3, r4, r5, r6, r7, r8⟩ := part n j a1 a2 a3
  obtain ⟨s, s1, s2, s3, s4, s5, s6, s7, s8⟩ := part m i b1 b2 b3
  have hsv1 : sv (n, (j : Int)) = r * 2 ^ (24 - j) + (n / ((2 ^ j : Nat) : Int)) * 16777216 := by simp only [sv, Int.toNat_natCast]; exact r6
  have hsv2 : sv (m, (i : Int)) = s * 2 ^ (24 - i) + (m / ((2 ^ i : Nat) : Int)) * 16777216 := by simp only [sv, Int.toNat_natCast]; exact s6
  rw [hsv1, hsv2]
  generalize hP : n / ((2 ^ j : Nat) : Int) = p at *
  generalize hQ : m / ((2 ^ i : Nat) : Int) = q at *
  by_cases hpq : p = q
  · subst hpq
    refine Evt.cfalse (by simp) ?_
    refine Evt.bind (.const (dyPower_eq (show j ≤ 62 by omega))) ?_
    have pj : ((2 ^ j : Nat) : Int) ≤ 16777216 := by
      have : 2 ^ j ≤ 2 ^ 24 := Nat.pow_le_pow_right (by omega) a1
      omega
    have pi : ((2 ^ i : Nat) : Int) ≤ 16777216 := by
      have : 2 ^ i ≤ 2 ^ 24 := Nat.pow_le_pow_right (by omega) b1
      omega
    have w1 : IntKind.wrap .i64 (p * ((2 ^ j : Nat) : Int)) = n - r := by rw [w64] <;> omega
    have w2 : IntKind.wrap .i64 (p * ((2 ^ i : Nat) : Int)) = m - s := by rw [w64] <;> omega
    have w3 : IntKind.wrap .i64 (n - (n - r)) = r := by rw [w64] <;> omega
    have w4 : IntKind.wrap .i64 (m - (m - s)) = s := by rw [w64] <;> omega
    simp only [w1, w3]
    have x1 := dyAt_ev (n := r) (j := j) (K := 24) a1 (by omega) (by omega) (by omega)
    have x2 := dyAt_ev (n := s) (j := i) (K := 24) b1 (by omega) (by omega) (by omega)
    have t1 := atV_small (24 - j) r (by omega) (by omega)
    have t2 := atV_small (24 - i) s (by omega) (by omega)
    refine Evt.bind x1 (Evt.bind (.const (dyPower_eq (show i ≤ 62 by omega))) ?_)
    simp only [w2, w4]
    refine Evt.bind x2 ?_
    rw [atV_true _ _ t1, atV_true _ _ t2, w64 (by omega) (by omega)]
    refine Evt.bind (.const (sign_eq _)) (.const ?_)
    congr 1
    unfold cmpI
    have i1 : (r * 2 ^ (24 - j) - s * 2 ^ (24 - i) < 0) ↔ (r * 2 ^ (24 - j) + p * 16777216 < s * 2 ^ (24 - i) + p * 16777216) := by omega
    have i2 : (0 < r * 2 ^ (24 - j) - s * 2 ^ (24 - i)) ↔ (s * 2 ^ (24 - i) + p * 16777216 < r * 2 ^ (24 - j) + p * 16777216) := by omega
    simp only [i1, i2]
  · refine Evt.ctrue (by simpa using hpq) ?_
    rw [w64 (by omega) (by omega)]
    refine Evt.bind (.const (sign_eq _)) (.const ?_)
    congr 1
    unfold cmpI
    rcases Int.lt_or_gt_of_ne hpq with h | h
    · rw [if_pos (by omega), if_pos (by omega)]
    · rw [if_neg (by omega), if_pos (by omega), if_neg (by omega), if_pos (by omega)]

theorem minus_eq {a : Int × Int} (h : gd a) : impl_minus a = some (-a.1, a.2) := by
  have := h.2.2
  unfold impl_minus
  rw [w64 (by omega) (by omega)]
  congr 2
  omega

theorem gd_neg {a : Int × Int} (h : gd a) : gd (-a.1, a.2) := ⟨h.1, h.2.1, by have := h.2.2; simp; omega, by have := h.2.2; simp; omega, by rcases h.2.2.2.2 with h | h; exact .inl h; exact .inr (by simp; omega)⟩
theorem sv_neg (a : Int × Int) : sv (-a.1, a.2) = -sv a := by simp [sv, Int.neg_mul]
theorem sv_pos {a : Int × Int} : (0 < sv a) ↔ 0 < a.1 := by
  have hp : (0 : Int) < 2 ^ (24 - a.2.toNat) := Int.pow_pos (by omega)
  unfold sv
  constructor
  · intro h; exact Int.pos_of_mul_pos_left h hp
  · intro h; exact Int.mul_pos h hp

/-- the absolute value -/
def absD (a : Int × Int) : Int × Int := ((a.1.natAbs : Int), a.2)
theorem absD_gd {a : Int × Int} (h : gd a) : gd (absD a) := ⟨h.1, h.2.1, by simp [absD] <;> omega, by have := h.2.2; simp [absD]; omega, by rcases h.2.2.2.2 with h | h; exact .inl h; exact .inr (by simp [absD]; omega)⟩
theorem mxAbs_eq {a : Int × Int} (h : gd a) : spec_mxAbs a = some (absD a) := by
  have := h.2.2
  unfold spec_mxAbs spec_l1Abs
  rw [most_eq, w64 (by omega) (by omega)]
  simp only [Option.bind_some, absD]
  congr 2
  omega
end Go.Ev.G
namespace Go.Ev.G
open Go Go.Ev
set_option maxRecDepth 100000

theorem isTable1_eq (x : Int × Int) : impl_isTable_1 x = some (!decide (gd x)) := by
  unfold impl_isTable_1
  rw [isDyadic_eq]; rfl

/-- a table: 1 to 3 rows of as many numbers -/
def tab {α : Type} (g : α → Prop) [DecidablePred g] (m : List (List α)) : Bool := decide (1 ≤ m.length ∧ m.length ≤ 3) && m.all fun row => decide (row.length = m.length) && row.all fun x => decide (g x)

theorem contains1_ev {xs : List (Int × Int)} (hb : xs.length < lenB) : Evt (fun k _ => slices_ContainsFunc_Dyadic_Dyadic_impl_isTable_1 k xs ()) (xs.any fun x => !decide (gd x)) := by
  refine Evt.eq (f := fun k q => _) ?_ (fun k q => by rw [slices_ContainsFunc_Dyadic_Dyadic_impl_isTable_1])
  have h := index_all (d0 := (0, 0)) (L := fun k n i => slices_IndexFunc_Dyadic_Dyadic_impl_isTable_1_L26 k n xs () (xs.length : Int) i) (xs := xs) (p := fun _ x => impl_isTable_1 x) (P := fun x => !decide (gd x)) (fun x _ => .const (isTable1_eq x)) (fun _ _ _ => rfl) hb
  rw [← findIdx?_any]
  have h2 : Evt (fun k _ => slices_IndexFunc_Dyadic_Dyadic_impl_isTable_1 k xs ()) (match xs.findIdx? (fun x => !decide (gd x)) with | some j => (j : Int) | none => -1) := by
    refine Evt.eq (f := fun k q => _) ?_ (fun k q => by rw [slices_IndexFunc_Dyadic_Dyadic_impl_isTable_1])
    cases hf : xs.findIdx? (fun x => !decide (gd x)) with
    | none => rw [hf] at h; exact Evt.inr (Evt.diag h) .pure
    | some j => rw [hf] at h; exact Evt.inl (Evt.diag h) .pure
  refine Evt.bind h2 (.const ?_)
  cases hf : xs.findIdx? (fun x => !decide (gd x)) with
  | none => rfl
  | some j => simp

theorem isTable_ev {m : List (List (Int × Int))} (hb : m.length < lenB) (hm : ∀ r ∈ m, r.length < lenB) : Evt (fun k _ => impl_isTable k m) (tab gd m) := by
  refine Evt.eq (f := fun k q => _) ?_ (fun k q => by rw [impl_isTable])
  have key : ∀ (r d : List (List (Int × Int))), d ++ r = m → Evt (fun k n => impl_isTable_L26 k n m m (m.length : Int) d.length) (if (r.all fun row => decide (row.length = m.length) && row.all fun x => decide (gd x)) then .inr (m, ()) else .inl false) := by
    intro r
    induction r with
    | nil =>
      intro d h
      refine Evt.step (fun k n => impl_isTable_L26.eq_2 k _ _ _ _ n) ?_
      rw [List.append_nil] at h
      subst h
      exact Evt.rng0 .pure
    | cons e r ih =>
      intro d h
      refine Evt.step (fun k n => impl_isTable_L26.eq_2 k _ _ _ _ n) ?_
      have ih := ih (d ++ [e]) (by simpa using h)
      rw [← len_next (r := r) (by rw [h]; exact hb)] at ih
      subst h
      refine Evt.rng (F := fun k n x => (bif ((x.length : Int) != ((d ++ e :: r).length : Int)) then some (Sum.inl false) else (Option.bind (slices_ContainsFunc_Dyadic_Dyadic_impl_isTable_1 k x ()) fun r1 => (bif r1 then some (Sum.inl false) else (impl_isTable_L26 k n (d ++ e :: r) (d ++ e :: r) ((d ++ e :: r).length : Int) (IntKind.wrap .i64 ((d.length : Int) + 1))))))) ?_
      by_cases h1 : e.length = (d ++ e :: r).length
      · refine Evt.cfalse (by rw [h1]; simp) (Evt.bind (contains1_ev (hm e (by simp))) ?_)
        cases h2 : e.any fun x => !decide (gd x) with
        | true =>
          refine Evt.ctrue rfl ?_
          have : (e.all fun x => decide (gd x)) = false := by
            rw [List.any_eq_not_all_not] at h2
            simpa using h2
          simp only [List.all_cons, this, Bool.and_false, Bool.false_and]
          exact .pure
        | false =>
          refine Evt.cfalse rfl ?_
          have : (e.all fun x => decide (gd x)) = true := by
            rw [List.any_eq_not_all_not] at h2
            simpa using h2
          simp only [List.all_cons, this, h1, decide_true, Bool.true_and]
          exact ih
      · refine Evt.ctrue (by rw [bne_iff_ne]; omega) ?_
        simp only [List.all_cons, h1, decide_false, Bool.false_and]
        exact .pure
  have h0 := key m [] rfl
  simp only [List.length_nil] at h0
  unfold tab
  cases hall : (m.all fun row => decide (row.length = m.length) && row.all fun x => decide (gd x)) with
  | true =>
    rw [hall] at h0
    refine Evt.inr (Evt.diag h0) (Evt.bind (.const (inside_eq _ _ _)) (.const ?_))
    congr 1
    rw [Bool.and_true]
    simp only [decide_eq_decide]
    omega
  | false =>
    rw [hall] at h0
    refine Evt.inl (Evt.diag h0) (.const ?_)
    rw [Bool.and_false]

theorem l1All_ev {xs : List Int} {lo hi : Int} (hb : xs.length < lenB) : Evt (fun k _ => spec_l1All k xs lo hi) (xs.all fun x => decide (lo ≤ x ∧ x ≤ hi)) := by
  refine Evt.eq (f := fun k q => _) ?_ (fun k q => by rw [spec_l1All])
  have key : ∀ (r d : List Int), d ++ r = xs → Evt (fun k n => spec_l1All_L26 k n lo hi xs (xs.length : Int) d.length) (if (r.all fun x => decide (lo ≤ x ∧ x ≤ hi)) then .inr () else .inl false) := by
    intro r
    induction r with
    | nil =>
      intro d h
      refine Evt.step (fun k n => spec_l1All_L26.eq_2 k _ _ _ _ _ n) ?_
      rw [List.append_nil] at h
      subst h
      exact Evt.rng0 .pure
    | cons e r ih =>
      intro d h
      refine Evt.step (fun k n => spec_l1All_L26.eq_2 k _ _ _ _ _ n) ?_
      have ih := ih (d ++ [e]) (by simpa using h)
      rw [← len_next (r := r) (by rw [h]; exact hb)] at ih
      subst h
      refine Evt.rng (F := fun k n x => (Option.bind (spec_l1In x lo hi) fun r1 => (bif (!r1) then some (Sum.inl false) else (spec_l1All_L26 k n lo hi (d ++ e :: r) ((d ++ e :: r).length : Int) (IntKind.wrap .i64 ((d.length : Int) + 1)))))) ?_
      refine Evt.bind (.const (l1In_eq _ _ _)) ?_
      by_cases h1 : lo ≤ e ∧ e ≤ hi
      · refine Evt.cfalse (by simp [h1]) ?_
        simp only [List.all_cons, h1, and_self, decide_true, Bool.true_and]
        exact ih
      · refine Evt.ctrue (by rw [decide_eq_false h1]; rfl) ?_
        simp only [List.all_cons, decide_eq_false h1, Bool.false_and]
        exact .pure
  have h0 := key xs [] rfl
  simp only [List.length_nil] at h0
  cases hall : (xs.all fun x => decide (lo ≤ x ∧ x ≤ hi)) with
  | true => rw [hall] at h0; exact Evt.inr (Evt.diag h0) .pure
  | false => rw [hall] at h0; exact Evt.inl (Evt.diag h0) .pure

theorem square_ev {n : Int} {xs : List Int} (hb : xs.length < lenB) : Evt (fun k _ => spec_mxSquare k n xs) (decide (1 ≤ n ∧ n ≤ 3) && xs.all fun x => decide (n ≤ x ∧ x ≤ n)) := by
  refine Evt.eq (f := fun k q => _) ?_ (fun k q => by rw [spec_mxSquare])
  refine Evt.bind (.const (l1In_eq _ _ _)) ?_
  cases h : decide (1 ≤ n ∧ n ≤ 3) with
  | true => exact Evt.ctrue rfl (Evt.bind (l1All_ev hb) .pure)
  | false => exact Evt.cfalse rfl .pure

/-- rows whose numbers are looked at one after the other, and their lengths kept -/
theorem mxGood_ev {m : List (List (Int × Int))} (hb : m.length < 274877906944) (hm : ∀ r ∈ m, r.length < lenB) : Evt (fun k _ => spec_mxGood k m) (tab gd m) := by
  refine Evt.eq (f := fun k q => _) ?_ (fun k q => by rw [spec_mxGood])
  have inner : ∀ (x0 : List (List (Int × Int))) (x3 : List Int) (x5 : List (Int × Int)) (x8 : List (List (Int × Int))) (x9 x10 : Int) (x14 : List (Int × Int)), x14.length < lenB → ∀ (r d : List (Int × Int)), d ++ r = x14 →
      Evt (fun k n => spec_mxGood_L29898 k n x0 x3 x5 x8 x9 x10 x14 (x14.length : Int) d.length) (if (r.all fun x => decide (gd x)) then .inr (x0, x3, x5, x8, x9, x10, ()) else .inl false) := by
    intro x0 x3 x5 x8 x9 x10 x14 hb r
    induction r with
    | nil =>
      intro d h
      refine Evt.step (fun k n => spec_mxGood_L29898.eq_2 k _ _ _ _ _ _ _ _ _ n) ?_
      rw [List.append_nil] at h
      subst h
      exact Evt.rng0 .pure
    | cons e r ih =>
      intro d h
      refine Evt.step (fun k n => spec_mxGood_L29898.eq_2 k _ _ _ _ _ _ _ _ _ n) ?_
      have ih := ih (d ++ [e]) (by simpa using h)
      rw [← len_next (r := r) (by rw [h]; exact hb)] at ih
      subst h
      refine Evt.rng (F := fun k n x => (Option.bind (spec_dyGood x) fun r1 => (bif (!r1) then some (Sum.inl false) else (spec_mxGood_L29898 k n x0 x3 x5 x8 x9 x10 (d ++ e :: r) ((d ++ e :: r).length : Int) (IntKind.wrap .i64 ((d.length : Int) + 1)))))) ?_
      refine Evt.bind (.const (dyGood_eq _)) ?_
      by_cases h1 : gd e
      · refine Evt.cfalse (by simp [h1]) ?_
        simp only [List.all_cons, h1, decide_true, Bool.true_and]
        exact ih
      · refine Evt.ctrue (by simp [h1]) ?_
        simp only [List.all_cons, h1, decide_false, Bool.false_and]
        exact .pure
  have key : ∀ (r d : List (List (Int × Int))), d ++ r = m → Evt (fun k n => spec_mxGood_L58 k n m (d.map fun row => (row.length : Int)) m (m.length : Int) d.length) (if (r.all fun row => row.all fun x => decide (gd x)) then .inr (m, m.map fun row => (row.length : Int), ()) else .inl false) := by
    intro r
    induction r with
    | nil =>
      intro d h
      refine Evt.step (fun k n => spec_mxGood_L58.eq_2 k _ _ _ _ _ n) ?_
      rw [List.append_nil] at h
      subst h
      exact Evt.rng0 .pure
    | cons e r ih =>
      intro d h
      refine Evt.step (fun k n => spec_mxGood_L58.eq_2 k _ _ _ _ _ n) ?_
      have ih := ih (d ++ [e]) (by simpa using h)
      have hl := congrArg List.length h
      simp at hl
      rw [← len_next (r := r) (by rw [h]; simp only [lenB]; omega)] at ih
      have hme := hm e (by rw [← h]; simp)
      subst h
      refine Evt.rng (F := fun k n x => (both (R := Bool) (P := (List (List (Int × Int))) × (List Int) × (List (Int × Int)) × (List (List (Int × Int))) × Int × Int × Unit) (spec_mxGood_L29898 k k (d ++ e :: r) (d.map fun row => (row.length : Int)) x (d ++ e :: r) ((d ++ e :: r).length : Int) (d.length : Int) x (x.length : Int) 0) (fun q4 => some (Sum.inl q4)) (fun y3 => (bif (decide (y3.2.1.length + ([(y3.2.2.1.length : Int)] : List Int).length < 274877906944)) then (spec_mxGood_L58 k n y3.1 (y3.2.1 ++ ([(y3.2.2.1.length : Int)] : List Int)) y3.2.2.2.1 y3.2.2.2.2.1 (IntKind.wrap .i64 (y3.2.2.2.2.2.1 + 1))) else none)))) ?_
      have hi := inner (d ++ e :: r) (d.map fun row => (row.length : Int)) e (d ++ e :: r) ((d ++ e :: r).length : Int) (d.length : Int) e hme e [] rfl
      simp only [List.length_nil] at hi
      cases h1 : e.all fun x => decide (gd x) with
      | true =>
        rw [h1] at hi
        refine Evt.inr (Evt.diag hi) (Evt.ctrue (by simp; omega) ?_)
        simp only [List.all_cons, h1, Bool.true_and]
        simpa using ih
      | false =>
        rw [h1] at hi
        refine Evt.inl (Evt.diag hi) ?_
        simp only [List.all_cons, h1, Bool.false_and]
        exact .pure
  have h0 := key m [] rfl
  simp only [List.length_nil, List.map_nil] at h0
  have ht : tab gd m = ((m.all fun row => row.all fun x => decide (gd x)) && (decide (1 ≤ (m.length : Int) ∧ (m.length : Int) ≤ 3) && (m.map fun row => (row.length : Int)).all fun x => decide ((m.length : Int) ≤ x ∧ x ≤ (m.length : Int)))) := by
    unfold tab
    rw [Bool.eq_iff_iff]
    simp only [Bool.and_eq_true, List.all_eq_true, decide_eq_true_eq, List.mem_map, forall_exists_index, and_imp]
    constructor
    · rintro ⟨⟨h1, h2⟩, h3⟩
      refine ⟨fun r hr => (h3 r hr).2, ⟨by omega, by omega⟩, ?_⟩
      rintro x r hr rfl
      have := (h3 r hr).1
      omega
    · rintro ⟨h1, ⟨h2, h3⟩, h4⟩
      refine ⟨⟨by omega, by omega⟩, fun r hr => ⟨?_, h1 r hr⟩⟩
      have := h4 _ r hr rfl
      omega
  rw [ht]
  cases hall : (m.all fun row => row.all fun x => decide (gd x)) with
  | true =>
    rw [hall] at h0
    exact Evt.inr (Evt.diag h0) (Evt.bind (square_ev (by simp only [List.length_map, lenB]; omega)) .pure)
  | false =>
    rw [hall] at h0
    exact Evt.inl (Evt.diag h0) .pure
end Go.Ev.G
