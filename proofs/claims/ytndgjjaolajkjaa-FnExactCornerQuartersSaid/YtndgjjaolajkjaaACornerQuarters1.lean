/- What the plain functions of the law compute, for all inputs within the sizes that the theorems name. -/
import Derived.Test.YtndgjjaolajkjaaPCornerQuarters1
import Derived.IntWalk
import Derived.Laws.Bits64
import Derived.KernelRfl
set_option linter.unusedVariables false
namespace Go.Ev
open Go

def Evt {α : Type} (f : Nat → Nat → Option α) (r : α) : Prop := ∃ k0, ∀ k n, k0 ≤ k → k0 ≤ n → f k n = some r

section
variable {α β γ δ : Type}

theorem Evt.const {o : Option α} {r : α} (h : o = some r) : Evt (fun _ _ => o) r := ⟨0, fun _ _ _ _ => h⟩
theorem Evt.pure {r : α} : Evt (fun _ _ => some r) r := ⟨0, fun _ _ _ _ => rfl⟩
theorem Evt.bind {f : Nat → Nat → Option α} {g : Nat → Nat → α → Option β} {a : α} {r : β} (h : Evt f a) (h' : Evt (fun k n => g k n a) r) : Evt (fun k n => Option.bind (f k n) fun x => g k n x) r := by
  obtain ⟨k1, h1⟩ := h
  obtain ⟨k2, h2⟩ := h'
  refine ⟨max k1 k2, fun k n hk hn => ?_⟩
  exact (congrArg (fun o => Option.bind o fun x => g k n x) (h1 k n (by omega) (by omega))).trans (h2 k n (by omega) (by omega))
theorem Evt.inr {R P A : Type} {f : Nat → Nat → Option (R ⊕ P)} {G : Nat → Nat → R → Option A} {K : Nat → Nat → P → Option A} {y : P} {r : A} (h : Evt f (.inr y)) (h' : Evt (fun k n => K k n y) r) : Evt (fun k n => both (f k n) (G k n) (K k n)) r := by
  obtain ⟨k1, h1⟩ := h
  obtain ⟨k2, h2⟩ := h'
  refine ⟨max k1 k2, fun k n hk hn => ?_⟩
  exact (congrArg (fun o => both o (G k n) (K k n)) (h1 k n (by omega) (by omega))).trans (h2 k n (by omega) (by omega))
theorem Evt.inl {R P A : Type} {f : Nat → Nat → Option (R ⊕ P)} {G : Nat → Nat → R → Option A} {K : Nat → Nat → P → Option A} {q : R} {r : A} (h : Evt f (.inl q)) (h' : Evt (fun k n => G k n q) r) : Evt (fun k n => both (f k n) (G k n) (K k n)) r := by
  obtain ⟨k1, h1⟩ := h
  obtain ⟨k2, h2⟩ := h'
  refine ⟨max k1 k2, fun k n hk hn => ?_⟩
  exact (congrArg (fun o => both o (G k n) (K k n)) (h1 k n (by omega) (by omega))).trans (h2 k n (by omega) (by omega))
theorem Evt.ctrue {c : Bool} {f g : Nat → Nat → Option α} {r : α} (hc : c = true) (h : Evt f r) : Evt (fun k n => bif c then f k n else g k n) r := by subst hc; exact h
theorem Evt.cfalse {c : Bool} {f g : Nat → Nat → Option α} {r : α} (hc : c = false) (h : Evt g r) : Evt (fun k n => bif c then f k n else g k n) r := by subst hc; exact h
theorem Evt.diag {f : Nat → Nat → Option α} {r : α} (h : Evt f r) : Evt (fun k _ => f k k) r := by
  obtain ⟨k1, h1⟩ := h
  exact ⟨k1, fun k n hk _ => h1 k k hk hk⟩
theorem Evt.step {L F : Nat → Nat → Option α} {r : α} (hL : ∀ k n, L k (n + 1) = F k n) (h : Evt F r) : Evt L r := by
  obtain ⟨k1, h1⟩ := h
  refine ⟨k1 + 1, fun k n hk hn => ?_⟩
  obtain ⟨m, rfl⟩ : ∃ m, n = m + 1 := ⟨n - 1, by omega⟩
  rw [hL]
  exact h1 k m (by omega) (by omega)
theorem Evt.eq {f g : Nat → Nat → Option α} {r : α} (h : Evt f r) (e : ∀ k n, g k n = f k n) : Evt g r := by
  obtain ⟨k1, h1⟩ := h
  exact ⟨k1, fun k n hk hn => by rw [e]; exact h1 k n hk hn⟩
theorem Evt.get {f : Nat → Option α} {r : α} (h : Evt (fun k _ => f k) r) : ∃ k, f k = some r := by
  obtain ⟨k1, h1⟩ := h
  exact ⟨k1, h1 k1 k1 (Nat.le_refl _) (Nat.le_refl _)⟩
end

def lenB : Nat := 4611686018427387904
theorem w64 {n : Int} (h0 : -9223372036854775808 ≤ n) (h1 : n ≤ 9223372036854775807) : IntKind.wrap .i64 n = n := by rw [IntKind.wrap_i64]; omega
theorem w64_next {m : Nat} (h : m < lenB) : IntKind.wrap .i64 ((m : Int) + 1) = ((m + 1 : Nat) : Int) := by
  simp only [lenB] at h
  rw [w64] <;> omega
theorem wu64 {n : Int} (h0 : 0 ≤ n) (h1 : n ≤ 18446744073709551615) : IntKind.wrap .u64 n = n := by
  rw [IntKind.wrap_u64]; omega

section
variable {α : Type}
theorem mid_lt {d r : List α} {e : α} : decide ((d.length : Int) < ((d ++ e :: r).length : Int)) = true := by simp; omega
theorem mid_ge {m : Nat} : decide ((0 : Int) ≤ (m : Int)) = true := by simp
theorem mid_get {d r : List α} {e z : α} : (d ++ e :: r).getD (Int.toNat (d.length : Int)) z = e := by simp
theorem mid_set {d r : List α} {e v : α} : (d ++ e :: r).set (Int.toNat (d.length : Int)) v = d ++ v :: r := by simp
theorem mid_end {d : List α} : decide ((d.length : Int) < (d.length : Int)) = false := by simp
end
end Go.Ev

namespace Go.Ev
open Go

def roomN (n : Nat) : Nat := if n % 6 = 5 then 0 else if n % 3 = 0 then 1 else n

def toV {β γ : Type} (f : β → γ) (v : γ) (a : List β) (b : Bool) : List γ × List γ := if b = true ∧ a = [] then ([], []) else (a.map f, List.replicate (roomN a.length) v)

section
variable {β γ R : Type}

theorem to_loop {dβ : β} {L : Nat → Nat → List β → List γ → Int → Option (R ⊕ (List β × List γ × Unit))} {F : Nat → β → Option γ} {f : β → γ}
    (hL : ∀ k n x0 x5 x6, L k (n + 1) x0 x5 x6 = (bif (decide (x6 < (x0.length : Int))) then (bif (decide (0 ≤ x6)) then (bif (decide (x6 < (x0.length : Int))) then (Option.bind (F k (x0.getD (Int.toNat x6) dβ)) fun r3 => (bif (decide (0 ≤ x6)) then (bif (decide (x6 < (x5.length : Int))) then (L k n x0 (x5.set (Int.toNat x6) r3) (IntKind.wrap .i64 (x6 + 1))) else none) else none)) else none) else none) else some (Sum.inr (x0, x5, ())))) :
    ∀ (r d : List β) (d' r' : List γ), d'.length = d.length → r.length ≤ r'.length → (d ++ r).length < lenB → (∀ x ∈ r, Evt (fun k _ => F k x) (f x)) →
      Evt (fun k n => L k n (d ++ r) (d' ++ r') d.length) (.inr (d ++ r, d' ++ r.map f ++ r'.drop r.length, ()))
  | [], d, d', r', h1, h2, h3, h4 => by
    refine Evt.step (fun k n => hL k n _ _ _) ?_
    simp only [List.append_nil, mid_end, List.map_nil, List.length_nil, List.drop_zero]
    exact Evt.cfalse rfl .pure
  | x :: r, d, d', [], h1, h2, h3, h4 => by simp at h2
  | x :: r, d, d', y :: r', h1, h2, h3, h4 => by
    refine Evt.step (fun k n => hL k n _ _ _) ?_
    refine Evt.ctrue mid_lt (Evt.ctrue mid_ge (Evt.ctrue mid_lt ?_))
    rw [mid_get]
    refine Evt.bind (h4 x (by simp)) (Evt.ctrue mid_ge (Evt.ctrue (by rw [← h1]; exact mid_lt) ?_))
    rw [← h1, mid_set, w64_next (by simp at h3; omega), h1]
    have := to_loop hL r (d ++ [x]) (d' ++ [f x]) r' (by simp [h1]) (by simpa using h2) (by simpa using h3) (fun z hz => h4 z (by simp [hz]))
    simpa using this

theorem fill_loop {x0 : β} {v : γ} {L : Nat → Nat → List γ → Int → Option (R ⊕ (β × List γ × Unit))}
    (hL : ∀ k n x5 x7, L k (n + 1) x5 x7 = (bif (decide (x7 < (x5.length : Int))) then (bif (decide (0 ≤ x7)) then (bif (decide (x7 < (x5.length : Int))) then (L k n (x5.set (Int.toNat x7) v) (IntKind.wrap .i64 (x7 + 1))) else none) else none) else some (Sum.inr (x0, x5, ())))) :
    ∀ (r d : List γ), (d ++ r).length < lenB → Evt (fun k n => L k n (d ++ r) d.length) (.inr (x0, d ++ List.replicate r.length v, ()))
  | [], d, h => by
    refine Evt.step (fun k n => hL k n _ _) ?_
    simp only [List.append_nil, mid_end, List.length_nil, List.replicate_zero]
    exact Evt.cfalse rfl .pure
  | x :: r, d, h => by
    refine Evt.step (fun k n => hL k n _ _) ?_
    refine Evt.ctrue mid_lt (Evt.ctrue mid_ge (Evt.ctrue mid_lt ?_))
    rw [mid_set, w64_next (by simp at h; omega)]
    have := fill_loop hL r (d ++ [v]) (by simpa using h)
    simpa [List.replicate_succ] using this

theorem to_all {dβ : β} {dγ v : γ} {T : Nat → Option (List γ × List γ)} {room : Int → Option Int} {F : Nat → β → Option γ} {f : β → γ} {a : List β} {b : Bool}
    {L1 : Nat → Nat → List β → List γ → Int → Option ((List γ × List γ) ⊕ (List β × List γ × Unit))} {L2 : Nat → Nat → List β → List γ → Int → Option ((List γ × List γ) ⊕ (List β × List γ × Unit))}
    (hroom : ∀ n : Nat, room n = some (roomN n : Int))
    (hL1 : ∀ k n x0 x5 x6, L1 k (n + 1) x0 x5 x6 = (bif (decide (x6 < (x0.length : Int))) then (bif (decide (0 ≤ x6)) then (bif (decide (x6 < (x0.length : Int))) then (Option.bind (F k (x0.getD (Int.toNat x6) dβ)) fun r3 => (bif (decide (0 ≤ x6)) then (bif (decide (x6 < (x5.length : Int))) then (L1 k n x0 (x5.set (Int.toNat x6) r3) (IntKind.wrap .i64 (x6 + 1))) else none) else none)) else none) else none) else some (Sum.inr (x0, x5, ()))))
    (hL2 : ∀ k n x0 x5 x7, L2 k (n + 1) x0 x5 x7 = (bif (decide (x7 < (x5.length : Int))) then (bif (decide (0 ≤ x7)) then (bif (decide (x7 < (x5.length : Int))) then (L2 k n x0 (x5.set (Int.toNat x7) v) (IntKind.wrap .i64 (x7 + 1))) else none) else none) else some (Sum.inr (x0, x5, ()))))
    (hT : ∀ k, T k = (bif b && ((a.length : Int) == 0) then some ([], []) else (Option.bind (room (a.length : Int)) fun r2 => (bif (decide (0 ≤ (IntKind.wrap .i64 ((a.length : Int) + r2)))) then (bif (decide ((IntKind.wrap .i64 ((a.length : Int) + r2)) < 274877906944)) then (both (R := List γ × List γ) (P := List β × List γ × Unit) (L1 k k a (List.replicate (Int.toNat (IntKind.wrap .i64 ((a.length : Int) + r2))) dγ) 0) (fun q5 => some q5) (fun y4 => (both (R := List γ × List γ) (P := List β × List γ × Unit) (L2 k k y4.1 y4.2.1 (y4.1.length : Int)) (fun q8 => some q8) (fun y7 => (bif (decide (0 ≤ (y7.1.length : Int))) then (bif (decide ((y7.1.length : Int) ≤ (y7.2.1.length : Int))) then some ((y7.2.1.take (Int.toNat (y7.1.length : Int))), (y7.2.1.drop (Int.toNat (y7.1.length : Int)))) else none) else none))))) else none) else none))))
    (ha : a.length ≤ 1000000) (hF : ∀ x ∈ a, Evt (fun k _ => F k x) (f x)) : Evt (fun k _ => T k) (toV f v a b) := by
  have hr : roomN a.length ≤ a.length + 1 := by unfold roomN; split <;> (try split) <;> omega
  refine Evt.eq ?_ (fun k n => hT k)
  by_cases hb : b = true ∧ a = []
  · refine Evt.ctrue (by simp [hb.1, hb.2]) ?_
    rw [toV, if_pos hb]
    exact .pure
  · refine Evt.cfalse ?_ ?_
    · cases b with
      | false => rfl
      | true =>
        have : a ≠ [] := fun h => hb ⟨rfl, h⟩
        simp [this]
    rw [toV, if_neg hb]
    refine Evt.bind (.const (hroom _)) ?_
    have hw : IntKind.wrap .i64 ((a.length : Int) + (roomN a.length : Int)) = ((a.length + roomN a.length : Nat) : Int) := by rw [w64] <;> omega
    rw [hw]
    refine Evt.ctrue mid_ge (Evt.ctrue (by simp <;> omega) ?_)
    have h1 := to_loop hL1 a [] [] (List.replicate (Int.toNat ((a.length + roomN a.length : Nat) : Int)) dγ) rfl (by simp <;> omega) (by simp [lenB]; omega) hF
    simp only [List.nil_append, List.length_nil] at h1
    refine Evt.inr (Evt.diag h1) ?_
    have h2 := fill_loop (x0 := a) (L := fun k n => L2 k n a) (fun k n x5 x7 => hL2 k n a x5 x7) (List.drop a.length (List.replicate (Int.toNat ((a.length + roomN a.length : Nat) : Int)) dγ)) (a.map f) (by simp [lenB]; omega)
    simp only [List.length_map] at h2
    refine Evt.inr (Evt.diag h2) ?_
    have e : (((a.length + roomN a.length : Nat) : Int)).toNat = a.length + roomN a.length := by omega
    rw [e]
    refine Evt.ctrue mid_ge (Evt.ctrue (by simp <;> omega) ?_)
    refine Evt.const ?_
    simp

theorem eq_loop {d0 : γ} {Q : Nat → γ → γ → Option Bool} {L : Nat → Nat → List γ → List γ → Int → Option (Bool ⊕ Unit)}
    (hL : ∀ k n x0 x1 x5, L k (n + 1) x0 x1 x5 = (bif (decide (x5 < (x0.length : Int))) then (bif (decide (0 ≤ x5)) then (bif (decide (x5 < (x0.length : Int))) then (bif (decide (0 ≤ x5)) then (bif (decide (x5 < (x1.length : Int))) then (Option.bind (Q k (x0.getD (Int.toNat x5) d0) (x1.getD (Int.toNat x5) d0)) fun r1 => (bif (!r1) then some (Sum.inl false) else (L k n x0 x1 (IntKind.wrap .i64 (x5 + 1))))) else none) else none) else none) else none) else some (Sum.inr ()))) :
    ∀ (r d : List γ), (d ++ r).length < lenB → (∀ x ∈ r, Evt (fun k _ => Q k x x) true) → Evt (fun k n => L k n (d ++ r) (d ++ r) d.length) (.inr ())
  | [], d, h, _ => by
    refine Evt.step (fun k n => hL k n _ _ _) ?_
    simp only [List.append_nil, mid_end]
    exact Evt.cfalse rfl .pure
  | x :: r, d, h, hQ => by
    refine Evt.step (fun k n => hL k n _ _ _) ?_
    refine Evt.ctrue mid_lt (Evt.ctrue mid_ge (Evt.ctrue mid_lt (Evt.ctrue mid_ge (Evt.ctrue mid_lt ?_))))
    rw [mid_get]
    refine Evt.bind (hQ x (by simp)) (Evt.cfalse rfl ?_)
    rw [w64_next (by simp at h; omega)]
    have := eq_loop hL r (d ++ [x]) (by simpa using h) (fun z hz => hQ z (by simp [hz]))
    simpa using this

theorem eq_all {d0 : γ} {Q : Nat → γ → γ → Option Bool} {L : Nat → Nat → List γ → List γ → Int → Option (Bool ⊕ Unit)} {E : Nat → List γ → List γ → Option Bool}
    (hL : ∀ k n x0 x1 x5, L k (n + 1) x0 x1 x5 = (bif (decide (x5 < (x0.length : Int))) then (bif (decide (0 ≤ x5)) then (bif (decide (x5 < (x0.length : Int))) then (bif (decide (0 ≤ x5)) then (bif (decide (x5 < (x1.length : Int))) then (Option.bind (Q k (x0.getD (Int.toNat x5) d0) (x1.getD (Int.toNat x5) d0)) fun r1 => (bif (!r1) then some (Sum.inl false) else (L k n x0 x1 (IntKind.wrap .i64 (x5 + 1))))) else none) else none) else none) else none) else some (Sum.inr ())))
    (hE : ∀ k x0 x1, E k x0 x1 = (bif ((x0.length : Int) != (x1.length : Int)) then some false else (both (R := Bool) (P := Unit) (L k k x0 x1 0) (fun q3 => some q3) (fun _ => some true))))
    {x : List γ} (h : x.length < lenB) (hQ : ∀ z ∈ x, Evt (fun k _ => Q k z z) true) : Evt (fun k _ => E k x x) true := by
  refine Evt.eq ?_ (fun k n => hE k x x)
  refine Evt.cfalse (by simp) ?_
  have := eq_loop hL x [] (by simpa using h) hQ
  simp only [List.nil_append, List.length_nil] at this
  exact Evt.inr (Evt.diag this) .pure

def MarkOk (mark : Nat → γ → Int → Option (Int × γ)) (held : Nat → γ → Int → Option Int) (w : γ → Nat) : Prop :=
  ∀ x (a : Nat), a + w x < lenB → ∃ y, Evt (fun k _ => mark k x a) (((a + w x : Nat) : Int), y) ∧ Evt (fun k _ => held k y a) ((a + w x : Nat) : Int) ∧ w y = w x

theorem mark_loop {M : Nat → Nat → List γ → Int → Int → Option ((Int × List γ) ⊕ (Int × List γ × Unit))} {H : Nat → Nat → List γ → Int → Int → Option (Int ⊕ (Int × Unit))} {mv : Nat → γ} {c : Nat}
    (hM : ∀ (k n : Nat) (d r : List γ) (e : γ) (a : Nat), a + c < lenB → (d ++ e :: r).length < lenB → M k (n + 1) (d ++ e :: r) a d.length = M k n (d ++ mv a :: r) ((a + c : Nat) : Int) ((d.length + 1 : Nat) : Int))
    (hM0 : ∀ (k n : Nat) (d : List γ) (a : Int), M k (n + 1) d a d.length = some (.inr (a, d, ())))
    (hH : ∀ (k n : Nat) (d r : List γ) (a : Nat), a + c < lenB → (d ++ mv a :: r).length < lenB → H k (n + 1) (d ++ mv a :: r) a d.length = H k n (d ++ mv a :: r) ((a + c : Nat) : Int) ((d.length + 1 : Nat) : Int))
    (hH0 : ∀ (k n : Nat) (d : List γ) (a : Int), H k (n + 1) d a d.length = some (.inr (a, ()))) :
    ∀ (r d : List γ) (a : Nat), a + c * r.length < lenB → (d ++ r).length < lenB → ∃ y : List γ, y.length = r.length ∧ Evt (fun k n => M k n (d ++ r) a d.length) (.inr (((a + c * r.length : Nat) : Int), d ++ y, ())) ∧
      ∀ d2 : List γ, (d2 ++ y).length < lenB → Evt (fun k n => H k n (d2 ++ y) a d2.length) (.inr (((a + c * r.length : Nat) : Int), ()))
  | [], d, a, _, _ => by
    refine ⟨[], rfl, ?_, fun d2 _ => ?_⟩
    · exact Evt.step (F := fun _ _ => some (.inr (((a + c * ([] : List γ).length : Nat) : Int), d ++ [], ()))) (fun k n => by simpa using hM0 k n d a) .pure
    · exact Evt.step (F := fun _ _ => some (.inr (((a + c * ([] : List γ).length : Nat) : Int), ()))) (fun k n => by simpa using hH0 k n d2 a) .pure
  | e :: r, d, a, ha, hd => by
    have hc : a + c < lenB := by
      have : c ≤ c * (e :: r).length := Nat.le_mul_of_pos_right _ (by simp)
      omega
    have hs : a + c + c * r.length = a + c * (e :: r).length := by simp [Nat.mul_add]; omega
    obtain ⟨y, h1, h2, h3⟩ := mark_loop hM hM0 hH hH0 r (d ++ [mv a]) (a + c) (by omega) (by simpa using hd)
    refine ⟨mv a :: y, by simp [h1], Evt.step (fun k n => hM k n d r e a hc hd) ?_, fun d2 hd2 => Evt.step (fun k n => hH k n d2 y a hc hd2) ?_⟩
    · rw [hs] at h2
      simpa using h2
    · have := h3 (d2 ++ [mv a]) (by simpa using hd2)
      rw [hs] at this
      simpa using this

theorem mark_all {M : Nat → Nat → List γ → Int → Int → Option ((Int × List γ) ⊕ (Int × List γ × Unit))} {H : Nat → Nat → List γ → Int → Int → Option (Int ⊕ (Int × Unit))} {mark : Nat → List γ → Int → Option (Int × List γ)} {held : Nat → List γ → Int → Option Int} {mv : Nat → γ} {c : Nat}
    (hc : 0 < c)
    (hM : ∀ (k n : Nat) (d r : List γ) (e : γ) (a : Nat), a + c < lenB → (d ++ e :: r).length < lenB → M k (n + 1) (d ++ e :: r) a d.length = M k n (d ++ mv a :: r) ((a + c : Nat) : Int) ((d.length + 1 : Nat) : Int))
    (hM0 : ∀ (k n : Nat) (d : List γ) (a : Int), M k (n + 1) d a d.length = some (.inr (a, d, ())))
    (hH : ∀ (k n : Nat) (d r : List γ) (a : Nat), a + c < lenB → (d ++ mv a :: r).length < lenB → H k (n + 1) (d ++ mv a :: r) a d.length = H k n (d ++ mv a :: r) ((a + c : Nat) : Int) ((d.length + 1 : Nat) : Int))
    (hH0 : ∀ (k n : Nat) (d : List γ) (a : Int), H k (n + 1) d a d.length = some (.inr (a, ())))
    (hmark : ∀ k x a, mark k x a = both (R := Int × List γ) (P := Int × List γ × Unit) (M k k x a 0) (fun q => some q) (fun y => some (y.1, y.2.1)))
    (hheld : ∀ k x a, held k x a = both (R := Int) (P := Int × Unit) (H k k x a 0) (fun q => some q) (fun y => some y.1)) :
    MarkOk mark held (fun x => c * x.length) := by
  intro x a ha
  simp only at ha
  have hx : x.length < lenB := Nat.lt_of_le_of_lt (Nat.le_mul_of_pos_left _ hc) (by omega)
  obtain ⟨y, h1, h2, h3⟩ := mark_loop hM hM0 hH hH0 x [] a ha (by simpa using hx)
  refine ⟨y, Evt.eq ?_ (fun k _ => hmark k x a), Evt.eq ?_ (fun k _ => hheld k y a), by simp [h1]⟩
  · simp only [List.nil_append, List.length_nil] at h2
    exact Evt.inr (Evt.diag h2) .pure
  · have := h3 [] (by simp [h1]; exact hx)
    simp only [List.nil_append, List.length_nil] at this
    exact Evt.inr (Evt.diag this) .pure

theorem mark_rows {d0 : γ} {M : Nat → Nat → List γ → Int → Int → Option ((Int × List γ) ⊕ (Int × List γ × Unit))} {H : Nat → Nat → List γ → Int → Int → Option (Int ⊕ (Int × Unit))} {mark : Nat → γ → Int → Option (Int × γ)} {held : Nat → γ → Int → Option Int} {w : γ → Nat} (hw : MarkOk mark held w)
    (hM : ∀ (k n : Nat) (x : List γ) (a i : Int), M k (n + 1) x a i = (bif (decide (i < (x.length : Int))) then (bif (decide (0 ≤ i)) then (bif (decide (i < (x.length : Int))) then (Option.bind (mark k (x.getD (Int.toNat i) d0) a) fun r => M k n (x.set (Int.toNat i) r.2) r.1 (IntKind.wrap .i64 (i + 1))) else none) else none) else some (.inr (a, x, ()))))
    (hH : ∀ (k n : Nat) (x : List γ) (a i : Int), H k (n + 1) x a i = (bif (decide (i < (x.length : Int))) then (bif (decide (0 ≤ i)) then (bif (decide (i < (x.length : Int))) then (Option.bind (held k (x.getD (Int.toNat i) d0) a) fun r => bif (decide (r < 0)) then some (.inl (-1)) else H k n x r (IntKind.wrap .i64 (i + 1))) else none) else none) else some (.inr (a, ())))) :
    ∀ (r d : List γ) (a : Nat), a + (r.map w).sum < lenB → (d ++ r).length < lenB → ∃ y : List γ, y.length = r.length ∧ y.map w = r.map w ∧ Evt (fun k n => M k n (d ++ r) a d.length) (.inr (((a + (r.map w).sum : Nat) : Int), d ++ y, ())) ∧
      ∀ d2 : List γ, (d2 ++ y).length < lenB → Evt (fun k n => H k n (d2 ++ y) a d2.length) (.inr (((a + (r.map w).sum : Nat) : Int), ()))
  | [], d, a, _, _ => by
    refine ⟨[], rfl, rfl, Evt.step (fun k n => hM k n _ _ _) ?_, fun d2 _ => Evt.step (fun k n => hH k n _ _ _) ?_⟩
    · refine Evt.cfalse (by simp) ?_
      simpa using Evt.pure
    · refine Evt.cfalse (by simp) ?_
      simpa using Evt.pure
  | e :: r, d, a, ha, hd => by
    simp only [List.map_cons, List.sum_cons] at ha
    obtain ⟨y0, m1, m2, m3⟩ := hw e a (by omega)
    obtain ⟨y, h1, h1', h2, h3⟩ := mark_rows hw hM hH r (d ++ [y0]) (a + w e) (by omega) (by simpa using hd)
    have hs : a + w e + (r.map w).sum = a + ((e :: r).map w).sum := by simp <;> omega
    refine ⟨y0 :: y, by simp [h1], by simp [h1', m3], Evt.step (fun k n => hM k n _ _ _) ?_, fun d2 hd2 => Evt.step (fun k n => hH k n _ _ _) ?_⟩
    · refine Evt.ctrue mid_lt (Evt.ctrue mid_ge (Evt.ctrue mid_lt ?_))
      rw [mid_get]
      refine Evt.bind m1 ?_
      rw [mid_set, w64_next (by simp at hd; omega)]
      rw [hs] at h2
      simpa using h2
    · refine Evt.ctrue mid_lt (Evt.ctrue mid_ge (Evt.ctrue mid_lt ?_))
      rw [mid_get]
      refine Evt.bind m2 (Evt.cfalse (by simp <;> omega) ?_)
      rw [w64_next (by simp at hd2; omega)]
      have := h3 (d2 ++ [y0]) (by simpa using hd2)
      rw [hs] at this
      simpa using this

theorem mark_rows_all {d0 : γ} {M : Nat → Nat → List γ → Int → Int → Option ((Int × List γ) ⊕ (Int × List γ × Unit))} {H : Nat → Nat → List γ → Int → Int → Option (Int ⊕ (Int × Unit))} {mark : Nat → γ → Int → Option (Int × γ)} {held : Nat → γ → Int → Option Int} {w : γ → Nat} (hw : MarkOk mark held w)
    {marks : Nat → List γ → Int → Option (Int × List γ)} {helds : Nat → List γ → Int → Option Int}
    (hM : ∀ (k n : Nat) (x : List γ) (a i : Int), M k (n + 1) x a i = (bif (decide (i < (x.length : Int))) then (bif (decide (0 ≤ i)) then (bif (decide (i < (x.length : Int))) then (Option.bind (mark k (x.getD (Int.toNat i) d0) a) fun r => M k n (x.set (Int.toNat i) r.2) r.1 (IntKind.wrap .i64 (i + 1))) else none) else none) else some (.inr (a, x, ()))))
    (hH : ∀ (k n : Nat) (x : List γ) (a i : Int), H k (n + 1) x a i = (bif (decide (i < (x.length : Int))) then (bif (decide (0 ≤ i)) then (bif (decide (i < (x.length : Int))) then (Option.bind (held k (x.getD (Int.toNat i) d0) a) fun r => bif (decide (r < 0)) then some (.inl (-1)) else H k n x r (IntKind.wrap .i64 (i + 1))) else none) else none) else some (.inr (a, ()))))
    (hmark : ∀ k x a, marks k x a = both (R := Int × List γ) (P := Int × List γ × Unit) (M k k x a 0) (fun q => some q) (fun y => some (y.1, y.2.1)))
    (hheld : ∀ k x a, helds k x a = both (R := Int) (P := Int × Unit) (H k k x a 0) (fun q => some q) (fun y => some y.1)) {x : List γ} (hx : x.length < lenB) {a : Nat} (ha : a + (x.map w).sum < lenB) :
    ∃ y, Evt (fun k _ => marks k x a) (((a + (x.map w).sum : Nat) : Int), y) ∧ Evt (fun k _ => helds k y a) ((a + (x.map w).sum : Nat) : Int) := by
  obtain ⟨y, h1, _, h2, h3⟩ := mark_rows hw hM hH x [] a ha (by simpa using hx)
  refine ⟨y, Evt.eq ?_ (fun k _ => hmark k x a), Evt.eq ?_ (fun k _ => hheld k y a)⟩
  · simp only [List.nil_append, List.length_nil] at h2
    exact Evt.inr (Evt.diag h2) .pure
  · have := h3 [] (by simp [h1]; exact hx)
    simp only [List.nil_append, List.length_nil] at this
    exact Evt.inr (Evt.diag this) .pure

theorem sz_rows {d0 : List γ} {S : Nat → Nat → List (List γ) → Int → Int → Option (Int ⊕ (Int × Unit))} {sz : List γ → Int → Option Int}
    (hsz : ∀ x a, sz x a = (bif (decide ((IntKind.wrap .i64 (a - (x.length : Int))) < 0)) then some (-1) else some (IntKind.wrap .i64 (a - (x.length : Int)))))
    (hS : ∀ (k n : Nat) (x : List (List γ)) (a i : Int), S k (n + 1) x a i = (bif (decide (i < (x.length : Int))) then (bif (decide (0 ≤ i)) then (bif (decide (i < (x.length : Int))) then (Option.bind (sz (x.getD (Int.toNat i) d0) a) fun r => bif (decide (r < 0)) then some (.inl (-1)) else S k n x r (IntKind.wrap .i64 (i + 1))) else none) else none) else some (.inr (a, ())))) :
    ∀ (r d : List (List γ)) (a : Nat), a ≤ 1000000 → (d ++ r).length < lenB → (∀ x ∈ r, x.length ≤ maxLen) → Evt (fun k n => S k n (d ++ r) a d.length) (if (r.map List.length).sum ≤ a then .inr (((a - (r.map List.length).sum : Nat) : Int), ()) else .inl (-1))
  | [], d, a, _, _, _ => by
    refine Evt.step (fun k n => hS k n _ _ _) (Evt.cfalse (by simp) ?_)
    simpa using Evt.pure
  | e :: r, d, a, ha, hd, hm => by
    refine Evt.step (fun k n => hS k n _ _ _) ?_
    refine Evt.ctrue mid_lt (Evt.ctrue mid_ge (Evt.ctrue mid_lt ?_))
    rw [mid_get]
    have hme := hm e (by simp)
    simp only [maxLen] at hme
    have hw : IntKind.wrap .i64 ((a : Int) - (e.length : Int)) = (a : Int) - (e.length : Int) := by rw [w64] <;> omega
    by_cases hle : e.length ≤ a
    · have h1 : sz e a = some (((a - e.length : Nat) : Int)) := by
        rw [hsz, hw]
        have : decide ((a : Int) - (e.length : Int) < 0) = false := by simp <;> omega
        rw [this]
        simp only [cond_false]
        congr 1
        omega
      refine Evt.bind (.const h1) (Evt.cfalse (by simp <;> omega) ?_)
      rw [w64_next (by simp at hd; omega)]
      have := sz_rows hsz hS r (d ++ [e]) (a - e.length) (by omega) (by simpa using hd) (fun x hx => hm x (by simp [hx]))
      simp only [List.map_cons, List.sum_cons]
      have hiff : ((r.map List.length).sum ≤ a - e.length) ↔ (e.length + (r.map List.length).sum ≤ a) := by omega
      rw [show a - (e.length + (r.map List.length).sum) = a - e.length - (r.map List.length).sum by omega]
      simp only [hiff] at this
      simpa using this
    · have h1 : sz e a = some (-1) := by
        rw [hsz, hw]
        have : decide ((a : Int) - (e.length : Int) < 0) = true := by simp <;> omega
        rw [this]
        rfl
      refine Evt.bind (.const h1) (Evt.ctrue rfl ?_)
      rw [if_neg (by simp <;> omega)]
      exact .pure

theorem sz_one {sz : List γ → Int → Option Int}
    (hsz : ∀ x a, sz x a = (bif (decide ((IntKind.wrap .i64 (a - (x.length : Int))) < 0)) then some (-1) else some (IntKind.wrap .i64 (a - (x.length : Int))))) {x : List γ} (hx : x.length ≤ maxLen) {a : Nat} (ha : a ≤ 1000000) :
    sz x a = some (if x.length ≤ a then ((a - x.length : Nat) : Int) else -1) := by
  simp only [maxLen] at hx
  have hw : IntKind.wrap .i64 ((a : Int) - (x.length : Int)) = (a : Int) - (x.length : Int) := by rw [w64] <;> omega
  rw [hsz, hw]
  by_cases h : x.length ≤ a
  · have : decide ((a : Int) - (x.length : Int) < 0) = false := by simp <;> omega
    rw [this, if_pos h]
    simp only [cond_false]
    congr 1
    omega
  · have : decide ((a : Int) - (x.length : Int) < 0) = true := by simp <;> omega
    rw [this, if_neg h]
    rfl

theorem sz_all {d0 : List γ} {S : Nat → Nat → List (List γ) → Int → Int → Option (Int ⊕ (Int × Unit))} {sz : List γ → Int → Option Int} {szs : Nat → List (List γ) → Int → Option Int}
    (hsz : ∀ x a, sz x a = (bif (decide ((IntKind.wrap .i64 (a - (x.length : Int))) < 0)) then some (-1) else some (IntKind.wrap .i64 (a - (x.length : Int)))))
    (hS : ∀ (k n : Nat) (x : List (List γ)) (a i : Int), S k (n + 1) x a i = (bif (decide (i < (x.length : Int))) then (bif (decide (0 ≤ i)) then (bif (decide (i < (x.length : Int))) then (Option.bind (sz (x.getD (Int.toNat i) d0) a) fun r => bif (decide (r < 0)) then some (.inl (-1)) else S k n x r (IntKind.wrap .i64 (i + 1))) else none) else none) else some (.inr (a, ()))))
    (hszs : ∀ k x a, szs k x a = (bif (decide ((IntKind.wrap .i64 (a - (x.length : Int))) < 0)) then some (-1) else (both (R := Int) (P := Int × Unit) (S k k x (IntKind.wrap .i64 (a - (x.length : Int))) 0) (fun q4 => some q4) (fun y3 => some y3.1))))
    {x : List (List γ)} (hx : x.length ≤ maxLen) (hm : ∀ y ∈ x, y.length ≤ maxLen) {a : Nat} (ha : a ≤ 1000000) :
    Evt (fun k _ => szs k x a) (if x.length + (x.map List.length).sum ≤ a then ((a - (x.length + (x.map List.length).sum) : Nat) : Int) else -1) := by
  simp only [maxLen] at hx
  have hw : IntKind.wrap .i64 ((a : Int) - (x.length : Int)) = (a : Int) - (x.length : Int) := by rw [w64] <;> omega
  refine Evt.eq ?_ (fun k _ => hszs k x a)
  rw [hw]
  by_cases h : x.length ≤ a
  · refine Evt.cfalse (by simp <;> omega) ?_
    have e : (a : Int) - (x.length : Int) = ((a - x.length : Nat) : Int) := by omega
    rw [e]
    have := sz_rows hsz hS x [] (a - x.length) (by omega) (by simp [lenB]; omega) hm
    simp only [List.nil_append, List.length_nil] at this
    by_cases h2 : (x.map List.length).sum ≤ a - x.length
    · rw [if_pos h2] at this
      rw [if_pos (by omega)]
      refine Evt.inr (Evt.diag this) (.const ?_)
      simp only
      congr 2
      omega
    · rw [if_neg h2] at this
      rw [if_neg (by omega)]
      exact Evt.inl (Evt.diag this) .pure
  · rw [if_neg (by omega)]
    exact Evt.ctrue (by simp <;> omega) .pure
end
end Go.Ev

namespace Go.Ev
open Go

section
variable {α β : Type}

theorem Evt.rng0 {d : List α} {F G : Nat → Nat → Option β} {res : β} (h : Evt G res) : Evt (fun k n => bif (decide ((d.length : Int) < (d.length : Int))) then F k n else G k n) res := Evt.cfalse mid_end h

theorem len_next {d r : List α} {e : α} (h : (d ++ e :: r).length < lenB) : IntKind.wrap .i64 ((d.length : Int) + 1) = ((d ++ [e]).length : Int) := by
  rw [w64_next (by simp at h; omega)]; simp

end
end Go.Ev

namespace Go.Ev.G
open Go Go.Ev
set_option maxRecDepth 100000

theorem room_eq (n : Nat) : laws_roomBehind n = some (roomN n : Int) := by
  unfold laws_roomBehind roomN
  have h6 : Int.tmod (n : Int) 6 = ((n % 6 : Nat) : Int) := rfl
  have h3 : Int.tmod (n : Int) 3 = ((n % 3 : Nat) : Int) := rfl
  rw [h6, h3]
  by_cases h : n % 6 = 5
  · have e : ((((n % 6 : Nat) : Int)) == 5) = true := by rw [h]; rfl
    rw [e, if_pos h]; rfl
  · have e : ((((n % 6 : Nat) : Int)) == 5) = false := by
      rw [beq_eq_false_iff_ne]; omega
    rw [e, if_neg h]
    by_cases h' : n % 3 = 0
    · have e : ((((n % 3 : Nat) : Int)) == 0) = true := by rw [h']; rfl
      rw [e, if_pos h']; rfl
    · have e : ((((n % 3 : Nat) : Int)) == 0) = false := by
        rw [beq_eq_false_iff_ne]; omega
      rw [e, if_neg h']; rfl

theorem room_le (n : Nat) : roomN n ≤ n + 1 := by unfold roomN; split <;> (try split) <;> omega

def fI : Int := -7000000000000000101
def fT : Int × Int × Int × Int := (fI, fI, fI, fI)

theorem toIntS_ev {a : List Int} {b : Bool} (ha : a.length ≤ 1000000) : Evt (fun k _ => laws_toIntS k a b) (toV id fI a b) :=
  to_all (dβ := 0) (dγ := 0) (F := fun _ x => some x) (L1 := laws_toIntS_L122) (L2 := laws_toIntS_L250) room_eq (fun _ _ _ _ _ => rfl) (fun _ _ _ _ _ => rfl)
    (fun k => by unfold laws_toIntS; cases b <;> cases a <;> rfl) ha (fun _ _ => .pure)

theorem toTermS_ev {a : List (Int × Int × Int × Int)} {b : Bool} (ha : a.length ≤ 1000000) : Evt (fun k _ => laws_toTermS k a b) (toV id fT a b) :=
  to_all (dβ := (0, 0, 0, 0)) (dγ := (0, 0, 0, 0)) (F := fun _ x => laws_toTerm x) (L1 := laws_toTermS_L122) (L2 := laws_toTermS_L250) room_eq (fun _ _ _ _ _ => rfl) (fun _ _ _ _ _ => rfl)
    (fun k => by unfold laws_toTermS; cases b <;> cases a <;> rfl) ha (fun _ _ => .pure)

theorem toTermSS_ev {a : List (List (Int × Int × Int × Int))} {b : Bool} (ha : a.length ≤ 1000000) (hm : ∀ x ∈ a, x.length ≤ 1000000) : Evt (fun k _ => laws_toTermSS k a b) (toV (fun x => toV id fT x b) ([fT], []) a b) :=
  to_all (dβ := []) (dγ := ([], [])) (F := fun k x => laws_toTermS k x b) (L1 := fun k n x0 x5 x6 => laws_toTermSS_L122 k n x0 b x5 x6) (L2 := laws_toTermSS_L250) room_eq (fun _ _ _ _ _ => rfl) (fun _ _ _ _ _ => rfl)
    (fun k => by unfold laws_toTermSS; cases b <;> cases a <;> rfl) ha (fun x hx => toTermS_ev (hm x hx))

theorem eqIntS_ev {x : List Int} (h : x.length < lenB) : Evt (fun k _ => laws_eqIntS k x x) true :=
  eq_all (d0 := 0) (Q := fun _ a b => some (!(a != b))) (L := laws_eqIntS_L58) (E := laws_eqIntS) (fun k n x0 x1 x5 => by simp only [Option.bind_some, Bool.not_not]; rfl) (fun _ _ _ => rfl) h (fun z _ => .const (by simp))
theorem eqTerm_rfl (x : Int × Int × Int × Int) : laws_eqTerm x x = some true := by simp [laws_eqTerm]
theorem eqTermS_ev {x : List (Int × Int × Int × Int)} (h : x.length < lenB) : Evt (fun k _ => laws_eqTermS k x x) true :=
  eq_all (d0 := (0, 0, 0, 0)) (Q := fun _ a b => laws_eqTerm a b) (L := laws_eqTermS_L58) (E := laws_eqTermS) (fun k n x0 x1 x5 => rfl) (fun _ _ _ => rfl) h (fun z _ => .const (eqTerm_rfl z))
theorem eqTermSS_ev {x : List (List (Int × Int × Int × Int))} (h : x.length < lenB) (hm : ∀ y ∈ x, y.length < lenB) : Evt (fun k _ => laws_eqTermSS k x x) true :=
  eq_all (d0 := []) (Q := fun k a b => laws_eqTermS k a b) (L := laws_eqTermSS_L58) (E := laws_eqTermSS) (fun k n x0 x1 x5 => rfl) (fun _ _ _ => rfl) h (fun z hz => eqTermS_ev (hm z hz))


def Room {γ : Type} (x : List γ × List γ) : Prop := x.2.length = roomN x.1.length ∧ x.1.length ≤ 1000000

theorem intact_all {γ : Type} {E : Nat → List γ → List γ → Option Bool} {I : Nat → (List γ × List γ) → (List γ × List γ) → Option Bool} {x : List γ × List γ} (hx : Room x)
    (hI : ∀ k a0 a1, I k a0 a1 = (Option.bind (laws_roomBehind (a1.1.length : Int)) fun r1 => (bif ((a0.1.length : Int) == (a1.1.length : Int)) then (bif (decide (0 ≤ (IntKind.wrap .i64 ((a1.1.length : Int) + r1)))) then (bif (decide ((IntKind.wrap .i64 ((a1.1.length : Int) + r1)) ≤ ((a0.1 ++ a0.2).length : Int))) then (bif (decide (0 ≤ (IntKind.wrap .i64 ((a1.1.length : Int) + r1)))) then (bif (decide ((IntKind.wrap .i64 ((a1.1.length : Int) + r1)) ≤ ((a1.1 ++ a1.2).length : Int))) then (Option.bind (E k (((a0.1 ++ a0.2).take (Int.toNat (IntKind.wrap .i64 ((a1.1.length : Int) + r1)))).drop 0) (((a1.1 ++ a1.2).take (Int.toNat (IntKind.wrap .i64 ((a1.1.length : Int) + r1)))).drop 0)) fun r2 => some r2) else none) else none) else none) else none) else some false)))
    (hE : Evt (fun k _ => E k (x.1 ++ x.2) (x.1 ++ x.2)) true) : Evt (fun k _ => I k x x) true := by
  have hr := room_le x.1.length
  have h1 := hx.1
  have h2 := hx.2
  refine Evt.eq ?_ (fun k _ => hI k x x)
  refine Evt.bind (.const (room_eq _)) ?_
  have hw : IntKind.wrap .i64 ((x.1.length : Int) + (roomN x.1.length : Int)) = (((x.1 ++ x.2).length : Nat) : Int) := by
    rw [List.length_append, h1, w64] <;> omega
  rw [hw]
  refine Evt.ctrue (by simp) (Evt.ctrue mid_ge (Evt.ctrue (by simp) (Evt.ctrue mid_ge (Evt.ctrue (by simp) ?_))))
  have e : (((x.1 ++ x.2).length : Nat) : Int).toNat = (x.1 ++ x.2).length := Int.toNat_natCast _
  rw [e, List.take_length, List.drop_zero]
  exact Evt.bind hE .pure

theorem small {γ : Type} {x : List γ × List γ} (hx : Room x) : (x.1 ++ x.2).length < lenB := by
  have hr := room_le x.1.length
  have h1 := hx.1
  have h2 := hx.2
  rw [List.length_append, h1]
  simp only [lenB]
  omega

theorem intactIntS_ev {x : List Int × List Int} (hx : Room x) : Evt (fun k _ => laws_intactIntS k x x) true := intact_all (E := laws_eqIntS) hx (fun _ _ _ => rfl) (eqIntS_ev (small hx))
theorem intactTermS_ev {x : List (Int × Int × Int × Int) × List (Int × Int × Int × Int)} (hx : Room x) : Evt (fun k _ => laws_intactTermS k x x) true := intact_all (E := laws_eqTermS) hx (fun _ _ _ => rfl) (eqTermS_ev (small hx))

theorem intact_loop {γ : Type} {d0 : γ} {Q : Nat → γ → γ → Option Bool} {x : List γ × List γ} {m : Int} {L : Nat → Nat → Int → Option (Bool ⊕ ((List γ × List γ) × (List γ × List γ) × Int × Unit))}
    (hL : ∀ k n x6, L k (n + 1) x6 = (bif (decide (x6 < (x.1.length : Int))) then (bif (decide (0 ≤ x6)) then (bif (decide (x6 < (x.1.length : Int))) then (bif (decide (0 ≤ x6)) then (bif (decide (x6 < (x.1.length : Int))) then (Option.bind (Q k (x.1.getD (Int.toNat x6) d0) (x.1.getD (Int.toNat x6) d0)) fun r2 => (bif (!r2) then some (Sum.inl false) else (L k n (IntKind.wrap .i64 (x6 + 1))))) else none) else none) else none) else none) else some (Sum.inr (x, x, m, ())))) (hb : x.1.length < lenB) :
    ∀ (r d : List γ), d ++ r = x.1 → (∀ z ∈ r, Evt (fun k _ => Q k z z) true) → Evt (fun k n => L k n d.length) (.inr (x, x, m, ()))
  | [], d, h, _ => by
    refine Evt.step (fun k n => hL k n _) (Evt.cfalse (by rw [← h]; simp) .pure)
  | z :: r, d, h, hQ => by
    refine Evt.step (fun k n => hL k n _) ?_
    rw [← h]
    refine Evt.ctrue mid_lt (Evt.ctrue mid_ge (Evt.ctrue mid_lt (Evt.ctrue mid_ge (Evt.ctrue mid_lt ?_))))
    rw [mid_get]
    refine Evt.bind (hQ z (by simp)) (Evt.cfalse rfl ?_)
    rw [w64_next (by rw [← h] at hb; simp at hb; omega)]
    have := intact_loop hL hb r (d ++ [z]) (by simpa using h) (fun y hy => hQ y (by simp [hy]))
    simpa using this

theorem intact_rows {γ : Type} {d0 : List γ × List γ} {Q : Nat → (List γ × List γ) → (List γ × List γ) → Option Bool} {E : Nat → List (List γ) → List (List γ) → Option Bool} {x : List (List γ × List γ) × List (List γ × List γ)} (hx : Room x) (hm : ∀ y ∈ x.1, Room y)
    {I : Nat → (List (List γ × List γ) × List (List γ × List γ)) → (List (List γ × List γ) × List (List γ × List γ)) → Option Bool}
    {L : Nat → Nat → (List (List γ × List γ) × List (List γ × List γ)) → (List (List γ × List γ) × List (List γ × List γ)) → Int → Int → Option (Bool ⊕ ((List (List γ × List γ) × List (List γ × List γ)) × (List (List γ × List γ) × List (List γ × List γ)) × Int × Unit))}
    (hL : ∀ k n x0 x1 x5 x6, L k (n + 1) x0 x1 x5 x6 = (bif (decide (x6 < (x1.1.length : Int))) then (bif (decide (0 ≤ x6)) then (bif (decide (x6 < (x0.1.length : Int))) then (bif (decide (0 ≤ x6)) then (bif (decide (x6 < (x1.1.length : Int))) then (Option.bind (Q k (x0.1.getD (Int.toNat x6) d0) (x1.1.getD (Int.toNat x6) d0)) fun r2 => (bif (!r2) then some (Sum.inl false) else (L k n x0 x1 x5 (IntKind.wrap .i64 (x6 + 1))))) else none) else none) else none) else none) else some (Sum.inr (x0, x1, x5, ()))))
    (hI : ∀ k a0 a1, I k a0 a1 = (Option.bind (laws_roomBehind (a1.1.length : Int)) fun r1 => (bif ((a0.1.length : Int) != (a1.1.length : Int)) then some false else (both (R := Bool) (P := (List (List γ × List γ) × List (List γ × List γ)) × (List (List γ × List γ) × List (List γ × List γ)) × Int × Unit) (L k k a0 a1 (IntKind.wrap .i64 ((a1.1.length : Int) + r1)) 0) (fun q5 => some q5) (fun y4 => (bif (decide (0 ≤ (y4.2.1.1.length : Int))) then (bif (decide ((y4.2.1.1.length : Int) ≤ y4.2.2.1)) then (bif (decide (y4.2.2.1 ≤ ((y4.1.1 ++ y4.1.2).length : Int))) then (bif (decide (0 ≤ (y4.2.1.1.length : Int))) then (bif (decide ((y4.2.1.1.length : Int) ≤ y4.2.2.1)) then (bif (decide (y4.2.2.1 ≤ ((y4.2.1.1 ++ y4.2.1.2).length : Int))) then (Option.bind (E k ((((y4.1.1 ++ y4.1.2).take (Int.toNat y4.2.2.1)).drop (Int.toNat (y4.2.1.1.length : Int))).map fun z => z.1) ((((y4.2.1.1 ++ y4.2.1.2).take (Int.toNat y4.2.2.1)).drop (Int.toNat (y4.2.1.1.length : Int))).map fun z => z.1)) fun r6 => some r6) else none) else none) else none) else none) else none) else none))))))
    (hQ : ∀ y ∈ x.1, Evt (fun k _ => Q k y y) true) (hE : Evt (fun k _ => E k (x.2.map fun z => z.1) (x.2.map fun z => z.1)) true) : Evt (fun k _ => I k x x) true := by
  have hr := room_le x.1.length
  have h1 := hx.1
  have h2 := hx.2
  refine Evt.eq ?_ (fun k _ => hI k x x)
  refine Evt.bind (.const (room_eq _)) (Evt.cfalse (by simp) ?_)
  have hw : IntKind.wrap .i64 ((x.1.length : Int) + (roomN x.1.length : Int)) = (((x.1 ++ x.2).length : Nat) : Int) := by
    rw [List.length_append, h1, w64] <;> omega
  rw [hw]
  have := intact_loop (L := fun k n x6 => L k n x x (((x.1 ++ x.2).length : Nat) : Int) x6) (fun k n x6 => hL k n x x _ x6) (by simp only [lenB]; omega) x.1 [] rfl hQ
  simp only [List.length_nil] at this
  refine Evt.inr (Evt.diag this) ?_
  refine Evt.ctrue mid_ge (Evt.ctrue (by simp <;> omega) (Evt.ctrue (by simp <;> omega) (Evt.ctrue mid_ge (Evt.ctrue (by simp <;> omega) (Evt.ctrue (by simp <;> omega) ?_)))))
  have e : (((x.1 ++ x.2).length : Nat) : Int).toNat = (x.1 ++ x.2).length := Int.toNat_natCast _
  have e2 : ((x.1.length : Nat) : Int).toNat = x.1.length := Int.toNat_natCast _
  simp only [e, e2, List.take_length, List.drop_left]
  exact Evt.bind hE .pure

theorem intactTermSS_ev {x : List (List (Int × Int × Int × Int) × List (Int × Int × Int × Int)) × List (List (Int × Int × Int × Int) × List (Int × Int × Int × Int))} (hx : Room x) (hm : ∀ y ∈ x.1, Room y) (h2 : ∀ y ∈ x.2, y.1.length < lenB) : Evt (fun k _ => laws_intactTermSS k x x) true :=
  intact_rows (d0 := ([], [])) (Q := laws_intactTermS) (E := laws_eqTermSS) (L := laws_intactTermSS_L122) hx hm (fun _ _ _ _ _ _ => rfl) (fun _ _ _ => rfl) (fun y hy => intactTermS_ev (hm y hy))
    (eqTermSS_ev (by have := small hx; simp at this ⊢; omega) (by intro y hy; obtain ⟨z, hz, rfl⟩ := List.mem_map.1 hy; exact h2 z hz))

theorem room_toV {β γ : Type} {f : β → γ} {v : γ} {a : List β} (h : a.length ≤ 1000000) : Room (toV f v a false) := by
  refine ⟨?_, ?_⟩
  · simp [toV]
  · simp [toV]; exact h

def heldAny {γ : Type} (c : Nat) : Nat → List γ → Int → Option Int := fun _ x a => some (a + c * x.length)
theorem nat_mul_sub {c a b : Nat} (h : b < a) : c * (a - b) = c + c * (a - (b + 1)) := by
  obtain ⟨m, rfl⟩ : ∃ m, a = b + 1 + m := ⟨a - (b + 1), by omega⟩
  rw [show b + 1 + m - b = m + 1 by omega, show b + 1 + m - (b + 1) = m by omega, Nat.mul_add, Nat.mul_one, Nat.add_comm]

theorem mark_only {γ : Type} {M : Nat → Nat → List γ → Int → Int → Option ((Int × List γ) ⊕ (Int × List γ × Unit))} {mark : Nat → List γ → Int → Option (Int × List γ)} {mv : Nat → γ} {c : Nat}
    (hc : 0 < c)
    (hM : ∀ (k n : Nat) (d r : List γ) (e : γ) (a : Nat), a + c < lenB → (d ++ e :: r).length < lenB → M k (n + 1) (d ++ e :: r) a d.length = M k n (d ++ mv a :: r) ((a + c : Nat) : Int) ((d.length + 1 : Nat) : Int))
    (hM0 : ∀ (k n : Nat) (d : List γ) (a : Int), M k (n + 1) d a d.length = some (.inr (a, d, ())))
    (hmark : ∀ k x a, mark k x a = both (R := Int × List γ) (P := Int × List γ × Unit) (M k k x a 0) (fun q => some q) (fun y => some (y.1, y.2.1))) :
    MarkOk mark (heldAny c) (fun x => c * x.length) :=
  mark_all (M := M) (H := fun _ _ x a i => some (.inr (a + c * (x.length - i.toNat : Nat), ()))) (mv := mv) hc hM hM0
    (fun k n d r a h1 h2 => by
      have h : d.length < (d ++ mv a :: r).length := by simp
      have := nat_mul_sub (c := c) h
      simp only [Int.toNat_natCast]
      congr 3
      omega)
    (fun k n d a => by simp) hmark (fun k x a => by simp [heldAny, both])

theorem markIntS_only : MarkOk laws_markIntS (heldAny 1) (fun x => 1 * x.length) :=
  mark_only (M := laws_markIntS_L26) (mv := fun a => (a : Int)) (by omega)
    (fun k n d r e a h1 h2 => by
      rw [laws_markIntS_L26]
      rw [mid_lt, mid_ge, mid_set, w64_next (m := d.length) (by simp at h2; omega), w64_next (m := a) (by omega)]
      rfl)
    (fun k n d a => by rw [laws_markIntS_L26, mid_end]; rfl)
    (fun _ _ _ => rfl)

theorem szIntS_ev {x : List Int} (hx : x.length ≤ maxLen) {a : Nat} (ha : a ≤ 1000000) : laws_szIntS x a = some (if x.length ≤ a then ((a - x.length : Nat) : Int) else -1) := sz_one (fun _ _ => rfl) hx ha
theorem szTermSS_ev {x : List (List (Int × Int × Int × Int))} (hx : x.length ≤ maxLen) (hm : ∀ y ∈ x, y.length ≤ maxLen) {a : Nat} (ha : a ≤ 1000000) :
    Evt (fun k _ => laws_szTermSS k x a) (if x.length + (x.map List.length).sum ≤ a then ((a - (x.length + (x.map List.length).sum) : Nat) : Int) else -1) :=
  sz_all (sz := laws_szTermS) (S := laws_szTermSS_L122) (fun _ _ => rfl) (fun _ _ _ _ _ => rfl) (fun _ _ _ => rfl) hx hm ha
end Go.Ev.G

namespace Go.Ev.G
open Go Go.Ev
set_option maxRecDepth 100000

def gd (a : Int × Int) : Prop := 0 ≤ a.2 ∧ a.2 ≤ 24 ∧ -1099511627776 ≤ a.1 ∧ a.1 ≤ 1099511627776 ∧ (a.2 = 0 ∨ a.1 % 2 ≠ 0)
instance (a : Int × Int) : Decidable (gd a) := by unfold gd; infer_instance

theorem tmod2 (n : Int) : (Int.tmod n 2 = 0) ↔ n % 2 = 0 := by
  rw [← Int.dvd_iff_tmod_eq_zero, Int.dvd_iff_emod_eq_zero]
theorem tdiv2 {n : Int} (h : n % 2 = 0) : Int.tdiv n 2 = n / 2 := Int.tdiv_eq_ediv_of_dvd (Int.dvd_of_emod_eq_zero h)

theorem l1In_eq (n lo hi : Int) : spec_l1In n lo hi = some (decide (lo ≤ n ∧ n ≤ hi)) := by
  unfold spec_l1In
  by_cases h : lo ≤ n
  · have : decide (n ≥ lo) = true := by simpa using h
    rw [this]; simp [h]
  · have : decide (n ≥ lo) = false := by simpa using h
    rw [this]; simp [h]
theorem inside_eq (n lo hi : Int) : impl_inside n lo hi = some (decide (lo ≤ n ∧ n ≤ hi)) := l1In_eq n lo hi
theorem dyGood_eq (a : Int × Int) : spec_dyGood a = some (decide (gd a)) := by
  unfold spec_dyGood
  rw [l1In_eq, l1In_eq]
  have h0 := tmod2 a.1
  by_cases h1 : 0 ≤ a.2 ∧ a.2 ≤ 24
  · simp only [h1, and_self, decide_true, Option.bind_some, cond_true]
    by_cases h2 : -1099511627776 ≤ a.1 ∧ a.1 ≤ 1099511627776
    · simp only [h2, and_self, decide_true, cond_true]
      by_cases h3 : a.2 = 0
      · have : gd a := ⟨h1.1, h1.2, h2.1, h2.2, .inl h3⟩
        simp [h3, this]
      · have e : (a.2 == 0) = false := by simpa using h3
        rw [e]
        by_cases h4 : a.1 % 2 = 0
        · have : ¬ gd a := fun h => by rcases h.2.2.2.2 with h | h <;> contradiction
          simp [h0.2 h4, this]
        · have h5 : gd a := ⟨h1.1, h1.2, h2.1, h2.2, .inr h4⟩
          have : ¬ Int.tmod a.1 2 = 0 := fun h => h4 (h0.1 h)
          simp [this, h5]
    · have : ¬ gd a := fun h => h2 ⟨h.2.2.1, h.2.2.2.1⟩
      simp only [h2, decide_false, cond_false, this]
  · have : ¬ gd a := fun h => h1 ⟨h.1, h.2.1⟩
    simp only [h1, decide_false, Option.bind_some, cond_false, this]
def strip : Nat → Int → Int × Nat
  | 0, n => (n, 0)
  | k + 1, n => if n % 2 = 0 then strip k (n / 2) else (n, k + 1)

def mkD (n : Int) (k : Nat) : (Int × Int) × Bool :=
  if -1099511627776 ≤ (strip k n).1 ∧ (strip k n).1 ≤ 1099511627776 ∧ (strip k n).2 ≤ 24 then (((strip k n).1, ((strip k n).2 : Int)), true) else ((0, 0), false)

theorem strip_form : ∀ (k : Nat) (n : Int), (strip k n).2 = 0 ∨ (strip k n).1 % 2 ≠ 0
  | 0, n => .inl rfl
  | k + 1, n => by
    unfold strip
    split
    · exact strip_form k _
    · rename_i h; exact .inr h
theorem strip_le : ∀ (k : Nat) (n : Int), (strip k n).2 ≤ k
  | 0, n => Nat.le_refl _
  | k + 1, n => by
    unfold strip
    split
    · have := strip_le k (n / 2); omega
    · exact Nat.le_refl _
theorem strip_zero : ∀ (k : Nat), strip k 0 = (0, 0)
  | 0 => rfl
  | k + 1 => by unfold strip; simp [strip_zero k]
theorem strip_neg : ∀ (k : Nat) (n : Int), strip k (-n) = (-(strip k n).1, (strip k n).2)
  | 0, n => rfl
  | k + 1, n => by
    unfold strip
    by_cases h : n % 2 = 0
    · have h' : (-n) % 2 = 0 := by omega
      rw [if_pos h, if_pos h', show -n / 2 = -(n / 2) by omega, strip_neg k]
    · have h' : ¬ (-n) % 2 = 0 := by omega
      rw [if_neg h, if_neg h']
theorem strip_bound : ∀ (k : Nat) (n : Int), 0 ≤ n → 0 ≤ (strip k n).1 ∧ (strip k n).1 ≤ n
  | 0, n, h => ⟨h, Int.le_refl _⟩
  | k + 1, n, h => by
    unfold strip
    split
    · have := strip_bound k (n / 2) (by omega); omega
    · exact ⟨h, Int.le_refl _⟩
theorem strip_ne : ∀ (k : Nat) (n : Int), n ≠ 0 → (strip k n).1 ≠ 0
  | 0, n, h => h
  | k + 1, n, h => by
    unfold strip
    split
    · exact strip_ne k _ (by omega)
    · exact h
theorem strip_odd {k : Nat} {n : Int} (h : n % 2 ≠ 0) : strip k n = (n, k) := by
  cases k with
  | zero => rfl
  | succ k => unfold strip; rw [if_neg h]
theorem strip_val : ∀ (k : Nat) (n : Int), (strip k n).1 * 2 ^ (k - (strip k n).2) = n
  | 0, n => by simp [strip]
  | k + 1, n => by
    unfold strip
    split
    · rename_i h
      have h1 := strip_val k (n / 2)
      have h2 := strip_le k (n / 2)
      rw [show k + 1 - (strip k (n / 2)).2 = (k - (strip k (n / 2)).2) + 1 by omega, Int.pow_succ, ← Int.mul_assoc, h1]
      omega
    · simp

theorem mkD_gd (n : Int) (k : Nat) : gd (mkD n k).1 := by
  unfold mkD
  split
  · rename_i h
    have := strip_form k n
    refine ⟨by simp, by simp; omega, h.1, h.2.1, ?_⟩
    rcases this with h | h
    · left; simp [h]
    · right; exact h
  · exact ⟨by simp, by simp, by simp, by simp, .inl rfl⟩

theorem mkD_zero (k : Nat) : mkD 0 k = ((0, 0), true) := by simp [mkD, strip_zero]

theorem dyMake_loop : ∀ (m : Nat) (n : Int) (z : Int × Int), -9223372036854775808 < n → n < 9223372036854775808 → m < 9223372036854775808 →
    Evt (fun k q => spec_dyMake_L28 k q n m z) (.inr ((strip m n).1, ((strip m n).2 : Int), z, ()))
  | 0, n, z, _, _, _ => Evt.step (fun k q => spec_dyMake_L28.eq_2 k n _ z q) (Evt.cfalse (by simp) .pure)
  | m + 1, n, z, h1, h2, h3 => by
    refine Evt.step (fun k q => spec_dyMake_L28.eq_2 k n _ z q) (Evt.ctrue (by simp <;> omega) ?_)
    by_cases h : n % 2 = 0
    · refine Evt.ctrue (by simp [(tmod2 n).2 h]) ?_
      rw [tdiv2 h, w64 (by omega) (by omega), show ((m + 1 : Nat) : Int) - 1 = (m : Int) by omega, w64 (by omega) (by omega)]
      have := dyMake_loop m (n / 2) z (by omega) (by omega) (by omega)
      rw [strip, if_pos h]
      exact this
    · have h' : ¬ Int.tmod n 2 = 0 := fun e => h ((tmod2 n).1 e)
      refine Evt.cfalse (by simp [h']) ?_
      rw [strip, if_neg h]
      exact .pure

theorem dyMake_ev {n : Int} {m : Nat} (h1 : -9223372036854775808 < n) (h2 : n < 9223372036854775808) (h3 : m < 9223372036854775808) : Evt (fun k _ => spec_dyMake k n m) (mkD n m) := by
  refine Evt.eq (f := fun k q => _) ?_ (fun k q => by rw [spec_dyMake])
  have key : ∀ (m' : Nat), strip m' n = strip m n → m' ≤ m → Evt (fun k q => both (R := (Int × Int) × Bool) (P := Int × Int × (Int × Int) × Unit) (spec_dyMake_L28 k k n m' (0, 0)) (fun q4 => some q4) (fun y3 => (Option.bind (spec_dyGood (y3.1, y3.2.1)) fun r5 => (bif (!r5) then some ((0, 0), false) else some ((y3.1, y3.2.1), true))))) (mkD n m) := by
    intro m' hm hle
    refine Evt.inr (Evt.diag (dyMake_loop m' n (0, 0) h1 h2 (by omega))) ?_
    simp only [dyGood_eq, Option.bind_some, hm]
    have hf := strip_form m n
    unfold mkD
    by_cases hg : -1099511627776 ≤ (strip m n).1 ∧ (strip m n).1 ≤ 1099511627776 ∧ (strip m n).2 ≤ 24
    · rw [if_pos hg]
      have : gd ((strip m n).1, ((strip m n).2 : Int)) := ⟨by simp, by simp; omega, hg.1, hg.2.1, by rcases hf with h | h; left; simp [h]; right; exact h⟩
      simp only [this, decide_true, Bool.not_true]
      exact Evt.cfalse rfl .pure
    · rw [if_neg hg]
      have : ¬ gd ((strip m n).1, ((strip m n).2 : Int)) := fun h => hg ⟨h.2.2.1, h.2.2.2.1, by have := h.2.1; simp at this; omega⟩
      simp only [this, decide_false, Bool.not_false]
      exact Evt.ctrue rfl .pure
  by_cases h0 : n = 0
  · subst h0
    refine Evt.inr (y := ((0 : Int), (0 : Int), ((0, 0) : Int × Int), ())) ?_ (key 0 (by rw [strip_zero, strip_zero]) (by omega))
    by_cases hm : m = 0
    · subst hm; exact .const rfl
    · have : decide ((m : Int) > 0) = true := by simp; omega
      refine .const ?_
      simp only [this]; rfl
  · refine Evt.inr (y := (n, (m : Int), ((0, 0) : Int × Int), ())) (.const ?_) (key m rfl (Nat.le_refl _))
    have : (n == 0) = false := by simpa using h0
    simp only [this]; rfl

def atV : Nat → Int → Int × Bool
  | 0, n => (n, true)
  | m + 1, n => if -1152921504606846976 ≤ n ∧ n ≤ 1152921504606846976 then atV m (n * 2) else (0, false)

theorem dyPower_eq {m : Nat} (h : m ≤ 62) : spec_dyPower m = some (((2 ^ m : Nat) : Int)) := by
  unfold spec_dyPower
  have h1 : IntKind.wrap .u64 (m : Int) = m := wu64 (by omega) (by omega)
  have h2 : min (Int.toNat (m : Int)) (IntKind.bits .i64) = m := by simp [IntKind.bits]; omega
  rw [h1, h2]
  have h3 : (2 : Nat) ^ m ≤ 4611686018427387904 := Nat.pow_le_pow_right (n := 2) (by omega) h
  have h4 : (1 : Int) * 2 ^ m = ((2 ^ m : Nat) : Int) := by simp
  have h5 : decide ((m : Int) < 0) = false := by simp
  rw [h4]
  generalize 2 ^ m = p at *
  rw [w64 (by omega) (by omega), h5]
  rfl

theorem dyPower60 : spec_dyPower 60 = some 1152921504606846976 := by
  have := dyPower_eq (m := 60) (by omega)
  simpa using this

theorem dyAt_loop (K j : Int) : ∀ (m : Nat) (n : Int) (i : Nat), K = i + m → K < 1000000 → -4611686018427387904 ≤ n → n ≤ 4611686018427387904 →
    Evt (fun k q => spec_dyAt_L58 k q K (n, j) i) (if (atV m n).2 then .inr (((atV m n).1, j), ()) else .inl (0, false)) := by
  intro m
  induction m with
  | zero =>
    intro n i hK hi _ _
    refine Evt.step (fun k q => spec_dyAt_L58.eq_2 k K (n, j) i q) (Evt.cfalse (by simp; omega) ?_)
    simp only [atV, if_true]
    exact .pure
  | succ m ih =>
    intro n i hK hi h1 h2
    refine Evt.step (fun k q => spec_dyAt_L58.eq_2 k K (n, j) i q) (Evt.ctrue (by simp; omega) ?_)
    refine Evt.bind (.const dyPower60) (Evt.bind (.const dyPower60) ?_)
    have hw : IntKind.wrap .i64 (0 - 1152921504606846976) = -1152921504606846976 := by rw [w64] <;> omega
    rw [hw]
    refine Evt.bind (.const (l1In_eq _ _ _)) ?_
    unfold atV
    by_cases hn : -1152921504606846976 ≤ n ∧ n ≤ 1152921504606846976
    · refine Evt.cfalse (by simp [hn]) ?_
      rw [if_pos hn, w64 (n := n * 2) (by omega) (by omega), w64_next (by simp only [lenB]; omega)]
      exact ih (n * 2) (i + 1) (by omega) hi (by omega) (by omega)
    · refine Evt.ctrue (by rw [decide_eq_false hn]; rfl) ?_
      rw [if_neg hn]
      exact .pure

theorem atV_zero : ∀ m, atV m 0 = (0, true)
  | 0 => rfl
  | m + 1 => by unfold atV; simp [atV_zero m]

theorem dyAt_ev {n : Int} {j K : Nat} (hjK : j ≤ K) (hK : K < 1000) (h1 : -4611686018427387904 ≤ n) (h2 : n ≤ 4611686018427387904) : Evt (fun k _ => spec_dyAt k (n, j) K) (atV (K - j) n) := by
  refine Evt.eq (f := fun k q => _) ?_ (fun k q => by rw [spec_dyAt])
  by_cases h0 : n = 0
  · subst h0
    rw [atV_zero]
    exact Evt.ctrue (by simp) .pure
  · refine Evt.cfalse (by simpa using h0) ?_
    have := dyAt_loop K j (K - j) n j (by omega) (by omega) h1 h2
    cases hb : (atV (K - j) n).2 with
    | true =>
      rw [hb] at this
      refine Evt.inr (Evt.diag this) (.const ?_)
      simp only
      rw [← hb]
    | false =>
      rw [hb] at this
      have hz : ∀ (m : Nat) (n : Int), (atV m n).2 = false → atV m n = (0, false) := by
        intro m
        induction m with
        | zero => intro n h; simp [atV] at h
        | succ m ih =>
          intro n h
          unfold atV at h ⊢
          split at h
          · rename_i hc; rw [if_pos hc]; exact ih _ h
          · rename_i hc; rw [if_neg hc]
      rw [hz _ _ hb]
      exact Evt.inl (Evt.diag this) .pure

theorem atV_true : ∀ (m : Nat) (n : Int), (atV m n).2 = true → (atV m n).1 = n * 2 ^ m
  | 0, n, _ => by simp [atV]
  | m + 1, n, h => by
    unfold atV at h ⊢
    split at h
    · rename_i hc
      rw [if_pos hc, atV_true m _ h, Int.pow_succ, Int.mul_assoc, Int.mul_comm 2]
    · cases h
theorem atV_small : ∀ (m : Nat) (n : Int), -1152921504606846976 ≤ n * 2 ^ m → n * 2 ^ m ≤ 1152921504606846976 → (atV m n).2 = true
  | 0, n, _, _ => rfl
  | m + 1, n, h1, h2 => by
    have e : n * 2 ^ (m + 1) = n * 2 * 2 ^ m := by rw [Int.pow_succ, Int.mul_assoc, Int.mul_comm 2]
    have hp : (1 : Int) ≤ 2 ^ m := by have := Int.pow_pos (n := 2) (m := m) (by omega); omega
    unfold atV
    rw [if_pos]
    · exact atV_small m (n * 2) (by rw [← e]; exact h1) (by rw [← e]; exact h2)
    · rw [e] at h1 h2
      constructor
      · rcases Int.le_total 0 n with h | h
        · omega
        · have : n * 2 * 2 ^ m ≤ n * 2 * 1 := Int.mul_le_mul_of_nonpos_left (by omega) hp
          omega
      · rcases Int.le_total 0 n with h | h
        · have : n * 2 * 1 ≤ n * 2 * 2 ^ m := Int.mul_le_mul_of_nonneg_left hp (by omega)
          omega
        · omega
theorem atV_large : ∀ (m : Nat) (n : Int), (atV m n).2 = false → 0 < m ∧ (n * 2 ^ m < -1152921504606846976 ∨ 1152921504606846976 < n * 2 ^ m)
  | m, n, h => by
    refine ⟨?_, ?_⟩
    · cases m with
      | zero => simp [atV] at h
      | succ m => omega
    · rcases Int.lt_or_le (n * 2 ^ m) (-1152921504606846976) with h1 | h1
      · exact .inl h1
      · rcases Int.lt_or_le 1152921504606846976 (n * 2 ^ m) with h2 | h2
        · exact .inr h2
        · rw [atV_small m n h1 h2] at h; cases h
end Go.Ev.G

namespace Go.Ev.G
open Go Go.Ev
set_option maxRecDepth 100000

def exA (a b : Int × Int) : Nat := max a.2.toNat b.2.toNat
def sumN (a b : Int × Int) : Int := a.1 * 2 ^ (exA a b - a.2.toNat) + b.1 * 2 ^ (exA a b - b.2.toNat)
def sumD (a b : Int × Int) : (Int × Int) × Bool := mkD (sumN a b) (exA a b)

theorem most_eq (a b : Int) : spec_l1Most a b = some (max a b) := by
  unfold spec_l1Most
  by_cases h : a > b
  · have : decide (a > b) = true := by simpa using h
    rw [this]; simp only [cond_true]; congr 1; omega
  · have : decide (a > b) = false := by simpa using h
    rw [this]; simp only [cond_false]; congr 1; omega

end Go.Ev.G

namespace Go.Ev.G
open Go Go.Ev
set_option maxRecDepth 100000

def B64 : Nat := 18446744073709551616
def wN (neg : Bool) (M : Nat) : Bool × Int × Int := (neg, ((M / B64 : Nat) : Int), ((M % B64 : Nat) : Int))
def wV (neg : Bool) (M : Nat) : Int := if neg then -(M : Int) else M

theorem wu64_mod (n : Nat) : IntKind.wrap .u64 (n : Int) = ((n % B64 : Nat) : Int) := by
  rw [IntKind.wrap_u64]; simp [B64]

theorem size_eq {n : Int} (h1 : -9223372036854775808 < n) (h2 : n < 9223372036854775808) : impl_size n = some (n.natAbs : Int) := by
  unfold impl_size
  by_cases h : n < 0
  · have : decide (n < 0) = true := by simpa using h
    have e1 : IntKind.wrap .i64 (0 - n) = -n := by rw [w64] <;> omega
    have e2 : IntKind.wrap .u64 (-n) = -n := by rw [wu64] <;> omega
    rw [this, e1, e2]
    simp only [cond_true]; congr 1; omega
  · have : decide (n < 0) = false := by simpa using h
    have e2 : IntKind.wrap .u64 n = n := by rw [wu64] <;> omega
    rw [this, e2]
    simp only [cond_false]; congr 1; omega

theorem wideOf_eq {n : Int} (h1 : -9223372036854775808 < n) (h2 : n < 9223372036854775808) : impl_wideOf n = some (wN (decide (n < 0)) n.natAbs) := by
  unfold impl_wideOf wN
  rw [size_eq h1 h2]
  simp only [Option.bind_some]
  have e1 : n.natAbs / B64 = 0 := Nat.div_eq_of_lt (by simp only [B64]; omega)
  have e2 : n.natAbs % B64 = n.natAbs := Nat.mod_eq_of_lt (by simp only [B64]; omega)
  rw [e1, e2]; rfl

theorem wV_of (n : Int) : wV (decide (n < 0)) n.natAbs = n := by
  unfold wV
  by_cases h : n < 0
  · simp [h]; omega
  · simp [h]; omega

theorem or_add {a b : Nat} (i : Nat) (hb : b < 2 ^ i) (ha : a * 2 ^ i < B64) : (a * 2 ^ i) ||| b = a * 2 ^ i + b := by
  have := Nat.shiftLeft_add_eq_or_of_lt hb a
  rw [Nat.shiftLeft_eq] at this
  exact this.symm

theorem orw {a b : Nat} (ha : a < B64) (hb : b < B64) : (BitVec.toNat (BitVec.ofInt (IntKind.bits .u64) (a : Int) ||| BitVec.ofInt (IntKind.bits .u64) (b : Int)) : Int) = ((a ||| b : Nat) : Int) := by
  have key : ∀ c : Nat, c < B64 → (BitVec.ofInt (IntKind.bits .u64) (c : Int)).toNat = c := by
    intro c hc
    simp only [B64] at hc
    rw [BitVec.toNat_ofInt]
    simp only [IntKind.bits]
    omega
  rw [BitVec.toNat_or, key a ha, key b hb]

theorem fdiv_pow (a m : Nat) : Int.fdiv (a : Int) (2 ^ m) = ((a / 2 ^ m : Nat) : Int) := by
  rw [show (2 : Int) ^ m = ((2 ^ m : Nat) : Int) by simp]
  rw [Int.fdiv_eq_ediv_of_nonneg _ (Int.natCast_nonneg _)]
  exact (Int.natCast_ediv a (2 ^ m)).symm
theorem mul_powN (a m : Nat) : (a : Int) * 2 ^ m = ((a * 2 ^ m : Nat) : Int) := by simp

theorem shr_eq {neg : Bool} {M j : Nat} (hj : 0 < j) (hs : j < 64) (hM : M < B64 * B64) : impl_wide_shift (wN neg M) (-(j : Int)) = some (wN neg (M / 2 ^ j)) := by
  have hp : 0 < 2 ^ j := Nat.pow_pos (by omega)
  have h64 : 2 ^ (64 - j) * 2 ^ j = B64 := by
    rw [← Nat.pow_add, show 64 - j + j = 64 by omega]; rfl
  unfold impl_wide_shift
  have c1 : decide (-(j : Int) ≥ 0) = false := by simp; omega
  have w0 : IntKind.wrap .i64 (0 - -(j : Int)) = (j : Int) := by rw [w64] <;> omega
  have c2 : decide ((j : Int) ≥ 64) = false := by simp; omega
  have c3 : decide ((j : Int) < 0) = false := by simp
  have w1 : IntKind.wrap .i64 (64 - (j : Int)) = ((64 - j : Nat) : Int) := by rw [w64] <;> omega
  have c4 : decide (((64 - j : Nat) : Int) < 0) = false := by simp
  rw [c1]
  simp only [cond_false, w0, c2, c3, w1, c4]
  have m1 : min (Int.toNat (j : Int)) (IntKind.bits .u64) = j := by simp [IntKind.bits]; omega
  have m2 : min (Int.toNat ((64 - j : Nat) : Int)) (IntKind.bits .u64) = 64 - j := by simp [IntKind.bits]
  rw [m1, m2]
  simp only [wN]
  rw [mul_powN, fdiv_pow, fdiv_pow, wu64_mod (M / B64 * 2 ^ (64 - j))]
  have hlo : M % B64 < B64 := Nat.mod_lt _ (by simp [B64])
  have hhi : M / B64 < B64 := Nat.div_lt_of_lt_mul hM
  -- the high part's low bits
  have hq : (M / B64 * 2 ^ (64 - j)) % B64 = (M / B64 % 2 ^ j) * 2 ^ (64 - j) := by
    rw [← h64, Nat.mul_comm (M / (2 ^ (64 - j) * 2 ^ j)), Nat.mul_mod_mul_left, Nat.mul_comm]
  have hdiv : M % B64 / 2 ^ j < 2 ^ (64 - j) := by
    apply Nat.div_lt_of_lt_mul
    rw [Nat.mul_comm, h64]; exact hlo
  have hql : (M / B64 % 2 ^ j) * 2 ^ (64 - j) < B64 := by
    rw [← h64, Nat.mul_comm]
    exact Nat.mul_lt_mul_of_pos_left (Nat.mod_lt _ hp) (Nat.pow_pos (by omega))
  rw [hq, orw (Nat.lt_of_lt_of_le hdiv (by rw [← h64]; exact Nat.le_mul_of_pos_right _ hp)) hql, Nat.or_comm, or_add (64 - j) hdiv hql, wu64_mod]
  have f1 : M / 2 ^ j / B64 = M / B64 / 2 ^ j := by rw [Nat.div_div_eq_div_mul, Nat.div_div_eq_div_mul, Nat.mul_comm]
  have f2 : M / 2 ^ j % B64 = (M / B64 % 2 ^ j) * 2 ^ (64 - j) + M % B64 / 2 ^ j := by
    have e1 : M = (M / B64 / 2 ^ j * 2 ^ j + M / B64 % 2 ^ j) * B64 + M % B64 := by
      have a1 := Nat.div_add_mod M B64
      have a2 := Nat.div_add_mod (M / B64) (2 ^ j)
      rw [Nat.mul_comm (M / B64 / 2 ^ j), a2, Nat.mul_comm]
      exact a1.symm
    have e2 : M / 2 ^ j = M / B64 / 2 ^ j * B64 + ((M / B64 % 2 ^ j) * 2 ^ (64 - j) + M % B64 / 2 ^ j) := by
      have e3 : M = 2 ^ j * (M / B64 / 2 ^ j * B64 + (M / B64 % 2 ^ j) * 2 ^ (64 - j)) + M % B64 := by
        conv => lhs; rw [e1]
        have e5 : ∀ a : Nat, a * B64 = 2 ^ j * (a * 2 ^ (64 - j)) := fun a => by
            rw [Nat.mul_left_comm, Nat.mul_comm (2 ^ j), h64]
        rw [Nat.add_mul, e5 (M / B64 % 2 ^ j), Nat.mul_add, Nat.mul_comm (M / B64 / 2 ^ j) (2 ^ j), Nat.mul_assoc]
      conv => lhs; rw [e3]
      rw [Nat.mul_add_div hp, Nat.add_assoc]
    rw [e2, Nat.mul_comm (M / B64 / 2 ^ j), Nat.mul_add_mod, Nat.mod_eq_of_lt]
    have := Nat.mod_lt (M / B64) hp
    have h3 : (M / B64 % 2 ^ j + 1) * 2 ^ (64 - j) ≤ B64 := Nat.le_trans (Nat.mul_le_mul_right _ this) (by rw [Nat.mul_comm, h64]; exact Nat.le_refl _)
    rw [Nat.add_mul, Nat.one_mul] at h3
    omega
  rw [f1, f2]
  have f3 : (M / B64 % 2 ^ j) * 2 ^ (64 - j) + M % B64 / 2 ^ j < B64 := by rw [← f2]; exact Nat.mod_lt _ (by simp [B64])
  rw [Nat.mod_eq_of_lt f3]
end Go.Ev.G

namespace Go.Ev.G
open Go Go.Ev
set_option maxRecDepth 100000

def cmpI (a b : Int) : Int := if a < b then -1 else if b < a then 1 else 0

def orI (x y : Int) : Int := bif x == 0 then y else x
theorem orI_ne {x : Int} (h : x ≠ 0) (y : Int) : orI x y = x := by
  have : (x == 0) = false := by simpa using h
  rw [orI, this]; rfl
theorem orI_z (y : Int) : orI 0 y = y := rfl

theorem isZero_eq (neg : Bool) (M : Nat) : impl_wide_isZero (wN neg M) = some (decide (M = 0)) := by
  unfold impl_wide_isZero wN
  have e1 := Nat.div_add_mod M B64
  by_cases h : M = 0
  · subst h; simp
  · have hd : decide (M = 0) = false := by simpa using h
    rw [hd]
    by_cases h1 : M / B64 = 0
    · have h2 : M % B64 ≠ 0 := by
        intro h2
        rw [h1, h2] at e1
        omega
      have : ((((M % B64 : Nat) : Int)) == 0) = false := by rw [beq_eq_false_iff_ne]; intro h3; exact h2 (Int.ofNat.inj h3)
      simp only [h1, this]
      rfl
    · have : ((((M / B64 : Nat) : Int)) == 0) = false := by
        rw [beq_eq_false_iff_ne]; intro h3; exact h1 (Int.ofNat.inj h3)
      simp only [this]
      rfl

theorem fit_loop : ∀ (m : Nat) (neg : Bool) (M : Nat) (z : Int × Int), m < 9223372036854775808 → M < B64 * B64 →
    Evt (fun k q => impl_wide_fit_L28 k q m (wN neg M) z) (.inr (((strip m M).2 : Int), wN neg (strip m M).1.toNat, z, ())) := by
  intro m
  induction m with
  | zero =>
    intro neg M z _ _
    refine Evt.step (fun k q => impl_wide_fit_L28.eq_2 k _ _ z q) (Evt.cfalse (by simp) ?_)
    simp only [strip, Int.toNat_natCast]
    exact .pure
  | succ m ih =>
    intro neg M z hm hM
    refine Evt.step (fun k q => impl_wide_fit_L28.eq_2 k _ _ z q) (Evt.ctrue (by simp <;> omega) ?_)
    have hpar : (M % B64) % 2 = M % 2 := Nat.mod_mod_of_dvd M ⟨9223372036854775808, rfl⟩
    by_cases h : M % 2 = 0
    · have c : (Int.tmod (wN neg M).2.2 2 == 0) = true := by
        simp only [wN]
        have : Int.tmod ((M % B64 : Nat) : Int) 2 = (((M % B64) % 2 : Nat) : Int) := rfl
        rw [this, hpar, h]; rfl
      refine Evt.ctrue c ?_
      have hs := shr_eq (neg := neg) (M := M) (j := 1) (by omega) (by omega) hM
      rw [show (-((1 : Nat) : Int)) = -1 from rfl, Nat.pow_one] at hs
      refine Evt.bind (.const hs) ?_
      rw [show ((m + 1 : Nat) : Int) - 1 = (m : Int) by omega, w64 (by omega) (by omega)]
      have := ih neg (M / 2) z (by omega) (Nat.lt_of_le_of_lt (Nat.div_le_self _ _) hM)
      have e : strip (m + 1) (M : Int) = strip m ((M / 2 : Nat) : Int) := by
        rw [strip, if_pos (by omega)]
        rfl
      rw [e]
      exact this
    · have c : (Int.tmod (wN neg M).2.2 2 == 0) = false := by
        simp only [wN]
        have : Int.tmod ((M % B64 : Nat) : Int) 2 = (((M % B64) % 2 : Nat) : Int) := rfl
        rw [this, hpar]
        have : M % 2 = 1 := by omega
        rw [this]; rfl
      refine Evt.cfalse c ?_
      have e : strip (m + 1) (M : Int) = ((M : Int), m + 1) := strip_odd (by omega)
      rw [e]
      simp only [Int.toNat_natCast]
      exact .pure

theorem fit_ev {neg : Bool} {M m : Nat} (hM : M < B64 * B64) (hm : m < 9223372036854775808) : Evt (fun k _ => impl_wide_fit k (wN neg M) m) (mkD (wV neg M) m) := by
  refine Evt.eq (f := fun k q => _) ?_ (fun k q => by rw [impl_wide_fit])
  refine Evt.bind (.const (isZero_eq _ _)) ?_
  by_cases h0 : M = 0
  · refine Evt.ctrue (by simp [h0]) ?_
    have : wV neg M = 0 := by subst h0; cases neg <;> rfl
    rw [this, mkD_zero]
    exact .pure
  · refine Evt.cfalse (by simp [h0]) ?_
    refine Evt.inr (Evt.diag (fit_loop m neg M (0, 0) hm hM)) ?_
    have hb := strip_bound m (M : Int) (by omega)
    have hne := strip_ne m (M : Int) (by omega)
    have hv : strip m (wV neg M) = (wV neg (strip m M).1.toNat, (strip m M).2) := by
      cases neg with
      | false => simp only [wV]; simp; rw [Int.max_eq_left hb.1]
      | true =>
        simp only [wV, if_true]
        rw [strip_neg, Int.toNat_of_nonneg hb.1]
    obtain ⟨S, hS⟩ := Int.eq_ofNat_of_zero_le hb.1
    rw [hS] at hv
    simp only [Int.toNat_natCast, hS] at hv ⊢
    have hSM : S < B64 * B64 := by omega
    have hS0 : S ≠ 0 := by omega
    unfold mkD
    rw [hv]
    simp only [wN]
    have e1 := Nat.div_add_mod S B64
    have hlt := Nat.mod_lt S (y := B64) (by simp [B64])
    by_cases g1 : (strip m (M : Int)).2 ≤ 24
    · refine Evt.cfalse (by simp; omega) ?_
      by_cases g2 : S / B64 = 0
      · refine Evt.cfalse (by simp [g2]) ?_
        have g3 : S % B64 = S := by rw [g2] at e1; omega
        simp only [g3]
        by_cases g4 : S ≤ 1099511627776
        · refine Evt.cfalse (by simp; omega) ?_
          rw [if_pos (by cases neg <;> simp [wV] <;> omega)]
          have w1 : IntKind.wrap .i64 (S : Int) = S := by rw [w64] <;> omega
          have w2 : IntKind.wrap .i64 (0 - (S : Int)) = -(S : Int) := by rw [w64] <;> omega
          cases neg with
          | true =>
            refine Evt.ctrue rfl (.const ?_)
            rw [w1, w2]; rfl
          | false =>
            refine Evt.cfalse rfl (.const ?_)
            rw [w1]; rfl
        · refine Evt.ctrue (by simp; omega) ?_
          rw [if_neg (by cases neg <;> simp [wV] <;> omega)]
          exact .pure
      · have hq : 0 < S / B64 := Nat.pos_of_ne_zero g2
        refine Evt.ctrue (decide_eq_true (Int.ofNat_lt.2 hq)) ?_
        have : B64 ≤ S := by
          have : B64 * 1 ≤ B64 * (S / B64) := Nat.mul_le_mul_left _ hq
          omega
        simp only [B64] at this
        rw [if_neg (by cases neg <;> simp [wV] <;> omega)]
        exact .pure
    · refine Evt.ctrue (by simp; omega) ?_
      rw [if_neg (by intro h; exact g1 h.2.2)]
      exact .pure
end Go.Ev.G

namespace Go.Ev.G
open Go Go.Ev
set_option maxRecDepth 100000

def sv (a : Int × Int) : Int := a.1 * 2 ^ (24 - a.2.toNat)

theorem sign_eq (n : Int) : spec_l1Sign n = some (cmpI n 0) := by
  unfold spec_l1Sign cmpI
  rcases Int.lt_trichotomy n 0 with h | h | h
  · have h1 : ¬ n > 0 := by omega
    simp [h, h1]
  · subst h; rfl
  · have h1 : ¬ n < 0 := by omega
    simp [h, h1]

end Go.Ev.G

namespace Go.Ev.G
open Go Go.Ev
set_option maxRecDepth 100000

theorem toV_fst {γ : Type} {v : γ} {a : List γ} {b : Bool} : (toV id v a b).1 = a := by
  unfold toV
  split
  · rename_i h; exact h.2.symm
  · simp
theorem toV_rows {γ : Type} {v : γ} {w : List γ × List γ} {a : List (List γ)} {b : Bool} : ((toV (fun x => toV id v x b) w a b).1.map fun z => z.1) = a := by
  unfold toV
  split
  · rename_i h; rw [h.2]; rfl
  · simp only [List.map_map]
    conv => rhs; rw [← List.map_id a]
    apply List.map_congr_left
    intro x hx
    exact toV_fst

def Sized {γ : Type} (a : List (List γ)) : Prop := a.length + (a.map List.length).sum ≤ 1000000

theorem le_sum {l : List Nat} {x : Nat} (h : x ∈ l) : x ≤ l.sum := by
  induction l with
  | nil => simp at h
  | cons y l ih =>
    simp only [List.sum_cons]
    rcases List.mem_cons.1 h with rfl | h
    · omega
    · have := ih h; omega
theorem Sized.len {γ : Type} {a : List (List γ)} (h : Sized a) : a.length ≤ 1000000 := by unfold Sized at h; omega
theorem Sized.row {γ : Type} {a : List (List γ)} (h : Sized a) : ∀ x ∈ a, x.length ≤ 1000000 := by
  intro x hx
  unfold Sized at h
  have := le_sum (List.mem_map.2 ⟨x, hx, rfl⟩ : x.length ∈ a.map List.length)
  omega

end Go.Ev.G

namespace Go.Ev.G
open Go Go.Ev
set_option maxRecDepth 100000

def osum : (Int × Int) → List (Int × Int) → Option (Int × Int)
  | s, [] => some s
  | s, x :: xs => if (sumD s x).2 then osum (sumD s x).1 xs else none
end Go.Ev.G

namespace Go.Ev.G
open Go Go.Ev
set_option maxRecDepth 100000

theorem sum_twice : ∀ (x : List (List (Int × Int))), (x.map fun r => 2 * r.length).sum = 2 * (x.map List.length).sum
  | [] => rfl
  | r :: x => by simp only [List.map_cons, List.sum_cons]; rw [sum_twice x]; omega
theorem Sized.marks {a : List (List (Int × Int))} (h : Sized a) : 101 + (a.map fun r => 2 * r.length).sum < lenB := by
  unfold Sized at h
  rw [sum_twice]
  simp only [lenB]; omega

end Go.Ev.G

namespace Go.Ev.G
open Go Go.Ev
set_option maxRecDepth 100000

def ivGd (x : (Int × Int) × Int × Int) : Prop := gd x.1 ∧ gd x.2 ∧ sv x.1 ≤ sv x.2
instance : DecidablePred ivGd := fun x => by unfold ivGd; exact inferInstance
end Go.Ev.G

namespace Go.Ev.G
open Go Go.Ev
set_option maxRecDepth 100000

theorem two_lt {α β : Type} {d r : List α} {d' r' : List β} {e' : β} (h : d.length = d'.length) : decide ((d.length : Int) < ((d' ++ e' :: r').length : Int)) = true := by simp; omega
theorem two_get {α β : Type} {d : List α} {d' r' : List β} {e' z : β} (h : d.length = d'.length) : (d' ++ e' :: r').getD (Int.toNat (d.length : Int)) z = e' := by rw [h]; exact mid_get

theorem min64 {m : Nat} (h : m ≤ 64) : min (Int.toNat (m : Int)) (IntKind.bits .i64) = m := by
  rw [Int.toNat_natCast]; exact Nat.min_eq_left (by simp only [IntKind.bits]; omega)

theorem fitD_ev {n : Int} {p : Nat} (h1 : -9223372036854775808 < n) (h2 : n < 9223372036854775808) (hp : p < 9223372036854775808) : Evt (fun k _ => impl_wide_fit k (wN (decide (n < 0)) n.natAbs) (p : Int)) (mkD n p) := by
  have := fit_ev (neg := decide (n < 0)) (M := n.natAbs) (m := p) (by simp only [B64]; omega) hp
  rw [wV_of] at this
  exact this

end Go.Ev.G

namespace Go.Ev.G
open Go Go.Ev
set_option maxRecDepth 100000

def sideOk (L : Int) (p : Int × Int) : Bool := decide ((-L ≤ p.1 ∧ p.1 ≤ L) ∧ (-L ≤ p.2 ∧ p.2 ≤ L) ∧ p.1 < p.2)
def sideOdd (p : Int × Int) : Bool := (Int.tmod p.1 2 != 0) || (Int.tmod p.2 2 != 0)
def bxV (b : Int × List Int × List Int) : Bool :=
  decide (0 ≤ b.1 ∧ b.1 ≤ 8) && (decide (1 ≤ (b.2.1.length : Int) ∧ (b.2.1.length : Int) ≤ 3) && (decide (b.2.2.length = b.2.1.length) && ((b.2.1.zip b.2.2).all (sideOk (8 * 2 ^ b.1.toNat)) && (b.1 == 0 || (b.2.1.zip b.2.2).any sideOdd))))

theorem bxGood_loop {k : Nat} {d8 L : Int} {los his : List Int} (hL : 0 ≤ L ∧ L ≤ 1000000) (hb : los.length < lenB) : ∀ (r r' d d' : List Int) (b : Bool), d ++ r = los → d' ++ r' = his → d.length = d'.length → r.length = r'.length →
    Evt (fun k n => spec_bxGood_L250 k n (d8, los, his) L b los (los.length : Int) d.length) (if (r.zip r').all (sideOk L) then .inr (b || (r.zip r').any sideOdd, ()) else .inl false) := by
  intro r
  induction r with
  | nil =>
    intro r' d d' b h h' hl hr
    refine Evt.step (fun k n => spec_bxGood_L250.eq_2 k _ _ _ _ _ _ n) ?_
    rw [List.append_nil] at h
    subst h
    simp only [List.zip_nil_left, List.all_nil, List.any_nil, Bool.or_false, if_true]
    exact Evt.rng0 .pure
  | cons e r ih =>
    intro r' d d' b h h' hl hr
    obtain ⟨e', r', rfl⟩ : ∃ x y, r' = x :: y := by cases r' with
      | nil => simp at hr
      | cons x y => exact ⟨x, y, rfl⟩
    refine Evt.step (fun k n => spec_bxGood_L250.eq_2 k _ _ _ _ _ _ n) ?_
    have ih := fun b => ih r' (d ++ [e]) (d' ++ [e']) b (by simpa using h) (by simpa using h') (by simp [hl]) (by simpa using hr)
    rw [← len_next (r := r) (by rw [h]; exact hb)] at ih
    subst h
    subst h'
    simp only
    refine Evt.ctrue mid_lt (Evt.ctrue mid_ge (Evt.ctrue mid_lt (Evt.ctrue mid_ge (Evt.ctrue (two_lt (r := r) hl) ?_))))
    rw [mid_get, two_get hl]
    have hw : IntKind.wrap .i64 (0 - L) = -L := by rw [w64 (by omega) (by omega)]; omega
    rw [hw]
    refine Evt.bind (.const (l1In_eq _ _ _)) ?_
    simp only [List.zip_cons_cons, List.all_cons, List.any_cons]
    by_cases h1 : -L ≤ e ∧ e ≤ L
    · refine Evt.cfalse (by simp [h1]) (Evt.bind (.const (l1In_eq _ _ _)) ?_)
      by_cases h2 : -L ≤ e' ∧ e' ≤ L
      · refine Evt.cfalse (by simp [h2]) ?_
        by_cases h3 : e ≥ e'
        · refine Evt.ctrue (decide_eq_true h3) ?_
          have : sideOk L (e, e') = false := by unfold sideOk; exact decide_eq_false (by simp only; omega)
          simp only [this, Bool.false_and]
          exact .pure
        · refine Evt.cfalse (decide_eq_false h3) ?_
          have : sideOk L (e, e') = true := by unfold sideOk; exact decide_eq_true (by simp only; omega)
          simp only [this, Bool.true_and]
          cases b with
          | true => exact Evt.ctrue rfl (by simpa using ih true)
          | false =>
            refine Evt.cfalse rfl ?_
            cases h4 : (Int.tmod e 2 != 0) with
            | true => refine Evt.ctrue rfl ?_; simp only [sideOdd, h4, Bool.true_or, Bool.or_true]; simpa using ih true
            | false => refine Evt.cfalse rfl ?_; simp only [sideOdd, h4, Bool.false_or]; exact ih _
      · refine Evt.ctrue (by rw [decide_eq_false h2]; rfl) ?_
        have : sideOk L (e, e') = false := by unfold sideOk; exact decide_eq_false (by simp only; omega)
        simp only [this, Bool.false_and]
        exact .pure
    · refine Evt.ctrue (by rw [decide_eq_false h1]; rfl) ?_
      have : sideOk L (e, e') = false := by unfold sideOk; exact decide_eq_false (by simp only; omega)
      simp only [this, Bool.false_and]
      exact .pure

theorem isBox_loop {k : Nat} {d8 L : Int} {los his : List Int} (hL : 0 ≤ L ∧ L ≤ 1000000) (hb : los.length < lenB) : ∀ (r r' d d' : List Int) (b : Bool), d ++ r = los → d' ++ r' = his → d.length = d'.length → r.length = r'.length →
    Evt (fun k n => impl_isBox_L122 k n (d8, los, his) L b los (los.length : Int) d.length) (if (r.zip r').all (sideOk L) then .inr (b || (r.zip r').any sideOdd, ()) else .inl false) := by
  intro r
  induction r with
  | nil =>
    intro r' d d' b h h' hl hr
    refine Evt.step (fun k n => impl_isBox_L122.eq_2 k _ _ _ _ _ _ n) ?_
    rw [List.append_nil] at h
    subst h
    simp only [List.zip_nil_left, List.all_nil, List.any_nil, Bool.or_false, if_true]
    exact Evt.rng0 .pure
  | cons e r ih =>
    intro r' d d' b h h' hl hr
    obtain ⟨e', r', rfl⟩ : ∃ x y, r' = x :: y := by cases r' with
      | nil => simp at hr
      | cons x y => exact ⟨x, y, rfl⟩
    refine Evt.step (fun k n => impl_isBox_L122.eq_2 k _ _ _ _ _ _ n) ?_
    have ih := fun b => ih r' (d ++ [e]) (d' ++ [e']) b (by simpa using h) (by simpa using h') (by simp [hl]) (by simpa using hr)
    rw [← len_next (r := r) (by rw [h]; exact hb)] at ih
    subst h
    subst h'
    simp only
    refine Evt.ctrue mid_lt (Evt.ctrue mid_ge (Evt.ctrue mid_lt ?_))
    rw [mid_get]
    have hw : IntKind.wrap .i64 (0 - L) = -L := by rw [w64 (by omega) (by omega)]; omega
    rw [hw]
    refine Evt.bind (.const (inside_eq _ _ _)) ?_
    simp only [List.zip_cons_cons, List.all_cons, List.any_cons]
    by_cases h1 : -L ≤ e ∧ e ≤ L
    · refine Evt.cfalse (by simp [h1]) (Evt.ctrue mid_ge (Evt.ctrue (two_lt (r := r) hl) ?_))
      rw [two_get hl, w64 (n := e + 1) (by omega) (by omega)]
      refine Evt.bind (.const (inside_eq _ _ _)) ?_
      by_cases h2 : e + 1 ≤ e' ∧ e' ≤ L
      · refine Evt.cfalse (by simp [h2]) ?_
        have : sideOk L (e, e') = true := by unfold sideOk; exact decide_eq_true (by simp only; omega)
        simp only [this, Bool.true_and]
        cases b with
        | true => exact Evt.ctrue rfl (by simpa using ih true)
        | false =>
          refine Evt.cfalse rfl ?_
          cases h4 : (Int.tmod e 2 != 0) with
          | true => refine Evt.ctrue rfl ?_; simp only [sideOdd, h4, Bool.true_or, Bool.or_true]; simpa using ih true
          | false =>
            refine Evt.cfalse rfl (Evt.ctrue mid_ge (Evt.ctrue (two_lt (r := r) hl) ?_))
            simp only [sideOdd, h4, Bool.false_or]; exact ih _
      · refine Evt.ctrue (by rw [decide_eq_false h2]; rfl) ?_
        have : sideOk L (e, e') = false := by unfold sideOk; exact decide_eq_false (by simp only; omega)
        simp only [this, Bool.false_and]
        exact .pure
    · refine Evt.ctrue (by rw [decide_eq_false h1]; rfl) ?_
      have : sideOk L (e, e') = false := by unfold sideOk; exact decide_eq_false (by simp only; omega)
      simp only [this, Bool.false_and]
      exact .pure

theorem pow8 {n : Nat} (h : n ≤ 8) : (0 : Int) ≤ 8 * 2 ^ n ∧ (8 : Int) * 2 ^ n ≤ 2048 := by
  have h1 : (2 : Nat) ^ n ≤ 2 ^ 8 := Nat.pow_le_pow_right (by omega) h
  have h2 : ((2 : Int) ^ n) = ((2 ^ n : Nat) : Int) := by simp
  rw [h2]
  have h3 : (2 : Nat) ^ 8 = 256 := by decide
  rw [h3] at h1
  generalize (2 : Nat) ^ n = q at h1
  omega

theorem bxGood_ev {b : Int × List Int × List Int} (hb : b.2.1.length < lenB) : Evt (fun k _ => spec_bxGood k b) (bxV b) := by
  obtain ⟨d8, los, his⟩ := b
  refine Evt.eq (f := fun k q => _) ?_ (fun k q => by rw [spec_bxGood])
  unfold bxV
  simp only at hb ⊢
  refine Evt.bind (.const (l1In_eq _ _ _)) ?_
  by_cases h1 : 0 ≤ d8 ∧ d8 ≤ 8
  · refine Evt.cfalse (by simp [h1]) (Evt.bind (.const (l1In_eq _ _ _)) ?_)
    rw [decide_eq_true h1, Bool.true_and]
    by_cases h2 : 1 ≤ (los.length : Int) ∧ (los.length : Int) ≤ 3
    · refine Evt.cfalse (by rw [decide_eq_true h2]; rfl) ?_
      rw [decide_eq_true h2, Bool.true_and]
      by_cases h3 : his.length = los.length
      · refine Evt.cfalse (by simp [h3]) ?_
        rw [decide_eq_true h3, Bool.true_and]
        obtain ⟨m, rfl⟩ : ∃ m : Nat, d8 = m := ⟨d8.toNat, by omega⟩
        have hm : m ≤ 8 := by omega
        have hp := pow8 hm
        have e1 : ((2 ^ m : Nat) : Int) = 2 ^ m := by simp
        refine Evt.bind (.const (dyPower_eq (by omega))) ?_
        rw [e1, w64 (by omega) (by omega)]
        have h0 := bxGood_loop (k := 0) (d8 := (m : Int)) (L := 8 * 2 ^ m) (los := los) (his := his) (by omega) hb los his [] [] ((m : Int) == 0) rfl rfl rfl h3.symm
        simp only [List.length_nil, Int.toNat_natCast] at h0 ⊢
        cases hall : (los.zip his).all (sideOk (8 * 2 ^ m)) with
        | true => rw [hall] at h0; exact Evt.inr (Evt.diag h0) .pure
        | false => rw [hall] at h0; exact Evt.inl (Evt.diag h0) .pure
      · refine Evt.ctrue (by rw [bne_iff_ne]; omega) ?_
        rw [decide_eq_false h3]; exact .pure
    · refine Evt.ctrue (by rw [decide_eq_false h2]; rfl) ?_
      rw [decide_eq_false h2]; exact .pure
  · refine Evt.ctrue (by rw [decide_eq_false h1]; rfl) ?_
    rw [decide_eq_false h1]; exact .pure

theorem isBox_ev {b : Int × List Int × List Int} (hb : b.2.1.length < lenB) : Evt (fun k _ => impl_isBox k b) (bxV b) := by
  obtain ⟨d8, los, his⟩ := b
  refine Evt.eq (f := fun k q => _) ?_ (fun k q => by rw [impl_isBox])
  unfold bxV
  simp only at hb ⊢
  refine Evt.bind (.const (inside_eq _ _ _)) ?_
  by_cases h1 : 0 ≤ d8 ∧ d8 ≤ 8
  · refine Evt.cfalse (by simp [h1]) (Evt.bind (.const (inside_eq _ _ _)) ?_)
    rw [decide_eq_true h1, Bool.true_and]
    by_cases h2 : 1 ≤ (los.length : Int) ∧ (los.length : Int) ≤ 3
    · refine Evt.cfalse (by rw [decide_eq_true h2]; rfl) ?_
      rw [decide_eq_true h2, Bool.true_and]
      by_cases h3 : his.length = los.length
      · refine Evt.cfalse (by simp [h3]) ?_
        rw [decide_eq_true h3, Bool.true_and]
        obtain ⟨m, rfl⟩ : ∃ m : Nat, d8 = m := ⟨d8.toNat, by omega⟩
        have hm : m ≤ 8 := by omega
        have hp := pow8 hm
        refine Evt.cfalse (by simp) ?_
        have e0 : min (Int.toNat (m : Int)) (IntKind.bits .i64) = m := by
          rw [Int.toNat_natCast]; exact Nat.min_eq_left (by simp only [IntKind.bits]; omega)
        rw [e0, w64 (by omega) (by omega)]
        have h0 := isBox_loop (k := 0) (d8 := (m : Int)) (L := 8 * 2 ^ m) (los := los) (his := his) (by omega) hb los his [] [] ((m : Int) == 0) rfl rfl rfl h3.symm
        simp only [List.length_nil, Int.toNat_natCast] at h0 ⊢
        cases hall : (los.zip his).all (sideOk (8 * 2 ^ m)) with
        | true => rw [hall] at h0; exact Evt.inr (Evt.diag h0) .pure
        | false => rw [hall] at h0; exact Evt.inl (Evt.diag h0) .pure
      · refine Evt.ctrue (by rw [bne_iff_ne]; omega) ?_
        rw [decide_eq_false h3]; exact .pure
    · refine Evt.ctrue (by rw [decide_eq_false h2]; rfl) ?_
      rw [decide_eq_false h2]; exact .pure
  · refine Evt.ctrue (by rw [decide_eq_false h1]; rfl) ?_
    rw [decide_eq_false h1]; exact .pure

end Go.Ev.G

namespace Go.Ev.G
open Go Go.Ev
set_option maxRecDepth 100000

abbrev Tm := Int × Int × Int × Int
def tmGd (t : Tm) : Prop := (-1000 ≤ t.1 ∧ t.1 ≤ 1000) ∧ (0 ≤ t.2.1 ∧ t.2.1 ≤ 4) ∧ (0 ≤ t.2.2.1 ∧ t.2.2.1 ≤ 4) ∧ (0 ≤ t.2.2.2 ∧ t.2.2.2 ≤ 4) ∧ t.2.1 + t.2.2.1 + t.2.2.2 ≤ 4
instance : DecidablePred tmGd := fun x => by unfold tmGd; exact inferInstance

theorem poTerm_eq (t : Tm) : spec_poTerm t = some (decide (tmGd t)) := by
  unfold spec_poTerm
  simp only [l1In_eq, Option.bind_some]
  by_cases h1 : -1000 ≤ t.1 ∧ t.1 ≤ 1000
  · rw [decide_eq_true h1, cond_true]
    by_cases h2 : 0 ≤ t.2.1 ∧ t.2.1 ≤ 4
    · rw [decide_eq_true h2, cond_true]
      by_cases h3 : 0 ≤ t.2.2.1 ∧ t.2.2.1 ≤ 4
      · rw [decide_eq_true h3, cond_true]
        by_cases h4 : 0 ≤ t.2.2.2 ∧ t.2.2.2 ≤ 4
        · rw [decide_eq_true h4, cond_true, w64 (n := t.2.1 + t.2.2.1) (by omega) (by omega), w64 (by omega) (by omega)]
          congr 1
          rw [decide_eq_decide]
          exact ⟨fun h => ⟨h1, h2, h3, h4, h⟩, fun h => h.2.2.2.2⟩
        · rw [decide_eq_false h4, decide_eq_false fun h : tmGd t => h4 h.2.2.2.1]; rfl
      · rw [decide_eq_false h3, decide_eq_false fun h : tmGd t => h3 h.2.2.1]; rfl
    · rw [decide_eq_false h2, decide_eq_false fun h : tmGd t => h2 h.2.1]; rfl
  · rw [decide_eq_false h1, decide_eq_false fun h : tmGd t => h1 h.1]; rfl

theorem hasDegree_eq {t : Tm} (h1 : -1000 ≤ t.1 ∧ t.1 ≤ 1000) : impl_hasDegree t = some (decide (tmGd t)) := by
  unfold impl_hasDegree impl_Term_degree
  simp only [inside_eq, Option.bind_some]
  by_cases h2 : 0 ≤ t.2.1 ∧ t.2.1 ≤ 4
  · rw [decide_eq_true h2, cond_true]
    by_cases h3 : 0 ≤ t.2.2.1 ∧ t.2.2.1 ≤ 4
    · rw [decide_eq_true h3, cond_true]
      by_cases h4 : 0 ≤ t.2.2.2 ∧ t.2.2.2 ≤ 4
      · rw [decide_eq_true h4, cond_true, w64 (n := t.2.1 + t.2.2.1) (by omega) (by omega), w64 (by omega) (by omega)]
        congr 1
        rw [decide_eq_decide]
        exact ⟨fun h => ⟨h1, h2, h3, h4, h⟩, fun h => h.2.2.2.2⟩
      · rw [decide_eq_false h4, decide_eq_false fun h : tmGd t => h4 h.2.2.2.1]; rfl
    · rw [decide_eq_false h3, decide_eq_false fun h : tmGd t => h3 h.2.2.1]; rfl
  · rw [decide_eq_false h2, decide_eq_false fun h : tmGd t => h2 h.2.1]; rfl

def lexI (a b : Tm) : Int := if a.2.1 ≠ b.2.1 then cmpI a.2.1 b.2.1 else if a.2.2.1 ≠ b.2.2.1 then cmpI a.2.2.1 b.2.2.1 else cmpI a.2.2.2 b.2.2.2
theorem cmpI_sub (a b : Int) : cmpI (a - b) 0 = cmpI a b := by
  unfold cmpI
  split <;> split <;> (try split) <;> (try split) <;> omega
theorem poOrder_eq {a b : Tm} (ha : tmGd a) (hb : tmGd b) : spec_poOrder a b = some (lexI a b) := by
  have a1 := ha.2
  have b1 := hb.2
  unfold spec_poOrder lexI
  rw [w64 (n := a.2.1 - b.2.1) (by omega) (by omega), w64 (n := a.2.2.1 - b.2.2.1) (by omega) (by omega), w64 (n := a.2.2.2 - b.2.2.2) (by omega) (by omega)]
  simp only [sign_eq, Option.bind_some, cmpI_sub]
  by_cases h1 : a.2.1 = b.2.1
  · rw [if_neg (by simpa using h1), show (a.2.1 != b.2.1) = false by simpa using h1, cond_false]
    by_cases h2 : a.2.2.1 = b.2.2.1
    · rw [if_neg (by simpa using h2), show (a.2.2.1 != b.2.2.1) = false by simpa using h2, cond_false]
    · rw [if_pos h2, show (a.2.2.1 != b.2.2.1) = true by simpa using h2, cond_true]
  · rw [if_pos h1, show (a.2.1 != b.2.1) = true by simpa using h1, cond_true]

theorem cmpC_eq (a b : Int) : cmp_Compare_int a b = some (cmpI a b) := by
  unfold cmp_Compare_int cmp_isNaN_int cmpI
  simp only [bne_self_eq_false, Option.bind_some, cond_false]
  by_cases h : a < b
  · simp [h]
  · by_cases h2 : b < a
    · simp [h, h2]
    · simp [h, h2]

theorem or3_ev (x y z : Int) : Evt (fun k _ => cmp_Or_int k [x, y, z]) (orI x (orI y z)) := by
  refine Evt.eq (f := fun k q => _) ?_ (fun k q => by rw [cmp_Or_int])
  have w1 : IntKind.wrap .i64 (0 + 1) = 1 := by decide
  have w2 : IntKind.wrap .i64 (1 + 1) = 2 := by decide
  have w3 : IntKind.wrap .i64 (2 + 1) = 3 := by decide
  have l3 : Evt (fun k n => cmp_Or_int_L58 k n 0 [x, y, z] 3 3) (.inr (0, ())) := Evt.step (fun k n => cmp_Or_int_L58.eq_2 k _ _ _ _ n) (Evt.cfalse rfl .pure)
  have l2 : Evt (fun k n => cmp_Or_int_L58 k n 0 [x, y, z] 3 2) (if z != 0 then .inl z else .inr (0, ())) := by
    refine Evt.step (fun k n => cmp_Or_int_L58.eq_2 k _ _ _ _ n) (Evt.ctrue rfl (Evt.ctrue rfl (Evt.ctrue rfl ?_)))
    rw [w3]
    cases h : (z != 0) with
    | true => exact Evt.ctrue h .pure
    | false => exact Evt.cfalse h l3
  have l1 : Evt (fun k n => cmp_Or_int_L58 k n 0 [x, y, z] 3 1) (if y != 0 then .inl y else if z != 0 then .inl z else .inr (0, ())) := by
    refine Evt.step (fun k n => cmp_Or_int_L58.eq_2 k _ _ _ _ n) (Evt.ctrue rfl (Evt.ctrue rfl (Evt.ctrue rfl ?_)))
    rw [w2]
    cases h : (y != 0) with
    | true => exact Evt.ctrue h .pure
    | false => exact Evt.cfalse h l2
  have l0 : Evt (fun k n => cmp_Or_int_L58 k n 0 [x, y, z] (([x, y, z] : List Int).length : Int) 0) (if x != 0 then .inl x else if y != 0 then .inl y else if z != 0 then .inl z else .inr (0, ())) := by
    refine Evt.step (fun k n => cmp_Or_int_L58.eq_2 k _ _ _ _ n) (Evt.ctrue rfl (Evt.ctrue rfl (Evt.ctrue rfl ?_)))
    rw [w1]
    cases h : (x != 0) with
    | true => exact Evt.ctrue h .pure
    | false => exact Evt.cfalse h l1
  unfold orI
  cases hx : (x != 0) with
  | true =>
    rw [hx] at l0
    rw [show (x == 0) = false by simpa using hx]
    exact Evt.inl (Evt.diag l0) .pure
  | false =>
    rw [hx] at l0
    rw [show (x == 0) = true by simpa using hx, cond_true]
    cases hy : (y != 0) with
    | true =>
      rw [hy] at l0
      rw [show (y == 0) = false by simpa using hy]
      exact Evt.inl (Evt.diag l0) .pure
    | false =>
      rw [hy] at l0
      rw [show (y == 0) = true by simpa using hy, cond_true]
      cases hz : (z != 0) with
      | true => rw [hz] at l0; exact Evt.inl (Evt.diag l0) .pure
      | false =>
        rw [hz] at l0
        have hz0 : z = 0 := by simpa using hz
        subst hz0
        exact Evt.inr (Evt.diag l0) .pure

theorem cmpI_zero (a b : Int) : cmpI a b = 0 ↔ a = b := by
  unfold cmpI
  split <;> (try split) <;> omega
theorem compareTerms_ev (a b : Tm) : Evt (fun k _ => impl_compareTerms k a b) (lexI a b) := by
  refine Evt.eq (f := fun k q => _) ?_ (fun k q => by rw [impl_compareTerms])
  refine Evt.bind (.const (cmpC_eq _ _)) (Evt.bind (.const (cmpC_eq _ _)) (Evt.bind (.const (cmpC_eq _ _)) (Evt.bind (or3_ev _ _ _) ?_)))
  have : orI (cmpI a.2.1 b.2.1) (orI (cmpI a.2.2.1 b.2.2.1) (cmpI a.2.2.2 b.2.2.2)) = lexI a b := by
    unfold lexI
    by_cases h1 : a.2.1 = b.2.1
    · rw [(cmpI_zero _ _).2 h1, orI_z, if_neg (by simpa using h1)]
      by_cases h2 : a.2.2.1 = b.2.2.1
      · rw [(cmpI_zero _ _).2 h2, orI_z, if_neg (by simpa using h2)]
      · rw [orI_ne (fun h => h2 ((cmpI_zero _ _).1 h)), if_pos h2]
    · rw [orI_ne (fun h => h1 ((cmpI_zero _ _).1 h)), if_pos h1]
  rw [this]
  exact .pure

def okFrom : Option Tm → List Tm → Bool
  | _, [] => true
  | p, e :: r => (decide (tmGd e) && !(e.1 == 0)) && ((match p with | none => true | some q => decide (lexI q e < 0)) && okFrom (some e) r)
def lastO (d : List Tm) : Option Tm := d.getLast?
def polyV (xs : List Tm) : Bool := okFrom none xs && decide ((xs.length : Int) ≤ 20)

theorem okFrom_gd : ∀ (r : List Tm) (p : Option Tm), okFrom p r = true → ∀ t ∈ r, tmGd t
  | [], _, _ => by simp
  | e :: r, p, h => by
    unfold okFrom at h
    simp only [Bool.and_eq_true, decide_eq_true_eq] at h
    intro t ht
    rcases List.mem_cons.1 ht with rfl | ht
    · exact h.1.1
    · exact okFrom_gd r _ h.2.2 t ht
theorem polyV_gd {xs : List Tm} (h : polyV xs = true) : ∀ t ∈ xs, tmGd t := by
  unfold polyV at h
  rw [Bool.and_eq_true] at h
  exact okFrom_gd xs _ h.1

theorem last_get {d r : List Tm} {e q z : Tm} : (d ++ [q] ++ e :: r).getD (Int.toNat (d.length : Int)) z = q := by simp

theorem poGood_ev {xs : List Tm} (hb : xs.length < lenB) : Evt (fun k _ => spec_poGood k xs) (polyV xs) := by
  refine Evt.eq (f := fun k q => _) ?_ (fun k q => by rw [spec_poGood])
  have key : ∀ (r d : List Tm), d ++ r = xs → (∀ q, lastO d = some q → tmGd q) → Evt (fun k n => spec_poGood_L26 k n xs xs (xs.length : Int) d.length) (if okFrom (lastO d) r then .inr (xs, ()) else .inl false) := by
    intro r
    induction r with
    | nil =>
      intro d h hg
      refine Evt.step (fun k n => spec_poGood_L26.eq_2 k _ _ _ _ n) ?_
      rw [List.append_nil] at h
      subst h
      exact Evt.rng0 .pure
    | cons e r ih =>
      intro d h hg
      refine Evt.step (fun k n => spec_poGood_L26.eq_2 k _ _ _ _ n) ?_
      have ih := ih (d ++ [e]) (by simpa using h)
      rw [← len_next (r := r) (by rw [h]; exact hb)] at ih
      rw [show lastO (d ++ [e]) = some e by simp [lastO]] at ih
      subst h
      refine Evt.ctrue mid_lt (Evt.ctrue mid_ge (Evt.ctrue mid_lt ?_))
      rw [mid_get]
      refine Evt.bind (.const (poTerm_eq e)) ?_
      unfold okFrom
      by_cases h1 : tmGd e
      · simp only [decide_eq_true h1, Bool.true_and]
        refine Evt.cfalse rfl ?_
        have ih := ih (fun q hq => by cases hq; exact h1)
        cases h2 : (e.1 == 0) with
        | true => exact Evt.ctrue rfl .pure
        | false =>
          refine Evt.cfalse rfl ?_
          simp only [Bool.not_false, Bool.true_and]
          rcases List.eq_nil_or_concat d with rfl | ⟨d0, q, rfl⟩
          · exact Evt.cfalse rfl (by simpa [lastO] using ih)
          · simp only [List.concat_eq_append] at hg ih ⊢
            have hq : lastO (d0 ++ [q]) = some q := by simp [lastO]
            have hl : (((d0 ++ [q]).length : Nat) : Int) = (d0.length : Int) + 1 := by simp
            have hlb : d0.length < lenB := by simp at hb; omega
            simp only [lenB] at hlb
            refine Evt.ctrue (by rw [hl]; exact decide_eq_true (by omega)) ?_
            have hw : IntKind.wrap .i64 (((d0 ++ [q]).length : Int) - 1) = (d0.length : Int) := by rw [hl, w64 (by omega) (by omega)]; omega
            rw [hw, last_get]
            refine Evt.ctrue (by simp) (Evt.ctrue (by simp <;> omega) (Evt.bind (.const (poOrder_eq (hg q hq) h1)) ?_))
            simp only [hq]
            by_cases h3 : lexI q e < 0
            · simp only [decide_eq_true h3, Bool.true_and]
              exact Evt.cfalse (decide_eq_false (by omega)) ih
            · simp only [decide_eq_false h3, Bool.false_and]
              exact Evt.ctrue (decide_eq_true (by omega)) .pure
      · simp only [decide_eq_false h1, Bool.false_and]
        exact Evt.ctrue rfl .pure
  have h0 := key xs [] rfl (by intro q hq; cases hq)
  simp only [List.length_nil] at h0
  unfold polyV
  rw [show lastO [] = none from rfl] at h0
  cases hall : okFrom none xs with
  | true => rw [hall] at h0; exact Evt.inr (Evt.diag h0) .pure
  | false => rw [hall] at h0; exact Evt.inl (Evt.diag h0) .pure

theorem isPoly_ev {xs : List Tm} (hb : xs.length < lenB) : Evt (fun k _ => impl_isPoly k xs) (polyV xs) := by
  refine Evt.eq (f := fun k q => _) ?_ (fun k q => by rw [impl_isPoly])
  have key : ∀ (r d : List Tm), d ++ r = xs → Evt (fun k n => impl_isPoly_L26 k n xs xs (xs.length : Int) d.length) (if okFrom (lastO d) r then .inr (xs, ()) else .inl false) := by
    intro r
    induction r with
    | nil =>
      intro d h
      refine Evt.step (fun k n => impl_isPoly_L26.eq_2 k _ _ _ _ n) ?_
      rw [List.append_nil] at h
      subst h
      exact Evt.rng0 .pure
    | cons e r ih =>
      intro d h
      refine Evt.step (fun k n => impl_isPoly_L26.eq_2 k _ _ _ _ n) ?_
      have ih := ih (d ++ [e]) (by simpa using h)
      rw [← len_next (r := r) (by rw [h]; exact hb)] at ih
      rw [show lastO (d ++ [e]) = some e by simp [lastO]] at ih
      subst h
      refine Evt.ctrue mid_lt (Evt.ctrue mid_ge (Evt.ctrue mid_lt ?_))
      rw [mid_get]
      unfold okFrom
      cases h2 : (e.1 == 0) with
      | true =>
        simp only [Bool.not_true, Bool.and_false, Bool.false_and]
        exact Evt.ctrue rfl .pure
      | false =>
      refine Evt.cfalse rfl (Evt.bind (.const (inside_eq _ _ _)) ?_)
      simp only [Bool.not_false, Bool.and_true]
      by_cases h0 : -1000 ≤ e.1 ∧ e.1 ≤ 1000
      · refine Evt.cfalse (by rw [decide_eq_true h0]; rfl) (Evt.bind (.const (hasDegree_eq h0)) ?_)
        by_cases h1 : tmGd e
        · simp only [decide_eq_true h1, Bool.true_and]
          refine Evt.cfalse rfl ?_
          rcases List.eq_nil_or_concat d with rfl | ⟨d0, q, rfl⟩
          · exact Evt.cfalse rfl (by simpa [lastO] using ih)
          · simp only [List.concat_eq_append] at ih ⊢
            have hq : lastO (d0 ++ [q]) = some q := by simp [lastO]
            have hl : (((d0 ++ [q]).length : Nat) : Int) = (d0.length : Int) + 1 := by simp
            have hlb : d0.length < lenB := by simp at hb; omega
            simp only [lenB] at hlb
            refine Evt.ctrue (by rw [hl]; exact decide_eq_true (by omega)) ?_
            have hw : IntKind.wrap .i64 (((d0 ++ [q]).length : Int) - 1) = (d0.length : Int) := by rw [hl, w64 (by omega) (by omega)]; omega
            rw [hw, last_get]
            refine Evt.ctrue (by simp) (Evt.ctrue (by simp <;> omega) (Evt.bind (compareTerms_ev q e) ?_))
            simp only [hq]
            by_cases h3 : lexI q e < 0
            · simp only [decide_eq_true h3, Bool.true_and]
              exact Evt.cfalse (decide_eq_false (by omega)) ih
            · simp only [decide_eq_false h3, Bool.false_and]
              exact Evt.ctrue (decide_eq_true (by omega)) .pure
        · simp only [decide_eq_false h1, Bool.false_and]
          exact Evt.ctrue rfl .pure
      · simp only [decide_eq_false fun h : tmGd e => h0 h.1, Bool.false_and]
        exact Evt.ctrue (by rw [decide_eq_false h0]; rfl) .pure
  have h0 := key xs [] rfl
  simp only [List.length_nil] at h0
  unfold polyV
  rw [show lastO [] = none from rfl] at h0
  cases hall : okFrom none xs with
  | true => rw [hall] at h0; exact Evt.inr (Evt.diag h0) .pure
  | false => rw [hall] at h0; exact Evt.inl (Evt.diag h0) .pure
end Go.Ev.G

namespace Go.Ev.G
open Go Go.Ev
set_option maxRecDepth 100000

def scX (pt : List (Int × Int)) (i : Nat) : Int := (pt.getD i (0, 0)).1 * 2 ^ (9 - (pt.getD i (0, 0)).2).toNat
def ptS (pt : List (Int × Int)) : Prop := ∀ x ∈ pt, 0 ≤ x.2 ∧ x.2 ≤ 9 ∧ (x.1 * 2 ^ (9 - x.2).toNat).natAbs ≤ 4096
def degT (t : Tm) : Nat := t.2.1.toNat + t.2.2.1.toNat + t.2.2.2.toNat
def tmS (n : Nat) (t : Tm) : Prop := 0 ≤ t.2.1 ∧ 0 ≤ t.2.2.1 ∧ 0 ≤ t.2.2.2 ∧ degT t ≤ 4 ∧ t.1.natAbs * 2 ^ (3 * degT t) ≤ 4096000 ∧ (0 < t.2.1 → 0 < n) ∧ (0 < t.2.2.1 → 1 < n) ∧ (0 < t.2.2.2 → 2 < n)
def scT (pt : List (Int × Int)) (t : Tm) : Int := t.1 * 2 ^ (9 * (4 - degT t)) * scX pt 0 ^ t.2.1.toNat * scX pt 1 ^ t.2.2.1.toNat * scX pt 2 ^ t.2.2.2.toNat
def scV (p : List Tm) (pt : List (Int × Int)) : Int := (p.map (scT pt)).sum

theorem natAbs_mul_le {a b : Int} {B : Nat} (h : b.natAbs ≤ B) : (a * b).natAbs ≤ a.natAbs * B := by
  rw [Int.natAbs_mul]
  exact Nat.mul_le_mul_left _ h
theorem sc_mul {pt : List (Int × Int)} {i : Nat} (hp : ptS pt) (hi : i < pt.length) (x5 : Int) (x11 : List Tm) (x12 x13 x26 : Int) (x25 : Int × Int × Int) {e : Nat} (he : e ≤ 4) : ∀ (m : Nat) (c : Int), m ≤ e → c.natAbs * 4096 ^ m ≤ 281474976710656000 →
    Evt (fun k n => impl_scaledAt_L15309414 k n pt x5 c (i : Int) x11 x12 x13 x25 x26 (e : Int) ((e - m : Nat) : Int)) (.inr (pt, x5, c * scX pt i ^ m, x11, x12, x13, x25, x26, ())) := by
  intro m
  induction m with
  | zero =>
    intro c hm hc
    refine Evt.step (fun k n => impl_scaledAt_L15309414.eq_2 k _ _ _ _ _ _ _ _ _ _ _ n) ?_
    rw [Int.pow_zero, Int.mul_one]
    exact Evt.cfalse (decide_eq_false (by omega)) .pure
  | succ m ih =>
    intro c hm hc
    obtain ⟨k0, k9, hb⟩ := hp _ (List.getElem_mem hi)
    have hg : pt.getD i (0, 0) = pt[i] := by rw [List.getD_eq_getElem?_getD, List.getElem?_eq_getElem hi]; rfl
    have hX : (scX pt i).natAbs ≤ 4096 := by unfold scX; rw [hg]; exact hb
    have hcx := natAbs_mul_le (a := c) hX
    have hc2 : (c * scX pt i).natAbs * 4096 ^ m ≤ 281474976710656000 := by
      refine Nat.le_trans (Nat.mul_le_mul_right _ hcx) ?_
      rw [Nat.mul_assoc, Nat.mul_comm 4096, ← Nat.pow_succ]
      exact hc
    have hc3 : (c * scX pt i).natAbs ≤ 281474976710656000 := Nat.le_trans (Nat.le_mul_of_pos_right _ (Nat.pow_pos (by decide))) hc2
    have ih := ih (c * scX pt i) (by omega) hc2
    refine Evt.step (fun k n => impl_scaledAt_L15309414.eq_2 k _ _ _ _ _ _ _ _ _ _ _ n) ?_
    have e1 : Int.toNat (i : Int) = i := by omega
    rw [e1, hg]
    have w1 : IntKind.wrap .i64 (9 - pt[i].2) = 9 - pt[i].2 := w64 (by omega) (by omega)
    have m1 : min (Int.toNat (9 - pt[i].2)) (IntKind.bits .i64) = (9 - pt[i].2).toNat := by simp [IntKind.bits]; omega
    have w2 : IntKind.wrap .i64 (pt[i].1 * 2 ^ (9 - pt[i].2).toNat) = scX pt i := by
      unfold scX
      rw [hg]
      exact w64 (by omega) (by omega)
    have w3 : IntKind.wrap .i64 (((e - (m + 1) : Nat) : Int) + 1) = ((e - m : Nat) : Int) := by rw [w64 (by omega) (by omega)]; omega
    rw [w1, m1, w2, w3, w64 (n := c * scX pt i) (by omega) (by omega)]
    rw [Int.mul_assoc, ← Int.pow_succ'] at ih
    exact Evt.ctrue (decide_eq_true (by omega)) (Evt.ctrue mid_ge (Evt.ctrue (decide_eq_true (by omega)) (Evt.ctrue mid_ge (Evt.ctrue (decide_eq_true (by omega)) (Evt.cfalse (decide_eq_false (by omega)) ih)))))
theorem sc_mul0 {pt : List (Int × Int)} {i : Nat} (hp : ptS pt) (x5 : Int) (x11 : List Tm) (x12 x13 x26 : Int) (x25 : Int × Int × Int) {e : Int} (h0 : 0 ≤ e) (he : e ≤ 4) (hi : 0 < e → i < pt.length) {c : Int} (hc : c.natAbs * 4096 ^ e.toNat ≤ 281474976710656000) :
    Evt (fun k n => impl_scaledAt_L15309414 k n pt x5 c (i : Int) x11 x12 x13 x25 x26 e 0) (.inr (pt, x5, c * scX pt i ^ e.toNat, x11, x12, x13, x25, x26, ())) := by
  by_cases hz : e = 0
  · subst hz
    refine Evt.step (fun k n => impl_scaledAt_L15309414.eq_2 k _ _ _ _ _ _ _ _ _ _ _ n) ?_
    have : scX pt i ^ (0 : Int).toNat = 1 := by rw [show (0 : Int).toNat = 0 from rfl, Int.pow_zero]
    rw [this, Int.mul_one]
    exact Evt.cfalse (by decide) .pure
  · obtain ⟨m, hm⟩ := Int.eq_ofNat_of_zero_le h0
    subst hm
    have h := sc_mul hp (hi (by omega)) x5 x11 x12 x13 x26 x25 (e := m) (by omega) m c (Nat.le_refl _) hc
    rw [Nat.sub_self] at h
    exact h

theorem sc_term {pt : List (Int × Int)} {t : Tm} (hp : ptS pt) (ht : tmS pt.length t) (x5 : Int) (x11 : List Tm) (x12 x13 : Int) :
    Evt (fun k n => impl_scaledAt_L59802 k n pt x5 (t.1 * 2 ^ (9 * (4 - degT t))) x11 x12 x13 t.2 0) (.inr (pt, x5, scT pt t, x11, x12, x13, ())) := by
  obtain ⟨t0, t1, t2, hd, hb, i0, i1, i2⟩ := ht
  have hX : ∀ i, (scX pt i).natAbs ≤ 4096 := by
    intro i
    unfold scX
    by_cases hi : i < pt.length
    · rw [List.getD_eq_getElem?_getD, List.getElem?_eq_getElem hi]
      exact (hp _ (List.getElem_mem hi)).2.2
    · rw [List.getD_eq_getElem?_getD, List.getElem?_eq_none (by omega)]
      simp
  have hpw : ∀ (i m : Nat), (scX pt i ^ m).natAbs ≤ 4096 ^ m := by
    intro i m
    rw [Int.natAbs_pow]
    exact Nat.pow_le_pow_left (hX i) m
  have hc0 : (t.1 * 2 ^ (9 * (4 - degT t))).natAbs * 4096 ^ degT t ≤ 281474976710656000 := by
    rw [Int.natAbs_mul, Int.natAbs_pow]
    have e1 : (2 : Int).natAbs = 2 := rfl
    have e2 : (4096 : Nat) = 2 ^ 12 := by decide
    rw [e1, e2, ← Nat.pow_mul, Nat.mul_assoc, ← Nat.pow_add]
    have e3 : 9 * (4 - degT t) + 12 * degT t = 3 * degT t + 36 := by omega
    rw [e3, Nat.pow_add, ← Nat.mul_assoc]
    have : (2 : Nat) ^ 36 = 68719476736 := by decide
    rw [this]
    omega
  have hda : degT t = t.2.1.toNat + (t.2.2.1.toNat + t.2.2.2.toNat) := by unfold degT; omega
  have c1 : (t.1 * 2 ^ (9 * (4 - degT t))).natAbs * 4096 ^ t.2.1.toNat ≤ 281474976710656000 := by
    rw [hda, Nat.pow_add, ← Nat.mul_assoc] at hc0
    rw [← hda] at hc0
    exact Nat.le_trans (Nat.le_mul_of_pos_right _ (Nat.pow_pos (by decide))) hc0
  have c12 : (t.1 * 2 ^ (9 * (4 - degT t)) * scX pt 0 ^ t.2.1.toNat).natAbs * 4096 ^ (t.2.2.1.toNat + t.2.2.2.toNat) ≤ 281474976710656000 := by
    refine Nat.le_trans (Nat.mul_le_mul_right _ (natAbs_mul_le (hpw 0 _))) ?_
    rw [Nat.mul_assoc, ← Nat.pow_add, ← hda]
    exact hc0
  have c2 : (t.1 * 2 ^ (9 * (4 - degT t)) * scX pt 0 ^ t.2.1.toNat).natAbs * 4096 ^ t.2.2.1.toNat ≤ 281474976710656000 := by
    rw [Nat.pow_add, ← Nat.mul_assoc] at c12
    exact Nat.le_trans (Nat.le_mul_of_pos_right _ (Nat.pow_pos (by decide))) c12
  have c3 : (t.1 * 2 ^ (9 * (4 - degT t)) * scX pt 0 ^ t.2.1.toNat * scX pt 1 ^ t.2.2.1.toNat).natAbs * 4096 ^ t.2.2.2.toNat ≤ 281474976710656000 := by
    refine Nat.le_trans (Nat.mul_le_mul_right _ (natAbs_mul_le (hpw 1 _))) ?_
    rw [Nat.mul_assoc, ← Nat.pow_add]
    exact c12
  have d0 := hda
  have l0 := sc_mul0 (i := 0) hp x5 x11 x12 x13 0 t.2 t0 (by omega) i0 c1
  have l1 := sc_mul0 (i := 1) hp x5 x11 x12 x13 1 t.2 t1 (by omega) i1 c2
  have l2 := sc_mul0 (i := 2) hp x5 x11 x12 x13 2 t.2 t2 (by omega) i2 c3
  refine Evt.step (fun k n => impl_scaledAt_L59802.eq_2 k _ _ _ _ _ _ _ _ n) (Evt.ctrue (by decide) (Evt.ctrue (by decide) (Evt.inr (Evt.diag l0) ?_)))
  refine Evt.step (fun k n => impl_scaledAt_L59802.eq_2 k _ _ _ _ _ _ _ _ n) (Evt.ctrue (decide_eq_true (by dsimp only; decide)) (Evt.cfalse (by dsimp only; decide) (Evt.ctrue (by dsimp only; decide) (Evt.inr (Evt.diag l1) ?_))))
  refine Evt.step (fun k n => impl_scaledAt_L59802.eq_2 k _ _ _ _ _ _ _ _ n) (Evt.ctrue (decide_eq_true (by dsimp only; decide)) (Evt.cfalse (by dsimp only; decide) (Evt.cfalse (by dsimp only; decide) (Evt.ctrue (by dsimp only; decide) (Evt.inr (Evt.diag l2) ?_)))))
  exact Evt.step (fun k n => impl_scaledAt_L59802.eq_2 k _ _ _ _ _ _ _ _ n) (Evt.cfalse (decide_eq_false (by dsimp only; decide)) .pure)
theorem scT_bd {pt : List (Int × Int)} {t : Tm} (hp : ptS pt) (ht : tmS pt.length t) : (scT pt t).natAbs ≤ 281474976710656000 := by
  obtain ⟨t0, t1, t2, hd, hb, i0, i1, i2⟩ := ht
  have hX : ∀ i, (scX pt i).natAbs ≤ 4096 := by
    intro i
    unfold scX
    by_cases hi : i < pt.length
    · rw [List.getD_eq_getElem?_getD, List.getElem?_eq_getElem hi]
      exact (hp _ (List.getElem_mem hi)).2.2
    · rw [List.getD_eq_getElem?_getD, List.getElem?_eq_none (by omega)]
      simp
  have hpw : ∀ (i m : Nat), (scX pt i ^ m).natAbs ≤ 4096 ^ m := by
    intro i m
    rw [Int.natAbs_pow]
    exact Nat.pow_le_pow_left (hX i) m
  unfold scT
  refine Nat.le_trans (natAbs_mul_le (hpw 2 _)) ?_
  refine Nat.le_trans (Nat.mul_le_mul_right _ (natAbs_mul_le (hpw 1 _))) ?_
  refine Nat.le_trans (Nat.mul_le_mul_right _ (Nat.mul_le_mul_right _ (natAbs_mul_le (hpw 0 _)))) ?_
  rw [Nat.mul_assoc, Nat.mul_assoc, ← Nat.pow_add, ← Nat.pow_add]
  have hda : t.2.1.toNat + (t.2.2.1.toNat + t.2.2.2.toNat) = degT t := by unfold degT; omega
  rw [hda, Int.natAbs_mul, Int.natAbs_pow]
  have e1 : (2 : Int).natAbs = 2 := rfl
  have e2 : (4096 : Nat) = 2 ^ 12 := by decide
  rw [e1, e2, ← Nat.pow_mul, Nat.mul_assoc, ← Nat.pow_add]
  have e3 : 9 * (4 - degT t) + 12 * degT t = 3 * degT t + 36 := by omega
  rw [e3, Nat.pow_add, ← Nat.mul_assoc]
  have : (2 : Nat) ^ 36 = 68719476736 := by decide
  rw [this]
  omega
theorem scaledAt_ev {p : List Tm} {pt : List (Int × Int)} (hl : p.length ≤ 20) (ht : ∀ t ∈ p, tmS pt.length t) (hp : ptS pt) : Evt (fun k _ => impl_scaledAt k p pt) (scV p pt) := by
  refine Evt.eq (f := fun k q => _) ?_ (fun k q => by rw [impl_scaledAt])
  have sb : ∀ (d : List Tm), (∀ t ∈ d, tmS pt.length t) → ((d.map (scT pt)).sum).natAbs ≤ d.length * 281474976710656000 := by
    intro d
    induction d with
    | nil => intro _; simp
    | cons e d ih =>
      intro h
      have h1 := ih (fun t ht => h t (by simp [ht]))
      have h2 := scT_bd hp (h e (by simp))
      simp only [List.map_cons, List.sum_cons, List.length_cons]
      rw [Nat.add_mul]
      have := Int.natAbs_add_le (scT pt e) ((d.map (scT pt)).sum)
      omega
  have key : ∀ (r d : List Tm), d ++ r = p → Evt (fun k n => impl_scaledAt_L58 k n pt ((d.map (scT pt)).sum) p (p.length : Int) d.length) (.inr (scV p pt, ())) := by
    intro r
    induction r with
    | nil =>
      intro d h
      refine Evt.step (fun k n => impl_scaledAt_L58.eq_2 k _ _ _ _ _ n) ?_
      rw [List.append_nil] at h
      subst h
      exact Evt.rng0 .pure
    | cons t r ih =>
      intro d h
      have hxl := congrArg List.length h
      simp at hxl
      have htm := ht t (by rw [← h]; simp)
      have hb := sb (d ++ [t]) (fun u hu => ht u (by rw [← h]; simp at hu ⊢; rcases hu with hu | hu <;> simp [hu]))
      have ih := ih (d ++ [t]) (by simpa using h)
      rw [← len_next (r := r) (by rw [h]; simp only [lenB]; omega)] at ih
      have g : p.getD (Int.toNat (d.length : Int)) (0, 0, 0, 0) = t := by rw [← h]; exact mid_get
      refine Evt.step (fun k n => impl_scaledAt_L58.eq_2 k _ _ _ _ _ n) ?_
      rw [g]
      obtain ⟨t0, t1, t2, hd, hbb, _⟩ := htm
      have hdg : impl_Term_degree t = some (degT t : Int) := by
        unfold impl_Term_degree degT at *
        rw [w64 (n := t.2.1 + t.2.2.1) (by omega) (by omega), w64 (by omega) (by omega)]
        congr 1
        omega
      have w1 : IntKind.wrap .i64 (4 - (degT t : Int)) = ((4 - degT t : Nat) : Int) := by rw [w64 (by omega) (by omega)]; omega
      have w2 : IntKind.wrap .i64 (9 * ((4 - degT t : Nat) : Int)) = ((9 * (4 - degT t) : Nat) : Int) := by rw [w64 (by omega) (by omega)]; omega
      have m1 : min (Int.toNat ((9 * (4 - degT t) : Nat) : Int)) (IntKind.bits .i64) = 9 * (4 - degT t) := by simp [IntKind.bits]; omega
      have hc : (t.1 * 2 ^ (9 * (4 - degT t))).natAbs ≤ 281474976710656000 := by
        rw [Int.natAbs_mul, Int.natAbs_pow]
        have e1 : (2 : Int).natAbs = 2 := rfl
        have h36 : 2 ^ (9 * (4 - degT t)) ≤ 2 ^ 36 := Nat.pow_le_pow_right (by decide) (by omega)
        have hn : t.1.natAbs ≤ 4096000 := Nat.le_trans (Nat.le_mul_of_pos_right _ (Nat.pow_pos (by decide))) hbb
        rw [e1]
        exact Nat.le_trans (Nat.mul_le_mul hn h36) (by decide)
      refine Evt.ctrue (by rw [← h]; exact mid_lt) (Evt.ctrue mid_ge (Evt.ctrue (by rw [← h]; exact mid_lt) (Evt.bind (.const hdg) ?_)))
      rw [w1, w2, m1, w64 (n := t.1 * 2 ^ (9 * (4 - degT t))) (by omega) (by omega)]
      refine Evt.cfalse (decide_eq_false (by omega)) (Evt.bind (.const (r := t.2) rfl) (Evt.inr (Evt.diag (sc_term hp (ht t (by rw [← h]; simp)) _ _ _ _)) ?_))
      dsimp only
      have es : ((d ++ [t]).map (scT pt)).sum = (d.map (scT pt)).sum + scT pt t := by simp
      rw [es] at ih hb
      simp only [List.length_append, List.length_cons, List.length_nil] at hb
      rw [w64 (n := (d.map (scT pt)).sum + scT pt t) (by omega) (by omega)]
      exact ih
  exact Evt.inr (Evt.diag (key p [] rfl)) .pure
end Go.Ev.G

namespace Go.Ev.G
open Go Go.Ev
set_option maxRecDepth 100000

def exI (i : Nat) (t : Tm) : Int := match i with
  | 0 => t.2.1
  | 1 => t.2.2.1
  | _ => t.2.2.2
theorem polyV_len {p : List Tm} (h : polyV p = true) : p.length ≤ 20 := by
  unfold polyV at h
  rw [Bool.and_eq_true, decide_eq_true_eq] at h
  omega
theorem poPower_eq3 {i : Nat} (hi : i < 3) (t : Tm) : spec_poPower t (i : Int) = some (exI i t) := by
  have : i = 0 ∨ i = 1 ∨ i = 2 := by omega
  rcases this with rfl | rfl | rfl <;> rfl

end Go.Ev.G

namespace Go.Ev.G
open Go Go.Ev
set_option maxRecDepth 100000

def ptV (M : Nat) (pt : List (Int × Int)) : Prop := ∀ x ∈ pt, 0 ≤ x.2 ∧ x.2 ≤ M ∧ x.1.natAbs ≤ 8 * 2 ^ x.2.toNat
def upX (M : Nat) (x : Int × Int) : Int := x.1 * 2 ^ (M - x.2.toNat)
def vaF (M : Nat) (t : Tm) : Nat → Int → List (Int × Int) → Int
  | _, c, [] => c
  | i, c, x :: r => vaF M t (i + 1) (c * upX M x ^ (exI i t).toNat) r
def remE (t : Tm) : Nat → List (Int × Int) → Nat
  | _, [] => 0
  | i, _ :: r => (exI i t).toNat + remE t (i + 1) r
def vaT (M : Nat) (pt : List (Int × Int)) (t : Tm) : Int := vaF M t 0 t.1 pt * ((2 ^ M : Nat) : Int) ^ (4 - degT t)
def kMax (pt : List (Int × Int)) : Int := pt.foldl (fun m x => max m x.2) 0

theorem upX_bd {M : Nat} {x : Int × Int} (hM : M ≤ 9) (h0 : 0 ≤ x.2) (hk : x.2 ≤ M) (hb : x.1.natAbs ≤ 8 * 2 ^ x.2.toNat) : (upX M x).natAbs ≤ 4096 := by
  unfold upX
  rw [Int.natAbs_mul, Int.natAbs_pow]
  have e1 : (2 : Int).natAbs = 2 := rfl
  rw [e1]
  refine Nat.le_trans (Nat.mul_le_mul_right _ hb) ?_
  rw [Nat.mul_assoc, ← Nat.pow_add]
  have : x.2.toNat + (M - x.2.toNat) ≤ 9 := by omega
  have h2 := Nat.pow_le_pow_right (n := 2) (by decide) this
  have : (2 : Nat) ^ 9 = 512 := by decide
  omega

theorem va_mul {x1 : List (Int × Int)} {x6 x9 : Int} {x11 : Tm} {u : Int} {x30 : List Tm} {x31 x32 : Int} {x38 : List (Int × Int)} {x39 x40 : Int} (hu : u.natAbs ≤ 4096) : ∀ (m : Nat) (c : Int), m ≤ 4 → c.natAbs * 4096 ^ m ≤ 281474976710656000 →
    Evt (fun k n => spec_vaSum_L131282126 k n x1 x6 x9 x11 c u (m : Int) x30 x31 x32 x38 x39 x40) (.inr (x1, x6, x9, x11, c * u ^ m, x30, x31, x32, x38, x39, x40, ())) := by
  intro m
  induction m with
  | zero =>
    intro c _ _
    refine Evt.step (fun k n => spec_vaSum_L131282126.eq_2 k _ _ _ _ _ _ _ _ _ _ _ _ _ n) ?_
    rw [Int.pow_zero, Int.mul_one]
    exact Evt.cfalse (by decide) .pure
  | succ m ih =>
    intro c hm hc
    have hcx := natAbs_mul_le (a := c) hu
    have hc2 : (c * u).natAbs * 4096 ^ m ≤ 281474976710656000 := by
      refine Nat.le_trans (Nat.mul_le_mul_right _ hcx) ?_
      rw [Nat.mul_assoc, Nat.mul_comm 4096, ← Nat.pow_succ]
      exact hc
    have hc3 : (c * u).natAbs ≤ 281474976710656000 := Nat.le_trans (Nat.le_mul_of_pos_right _ (Nat.pow_pos (by decide))) hc2
    have ih := ih (c * u) (by omega) hc2
    refine Evt.step (fun k n => spec_vaSum_L131282126.eq_2 k _ _ _ _ _ _ _ _ _ _ _ _ _ n) ?_
    have w1 : IntKind.wrap .i64 (((m + 1 : Nat) : Int) - 1) = (m : Int) := by rw [w64 (by omega) (by omega)]; omega
    rw [w1, w64 (n := c * u) (by omega) (by omega)]
    rw [Int.mul_assoc, ← Int.pow_succ'] at ih
    exact Evt.ctrue (decide_eq_true (by omega)) ih

theorem va_up {M : Nat} {x : Int × Int} (hM : M ≤ 9) (h0 : 0 ≤ x.2) (hk : x.2 ≤ M) (hb : x.1.natAbs ≤ 8 * 2 ^ x.2.toNat) : ∃ f, Evt (fun k _ => spec_dyAt k x (M : Int)) (upX M x, f) := by
  obtain ⟨n, j⟩ := x
  obtain ⟨j, rfl⟩ := Int.eq_ofNat_of_zero_le h0
  simp only at hk hb
  have hp := Nat.pow_le_pow_right (n := 2) (by decide) (show j ≤ 9 by omega)
  have h9 : (2 : Nat) ^ 9 = 512 := by decide
  have hj : ((j : Nat) : Int).toNat = j := by omega
  rw [hj] at hb
  have hub := upX_bd (x := (n, (j : Int))) hM h0 hk (by simpa using hb)
  have e : upX M (n, (j : Int)) = n * 2 ^ (M - j) := by unfold upX; simp
  rw [e] at hub ⊢
  have hd := dyAt_ev (n := n) (j := j) (K := M) (by omega) (by omega) (by omega) (by omega)
  cases h : (atV (M - j) n).2 with
  | false =>
    obtain ⟨_, hl⟩ := atV_large _ _ h
    omega
  | true =>
    have := atV_true _ _ h
    refine ⟨true, ?_⟩
    have e2 : atV (M - j) n = (n * 2 ^ (M - j), true) := Prod.ext this h
    rw [e2] at hd
    exact hd

theorem va_term {M : Nat} {pt : List (Int × Int)} {t : Tm} (hM : M ≤ 9) (hl : pt.length ≤ 3) (hp : ptV M pt) (ht : tmS pt.length t) (x9 : Int) (x30 : List Tm) (x31 x32 : Int) : ∀ (r d : List (Int × Int)) (c : Int), d ++ r = pt → c.natAbs * 4096 ^ remE t d.length r ≤ 281474976710656000 →
    Evt (fun k n => spec_vaSum_L256410 k n pt (M : Int) x9 t c x30 x31 x32 pt (pt.length : Int) d.length) (.inr (pt, (M : Int), x9, t, vaF M t d.length c r, x30, x31, x32, ())) := by
  intro r
  induction r with
  | nil =>
    intro d c h _
    refine Evt.step (fun k n => spec_vaSum_L256410.eq_2 k _ _ _ _ _ _ _ _ _ _ _ n) ?_
    rw [List.append_nil] at h
    subst h
    exact Evt.rng0 .pure
  | cons x r ih =>
    intro d c h hc
    have hxl := congrArg List.length h
    simp at hxl
    obtain ⟨t0, t1, t2, hd, _⟩ := ht
    have hx := hp x (by rw [← h]; simp)
    have he0 : 0 ≤ exI d.length t := by unfold exI; split <;> assumption
    have he4 : exI d.length t ≤ 4 := by
      unfold degT at hd
      unfold exI
      split <;> omega
    obtain ⟨f, hup⟩ := va_up hM hx.1 hx.2.1 hx.2.2
    have hub := upX_bd hM hx.1 hx.2.1 hx.2.2
    have hrem : remE t d.length (x :: r) = (exI d.length t).toNat + remE t (d.length + 1) r := rfl
    rw [hrem, Nat.pow_add, ← Nat.mul_assoc] at hc
    have hpos : 0 < 4096 ^ remE t (d.length + 1) r := Nat.pow_pos (by decide)
    have hc1 : c.natAbs * 4096 ^ (exI d.length t).toNat ≤ 281474976710656000 := Nat.le_trans (Nat.le_mul_of_pos_right _ hpos) hc
    have hm := va_mul (x1 := pt) (x6 := (M : Int)) (x9 := x9) (x11 := t) (u := upX M x) (x30 := x30) (x31 := x31) (x32 := x32) (x38 := pt) (x39 := (pt.length : Int)) (x40 := (d.length : Int)) hub (exI d.length t).toNat c (by omega) hc1
    have ee : (((exI d.length t).toNat : Nat) : Int) = exI d.length t := by omega
    rw [ee] at hm
    have hc2 : (c * upX M x ^ (exI d.length t).toNat).natAbs * 4096 ^ remE t (d ++ [x]).length r ≤ 281474976710656000 := by
      have e1 : (d ++ [x]).length = d.length + 1 := by simp
      rw [e1]
      refine Nat.le_trans (Nat.mul_le_mul_right _ (natAbs_mul_le (B := 4096 ^ (exI d.length t).toNat) ?_)) hc
      rw [Int.natAbs_pow]
      exact Nat.pow_le_pow_left hub _
    have ih := ih (d ++ [x]) _ (by simpa using h) hc2
    rw [← len_next (r := r) (by rw [h]; simp only [lenB]; omega)] at ih
    have g : pt.getD (Int.toNat (d.length : Int)) (0, 0) = x := by rw [← h]; exact mid_get
    refine Evt.step (fun k n => spec_vaSum_L256410.eq_2 k _ _ _ _ _ _ _ _ _ _ _ n) ?_
    rw [g]
    have e1 : (d ++ [x]).length = d.length + 1 := by simp
    have e2 : vaF M t d.length c (x :: r) = vaF M t (d ++ [x]).length (c * upX M x ^ (exI d.length t).toNat) r := by rw [e1]; rfl
    rw [e2]
    exact Evt.ctrue (by rw [← h]; exact mid_lt) (Evt.ctrue mid_ge (Evt.ctrue (by rw [← h]; exact mid_lt) (Evt.bind hup (Evt.bind (.const (poPower_eq3 (by omega) t)) (Evt.inr (Evt.diag hm) ih)))))

theorem va_fill {x1 : List (Int × Int)} {M : Nat} {x9 : Int} {x30 : List Tm} {x31 x32 : Int} (hM : M ≤ 9) : ∀ (m : Nat) (c : Int), m ≤ 4 → c.natAbs * 512 ^ m ≤ 281474976710656000 →
    Evt (fun k n => spec_vaSum_L512826 k n x1 (M : Int) x9 c ((4 - m : Nat) : Int) x30 x31 x32) (.inr (x1, (M : Int), x9, c * ((2 ^ M : Nat) : Int) ^ m, x30, x31, x32, ())) := by
  have hu : (((2 ^ M : Nat) : Int)).natAbs ≤ 512 := by
    have hp := Nat.pow_le_pow_right (n := 2) (by decide) hM
    have h9 : (2 : Nat) ^ 9 = 512 := by decide
    rw [Int.natAbs_natCast]
    omega
  intro m
  induction m with
  | zero =>
    intro c _ _
    refine Evt.step (fun k n => spec_vaSum_L512826.eq_2 k _ _ _ _ _ _ _ _ n) ?_
    rw [Int.pow_zero, Int.mul_one]
    exact Evt.cfalse (decide_eq_false (by omega)) .pure
  | succ m ih =>
    intro c hm hc
    have hcx := natAbs_mul_le (a := c) hu
    have hc2 : (c * ((2 ^ M : Nat) : Int)).natAbs * 512 ^ m ≤ 281474976710656000 := by
      refine Nat.le_trans (Nat.mul_le_mul_right _ hcx) ?_
      rw [Nat.mul_assoc, Nat.mul_comm 512, ← Nat.pow_succ]
      exact hc
    have hc3 : (c * ((2 ^ M : Nat) : Int)).natAbs ≤ 281474976710656000 := Nat.le_trans (Nat.le_mul_of_pos_right _ (Nat.pow_pos (by decide))) hc2
    have ih := ih (c * ((2 ^ M : Nat) : Int)) (by omega) hc2
    refine Evt.step (fun k n => spec_vaSum_L512826.eq_2 k _ _ _ _ _ _ _ _ n) (Evt.ctrue (decide_eq_true (by omega)) (Evt.bind (.const (dyPower_eq (by omega))) ?_))
    have w1 : IntKind.wrap .i64 (((4 - (m + 1) : Nat) : Int) + 1) = ((4 - m : Nat) : Int) := by rw [w64 (by omega) (by omega)]; omega
    rw [w1, w64 (n := c * ((2 ^ M : Nat) : Int)) (by omega) (by omega)]
    rw [Int.mul_assoc, ← Int.pow_succ'] at ih
    exact ih

theorem vaF_bd {M : Nat} {t : Tm} (hM : M ≤ 9) : ∀ (r : List (Int × Int)) (i : Nat) (c : Int), ptV M r → (vaF M t i c r).natAbs ≤ c.natAbs * 4096 ^ remE t i r
  | [], i, c, _ => by simp [vaF, remE]
  | x :: r, i, c, hp => by
    have hx := hp x (by simp)
    have hub := upX_bd hM hx.1 hx.2.1 hx.2.2
    have h1 := vaF_bd (t := t) hM r (i + 1) (c * upX M x ^ (exI i t).toNat) (fun y hy => hp y (by simp [hy]))
    refine Nat.le_trans h1 ?_
    have hrem : remE t i (x :: r) = (exI i t).toNat + remE t (i + 1) r := rfl
    rw [hrem, Nat.pow_add, ← Nat.mul_assoc]
    refine Nat.mul_le_mul_right _ (natAbs_mul_le (B := 4096 ^ (exI i t).toNat) ?_)
    rw [Int.natAbs_pow]
    exact Nat.pow_le_pow_left hub _
theorem remE_deg {t : Tm} {pt : List (Int × Int)} (hl : pt.length ≤ 3) : remE t 0 pt ≤ degT t := by
  unfold degT
  match pt, hl with
  | [], _ => simp [remE]
  | [_], _ => simp [remE, exI] <;> omega
  | [_, _], _ => simp [remE, exI] <;> omega
  | [_, _, _], _ => simp [remE, exI] <;> omega

theorem vaSum_ev {M : Nat} {p : List Tm} {pt : List (Int × Int)} (hM : M ≤ 9) (hl : p.length ≤ 20) (hn : pt.length ≤ 3) (ht : ∀ t ∈ p, tmS pt.length t) (hp : ptV M pt) (hk : kMax pt = M) : Evt (fun k _ => spec_vaSum k p pt) ((p.map (vaT M pt)).sum, 4 * (M : Int)) := by
  refine Evt.eq (f := fun k q => _) ?_ (fun k q => by rw [spec_vaSum])
  have k1 : ∀ (r d : List (Int × Int)) (a : Int), d ++ r = pt → Evt (fun k n => spec_vaSum_L58 k n p pt a pt (pt.length : Int) d.length) (.inr (p, pt, r.foldl (fun m x => max m x.2) a, ())) := by
    intro r
    induction r with
    | nil =>
      intro d a h
      refine Evt.step (fun k n => spec_vaSum_L58.eq_2 k _ _ _ _ _ _ n) ?_
      rw [List.append_nil] at h
      subst h
      exact Evt.rng0 .pure
    | cons x r ih =>
      intro d a h
      have ih := ih (d ++ [x]) (max a x.2) (by simpa using h)
      rw [← len_next (r := r) (by rw [h]; simp only [lenB]; omega)] at ih
      have g : pt.getD (Int.toNat (d.length : Int)) (0, 0) = x := by rw [← h]; exact mid_get
      refine Evt.step (fun k n => spec_vaSum_L58.eq_2 k _ _ _ _ _ _ n) ?_
      rw [g]
      exact Evt.ctrue (by rw [← h]; exact mid_lt) (Evt.ctrue mid_ge (Evt.ctrue (by rw [← h]; exact mid_lt) (Evt.bind (.const (most_eq _ _)) ih)))
  have hkm := k1 pt [] 0 rfl
  have hkk : pt.foldl (fun m x => max m x.2) 0 = (M : Int) := hk
  rw [hkk] at hkm
  have tb : ∀ t, tmS pt.length t → t.1.natAbs * 4096 ^ remE t 0 pt * 512 ^ (4 - degT t) ≤ 281474976710656000 := by
    intro t htm
    obtain ⟨t0, t1, t2, hd, hb, _⟩ := htm
    have h1 : 4096 ^ remE t 0 pt ≤ 4096 ^ degT t := Nat.pow_le_pow_right (by decide) (remE_deg hn)
    refine Nat.le_trans (Nat.mul_le_mul_right _ (Nat.mul_le_mul_left _ h1)) ?_
    have e2 : (4096 : Nat) = 2 ^ 12 := by decide
    have e3 : (512 : Nat) = 2 ^ 9 := by decide
    rw [e2, e3, ← Nat.pow_mul, ← Nat.pow_mul, Nat.mul_assoc, ← Nat.pow_add]
    have e4 : 12 * degT t + 9 * (4 - degT t) = 3 * degT t + 36 := by omega
    rw [e4, Nat.pow_add, ← Nat.mul_assoc]
    have : (2 : Nat) ^ 36 = 68719476736 := by decide
    rw [this]
    omega
  have vb : ∀ t, tmS pt.length t → (vaF M t 0 t.1 pt).natAbs * 512 ^ (4 - degT t) ≤ 281474976710656000 := fun t htm => Nat.le_trans (Nat.mul_le_mul_right _ (vaF_bd hM pt 0 t.1 hp)) (tb t htm)
  have vt : ∀ t, tmS pt.length t → (vaT M pt t).natAbs ≤ 281474976710656000 := by
    intro t htm
    unfold vaT
    refine Nat.le_trans (natAbs_mul_le (B := 512 ^ (4 - degT t)) ?_) (vb t htm)
    rw [Int.natAbs_pow]
    refine Nat.pow_le_pow_left ?_ _
    have hpp := Nat.pow_le_pow_right (n := 2) (by decide) hM
    have h9 : (2 : Nat) ^ 9 = 512 := by decide
    rw [Int.natAbs_natCast]
    omega
  have sb : ∀ (d : List Tm), (∀ t ∈ d, tmS pt.length t) → ((d.map (vaT M pt)).sum).natAbs ≤ d.length * 281474976710656000 := by
    intro d
    induction d with
    | nil => intro _; simp
    | cons e d ih =>
      intro h
      have h1 := ih (fun t ht => h t (by simp [ht]))
      have h2 := vt e (h e (by simp))
      simp only [List.map_cons, List.sum_cons, List.length_cons]
      rw [Nat.add_mul]
      have := Int.natAbs_add_le (vaT M pt e) ((d.map (vaT M pt)).sum)
      omega
  have key : ∀ (r d : List Tm), d ++ r = p → Evt (fun k n => spec_vaSum_L250 k n pt (M : Int) ((d.map (vaT M pt)).sum) p (p.length : Int) d.length) (.inr ((M : Int), (p.map (vaT M pt)).sum, ())) := by
    intro r
    induction r with
    | nil =>
      intro d h
      refine Evt.step (fun k n => spec_vaSum_L250.eq_2 k _ _ _ _ _ _ n) ?_
      rw [List.append_nil] at h
      subst h
      exact Evt.rng0 .pure
    | cons t r ih =>
      intro d h
      have hxl := congrArg List.length h
      simp at hxl
      have htm := ht t (by rw [← h]; simp)
      have hb := sb (d ++ [t]) (fun u hu => ht u (by rw [← h]; simp at hu ⊢; rcases hu with hu | hu <;> simp [hu]))
      have ih := ih (d ++ [t]) (by simpa using h)
      rw [← len_next (r := r) (by rw [h]; simp only [lenB]; omega)] at ih
      have g : p.getD (Int.toNat (d.length : Int)) (0, 0, 0, 0) = t := by rw [← h]; exact mid_get
      have h1 := va_term hM hn hp htm ((d.map (vaT M pt)).sum) p (p.length : Int) (d.length : Int) pt [] t.1 rfl (Nat.le_trans (Nat.le_mul_of_pos_right _ (Nat.pow_pos (by decide))) (tb t htm))
      have h2 := va_fill (x1 := pt) (x9 := (d.map (vaT M pt)).sum) (x30 := p) (x31 := (p.length : Int)) (x32 := (d.length : Int)) hM (4 - degT t) (vaF M t 0 t.1 pt) (by omega) (vb t htm)
      obtain ⟨t0, t1, t2, hd, hbb, _⟩ := htm
      have hdg : IntKind.wrap .i64 ((IntKind.wrap .i64 (t.2.1 + t.2.2.1)) + t.2.2.2) = ((4 - (4 - degT t) : Nat) : Int) := by
        unfold degT at *
        rw [w64 (n := t.2.1 + t.2.2.1) (by omega) (by omega), w64 (by omega) (by omega)]
        omega
      rw [← hdg] at h2
      refine Evt.step (fun k n => spec_vaSum_L250.eq_2 k _ _ _ _ _ _ n) ?_
      rw [g]
      refine Evt.ctrue (by rw [← h]; exact mid_lt) (Evt.ctrue mid_ge (Evt.ctrue (by rw [← h]; exact mid_lt) (Evt.inr (Evt.diag h1) (Evt.inr (Evt.diag h2) ?_))))
      dsimp only
      have es : ((d ++ [t]).map (vaT M pt)).sum = (d.map (vaT M pt)).sum + vaF M t 0 t.1 pt * ((2 ^ M : Nat) : Int) ^ (4 - degT t) := by simp [vaT]
      rw [es] at ih hb
      simp only [List.length_append, List.length_cons, List.length_nil] at hb
      rw [w64 (n := (d.map (vaT M pt)).sum + vaF M t 0 t.1 pt * ((2 ^ M : Nat) : Int) ^ (4 - degT t)) (by omega) (by omega)]
      exact ih
  refine Evt.inr (Evt.diag hkm) (Evt.inr (Evt.diag (key p [] rfl)) ?_)
  dsimp only
  rw [w64 (n := 4 * (M : Int)) (by omega) (by omega)]
  exact .pure

theorem sc_va {M : Nat} {pt : List (Int × Int)} {t : Tm} (hM : M ≤ 9) (hn : 1 ≤ pt.length ∧ pt.length ≤ 3) (ht : tmS pt.length t) (hp : ptV M pt) : scT pt t = vaT M pt t * (2 ^ (9 - M)) ^ 4 := by
  obtain ⟨t0, t1, t2, hd, _, i0, i1, i2⟩ := ht
  have hX : ∀ x ∈ pt, x.1 * 2 ^ (9 - x.2).toNat = upX M x * 2 ^ (9 - M) := by
    intro x hx
    obtain ⟨h0, hk, _⟩ := hp x hx
    unfold upX
    rw [Int.mul_assoc, ← Int.pow_add]
    congr 2
    omega
  have hP : (2 : Int) ^ (9 * (4 - degT t)) = ((2 ^ M : Nat) : Int) ^ (4 - degT t) * (2 ^ (9 - M)) ^ (4 - degT t) := by
    have e : ((2 ^ M : Nat) : Int) = (2 : Int) ^ M := by simp
    rw [e, ← Int.mul_pow, ← Int.pow_add, ← Int.pow_mul]
    congr 1
    have : M + (9 - M) = 9 := by omega
    rw [this]
  have hW : ∀ (a b c : Nat), a + b + c = degT t → ((2 : Int) ^ (9 - M)) ^ 4 = (2 ^ (9 - M)) ^ (4 - degT t) * (2 ^ (9 - M)) ^ a * (2 ^ (9 - M)) ^ b * (2 ^ (9 - M)) ^ c := by
    intro a b c h
    rw [← Int.pow_add, ← Int.pow_add, ← Int.pow_add]
    congr 1
    omega
  have hdg : t.2.1.toNat + t.2.2.1.toNat + t.2.2.2.toNat = degT t := rfl
  unfold scT vaT
  rw [hP, hW _ _ _ hdg]
  match pt, hn, hX, i0, i1, i2 with
  | [x], _, hX, _, i1, i2 =>
    have e1 : t.2.2.1.toNat = 0 := by simp at i1; omega
    have e2 : t.2.2.2.toNat = 0 := by simp at i2; omega
    have x0 : scX [x] 0 = upX M x * 2 ^ (9 - M) := hX x (by simp)
    rw [e1, e2, x0]
    simp only [vaF, exI, Int.pow_zero, Int.mul_one, Int.mul_pow]
    ac_rfl
  | [x, y], _, hX, _, _, i2 =>
    have e2 : t.2.2.2.toNat = 0 := by simp at i2; omega
    have x0 : scX [x, y] 0 = upX M x * 2 ^ (9 - M) := hX x (by simp)
    have x1 : scX [x, y] 1 = upX M y * 2 ^ (9 - M) := hX y (by simp)
    rw [e2, x0, x1]
    simp only [vaF, exI, Int.pow_zero, Int.mul_one, Int.mul_pow]
    ac_rfl
  | [x, y, z], _, hX, _, _, _ =>
    have x0 : scX [x, y, z] 0 = upX M x * 2 ^ (9 - M) := hX x (by simp)
    have x1 : scX [x, y, z] 1 = upX M y * 2 ^ (9 - M) := hX y (by simp)
    have x2 : scX [x, y, z] 2 = upX M z * 2 ^ (9 - M) := hX z (by simp)
    rw [x0, x1, x2]
    simp only [vaF, exI, Int.mul_pow]
    ac_rfl
theorem scV_va {M : Nat} {p : List Tm} {pt : List (Int × Int)} (hM : M ≤ 9) (hn : 1 ≤ pt.length ∧ pt.length ≤ 3) (ht : ∀ t ∈ p, tmS pt.length t) (hp : ptV M pt) : scV p pt = (p.map (vaT M pt)).sum * (2 ^ (9 - M)) ^ 4 := by
  unfold scV
  induction p with
  | nil => simp
  | cons t p ih =>
    rw [List.map_cons, List.sum_cons, List.map_cons, List.sum_cons, Int.add_mul, ih (fun u hu => ht u (by simp [hu])), sc_va hM hn (ht t (by simp)) hp]
theorem ptV_S {M : Nat} {pt : List (Int × Int)} (hM : M ≤ 9) (hp : ptV M pt) : ptS pt := by
  intro x hx
  obtain ⟨h0, hk, hb⟩ := hp x hx
  refine ⟨h0, by omega, ?_⟩
  have := upX_bd (M := 9) (Nat.le_refl _) h0 (by omega) hb
  unfold upX at this
  have e : (9 - x.2).toNat = 9 - x.2.toNat := by omega
  rw [e]
  exact this
end Go.Ev.G

namespace Go.Ev.G
open Go Go.Ev
set_option maxRecDepth 100000

def prodD (a b : Int × Int) : (Int × Int) × Bool := mkD (a.1 * b.1) (a.2.toNat + b.2.toNat)
end Go.Ev.G

namespace Go.Ev.G
open Go Go.Ev
set_option maxRecDepth 100000

section
variable {α β : Type}
def Flag (g : α → Option β) (z : β) (b0 : Bool) (d : List α) (b : Bool) (o : List β) : Prop :=
  o.length = d.length ∧ b = (b0 && d.all fun x => (g x).isSome) ∧ (b = true → o = d.map fun x => (g x).getD z)
theorem Flag.nil {g : α → Option β} {z : β} {b0 : Bool} : Flag g z b0 [] b0 [] := ⟨rfl, by simp, fun _ => rfl⟩
theorem Flag.step {g : α → Option β} {z : β} {b0 b : Bool} {d : List α} {o : List β} {e : α} {v : β} (h : Flag g z b0 d b o) (hv : b = true → (g e).isSome = true → g e = some v) : Flag g z b0 (d ++ [e]) (b && (g e).isSome) (o ++ [v]) := by
  obtain ⟨h1, h2, h3⟩ := h
  refine ⟨by simp [h1], ?_, ?_⟩
  · rw [h2, List.all_append]
    simp only [List.all_cons, List.all_nil, Bool.and_true, Bool.and_assoc]
  · intro hh
    rw [Bool.and_eq_true] at hh
    rw [List.map_append, h3 hh.1]
    simp only [List.map_cons, List.map_nil, hv hh.1 hh.2, Option.getD_some]
end

abbrev Pt := List (Int × Int)
end Go.Ev.G

namespace Go.Ev
open Go

section
variable {α β : Type}
def Ev3 {α : Type} (f : Nat → Nat → Nat → Option α) (r : α) : Prop := ∃ k0, ∀ k m n, k0 ≤ k → k0 ≤ m → k0 ≤ n → f k m n = some r

theorem Ev3.of {f : Nat → Option α} {r : α} (h : Evt (fun k _ => f k) r) : Ev3 (fun k _ _ => f k) r := by
  obtain ⟨k0, h⟩ := h
  exact ⟨k0, fun k m n hk _ _ => h k k hk hk⟩
theorem Ev3.diag {f : Nat → Nat → Nat → Option α} {r : α} (h : Ev3 f r) : Evt (fun k m => f k m k) r := by
  obtain ⟨k0, h⟩ := h
  exact ⟨k0, fun k m hk hm => h k m k hk hm hk⟩
theorem Ev3.const {o : Option α} {r : α} (h : o = some r) : Ev3 (fun _ _ _ => o) r := ⟨0, fun _ _ _ _ _ _ => h⟩
theorem Ev3.pure {r : α} : Ev3 (fun _ _ _ => some r) r := ⟨0, fun _ _ _ _ _ _ => rfl⟩
theorem Ev3.bind {f : Nat → Nat → Nat → Option α} {g : Nat → Nat → Nat → α → Option β} {a : α} {r : β} (h : Ev3 f a) (h' : Ev3 (fun k m n => g k m n a) r) : Ev3 (fun k m n => Option.bind (f k m n) fun x => g k m n x) r := by
  obtain ⟨k0, h⟩ := h
  obtain ⟨k1, h'⟩ := h'
  refine ⟨max k0 k1, fun k m n hk hm hn => ?_⟩
  exact (congrArg (fun o => Option.bind o fun x => g k m n x) (h k m n (by omega) (by omega) (by omega))).trans (h' k m n (by omega) (by omega) (by omega))
theorem Ev3.inr {R P A : Type} {f : Nat → Nat → Nat → Option (R ⊕ P)} {G : Nat → Nat → Nat → R → Option A} {K : Nat → Nat → Nat → P → Option A} {y : P} {r : A} (h : Ev3 f (.inr y)) (h' : Ev3 (fun k m n => K k m n y) r) : Ev3 (fun k m n => both (f k m n) (G k m n) (K k m n)) r := by
  obtain ⟨k0, h⟩ := h
  obtain ⟨k1, h'⟩ := h'
  refine ⟨max k0 k1, fun k m n hk hm hn => ?_⟩
  exact (congrArg (fun o => both o (G k m n) (K k m n)) (h k m n (by omega) (by omega) (by omega))).trans (h' k m n (by omega) (by omega) (by omega))
theorem Ev3.inl {R P A : Type} {f : Nat → Nat → Nat → Option (R ⊕ P)} {G : Nat → Nat → Nat → R → Option A} {K : Nat → Nat → Nat → P → Option A} {q : R} {r : A} (h : Ev3 f (.inl q)) (h' : Ev3 (fun k m n => G k m n q) r) : Ev3 (fun k m n => both (f k m n) (G k m n) (K k m n)) r := by
  obtain ⟨k0, h⟩ := h
  obtain ⟨k1, h'⟩ := h'
  refine ⟨max k0 k1, fun k m n hk hm hn => ?_⟩
  exact (congrArg (fun o => both o (G k m n) (K k m n)) (h k m n (by omega) (by omega) (by omega))).trans (h' k m n (by omega) (by omega) (by omega))
theorem Ev3.ctrue {c : Bool} {f g : Nat → Nat → Nat → Option α} {r : α} (hc : c = true) (h : Ev3 f r) : Ev3 (fun k m n => bif c then f k m n else g k m n) r := by subst hc; exact h
theorem Ev3.cfalse {c : Bool} {f g : Nat → Nat → Nat → Option α} {r : α} (hc : c = false) (h : Ev3 g r) : Ev3 (fun k m n => bif c then f k m n else g k m n) r := by subst hc; exact h
theorem Ev3.step {L F : Nat → Nat → Nat → Option α} {r : α} (hL : ∀ k m n, L k m (n + 1) = F k m n) (h : Ev3 F r) : Ev3 L r := by
  obtain ⟨k0, h⟩ := h
  refine ⟨k0 + 1, fun k m n hk hm hn => ?_⟩
  obtain ⟨n, rfl⟩ : ∃ n', n = n' + 1 := ⟨n - 1, by omega⟩
  rw [hL]
  exact h k m n (by omega) (by omega) (by omega)
end
end Go.Ev

namespace Go.Ev.G
open Go Go.Ev
set_option maxRecDepth 100000

def partV {α : Type} (m : List (List α)) (i j : Nat) : List (List α) := (m.eraseIdx i).map (·.eraseIdx j)
end Go.Ev.G

namespace Go.Ev.G
open Go Go.Ev
set_option maxRecDepth 100000

def ngD (c : Nat) (x : Int × Int) : Int × Int := if c % 2 = 1 then (-x.1, x.2) else x
def tmO (c : Nat) (a : Int × Int) (d : Option (Int × Int)) : Option (Int × Int) := match d with
  | none => none
  | some d => if (prodD a d).2 then some (ngD c (prodD a d).1) else none
def detO : Nat → List Pt → Option (Int × Int)
  | 0, m => some ((m.getD 0 []).getD 0 (0, 0))
  | n + 1, m =>
    let ts := (List.range (n + 2)).map fun c => tmO c ((m.getD 0 []).getD c (0, 0)) (detO n (partV m 0 c))
    if ts.all (·.isSome) then osum (0, 0) (ts.map fun o => o.getD (0, 0)) else none
def terms (n : Nat) (m : List Pt) : List (Option (Int × Int)) := (List.range (n + 2)).map fun c => tmO c ((m.getD 0 []).getD c (0, 0)) (detO n (partV m 0 c))
end Go.Ev.G

namespace Go.Ev.G
open Go Go.Ev
set_option maxRecDepth 100000

abbrev Iv := (Int × Int) × Int × Int
def minD (a b : Int × Int) : Int × Int := if sv b < sv a then b else a
def maxD (a b : Int × Int) : Int × Int := if sv a < sv b then b else a
theorem minD_gd {a b : Int × Int} (ha : gd a) (hb : gd b) : gd (minD a b) := by unfold minD; split; exact hb; exact ha
theorem maxD_gd {a b : Int × Int} (ha : gd a) (hb : gd b) : gd (maxD a b) := by unfold maxD; split; exact hb; exact ha
theorem minD_sv (a b : Int × Int) : sv (minD a b) = min (sv a) (sv b) := by unfold minD; split <;> omega
theorem maxD_sv (a b : Int × Int) : sv (maxD a b) = max (sv a) (sv b) := by unfold maxD; split <;> omega
end Go.Ev.G

namespace Go.Ev.G
open Go Go.Ev
set_option maxRecDepth 100000

def pw (t : Tm) (j : Nat) : Int := if j = 0 then t.2.1 else if j = 1 then t.2.2.1 else t.2.2.2
def big (xs : List Tm) (j : Nat) : Bool := xs.any fun t => decide (pw t j > 0)
def needs (n : Nat) (xs : List Tm) : Bool := (decide (n ≤ 0) && big xs 0) || ((decide (n ≤ 1) && big xs 1) || (decide (n ≤ 2) && big xs 2))

theorem poPower_eq (t : Tm) (j : Nat) : spec_poPower t j = some (pw t j) := by
  unfold spec_poPower pw
  by_cases h : j = 0
  · subst h; rfl
  · rw [if_neg h, show ((j : Int) == 0) = false by simp; omega, cond_false]
    by_cases h1 : j = 1
    · subst h1; rfl
    · rw [if_neg h1, show ((j : Int) == 1) = false by simp; omega, cond_false]

def degV (j : Nat) : Int → List Tm → Int
  | m, [] => m
  | m, t :: r => degV j (max m (pw t j)) r
theorem degV_pos (j : Nat) : ∀ (xs : List Tm) (m : Int), decide (degV j m xs > 0) = (decide (m > 0) || big xs j)
  | [], m => by simp [degV, big]
  | t :: r, m => by
    rw [degV, degV_pos j r]
    unfold big
    rw [List.any_cons, ← Bool.or_assoc]
    congr 1
    rw [Bool.eq_iff_iff]
    simp only [Bool.or_eq_true, decide_eq_true_eq]
    omega

theorem degreeIn_ev {xs : List Tm} {j : Nat} (hb : xs.length < lenB) : Evt (fun k _ => spec_poDegreeIn k xs j) (degV j (-1) xs) := by
  refine Evt.eq (f := fun k q => _) ?_ (fun k q => by rw [spec_poDegreeIn])
  have key : ∀ (r d : List Tm) (m : Int), d ++ r = xs → Evt (fun k n => spec_poDegreeIn_L58 k n j m xs (xs.length : Int) d.length) (.inr (degV j m r, ())) := by
    intro r
    induction r with
    | nil =>
      intro d m h
      refine Evt.step (fun k n => spec_poDegreeIn_L58.eq_2 k _ _ _ _ _ n) ?_
      rw [List.append_nil] at h
      subst h
      exact Evt.rng0 .pure
    | cons e r ih =>
      intro d m h
      refine Evt.step (fun k n => spec_poDegreeIn_L58.eq_2 k _ _ _ _ _ n) ?_
      have ih := ih (d ++ [e]) (max m (pw e j)) (by simpa using h)
      rw [← len_next (r := r) (by rw [h]; exact hb)] at ih
      subst h
      refine Evt.ctrue mid_lt (Evt.ctrue mid_ge (Evt.ctrue mid_lt ?_))
      rw [mid_get]
      exact Evt.bind (.const (poPower_eq _ _)) (Evt.bind (.const (most_eq _ _)) ih)
  have h0 := key xs [] (-1) rfl
  simp only [List.length_nil] at h0
  exact Evt.inr (Evt.diag h0) .pure

theorem system_inner {n : Nat} {xs : List Tm} (hb : xs.length < lenB) (x0 x6 : List (List Tm)) (x7 x8 : Int) :
    Evt (fun k m => spec_poSystem_L13518 k m x0 xs (n : Int) x6 x7 x8) (if needs n xs then .inl false else .inr (x0, x6, x7, x8, ())) := by
  have l3 : ∀ j : Nat, 3 ≤ j → Evt (fun k m => spec_poSystem_L13518 k m x0 xs (j : Int) x6 x7 x8) (.inr (x0, x6, x7, x8, ())) := by
    intro j hj
    exact Evt.step (fun k m => spec_poSystem_L13518.eq_2 k _ _ _ _ _ _ m) (Evt.cfalse (decide_eq_false (by omega)) .pure)
  have st : ∀ (j : Nat) (b : Bool), j < 3 → Evt (fun k m => spec_poSystem_L13518 k m x0 xs ((j + 1 : Nat) : Int) x6 x7 x8) (if b then .inl false else .inr (x0, x6, x7, x8, ())) → Evt (fun k m => spec_poSystem_L13518 k m x0 xs (j : Int) x6 x7 x8) (if (big xs j || b) then .inl false else .inr (x0, x6, x7, x8, ())) := by
    intro j b hj h
    refine Evt.step (fun k m => spec_poSystem_L13518.eq_2 k _ _ _ _ _ _ m) (Evt.ctrue (decide_eq_true (by omega)) (Evt.bind (degreeIn_ev hb) ?_))
    rw [degV_pos]
    rw [w64_next (by simp only [lenB]; omega)]
    cases big xs j with
    | true => exact Evt.ctrue rfl .pure
    | false => exact Evt.cfalse rfl (by simpa using h)
  have l2 := st 2 false (by omega) (by simpa using l3 3 (by omega))
  have l1 := st 1 _ (by omega) l2
  have l0 := st 0 _ (by omega) l1
  match n with
  | 0 => simpa [needs] using l0
  | 1 => simpa [needs] using l1
  | 2 => simpa [needs] using l2
  | m + 3 =>
    have := l3 (m + 3) (by omega)
    have e : needs (m + 3) xs = false := by simp [needs]
    rw [e]
    exact this

def sysV (m : List (List Tm)) : Bool := (m.all fun xs => polyV xs && !needs m.length xs) && decide (1 ≤ (m.length : Int) ∧ (m.length : Int) ≤ 3)

theorem poSystem_ev {m : List (List Tm)} (hb : m.length < lenB) (hm : ∀ r ∈ m, r.length < lenB) : Evt (fun k _ => spec_poSystem k m) (sysV m) := by
  refine Evt.eq (f := fun k q => _) ?_ (fun k q => by rw [spec_poSystem])
  have key : ∀ (r d : List (List Tm)), d ++ r = m → Evt (fun k n => spec_poSystem_L26 k n m m (m.length : Int) d.length) (if (r.all fun xs => polyV xs && !needs m.length xs) then .inr (m, ()) else .inl false) := by
    intro r
    induction r with
    | nil =>
      intro d h
      refine Evt.step (fun k n => spec_poSystem_L26.eq_2 k _ _ _ _ n) ?_
      rw [List.append_nil] at h
      subst h
      exact Evt.rng0 .pure
    | cons e r ih =>
      intro d h
      refine Evt.step (fun k n => spec_poSystem_L26.eq_2 k _ _ _ _ n) ?_
      have he := hm e (by rw [← h]; simp)
      have ih := ih (d ++ [e]) (by simpa using h)
      rw [← len_next (r := r) (by rw [h]; exact hb)] at ih
      have hi := system_inner (n := m.length) he m m (m.length : Int) (d.length : Int)
      subst h
      refine Evt.ctrue mid_lt (Evt.ctrue mid_ge (Evt.ctrue mid_lt ?_))
      rw [mid_get]
      refine Evt.bind (poGood_ev he) ?_
      cases hp : polyV e with
      | false => simp only [List.all_cons, hp, Bool.false_and]; exact Evt.ctrue rfl .pure
      | true =>
        refine Evt.cfalse rfl ?_
        cases hn : needs (d ++ e :: r).length e with
        | true => rw [hn] at hi; simp only [List.all_cons, hp, hn, Bool.not_true, Bool.and_false, Bool.false_and]; exact Evt.inl (Evt.diag hi) .pure
        | false => rw [hn] at hi; simp only [List.all_cons, hp, hn, Bool.not_false, Bool.true_and]; exact Evt.inr (Evt.diag hi) ih
  have h0 := key m [] rfl
  simp only [List.length_nil] at h0
  unfold sysV
  cases hall : (m.all fun xs => polyV xs && !needs m.length xs) with
  | true => rw [hall] at h0; exact Evt.inr (Evt.diag h0) (Evt.bind (.const (l1In_eq _ _ _)) .pure)
  | false => rw [hall] at h0; exact Evt.inl (Evt.diag h0) .pure

def needsT (n : Nat) (t : Tm) : Bool := (decide (n ≤ 0) && decide (t.2.1 > 0)) || ((decide (n ≤ 1) && decide (t.2.2.1 > 0)) || (decide (n ≤ 2) && decide (t.2.2.2 > 0)))
theorem needs_any (n : Nat) (xs : List Tm) : needs n xs = xs.any (needsT n) := by
  rw [Bool.eq_iff_iff]
  simp only [needs, big, Bool.or_eq_true, Bool.and_eq_true, decide_eq_true_eq, List.any_eq_true, needsT, pw]
  constructor
  · rintro (⟨h, t, ht, hp⟩ | ⟨h, t, ht, hp⟩ | ⟨h, t, ht, hp⟩)
    · exact ⟨t, ht, .inl ⟨h, by simpa using hp⟩⟩
    · exact ⟨t, ht, .inr (.inl ⟨h, by simpa using hp⟩)⟩
    · exact ⟨t, ht, .inr (.inr ⟨h, by simpa using hp⟩)⟩
  · rintro ⟨t, ht, ⟨h, hp⟩ | ⟨h, hp⟩ | ⟨h, hp⟩⟩
    · exact .inl ⟨h, t, ht, by simpa using hp⟩
    · exact .inr (.inl ⟨h, t, ht, by simpa using hp⟩)
    · exact .inr (.inr ⟨h, t, ht, by simpa using hp⟩)

theorem needs_inner (n : Nat) (t : Tm) (x9 : List Tm) (x10 x11 : Int) :
    Evt (fun k m => impl_needsAtMost_L6758 k m (n : Int) x9 x10 x11 t.2 0) (if needsT n t then .inl false else .inr ((n : Int), x9, x10, x11, ())) := by
  have w1 : IntKind.wrap .i64 (0 + 1) = 1 := by decide
  have w2 : IntKind.wrap .i64 (1 + 1) = 2 := by decide
  have w3 : IntKind.wrap .i64 (2 + 1) = 3 := by decide
  have l3 : Evt (fun k m => impl_needsAtMost_L6758 k m (n : Int) x9 x10 x11 t.2 3) (.inr ((n : Int), x9, x10, x11, ())) :=
    Evt.step (fun k m => impl_needsAtMost_L6758.eq_2 k _ _ _ _ _ _ m) (Evt.cfalse rfl .pure)
  have l2 : Evt (fun k m => impl_needsAtMost_L6758 k m (n : Int) x9 x10 x11 t.2 2) (if (decide (n ≤ 2) && decide (t.2.2.2 > 0)) then .inl false else .inr ((n : Int), x9, x10, x11, ())) := by
    refine Evt.step (fun k m => impl_needsAtMost_L6758.eq_2 k _ _ _ _ _ _ m) (Evt.ctrue rfl (Evt.cfalse rfl (Evt.cfalse rfl (Evt.ctrue rfl ?_))))
    rw [w3]
    by_cases h : n ≤ 2
    · refine Evt.ctrue (decide_eq_true (by omega)) ?_
      simp only [decide_eq_true h, Bool.true_and]
      cases decide (t.2.2.2 > 0) with
      | true => exact Evt.ctrue rfl .pure
      | false => exact Evt.cfalse rfl l3
    · simp only [decide_eq_false h, Bool.false_and]
      exact Evt.cfalse (decide_eq_false (by omega)) l3
  have l1 : Evt (fun k m => impl_needsAtMost_L6758 k m (n : Int) x9 x10 x11 t.2 1) (if ((decide (n ≤ 1) && decide (t.2.2.1 > 0)) || (decide (n ≤ 2) && decide (t.2.2.2 > 0))) then .inl false else .inr ((n : Int), x9, x10, x11, ())) := by
    refine Evt.step (fun k m => impl_needsAtMost_L6758.eq_2 k _ _ _ _ _ _ m) (Evt.ctrue rfl (Evt.cfalse rfl (Evt.ctrue rfl ?_)))
    rw [w2]
    by_cases h : n ≤ 1
    · refine Evt.ctrue (decide_eq_true (by omega)) ?_
      simp only [decide_eq_true h, Bool.true_and]
      cases decide (t.2.2.1 > 0) with
      | true => exact Evt.ctrue rfl .pure
      | false => exact Evt.cfalse rfl l2
    · simp only [decide_eq_false h, Bool.false_and, Bool.false_or]
      exact Evt.cfalse (decide_eq_false (by omega)) l2
  refine Evt.step (fun k m => impl_needsAtMost_L6758.eq_2 k _ _ _ _ _ _ m) (Evt.ctrue rfl (Evt.ctrue rfl ?_))
  rw [w1]
  unfold needsT
  by_cases h : n ≤ 0
  · refine Evt.ctrue (decide_eq_true (by omega)) ?_
    simp only [decide_eq_true h, Bool.true_and]
    cases decide (t.2.1 > 0) with
    | true => exact Evt.ctrue rfl .pure
    | false => exact Evt.cfalse rfl l1
  · simp only [decide_eq_false h, Bool.false_and, Bool.false_or]
    exact Evt.cfalse (decide_eq_false (by omega)) l1

theorem needsAtMost_ev {xs : List Tm} {n : Nat} (hb : xs.length < lenB) : Evt (fun k _ => impl_needsAtMost k xs n) (!needs n xs) := by
  refine Evt.eq (f := fun k q => _) ?_ (fun k q => by rw [impl_needsAtMost])
  rw [needs_any]
  have key : ∀ (r d : List Tm), d ++ r = xs → Evt (fun k m => impl_needsAtMost_L26 k m n xs (xs.length : Int) d.length) (if r.any (needsT n) then .inl false else .inr ()) := by
    intro r
    induction r with
    | nil =>
      intro d h
      refine Evt.step (fun k m => impl_needsAtMost_L26.eq_2 k _ _ _ _ m) ?_
      rw [List.append_nil] at h
      subst h
      exact Evt.rng0 .pure
    | cons e r ih =>
      intro d h
      refine Evt.step (fun k m => impl_needsAtMost_L26.eq_2 k _ _ _ _ m) ?_
      have ih := ih (d ++ [e]) (by simpa using h)
      rw [← len_next (r := r) (by rw [h]; exact hb)] at ih
      have hi := needs_inner n e xs (xs.length : Int) (d.length : Int)
      subst h
      refine Evt.ctrue mid_lt (Evt.ctrue mid_ge (Evt.ctrue mid_lt ?_))
      rw [mid_get]
      refine Evt.bind (.const rfl) ?_
      cases hn : needsT n e with
      | true => rw [hn] at hi; simp only [List.any_cons, hn, Bool.true_or]; exact Evt.inl (Evt.diag hi) .pure
      | false => rw [hn] at hi; simp only [List.any_cons, hn, Bool.false_or]; exact Evt.inr (Evt.diag hi) ih
  have h0 := key xs [] rfl
  simp only [List.length_nil] at h0
  cases hall : xs.any (needsT n) with
  | true => rw [hall] at h0; exact Evt.inl (Evt.diag h0) .pure
  | false => rw [hall] at h0; exact Evt.inr (Evt.diag h0) .pure

theorem isSystem_ev {m : List (List Tm)} (hb : m.length < lenB) (hm : ∀ r ∈ m, r.length < lenB) : Evt (fun k _ => impl_isSystem k m) (sysV m) := by
  refine Evt.eq (f := fun k q => _) ?_ (fun k q => by rw [impl_isSystem])
  have key : ∀ (r d : List (List Tm)), d ++ r = m → Evt (fun k n => impl_isSystem_L26 k n m m (m.length : Int) d.length) (if (r.all fun xs => polyV xs && !needs m.length xs) then .inr (m, ()) else .inl false) := by
    intro r
    induction r with
    | nil =>
      intro d h
      refine Evt.step (fun k n => impl_isSystem_L26.eq_2 k _ _ _ _ n) ?_
      rw [List.append_nil] at h
      subst h
      exact Evt.rng0 .pure
    | cons e r ih =>
      intro d h
      refine Evt.step (fun k n => impl_isSystem_L26.eq_2 k _ _ _ _ n) ?_
      have he := hm e (by rw [← h]; simp)
      have ih := ih (d ++ [e]) (by simpa using h)
      rw [← len_next (r := r) (by rw [h]; exact hb)] at ih
      subst h
      refine Evt.ctrue mid_lt (Evt.ctrue mid_ge (Evt.ctrue mid_lt ?_))
      rw [mid_get]
      refine Evt.bind (isPoly_ev he) ?_
      cases hp : polyV e with
      | false => simp only [List.all_cons, hp, Bool.false_and]; exact Evt.ctrue rfl .pure
      | true =>
        refine Evt.cfalse rfl (Evt.bind (needsAtMost_ev he) ?_)
        cases hn : needs (d ++ e :: r).length e with
        | true => simp only [List.all_cons, hp, hn, Bool.not_true, Bool.and_false, Bool.false_and]; exact Evt.ctrue rfl .pure
        | false => simp only [List.all_cons, hp, hn, Bool.not_false, Bool.true_and]; exact Evt.cfalse rfl ih
  have h0 := key m [] rfl
  simp only [List.length_nil] at h0
  unfold sysV
  cases hall : (m.all fun xs => polyV xs && !needs m.length xs) with
  | true => rw [hall] at h0; exact Evt.inr (Evt.diag h0) (Evt.bind (.const (inside_eq _ _ _)) .pure)
  | false => rw [hall] at h0; exact Evt.inl (Evt.diag h0) .pure

theorem szBox_eq {b : Int × List Int × List Int} (h1 : b.2.1.length ≤ maxLen) (h2 : b.2.2.length ≤ maxLen) {a : Nat} (ha : a ≤ 1000000) :
    laws_szBox b a = some (if b.2.1.length + b.2.2.length ≤ a then ((a - (b.2.1.length + b.2.2.length) : Nat) : Int) else -1) := by
  unfold laws_szBox
  rw [szIntS_ev h1 ha]
  by_cases h3 : b.2.1.length ≤ a
  · rw [if_pos h3, Option.bind_some, decide_eq_false (by omega), cond_false, szIntS_ev h2 (by omega)]
    by_cases h4 : b.2.2.length ≤ a - b.2.1.length
    · rw [if_pos h4, if_pos (by omega), Option.bind_some, decide_eq_false (by omega), cond_false]
      congr 2
      omega
    · rw [if_neg h4, if_neg (by omega)]; rfl
  · rw [if_neg h3, if_neg (by omega)]; rfl
def boxR (b : Int × List Int × List Int) (f : Bool) : Int × (List Int × List Int) × List Int × List Int := (b.1, toV id fI b.2.1 f, toV id fI b.2.2 f)
theorem toBox_ev {b : Int × List Int × List Int} {f : Bool} (h1 : b.2.1.length ≤ 1000000) (h2 : b.2.2.length ≤ 1000000) : Evt (fun k _ => laws_toBox k b f) (boxR b f) := by
  refine Evt.eq (f := fun k q => _) ?_ (fun k q => by rw [laws_toBox])
  exact Evt.bind (toIntS_ev h1) (Evt.bind (toIntS_ev h2) .pure)
theorem boxR_eq (b : Int × List Int × List Int) (f : Bool) : ((boxR b f).1, (boxR b f).2.1.1, (boxR b f).2.2.1) = b := by
  simp only [boxR, toV_fst]
theorem intactBox_ev {b : Int × List Int × List Int} (h1 : b.2.1.length ≤ 1000000) (h2 : b.2.2.length ≤ 1000000) : Evt (fun k _ => laws_intactBox k (boxR b false) (boxR b false)) true := by
  refine Evt.eq (f := fun k q => _) ?_ (fun k q => by rw [laws_intactBox])
  exact Evt.cfalse (by simp) (Evt.bind (intactIntS_ev (room_toV h1)) (Evt.cfalse rfl (Evt.bind (intactIntS_ev (room_toV h2)) (Evt.cfalse rfl .pure))))
theorem intactT_ev {a : List (List Tm)} (h : Sized a) : Evt (fun k _ => laws_intactTermSS k (toV (fun x => toV id fT x false) ([fT], []) a false) (toV (fun x => toV id fT x false) ([fT], []) a false)) true := by
  refine intactTermSS_ev (room_toV h.len) ?_ ?_
  · intro y hy
    simp [toV] at hy
    obtain ⟨x, hx, rfl⟩ := hy
    exact ⟨by simp, h.row x hx⟩
  · intro y hy
    simp [toV] at hy
    rw [hy.2]; simp [lenB]

abbrev tTerm : Ty := .pair (.int .i64) (.pair (.int .i64) (.pair (.int .i64) (.int .i64)))
abbrev tBox : Ty := .pair (.int .i64) (.pair (.sl (.int .i64)) (.sl (.int .i64)))
end Go.Ev.G

namespace Go.Ev.G
open Go Go.Ev
set_option maxRecDepth 100000

def tmW (t : Tm) : Prop := (-10000 ≤ t.1 ∧ t.1 ≤ 10000) ∧ (0 ≤ t.2.1 ∧ t.2.1 ≤ 4) ∧ (0 ≤ t.2.2.1 ∧ t.2.2.1 ≤ 4) ∧ (0 ≤ t.2.2.2 ∧ t.2.2.2 ≤ 4)
theorem tmGd_W {t : Tm} (h : tmGd t) : tmW t := by
  obtain ⟨h1, h2, h3, h4, _⟩ := h
  exact ⟨by omega, h2, h3, h4⟩
def sgl (a : Int × Int) : Iv := (a, a)
theorem sgl_iv {a : Int × Int} (h : gd a) : ivGd (sgl a) := ⟨h, h, Int.le_refl _⟩
end Go.Ev.G

namespace Go.Ev.G
open Go Go.Ev
set_option maxRecDepth 100000

structure Sd (s : List (List Tm)) (sides : List Iv) : Prop where
  sd : ∀ i ∈ sides, ivGd i
  ln : sides.length ≤ 3
  tm : ∀ p ∈ s, ∀ t ∈ p, tmW t
  lp : ∀ p ∈ s, p.length < lenB
abbrev Ed := Int × (Int × Int) × (Int × Int) × Int × Int
def sidesE (e : Ed) : List Iv := if e.1 = 0 then [sgl e.2.1, (minD e.2.2.1 e.2.2.2, maxD e.2.2.1 e.2.2.2)] else [(minD e.2.2.1 e.2.2.2, maxD e.2.2.1 e.2.2.2), sgl e.2.1]
structure EdOk (e : Ed) : Prop where
  sd : e.1 = 0 ∨ e.1 = 1
  a : gd e.2.1
  f : gd e.2.2.1
  t : gd e.2.2.2
theorem along_iv {a b : Int × Int} (ha : gd a) (hb : gd b) : ivGd (minD a b, maxD a b) := ⟨minD_gd ha hb, maxD_gd ha hb, by simp only [minD_sv, maxD_sv]; omega⟩
theorem EdOk.sides {e : Ed} (h : EdOk e) : ∀ i ∈ sidesE e, ivGd i := by
  intro i hi
  have q := along_iv h.f h.t
  have r := sgl_iv h.a
  unfold sidesE at hi
  split at hi <;> (simp only [List.mem_cons, List.not_mem_nil, or_false] at hi; rcases hi with rfl | rfl <;> assumption)
theorem EdOk.len (e : Ed) : (sidesE e).length = 2 := by unfold sidesE; split <;> rfl
theorem Sd.edge {s : List (List Tm)} (h1 : ∀ p ∈ s, ∀ t ∈ p, tmW t) (h2 : ∀ p ∈ s, p.length < lenB) {e : Ed} (h : EdOk e) : Sd s (sidesE e) := ⟨h.sides, by rw [EdOk.len]; omega, h1, h2⟩
def twoV (m : List (List Tm)) : Bool := sysV m && ((m.length : Int) == 2)
theorem isTwo_ev {m : List (List Tm)} (hb : m.length < lenB) (hm : ∀ r ∈ m, r.length < lenB) : Evt (fun k _ => impl_isTwo k m) (twoV m) := by
  refine Evt.eq (f := fun k q => _) ?_ (fun k q => by rw [impl_isTwo])
  unfold twoV
  cases h : ((m.length : Int) == 2) with
  | false => rw [Bool.and_false]; exact Evt.cfalse rfl .pure
  | true => rw [Bool.and_true]; exact Evt.ctrue rfl (Evt.bind (isSystem_ev hb hm) .pure)
theorem sysV_tm {m : List (List Tm)} (h : sysV m = true) : ∀ p ∈ m, ∀ t ∈ p, tmW t := by
  unfold sysV at h
  rw [Bool.and_eq_true, List.all_eq_true] at h
  intro p hp t ht
  have := h.1 p hp
  rw [Bool.and_eq_true] at this
  exact tmGd_W (polyV_gd this.1 t ht)
theorem twoV_len {m : List (List Tm)} (h : twoV m = true) : sysV m = true ∧ m.length = 2 := by
  unfold twoV at h
  rw [Bool.and_eq_true] at h
  refine ⟨h.1, ?_⟩
  have := h.2
  simp at this
  omega
end Go.Ev.G

namespace Go.Ev.G
open Go Go.Ev
set_option maxRecDepth 100000

abbrev Bx := Int × List Int × List Int
def plV (b : Bx) : Bool := bxV b && (((b.2.1.length : Int) == 2) && decide (b.1 ≤ 3))
theorem imBox_ev {b : Bx} (hb : b.2.1.length < lenB) : Evt (fun k _ => spec_imBox k b) (plV b) := by
  refine Evt.eq (f := fun k q => _) ?_ (fun k q => by rw [spec_imBox])
  refine Evt.bind (bxGood_ev hb) ?_
  unfold plV
  cases bxV b with
  | false => exact Evt.cfalse rfl .pure
  | true =>
    refine Evt.ctrue rfl ?_
    cases ((b.2.1.length : Int) == 2) with
    | false => exact Evt.cfalse rfl .pure
    | true => exact Evt.ctrue rfl .pure
theorem isPlaneBox_ev {b : Bx} (hb : b.2.1.length < lenB) : Evt (fun k _ => impl_isPlaneBox k b) (plV b) := by
  refine Evt.eq (f := fun k q => _) ?_ (fun k q => by rw [impl_isPlaneBox])
  refine Evt.bind (isBox_ev hb) ?_
  unfold plV
  cases bxV b with
  | false => exact Evt.cfalse rfl .pure
  | true =>
    refine Evt.ctrue rfl ?_
    cases ((b.2.1.length : Int) == 2) with
    | false => exact Evt.cfalse rfl .pure
    | true => exact Evt.ctrue rfl .pure
def planeV (m : List (List Tm)) (b : Bx) : Bool := twoV m && plV b
theorem imGood_ev {m : List (List Tm)} {b : Bx} (hb : m.length < lenB) (hm : ∀ r ∈ m, r.length < lenB) (hx : b.2.1.length < lenB) : Evt (fun k _ => spec_imGood k m b) (planeV m b) := by
  refine Evt.eq (f := fun k q => _) ?_ (fun k q => by rw [spec_imGood])
  refine Evt.bind (poSystem_ev hb hm) ?_
  unfold planeV twoV
  cases sysV m with
  | false => exact Evt.cfalse rfl .pure
  | true =>
    refine Evt.ctrue rfl ?_
    cases ((m.length : Int) == 2) with
    | false => exact Evt.cfalse rfl .pure
    | true => exact Evt.ctrue rfl (Evt.bind (imBox_ev hx) .pure)
theorem isPlane_ev {m : List (List Tm)} {b : Bx} (hb : m.length < lenB) (hm : ∀ r ∈ m, r.length < lenB) (hx : b.2.1.length < lenB) : Evt (fun k _ => impl_isPlane k m b) (planeV m b) := by
  refine Evt.eq (f := fun k q => _) ?_ (fun k q => by rw [impl_isPlane])
  refine Evt.bind (isTwo_ev hb hm) ?_
  unfold planeV
  cases twoV m with
  | false => exact Evt.cfalse rfl .pure
  | true => exact Evt.ctrue rfl (Evt.bind (isPlaneBox_ev hx) .pure)
theorem plV_form {b : Bx} (h : plV b = true) : ∃ (m : Nat) (l0 l1 h0 h1 : Int), b = ((m : Int), [l0, l1], [h0, h1]) ∧ m ≤ 3 ∧ (-64 ≤ l0 ∧ l0 < h0 ∧ h0 ≤ 64) ∧ (-64 ≤ l1 ∧ l1 < h1 ∧ h1 ≤ 64) := by
  obtain ⟨d8, los, his⟩ := b
  unfold plV bxV at h
  simp only [Bool.and_eq_true, decide_eq_true_eq, beq_iff_eq] at h
  obtain ⟨⟨g1, g2, g3, g4, _⟩, g5, g6⟩ := h
  match los, his, g3, g5, g4 with
  | [l0, l1], [h0, h1], _, _, g4 =>
    refine ⟨d8.toNat, l0, l1, h0, h1, by rw [Int.toNat_of_nonneg g1.1], by omega, ?_⟩
    have hp : (8 : Int) * 2 ^ d8.toNat ≤ 64 := by
      have h1 : (2 : Nat) ^ d8.toNat ≤ 2 ^ 3 := Nat.pow_le_pow_right (by omega) (by omega)
      have h2 : ((2 : Int) ^ d8.toNat) = ((2 ^ d8.toNat : Nat) : Int) := by simp
      rw [h2]
      have : (2 : Nat) ^ 3 = 8 := by decide
      omega
    generalize (8 : Int) * 2 ^ d8.toNat = L at hp g4
    simp only [List.zip_cons_cons, List.zip_nil_left, List.all_cons, List.all_nil, Bool.and_true, Bool.and_eq_true, sideOk, decide_eq_true_eq] at g4
    omega

theorem strip_scale (k : Nat) (n : Int) : ∀ D : Nat, strip (k + D) (n * 2 ^ D) = strip k n
  | 0 => by simp
  | D + 1 => by
    have e : n * 2 ^ (D + 1) = (n * 2 ^ D) * 2 := by rw [Int.pow_succ, Int.mul_assoc]
    rw [e, ← Nat.add_assoc, strip, if_pos (by omega), Int.mul_ediv_cancel _ (by decide)]
    exact strip_scale k n D
theorem mkD_scale (k D : Nat) (n : Int) : mkD (n * 2 ^ D) (k + D) = mkD n k := by
  unfold mkD
  rw [strip_scale]
theorem pow5 {m : Nat} (h : m ≤ 5) : (1 : Int) ≤ 2 ^ m ∧ (2 : Int) ^ m ≤ 32 := by
  rcases (by omega : m = 0 ∨ m = 1 ∨ m = 2 ∨ m = 3 ∨ m = 4 ∨ m = 5) with rfl | rfl | rfl | rfl | rfl | rfl <;> decide
def numV (m D : Nat) (l h x : Int) : Int × Int := (mkD (l * 2 ^ D + x * (h - l)) (m + D)).1
theorem mul_range {a b A B : Int} (h1 : -A ≤ a) (h2 : a ≤ A) (h3 : 0 ≤ b) (h4 : b ≤ B) (hA : 0 ≤ A) : -(A * B) ≤ a * b ∧ a * b ≤ A * B := by
  have e1 : a * b ≤ A * b := Int.mul_le_mul_of_nonneg_right h2 h3
  have e2 : A * b ≤ A * B := Int.mul_le_mul_of_nonneg_left h4 hA
  have e3 : -A * b ≤ a * b := Int.mul_le_mul_of_nonneg_right h1 h3
  rw [Int.neg_mul] at e3
  omega
theorem side_range {l h x : Int} {D : Nat} (hl : -64 ≤ l ∧ l < h ∧ h ≤ 64) (hD : D ≤ 5) (hx : 0 ≤ x ∧ x ≤ 64) : (-2048 ≤ l * 2 ^ D ∧ l * 2 ^ D ≤ 2048) ∧ (-2048 ≤ h * 2 ^ D ∧ h * 2 ^ D ≤ 2048) ∧ (0 ≤ x * (h - l) ∧ x * (h - l) ≤ 8192) := by
  have hp := pow5 hD
  have a := mul_range (a := l) (b := 2 ^ D) (A := 64) (B := 32) (by omega) (by omega) (by omega) (by omega) (by omega)
  have b := mul_range (a := h) (b := 2 ^ D) (A := 64) (B := 32) (by omega) (by omega) (by omega) (by omega) (by omega)
  have c := mul_range (a := x) (b := h - l) (A := 64) (B := 128) (by omega) (by omega) (by omega) (by omega) (by omega)
  have d : 0 ≤ x * (h - l) := Int.mul_nonneg hx.1 (by omega)
  omega
theorem edges1_ev {m D : Nat} {b : Bx} {j : Nat} {l h x : Int} (hb1 : b.1 = m) (hj : j < b.2.1.length) (hj2 : j < b.2.2.length) (e1 : b.2.1.getD j 0 = l) (e2 : b.2.2.getD j 0 = h) (hl : -64 ≤ l ∧ l < h ∧ h ≤ 64) (hm : m ≤ 3) (hD : D ≤ 5) (hx : 0 ≤ x ∧ x ≤ 64) :
    Evt (fun k _ => impl_boundaryEdges_1 k j x b (2 ^ D) D) (numV m D l h x) := by
  have hr := side_range hl hD hx
  refine Evt.eq (f := fun k q => _) ?_ (fun k q => by rw [impl_boundaryEdges_1])
  refine Evt.ctrue (decide_eq_true (by omega)) (Evt.ctrue (decide_eq_true (by omega)) ?_)
  have el : impl_Box_length b j = some (h - l) := by
    unfold impl_Box_length
    rw [decide_eq_true (show (0 : Int) ≤ (j : Int) by omega), decide_eq_true (show (j : Int) < (b.2.2.length : Int) by omega), decide_eq_true (show (j : Int) < (b.2.1.length : Int) by omega)]
    simp only [cond_true, Int.toNat_natCast, e1, e2]
    rw [w64 (by omega) (by omega)]
  refine Evt.bind (.const el) ?_
  simp only [Int.toNat_natCast, e1]
  rw [w64 (n := l * 2 ^ D) (by omega) (by omega), w64 (n := x * (h - l)) (by omega) (by omega), w64 (by omega) (by omega), hb1, w64 (n := (m : Int) + (D : Int)) (by omega) (by omega)]
  refine Evt.bind (.const (wideOf_eq (by omega) (by omega))) ?_
  have := fitD_ev (n := l * 2 ^ D + x * (h - l)) (p := m + D) (by omega) (by omega) (by omega)
  rw [Int.natCast_add] at this
  exact Evt.bind this .pure
def wayV (s : Int) (a : Int × Int) (g : Int → Int × Int) (c r : Nat) : List Ed := (List.range' c r).map fun i : Nat => (s, a, g (i : Int), g ((i : Int) + 1))
theorem imWay_ev {s : Int} {a : Int × Int} {u v : Int} {m D : Nat} {g : Int → Int × Int} (hu : -64 ≤ u ∧ u ≤ 64) (hv : -64 ≤ v ∧ v ≤ 64) (hm : m ≤ 3) (hD : D ≤ 5) (hg : ∀ x : Int, 0 ≤ x → x ≤ 2 ^ D → g x = (mkD (u * 2 ^ D + (v - u) * x) (m + D)).1) :
    Evt (fun k _ => spec_imWay k s a u v m D) (wayV s a g 0 (2 ^ D)) := by
  refine Evt.eq (f := fun k q => _) ?_ (fun k q => by rw [spec_imWay])
  refine Evt.bind (.const (dyPower_eq (m := D) (by omega))) ?_
  have hp := pow5 hD
  have hN : ((2 ^ D : Nat) : Int) = 2 ^ D := by simp
  generalize hNN : 2 ^ D = N at hN
  have num : ∀ x : Int, 0 ≤ x → x ≤ N → Evt (fun k _ => spec_bxNumber k (IntKind.wrap .i64 ((IntKind.wrap .i64 (u * (N : Int))) + (IntKind.wrap .i64 ((IntKind.wrap .i64 (v - u)) * x)))) (IntKind.wrap .i64 ((m : Int) + (D : Int)))) (g x) := by
    intro x h1 h2
    have a1 := mul_range (a := u) (b := 2 ^ D) (A := 64) (B := 32) (by omega) (by omega) (by omega) (by omega) (by omega)
    have a2 := mul_range (a := v - u) (b := x) (A := 128) (B := 32) (by omega) (by omega) (by omega) (by omega) (by omega)
    rw [hN, w64 (n := v - u) (by omega) (by omega), w64 (n := u * 2 ^ D) (by omega) (by omega), w64 (n := (v - u) * x) (by omega) (by omega), w64 (by omega) (by omega), w64 (n := (m : Int) + D) (by omega) (by omega), hg x h1 (by omega)]
    refine Evt.eq (f := fun k q => _) ?_ (fun k q => by rw [spec_bxNumber])
    have := dyMake_ev (n := u * 2 ^ D + (v - u) * x) (m := m + D) (by omega) (by omega) (by omega)
    rw [Int.natCast_add] at this
    exact Evt.bind this .pure
  have key : ∀ (r c : Nat) (acc : List Ed), c + r = N → acc.length + r ≤ 1000 → Evt (fun k n => spec_imWay_L122 k n s u v m D a acc (N : Int) c) (.inr (acc ++ wayV s a g c r, ())) := by
    intro r
    induction r with
    | zero =>
      intro c acc hc _
      refine Evt.step (fun k n => spec_imWay_L122.eq_2 k _ _ _ _ _ _ _ _ _ n) (Evt.cfalse (decide_eq_false (by omega)) ?_)
      simp only [wayV, List.range'_zero, List.map_nil, List.append_nil]
      exact .pure
    | succ r ih =>
      intro c acc hc ha
      refine Evt.step (fun k n => spec_imWay_L122.eq_2 k _ _ _ _ _ _ _ _ _ n) (Evt.ctrue (decide_eq_true (by omega)) ?_)
      refine Evt.bind (num c (by omega) (by omega)) ?_
      have w1 : IntKind.wrap .i64 ((c : Int) + 1) = (c : Int) + 1 := by rw [w64 (by omega) (by omega)]
      rw [w1]
      refine Evt.bind (num ((c : Int) + 1) (by omega) (by omega)) (Evt.ctrue (decide_eq_true (by simp only [List.length_cons, List.length_nil]; omega)) ?_)
      have := ih (c + 1) (acc ++ [(s, a, g c, g ((c : Int) + 1))]) (by omega) (by simp; omega)
      rw [Int.natCast_add] at this
      have e : acc ++ [(s, a, g c, g ((c : Int) + 1))] ++ wayV s a g (c + 1) r = acc ++ wayV s a g c (r + 1) := by
        simp only [wayV, List.range'_succ, List.map_cons, List.append_assoc, List.singleton_append]
      rw [e] at this
      exact this
  have hNb : N ≤ 32 := by omega
  have hk := key N 0 [] (by omega) (by simp; omega)
  exact Evt.inr (Evt.diag hk) .pure
def edgesV (m D : Nat) (l0 l1 h0 h1 : Int) : List Ed :=
  wayV 1 (mkD l1 m).1 (numV m D l0 h0) 0 (2 ^ D) ++ wayV 0 (mkD h0 m).1 (numV m D l1 h1) 0 (2 ^ D) ++ wayV 1 (mkD h1 m).1 (fun x => numV m D l0 h0 (2 ^ D - x)) 0 (2 ^ D) ++ wayV 0 (mkD l0 m).1 (fun x => numV m D l1 h1 (2 ^ D - x)) 0 (2 ^ D)
theorem wayV_len (s : Int) (a : Int × Int) (g : Int → Int × Int) (c r : Nat) : (wayV s a g c r).length = r := by simp [wayV]
theorem edgesV_len (m D : Nat) (l0 l1 h0 h1 : Int) : (edgesV m D l0 l1 h0 h1).length = 4 * 2 ^ D := by
  simp only [edgesV, List.length_append, wayV_len]; omega
theorem imEdges_ev {m D : Nat} {l0 l1 h0 h1 : Int} (hm : m ≤ 3) (hD : D ≤ 5) (g0 : -64 ≤ l0 ∧ l0 < h0 ∧ h0 ≤ 64) (g1 : -64 ≤ l1 ∧ l1 < h1 ∧ h1 ≤ 64) : Evt (fun k _ => spec_imEdges k ((m : Int), [l0, l1], [h0, h1]) D) (edgesV m D l0 l1 h0 h1) := by
  refine Evt.eq (f := fun k q => _) ?_ (fun k q => by rw [spec_imEdges])
  have hp : 2 ^ D ≤ 32 := by
    have := Nat.pow_le_pow_right (n := 2) (by omega) hD
    simpa using this
  have num : ∀ x : Int, -64 ≤ x ∧ x ≤ 64 → Evt (fun k _ => spec_bxNumber k x (m : Int)) (mkD x m).1 := by
    intro x hx
    refine Evt.eq (f := fun k q => _) ?_ (fun k q => by rw [spec_bxNumber])
    exact Evt.bind (dyMake_ev (n := x) (m := m) (by omega) (by omega) (by omega)) .pure
  have fwd : ∀ (l h : Int) (x : Int), 0 ≤ x → x ≤ 2 ^ D → numV m D l h x = (mkD (l * 2 ^ D + (h - l) * x) (m + D)).1 := by
    intro l h x _ _
    rw [numV, Int.mul_comm x]
  have bwd : ∀ (l h : Int) (x : Int), 0 ≤ x → x ≤ 2 ^ D → numV m D l h (2 ^ D - x) = (mkD (h * 2 ^ D + (l - h) * x) (m + D)).1 := by
    intro l h x _ _
    have e : l * 2 ^ D + (2 ^ D - x) * (h - l) = h * 2 ^ D + (l - h) * x := by
      simp only [Int.sub_mul, Int.mul_sub, Int.mul_comm (2 ^ D), Int.mul_comm x]
      omega
    rw [numV, e]
  refine Evt.ctrue rfl (Evt.ctrue rfl (Evt.ctrue rfl (Evt.ctrue rfl ?_)))
  refine Evt.bind (num l1 (by omega)) (Evt.bind (imWay_ev (u := l0) (v := h0) (g := numV m D l0 h0) (by omega) (by omega) hm hD (fwd l0 h0)) ?_)
  refine Evt.bind (num h0 (by omega)) (Evt.bind (imWay_ev (u := l1) (v := h1) (g := numV m D l1 h1) (by omega) (by omega) hm hD (fwd l1 h1)) ?_)
  refine Evt.ctrue (decide_eq_true (by simp only [wayV_len]; omega)) ?_
  refine Evt.bind (num h1 (by omega)) (Evt.bind (imWay_ev (u := h0) (v := l0) (g := fun x => numV m D l0 h0 (2 ^ D - x)) (by omega) (by omega) hm hD (bwd l0 h0)) ?_)
  refine Evt.ctrue (decide_eq_true (by simp only [List.length_append, wayV_len]; omega)) ?_
  refine Evt.bind (num l0 (by omega)) (Evt.bind (imWay_ev (u := h1) (v := l1) (g := fun x => numV m D l1 h1 (2 ^ D - x)) (by omega) (by omega) hm hD (bwd l1 h1)) ?_)
  exact Evt.ctrue (decide_eq_true (by simp only [List.length_append, wayV_len]; omega)) .pure
end Go.Ev.G

namespace Go.Ev.G
open Go Go.Ev
set_option maxRecDepth 100000

theorem edges_inner {m D : Nat} {b : Bx} {j : Nat} {s kk x17 : Int} {l h : Int} {a : Int × Int} (hb1 : b.1 = m) (hj : j < b.2.1.length) (hj2 : j < b.2.2.length) (e1 : b.2.1.getD j 0 = l) (e2 : b.2.2.getD j 0 = h) (hl : -64 ≤ l ∧ l < h ∧ h ≤ 64) (hm : m ≤ 3) (hD : D ≤ 5) (hs : IntKind.wrap .i64 (1 - s) = (j : Int)) :
    ∀ (r c : Nat) (acc : List Ed), c + r = 2 ^ D → acc.length + r ≤ 1000 → Evt (fun k n => impl_boundaryEdges_L512830 k n (2 ^ D) (b, 2 ^ D, (D : Int), ()) acc kk s a x17 (2 ^ D) c) (.inr (2 ^ D, (b, 2 ^ D, (D : Int), ()), acc ++ wayV s a (fun x => numV m D l h (if kk ≥ 2 then 2 ^ D - x else x)) c r, x17, ()))
  | 0, c, acc, hc, _ => by
    have hN : ((2 ^ D : Nat) : Int) = 2 ^ D := by simp
    refine Evt.step (fun k n => impl_boundaryEdges_L512830.eq_2 k _ _ _ _ _ _ _ _ _ n) (Evt.cfalse (decide_eq_false (by omega)) ?_)
    simp only [wayV, List.range'_zero, List.map_nil, List.append_nil]
    exact .pure
  | r + 1, c, acc, hc, ha => by
    have hN : ((2 ^ D : Nat) : Int) = 2 ^ D := by simp
    have hp := pow5 hD
    refine Evt.step (fun k n => impl_boundaryEdges_L512830.eq_2 k _ _ _ _ _ _ _ _ _ n) (Evt.ctrue (decide_eq_true (by omega)) ?_)
    let g : Int → Int × Int := fun x => numV m D l h (if kk ≥ 2 then 2 ^ D - x else x)
    have num : ∀ x : Int, 0 ≤ x → x ≤ 2 ^ D → Evt (fun k _ => impl_boundaryEdges_1 k (IntKind.wrap .i64 (1 - s)) x b (2 ^ D) D) (numV m D l h x) := by
      intro x h1 h2
      rw [hs]
      exact edges1_ev hb1 hj hj2 e1 e2 hl hm hD (by omega)
    have ih := edges_inner (kk := kk) (x17 := x17) (s := s) (a := a) hb1 hj hj2 e1 e2 hl hm hD hs r (c + 1) (acc ++ [(s, a, g c, g ((c : Int) + 1))]) (by omega) (by simp; omega)
    have w1 : IntKind.wrap .i64 ((c : Int) + 1) = ((c + 1 : Nat) : Int) := w64_next (by simp only [lenB]; omega)
    have e : acc ++ [(s, a, g c, g ((c : Int) + 1))] ++ wayV s a g (c + 1) r = acc ++ wayV s a g c (r + 1) := by
      simp only [wayV, List.range'_succ, List.map_cons, List.append_assoc, List.singleton_append]
    have ih2 : Evt (fun k n => impl_boundaryEdges_L512830 k n (2 ^ D) (b, 2 ^ D, (D : Int), ()) (acc ++ [(s, a, g c, g ((c : Int) + 1))]) kk s a x17 (2 ^ D) ((c + 1 : Nat) : Int)) (.inr (2 ^ D, (b, 2 ^ D, (D : Int), ()), acc ++ wayV s a g c (r + 1), x17, ())) := by
      rw [← e]; exact ih
    by_cases hk : kk ≥ 2
    · have g1 : g c = numV m D l h (2 ^ D - c) := by show numV m D l h (if kk ≥ 2 then 2 ^ D - (c : Int) else c) = _; rw [if_pos hk]
      have g2 : g ((c : Int) + 1) = numV m D l h (2 ^ D - c - 1) := by
        show numV m D l h (if kk ≥ 2 then 2 ^ D - ((c : Int) + 1) else (c : Int) + 1) = _
        rw [if_pos hk, show (2 : Int) ^ D - (c + 1) = 2 ^ D - c - 1 by omega]
      refine Evt.inr (Evt.ctrue (decide_eq_true hk) .pure) ?_
      have w2 : IntKind.wrap .i64 ((2 : Int) ^ D - c) = 2 ^ D - c := w64 (by omega) (by omega)
      have w3 : IntKind.wrap .i64 ((2 : Int) ^ D - c - 1) = 2 ^ D - c - 1 := w64 (by omega) (by omega)
      simp only [w2, w3, w1]
      rw [g1, g2] at ih2
      refine Evt.bind (num _ (by omega) (by omega)) (Evt.bind (num _ (by omega) (by omega)) (Evt.ctrue (decide_eq_true (by simp only [List.length_cons, List.length_nil]; omega)) ?_))
      exact ih2
    · have g1 : g c = numV m D l h c := by show numV m D l h (if kk ≥ 2 then 2 ^ D - (c : Int) else c) = _; rw [if_neg hk]
      have g2 : g ((c : Int) + 1) = numV m D l h ((c : Int) + 1) := by
        show numV m D l h (if kk ≥ 2 then 2 ^ D - ((c : Int) + 1) else (c : Int) + 1) = _
        rw [if_neg hk]
      refine Evt.inr (Evt.cfalse (decide_eq_false hk) .pure) ?_
      have w2 : IntKind.wrap .i64 ((c : Int) + 1) = (c : Int) + 1 := w64 (by omega) (by omega)
      simp only [w2]
      rw [g1, g2] at ih2
      refine Evt.bind (num _ (by omega) (by omega)) (Evt.bind (num _ (by omega) (by omega)) (Evt.ctrue (decide_eq_true (by simp only [List.length_cons, List.length_nil]; omega)) ?_))
      exact ih2
theorem boundaryEdges_ev {m D : Nat} {l0 l1 h0 h1 : Int} (hm : m ≤ 3) (hD : D ≤ 5) (g0 : -64 ≤ l0 ∧ l0 < h0 ∧ h0 ≤ 64) (g1 : -64 ≤ l1 ∧ l1 < h1 ∧ h1 ≤ 64) : Evt (fun k _ => impl_boundaryEdges k ((m : Int), [l0, l1], [h0, h1]) D) (edgesV m D l0 l1 h0 h1) := by
  have hN : ((2 ^ D : Nat) : Int) = 2 ^ D := by simp
  have hp := pow5 hD
  have hNb : 2 ^ D ≤ 32 := by omega
  let b : Bx := ((m : Int), [l0, l1], [h0, h1])
  refine Evt.eq (f := fun k q => _) ?_ (fun k q => by rw [impl_boundaryEdges])
  refine Evt.cfalse (decide_eq_false (by omega)) ?_
  have hw : IntKind.wrap .i64 (1 * 2 ^ min (Int.toNat (D : Int)) (IntKind.bits .i64)) = 2 ^ D := by
    rw [min64 (by omega), Int.one_mul, w64 (by omega) (by omega)]
  simp only [hw]
  have one : ∀ {R : List Ed ⊕ (List Ed × Unit)} (kk s : Int) (j : Nat) (l h : Int) (a0 a : Int × Int) (acc : List Ed), 0 ≤ kk → kk < 4 → IntKind.wrap .i64 (1 - Int.tmod kk 2) = s → IntKind.wrap .i64 (1 - s) = (j : Int) → j < 2 → b.2.1.getD j 0 = l → b.2.2.getD j 0 = h → (-64 ≤ l ∧ l < h ∧ h ≤ 64) →
      Evt (fun k _ => impl_boundaryEdges_1 k s 0 b (2 ^ D) D) a0 → (kk = 1 ∨ kk = 2 → Evt (fun k _ => impl_boundaryEdges_1 k s (2 ^ D) b (2 ^ D) D) a) → (¬(kk = 1 ∨ kk = 2) → a0 = a) → acc.length ≤ 200 →
      Evt (fun k n => impl_boundaryEdges_L250 k n (2 ^ D) (b, 2 ^ D, (D : Int), ()) (acc ++ wayV s a (fun x => numV m D l h (if kk ≥ 2 then 2 ^ D - x else x)) 0 (2 ^ D)) (IntKind.wrap .i64 (kk + 1))) R → Evt (fun k n => impl_boundaryEdges_L250 k n (2 ^ D) (b, 2 ^ D, (D : Int), ()) acc kk) R := by
    intro R kk s j l h a0 a acc hk0 hk4 hs hj hj2 e1 e2 hl ha0 ha1 haa hacc hrest
    have hin := edges_inner (kk := kk) (x17 := kk) (s := s) (a := a) (b := b) (j := j) (m := m) rfl (by simpa [b] using hj2) (by simpa [b] using hj2) e1 e2 hl hm hD hj (2 ^ D) 0 acc (by omega) (by omega)
    refine Evt.step (fun k n => impl_boundaryEdges_L250.eq_2 k _ _ _ _ n) (Evt.ctrue (decide_eq_true hk4) ?_)
    simp only [hs]
    refine Evt.bind ha0 (Evt.inr (y := (2 ^ D, (b, 2 ^ D, (D : Int), ()), acc, kk, s, a, kk, ())) ?_ (Evt.inr (Evt.diag hin) hrest))
    by_cases c1 : kk = 1
    · exact Evt.ctrue (by simp [c1]) (Evt.bind (ha1 (.inl c1)) .pure)
    · refine Evt.cfalse (by simpa using c1) ?_
      by_cases c2 : kk = 2
      · exact Evt.ctrue (by simp [c2]) (Evt.bind (ha1 (.inr c2)) .pure)
      · refine Evt.cfalse (by simpa using c2) ?_
        rw [haa (by omega)]
        exact .pure
  have n0 : ∀ {j : Nat} {l h : Int}, j < 2 → b.2.1.getD j 0 = l → b.2.2.getD j 0 = h → (-64 ≤ l ∧ l < h ∧ h ≤ 64) → Evt (fun k _ => impl_boundaryEdges_1 k j 0 b (2 ^ D) D) (mkD l m).1 := by
    intro j l h hj e1 e2 hl
    have := edges1_ev (x := 0) (b := b) (m := m) rfl (by simpa [b] using hj) (by simpa [b] using hj) e1 e2 hl hm hD (by omega)
    rw [numV, Int.zero_mul, Int.add_zero, mkD_scale] at this
    exact this
  have n1 : ∀ {j : Nat} {l h : Int}, j < 2 → b.2.1.getD j 0 = l → b.2.2.getD j 0 = h → (-64 ≤ l ∧ l < h ∧ h ≤ 64) → Evt (fun k _ => impl_boundaryEdges_1 k j (2 ^ D) b (2 ^ D) D) (mkD h m).1 := by
    intro j l h hj e1 e2 hl
    have := edges1_ev (x := 2 ^ D) (b := b) (m := m) rfl (by simpa [b] using hj) (by simpa [b] using hj) e1 e2 hl hm hD (by omega)
    have e : l * 2 ^ D + 2 ^ D * (h - l) = h * 2 ^ D := by
      rw [Int.mul_sub, Int.mul_comm (2 ^ D) h, Int.mul_comm (2 ^ D) l]; omega
    rw [numV, e, mkD_scale] at this
    exact this
  have fin : ∀ acc : List Ed, Evt (fun k n => impl_boundaryEdges_L250 k n (2 ^ D) (b, 2 ^ D, (D : Int), ()) acc 4) (.inr (acc, ())) := fun acc =>
    Evt.step (fun k n => impl_boundaryEdges_L250.eq_2 k _ _ _ _ n) (Evt.cfalse rfl .pure)
  have w1 : IntKind.wrap .i64 (0 + 1) = 1 := by decide
  have w2 : IntKind.wrap .i64 (1 + 1) = 2 := by decide
  have w3 : IntKind.wrap .i64 (2 + 1) = 3 := by decide
  have w4 : IntKind.wrap .i64 (3 + 1) = 4 := by decide
  have all : Evt (fun k n => impl_boundaryEdges_L250 k n (2 ^ D) (b, 2 ^ D, (D : Int), ()) [] 0) (.inr (edgesV m D l0 l1 h0 h1, ())) := by
    refine one 0 1 0 l0 h0 (mkD l1 m).1 (mkD l1 m).1 [] (by omega) (by omega) (by decide) (by decide) (by omega) rfl rfl g0 (n0 (j := 1) (by omega) rfl rfl g1) (by omega) (fun _ => rfl) (by simp) ?_
    rw [w1]
    refine one 1 0 1 l1 h1 (mkD l0 m).1 (mkD h0 m).1 _ (by omega) (by omega) (by decide) (by decide) (by omega) rfl rfl g1 (n0 (j := 0) (by omega) rfl rfl g0) (fun _ => n1 (j := 0) (by omega) rfl rfl g0) (by omega) (by simp only [List.length_append, List.length_nil, wayV_len]; omega) ?_
    rw [w2]
    refine one 2 1 0 l0 h0 (mkD l1 m).1 (mkD h1 m).1 _ (by omega) (by omega) (by decide) (by decide) (by omega) rfl rfl g0 (n0 (j := 1) (by omega) rfl rfl g1) (fun _ => n1 (j := 1) (by omega) rfl rfl g1) (by omega) (by simp only [List.length_append, List.length_nil, wayV_len]; omega) ?_
    rw [w3]
    refine one 3 0 1 l1 h1 (mkD l0 m).1 (mkD l0 m).1 _ (by omega) (by omega) (by decide) (by decide) (by omega) rfl rfl g1 (n0 (j := 0) (by omega) rfl rfl g0) (by omega) (fun _ => rfl) (by simp only [List.length_append, List.length_nil, wayV_len]; omega) ?_
    rw [w4]
    exact fin _
  exact Evt.inr (Evt.diag all) .pure

def edgesB (b : Bx) (D : Nat) : List Ed := edgesV b.1.toNat D (b.2.1.getD 0 0) (b.2.1.getD 1 0) (b.2.2.getD 0 0) (b.2.2.getD 1 0)
theorem edgesB_len (b : Bx) (D : Nat) : (edgesB b D).length = 4 * 2 ^ D := edgesV_len _ _ _ _ _ _
theorem imEdgesB_ev {b : Bx} {D : Nat} (h : plV b = true) (hD : D ≤ 5) : Evt (fun k _ => spec_imEdges k b D) (edgesB b D) := by
  obtain ⟨m, l0, l1, h0, h1, rfl, hm, g0, g1⟩ := plV_form h
  exact imEdges_ev hm hD g0 g1
theorem boundaryEdgesB_ev {b : Bx} {D : Nat} (h : plV b = true) (hD : D ≤ 5) : Evt (fun k _ => impl_boundaryEdges k b D) (edgesB b D) := by
  obtain ⟨m, l0, l1, h0, h1, rfl, hm, g0, g1⟩ := plV_form h
  exact boundaryEdges_ev hm hD g0 g1
end Go.Ev.G

namespace Go.Ev.G
open Go Go.Ev
set_option maxRecDepth 100000

theorem markBox_ev {b : Int × List Int × List Int} {a : Nat} (h : a + b.2.1.length + b.2.2.length < lenB) : Evt (fun k _ => laws_markBox k b a) ((a + 1 * b.2.1.length + 1 * b.2.2.length : Nat) : Int) := by
  refine Evt.eq (f := fun k q => _) ?_ (fun k q => by rw [laws_markBox])
  obtain ⟨y, hy, _⟩ := markIntS_only b.2.1 a (by show a + 1 * b.2.1.length < lenB; omega)
  obtain ⟨z, hz, _⟩ := markIntS_only b.2.2 (a + 1 * b.2.1.length) (by show a + 1 * b.2.1.length + 1 * b.2.2.length < lenB; omega)
  exact Evt.bind hy (Evt.bind hz .pure)

end Go.Ev.G

namespace Go.Ev.G
open Go Go.Ev
set_option maxRecDepth 100000

theorem markIntS_ok : MarkOk laws_markIntS laws_heldIntS (fun x => 1 * x.length) :=
  mark_all (M := laws_markIntS_L26) (H := laws_heldIntS_L26) (mv := fun a => (a : Int)) (by omega)
    (fun k n d r e a h1 h2 => by
      rw [laws_markIntS_L26]
      rw [mid_lt, mid_ge, mid_set, w64_next (m := d.length) (by simp at h2; omega), w64_next (m := a) (by omega)]
      rfl)
    (fun k n d a => by rw [laws_markIntS_L26, mid_end]; rfl)
    (fun k n d r a h1 h2 => by
      rw [laws_heldIntS_L26]
      simp only [mid_lt, mid_ge, mid_get, cond_true]
      rw [w64_next (m := d.length) (by simp at h2; omega), w64_next (m := a) (by omega)]
      simp only [bne_self_eq_false, cond_false])
    (fun k n d a => by rw [laws_heldIntS_L26, mid_end]; rfl)
    (fun _ _ _ => rfl) (fun _ _ _ => rfl)
theorem markTermS_only : MarkOk laws_markTermS (heldAny 4) (fun x => 4 * x.length) :=
  mark_only (M := laws_markTermS_L26) (mv := fun a => ((a : Int), ((a + 1 : Nat) : Int), ((a + 2 : Nat) : Int), ((a + 3 : Nat) : Int))) (by omega)
    (fun k n d r e a h1 h2 => by
      rw [laws_markTermS_L26]
      simp only [mid_lt, mid_ge, mid_get, mid_set, cond_true]
      rw [w64_next (m := d.length) (by simp at h2; omega), w64_next (m := a) (by omega), w64_next (m := a + 1) (by omega), w64_next (m := a + 2) (by omega), w64_next (m := a + 3) (by omega)])
    (fun k n d a => by rw [laws_markTermS_L26, mid_end]; rfl)
    (fun _ _ _ => rfl)
def heldAnyL {γ : Type} (c : Nat) (k : Nat) : Nat → List (List γ) → Int → Int → Option (Int ⊕ (Int × Unit))
  | 0, _, _, _ => none
  | n + 1, x, a, i => (bif (decide (i < (x.length : Int))) then (bif (decide (0 ≤ i)) then (bif (decide (i < (x.length : Int))) then (Option.bind (heldAny c k (x.getD (Int.toNat i) []) a) fun r => bif (decide (r < 0)) then some (.inl (-1)) else heldAnyL c k n x r (IntKind.wrap .i64 (i + 1))) else none) else none) else some (.inr (a, ())))
theorem markTermSS_ev {x : List (List Tm)} {a : Nat} (hx : x.length < lenB) (ha : a + (x.map fun r => 4 * r.length).sum < lenB) : ∃ y, Evt (fun k _ => laws_markTermSS k x a) (((a + (x.map fun r => 4 * r.length).sum : Nat) : Int), y) := by
  obtain ⟨y, h1, _⟩ := mark_rows_all (M := laws_markTermSS_L26) (H := heldAnyL 4) (marks := laws_markTermSS) (helds := fun k x a => both (R := Int) (P := Int × Unit) (heldAnyL 4 k k x a 0) (fun q => some q) (fun y => some y.1)) markTermS_only (fun _ _ _ _ _ => rfl) (fun _ _ _ _ _ => rfl) (fun _ _ _ => rfl) (fun _ _ _ => rfl) hx ha
  exact ⟨y, h1⟩
theorem sum_four : ∀ (x : List (List Tm)), (x.map fun r => 4 * r.length).sum = 4 * (x.map List.length).sum
  | [] => rfl
  | r :: x => by simp only [List.map_cons, List.sum_cons, sum_four x]; omega
theorem Sized.marks4 {a : List (List Tm)} (h : Sized a) : 101 + (a.map fun r => 4 * r.length).sum ≤ 4000101 := by
  rw [sum_four]; unfold Sized at h; omega

section
variable {V : Type}
theorem frame_sbl {W : Type} {a : List (List Tm)} {b : Bx} {S I : Nat → List (List Tm) → Bx → Option V} {C : Nat → V → V → Option Bool → Option Bool} {M : Nat → V → (W → Option Bool) → Option Bool} {H : Nat → W → Option Bool → Option Bool} {v : V} {w : W} (ha : a.length ≤ maxLen) (hm : ∀ x ∈ a, x.length ≤ maxLen) (h1 : b.2.1.length ≤ maxLen) (h2 : b.2.2.length ≤ maxLen)
    (hC : ∀ {f : Nat → Nat → Option Bool} {r : Bool}, Evt f r → Evt (fun k n => C k v v (f k n)) r)
    (hM : ∀ {f : Nat → Nat → W → Option Bool} {r : Bool}, Evt (fun k n => f k n w) r → Evt (fun k n => M k v (f k n)) r) (hH : ∀ {f : Nat → Nat → Option Bool} {r : Bool}, Evt f r → Evt (fun k n => H k w (f k n)) r)
    (hS : a.length < 274877906944 → (∀ r ∈ a, r.length < lenB) → b.2.1.length < lenB → Evt (fun k _ => S k a b) v) (hI : a.length < lenB → (∀ r ∈ a, r.length < lenB) → b.2.1.length < lenB → Evt (fun k _ => I k a b) v) :
    Evt (fun k _ => (Option.bind (laws_szTermSS k a 1000000) fun r1 => (bif (decide (r1 < 0)) then some true else (Option.bind (laws_szBox b r1) fun r2 => (bif (decide (r2 < 0)) then some true else (Option.bind (laws_toTermSS k a false) fun r3 => (Option.bind (laws_toBox k b false) fun r4 => (Option.bind (S k (r3.1.map fun z => z.1) (r4.1, r4.2.1.1, r4.2.2.1)) fun r5 => (Option.bind (laws_toTermSS k a false) fun r6 => (Option.bind (laws_toBox k b false) fun r7 => (Option.bind (I k (r6.1.map fun z => z.1) (r7.1, r7.2.1.1, r7.2.2.1)) fun r8 => C k r5 r8 (Option.bind (laws_toTermSS k a false) fun r10 => (Option.bind (laws_intactTermSS k r6 r10) fun r11 => (bif (!r11) then some false else (Option.bind (laws_toBox k b false) fun r12 => (Option.bind (laws_intactBox k r7 r12) fun r13 => (bif (!r13) then some false else
      (Option.bind (laws_markTermSS k (r6.1.map fun z => z.1) 101) fun r14 => (Option.bind (laws_markBox k (r7.1, r7.2.1.1, r7.2.2.1) r14.1) fun r15 => (bif (decide (r15 < 0)) then some false else C k r5 r8 (M k r8 fun w => H k w (Option.bind (laws_toTermSS k a true) fun r19 => (Option.bind (laws_toBox k b true) fun r20 => (Option.bind (I k (r19.1.map fun z => z.1) (r20.1, r20.2.1.1, r20.2.2.1)) fun r21 => C k r5 r21 (H k w (some true)))))))))))))))))))))))))) true := by
  refine Evt.bind (szTermSS_ev (a := 1000000) ha hm (by omega)) ?_
  by_cases hz : a.length + (a.map List.length).sum ≤ 1000000
  · rw [if_pos hz]
    have hs : Sized a := hz
    refine Evt.cfalse (by simp <;> omega) (Evt.bind (.const (szBox_eq h1 h2 (by omega))) ?_)
    by_cases hy : b.2.1.length + b.2.2.length ≤ 1000000 - (a.length + (a.map List.length).sum)
    · rw [if_pos hy]
      refine Evt.cfalse (by simp <;> omega) ?_
      have b1 : b.2.1.length ≤ 1000000 := by omega
      have b2 : b.2.2.length ≤ 1000000 := by omega
      have hr : ∀ r ∈ a, r.length < lenB := fun r hr => by have := hs.row r hr; simp only [lenB]; omega
      have hl := hs.len
      have spec := hS (by omega) hr (by simp only [lenB]; omega)
      have impl := hI (by simp only [lenB]; omega) hr (by simp only [lenB]; omega)
      have hm4 := hs.marks4
      obtain ⟨y, hy1⟩ := markTermSS_ev (x := a) (a := 101) (by simp only [lenB]; omega) (by simp only [lenB]; omega)
      have hb1 := markBox_ev (b := b) (a := 101 + (a.map fun r => 4 * r.length).sum) (by simp only [lenB]; omega)
      refine Evt.bind (toTermSS_ev hs.len hs.row) (Evt.bind (toBox_ev b1 b2) ?_)
      simp only [toV_rows, boxR_eq]
      refine Evt.bind spec (Evt.bind (toTermSS_ev hs.len hs.row) (Evt.bind (toBox_ev b1 b2) ?_))
      simp only [toV_rows, boxR_eq]
      refine Evt.bind impl (hC (Evt.bind (toTermSS_ev hs.len hs.row) (Evt.bind (intactT_ev hs) (Evt.cfalse rfl (Evt.bind (toBox_ev b1 b2) (Evt.bind (intactBox_ev b1 b2) (Evt.cfalse rfl ?_)))))))
      refine Evt.bind hy1 (Evt.bind hb1 (Evt.cfalse (by simp <;> omega) (hC (hM (hH (Evt.bind (toTermSS_ev hs.len hs.row) (Evt.bind (toBox_ev b1 b2) ?_)))))))
      simp only [toV_rows, boxR_eq]
      exact Evt.bind impl (hC (hH .pure))
    · rw [if_neg hy]
      exact Evt.ctrue rfl .pure
  · rw [if_neg hz]
    exact Evt.ctrue rfl .pure
end
theorem held_ints {m : Nat} {w : List Int} (hH : Evt (fun k _ => laws_heldIntS k w 101) (m : Int)) {f : Nat → Nat → Option Bool} {r : Bool} (h : Evt f r) : Evt (fun k n => (Option.bind (laws_heldIntS k w 101) fun r18 => (bif (decide (r18 < 0)) then some false else (bif (r18 != (m : Int)) then some false else f k n)))) r := Evt.bind hH (Evt.cfalse (by simp <;> omega) (Evt.cfalse (by simp) h))
theorem cmp_ints {v : List Int × Bool} (hl : v.1.length < lenB) {f : Nat → Nat → Option Bool} {r : Bool} (h : Evt f r) : Evt (fun k n => (Option.bind (laws_eqIntS k v.1 v.1) fun r9 => (bif (!r9) then some false else (bif (!(v.2 == v.2)) then some false else f k n)))) r := Evt.bind (eqIntS_ev hl) (Evt.cfalse rfl (Evt.cfalse (by simp) h))

structure Pl (s : List (List Tm)) : Prop where
  ln : s.length = 2
  tm : ∀ p ∈ s, ∀ t ∈ p, tmW t
  lp : ∀ p ∈ s, p.length < lenB
theorem twoV_pl {s : List (List Tm)} (h : twoV s = true) (hm : ∀ r ∈ s, r.length < lenB) : Pl s := ⟨(twoV_len h).2, sysV_tm (twoV_len h).1, hm⟩
theorem Pl.sd {s : List (List Tm)} (h : Pl s) {e : Ed} (he : EdOk e) : Sd s (sidesE e) := Sd.edge h.tm h.lp he
theorem pow2N5 {D : Nat} (h : D ≤ 5) : 1 ≤ 2 ^ D ∧ 2 ^ D ≤ 32 := by
  have := pow5 h
  have e : ((2 ^ D : Nat) : Int) = 2 ^ D := by simp
  omega
def askV (s : List (List Tm)) (b : Bx) (d : Int) : Bool := planeV s b && decide (0 ≤ d ∧ d ≤ 5)
theorem imAsked_ev {m : List (List Tm)} {b : Bx} {d : Int} (hb : m.length < lenB) (hm : ∀ r ∈ m, r.length < lenB) (hx : b.2.1.length < lenB) : Evt (fun k _ => spec_imAsked k m b d) (askV m b d) := by
  refine Evt.eq (f := fun k q => _) ?_ (fun k q => by rw [spec_imAsked])
  refine Evt.bind (imGood_ev hb hm hx) ?_
  unfold askV
  cases planeV m b with
  | false => exact Evt.cfalse rfl .pure
  | true =>
    refine Evt.ctrue rfl (Evt.bind (.const (?_ : spec_imDepth d = some (decide (0 ≤ d ∧ d ≤ 5)))) .pure)
    unfold spec_imDepth
    rw [l1In_eq]; rfl
theorem askV_form {m : List (List Tm)} {b : Bx} {d : Int} (h : askV m b d = true) (hm : ∀ r ∈ m, r.length < lenB) : ∃ D : Nat, d = D ∧ D ≤ 5 ∧ Pl m ∧ plV b = true := by
  unfold askV planeV at h
  simp only [Bool.and_eq_true] at h
  have hd := of_decide_eq_true h.2
  exact ⟨d.toNat, by omega, by omega, twoV_pl h.1.1 hm, h.1.2⟩
end Go.Ev.G

namespace Go.Ev.G
open Go Go.Ev
set_option maxRecDepth 100000

theorem inside5_eq (d : Int) : impl_inside d 0 5 = some (decide (0 ≤ d ∧ d ≤ 5)) := inside_eq d 0 5
theorem impl_ask {V : Type} {s : List (List Tm)} {b : Bx} {d : Int} {z : V} {g : Nat → Option V} {v : V} (hb : s.length < lenB) (hm : ∀ r ∈ s, r.length < lenB) (hx : b.2.1.length < lenB) (hz : askV s b d = false → v = z) (hg : askV s b d = true → Evt (fun k _ => g k) v) :
    Evt (fun k _ => (Option.bind (impl_isPlane k s b) fun r1 => (bif (!r1) then some z else (Option.bind (impl_inside d 0 5) fun r2 => (bif (!r2) then some z else g k))))) v := by
  refine Evt.bind (isPlane_ev hb hm hx) ?_
  unfold askV at hz hg
  cases hp : planeV s b with
  | false =>
    rw [hp] at hz
    rw [hz rfl]
    exact Evt.ctrue rfl .pure
  | true =>
    rw [hp] at hz hg
    refine Evt.cfalse rfl (Evt.bind (.const (inside5_eq d)) ?_)
    cases hd : decide (0 ≤ d ∧ d ≤ 5) with
    | false =>
      rw [hd] at hz
      rw [hz rfl]
      exact Evt.ctrue rfl .pure
    | true =>
      rw [hd] at hg
      exact Evt.cfalse rfl (hg rfl)
theorem spec_ask {V : Type} {s : List (List Tm)} {b : Bx} {d : Int} {z : V} {g : Nat → Option V} {v : V} (hb : s.length < lenB) (hm : ∀ r ∈ s, r.length < lenB) (hx : b.2.1.length < lenB) (hz : askV s b d = false → v = z) (hg : askV s b d = true → Evt (fun k _ => g k) v) :
    Evt (fun k _ => (Option.bind (spec_imAsked k s b d) fun r1 => (bif (!r1) then some z else g k))) v := by
  refine Evt.bind (imAsked_ev hb hm hx) ?_
  cases hp : askV s b d with
  | false => rw [hz hp]; exact Evt.ctrue rfl .pure
  | true => exact Evt.cfalse rfl (hg hp)

theorem askV_le {s : List (List Tm)} {b : Bx} {d : Int} (h : askV s b d = true) : d.toNat ≤ 5 := by
  unfold askV at h
  rw [Bool.and_eq_true] at h
  have := of_decide_eq_true h.2
  omega
end Go.Ev.G

namespace Go.Ev.G
open Go Go.Ev
set_option maxRecDepth 100000

def halfD (a b : Int × Int) : (Int × Int) × Bool := mkD (sumN a b) (exA a b + 1)
theorem halfD_gd (a b : Int × Int) : gd (halfD a b).1 := mkD_gd _ _
theorem EdOk.left {e : Ed} (h : EdOk e) : EdOk (e.1, e.2.1, e.2.2.1, (halfD e.2.2.1 e.2.2.2).1) := ⟨h.sd, h.a, h.f, halfD_gd _ _⟩
theorem EdOk.right {e : Ed} (h : EdOk e) : EdOk (e.1, e.2.1, (halfD e.2.2.1 e.2.2.2).1, e.2.2.2) := ⟨h.sd, h.a, halfD_gd _ _, h.t⟩
end Go.Ev.G

namespace Go.Ev.G
open Go Go.Ev
set_option maxRecDepth 100000

def allO {α β : Type} (g : α → Option β) (z : β) (l : List α) : Option (List β) := if (l.all fun x => (g x).isSome) then some (l.map fun x => (g x).getD z) else none
def oL {β : Type} (o : Option (List β)) : List β × Bool := match o with
  | some l => (l, true)
  | none => ([], false)
end Go.Ev.G

namespace Go.Ev.G
open Go Go.Ev
set_option maxRecDepth 100000

theorem allO_some {α β : Type} {g : α → Option β} {z : β} {l : List α} {m : List β} (h : allO g z l = some m) : m = l.map (fun x => (g x).getD z) ∧ ∀ x ∈ l, (g x).isSome = true := by
  unfold allO at h
  split at h
  · rename_i ha
    cases h
    exact ⟨rfl, List.all_eq_true.1 ha⟩
  · cases h
theorem allO_len {α β : Type} {g : α → Option β} {z : β} {l : List α} {m : List β} (h : allO g z l = some m) : m.length = l.length := by
  rw [(allO_some h).1, List.length_map]
end Go.Ev.G

namespace Go.Ev.G
open Go Go.Ev
set_option maxRecDepth 100000

def numS (r : Int × Int) : Prop := 0 ≤ r.2 ∧ r.2 ≤ 8 ∧ r.1.natAbs ≤ 8 * 2 ^ r.2.toNat
theorem mkD_numS {v : Int} {k : Nat} (hk : k ≤ 8) (hv : v.natAbs ≤ 8 * 2 ^ k) : numS (mkD v k).1 := by
  unfold mkD
  split
  · have h1 := strip_val k v
    have h2 := strip_le k v
    refine ⟨by simp, by simp only; omega, ?_⟩
    have e : (((strip k v).2 : Int)).toNat = (strip k v).2 := by omega
    simp only
    rw [e]
    generalize (strip k v).1 = n at h1 ⊢
    generalize (strip k v).2 = j at h1 h2 ⊢
    have h3 : n.natAbs * 2 ^ (k - j) = v.natAbs := by rw [← h1, Int.natAbs_mul, Int.natAbs_pow]; rfl
    have hp : 0 < 2 ^ (k - j) := Nat.pow_pos (by decide)
    have h4 : n.natAbs * 2 ^ (k - j) ≤ (8 * 2 ^ j) * 2 ^ (k - j) := by
      rw [h3, Nat.mul_assoc, ← Nat.pow_add, show j + (k - j) = k by omega]
      exact hv
    exact Nat.le_of_mul_le_mul_right h4 hp
  · exact ⟨by simp, by simp, by simp⟩
def edS (e : Ed) : Prop := (e.1 = 0 ∨ e.1 = 1) ∧ numS e.2.1 ∧ numS e.2.2.1
theorem plV_form8 {b : Bx} (h : plV b = true) : ∃ (m : Nat) (l0 l1 h0 h1 : Int), b = ((m : Int), [l0, l1], [h0, h1]) ∧ m ≤ 3 ∧ (-(8 * 2 ^ m) ≤ l0 ∧ l0 < h0 ∧ h0 ≤ 8 * 2 ^ m) ∧ (-(8 * 2 ^ m) ≤ l1 ∧ l1 < h1 ∧ h1 ≤ 8 * 2 ^ m) := by
  obtain ⟨d8, los, his⟩ := b
  unfold plV bxV at h
  simp only [Bool.and_eq_true, decide_eq_true_eq, beq_iff_eq] at h
  obtain ⟨⟨g1, g2, g3, g4, _⟩, g5, g6⟩ := h
  match los, his, g3, g5, g4 with
  | [l0, l1], [h0, h1], _, _, g4 =>
    refine ⟨d8.toNat, l0, l1, h0, h1, by rw [Int.toNat_of_nonneg g1.1], by omega, ?_⟩
    generalize (8 : Int) * 2 ^ d8.toNat = L at g4 ⊢
    simp only [List.zip_cons_cons, List.zip_nil_left, List.all_cons, List.all_nil, Bool.and_true, Bool.and_eq_true, sideOk, decide_eq_true_eq] at g4
    omega
theorem between {m D : Nat} {l h x : Int} (hl : -(8 * 2 ^ m) ≤ l) (hlh : l < h) (hh : h ≤ 8 * 2 ^ m) (h0 : 0 ≤ x) (h1 : x ≤ 2 ^ D) : (l * 2 ^ D + x * (h - l)).natAbs ≤ 8 * 2 ^ (m + D) := by
  have hP : (0 : Int) ≤ 2 ^ D := Int.le_of_lt (Int.pow_pos (by decide))
  have e1 : l * 2 ^ D + x * (h - l) = l * (2 ^ D - x) + h * x := by rw [Int.mul_sub, Int.mul_sub, Int.mul_comm x h, Int.mul_comm x l]; omega
  have a1 : -(8 * 2 ^ m) * (2 ^ D - x) ≤ l * (2 ^ D - x) := Int.mul_le_mul_of_nonneg_right hl (by omega)
  have a2 : -(8 * 2 ^ m) * x ≤ h * x := Int.mul_le_mul_of_nonneg_right (by omega) h0
  have b1 : l * (2 ^ D - x) ≤ 8 * 2 ^ m * (2 ^ D - x) := Int.mul_le_mul_of_nonneg_right (by omega) (by omega)
  have b2 : h * x ≤ 8 * 2 ^ m * x := Int.mul_le_mul_of_nonneg_right hh h0
  have e2 : (8 : Int) * 2 ^ m * (2 ^ D - x) + 8 * 2 ^ m * x = 8 * 2 ^ m * 2 ^ D := by rw [← Int.mul_add]; congr 1; omega
  have e3 : ((8 * 2 ^ (m + D) : Nat) : Int) = 8 * 2 ^ m * 2 ^ D := by rw [Nat.pow_add, ← Nat.mul_assoc]; simp
  rw [Int.neg_mul] at a1 a2
  omega
theorem edges_S {b : Bx} {D : Nat} (h : plV b = true) (hD : D ≤ 5) : ∀ e ∈ edgesB b D, edS e := by
  obtain ⟨m, l0, l1, h0, h1, rfl, hm, g0, g1⟩ := plV_form8 h
  have side : ∀ {l hh : Int}, -(8 * 2 ^ m) ≤ l → l < hh → hh ≤ 8 * 2 ^ m → numS (mkD l m).1 ∧ numS (mkD hh m).1 ∧ ∀ x : Int, 0 ≤ x → x ≤ 2 ^ D → numS (numV m D l hh x) := by
    intro l hh a b c
    have e3 : ((8 * 2 ^ m : Nat) : Int) = 8 * 2 ^ m := by simp
    exact ⟨mkD_numS (by omega) (by omega), mkD_numS (by omega) (by omega), fun x x0 x1 => mkD_numS (by omega) (between a b c x0 x1)⟩
  obtain ⟨s1, s2, s3⟩ := side g0.1 g0.2.1 g0.2.2
  obtain ⟨t1, t2, t3⟩ := side g1.1 g1.2.1 g1.2.2
  have eP : ((2 ^ D : Nat) : Int) = 2 ^ D := by simp
  have way : ∀ {s : Int} {a : Int × Int} {g : Int → Int × Int}, (s = 0 ∨ s = 1) → numS a → (∀ x : Int, 0 ≤ x → x ≤ 2 ^ D → numS (g x)) → ∀ e ∈ wayV s a g 0 (2 ^ D), edS e := by
    intro s a g hs ha hg e he
    simp only [wayV, List.mem_map] at he
    obtain ⟨i, hi, rfl⟩ := he
    have hi2 := List.mem_range'_1.1 hi
    exact ⟨hs, ha, hg i (by omega) (by omega)⟩
  intro e he
  simp only [edgesB, List.getD_cons_zero, List.getD_cons_succ, Int.toNat_natCast, edgesV, List.mem_append] at he
  rcases he with ((he | he) | he) | he
  · exact way (.inr rfl) t1 s3 e he
  · exact way (.inl rfl) s2 t3 e he
  · exact way (.inr rfl) t2 (fun x x0 x1 => s3 _ (by omega) (by omega)) e he
  · exact way (.inl rfl) s1 (fun x x0 x1 => t3 _ (by omega) (by omega)) e he

def ptE (e : Ed) : List (Int × Int) := if e.1 = 1 then [e.2.2.1, e.2.1] else [e.2.1, e.2.2.1]
theorem ptE_len (e : Ed) : (ptE e).length = 2 := by unfold ptE; split <;> rfl
theorem ptE_V {e : Ed} (h : edS e) : ∃ M : Nat, M ≤ 8 ∧ kMax (ptE e) = M ∧ ptV M (ptE e) := by
  obtain ⟨_, h1, h2⟩ := h
  have gen : ∀ x y : Int × Int, numS x → numS y → ∃ M : Nat, M ≤ 8 ∧ kMax [x, y] = M ∧ ptV M [x, y] := by
    intro x y hx hy
    obtain ⟨a1, a2, a3⟩ := hx
    obtain ⟨b1, b2, b3⟩ := hy
    refine ⟨(max x.2 y.2).toNat, by omega, ?_, ?_⟩
    · simp only [kMax, List.foldl_cons, List.foldl_nil]
      omega
    · intro z hz
      simp only [List.mem_cons, List.not_mem_nil, or_false] at hz
      rcases hz with rfl | rfl
      · exact ⟨a1, by omega, a3⟩
      · exact ⟨b1, by omega, b3⟩
  unfold ptE
  split
  · exact gen _ _ h2 h1
  · exact gen _ _ h1 h2
def qq (a b : Int) : Option Int := if a = 0 ∧ b = 0 then none else some (if 0 < a ∧ 0 ≤ b then 0 else if a ≤ 0 ∧ 0 < b then 1 else if a < 0 then 2 else 3)
theorem qq_scale {a b W : Int} (hW : 0 < W) : qq (a * W) (b * W) = qq a b := by
  have z : ∀ x : Int, (x * W = 0 ↔ x = 0) := fun x => ⟨fun h => by rcases Int.mul_eq_zero.1 h with h | h <;> omega, fun h => by rw [h, Int.zero_mul]⟩
  have p : ∀ x : Int, (0 < x * W ↔ 0 < x) := fun x => ⟨fun h => by
    rcases Int.lt_or_le 0 x with h2 | h2
    · exact h2
    · have := Int.mul_le_mul_of_nonneg_right h2 (Int.le_of_lt hW)
      rw [Int.zero_mul] at this
      omega, fun h => Int.mul_pos h hW⟩
  have n : ∀ x : Int, (x * W < 0 ↔ x < 0) := fun x => by
    have := z x
    have := p x
    omega
  have e1 : ∀ x : Int, (0 ≤ x * W ↔ 0 ≤ x) := fun x => by have := n x; omega
  have e2 : ∀ x : Int, (x * W ≤ 0 ↔ x ≤ 0) := fun x => by have := p x; omega
  unfold qq
  simp only [z, p, n, e1, e2]
theorem cmp_neg {a : Int} (h : a < 0) : cmpI a 0 = -1 := by unfold cmpI; rw [if_pos h]
theorem cmp_nul {a : Int} (h : a = 0) : cmpI a 0 = 0 := by unfold cmpI; rw [if_neg (by omega), if_neg (by omega)]
theorem cmp_pos {a : Int} (h : 0 < a) : cmpI a 0 = 1 := by unfold cmpI; rw [if_neg (by omega), if_pos h]
theorem imQuarter_eq (a b : Int) : spec_imQuarter (cmpI a 0) (cmpI b 0) = some (match qq a b with | some q => (q, true) | none => (3, false)) := by
  rcases Int.lt_trichotomy a 0 with h | h | h <;> rcases Int.lt_trichotomy b 0 with h2 | h2 | h2
  · have e : qq a b = some 2 := by
      unfold qq
      repeat' split
      all_goals first | rfl | omega
    rw [cmp_neg h, cmp_neg h2, e]
    rfl
  · have e : qq a b = some 2 := by
      unfold qq
      repeat' split
      all_goals first | rfl | omega
    rw [cmp_neg h, cmp_nul h2, e]
    rfl
  · have e : qq a b = some 1 := by
      unfold qq
      repeat' split
      all_goals first | rfl | omega
    rw [cmp_neg h, cmp_pos h2, e]
    rfl
  · have e : qq a b = some 3 := by
      unfold qq
      repeat' split
      all_goals first | rfl | omega
    rw [cmp_nul h, cmp_neg h2, e]
    rfl
  · have e : qq a b = none := by
      unfold qq
      repeat' split
      all_goals first | rfl | omega
    rw [cmp_nul h, cmp_nul h2, e]
    rfl
  · have e : qq a b = some 1 := by
      unfold qq
      repeat' split
      all_goals first | rfl | omega
    rw [cmp_nul h, cmp_pos h2, e]
    rfl
  · have e : qq a b = some 3 := by
      unfold qq
      repeat' split
      all_goals first | rfl | omega
    rw [cmp_pos h, cmp_neg h2, e]
    rfl
  · have e : qq a b = some 0 := by
      unfold qq
      repeat' split
      all_goals first | rfl | omega
    rw [cmp_pos h, cmp_nul h2, e]
    rfl
  · have e : qq a b = some 0 := by
      unfold qq
      repeat' split
      all_goals first | rfl | omega
    rw [cmp_pos h, cmp_pos h2, e]
    rfl
theorem quarter_eq {a b q : Int} (h : qq a b = some q) : impl_quarter a b = some q := by
  unfold qq at h
  split at h
  · cases h
  · rename_i hz
    cases h
    unfold impl_quarter
    by_cases h1 : a > 0
    · rw [decide_eq_true h1, cond_true]
      by_cases h2 : b ≥ 0
      · rw [decide_eq_true h2, cond_true, if_pos ⟨h1, h2⟩]
      · rw [decide_eq_false h2, cond_false, decide_eq_false (by omega), cond_false, decide_eq_false (by omega), cond_false, if_neg (by omega), if_neg (by omega), if_neg (by omega)]
    · rw [decide_eq_false h1, cond_false, decide_eq_true (by omega), cond_true, if_neg (by omega)]
      by_cases h2 : b > 0
      · rw [decide_eq_true h2, cond_true, if_pos ⟨by omega, h2⟩]
      · rw [decide_eq_false h2, cond_false, if_neg (by omega)]
        by_cases h3 : a < 0
        · rw [decide_eq_true h3, cond_true, if_pos h3]
        · rw [decide_eq_false h3, cond_false, if_neg h3]
end Go.Ev.G

namespace Go.Ev.G
open Go Go.Ev
set_option maxRecDepth 100000

theorem two_tmS {s : List (List Tm)} (h : twoV s = true) : ∃ p0 p1, s = [p0, p1] ∧ (p0.length ≤ 20 ∧ ∀ t ∈ p0, tmS 2 t) ∧ (p1.length ≤ 20 ∧ ∀ t ∈ p1, tmS 2 t) := by
  obtain ⟨hs, hl⟩ := twoV_len h
  have gen : ∀ p ∈ s, p.length ≤ 20 ∧ ∀ t ∈ p, tmS 2 t := by
    intro p hp
    unfold sysV at hs
    rw [Bool.and_eq_true, List.all_eq_true] at hs
    have h1 := hs.1 p hp
    rw [Bool.and_eq_true, hl] at h1
    refine ⟨polyV_len h1.1, fun t ht => ?_⟩
    have hg := polyV_gd h1.1 t ht
    have hz : t.2.2.2 = 0 := by
      have h2 := h1.2
      simp only [needs, big, Bool.not_eq_true', Bool.or_eq_false_iff, Bool.and_eq_false_iff, List.any_eq_false] at h2
      have h3 := h2.2.2
      rcases h3 with h3 | h3
      · simp at h3
      · have := h3 t ht
        simp [pw] at this
        have := hg.2.2.2.1
        omega
    obtain ⟨c, x, y, z, d⟩ := hg
    have hd : degT t ≤ 4 := by unfold degT; omega
    refine ⟨x.1, y.1, z.1, hd, ?_, fun _ => by omega, fun _ => by omega, fun h => by omega⟩
    have h1 : 2 ^ (3 * degT t) ≤ 2 ^ 12 := Nat.pow_le_pow_right (by decide) (by omega)
    exact Nat.le_trans (Nat.mul_le_mul (show t.1.natAbs ≤ 1000 by omega) h1) (by decide)
  match s, hl with
  | [p0, p1], _ => exact ⟨p0, p1, rfl, gen p0 (by simp), gen p1 (by simp)⟩

def cqO (p0 p1 : List Tm) (e : Ed) : Option Int := qq (scV p0 (ptE e)) (scV p1 (ptE e))
theorem signs_ev {p0 p1 : List Tm} {pt : List (Int × Int)} {M : Nat} (hM : M ≤ 9) (h0 : p0.length ≤ 20 ∧ ∀ t ∈ p0, tmS 2 t) (h1 : p1.length ≤ 20 ∧ ∀ t ∈ p1, tmS 2 t) (hl : pt.length = 2) (hp : ptV M pt) (hk : kMax pt = M) :
    Evt (fun k _ => spec_vaSigns k [p0, p1] pt) [cmpI ((p0.map (vaT M pt)).sum) 0, cmpI ((p1.map (vaT M pt)).sum) 0] := by
  have v0 := vaSum_ev hM h0.1 (by omega) (by rw [hl]; exact h0.2) hp hk
  have v1 := vaSum_ev hM h1.1 (by omega) (by rw [hl]; exact h1.2) hp hk
  refine Evt.eq (f := fun k q => _) ?_ (fun k q => by rw [spec_vaSigns])
  have l : Evt (fun k n => spec_vaSigns_L58 k n pt [] [p0, p1] (([p0, p1] : List (List Tm)).length : Int) 0) (.inr ([cmpI ((p0.map (vaT M pt)).sum) 0, cmpI ((p1.map (vaT M pt)).sum) 0], ())) := by
    have w1 : IntKind.wrap .i64 ((0 : Int) + 1) = 1 := by decide
    have w2 : IntKind.wrap .i64 ((1 : Int) + 1) = 2 := by decide
    have c2 : (([p0, p1] : List (List Tm)).length : Int) = 2 := rfl
    rw [c2]
    refine Evt.step (fun k n => spec_vaSigns_L58.eq_2 k _ _ _ _ _ n) (Evt.ctrue (by decide) (Evt.ctrue (by decide) (Evt.ctrue (decide_eq_true (by rw [c2]; decide)) (Evt.bind v0 (Evt.bind (.const (sign_eq _)) (Evt.ctrue (decide_eq_true (by simp)) ?_))))))
    rw [w1]
    refine Evt.step (fun k n => spec_vaSigns_L58.eq_2 k _ _ _ _ _ n) (Evt.ctrue (by decide) (Evt.ctrue (by decide) (Evt.ctrue (decide_eq_true (by rw [c2]; decide)) (Evt.bind v1 (Evt.bind (.const (sign_eq _)) (Evt.ctrue (decide_eq_true (by simp)) ?_))))))
    rw [w2]
    exact Evt.step (fun k n => spec_vaSigns_L58.eq_2 k _ _ _ _ _ n) (Evt.cfalse (by decide) .pure)
  exact Evt.inr (Evt.diag l) .pure

theorem cqO_eq {p0 p1 : List Tm} {e : Ed} {M : Nat} (hM : M ≤ 9) (h0 : ∀ t ∈ p0, tmS 2 t) (h1 : ∀ t ∈ p1, tmS 2 t) (hp : ptV M (ptE e)) : cqO p0 p1 e = qq ((p0.map (vaT M (ptE e))).sum) ((p1.map (vaT M (ptE e))).sum) := by
  unfold cqO
  have hl := ptE_len e
  rw [scV_va hM (by omega) (by rw [hl]; exact h0) hp, scV_va hM (by omega) (by rw [hl]; exact h1) hp]
  exact qq_scale (Int.pow_pos (Int.pow_pos (by decide)))

theorem spec_corner_loop {p0 p1 : List Tm} (h0 : p0.length ≤ 20 ∧ ∀ t ∈ p0, tmS 2 t) (h1 : p1.length ≤ 20 ∧ ∀ t ∈ p1, tmS 2 t) {es : List Ed} (he : ∀ e ∈ es, edS e) (hb : es.length ≤ 1000) : ∀ (r d : List Ed), d ++ r = es →
    Evt (fun k n => spec_CornerQuarters_L122 k n [p0, p1] (d.map fun e => (cqO p0 p1 e).getD 0) es (es.length : Int) d.length) (if (r.all fun e => (cqO p0 p1 e).isSome) then .inr (es.map fun e => (cqO p0 p1 e).getD 0, ()) else .inl ([], false)) := by
  intro r
  induction r with
  | nil =>
    intro d h
    refine Evt.step (fun k n => spec_CornerQuarters_L122.eq_2 k _ _ _ _ _ n) ?_
    rw [List.append_nil] at h
    subst h
    exact Evt.rng0 .pure
  | cons e r ih =>
    intro d h
    have hxl := congrArg List.length h
    simp at hxl
    have ih := ih (d ++ [e]) (by simpa using h)
    rw [← len_next (r := r) (by rw [h]; simp only [lenB]; omega), List.map_append] at ih
    have hes := he e (by rw [← h]; simp)
    obtain ⟨M, hM, hk, hp⟩ := ptE_V hes
    have g : es.getD (Int.toNat (d.length : Int)) (0, (0, 0), (0, 0), 0, 0) = e := by rw [← h]; exact mid_get
    refine Evt.step (fun k n => spec_CornerQuarters_L122.eq_2 k _ _ _ _ _ n) ?_
    rw [g]
    have hpt : ∀ (x8 : List Int) (x23 x24 : Int), (bif (e.1 == 1) then some (Sum.inr ([p0, p1], x8, ([e.2.2.1, e.2.1] : List (Int × Int)), es, x23, x24, ())) else some (Sum.inr ([p0, p1], x8, ([e.2.1, e.2.2.1] : List (Int × Int)), es, x23, x24, ())) : Option ((List Int × Bool) ⊕ (List (List Tm) × List Int × List (Int × Int) × List Ed × Int × Int × Unit))) = some (.inr ([p0, p1], x8, ptE e, es, x23, x24, ())) := by
      intro x8 x23 x24
      unfold ptE
      rcases hes.1 with hz | hz
      · rw [hz]; rfl
      · rw [hz]; rfl
    refine Evt.ctrue (by rw [← h]; exact mid_lt) (Evt.ctrue mid_ge (Evt.ctrue (by rw [← h]; exact mid_lt) (Evt.inr (.const (hpt _ _ _)) ?_)))
    refine Evt.bind (signs_ev (by omega) h0 h1 (ptE_len e) hp hk) (Evt.ctrue (decide_eq_true (by simp)) (Evt.ctrue (decide_eq_true (by simp)) ?_))
    have hq := cqO_eq (e := e) (M := M) (by omega) h0.2 h1.2 hp
    refine Evt.bind (.const (imQuarter_eq _ _)) ?_
    rw [← hq]
    cases ho : cqO p0 p1 e with
    | none =>
      simp only [List.all_cons, ho, Option.isSome_none, Bool.false_and]
      exact Evt.ctrue rfl .pure
    | some v =>
      simp only [List.map_cons, List.map_nil, ho] at ih
      simp only [List.all_cons, ho, Option.isSome_some, Bool.true_and]
      exact Evt.cfalse rfl (Evt.ctrue (decide_eq_true (by simp; omega)) ih)

theorem impl_corner_loop {p0 p1 : List Tm} (h0 : p0.length ≤ 20 ∧ ∀ t ∈ p0, tmS 2 t) (h1 : p1.length ≤ 20 ∧ ∀ t ∈ p1, tmS 2 t) {es : List Ed} (he : ∀ e ∈ es, edS e) (hb : es.length ≤ 1000) : ∀ (r d : List Ed), d ++ r = es →
    Evt (fun k n => impl_CornerQuarters_L122 k n [p0, p1] (d.map fun e => (cqO p0 p1 e).getD 0) es (es.length : Int) d.length) (if (r.all fun e => (cqO p0 p1 e).isSome) then .inr (es.map fun e => (cqO p0 p1 e).getD 0, ()) else .inl ([], false)) := by
  intro r
  induction r with
  | nil =>
    intro d h
    refine Evt.step (fun k n => impl_CornerQuarters_L122.eq_2 k _ _ _ _ _ n) ?_
    rw [List.append_nil] at h
    subst h
    exact Evt.rng0 .pure
  | cons e r ih =>
    intro d h
    have hxl := congrArg List.length h
    simp at hxl
    have ih := ih (d ++ [e]) (by simpa using h)
    rw [← len_next (r := r) (by rw [h]; simp only [lenB]; omega), List.map_append] at ih
    have hes := he e (by rw [← h]; simp)
    obtain ⟨M, hM, hk, hp⟩ := ptE_V hes
    have g : es.getD (Int.toNat (d.length : Int)) (0, (0, 0), (0, 0), 0, 0) = e := by rw [← h]; exact mid_get
    refine Evt.step (fun k n => impl_CornerQuarters_L122.eq_2 k _ _ _ _ _ n) ?_
    rw [g]
    have hpt : ∀ (x8 : List Int) (x23 x24 : Int), (bif (e.1 == 1) then some (Sum.inr ([p0, p1], x8, ([e.2.2.1, e.2.1] : List (Int × Int)), es, x23, x24, ())) else some (Sum.inr ([p0, p1], x8, ([e.2.1, e.2.2.1] : List (Int × Int)), es, x23, x24, ())) : Option ((List Int × Bool) ⊕ (List (List Tm) × List Int × List (Int × Int) × List Ed × Int × Int × Unit))) = some (.inr ([p0, p1], x8, ptE e, es, x23, x24, ())) := by
      intro x8 x23 x24
      unfold ptE
      rcases hes.1 with hz | hz
      · rw [hz]; rfl
      · rw [hz]; rfl
    have hpS := ptV_S (M := M) (by omega) hp
    have hl := ptE_len e
    have s0 := scaledAt_ev (p := p0) (pt := ptE e) h0.1 (by rw [hl]; exact h0.2) hpS
    have s1 := scaledAt_ev (p := p1) (pt := ptE e) h1.1 (by rw [hl]; exact h1.2) hpS
    refine Evt.ctrue (by rw [← h]; exact mid_lt) (Evt.ctrue mid_ge (Evt.ctrue (by rw [← h]; exact mid_lt) (Evt.inr (.const (hpt _ _ _)) ?_)))
    refine Evt.ctrue (decide_eq_true (by simp)) (Evt.bind s0 (Evt.ctrue (decide_eq_true (by simp)) (Evt.bind s1 ?_)))
    dsimp only
    cases ho : cqO p0 p1 e with
    | none =>
      have hz : scV p0 (ptE e) = 0 ∧ scV p1 (ptE e) = 0 := by
        unfold cqO qq at ho
        split at ho
        · assumption
        · cases ho
      simp only [List.all_cons, ho, Option.isSome_none, Bool.false_and]
      rw [hz.1, hz.2]
      exact Evt.inl (.const rfl) .pure
    | some v =>
      have hz : ¬ (scV p0 (ptE e) = 0 ∧ scV p1 (ptE e) = 0) := by
        intro hz
        unfold cqO qq at ho
        rw [if_pos hz] at ho
        cases ho
      have hq := quarter_eq ho
      simp only [List.map_cons, List.map_nil, ho] at ih
      simp only [List.all_cons, ho, Option.isSome_some, Bool.true_and]
      generalize scV p0 (ptE e) = a at hz hq ⊢
      generalize scV p1 (ptE e) = b at hz hq ⊢
      refine Evt.inr (y := ([p0, p1], (d.map fun e => (cqO p0 p1 e).getD 0), a, b, es, (es.length : Int), (d.length : Int), ())) (.const ?_) ?_
      · by_cases ha : a = 0
        · have hb2 : b ≠ 0 := fun hb => hz ⟨ha, hb⟩
          rw [show (a == 0) = true from beq_iff_eq.2 ha, cond_true, show (b == 0) = false from beq_eq_false_iff_ne.2 hb2, cond_false]
        · rw [show (a == 0) = false from beq_eq_false_iff_ne.2 ha, cond_false]
      · exact Evt.bind (.const hq) (Evt.ctrue (decide_eq_true (by simp; omega)) ih)

def cnV (s : List (List Tm)) (b : Bx) (d : Int) : List Int × Bool := if askV s b d then oL (allO (cqO (s.getD 0 []) (s.getD 1 [])) 0 (edgesB b d.toNat)) else ([], false)
theorem askV_two {s : List (List Tm)} {b : Bx} {d : Int} (h : askV s b d = true) : twoV s = true := by
  unfold askV planeV at h
  simp only [Bool.and_eq_true] at h
  exact h.1.1
theorem cnV_len (s : List (List Tm)) (b : Bx) (d : Int) : (cnV s b d).1.length ≤ 128 := by
  unfold cnV
  split
  · rename_i h
    have hd := askV_le h
    cases ho : allO (cqO (s.getD 0 []) (s.getD 1 [])) 0 (edgesB b d.toNat) with
    | none => simp [oL]
    | some l =>
      simp only [oL]
      rw [allO_len ho, edgesB_len]
      have := (pow2N5 hd).2
      omega
  · simp
theorem spec_corner_ev {s : List (List Tm)} {b : Bx} {d : Int} (hb : s.length < lenB) (hm : ∀ r ∈ s, r.length < lenB) (hx : b.2.1.length < lenB) : Evt (fun k _ => spec_CornerQuarters k s b d) (cnV s b d) := by
  refine Evt.eq (f := fun k q => _) ?_ (fun k q => by rw [spec_CornerQuarters])
  refine spec_ask hb hm hx (fun h => by unfold cnV; rw [h]; rfl) (fun h => ?_)
  obtain ⟨p0, p1, hs2, h0, h1⟩ := two_tmS (askV_two h)
  obtain ⟨D, rfl, hD, _, hp⟩ := askV_form h hm
  unfold cnV
  rw [h, if_pos rfl]
  subst hs2
  have hl := edgesB_len b D
  have h2 := (pow2N5 hD).2
  have key := spec_corner_loop h0 h1 (edges_S hp hD) (by omega) (edgesB b D) [] rfl
  simp only [List.map_nil, List.length_nil] at key
  refine Evt.bind (imEdgesB_ev hp hD) ?_
  have e : ((D : Nat) : Int).toNat = D := by omega
  rw [e]
  simp only [List.getD_cons_zero, List.getD_cons_succ]
  unfold allO
  cases ha : (edgesB b D).all fun e => (cqO p0 p1 e).isSome with
  | true => rw [ha] at key; exact Evt.inr (Evt.diag key) .pure
  | false => rw [ha] at key; exact Evt.inl (Evt.diag key) .pure
theorem impl_corner_ev {s : List (List Tm)} {b : Bx} {d : Int} (hb : s.length < lenB) (hm : ∀ r ∈ s, r.length < lenB) (hx : b.2.1.length < lenB) : Evt (fun k _ => impl_CornerQuarters k s b d) (cnV s b d) := by
  refine Evt.eq (f := fun k q => _) ?_ (fun k q => by rw [impl_CornerQuarters])
  refine impl_ask hb hm hx (fun h => by unfold cnV; rw [h]; rfl) (fun h => ?_)
  obtain ⟨p0, p1, hs2, h0, h1⟩ := two_tmS (askV_two h)
  obtain ⟨D, rfl, hD, _, hp⟩ := askV_form h hm
  unfold cnV
  rw [h, if_pos rfl]
  subst hs2
  have hl := edgesB_len b D
  have h2 := (pow2N5 hD).2
  have key := impl_corner_loop h0 h1 (edges_S hp hD) (by omega) (edgesB b D) [] rfl
  simp only [List.map_nil, List.length_nil] at key
  refine Evt.bind (boundaryEdgesB_ev hp hD) ?_
  have e : ((D : Nat) : Int).toNat = D := by omega
  rw [e]
  simp only [List.getD_cons_zero, List.getD_cons_succ]
  unfold allO
  cases ha : (edgesB b D).all fun e => (cqO p0 p1 e).isSome with
  | true => rw [ha] at key; exact Evt.inr (Evt.diag key) .pure
  | false => rw [ha] at key; exact Evt.inl (Evt.diag key) .pure
theorem cornerQuarters_row (a : List (List Tm)) (b : Bx) (d : Int) (h : WfT (.sl (.sl tTerm)) a) (hb : WfT tBox b) (_ : WfT (.int .i64) d) : ∃ k, laws_FnExactCornerQuarters k a b d = some true := by
  have hl := cnV_len a b d
  obtain ⟨y, hy1, hy2, _⟩ := markIntS_ok (cnV a b d).1 101 (by simp only [lenB]; omega)
  exact Evt.get (Evt.eq (frame_sbl (S := fun k a b => spec_CornerQuarters k a b d) (I := fun k a b => impl_CornerQuarters k a b d) (C := fun k r5 r8 x => (Option.bind (laws_eqIntS k r8.1 r5.1) fun r9 => (bif (!r9) then some false else (bif (!(r8.2 == r5.2)) then some false else x)))) (W := Int × List Int) (M := fun k r8 f => Option.bind (laws_markIntS k r8.1 101) fun r17 => f r17) (H := fun k w x => (Option.bind (laws_heldIntS k w.2 101) fun r18 => (bif (decide (r18 < 0)) then some false else (bif (r18 != w.1) then some false else x)))) (v := cnV a b d) (w := (((101 + 1 * (cnV a b d).1.length : Nat) : Int), y)) h.1 (fun x hx => (h.2 x hx).1) hb.2.1.1 hb.2.2.1 (cmp_ints (by simp only [lenB]; omega)) (fun hf => Evt.bind hy1 hf) (fun hf => held_ints hy2 hf)
    (fun h1 h2 h3 => spec_corner_ev (by simp only [lenB]; omega) h2 h3) (fun h1 h2 h3 => impl_corner_ev h1 h2 h3)) (fun k _ => rfl))
end Go.Ev.G

