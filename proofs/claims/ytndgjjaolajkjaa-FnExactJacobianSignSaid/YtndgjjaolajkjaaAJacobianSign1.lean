/- What the plain functions of the law compute, for all inputs within the sizes that the theorems name. -/
import Derived.Test.YtndgjjaolajkjaaPJacobianSign1
import Derived.IntWalk
import Derived.Laws.Bits64
import Derived.KernelRfl
set_option linter.unusedVariables false
namespace Go.Ev
open Go

def Evt {α : Type} (f : Nat → Nat → Option α) (r : α) : Prop := ∃ k0, ∀ k n, k0 ≤ k → k0 ≤ n → f k n = some r

section
variable {α β γ δ : Type}

theorem Evt.const {o : Option α} {r : α} (h : o = some r) : Evt (fun _ _ => o) r := ⟨0, fun _ _ _ _ => h⟩
theorem Evt.pure {r : α} : Evt (fun _ _ => some r) r := ⟨0, fun _ _ _ _ => rfl⟩
theorem Evt.bind {f : Nat → Nat → Option α} {g : Nat → Nat → α → Option β} {a : α} {r : β} (h : Evt f a) (h' : Evt (fun k n => g k n a) r) : Evt (fun k n => Option.bind (f k n) fun x => g k n x) r := by
  obtain ⟨k1, h1⟩ := h
  obtain ⟨k2, h2⟩ := h'
  refine ⟨max k1 k2, fun k n hk hn => ?_⟩
  exact (congrArg (fun o => Option.bind o fun x => g k n x) (h1 k n (by omega) (by omega))).trans (h2 k n (by omega) (by omega))
theorem Evt.inr {R P A : Type} {f : Nat → Nat → Option (R ⊕ P)} {G : Nat → Nat → R → Option A} {K : Nat → Nat → P → Option A} {y : P} {r : A} (h : Evt f (.inr y)) (h' : Evt (fun k n => K k n y) r) : Evt (fun k n => both (f k n) (G k n) (K k n)) r := by
  obtain ⟨k1, h1⟩ := h
  obtain ⟨k2, h2⟩ := h'
  refine ⟨max k1 k2, fun k n hk hn => ?_⟩
  exact (congrArg (fun o => both o (G k n) (K k n)) (h1 k n (by omega) (by omega))).trans (h2 k n (by omega) (by omega))
theorem Evt.inl {R P A : Type} {f : Nat → Nat → Option (R ⊕ P)} {G : Nat → Nat → R → Option A} {K : Nat → Nat → P → Option A} {q : R} {r : A} (h : Evt f (.inl q)) (h' : Evt (fun k n => G k n q) r) : Evt (fun k n => both (f k n) (G k n) (K k n)) r := by
  obtain ⟨k1, h1⟩ := h
  obtain ⟨k2, h2⟩ := h'
  refine ⟨max k1 k2, fun k n hk hn => ?_⟩
  exact (congrArg (fun o => both o (G k n) (K k n)) (h1 k n (by omega) (by omega))).trans (h2 k n (by omega) (by omega))
theorem Evt.ctrue {c : Bool} {f g : Nat → Nat → Option α} {r : α} (hc : c = true) (h : Evt f r) : Evt (fun k n => bif c then f k n else g k n) r := by subst hc; exact h
theorem Evt.cfalse {c : Bool} {f g : Nat → Nat → Option α} {r : α} (hc : c = false) (h : Evt g r) : Evt (fun k n => bif c then f k n else g k n) r := by subst hc; exact h
theorem Evt.diag {f : Nat → Nat → Option α} {r : α} (h : Evt f r) : Evt (fun k _ => f k k) r := by
  obtain ⟨k1, h1⟩ := h
  exact ⟨k1, fun k n hk _ => h1 k k hk hk⟩
theorem Evt.step {L F : Nat → Nat → Option α} {r : α} (hL : ∀ k n, L k (n + 1) = F k n) (h : Evt F r) : Evt L r := by
  obtain ⟨k1, h1⟩ := h
  refine ⟨k1 + 1, fun k n hk hn => ?_⟩
  obtain ⟨m, rfl⟩ : ∃ m, n = m + 1 := ⟨n - 1, by omega⟩
  rw [hL]
  exact h1 k m (by omega) (by omega)
theorem Evt.eq {f g : Nat → Nat → Option α} {r : α} (h : Evt f r) (e : ∀ k n, g k n = f k n) : Evt g r := by
  obtain ⟨k1, h1⟩ := h
  exact ⟨k1, fun k n hk hn => by rw [e]; exact h1 k n hk hn⟩
theorem Evt.get {f : Nat → Option α} {r : α} (h : Evt (fun k _ => f k) r) : ∃ k, f k = some r := by
  obtain ⟨k1, h1⟩ := h
  exact ⟨k1, h1 k1 k1 (Nat.le_refl _) (Nat.le_refl _)⟩
end

def lenB : Nat := 4611686018427387904
theorem w64 {n : Int} (h0 : -9223372036854775808 ≤ n) (h1 : n ≤ 9223372036854775807) : IntKind.wrap .i64 n = n := by rw [IntKind.wrap_i64]; omega
theorem w64_next {m : Nat} (h : m < lenB) : IntKind.wrap .i64 ((m : Int) + 1) = ((m + 1 : Nat) : Int) := by
  simp only [lenB] at h
  rw [w64] <;> omega
theorem wu64 {n : Int} (h0 : 0 ≤ n) (h1 : n ≤ 18446744073709551615) : IntKind.wrap .u64 n = n := by
  rw [IntKind.wrap_u64]; omega

section
variable {α : Type}
theorem mid_lt {d r : List α} {e : α} : decide ((d.length : Int) < ((d ++ e :: r).length : Int)) = true := by simp; omega
theorem mid_ge {m : Nat} : decide ((0 : Int) ≤ (m : Int)) = true := by simp
theorem mid_get {d r : List α} {e z : α} : (d ++ e :: r).getD (Int.toNat (d.length : Int)) z = e := by simp
theorem mid_set {d r : List α} {e v : α} : (d ++ e :: r).set (Int.toNat (d.length : Int)) v = d ++ v :: r := by simp
theorem mid_end {d : List α} : decide ((d.length : Int) < (d.length : Int)) = false := by simp
end
end Go.Ev

namespace Go.Ev
open Go

def roomN (n : Nat) : Nat := if n % 6 = 5 then 0 else if n % 3 = 0 then 1 else n

def toV {β γ : Type} (f : β → γ) (v : γ) (a : List β) (b : Bool) : List γ × List γ := if b = true ∧ a = [] then ([], []) else (a.map f, List.replicate (roomN a.length) v)

section
variable {β γ R : Type}

theorem to_loop {dβ : β} {L : Nat → Nat → List β → List γ → Int → Option (R ⊕ (List β × List γ × Unit))} {F : Nat → β → Option γ} {f : β → γ}
    (hL : ∀ k n x0 x5 x6, L k (n + 1) x0 x5 x6 = (bif (decide (x6 < (x0.length : Int))) then (bif (decide (0 ≤ x6)) then (bif (decide (x6 < (x0.length : Int))) then (Option.bind (F k (x0.getD (Int.toNat x6) dβ)) fun r3 => (bif (decide (0 ≤ x6)) then (bif (decide (x6 < (x5.length : Int))) then (L k n x0 (x5.set (Int.toNat x6) r3) (IntKind.wrap .i64 (x6 + 1))) else none) else none)) else none) else none) else some (Sum.inr (x0, x5, ())))) :
    ∀ (r d : List β) (d' r' : List γ), d'.length = d.length → r.length ≤ r'.length → (d ++ r).length < lenB → (∀ x ∈ r, Evt (fun k _ => F k x) (f x)) →
      Evt (fun k n => L k n (d ++ r) (d' ++ r') d.length) (.inr (d ++ r, d' ++ r.map f ++ r'.drop r.length, ()))
  | [], d, d', r', h1, h2, h3, h4 => by
    refine Evt.step (fun k n => hL k n _ _ _) ?_
    simp only [List.append_nil, mid_end, List.map_nil, List.length_nil, List.drop_zero]
    exact Evt.cfalse rfl .pure
  | x :: r, d, d', [], h1, h2, h3, h4 => by simp at h2
  | x :: r, d, d', y :: r', h1, h2, h3, h4 => by
    refine Evt.step (fun k n => hL k n _ _ _) ?_
    refine Evt.ctrue mid_lt (Evt.ctrue mid_ge (Evt.ctrue mid_lt ?_))
    rw [mid_get]
    refine Evt.bind (h4 x (by simp)) (Evt.ctrue mid_ge (Evt.ctrue (by rw [← h1]; exact mid_lt) ?_))
    rw [← h1, mid_set, w64_next (by simp at h3; omega), h1]
    have := to_loop hL r (d ++ [x]) (d' ++ [f x]) r' (by simp [h1]) (by simpa using h2) (by simpa using h3) (fun z hz => h4 z (by simp [hz]))
    simpa using this

theorem fill_loop {x0 : β} {v : γ} {L : Nat → Nat → List γ → Int → Option (R ⊕ (β × List γ × Unit))}
    (hL : ∀ k n x5 x7, L k (n + 1) x5 x7 = (bif (decide (x7 < (x5.length : Int))) then (bif (decide (0 ≤ x7)) then (bif (decide (x7 < (x5.length : Int))) then (L k n (x5.set (Int.toNat x7) v) (IntKind.wrap .i64 (x7 + 1))) else none) else none) else some (Sum.inr (x0, x5, ())))) :
    ∀ (r d : List γ), (d ++ r).length < lenB → Evt (fun k n => L k n (d ++ r) d.length) (.inr (x0, d ++ List.replicate r.length v, ()))
  | [], d, h => by
    refine Evt.step (fun k n => hL k n _ _) ?_
    simp only [List.append_nil, mid_end, List.length_nil, List.replicate_zero]
    exact Evt.cfalse rfl .pure
  | x :: r, d, h => by
    refine Evt.step (fun k n => hL k n _ _) ?_
    refine Evt.ctrue mid_lt (Evt.ctrue mid_ge (Evt.ctrue mid_lt ?_))
    rw [mid_set, w64_next (by simp at h; omega)]
    have := fill_loop hL r (d ++ [v]) (by simpa using h)
    simpa [List.replicate_succ] using this

theorem to_all {dβ : β} {dγ v : γ} {T : Nat → Option (List γ × List γ)} {room : Int → Option Int} {F : Nat → β → Option γ} {f : β → γ} {a : List β} {b : Bool}
    {L1 : Nat → Nat → List β → List γ → Int → Option ((List γ × List γ) ⊕ (List β × List γ × Unit))} {L2 : Nat → Nat → List β → List γ → Int → Option ((List γ × List γ) ⊕ (List β × List γ × Unit))}
    (hroom : ∀ n : Nat, room n = some (roomN n : Int))
    (hL1 : ∀ k n x0 x5 x6, L1 k (n + 1) x0 x5 x6 = (bif (decide (x6 < (x0.length : Int))) then (bif (decide (0 ≤ x6)) then (bif (decide (x6 < (x0.length : Int))) then (Option.bind (F k (x0.getD (Int.toNat x6) dβ)) fun r3 => (bif (decide (0 ≤ x6)) then (bif (decide (x6 < (x5.length : Int))) then (L1 k n x0 (x5.set (Int.toNat x6) r3) (IntKind.wrap .i64 (x6 + 1))) else none) else none)) else none) else none) else some (Sum.inr (x0, x5, ()))))
    (hL2 : ∀ k n x0 x5 x7, L2 k (n + 1) x0 x5 x7 = (bif (decide (x7 < (x5.length : Int))) then (bif (decide (0 ≤ x7)) then (bif (decide (x7 < (x5.length : Int))) then (L2 k n x0 (x5.set (Int.toNat x7) v) (IntKind.wrap .i64 (x7 + 1))) else none) else none) else some (Sum.inr (x0, x5, ()))))
    (hT : ∀ k, T k = (bif b && ((a.length : Int) == 0) then some ([], []) else (Option.bind (room (a.length : Int)) fun r2 => (bif (decide (0 ≤ (IntKind.wrap .i64 ((a.length : Int) + r2)))) then (bif (decide ((IntKind.wrap .i64 ((a.length : Int) + r2)) < 274877906944)) then (both (R := List γ × List γ) (P := List β × List γ × Unit) (L1 k k a (List.replicate (Int.toNat (IntKind.wrap .i64 ((a.length : Int) + r2))) dγ) 0) (fun q5 => some q5) (fun y4 => (both (R := List γ × List γ) (P := List β × List γ × Unit) (L2 k k y4.1 y4.2.1 (y4.1.length : Int)) (fun q8 => some q8) (fun y7 => (bif (decide (0 ≤ (y7.1.length : Int))) then (bif (decide ((y7.1.length : Int) ≤ (y7.2.1.length : Int))) then some ((y7.2.1.take (Int.toNat (y7.1.length : Int))), (y7.2.1.drop (Int.toNat (y7.1.length : Int)))) else none) else none))))) else none) else none))))
    (ha : a.length ≤ 1000000) (hF : ∀ x ∈ a, Evt (fun k _ => F k x) (f x)) : Evt (fun k _ => T k) (toV f v a b) := by
  have hr : roomN a.length ≤ a.length + 1 := by unfold roomN; split <;> (try split) <;> omega
  refine Evt.eq ?_ (fun k n => hT k)
  by_cases hb : b = true ∧ a = []
  · refine Evt.ctrue (by simp [hb.1, hb.2]) ?_
    rw [toV, if_pos hb]
    exact .pure
  · refine Evt.cfalse ?_ ?_
    · cases b with
      | false => rfl
      | true =>
        have : a ≠ [] := fun h => hb ⟨rfl, h⟩
        simp [this]
    rw [toV, if_neg hb]
    refine Evt.bind (.const (hroom _)) ?_
    have hw : IntKind.wrap .i64 ((a.length : Int) + (roomN a.length : Int)) = ((a.length + roomN a.length : Nat) : Int) := by rw [w64] <;> omega
    rw [hw]
    refine Evt.ctrue mid_ge (Evt.ctrue (by simp <;> omega) ?_)
    have h1 := to_loop hL1 a [] [] (List.replicate (Int.toNat ((a.length + roomN a.length : Nat) : Int)) dγ) rfl (by simp <;> omega) (by simp [lenB]; omega) hF
    simp only [List.nil_append, List.length_nil] at h1
    refine Evt.inr (Evt.diag h1) ?_
    have h2 := fill_loop (x0 := a) (L := fun k n => L2 k n a) (fun k n x5 x7 => hL2 k n a x5 x7) (List.drop a.length (List.replicate (Int.toNat ((a.length + roomN a.length : Nat) : Int)) dγ)) (a.map f) (by simp [lenB]; omega)
    simp only [List.length_map] at h2
    refine Evt.inr (Evt.diag h2) ?_
    have e : (((a.length + roomN a.length : Nat) : Int)).toNat = a.length + roomN a.length := by omega
    rw [e]
    refine Evt.ctrue mid_ge (Evt.ctrue (by simp <;> omega) ?_)
    refine Evt.const ?_
    simp

theorem eq_loop {d0 : γ} {Q : Nat → γ → γ → Option Bool} {L : Nat → Nat → List γ → List γ → Int → Option (Bool ⊕ Unit)}
    (hL : ∀ k n x0 x1 x5, L k (n + 1) x0 x1 x5 = (bif (decide (x5 < (x0.length : Int))) then (bif (decide (0 ≤ x5)) then (bif (decide (x5 < (x0.length : Int))) then (bif (decide (0 ≤ x5)) then (bif (decide (x5 < (x1.length : Int))) then (Option.bind (Q k (x0.getD (Int.toNat x5) d0) (x1.getD (Int.toNat x5) d0)) fun r1 => (bif (!r1) then some (Sum.inl false) else (L k n x0 x1 (IntKind.wrap .i64 (x5 + 1))))) else none) else none) else none) else none) else some (Sum.inr ()))) :
    ∀ (r d : List γ), (d ++ r).length < lenB → (∀ x ∈ r, Evt (fun k _ => Q k x x) true) → Evt (fun k n => L k n (d ++ r) (d ++ r) d.length) (.inr ())
  | [], d, h, _ => by
    refine Evt.step (fun k n => hL k n _ _ _) ?_
    simp only [List.append_nil, mid_end]
    exact Evt.cfalse rfl .pure
  | x :: r, d, h, hQ => by
    refine Evt.step (fun k n => hL k n _ _ _) ?_
    refine Evt.ctrue mid_lt (Evt.ctrue mid_ge (Evt.ctrue mid_lt (Evt.ctrue mid_ge (Evt.ctrue mid_lt ?_))))
    rw [mid_get]
    refine Evt.bind (hQ x (by simp)) (Evt.cfalse rfl ?_)
    rw [w64_next (by simp at h; omega)]
    have := eq_loop hL r (d ++ [x]) (by simpa using h) (fun z hz => hQ z (by simp [hz]))
    simpa using this

theorem eq_all {d0 : γ} {Q : Nat → γ → γ → Option Bool} {L : Nat → Nat → List γ → List γ → Int → Option (Bool ⊕ Unit)} {E : Nat → List γ → List γ → Option Bool}
    (hL : ∀ k n x0 x1 x5, L k (n + 1) x0 x1 x5 = (bif (decide (x5 < (x0.length : Int))) then (bif (decide (0 ≤ x5)) then (bif (decide (x5 < (x0.length : Int))) then (bif (decide (0 ≤ x5)) then (bif (decide (x5 < (x1.length : Int))) then (Option.bind (Q k (x0.getD (Int.toNat x5) d0) (x1.getD (Int.toNat x5) d0)) fun r1 => (bif (!r1) then some (Sum.inl false) else (L k n x0 x1 (IntKind.wrap .i64 (x5 + 1))))) else none) else none) else none) else none) else some (Sum.inr ())))
    (hE : ∀ k x0 x1, E k x0 x1 = (bif ((x0.length : Int) != (x1.length : Int)) then some false else (both (R := Bool) (P := Unit) (L k k x0 x1 0) (fun q3 => some q3) (fun _ => some true))))
    {x : List γ} (h : x.length < lenB) (hQ : ∀ z ∈ x, Evt (fun k _ => Q k z z) true) : Evt (fun k _ => E k x x) true := by
  refine Evt.eq ?_ (fun k n => hE k x x)
  refine Evt.cfalse (by simp) ?_
  have := eq_loop hL x [] (by simpa using h) hQ
  simp only [List.nil_append, List.length_nil] at this
  exact Evt.inr (Evt.diag this) .pure

theorem sz_rows {d0 : List γ} {S : Nat → Nat → List (List γ) → Int → Int → Option (Int ⊕ (Int × Unit))} {sz : List γ → Int → Option Int}
    (hsz : ∀ x a, sz x a = (bif (decide ((IntKind.wrap .i64 (a - (x.length : Int))) < 0)) then some (-1) else some (IntKind.wrap .i64 (a - (x.length : Int)))))
    (hS : ∀ (k n : Nat) (x : List (List γ)) (a i : Int), S k (n + 1) x a i = (bif (decide (i < (x.length : Int))) then (bif (decide (0 ≤ i)) then (bif (decide (i < (x.length : Int))) then (Option.bind (sz (x.getD (Int.toNat i) d0) a) fun r => bif (decide (r < 0)) then some (.inl (-1)) else S k n x r (IntKind.wrap .i64 (i + 1))) else none) else none) else some (.inr (a, ())))) :
    ∀ (r d : List (List γ)) (a : Nat), a ≤ 1000000 → (d ++ r).length < lenB → (∀ x ∈ r, x.length ≤ maxLen) → Evt (fun k n => S k n (d ++ r) a d.length) (if (r.map List.length).sum ≤ a then .inr (((a - (r.map List.length).sum : Nat) : Int), ()) else .inl (-1))
  | [], d, a, _, _, _ => by
    refine Evt.step (fun k n => hS k n _ _ _) (Evt.cfalse (by simp) ?_)
    simpa using Evt.pure
  | e :: r, d, a, ha, hd, hm => by
    refine Evt.step (fun k n => hS k n _ _ _) ?_
    refine Evt.ctrue mid_lt (Evt.ctrue mid_ge (Evt.ctrue mid_lt ?_))
    rw [mid_get]
    have hme := hm e (by simp)
    simp only [maxLen] at hme
    have hw : IntKind.wrap .i64 ((a : Int) - (e.length : Int)) = (a : Int) - (e.length : Int) := by rw [w64] <;> omega
    by_cases hle : e.length ≤ a
    · have h1 : sz e a = some (((a - e.length : Nat) : Int)) := by
        rw [hsz, hw]
        have : decide ((a : Int) - (e.length : Int) < 0) = false := by simp <;> omega
        rw [this]
        simp only [cond_false]
        congr 1
        omega
      refine Evt.bind (.const h1) (Evt.cfalse (by simp <;> omega) ?_)
      rw [w64_next (by simp at hd; omega)]
      have := sz_rows hsz hS r (d ++ [e]) (a - e.length) (by omega) (by simpa using hd) (fun x hx => hm x (by simp [hx]))
      simp only [List.map_cons, List.sum_cons]
      have hiff : ((r.map List.length).sum ≤ a - e.length) ↔ (e.length + (r.map List.length).sum ≤ a) := by omega
      rw [show a - (e.length + (r.map List.length).sum) = a - e.length - (r.map List.length).sum by omega]
      simp only [hiff] at this
      simpa using this
    · have h1 : sz e a = some (-1) := by
        rw [hsz, hw]
        have : decide ((a : Int) - (e.length : Int) < 0) = true := by simp <;> omega
        rw [this]
        rfl
      refine Evt.bind (.const h1) (Evt.ctrue rfl ?_)
      rw [if_neg (by simp <;> omega)]
      exact .pure

theorem sz_one {sz : List γ → Int → Option Int}
    (hsz : ∀ x a, sz x a = (bif (decide ((IntKind.wrap .i64 (a - (x.length : Int))) < 0)) then some (-1) else some (IntKind.wrap .i64 (a - (x.length : Int))))) {x : List γ} (hx : x.length ≤ maxLen) {a : Nat} (ha : a ≤ 1000000) :
    sz x a = some (if x.length ≤ a then ((a - x.length : Nat) : Int) else -1) := by
  simp only [maxLen] at hx
  have hw : IntKind.wrap .i64 ((a : Int) - (x.length : Int)) = (a : Int) - (x.length : Int) := by rw [w64] <;> omega
  rw [hsz, hw]
  by_cases h : x.length ≤ a
  · have : decide ((a : Int) - (x.length : Int) < 0) = false := by simp <;> omega
    rw [this, if_pos h]
    simp only [cond_false]
    congr 1
    omega
  · have : decide ((a : Int) - (x.length : Int) < 0) = true := by simp <;> omega
    rw [this, if_neg h]
    rfl

theorem sz_all {d0 : List γ} {S : Nat → Nat → List (List γ) → Int → Int → Option (Int ⊕ (Int × Unit))} {sz : List γ → Int → Option Int} {szs : Nat → List (List γ) → Int → Option Int}
    (hsz : ∀ x a, sz x a = (bif (decide ((IntKind.wrap .i64 (a - (x.length : Int))) < 0)) then some (-1) else some (IntKind.wrap .i64 (a - (x.length : Int)))))
    (hS : ∀ (k n : Nat) (x : List (List γ)) (a i : Int), S k (n + 1) x a i = (bif (decide (i < (x.length : Int))) then (bif (decide (0 ≤ i)) then (bif (decide (i < (x.length : Int))) then (Option.bind (sz (x.getD (Int.toNat i) d0) a) fun r => bif (decide (r < 0)) then some (.inl (-1)) else S k n x r (IntKind.wrap .i64 (i + 1))) else none) else none) else some (.inr (a, ()))))
    (hszs : ∀ k x a, szs k x a = (bif (decide ((IntKind.wrap .i64 (a - (x.length : Int))) < 0)) then some (-1) else (both (R := Int) (P := Int × Unit) (S k k x (IntKind.wrap .i64 (a - (x.length : Int))) 0) (fun q4 => some q4) (fun y3 => some y3.1))))
    {x : List (List γ)} (hx : x.length ≤ maxLen) (hm : ∀ y ∈ x, y.length ≤ maxLen) {a : Nat} (ha : a ≤ 1000000) :
    Evt (fun k _ => szs k x a) (if x.length + (x.map List.length).sum ≤ a then ((a - (x.length + (x.map List.length).sum) : Nat) : Int) else -1) := by
  simp only [maxLen] at hx
  have hw : IntKind.wrap .i64 ((a : Int) - (x.length : Int)) = (a : Int) - (x.length : Int) := by rw [w64] <;> omega
  refine Evt.eq ?_ (fun k _ => hszs k x a)
  rw [hw]
  by_cases h : x.length ≤ a
  · refine Evt.cfalse (by simp <;> omega) ?_
    have e : (a : Int) - (x.length : Int) = ((a - x.length : Nat) : Int) := by omega
    rw [e]
    have := sz_rows hsz hS x [] (a - x.length) (by omega) (by simp [lenB]; omega) hm
    simp only [List.nil_append, List.length_nil] at this
    by_cases h2 : (x.map List.length).sum ≤ a - x.length
    · rw [if_pos h2] at this
      rw [if_pos (by omega)]
      refine Evt.inr (Evt.diag this) (.const ?_)
      simp only
      congr 2
      omega
    · rw [if_neg h2] at this
      rw [if_neg (by omega)]
      exact Evt.inl (Evt.diag this) .pure
  · rw [if_neg (by omega)]
    exact Evt.ctrue (by simp <;> omega) .pure
end
end Go.Ev

namespace Go.Ev
open Go

section
variable {α β : Type}

theorem Evt.rng0 {d : List α} {F G : Nat → Nat → Option β} {res : β} (h : Evt G res) : Evt (fun k n => bif (decide ((d.length : Int) < (d.length : Int))) then F k n else G k n) res := Evt.cfalse mid_end h

theorem len_next {d r : List α} {e : α} (h : (d ++ e :: r).length < lenB) : IntKind.wrap .i64 ((d.length : Int) + 1) = ((d ++ [e]).length : Int) := by
  rw [w64_next (by simp at h; omega)]; simp

end
end Go.Ev

namespace Go.Ev.G
open Go Go.Ev
set_option maxRecDepth 100000

theorem room_eq (n : Nat) : laws_roomBehind n = some (roomN n : Int) := by
  unfold laws_roomBehind roomN
  have h6 : Int.tmod (n : Int) 6 = ((n % 6 : Nat) : Int) := rfl
  have h3 : Int.tmod (n : Int) 3 = ((n % 3 : Nat) : Int) := rfl
  rw [h6, h3]
  by_cases h : n % 6 = 5
  · have e : ((((n % 6 : Nat) : Int)) == 5) = true := by rw [h]; rfl
    rw [e, if_pos h]; rfl
  · have e : ((((n % 6 : Nat) : Int)) == 5) = false := by
      rw [beq_eq_false_iff_ne]; omega
    rw [e, if_neg h]
    by_cases h' : n % 3 = 0
    · have e : ((((n % 3 : Nat) : Int)) == 0) = true := by rw [h']; rfl
      rw [e, if_pos h']; rfl
    · have e : ((((n % 3 : Nat) : Int)) == 0) = false := by
        rw [beq_eq_false_iff_ne]; omega
      rw [e, if_neg h']; rfl

theorem room_le (n : Nat) : roomN n ≤ n + 1 := by unfold roomN; split <;> (try split) <;> omega

def fI : Int := -7000000000000000101
def fD : Int × Int := (fI, fI)
def fT : Int × Int × Int × Int := (fI, fI, fI, fI)

theorem toDyadicS_ev {a : List (Int × Int)} {b : Bool} (ha : a.length ≤ 1000000) : Evt (fun k _ => laws_toDyadicS k a b) (toV id fD a b) :=
  to_all (dβ := (0, 0)) (dγ := (0, 0)) (F := fun _ x => laws_toDyadic x) (L1 := laws_toDyadicS_L122) (L2 := laws_toDyadicS_L250) room_eq (fun _ _ _ _ _ => rfl) (fun _ _ _ _ _ => rfl)
    (fun k => by unfold laws_toDyadicS; cases b <;> cases a <;> rfl) ha (fun _ _ => .pure)

theorem toTermS_ev {a : List (Int × Int × Int × Int)} {b : Bool} (ha : a.length ≤ 1000000) : Evt (fun k _ => laws_toTermS k a b) (toV id fT a b) :=
  to_all (dβ := (0, 0, 0, 0)) (dγ := (0, 0, 0, 0)) (F := fun _ x => laws_toTerm x) (L1 := laws_toTermS_L122) (L2 := laws_toTermS_L250) room_eq (fun _ _ _ _ _ => rfl) (fun _ _ _ _ _ => rfl)
    (fun k => by unfold laws_toTermS; cases b <;> cases a <;> rfl) ha (fun _ _ => .pure)

theorem toTermSS_ev {a : List (List (Int × Int × Int × Int))} {b : Bool} (ha : a.length ≤ 1000000) (hm : ∀ x ∈ a, x.length ≤ 1000000) : Evt (fun k _ => laws_toTermSS k a b) (toV (fun x => toV id fT x b) ([fT], []) a b) :=
  to_all (dβ := []) (dγ := ([], [])) (F := fun k x => laws_toTermS k x b) (L1 := fun k n x0 x5 x6 => laws_toTermSS_L122 k n x0 b x5 x6) (L2 := laws_toTermSS_L250) room_eq (fun _ _ _ _ _ => rfl) (fun _ _ _ _ _ => rfl)
    (fun k => by unfold laws_toTermSS; cases b <;> cases a <;> rfl) ha (fun x hx => toTermS_ev (hm x hx))

theorem eqDyadic_rfl (x : Int × Int) : laws_eqDyadic x x = some true := by simp [laws_eqDyadic]
theorem eqTerm_rfl (x : Int × Int × Int × Int) : laws_eqTerm x x = some true := by simp [laws_eqTerm]
theorem eqDyadicS_ev {x : List (Int × Int)} (h : x.length < lenB) : Evt (fun k _ => laws_eqDyadicS k x x) true :=
  eq_all (d0 := (0, 0)) (Q := fun _ a b => laws_eqDyadic a b) (L := laws_eqDyadicS_L58) (E := laws_eqDyadicS) (fun k n x0 x1 x5 => rfl) (fun _ _ _ => rfl) h (fun z _ => .const (eqDyadic_rfl z))
theorem eqTermS_ev {x : List (Int × Int × Int × Int)} (h : x.length < lenB) : Evt (fun k _ => laws_eqTermS k x x) true :=
  eq_all (d0 := (0, 0, 0, 0)) (Q := fun _ a b => laws_eqTerm a b) (L := laws_eqTermS_L58) (E := laws_eqTermS) (fun k n x0 x1 x5 => rfl) (fun _ _ _ => rfl) h (fun z _ => .const (eqTerm_rfl z))
theorem eqTermSS_ev {x : List (List (Int × Int × Int × Int))} (h : x.length < lenB) (hm : ∀ y ∈ x, y.length < lenB) : Evt (fun k _ => laws_eqTermSS k x x) true :=
  eq_all (d0 := []) (Q := fun k a b => laws_eqTermS k a b) (L := laws_eqTermSS_L58) (E := laws_eqTermSS) (fun k n x0 x1 x5 => rfl) (fun _ _ _ => rfl) h (fun z hz => eqTermS_ev (hm z hz))


def Room {γ : Type} (x : List γ × List γ) : Prop := x.2.length = roomN x.1.length ∧ x.1.length ≤ 1000000

theorem intact_all {γ : Type} {E : Nat → List γ → List γ → Option Bool} {I : Nat → (List γ × List γ) → (List γ × List γ) → Option Bool} {x : List γ × List γ} (hx : Room x)
    (hI : ∀ k a0 a1, I k a0 a1 = (Option.bind (laws_roomBehind (a1.1.length : Int)) fun r1 => (bif ((a0.1.length : Int) == (a1.1.length : Int)) then (bif (decide (0 ≤ (IntKind.wrap .i64 ((a1.1.length : Int) + r1)))) then (bif (decide ((IntKind.wrap .i64 ((a1.1.length : Int) + r1)) ≤ ((a0.1 ++ a0.2).length : Int))) then (bif (decide (0 ≤ (IntKind.wrap .i64 ((a1.1.length : Int) + r1)))) then (bif (decide ((IntKind.wrap .i64 ((a1.1.length : Int) + r1)) ≤ ((a1.1 ++ a1.2).length : Int))) then (Option.bind (E k (((a0.1 ++ a0.2).take (Int.toNat (IntKind.wrap .i64 ((a1.1.length : Int) + r1)))).drop 0) (((a1.1 ++ a1.2).take (Int.toNat (IntKind.wrap .i64 ((a1.1.length : Int) + r1)))).drop 0)) fun r2 => some r2) else none) else none) else none) else none) else some false)))
    (hE : Evt (fun k _ => E k (x.1 ++ x.2) (x.1 ++ x.2)) true) : Evt (fun k _ => I k x x) true := by
  have hr := room_le x.1.length
  have h1 := hx.1
  have h2 := hx.2
  refine Evt.eq ?_ (fun k _ => hI k x x)
  refine Evt.bind (.const (room_eq _)) ?_
  have hw : IntKind.wrap .i64 ((x.1.length : Int) + (roomN x.1.length : Int)) = (((x.1 ++ x.2).length : Nat) : Int) := by
    rw [List.length_append, h1, w64] <;> omega
  rw [hw]
  refine Evt.ctrue (by simp) (Evt.ctrue mid_ge (Evt.ctrue (by simp) (Evt.ctrue mid_ge (Evt.ctrue (by simp) ?_))))
  have e : (((x.1 ++ x.2).length : Nat) : Int).toNat = (x.1 ++ x.2).length := Int.toNat_natCast _
  rw [e, List.take_length, List.drop_zero]
  exact Evt.bind hE .pure

theorem small {γ : Type} {x : List γ × List γ} (hx : Room x) : (x.1 ++ x.2).length < lenB := by
  have hr := room_le x.1.length
  have h1 := hx.1
  have h2 := hx.2
  rw [List.length_append, h1]
  simp only [lenB]
  omega

theorem intactDyadicS_ev {x : List (Int × Int) × List (Int × Int)} (hx : Room x) : Evt (fun k _ => laws_intactDyadicS k x x) true := intact_all (E := laws_eqDyadicS) hx (fun _ _ _ => rfl) (eqDyadicS_ev (small hx))
theorem intactTermS_ev {x : List (Int × Int × Int × Int) × List (Int × Int × Int × Int)} (hx : Room x) : Evt (fun k _ => laws_intactTermS k x x) true := intact_all (E := laws_eqTermS) hx (fun _ _ _ => rfl) (eqTermS_ev (small hx))

theorem intact_loop {γ : Type} {d0 : γ} {Q : Nat → γ → γ → Option Bool} {x : List γ × List γ} {m : Int} {L : Nat → Nat → Int → Option (Bool ⊕ ((List γ × List γ) × (List γ × List γ) × Int × Unit))}
    (hL : ∀ k n x6, L k (n + 1) x6 = (bif (decide (x6 < (x.1.length : Int))) then (bif (decide (0 ≤ x6)) then (bif (decide (x6 < (x.1.length : Int))) then (bif (decide (0 ≤ x6)) then (bif (decide (x6 < (x.1.length : Int))) then (Option.bind (Q k (x.1.getD (Int.toNat x6) d0) (x.1.getD (Int.toNat x6) d0)) fun r2 => (bif (!r2) then some (Sum.inl false) else (L k n (IntKind.wrap .i64 (x6 + 1))))) else none) else none) else none) else none) else some (Sum.inr (x, x, m, ())))) (hb : x.1.length < lenB) :
    ∀ (r d : List γ), d ++ r = x.1 → (∀ z ∈ r, Evt (fun k _ => Q k z z) true) → Evt (fun k n => L k n d.length) (.inr (x, x, m, ()))
  | [], d, h, _ => by
    refine Evt.step (fun k n => hL k n _) (Evt.cfalse (by rw [← h]; simp) .pure)
  | z :: r, d, h, hQ => by
    refine Evt.step (fun k n => hL k n _) ?_
    rw [← h]
    refine Evt.ctrue mid_lt (Evt.ctrue mid_ge (Evt.ctrue mid_lt (Evt.ctrue mid_ge (Evt.ctrue mid_lt ?_))))
    rw [mid_get]
    refine Evt.bind (hQ z (by simp)) (Evt.cfalse rfl ?_)
    rw [w64_next (by rw [← h] at hb; simp at hb; omega)]
    have := intact_loop hL hb r (d ++ [z]) (by simpa using h) (fun y hy => hQ y (by simp [hy]))
    simpa using this

theorem intact_rows {γ : Type} {d0 : List γ × List γ} {Q : Nat → (List γ × List γ) → (List γ × List γ) → Option Bool} {E : Nat → List (List γ) → List (List γ) → Option Bool} {x : List (List γ × List γ) × List (List γ × List γ)} (hx : Room x) (hm : ∀ y ∈ x.1, Room y)
    {I : Nat → (List (List γ × List γ) × List (List γ × List γ)) → (List (List γ × List γ) × List (List γ × List γ)) → Option Bool}
    {L : Nat → Nat → (List (List γ × List γ) × List (List γ × List γ)) → (List (List γ × List γ) × List (List γ × List γ)) → Int → Int → Option (Bool ⊕ ((List (List γ × List γ) × List (List γ × List γ)) × (List (List γ × List γ) × List (List γ × List γ)) × Int × Unit))}
    (hL : ∀ k n x0 x1 x5 x6, L k (n + 1) x0 x1 x5 x6 = (bif (decide (x6 < (x1.1.length : Int))) then (bif (decide (0 ≤ x6)) then (bif (decide (x6 < (x0.1.length : Int))) then (bif (decide (0 ≤ x6)) then (bif (decide (x6 < (x1.1.length : Int))) then (Option.bind (Q k (x0.1.getD (Int.toNat x6) d0) (x1.1.getD (Int.toNat x6) d0)) fun r2 => (bif (!r2) then some (Sum.inl false) else (L k n x0 x1 x5 (IntKind.wrap .i64 (x6 + 1))))) else none) else none) else none) else none) else some (Sum.inr (x0, x1, x5, ()))))
    (hI : ∀ k a0 a1, I k a0 a1 = (Option.bind (laws_roomBehind (a1.1.length : Int)) fun r1 => (bif ((a0.1.length : Int) != (a1.1.length : Int)) then some false else (both (R := Bool) (P := (List (List γ × List γ) × List (List γ × List γ)) × (List (List γ × List γ) × List (List γ × List γ)) × Int × Unit) (L k k a0 a1 (IntKind.wrap .i64 ((a1.1.length : Int) + r1)) 0) (fun q5 => some q5) (fun y4 => (bif (decide (0 ≤ (y4.2.1.1.length : Int))) then (bif (decide ((y4.2.1.1.length : Int) ≤ y4.2.2.1)) then (bif (decide (y4.2.2.1 ≤ ((y4.1.1 ++ y4.1.2).length : Int))) then (bif (decide (0 ≤ (y4.2.1.1.length : Int))) then (bif (decide ((y4.2.1.1.length : Int) ≤ y4.2.2.1)) then (bif (decide (y4.2.2.1 ≤ ((y4.2.1.1 ++ y4.2.1.2).length : Int))) then (Option.bind (E k ((((y4.1.1 ++ y4.1.2).take (Int.toNat y4.2.2.1)).drop (Int.toNat (y4.2.1.1.length : Int))).map fun z => z.1) ((((y4.2.1.1 ++ y4.2.1.2).take (Int.toNat y4.2.2.1)).drop (Int.toNat (y4.2.1.1.length : Int))).map fun z => z.1)) fun r6 => some r6) else none) else none) else none) else none) else none) else none))))))
    (hQ : ∀ y ∈ x.1, Evt (fun k _ => Q k y y) true) (hE : Evt (fun k _ => E k (x.2.map fun z => z.1) (x.2.map fun z => z.1)) true) : Evt (fun k _ => I k x x) true := by
  have hr := room_le x.1.length
  have h1 := hx.1
  have h2 := hx.2
  refine Evt.eq ?_ (fun k _ => hI k x x)
  refine Evt.bind (.const (room_eq _)) (Evt.cfalse (by simp) ?_)
  have hw : IntKind.wrap .i64 ((x.1.length : Int) + (roomN x.1.length : Int)) = (((x.1 ++ x.2).length : Nat) : Int) := by
    rw [List.length_append, h1, w64] <;> omega
  rw [hw]
  have := intact_loop (L := fun k n x6 => L k n x x (((x.1 ++ x.2).length : Nat) : Int) x6) (fun k n x6 => hL k n x x _ x6) (by simp only [lenB]; omega) x.1 [] rfl hQ
  simp only [List.length_nil] at this
  refine Evt.inr (Evt.diag this) ?_
  refine Evt.ctrue mid_ge (Evt.ctrue (by simp <;> omega) (Evt.ctrue (by simp <;> omega) (Evt.ctrue mid_ge (Evt.ctrue (by simp <;> omega) (Evt.ctrue (by simp <;> omega) ?_)))))
  have e : (((x.1 ++ x.2).length : Nat) : Int).toNat = (x.1 ++ x.2).length := Int.toNat_natCast _
  have e2 : ((x.1.length : Nat) : Int).toNat = x.1.length := Int.toNat_natCast _
  simp only [e, e2, List.take_length, List.drop_left]
  exact Evt.bind hE .pure

theorem intactTermSS_ev {x : List (List (Int × Int × Int × Int) × List (Int × Int × Int × Int)) × List (List (Int × Int × Int × Int) × List (Int × Int × Int × Int))} (hx : Room x) (hm : ∀ y ∈ x.1, Room y) (h2 : ∀ y ∈ x.2, y.1.length < lenB) : Evt (fun k _ => laws_intactTermSS k x x) true :=
  intact_rows (d0 := ([], [])) (Q := laws_intactTermS) (E := laws_eqTermSS) (L := laws_intactTermSS_L122) hx hm (fun _ _ _ _ _ _ => rfl) (fun _ _ _ => rfl) (fun y hy => intactTermS_ev (hm y hy))
    (eqTermSS_ev (by have := small hx; simp at this ⊢; omega) (by intro y hy; obtain ⟨z, hz, rfl⟩ := List.mem_map.1 hy; exact h2 z hz))

theorem room_toV {β γ : Type} {f : β → γ} {v : γ} {a : List β} (h : a.length ≤ 1000000) : Room (toV f v a false) := by
  refine ⟨?_, ?_⟩
  · simp [toV]
  · simp [toV]; exact h

theorem szTermSS_ev {x : List (List (Int × Int × Int × Int))} (hx : x.length ≤ maxLen) (hm : ∀ y ∈ x, y.length ≤ maxLen) {a : Nat} (ha : a ≤ 1000000) :
    Evt (fun k _ => laws_szTermSS k x a) (if x.length + (x.map List.length).sum ≤ a then ((a - (x.length + (x.map List.length).sum) : Nat) : Int) else -1) :=
  sz_all (sz := laws_szTermS) (S := laws_szTermSS_L122) (fun _ _ => rfl) (fun _ _ _ _ _ => rfl) (fun _ _ _ => rfl) hx hm ha
end Go.Ev.G

namespace Go.Ev.G
open Go Go.Ev
set_option maxRecDepth 100000

def gd (a : Int × Int) : Prop := 0 ≤ a.2 ∧ a.2 ≤ 24 ∧ -1099511627776 ≤ a.1 ∧ a.1 ≤ 1099511627776 ∧ (a.2 = 0 ∨ a.1 % 2 ≠ 0)
instance (a : Int × Int) : Decidable (gd a) := by unfold gd; infer_instance

theorem tmod2 (n : Int) : (Int.tmod n 2 = 0) ↔ n % 2 = 0 := by
  rw [← Int.dvd_iff_tmod_eq_zero, Int.dvd_iff_emod_eq_zero]
theorem l1In_eq (n lo hi : Int) : spec_l1In n lo hi = some (decide (lo ≤ n ∧ n ≤ hi)) := by
  unfold spec_l1In
  by_cases h : lo ≤ n
  · have : decide (n ≥ lo) = true := by simpa using h
    rw [this]; simp [h]
  · have : decide (n ≥ lo) = false := by simpa using h
    rw [this]; simp [h]
theorem inside_eq (n lo hi : Int) : impl_inside n lo hi = some (decide (lo ≤ n ∧ n ≤ hi)) := l1In_eq n lo hi
theorem isPlaces_eq (n : Int) : impl_isPlaces n = some (decide (0 ≤ n ∧ n ≤ 24)) := by
  unfold impl_isPlaces
  rw [inside_eq]; rfl

theorem dyGood_eq (a : Int × Int) : spec_dyGood a = some (decide (gd a)) := by
  unfold spec_dyGood
  rw [l1In_eq, l1In_eq]
  have h0 := tmod2 a.1
  by_cases h1 : 0 ≤ a.2 ∧ a.2 ≤ 24
  · simp only [h1, and_self, decide_true, Option.bind_some, cond_true]
    by_cases h2 : -1099511627776 ≤ a.1 ∧ a.1 ≤ 1099511627776
    · simp only [h2, and_self, decide_true, cond_true]
      by_cases h3 : a.2 = 0
      · have : gd a := ⟨h1.1, h1.2, h2.1, h2.2, .inl h3⟩
        simp [h3, this]
      · have e : (a.2 == 0) = false := by simpa using h3
        rw [e]
        by_cases h4 : a.1 % 2 = 0
        · have : ¬ gd a := fun h => by rcases h.2.2.2.2 with h | h <;> contradiction
          simp [h0.2 h4, this]
        · have h5 : gd a := ⟨h1.1, h1.2, h2.1, h2.2, .inr h4⟩
          have : ¬ Int.tmod a.1 2 = 0 := fun h => h4 (h0.1 h)
          simp [this, h5]
    · have : ¬ gd a := fun h => h2 ⟨h.2.2.1, h.2.2.2.1⟩
      simp only [h2, decide_false, cond_false, this]
  · have : ¬ gd a := fun h => h1 ⟨h.1, h.2.1⟩
    simp only [h1, decide_false, Option.bind_some, cond_false, this]
theorem isDyadic_eq (a : Int × Int) : impl_isDyadic a = some (decide (gd a)) := by
  rw [← dyGood_eq]
  unfold impl_isDyadic spec_dyGood
  rw [isPlaces_eq, l1In_eq, inside_eq, l1In_eq]

def strip : Nat → Int → Int × Nat
  | 0, n => (n, 0)
  | k + 1, n => if n % 2 = 0 then strip k (n / 2) else (n, k + 1)

def mkD (n : Int) (k : Nat) : (Int × Int) × Bool :=
  if -1099511627776 ≤ (strip k n).1 ∧ (strip k n).1 ≤ 1099511627776 ∧ (strip k n).2 ≤ 24 then (((strip k n).1, ((strip k n).2 : Int)), true) else ((0, 0), false)

theorem strip_form : ∀ (k : Nat) (n : Int), (strip k n).2 = 0 ∨ (strip k n).1 % 2 ≠ 0
  | 0, n => .inl rfl
  | k + 1, n => by
    unfold strip
    split
    · exact strip_form k _
    · rename_i h; exact .inr h
theorem mkD_gd (n : Int) (k : Nat) : gd (mkD n k).1 := by
  unfold mkD
  split
  · rename_i h
    have := strip_form k n
    refine ⟨by simp, by simp; omega, h.1, h.2.1, ?_⟩
    rcases this with h | h
    · left; simp [h]
    · right; exact h
  · exact ⟨by simp, by simp, by simp, by simp, .inl rfl⟩

def atV : Nat → Int → Int × Bool
  | 0, n => (n, true)
  | m + 1, n => if -1152921504606846976 ≤ n ∧ n ≤ 1152921504606846976 then atV m (n * 2) else (0, false)

theorem dyPower_eq {m : Nat} (h : m ≤ 62) : spec_dyPower m = some (((2 ^ m : Nat) : Int)) := by
  unfold spec_dyPower
  have h1 : IntKind.wrap .u64 (m : Int) = m := wu64 (by omega) (by omega)
  have h2 : min (Int.toNat (m : Int)) (IntKind.bits .i64) = m := by simp [IntKind.bits]; omega
  rw [h1, h2]
  have h3 : (2 : Nat) ^ m ≤ 4611686018427387904 := Nat.pow_le_pow_right (n := 2) (by omega) h
  have h4 : (1 : Int) * 2 ^ m = ((2 ^ m : Nat) : Int) := by simp
  have h5 : decide ((m : Int) < 0) = false := by simp
  rw [h4]
  generalize 2 ^ m = p at *
  rw [w64 (by omega) (by omega), h5]
  rfl

theorem dyPower60 : spec_dyPower 60 = some 1152921504606846976 := by
  have := dyPower_eq (m := 60) (by omega)
  simpa using this

theorem dyAt_loop (K j : Int) : ∀ (m : Nat) (n : Int) (i : Nat), K = i + m → K < 1000000 → -4611686018427387904 ≤ n → n ≤ 4611686018427387904 →
    Evt (fun k q => spec_dyAt_L58 k q K (n, j) i) (if (atV m n).2 then .inr (((atV m n).1, j), ()) else .inl (0, false)) := by
  intro m
  induction m with
  | zero =>
    intro n i hK hi _ _
    refine Evt.step (fun k q => spec_dyAt_L58.eq_2 k K (n, j) i q) (Evt.cfalse (by simp; omega) ?_)
    simp only [atV, if_true]
    exact .pure
  | succ m ih =>
    intro n i hK hi h1 h2
    refine Evt.step (fun k q => spec_dyAt_L58.eq_2 k K (n, j) i q) (Evt.ctrue (by simp; omega) ?_)
    refine Evt.bind (.const dyPower60) (Evt.bind (.const dyPower60) ?_)
    have hw : IntKind.wrap .i64 (0 - 1152921504606846976) = -1152921504606846976 := by rw [w64] <;> omega
    rw [hw]
    refine Evt.bind (.const (l1In_eq _ _ _)) ?_
    unfold atV
    by_cases hn : -1152921504606846976 ≤ n ∧ n ≤ 1152921504606846976
    · refine Evt.cfalse (by simp [hn]) ?_
      rw [if_pos hn, w64 (n := n * 2) (by omega) (by omega), w64_next (by simp only [lenB]; omega)]
      exact ih (n * 2) (i + 1) (by omega) hi (by omega) (by omega)
    · refine Evt.ctrue (by rw [decide_eq_false hn]; rfl) ?_
      rw [if_neg hn]
      exact .pure

theorem atV_zero : ∀ m, atV m 0 = (0, true)
  | 0 => rfl
  | m + 1 => by unfold atV; simp [atV_zero m]

theorem dyAt_ev {n : Int} {j K : Nat} (hjK : j ≤ K) (hK : K < 1000) (h1 : -4611686018427387904 ≤ n) (h2 : n ≤ 4611686018427387904) : Evt (fun k _ => spec_dyAt k (n, j) K) (atV (K - j) n) := by
  refine Evt.eq (f := fun k q => _) ?_ (fun k q => by rw [spec_dyAt])
  by_cases h0 : n = 0
  · subst h0
    rw [atV_zero]
    exact Evt.ctrue (by simp) .pure
  · refine Evt.cfalse (by simpa using h0) ?_
    have := dyAt_loop K j (K - j) n j (by omega) (by omega) h1 h2
    cases hb : (atV (K - j) n).2 with
    | true =>
      rw [hb] at this
      refine Evt.inr (Evt.diag this) (.const ?_)
      simp only
      rw [← hb]
    | false =>
      rw [hb] at this
      have hz : ∀ (m : Nat) (n : Int), (atV m n).2 = false → atV m n = (0, false) := by
        intro m
        induction m with
        | zero => intro n h; simp [atV] at h
        | succ m ih =>
          intro n h
          unfold atV at h ⊢
          split at h
          · rename_i hc; rw [if_pos hc]; exact ih _ h
          · rename_i hc; rw [if_neg hc]
      rw [hz _ _ hb]
      exact Evt.inl (Evt.diag this) .pure

theorem atV_true : ∀ (m : Nat) (n : Int), (atV m n).2 = true → (atV m n).1 = n * 2 ^ m
  | 0, n, _ => by simp [atV]
  | m + 1, n, h => by
    unfold atV at h ⊢
    split at h
    · rename_i hc
      rw [if_pos hc, atV_true m _ h, Int.pow_succ, Int.mul_assoc, Int.mul_comm 2]
    · cases h
theorem atV_small : ∀ (m : Nat) (n : Int), -1152921504606846976 ≤ n * 2 ^ m → n * 2 ^ m ≤ 1152921504606846976 → (atV m n).2 = true
  | 0, n, _, _ => rfl
  | m + 1, n, h1, h2 => by
    have e : n * 2 ^ (m + 1) = n * 2 * 2 ^ m := by rw [Int.pow_succ, Int.mul_assoc, Int.mul_comm 2]
    have hp : (1 : Int) ≤ 2 ^ m := by have := Int.pow_pos (n := 2) (m := m) (by omega); omega
    unfold atV
    rw [if_pos]
    · exact atV_small m (n * 2) (by rw [← e]; exact h1) (by rw [← e]; exact h2)
    · rw [e] at h1 h2
      constructor
      · rcases Int.le_total 0 n with h | h
        · omega
        · have : n * 2 * 2 ^ m ≤ n * 2 * 1 := Int.mul_le_mul_of_nonpos_left (by omega) hp
          omega
      · rcases Int.le_total 0 n with h | h
        · have : n * 2 * 1 ≤ n * 2 * 2 ^ m := Int.mul_le_mul_of_nonneg_left hp (by omega)
          omega
        · omega
theorem atV_large : ∀ (m : Nat) (n : Int), (atV m n).2 = false → 0 < m ∧ (n * 2 ^ m < -1152921504606846976 ∨ 1152921504606846976 < n * 2 ^ m)
  | m, n, h => by
    refine ⟨?_, ?_⟩
    · cases m with
      | zero => simp [atV] at h
      | succ m => omega
    · rcases Int.lt_or_le (n * 2 ^ m) (-1152921504606846976) with h1 | h1
      · exact .inl h1
      · rcases Int.lt_or_le 1152921504606846976 (n * 2 ^ m) with h2 | h2
        · exact .inr h2
        · rw [atV_small m n h1 h2] at h; cases h
end Go.Ev.G

namespace Go.Ev.G
open Go Go.Ev
set_option maxRecDepth 100000

def exA (a b : Int × Int) : Nat := max a.2.toNat b.2.toNat
def sumN (a b : Int × Int) : Int := a.1 * 2 ^ (exA a b - a.2.toNat) + b.1 * 2 ^ (exA a b - b.2.toNat)
def sumD (a b : Int × Int) : (Int × Int) × Bool := mkD (sumN a b) (exA a b)

theorem most_eq (a b : Int) : spec_l1Most a b = some (max a b) := by
  unfold spec_l1Most
  by_cases h : a > b
  · have : decide (a > b) = true := by simpa using h
    rw [this]; simp only [cond_true]; congr 1; omega
  · have : decide (a > b) = false := by simpa using h
    rw [this]; simp only [cond_false]; congr 1; omega

end Go.Ev.G

namespace Go.Ev.G
open Go Go.Ev
set_option maxRecDepth 100000

def B64 : Nat := 18446744073709551616
def wN (neg : Bool) (M : Nat) : Bool × Int × Int := (neg, ((M / B64 : Nat) : Int), ((M % B64 : Nat) : Int))
def wV (neg : Bool) (M : Nat) : Int := if neg then -(M : Int) else M

theorem wu64_mod (n : Nat) : IntKind.wrap .u64 (n : Int) = ((n % B64 : Nat) : Int) := by
  rw [IntKind.wrap_u64]; simp [B64]

theorem size_eq {n : Int} (h1 : -9223372036854775808 < n) (h2 : n < 9223372036854775808) : impl_size n = some (n.natAbs : Int) := by
  unfold impl_size
  by_cases h : n < 0
  · have : decide (n < 0) = true := by simpa using h
    have e1 : IntKind.wrap .i64 (0 - n) = -n := by rw [w64] <;> omega
    have e2 : IntKind.wrap .u64 (-n) = -n := by rw [wu64] <;> omega
    rw [this, e1, e2]
    simp only [cond_true]; congr 1; omega
  · have : decide (n < 0) = false := by simpa using h
    have e2 : IntKind.wrap .u64 n = n := by rw [wu64] <;> omega
    rw [this, e2]
    simp only [cond_false]; congr 1; omega

theorem fdiv_pow (a m : Nat) : Int.fdiv (a : Int) (2 ^ m) = ((a / 2 ^ m : Nat) : Int) := by
  rw [show (2 : Int) ^ m = ((2 ^ m : Nat) : Int) by simp]
  rw [Int.fdiv_eq_ediv_of_nonneg _ (Int.natCast_nonneg _)]
  exact (Int.natCast_ediv a (2 ^ m)).symm
end Go.Ev.G

namespace Go.Ev.G
open Go Go.Ev
set_option maxRecDepth 100000

def cmpI (a b : Int) : Int := if a < b then -1 else if b < a then 1 else 0

theorem cmpU_eq (a b : Int) : cmp_Compare_uint64 a b = some (cmpI a b) := by
  unfold cmp_Compare_uint64 cmp_isNaN_uint64 cmpI
  by_cases h1 : a < b
  · have : decide (a < b) = true := by simpa using h1
    simp [h1]
  · by_cases h2 : b < a
    · simp [h1, h2]
    · simp [h1, h2]

def orI (x y : Int) : Int := bif x == 0 then y else x
theorem orI_ne {x : Int} (h : x ≠ 0) (y : Int) : orI x y = x := by
  have : (x == 0) = false := by simpa using h
  rw [orI, this]; rfl
theorem orI_z (y : Int) : orI 0 y = y := rfl

theorem or2_ev (x y : Int) : Evt (fun k _ => cmp_Or_int k [x, y]) (orI x y) := by
  refine Evt.eq (f := fun k q => _) ?_ (fun k q => by rw [cmp_Or_int])
  have step : ∀ (i : Nat) (F : Nat → Nat → Option _) r, (∀ k q, cmp_Or_int_L58 k (q + 1) 0 [x, y] ([x, y].length : Int) i = F k q) → Evt F r → Evt (fun k q => cmp_Or_int_L58 k q 0 [x, y] ([x, y].length : Int) i) r := fun i F r h h' => Evt.step h h'
  by_cases hx : x = 0
  · subst hx
    by_cases hy : y = 0
    · subst hy
      refine Evt.inr (y := (0, ())) (Evt.diag (f := fun k q => cmp_Or_int_L58 k q 0 [0, 0] ([0, 0].length : Int) 0) ?_) .pure
      refine step 0 _ _ (fun k q => cmp_Or_int_L58.eq_2 k _ _ _ _ q) ?_
      refine Evt.ctrue rfl (Evt.ctrue rfl (Evt.ctrue rfl (Evt.cfalse rfl ?_)))
      refine step 1 _ _ (fun k q => cmp_Or_int_L58.eq_2 k _ _ _ _ q) ?_
      refine Evt.ctrue rfl (Evt.ctrue rfl (Evt.ctrue rfl (Evt.cfalse rfl ?_)))
      refine step 2 _ _ (fun k q => cmp_Or_int_L58.eq_2 k _ _ _ _ q) ?_
      exact Evt.cfalse rfl .pure
    · refine Evt.inl (q := y) (Evt.diag (f := fun k q => cmp_Or_int_L58 k q 0 [0, y] ([0, y].length : Int) 0) ?_) (by rw [orI_z]; exact .pure)
      refine step 0 _ _ (fun k q => cmp_Or_int_L58.eq_2 k _ _ _ _ q) ?_
      refine Evt.ctrue rfl (Evt.ctrue rfl (Evt.ctrue rfl (Evt.cfalse rfl ?_)))
      refine step 1 _ _ (fun k q => cmp_Or_int_L58.eq_2 k _ _ _ _ q) ?_
      refine Evt.ctrue rfl (Evt.ctrue rfl (Evt.ctrue rfl (Evt.ctrue ?_ .pure)))
      show (y != 0) = true
      simpa using hy
  · refine Evt.inl (q := x) (Evt.diag (f := fun k q => cmp_Or_int_L58 k q 0 [x, y] ([x, y].length : Int) 0) ?_) (by rw [orI_ne hx]; exact .pure)
    refine step 0 _ _ (fun k q => cmp_Or_int_L58.eq_2 k _ _ _ _ q) ?_
    refine Evt.ctrue rfl (Evt.ctrue rfl (Evt.ctrue rfl (Evt.ctrue ?_ .pure)))
    show (x != 0) = true
    simpa using hx

theorem sizes_ev (n1 n2 : Bool) (M1 M2 : Nat) : Evt (fun k _ => impl_compareSizes k (wN n1 M1) (wN n2 M2)) (cmpI M1 M2) := by
  refine Evt.eq (f := fun k q => _) ?_ (fun k q => by rw [impl_compareSizes])
  refine Evt.bind (.const (cmpU_eq _ _)) (Evt.bind (.const (cmpU_eq _ _)) (Evt.bind (or2_ev _ _) ?_))
  refine .const ?_
  congr 1
  simp only [wN]
  have e1 := Nat.div_add_mod M1 B64
  have e2 := Nat.div_add_mod M2 B64
  have l1 := Nat.mod_lt M1 (y := B64) (by simp [B64])
  have l2 := Nat.mod_lt M2 (y := B64) (by simp [B64])
  rcases Nat.lt_trichotomy (M1 / B64) (M2 / B64) with h | h | h
  · have : M1 < M2 := by
      have : (M1 / B64 + 1) * B64 ≤ M2 / B64 * B64 := Nat.mul_le_mul_right _ h
      rw [Nat.add_mul, Nat.one_mul, Nat.mul_comm, Nat.mul_comm (M2 / B64)] at this
      omega
    have c1 : cmpI ((M1 / B64 : Nat) : Int) ((M2 / B64 : Nat) : Int) = -1 := by unfold cmpI; rw [if_pos (by omega)]
    have c2 : cmpI M1 M2 = -1 := by unfold cmpI; rw [if_pos (by omega)]
    rw [c1, c2]; rfl
  · rw [h] at e1
    have c1 : cmpI ((M1 / B64 : Nat) : Int) ((M2 / B64 : Nat) : Int) = 0 := by unfold cmpI; rw [if_neg (by omega), if_neg (by omega)]
    rw [c1, orI_z]
    have i1 : (((M1 % B64 : Nat) : Int) < ((M2 % B64 : Nat) : Int)) ↔ ((M1 : Int) < M2) := by omega
    have i2 : (((M2 % B64 : Nat) : Int) < ((M1 % B64 : Nat) : Int)) ↔ ((M2 : Int) < M1) := by omega
    unfold cmpI
    simp only [i1, i2]
  · have : M2 < M1 := by
      have : (M2 / B64 + 1) * B64 ≤ M1 / B64 * B64 := Nat.mul_le_mul_right _ h
      rw [Nat.add_mul, Nat.one_mul, Nat.mul_comm, Nat.mul_comm (M1 / B64)] at this
      omega
    have c1 : cmpI ((M1 / B64 : Nat) : Int) ((M2 / B64 : Nat) : Int) = 1 := by unfold cmpI; rw [if_neg (by omega), if_pos (by omega)]
    have c2 : cmpI M1 M2 = 1 := by unfold cmpI; rw [if_neg (by omega), if_pos (by omega)]
    rw [c1, c2]; rfl

theorem isZero_eq (neg : Bool) (M : Nat) : impl_wide_isZero (wN neg M) = some (decide (M = 0)) := by
  unfold impl_wide_isZero wN
  have e1 := Nat.div_add_mod M B64
  by_cases h : M = 0
  · subst h; simp
  · have hd : decide (M = 0) = false := by simpa using h
    rw [hd]
    by_cases h1 : M / B64 = 0
    · have h2 : M % B64 ≠ 0 := by
        intro h2
        rw [h1, h2] at e1
        omega
      have : ((((M % B64 : Nat) : Int)) == 0) = false := by rw [beq_eq_false_iff_ne]; intro h3; exact h2 (Int.ofNat.inj h3)
      simp only [h1, this]
      rfl
    · have : ((((M / B64 : Nat) : Int)) == 0) = false := by
        rw [beq_eq_false_iff_ne]; intro h3; exact h1 (Int.ofNat.inj h3)
      simp only [this]
      rfl

theorem wV_cmp (n1 n2 : Bool) (M1 M2 : Nat) : Evt (fun k _ => impl_compareWide k (wN n1 M1) (wN n2 M2)) (cmpI (wV n1 M1) (wV n2 M2)) := by
  refine Evt.eq (f := fun k q => _) ?_ (fun k q => by rw [impl_compareWide])
  have rest : ¬ (M1 = 0 ∧ M2 = 0) → ∀ (f : Nat → Nat → Option (Int ⊕ ((Bool × Int × Int) × (Bool × Int × Int) × Unit))), (∀ k q, f k q = (bif (!((wN n1 M1).1 == (wN n2 M2).1)) then (bif (wN n1 M1).1 then some (Sum.inl (-1)) else some (Sum.inl 1)) else (bif (wN n1 M1).1 then (Option.bind (impl_compareSizes k (wN n2 M2) (wN n1 M1)) fun r4 => some (Sum.inl r4)) else some (Sum.inr (wN n1 M1, wN n2 M2, ()))))) →
      Evt (fun k q => both (R := Int) (P := (Bool × Int × Int) × (Bool × Int × Int) × Unit) (f k q) (fun q7 => some q7) (fun y5 => (Option.bind (impl_compareSizes k y5.1 y5.2.1) fun r6 => some r6))) (cmpI (wV n1 M1) (wV n2 M2)) := by
    intro hne f hf
    cases n1 <;> cases n2
    · refine Evt.inr (y := (wN false M1, wN false M2, ())) (Evt.eq (f := fun _ _ => some _) .pure (fun k q => by rw [hf]; rfl)) ?_
      exact Evt.bind (sizes_ev _ _ _ _) .pure
    · refine Evt.inl (q := 1) (Evt.eq (f := fun _ _ => some _) .pure (fun k q => by rw [hf]; rfl)) ?_
      refine .const ?_
      congr 1
      simp only [cmpI, wV]
      simp <;> omega
    · refine Evt.inl (q := -1) (Evt.eq (f := fun _ _ => some _) .pure (fun k q => by rw [hf]; rfl)) ?_
      refine .const ?_
      congr 1
      simp only [cmpI, wV]
      simp <;> omega
    · refine Evt.inl (q := cmpI M2 M1) (Evt.eq (f := fun k q => Option.bind (impl_compareSizes k (wN true M2) (wN true M1)) fun r4 => some (Sum.inl r4)) (Evt.bind (sizes_ev _ _ _ _) .pure) (fun k q => by rw [hf]; rfl)) ?_
      refine .const ?_
      congr 1
      simp only [cmpI, wV]
      simp
  by_cases h1 : M1 = 0
  · by_cases h2 : M2 = 0
    · refine Evt.inl (q := 0) ?_ ?_
      · exact Evt.bind (.const (isZero_eq _ _)) (Evt.ctrue (by simp [h1]) (Evt.bind (.const (isZero_eq _ _)) (Evt.ctrue (by simp [h2]) .pure)))
      · refine .const ?_
        subst h1; subst h2
        cases n1 <;> cases n2 <;> rfl
    · refine rest (fun h => h2 h.2) _ (fun k q => ?_)
      rw [isZero_eq, isZero_eq]
      simp [h1, h2]
  · refine rest (fun h => h1 h.1) _ (fun k q => ?_)
    rw [isZero_eq]
    simp [h1]

end Go.Ev.G

namespace Go.Ev.G
open Go Go.Ev
set_option maxRecDepth 100000

theorem gd_nat {a : Int × Int} (h : gd a) : ∃ (n : Int) (j : Nat), a = (n, (j : Int)) ∧ j ≤ 24 ∧ -1099511627776 ≤ n ∧ n ≤ 1099511627776 ∧ (j = 0 ∨ n % 2 ≠ 0) := by
  obtain ⟨n, j⟩ := a
  obtain ⟨h1, h2, h3, h4, h5⟩ := h
  simp only at *
  obtain ⟨j, rfl⟩ := Int.eq_ofNat_of_zero_le h1
  exact ⟨n, j, rfl, by omega, h3, h4, by omega⟩

def sv (a : Int × Int) : Int := a.1 * 2 ^ (24 - a.2.toNat)

theorem cmpI_mul {a b p : Int} (hp : 0 < p) : cmpI (a * p) (b * p) = cmpI a b := by
  unfold cmpI
  have i1 : (a * p < b * p) ↔ (a < b) := Int.mul_lt_mul_right hp
  have i2 : (b * p < a * p) ↔ (b < a) := Int.mul_lt_mul_right hp
  simp only [i1, i2]

theorem sign_eq (n : Int) : spec_l1Sign n = some (cmpI n 0) := by
  unfold spec_l1Sign cmpI
  rcases Int.lt_trichotomy n 0 with h | h | h
  · have h1 : ¬ n > 0 := by omega
    simp [h, h1]
  · subst h; rfl
  · have h1 : ¬ n < 0 := by omega
    simp [h, h1]

theorem dyDown_eq {n : Int} {p : Nat} (hp : 0 < p) (h1 : -9223372036854775807 ≤ n) (h2 : n < 9223372036854775808) : spec_dyDown n p = some (n / (p : Int)) := by
  unfold spec_dyDown
  have e0 : (((p : Nat) : Int) == 0) = false := by rw [beq_eq_false_iff_ne]; omega
  have hq : Int.tmod n p + p * Int.tdiv n p = n := Int.tmod_add_mul_tdiv n p
  have hpi : (0 : Int) < p := by omega
  have hle : -9223372036854775807 ≤ Int.tdiv n p ∧ Int.tdiv n p < 9223372036854775808 := by
    have h3 := Int.natAbs_tdiv_le_natAbs n p
    omega
  rw [e0]
  simp only [cond_false]
  by_cases h : Int.tmod n p < 0
  · have hd : decide (Int.tmod n p < 0) = true := by simpa using h
    have hlt : -(p : Int) < Int.tmod n p := by
      have := Int.lt_tmod_of_pos n hpi
      exact this
    have e : n / (p : Int) = Int.tdiv n p - 1 := by
      have h4 : n = (Int.tmod n p + p) + p * (Int.tdiv n p - 1) := by
        rw [Int.mul_sub, Int.mul_one]; omega
      conv => lhs; rw [h4]
      rw [Int.add_mul_ediv_left _ _ (by omega), Int.ediv_eq_zero_of_lt (by omega) (by omega)]
      omega
    rw [hd, w64 (n := Int.tdiv n p) (by omega) (by omega), w64 (by omega) (by omega), e]
    rfl
  · have hd : decide (Int.tmod n p < 0) = false := by simpa using h
    have hlt : Int.tmod n p < p := Int.tmod_lt_of_pos n hpi
    have e : n / (p : Int) = Int.tdiv n p := by
      have h4 : n = Int.tmod n p + p * Int.tdiv n p := by omega
      conv => lhs; rw [h4]
      rw [Int.add_mul_ediv_left _ _ (by omega), Int.ediv_eq_zero_of_lt (by omega) (by omega)]
      omega
    rw [hd, w64 (n := Int.tdiv n p) (by omega) (by omega), e]
    rfl

theorem dyFloor_eq {n : Int} {j : Nat} (hj : j ≤ 24) (h1 : -1099511627776 ≤ n) (h2 : n ≤ 1099511627776) : spec_dyFloor (n, (j : Int)) = some (n / ((2 ^ j : Nat) : Int)) := by
  unfold spec_dyFloor
  simp only [dyPower_eq (show j ≤ 62 by omega), Option.bind_some]
  rw [dyDown_eq (Nat.pow_pos (by omega)) (by omega) (by omega)]
  rfl

theorem dyCmp_ev {a b : Int × Int} (ha : gd a) (hb : gd b) : Evt (fun k _ => spec_dyCmp k a b) (cmpI (sv a) (sv b)) := by
  obtain ⟨n, j, rfl, a1, a2, a3, a4⟩ := gd_nat ha
  obtain ⟨m, i, rfl, b1, b2, b3, b4⟩ := gd_nat hb
  refine Evt.eq (f := fun k q => _) ?_ (fun k q => by rw [spec_dyCmp])
  refine Evt.bind (.const (dyFloor_eq a1 a2 a3)) (Evt.bind (.const (dyFloor_eq b1 b2 b3)) ?_)
  -- what each is made of
  have part : ∀ (n : Int) (j : Nat), j ≤ 24 → -1099511627776 ≤ n → n ≤ 1099511627776 → ∃ r : Int, 0 ≤ r ∧ r < ((2 ^ j : Nat) : Int) ∧ n = r + (n / ((2 ^ j : Nat) : Int)) * ((2 ^ j : Nat) : Int) ∧ -1099511627776 ≤ n / ((2 ^ j : Nat) : Int) ∧ n / ((2 ^ j : Nat) : Int) ≤ 1099511627776 ∧
      n * 2 ^ (24 - j) = r * 2 ^ (24 - j) + (n / ((2 ^ j : Nat) : Int)) * 16777216 ∧ r * 2 ^ (24 - j) < 16777216 ∧ 0 ≤ r * 2 ^ (24 - j) := by
    intro n j hj h1 h2
    have hp : (0 : Nat) < 2 ^ j := Nat.pow_pos (by omega)
    have hpi : (0 : Int) < ((2 ^ j : Nat) : Int) := by omega
    have e := Int.emod_add_mul_ediv n ((2 ^ j : Nat) : Int)
    have h3 := Int.emod_nonneg n (show ((2 ^ j : Nat) : Int) ≠ 0 by omega)
    have h4 := Int.emod_lt_of_pos n hpi
    have hpow : ((2 ^ j : Nat) : Int) * 2 ^ (24 - j) = 16777216 := by
      rw [show ((2 ^ j : Nat) : Int) = (2 : Int) ^ j by simp, ← Int.pow_add, show j + (24 - j) = 24 by omega]
      rfl
    have hq : (0 : Int) < 2 ^ (24 - j) := Int.pow_pos (by omega)
    refine ⟨n % ((2 ^ j : Nat) : Int), h3, h4, ?_, ?_, ?_, ?_, ?_, ?_⟩
    · rw [Int.mul_comm (n / _)]; exact e.symm
    · have := Int.ediv_le_ediv hpi h1
      have h5 : (-1099511627776 : Int) ≤ -1099511627776 / ((2 ^ j : Nat) : Int) := by
        rw [Int.le_ediv_iff_mul_le hpi]
        have : (1 : Int) ≤ ((2 ^ j : Nat) : Int) := by omega
        omega
      omega
    · have := Int.ediv_le_ediv hpi h2
      have h5 : (1099511627776 : Int) / ((2 ^ j : Nat) : Int) ≤ 1099511627776 := Int.ediv_le_self _ (by omega)
      omega
    · conv => lhs; rw [← e]
      rw [Int.add_mul, Int.mul_comm ((2 ^ j : Nat) : Int), Int.mul_assoc, hpow]
    · rw [← hpow]
      exact Int.mul_lt_mul_of_pos_right h4 hq
    · exact Int.mul_nonneg h3 (by omega)
  obtain ⟨r, r1, r2, r3, r4, r5, r6, r7, r8⟩ := part n j a1 a2 a3
  obtain ⟨s, s1, s2, s3, s4, s5, s6, s7, s8⟩ := part m i b1 b2 b3
  have hsv1 : sv (n, (j : Int)) = r * 2 ^ (24 - j) + (n / ((2 ^ j : Nat) : Int)) * 16777216 := by simp only [sv, Int.toNat_natCast]; exact r6
  have hsv2 : sv (m, (i : Int)) = s * 2 ^ (24 - i) + (m / ((2 ^ i : Nat) : Int)) * 16777216 := by simp only [sv, Int.toNat_natCast]; exact s6
  rw [hsv1, hsv2]
  generalize hP : n / ((2 ^ j : Nat) : Int) = p at *
  generalize hQ : m / ((2 ^ i : Nat) : Int) = q at *
  by_cases hpq : p = q
  · subst hpq
    refine Evt.cfalse (by simp) ?_
    refine Evt.bind (.const (dyPower_eq (show j ≤ 62 by omega))) ?_
    have pj : ((2 ^ j : Nat) : Int) ≤ 16777216 := by
      have : 2 ^ j ≤ 2 ^ 24 := Nat.pow_le_pow_right (by omega) a1
      omega
    have pi : ((2 ^ i : Nat) : Int) ≤ 16777216 := by
      have : 2 ^ i ≤ 2 ^ 24 := Nat.pow_le_pow_right (by omega) b1
      omega
    have w1 : IntKind.wrap .i64 (p * ((2 ^ j : Nat) : Int)) = n - r := by rw [w64] <;> omega
    have w2 : IntKind.wrap .i64 (p * ((2 ^ i : Nat) : Int)) = m - s := by rw [w64] <;> omega
    have w3 : IntKind.wrap .i64 (n - (n - r)) = r := by rw [w64] <;> omega
    have w4 : IntKind.wrap .i64 (m - (m - s)) = s := by rw [w64] <;> omega
    simp only [w1, w3]
    have x1 := dyAt_ev (n := r) (j := j) (K := 24) a1 (by omega) (by omega) (by omega)
    have x2 := dyAt_ev (n := s) (j := i) (K := 24) b1 (by omega) (by omega) (by omega)
    have t1 := atV_small (24 - j) r (by omega) (by omega)
    have t2 := atV_small (24 - i) s (by omega) (by omega)
    refine Evt.bind x1 (Evt.bind (.const (dyPower_eq (show i ≤ 62 by omega))) ?_)
    simp only [w2, w4]
    refine Evt.bind x2 ?_
    rw [atV_true _ _ t1, atV_true _ _ t2, w64 (by omega) (by omega)]
    refine Evt.bind (.const (sign_eq _)) (.const ?_)
    congr 1
    unfold cmpI
    have i1 : (r * 2 ^ (24 - j) - s * 2 ^ (24 - i) < 0) ↔ (r * 2 ^ (24 - j) + p * 16777216 < s * 2 ^ (24 - i) + p * 16777216) := by omega
    have i2 : (0 < r * 2 ^ (24 - j) - s * 2 ^ (24 - i)) ↔ (s * 2 ^ (24 - i) + p * 16777216 < r * 2 ^ (24 - j) + p * 16777216) := by omega
    simp only [i1, i2]
  · refine Evt.ctrue (by simpa using hpq) ?_
    rw [w64 (by omega) (by omega)]
    refine Evt.bind (.const (sign_eq _)) (.const ?_)
    congr 1
    unfold cmpI
    rcases Int.lt_or_gt_of_ne hpq with h | h
    · rw [if_pos (by omega), if_pos (by omega)]
    · rw [if_neg (by omega), if_pos (by omega), if_neg (by omega), if_pos (by omega)]

end Go.Ev.G

namespace Go.Ev.G
open Go Go.Ev
set_option maxRecDepth 100000

theorem toV_fst {γ : Type} {v : γ} {a : List γ} {b : Bool} : (toV id v a b).1 = a := by
  unfold toV
  split
  · rename_i h; exact h.2.symm
  · simp
theorem toV_rows {γ : Type} {v : γ} {w : List γ × List γ} {a : List (List γ)} {b : Bool} : ((toV (fun x => toV id v x b) w a b).1.map fun z => z.1) = a := by
  unfold toV
  split
  · rename_i h; rw [h.2]; rfl
  · simp only [List.map_map]
    conv => rhs; rw [← List.map_id a]
    apply List.map_congr_left
    intro x hx
    exact toV_fst

def Sized {γ : Type} (a : List (List γ)) : Prop := a.length + (a.map List.length).sum ≤ 1000000

theorem le_sum {l : List Nat} {x : Nat} (h : x ∈ l) : x ≤ l.sum := by
  induction l with
  | nil => simp at h
  | cons y l ih =>
    simp only [List.sum_cons]
    rcases List.mem_cons.1 h with rfl | h
    · omega
    · have := ih h; omega
theorem Sized.len {γ : Type} {a : List (List γ)} (h : Sized a) : a.length ≤ 1000000 := by unfold Sized at h; omega
theorem Sized.row {γ : Type} {a : List (List γ)} (h : Sized a) : ∀ x ∈ a, x.length ≤ 1000000 := by
  intro x hx
  unfold Sized at h
  have := le_sum (List.mem_map.2 ⟨x, hx, rfl⟩ : x.length ∈ a.map List.length)
  omega

abbrev tDyadic : Ty := .pair (.int .i64) (.int .i64)
end Go.Ev.G

namespace Go.Ev.G
open Go Go.Ev
set_option maxRecDepth 100000

def osum : (Int × Int) → List (Int × Int) → Option (Int × Int)
  | s, [] => some s
  | s, x :: xs => if (sumD s x).2 then osum (sumD s x).1 xs else none
end Go.Ev.G

namespace Go.Ev.G
open Go Go.Ev
set_option maxRecDepth 100000

def ivGd (x : (Int × Int) × Int × Int) : Prop := gd x.1 ∧ gd x.2 ∧ sv x.1 ≤ sv x.2
instance : DecidablePred ivGd := fun x => by unfold ivGd; exact inferInstance
theorem cmpI_lt (a b : Int) : decide (cmpI a b < 0) = decide (a < b) := by
  unfold cmpI
  rw [decide_eq_decide]
  split <;> (try split) <;> omega
end Go.Ev.G

namespace Go.Ev.G
open Go Go.Ev
set_option maxRecDepth 100000

theorem min64 {m : Nat} (h : m ≤ 64) : min (Int.toNat (m : Int)) (IntKind.bits .i64) = m := by
  rw [Int.toNat_natCast]; exact Nat.min_eq_left (by simp only [IntKind.bits]; omega)

end Go.Ev.G

namespace Go.Ev.G
open Go Go.Ev
set_option maxRecDepth 100000

abbrev Tm := Int × Int × Int × Int
def tmGd (t : Tm) : Prop := (-1000 ≤ t.1 ∧ t.1 ≤ 1000) ∧ (0 ≤ t.2.1 ∧ t.2.1 ≤ 4) ∧ (0 ≤ t.2.2.1 ∧ t.2.2.1 ≤ 4) ∧ (0 ≤ t.2.2.2 ∧ t.2.2.2 ≤ 4) ∧ t.2.1 + t.2.2.1 + t.2.2.2 ≤ 4
instance : DecidablePred tmGd := fun x => by unfold tmGd; exact inferInstance

theorem poTerm_eq (t : Tm) : spec_poTerm t = some (decide (tmGd t)) := by
  unfold spec_poTerm
  simp only [l1In_eq, Option.bind_some]
  by_cases h1 : -1000 ≤ t.1 ∧ t.1 ≤ 1000
  · rw [decide_eq_true h1, cond_true]
    by_cases h2 : 0 ≤ t.2.1 ∧ t.2.1 ≤ 4
    · rw [decide_eq_true h2, cond_true]
      by_cases h3 : 0 ≤ t.2.2.1 ∧ t.2.2.1 ≤ 4
      · rw [decide_eq_true h3, cond_true]
        by_cases h4 : 0 ≤ t.2.2.2 ∧ t.2.2.2 ≤ 4
        · rw [decide_eq_true h4, cond_true, w64 (n := t.2.1 + t.2.2.1) (by omega) (by omega), w64 (by omega) (by omega)]
          congr 1
          rw [decide_eq_decide]
          exact ⟨fun h => ⟨h1, h2, h3, h4, h⟩, fun h => h.2.2.2.2⟩
        · rw [decide_eq_false h4, decide_eq_false fun h : tmGd t => h4 h.2.2.2.1]; rfl
      · rw [decide_eq_false h3, decide_eq_false fun h : tmGd t => h3 h.2.2.1]; rfl
    · rw [decide_eq_false h2, decide_eq_false fun h : tmGd t => h2 h.2.1]; rfl
  · rw [decide_eq_false h1, decide_eq_false fun h : tmGd t => h1 h.1]; rfl

theorem hasDegree_eq {t : Tm} (h1 : -1000 ≤ t.1 ∧ t.1 ≤ 1000) : impl_hasDegree t = some (decide (tmGd t)) := by
  unfold impl_hasDegree impl_Term_degree
  simp only [inside_eq, Option.bind_some]
  by_cases h2 : 0 ≤ t.2.1 ∧ t.2.1 ≤ 4
  · rw [decide_eq_true h2, cond_true]
    by_cases h3 : 0 ≤ t.2.2.1 ∧ t.2.2.1 ≤ 4
    · rw [decide_eq_true h3, cond_true]
      by_cases h4 : 0 ≤ t.2.2.2 ∧ t.2.2.2 ≤ 4
      · rw [decide_eq_true h4, cond_true, w64 (n := t.2.1 + t.2.2.1) (by omega) (by omega), w64 (by omega) (by omega)]
        congr 1
        rw [decide_eq_decide]
        exact ⟨fun h => ⟨h1, h2, h3, h4, h⟩, fun h => h.2.2.2.2⟩
      · rw [decide_eq_false h4, decide_eq_false fun h : tmGd t => h4 h.2.2.2.1]; rfl
    · rw [decide_eq_false h3, decide_eq_false fun h : tmGd t => h3 h.2.2.1]; rfl
  · rw [decide_eq_false h2, decide_eq_false fun h : tmGd t => h2 h.2.1]; rfl

def lexI (a b : Tm) : Int := if a.2.1 ≠ b.2.1 then cmpI a.2.1 b.2.1 else if a.2.2.1 ≠ b.2.2.1 then cmpI a.2.2.1 b.2.2.1 else cmpI a.2.2.2 b.2.2.2
theorem cmpI_sub (a b : Int) : cmpI (a - b) 0 = cmpI a b := by
  unfold cmpI
  split <;> split <;> (try split) <;> (try split) <;> omega
theorem poOrder_eq {a b : Tm} (ha : tmGd a) (hb : tmGd b) : spec_poOrder a b = some (lexI a b) := by
  have a1 := ha.2
  have b1 := hb.2
  unfold spec_poOrder lexI
  rw [w64 (n := a.2.1 - b.2.1) (by omega) (by omega), w64 (n := a.2.2.1 - b.2.2.1) (by omega) (by omega), w64 (n := a.2.2.2 - b.2.2.2) (by omega) (by omega)]
  simp only [sign_eq, Option.bind_some, cmpI_sub]
  by_cases h1 : a.2.1 = b.2.1
  · rw [if_neg (by simpa using h1), show (a.2.1 != b.2.1) = false by simpa using h1, cond_false]
    by_cases h2 : a.2.2.1 = b.2.2.1
    · rw [if_neg (by simpa using h2), show (a.2.2.1 != b.2.2.1) = false by simpa using h2, cond_false]
    · rw [if_pos h2, show (a.2.2.1 != b.2.2.1) = true by simpa using h2, cond_true]
  · rw [if_pos h1, show (a.2.1 != b.2.1) = true by simpa using h1, cond_true]

theorem cmpC_eq (a b : Int) : cmp_Compare_int a b = some (cmpI a b) := by
  unfold cmp_Compare_int cmp_isNaN_int cmpI
  simp only [bne_self_eq_false, Option.bind_some, cond_false]
  by_cases h : a < b
  · simp [h]
  · by_cases h2 : b < a
    · simp [h, h2]
    · simp [h, h2]

theorem or3_ev (x y z : Int) : Evt (fun k _ => cmp_Or_int k [x, y, z]) (orI x (orI y z)) := by
  refine Evt.eq (f := fun k q => _) ?_ (fun k q => by rw [cmp_Or_int])
  have w1 : IntKind.wrap .i64 (0 + 1) = 1 := by decide
  have w2 : IntKind.wrap .i64 (1 + 1) = 2 := by decide
  have w3 : IntKind.wrap .i64 (2 + 1) = 3 := by decide
  have l3 : Evt (fun k n => cmp_Or_int_L58 k n 0 [x, y, z] 3 3) (.inr (0, ())) := Evt.step (fun k n => cmp_Or_int_L58.eq_2 k _ _ _ _ n) (Evt.cfalse rfl .pure)
  have l2 : Evt (fun k n => cmp_Or_int_L58 k n 0 [x, y, z] 3 2) (if z != 0 then .inl z else .inr (0, ())) := by
    refine Evt.step (fun k n => cmp_Or_int_L58.eq_2 k _ _ _ _ n) (Evt.ctrue rfl (Evt.ctrue rfl (Evt.ctrue rfl ?_)))
    rw [w3]
    cases h : (z != 0) with
    | true => exact Evt.ctrue h .pure
    | false => exact Evt.cfalse h l3
  have l1 : Evt (fun k n => cmp_Or_int_L58 k n 0 [x, y, z] 3 1) (if y != 0 then .inl y else if z != 0 then .inl z else .inr (0, ())) := by
    refine Evt.step (fun k n => cmp_Or_int_L58.eq_2 k _ _ _ _ n) (Evt.ctrue rfl (Evt.ctrue rfl (Evt.ctrue rfl ?_)))
    rw [w2]
    cases h : (y != 0) with
    | true => exact Evt.ctrue h .pure
    | false => exact Evt.cfalse h l2
  have l0 : Evt (fun k n => cmp_Or_int_L58 k n 0 [x, y, z] (([x, y, z] : List Int).length : Int) 0) (if x != 0 then .inl x else if y != 0 then .inl y else if z != 0 then .inl z else .inr (0, ())) := by
    refine Evt.step (fun k n => cmp_Or_int_L58.eq_2 k _ _ _ _ n) (Evt.ctrue rfl (Evt.ctrue rfl (Evt.ctrue rfl ?_)))
    rw [w1]
    cases h : (x != 0) with
    | true => exact Evt.ctrue h .pure
    | false => exact Evt.cfalse h l1
  unfold orI
  cases hx : (x != 0) with
  | true =>
    rw [hx] at l0
    rw [show (x == 0) = false by simpa using hx]
    exact Evt.inl (Evt.diag l0) .pure
  | false =>
    rw [hx] at l0
    rw [show (x == 0) = true by simpa using hx, cond_true]
    cases hy : (y != 0) with
    | true =>
      rw [hy] at l0
      rw [show (y == 0) = false by simpa using hy]
      exact Evt.inl (Evt.diag l0) .pure
    | false =>
      rw [hy] at l0
      rw [show (y == 0) = true by simpa using hy, cond_true]
      cases hz : (z != 0) with
      | true => rw [hz] at l0; exact Evt.inl (Evt.diag l0) .pure
      | false =>
        rw [hz] at l0
        have hz0 : z = 0 := by simpa using hz
        subst hz0
        exact Evt.inr (Evt.diag l0) .pure

theorem cmpI_zero (a b : Int) : cmpI a b = 0 ↔ a = b := by
  unfold cmpI
  split <;> (try split) <;> omega
theorem compareTerms_ev (a b : Tm) : Evt (fun k _ => impl_compareTerms k a b) (lexI a b) := by
  refine Evt.eq (f := fun k q => _) ?_ (fun k q => by rw [impl_compareTerms])
  refine Evt.bind (.const (cmpC_eq _ _)) (Evt.bind (.const (cmpC_eq _ _)) (Evt.bind (.const (cmpC_eq _ _)) (Evt.bind (or3_ev _ _ _) ?_)))
  have : orI (cmpI a.2.1 b.2.1) (orI (cmpI a.2.2.1 b.2.2.1) (cmpI a.2.2.2 b.2.2.2)) = lexI a b := by
    unfold lexI
    by_cases h1 : a.2.1 = b.2.1
    · rw [(cmpI_zero _ _).2 h1, orI_z, if_neg (by simpa using h1)]
      by_cases h2 : a.2.2.1 = b.2.2.1
      · rw [(cmpI_zero _ _).2 h2, orI_z, if_neg (by simpa using h2)]
      · rw [orI_ne (fun h => h2 ((cmpI_zero _ _).1 h)), if_pos h2]
    · rw [orI_ne (fun h => h1 ((cmpI_zero _ _).1 h)), if_pos h1]
  rw [this]
  exact .pure

def okFrom : Option Tm → List Tm → Bool
  | _, [] => true
  | p, e :: r => (decide (tmGd e) && !(e.1 == 0)) && ((match p with | none => true | some q => decide (lexI q e < 0)) && okFrom (some e) r)
def lastO (d : List Tm) : Option Tm := d.getLast?
def polyV (xs : List Tm) : Bool := okFrom none xs && decide ((xs.length : Int) ≤ 20)

theorem okFrom_gd : ∀ (r : List Tm) (p : Option Tm), okFrom p r = true → ∀ t ∈ r, tmGd t
  | [], _, _ => by simp
  | e :: r, p, h => by
    unfold okFrom at h
    simp only [Bool.and_eq_true, decide_eq_true_eq] at h
    intro t ht
    rcases List.mem_cons.1 ht with rfl | ht
    · exact h.1.1
    · exact okFrom_gd r _ h.2.2 t ht
theorem polyV_gd {xs : List Tm} (h : polyV xs = true) : ∀ t ∈ xs, tmGd t := by
  unfold polyV at h
  rw [Bool.and_eq_true] at h
  exact okFrom_gd xs _ h.1

theorem last_get {d r : List Tm} {e q z : Tm} : (d ++ [q] ++ e :: r).getD (Int.toNat (d.length : Int)) z = q := by simp

theorem poGood_ev {xs : List Tm} (hb : xs.length < lenB) : Evt (fun k _ => spec_poGood k xs) (polyV xs) := by
  refine Evt.eq (f := fun k q => _) ?_ (fun k q => by rw [spec_poGood])
  have key : ∀ (r d : List Tm), d ++ r = xs → (∀ q, lastO d = some q → tmGd q) → Evt (fun k n => spec_poGood_L26 k n xs xs (xs.length : Int) d.length) (if okFrom (lastO d) r then .inr (xs, ()) else .inl false) := by
    intro r
    induction r with
    | nil =>
      intro d h hg
      refine Evt.step (fun k n => spec_poGood_L26.eq_2 k _ _ _ _ n) ?_
      rw [List.append_nil] at h
      subst h
      exact Evt.rng0 .pure
    | cons e r ih =>
      intro d h hg
      refine Evt.step (fun k n => spec_poGood_L26.eq_2 k _ _ _ _ n) ?_
      have ih := ih (d ++ [e]) (by simpa using h)
      rw [← len_next (r := r) (by rw [h]; exact hb)] at ih
      rw [show lastO (d ++ [e]) = some e by simp [lastO]] at ih
      subst h
      refine Evt.ctrue mid_lt (Evt.ctrue mid_ge (Evt.ctrue mid_lt ?_))
      rw [mid_get]
      refine Evt.bind (.const (poTerm_eq e)) ?_
      unfold okFrom
      by_cases h1 : tmGd e
      · simp only [decide_eq_true h1, Bool.true_and]
        refine Evt.cfalse rfl ?_
        have ih := ih (fun q hq => by cases hq; exact h1)
        cases h2 : (e.1 == 0) with
        | true => exact Evt.ctrue rfl .pure
        | false =>
          refine Evt.cfalse rfl ?_
          simp only [Bool.not_false, Bool.true_and]
          rcases List.eq_nil_or_concat d with rfl | ⟨d0, q, rfl⟩
          · exact Evt.cfalse rfl (by simpa [lastO] using ih)
          · simp only [List.concat_eq_append] at hg ih ⊢
            have hq : lastO (d0 ++ [q]) = some q := by simp [lastO]
            have hl : (((d0 ++ [q]).length : Nat) : Int) = (d0.length : Int) + 1 := by simp
            have hlb : d0.length < lenB := by simp at hb; omega
            simp only [lenB] at hlb
            refine Evt.ctrue (by rw [hl]; exact decide_eq_true (by omega)) ?_
            have hw : IntKind.wrap .i64 (((d0 ++ [q]).length : Int) - 1) = (d0.length : Int) := by rw [hl, w64 (by omega) (by omega)]; omega
            rw [hw, last_get]
            refine Evt.ctrue (by simp) (Evt.ctrue (by simp <;> omega) (Evt.bind (.const (poOrder_eq (hg q hq) h1)) ?_))
            simp only [hq]
            by_cases h3 : lexI q e < 0
            · simp only [decide_eq_true h3, Bool.true_and]
              exact Evt.cfalse (decide_eq_false (by omega)) ih
            · simp only [decide_eq_false h3, Bool.false_and]
              exact Evt.ctrue (decide_eq_true (by omega)) .pure
      · simp only [decide_eq_false h1, Bool.false_and]
        exact Evt.ctrue rfl .pure
  have h0 := key xs [] rfl (by intro q hq; cases hq)
  simp only [List.length_nil] at h0
  unfold polyV
  rw [show lastO [] = none from rfl] at h0
  cases hall : okFrom none xs with
  | true => rw [hall] at h0; exact Evt.inr (Evt.diag h0) .pure
  | false => rw [hall] at h0; exact Evt.inl (Evt.diag h0) .pure

theorem isPoly_ev {xs : List Tm} (hb : xs.length < lenB) : Evt (fun k _ => impl_isPoly k xs) (polyV xs) := by
  refine Evt.eq (f := fun k q => _) ?_ (fun k q => by rw [impl_isPoly])
  have key : ∀ (r d : List Tm), d ++ r = xs → Evt (fun k n => impl_isPoly_L26 k n xs xs (xs.length : Int) d.length) (if okFrom (lastO d) r then .inr (xs, ()) else .inl false) := by
    intro r
    induction r with
    | nil =>
      intro d h
      refine Evt.step (fun k n => impl_isPoly_L26.eq_2 k _ _ _ _ n) ?_
      rw [List.append_nil] at h
      subst h
      exact Evt.rng0 .pure
    | cons e r ih =>
      intro d h
      refine Evt.step (fun k n => impl_isPoly_L26.eq_2 k _ _ _ _ n) ?_
      have ih := ih (d ++ [e]) (by simpa using h)
      rw [← len_next (r := r) (by rw [h]; exact hb)] at ih
      rw [show lastO (d ++ [e]) = some e by simp [lastO]] at ih
      subst h
      refine Evt.ctrue mid_lt (Evt.ctrue mid_ge (Evt.ctrue mid_lt ?_))
      rw [mid_get]
      unfold okFrom
      cases h2 : (e.1 == 0) with
      | true =>
        simp only [Bool.not_true, Bool.and_false, Bool.false_and]
        exact Evt.ctrue rfl .pure
      | false =>
      refine Evt.cfalse rfl (Evt.bind (.const (inside_eq _ _ _)) ?_)
      simp only [Bool.not_false, Bool.and_true]
      by_cases h0 : -1000 ≤ e.1 ∧ e.1 ≤ 1000
      · refine Evt.cfalse (by rw [decide_eq_true h0]; rfl) (Evt.bind (.const (hasDegree_eq h0)) ?_)
        by_cases h1 : tmGd e
        · simp only [decide_eq_true h1, Bool.true_and]
          refine Evt.cfalse rfl ?_
          rcases List.eq_nil_or_concat d with rfl | ⟨d0, q, rfl⟩
          · exact Evt.cfalse rfl (by simpa [lastO] using ih)
          · simp only [List.concat_eq_append] at ih ⊢
            have hq : lastO (d0 ++ [q]) = some q := by simp [lastO]
            have hl : (((d0 ++ [q]).length : Nat) : Int) = (d0.length : Int) + 1 := by simp
            have hlb : d0.length < lenB := by simp at hb; omega
            simp only [lenB] at hlb
            refine Evt.ctrue (by rw [hl]; exact decide_eq_true (by omega)) ?_
            have hw : IntKind.wrap .i64 (((d0 ++ [q]).length : Int) - 1) = (d0.length : Int) := by rw [hl, w64 (by omega) (by omega)]; omega
            rw [hw, last_get]
            refine Evt.ctrue (by simp) (Evt.ctrue (by simp <;> omega) (Evt.bind (compareTerms_ev q e) ?_))
            simp only [hq]
            by_cases h3 : lexI q e < 0
            · simp only [decide_eq_true h3, Bool.true_and]
              exact Evt.cfalse (decide_eq_false (by omega)) ih
            · simp only [decide_eq_false h3, Bool.false_and]
              exact Evt.ctrue (decide_eq_true (by omega)) .pure
        · simp only [decide_eq_false h1, Bool.false_and]
          exact Evt.ctrue rfl .pure
      · simp only [decide_eq_false fun h : tmGd e => h0 h.1, Bool.false_and]
        exact Evt.ctrue (by rw [decide_eq_false h0]; rfl) .pure
  have h0 := key xs [] rfl
  simp only [List.length_nil] at h0
  unfold polyV
  rw [show lastO [] = none from rfl] at h0
  cases hall : okFrom none xs with
  | true => rw [hall] at h0; exact Evt.inr (Evt.diag h0) .pure
  | false => rw [hall] at h0; exact Evt.inl (Evt.diag h0) .pure
end Go.Ev.G

namespace Go.Ev.G
open Go Go.Ev
set_option maxRecDepth 100000

def scX (pt : List (Int × Int)) (i : Nat) : Int := (pt.getD i (0, 0)).1 * 2 ^ (9 - (pt.getD i (0, 0)).2).toNat
def ptS (pt : List (Int × Int)) : Prop := ∀ x ∈ pt, 0 ≤ x.2 ∧ x.2 ≤ 9 ∧ (x.1 * 2 ^ (9 - x.2).toNat).natAbs ≤ 4096
def degT (t : Tm) : Nat := t.2.1.toNat + t.2.2.1.toNat + t.2.2.2.toNat
def tmS (n : Nat) (t : Tm) : Prop := 0 ≤ t.2.1 ∧ 0 ≤ t.2.2.1 ∧ 0 ≤ t.2.2.2 ∧ degT t ≤ 4 ∧ t.1.natAbs * 2 ^ (3 * degT t) ≤ 4096000 ∧ (0 < t.2.1 → 0 < n) ∧ (0 < t.2.2.1 → 1 < n) ∧ (0 < t.2.2.2 → 2 < n)
def scT (pt : List (Int × Int)) (t : Tm) : Int := t.1 * 2 ^ (9 * (4 - degT t)) * scX pt 0 ^ t.2.1.toNat * scX pt 1 ^ t.2.2.1.toNat * scX pt 2 ^ t.2.2.2.toNat
def scV (p : List Tm) (pt : List (Int × Int)) : Int := (p.map (scT pt)).sum

theorem natAbs_mul_le {a b : Int} {B : Nat} (h : b.natAbs ≤ B) : (a * b).natAbs ≤ a.natAbs * B := by
  rw [Int.natAbs_mul]
  exact Nat.mul_le_mul_left _ h
theorem sc_mul {pt : List (Int × Int)} {i : Nat} (hp : ptS pt) (hi : i < pt.length) (x5 : Int) (x11 : List Tm) (x12 x13 x26 : Int) (x25 : Int × Int × Int) {e : Nat} (he : e ≤ 4) : ∀ (m : Nat) (c : Int), m ≤ e → c.natAbs * 4096 ^ m ≤ 281474976710656000 →
    Evt (fun k n => impl_scaledAt_L15309414 k n pt x5 c (i : Int) x11 x12 x13 x25 x26 (e : Int) ((e - m : Nat) : Int)) (.inr (pt, x5, c * scX pt i ^ m, x11, x12, x13, x25, x26, ())) := by
  intro m
  induction m with
  | zero =>
    intro c hm hc
    refine Evt.step (fun k n => impl_scaledAt_L15309414.eq_2 k _ _ _ _ _ _ _ _ _ _ _ n) ?_
    rw [Int.pow_zero, Int.mul_one]
    exact Evt.cfalse (decide_eq_false (by omega)) .pure
  | succ m ih =>
    intro c hm hc
    obtain ⟨k0, k9, hb⟩ := hp _ (List.getElem_mem hi)
    have hg : pt.getD i (0, 0) = pt[i] := by rw [List.getD_eq_getElem?_getD, List.getElem?_eq_getElem hi]; rfl
    have hX : (scX pt i).natAbs ≤ 4096 := by unfold scX; rw [hg]; exact hb
    have hcx := natAbs_mul_le (a := c) hX
    have hc2 : (c * scX pt i).natAbs * 4096 ^ m ≤ 281474976710656000 := by
      refine Nat.le_trans (Nat.mul_le_mul_right _ hcx) ?_
      rw [Nat.mul_assoc, Nat.mul_comm 4096, ← Nat.pow_succ]
      exact hc
    have hc3 : (c * scX pt i).natAbs ≤ 281474976710656000 := Nat.le_trans (Nat.le_mul_of_pos_right _ (Nat.pow_pos (by decide))) hc2
    have ih := ih (c * scX pt i) (by omega) hc2
    refine Evt.step (fun k n => impl_scaledAt_L15309414.eq_2 k _ _ _ _ _ _ _ _ _ _ _ n) ?_
    have e1 : Int.toNat (i : Int) = i := by omega
    rw [e1, hg]
    have w1 : IntKind.wrap .i64 (9 - pt[i].2) = 9 - pt[i].2 := w64 (by omega) (by omega)
    have m1 : min (Int.toNat (9 - pt[i].2)) (IntKind.bits .i64) = (9 - pt[i].2).toNat := by simp [IntKind.bits]; omega
    have w2 : IntKind.wrap .i64 (pt[i].1 * 2 ^ (9 - pt[i].2).toNat) = scX pt i := by
      unfold scX
      rw [hg]
      exact w64 (by omega) (by omega)
    have w3 : IntKind.wrap .i64 (((e - (m + 1) : Nat) : Int) + 1) = ((e - m : Nat) : Int) := by rw [w64 (by omega) (by omega)]; omega
    rw [w1, m1, w2, w3, w64 (n := c * scX pt i) (by omega) (by omega)]
    rw [Int.mul_assoc, ← Int.pow_succ'] at ih
    exact Evt.ctrue (decide_eq_true (by omega)) (Evt.ctrue mid_ge (Evt.ctrue (decide_eq_true (by omega)) (Evt.ctrue mid_ge (Evt.ctrue (decide_eq_true (by omega)) (Evt.cfalse (decide_eq_false (by omega)) ih)))))
theorem sc_mul0 {pt : List (Int × Int)} {i : Nat} (hp : ptS pt) (x5 : Int) (x11 : List Tm) (x12 x13 x26 : Int) (x25 : Int × Int × Int) {e : Int} (h0 : 0 ≤ e) (he : e ≤ 4) (hi : 0 < e → i < pt.length) {c : Int} (hc : c.natAbs * 4096 ^ e.toNat ≤ 281474976710656000) :
    Evt (fun k n => impl_scaledAt_L15309414 k n pt x5 c (i : Int) x11 x12 x13 x25 x26 e 0) (.inr (pt, x5, c * scX pt i ^ e.toNat, x11, x12, x13, x25, x26, ())) := by
  by_cases hz : e = 0
  · subst hz
    refine Evt.step (fun k n => impl_scaledAt_L15309414.eq_2 k _ _ _ _ _ _ _ _ _ _ _ n) ?_
    have : scX pt i ^ (0 : Int).toNat = 1 := by rw [show (0 : Int).toNat = 0 from rfl, Int.pow_zero]
    rw [this, Int.mul_one]
    exact Evt.cfalse (by decide) .pure
  · obtain ⟨m, hm⟩ := Int.eq_ofNat_of_zero_le h0
    subst hm
    have h := sc_mul hp (hi (by omega)) x5 x11 x12 x13 x26 x25 (e := m) (by omega) m c (Nat.le_refl _) hc
    rw [Nat.sub_self] at h
    exact h

theorem sc_term {pt : List (Int × Int)} {t : Tm} (hp : ptS pt) (ht : tmS pt.length t) (x5 : Int) (x11 : List Tm) (x12 x13 : Int) :
    Evt (fun k n => impl_scaledAt_L59802 k n pt x5 (t.1 * 2 ^ (9 * (4 - degT t))) x11 x12 x13 t.2 0) (.inr (pt, x5, scT pt t, x11, x12, x13, ())) := by
  obtain ⟨t0, t1, t2, hd, hb, i0, i1, i2⟩ := ht
  have hX : ∀ i, (scX pt i).natAbs ≤ 4096 := by
    intro i
    unfold scX
    by_cases hi : i < pt.length
    · rw [List.getD_eq_getElem?_getD, List.getElem?_eq_getElem hi]
      exact (hp _ (List.getElem_mem hi)).2.2
    · rw [List.getD_eq_getElem?_getD, List.getElem?_eq_none (by omega)]
      simp
  have hpw : ∀ (i m : Nat), (scX pt i ^ m).natAbs ≤ 4096 ^ m := by
    intro i m
    rw [Int.natAbs_pow]
    exact Nat.pow_le_pow_left (hX i) m
  have hc0 : (t.1 * 2 ^ (9 * (4 - degT t))).natAbs * 4096 ^ degT t ≤ 281474976710656000 := by
    rw [Int.natAbs_mul, Int.natAbs_pow]
    have e1 : (2 : Int).natAbs = 2 := rfl
    have e2 : (4096 : Nat) = 2 ^ 12 := by decide
    rw [e1, e2, ← Nat.pow_mul, Nat.mul_assoc, ← Nat.pow_add]
    have e3 : 9 * (4 - degT t) + 12 * degT t = 3 * degT t + 36 := by omega
    rw [e3, Nat.pow_add, ← Nat.mul_assoc]
    have : (2 : Nat) ^ 36 = 68719476736 := by decide
    rw [this]
    omega
  have hda : degT t = t.2.1.toNat + (t.2.2.1.toNat + t.2.2.2.toNat) := by unfold degT; omega
  have c1 : (t.1 * 2 ^ (9 * (4 - degT t))).natAbs * 4096 ^ t.2.1.toNat ≤ 281474976710656000 := by
    rw [hda, Nat.pow_add, ← Nat.mul_assoc] at hc0
    rw [← hda] at hc0
    exact Nat.le_trans (Nat.le_mul_of_pos_right _ (Nat.pow_pos (by decide))) hc0
  have c12 : (t.1 * 2 ^ (9 * (4 - degT t)) * scX pt 0 ^ t.2.1.toNat).natAbs * 4096 ^ (t.2.2.1.toNat + t.2.2.2.toNat) ≤ 281474976710656000 := by
    refine Nat.le_trans (Nat.mul_le_mul_right _ (natAbs_mul_le (hpw 0 _))) ?_
    rw [Nat.mul_assoc, ← Nat.pow_add, ← hda]
    exact hc0
  have c2 : (t.1 * 2 ^ (9 * (4 - degT t)) * scX pt 0 ^ t.2.1.toNat).natAbs * 4096 ^ t.2.2.1.toNat ≤ 281474976710656000 := by
    rw [Nat.pow_add, ← Nat.mul_assoc] at c12
    exact Nat.le_trans (Nat.le_mul_of_pos_right _ (Nat.pow_pos (by decide))) c12
  have c3 : (t.1 * 2 ^ (9 * (4 - degT t)) * scX pt 0 ^ t.2.1.toNat * scX pt 1 ^ t.2.2.1.toNat).natAbs * 4096 ^ t.2.2.2.toNat ≤ 281474976710656000 := by
    refine Nat.le_trans (Nat.mul_le_mul_right _ (natAbs_mul_le (hpw 1 _))) ?_
    rw [Nat.mul_assoc, ← Nat.pow_add]
    exact c12
  have d0 := hda
  have l0 := sc_mul0 (i := 0) hp x5 x11 x12 x13 0 t.2 t0 (by omega) i0 c1
  have l1 := sc_mul0 (i := 1) hp x5 x11 x12 x13 1 t.2 t1 (by omega) i1 c2
  have l2 := sc_mul0 (i := 2) hp x5 x11 x12 x13 2 t.2 t2 (by omega) i2 c3
  refine Evt.step (fun k n => impl_scaledAt_L59802.eq_2 k _ _ _ _ _ _ _ _ n) (Evt.ctrue (by decide) (Evt.ctrue (by decide) (Evt.inr (Evt.diag l0) ?_)))
  refine Evt.step (fun k n => impl_scaledAt_L59802.eq_2 k _ _ _ _ _ _ _ _ n) (Evt.ctrue (decide_eq_true (by dsimp only; decide)) (Evt.cfalse (by dsimp only; decide) (Evt.ctrue (by dsimp only; decide) (Evt.inr (Evt.diag l1) ?_))))
  refine Evt.step (fun k n => impl_scaledAt_L59802.eq_2 k _ _ _ _ _ _ _ _ n) (Evt.ctrue (decide_eq_true (by dsimp only; decide)) (Evt.cfalse (by dsimp only; decide) (Evt.cfalse (by dsimp only; decide) (Evt.ctrue (by dsimp only; decide) (Evt.inr (Evt.diag l2) ?_)))))
  exact Evt.step (fun k n => impl_scaledAt_L59802.eq_2 k _ _ _ _ _ _ _ _ n) (Evt.cfalse (decide_eq_false (by dsimp only; decide)) .pure)
theorem scT_bd {pt : List (Int × Int)} {t : Tm} (hp : ptS pt) (ht : tmS pt.length t) : (scT pt t).natAbs ≤ 281474976710656000 := by
  obtain ⟨t0, t1, t2, hd, hb, i0, i1, i2⟩ := ht
  have hX : ∀ i, (scX pt i).natAbs ≤ 4096 := by
    intro i
    unfold scX
    by_cases hi : i < pt.length
    · rw [List.getD_eq_getElem?_getD, List.getElem?_eq_getElem hi]
      exact (hp _ (List.getElem_mem hi)).2.2
    · rw [List.getD_eq_getElem?_getD, List.getElem?_eq_none (by omega)]
      simp
  have hpw : ∀ (i m : Nat), (scX pt i ^ m).natAbs ≤ 4096 ^ m := by
    intro i m
    rw [Int.natAbs_pow]
    exact Nat.pow_le_pow_left (hX i) m
  unfold scT
  refine Nat.le_trans (natAbs_mul_le (hpw 2 _)) ?_
  refine Nat.le_trans (Nat.mul_le_mul_right _ (natAbs_mul_le (hpw 1 _))) ?_
  refine Nat.le_trans (Nat.mul_le_mul_right _ (Nat.mul_le_mul_right _ (natAbs_mul_le (hpw 0 _)))) ?_
  rw [Nat.mul_assoc, Nat.mul_assoc, ← Nat.pow_add, ← Nat.pow_add]
  have hda : t.2.1.toNat + (t.2.2.1.toNat + t.2.2.2.toNat) = degT t := by unfold degT; omega
  rw [hda, Int.natAbs_mul, Int.natAbs_pow]
  have e1 : (2 : Int).natAbs = 2 := rfl
  have e2 : (4096 : Nat) = 2 ^ 12 := by decide
  rw [e1, e2, ← Nat.pow_mul, Nat.mul_assoc, ← Nat.pow_add]
  have e3 : 9 * (4 - degT t) + 12 * degT t = 3 * degT t + 36 := by omega
  rw [e3, Nat.pow_add, ← Nat.mul_assoc]
  have : (2 : Nat) ^ 36 = 68719476736 := by decide
  rw [this]
  omega
theorem scaledAt_ev {p : List Tm} {pt : List (Int × Int)} (hl : p.length ≤ 20) (ht : ∀ t ∈ p, tmS pt.length t) (hp : ptS pt) : Evt (fun k _ => impl_scaledAt k p pt) (scV p pt) := by
  refine Evt.eq (f := fun k q => _) ?_ (fun k q => by rw [impl_scaledAt])
  have sb : ∀ (d : List Tm), (∀ t ∈ d, tmS pt.length t) → ((d.map (scT pt)).sum).natAbs ≤ d.length * 281474976710656000 := by
    intro d
    induction d with
    | nil => intro _; simp
    | cons e d ih =>
      intro h
      have h1 := ih (fun t ht => h t (by simp [ht]))
      have h2 := scT_bd hp (h e (by simp))
      simp only [List.map_cons, List.sum_cons, List.length_cons]
      rw [Nat.add_mul]
      have := Int.natAbs_add_le (scT pt e) ((d.map (scT pt)).sum)
      omega
  have key : ∀ (r d : List Tm), d ++ r = p → Evt (fun k n => impl_scaledAt_L58 k n pt ((d.map (scT pt)).sum) p (p.length : Int) d.length) (.inr (scV p pt, ())) := by
    intro r
    induction r with
    | nil =>
      intro d h
      refine Evt.step (fun k n => impl_scaledAt_L58.eq_2 k _ _ _ _ _ n) ?_
      rw [List.append_nil] at h
      subst h
      exact Evt.rng0 .pure
    | cons t r ih =>
      intro d h
      have hxl := congrArg List.length h
      simp at hxl
      have htm := ht t (by rw [← h]; simp)
      have hb := sb (d ++ [t]) (fun u hu => ht u (by rw [← h]; simp at hu ⊢; rcases hu with hu | hu <;> simp [hu]))
      have ih := ih (d ++ [t]) (by simpa using h)
      rw [← len_next (r := r) (by rw [h]; simp only [lenB]; omega)] at ih
      have g : p.getD (Int.toNat (d.length : Int)) (0, 0, 0, 0) = t := by rw [← h]; exact mid_get
      refine Evt.step (fun k n => impl_scaledAt_L58.eq_2 k _ _ _ _ _ n) ?_
      rw [g]
      obtain ⟨t0, t1, t2, hd, hbb, _⟩ := htm
      have hdg : impl_Term_degree t = some (degT t : Int) := by
        unfold impl_Term_degree degT at *
        rw [w64 (n := t.2.1 + t.2.2.1) (by omega) (by omega), w64 (by omega) (by omega)]
        congr 1
        omega
      have w1 : IntKind.wrap .i64 (4 - (degT t : Int)) = ((4 - degT t : Nat) : Int) := by rw [w64 (by omega) (by omega)]; omega
      have w2 : IntKind.wrap .i64 (9 * ((4 - degT t : Nat) : Int)) = ((9 * (4 - degT t) : Nat) : Int) := by rw [w64 (by omega) (by omega)]; omega
      have m1 : min (Int.toNat ((9 * (4 - degT t) : Nat) : Int)) (IntKind.bits .i64) = 9 * (4 - degT t) := by simp [IntKind.bits]; omega
      have hc : (t.1 * 2 ^ (9 * (4 - degT t))).natAbs ≤ 281474976710656000 := by
        rw [Int.natAbs_mul, Int.natAbs_pow]
        have e1 : (2 : Int).natAbs = 2 := rfl
        have h36 : 2 ^ (9 * (4 - degT t)) ≤ 2 ^ 36 := Nat.pow_le_pow_right (by decide) (by omega)
        have hn : t.1.natAbs ≤ 4096000 := Nat.le_trans (Nat.le_mul_of_pos_right _ (Nat.pow_pos (by decide))) hbb
        rw [e1]
        exact Nat.le_trans (Nat.mul_le_mul hn h36) (by decide)
      refine Evt.ctrue (by rw [← h]; exact mid_lt) (Evt.ctrue mid_ge (Evt.ctrue (by rw [← h]; exact mid_lt) (Evt.bind (.const hdg) ?_)))
      rw [w1, w2, m1, w64 (n := t.1 * 2 ^ (9 * (4 - degT t))) (by omega) (by omega)]
      refine Evt.cfalse (decide_eq_false (by omega)) (Evt.bind (.const (r := t.2) rfl) (Evt.inr (Evt.diag (sc_term hp (ht t (by rw [← h]; simp)) _ _ _ _)) ?_))
      dsimp only
      have es : ((d ++ [t]).map (scT pt)).sum = (d.map (scT pt)).sum + scT pt t := by simp
      rw [es] at ih hb
      simp only [List.length_append, List.length_cons, List.length_nil] at hb
      rw [w64 (n := (d.map (scT pt)).sum + scT pt t) (by omega) (by omega)]
      exact ih
  exact Evt.inr (Evt.diag (key p [] rfl)) .pure
end Go.Ev.G

namespace Go.Ev.G
open Go Go.Ev
set_option maxRecDepth 100000

def keyT (t : Tm) : Int := 25 * t.2.1 + 5 * t.2.2.1 + t.2.2.2
def exOk (t : Tm) : Prop := (0 ≤ t.2.1 ∧ t.2.1 ≤ 4) ∧ (0 ≤ t.2.2.1 ∧ t.2.2.1 ≤ 4) ∧ (0 ≤ t.2.2.2 ∧ t.2.2.2 ≤ 4)
theorem lexI_lt {a b : Tm} (ha : exOk a) (hb : exOk b) : lexI a b < 0 ↔ keyT a < keyT b := by
  unfold lexI cmpI keyT
  obtain ⟨⟨_, _⟩, ⟨_, _⟩, _, _⟩ := ha
  obtain ⟨⟨_, _⟩, ⟨_, _⟩, _, _⟩ := hb
  split
  · split
    · omega
    · split <;> omega
  · split
    · split
      · omega
      · split <;> omega
    · split
      · omega
      · split <;> omega
theorem lexI_zero {a b : Tm} : lexI a b = 0 ↔ a.2 = b.2 := by
  unfold lexI
  obtain ⟨c, x, y, z⟩ := a
  obtain ⟨c', x', y', z'⟩ := b
  simp only [Prod.mk.injEq]
  split
  · rw [cmpI_zero]; omega
  · split
    · rw [cmpI_zero]; omega
    · rw [cmpI_zero]; omega
def srt (l : List Tm) : Prop := l.Pairwise fun a b => keyT a ≤ keyT b

theorem ins_loop {x2 x8 : Int} {e : Tm} {R : List Tm} (he : exOk e) : ∀ (m : Nat) (P1 P2 : List Tm), P1.length = m → (P1 ++ e :: P2 ++ R).length < lenB → (∀ t ∈ P1 ++ P2, exOk t) → srt (P1 ++ P2) → (∀ p ∈ P2, keyT e ≤ keyT p) →
    ∃ Y, Y.Perm (P1 ++ e :: P2) ∧ srt Y ∧ Evt (fun k n => slices_insertionSortCmpFunc_Term_impl_compareTerms_L402 k n (P1 ++ e :: (P2 ++ R)) 0 x2 () x8 P1.length) (.inr (Y ++ R, 0, x2, (), x8, ())) := by
  intro m
  induction m with
  | zero =>
    intro P1 P2 hm hb hx hs hp
    have hn : P1 = [] := List.eq_nil_of_length_eq_zero hm
    subst hn
    refine ⟨e :: P2, .refl _, List.pairwise_cons.2 ⟨hp, hs⟩, Evt.step (fun k n => slices_insertionSortCmpFunc_Term_impl_compareTerms_L402.eq_2 k _ _ _ _ _ _ n) ?_⟩
    exact Evt.cfalse (by simp) .pure
  | succ m ih =>
    intro P1 P2 hm hb hx hs hp
    obtain ⟨Q, p, hQ⟩ : ∃ Q p, P1 = Q ++ [p] := ⟨P1.dropLast, P1.getLast (by intro h; rw [h] at hm; simp at hm), (List.dropLast_concat_getLast _).symm⟩
    subst hQ
    have hQl : Q.length = m := by simpa using hm
    have hpx : exOk p := hx p (by simp)
    have e0 : Q ++ [p] ++ e :: (P2 ++ R) = Q ++ p :: e :: (P2 ++ R) := by simp
    have hlen : (Q ++ [p] ++ e :: (P2 ++ R)).length = Q.length + 2 + P2.length + R.length := by simp; omega
    simp only [List.length_append, List.length_cons, List.length_nil, lenB] at hb
    have hj : IntKind.wrap .i64 (((Q ++ [p]).length : Int) - 1) = (Q.length : Int) := by rw [w64 (by simp <;> omega) (by simp <;> omega)]; simp
    have g1 : (Q ++ [p] ++ e :: (P2 ++ R)).getD (Int.toNat ((Q ++ [p]).length : Int)) (0, 0, 0, 0) = e := mid_get
    have g2 : (Q ++ [p] ++ e :: (P2 ++ R)).getD (Int.toNat (Q.length : Int)) (0, 0, 0, 0) = p := by rw [e0]; exact mid_get
    have s1 : (Q ++ [p] ++ e :: (P2 ++ R)).set (Int.toNat ((Q ++ [p]).length : Int)) p = Q ++ p :: (p :: (P2 ++ R)) := by rw [mid_set]; simp
    have c1 : decide (((Q ++ [p]).length : Int) < ((Q ++ [p] ++ e :: (P2 ++ R)).length : Int)) = true := mid_lt
    have c2 : decide ((Q.length : Int) < ((Q ++ [p] ++ e :: (P2 ++ R)).length : Int)) = true := decide_eq_true (by rw [hlen]; omega)
    have hstep := fun (k n : Nat) => slices_insertionSortCmpFunc_Term_impl_compareTerms_L402.eq_2 k (Q ++ [p] ++ e :: (P2 ++ R)) 0 x2 () x8 ((Q ++ [p]).length : Int) n
    simp only [hj, g1, g2, s1] at hstep
    by_cases hc : lexI e p < 0
    · obtain ⟨Y, q1, q2, q3⟩ := ih Q (p :: P2) hQl (by simp only [List.length_append, List.length_cons, lenB]; omega) (by simpa using hx) (by simpa [srt] using hs) (by
        intro q hq
        have hep := (lexI_lt he hpx).1 hc
        rcases List.mem_cons.1 hq with rfl | hq
        · omega
        · have h2 := (List.pairwise_append.1 hs).2.2 p (by simp) q hq
          omega)
      refine ⟨Y, q1.trans ?_, q2, Evt.step (fun k n => hstep k n) ?_⟩
      · rw [List.append_assoc]
        exact List.Perm.append_left Q (List.Perm.swap p e P2)
      · refine Evt.ctrue (decide_eq_true (by simp)) (Evt.ctrue mid_ge (Evt.ctrue c1 (Evt.ctrue mid_ge (Evt.ctrue c2 (Evt.bind (compareTerms_ev e p) (Evt.ctrue (decide_eq_true hc) (Evt.ctrue mid_ge (Evt.ctrue c2 (Evt.ctrue mid_ge (Evt.ctrue c1 (Evt.ctrue mid_ge (Evt.ctrue c1 (Evt.ctrue mid_ge (Evt.ctrue mid_lt ?_))))))))))))))
        rw [mid_set]
        exact q3
    · refine ⟨Q ++ [p] ++ e :: P2, .refl _, ?_, Evt.step (fun k n => hstep k n) ?_⟩
      · have hpe : keyT p ≤ keyT e := by
          have := mt (lexI_lt he hpx).2 hc
          omega
        refine List.pairwise_append.2 ⟨(List.pairwise_append.1 hs).1, List.pairwise_cons.2 ⟨hp, (List.pairwise_append.1 hs).2.1⟩, fun a ha b hb => ?_⟩
        have hap : keyT a ≤ keyT p := by
          rcases List.mem_append.1 ha with ha | ha
          · exact (List.pairwise_append.1 (List.pairwise_append.1 hs).1).2.2 a ha p (by simp)
          · simp at ha; subst ha; exact Int.le_refl _
        rcases List.mem_cons.1 hb with rfl | hb
        · omega
        · have := hp b hb
          omega
      · refine Evt.ctrue (decide_eq_true (by simp)) (Evt.ctrue mid_ge (Evt.ctrue c1 (Evt.ctrue mid_ge (Evt.ctrue c2 (Evt.bind (compareTerms_ev e p) (Evt.cfalse (decide_eq_false hc) ?_))))))
        have : Q ++ [p] ++ e :: (P2 ++ R) = Q ++ [p] ++ e :: P2 ++ R := by simp
        rw [this]
        exact .pure

theorem sort_loop : ∀ (r P : List Tm), (P ++ r).length < lenB → (∀ t ∈ P ++ r, exOk t) → srt P →
    ∃ Y, Y.Perm (P ++ r) ∧ srt Y ∧ Evt (fun k n => slices_insertionSortCmpFunc_Term_impl_compareTerms_L6 k n (P ++ r) 0 ((P ++ r).length : Int) () P.length) (.inr (Y, ())) := by
  intro r
  induction r with
  | nil =>
    intro P hb hx hs
    rw [List.append_nil]
    exact ⟨P, .refl _, hs, Evt.step (fun k n => slices_insertionSortCmpFunc_Term_impl_compareTerms_L6.eq_2 k _ _ _ _ _ n) (Evt.cfalse (by simp) .pure)⟩
  | cons e r ih =>
    intro P hb hx hs
    obtain ⟨Y, q1, q2, q3⟩ := ins_loop (x2 := ((P ++ e :: r).length : Int)) (x8 := (P.length : Int)) (R := r) (hx e (by simp)) P.length P [] rfl (by simpa using hb) (fun t ht => hx t (by simp at ht; simp [ht])) (by simpa using hs) (by simp)
    have hl := q1.length_eq
    have hl2 : Y.length = P.length + 1 := by simpa using hl
    have hmem : ∀ t ∈ Y ++ r, exOk t := by
      intro t ht
      rcases List.mem_append.1 ht with ht | ht
      · have := q1.mem_iff.1 ht
        exact hx t (by simp at this; rcases this with h | h <;> simp [h])
      · exact hx t (by simp [ht])
    have hlen : (Y ++ r).length = (P ++ e :: r).length := by simp; omega
    obtain ⟨Z, z1, z2, z3⟩ := ih Y (by rw [hlen]; exact hb) hmem q2
    refine ⟨Z, z1.trans ?_, z2, Evt.step (fun k n => slices_insertionSortCmpFunc_Term_impl_compareTerms_L6.eq_2 k _ _ _ _ _ n) ?_⟩
    · have := List.Perm.append_right r q1
      simpa using this
    · refine Evt.ctrue mid_lt (Evt.inr (Evt.diag q3) ?_)
      rw [hlen, hl2] at z3
      have hb2 : P.length < lenB := by simp at hb; simp only [lenB] at hb ⊢; omega
      simp only [w64_next hb2]
      exact z3

theorem insSort_ev {l : List Tm} (hb : l.length < lenB) (hx : ∀ t ∈ l, exOk t) : ∃ Y, Y.Perm l ∧ srt Y ∧ Evt (fun k _ => slices_insertionSortCmpFunc_Term_impl_compareTerms k l 0 (l.length : Int) ()) Y := by
  cases l with
  | nil =>
    refine ⟨[], .refl _, List.Pairwise.nil, Evt.eq (f := fun k q => _) ?_ (fun k q => by rw [slices_insertionSortCmpFunc_Term_impl_compareTerms])⟩
    have h1 : Evt (fun k n => slices_insertionSortCmpFunc_Term_impl_compareTerms_L6 k n [] 0 (([] : List Tm).length : Int) () (IntKind.wrap .i64 (0 + 1))) (.inr ([], ())) := Evt.step (fun k n => slices_insertionSortCmpFunc_Term_impl_compareTerms_L6.eq_2 k _ _ _ _ _ n) (Evt.cfalse (by decide) .pure)
    exact Evt.inr (Evt.diag h1) .pure
  | cons a r =>
    obtain ⟨Y, q1, q2, q3⟩ := sort_loop r [a] hb hx (List.pairwise_singleton _ _)
    refine ⟨Y, q1, q2, Evt.eq (f := fun k q => _) ?_ (fun k q => by rw [slices_insertionSortCmpFunc_Term_impl_compareTerms])⟩
    exact Evt.inr (Evt.diag q3) .pure
theorem insNone_ev {l : List Tm} {m : Nat} (hm : m < lenB) : Evt (fun k _ => slices_insertionSortCmpFunc_Term_impl_compareTerms k l m m ()) l := by
  refine Evt.eq (f := fun k q => _) ?_ (fun k q => by rw [slices_insertionSortCmpFunc_Term_impl_compareTerms])
  have h1 : Evt (fun k n => slices_insertionSortCmpFunc_Term_impl_compareTerms_L6 k n l (m : Int) (m : Int) () (IntKind.wrap .i64 ((m : Int) + 1))) (.inr (l, ())) := by
    refine Evt.step (fun k n => slices_insertionSortCmpFunc_Term_impl_compareTerms_L6.eq_2 k _ _ _ _ _ n) (Evt.cfalse (decide_eq_false ?_) .pure)
    rw [w64_next hm]
    omega
  exact Evt.inr (Evt.diag h1) .pure

theorem stable_ev {l : List Tm} (hb : l.length ≤ 20) (hx : ∀ t ∈ l, exOk t) : ∃ Y, Y.Perm l ∧ srt Y ∧ Evt (fun k _ => slices_SortStableFunc_Term_Term_impl_compareTerms k l ()) Y := by
  obtain ⟨Y, q1, q2, q3⟩ := insSort_ev (l := l) (by simp only [lenB]; omega) hx
  refine ⟨Y, q1, q2, Evt.eq (f := fun k q => _) ?_ (fun k q => by rw [slices_SortStableFunc_Term_Term_impl_compareTerms])⟩
  refine Evt.bind (a := Y) ?_ .pure
  refine Evt.eq (f := fun k q => _) ?_ (fun k q => by rw [slices_stableCmpFunc_Term_impl_compareTerms])
  have hend : Evt (fun k n => slices_stableCmpFunc_Term_impl_compareTerms_L62 k n Y (l.length : Int) () 20) (.inr (Y, ())) :=
    Evt.step (fun k n => slices_stableCmpFunc_Term_impl_compareTerms_L62.eq_2 k _ _ _ _ n) (Evt.cfalse (decide_eq_false (by omega)) .pure)
  by_cases h20 : l.length = 20
  · have hl : (l.length : Int) = 20 := by omega
    have h1 : Evt (fun k n => slices_stableCmpFunc_Term_impl_compareTerms_L28 k n l (l.length : Int) () 20 0 20) (.inr (Y, (l.length : Int), (), 20, 20, ())) := by
      refine Evt.step (fun k n => slices_stableCmpFunc_Term_impl_compareTerms_L28.eq_2 k _ _ _ _ _ _ n) (Evt.ctrue (decide_eq_true (by omega)) ?_)
      rw [hl] at q3 ⊢
      refine Evt.bind q3 ?_
      exact Evt.step (fun k n => slices_stableCmpFunc_Term_impl_compareTerms_L28.eq_2 k _ _ _ _ _ _ n) (Evt.cfalse (by decide) .pure)
    refine Evt.inr (Evt.diag h1) (Evt.bind (a := Y) ?_ (Evt.inr (Evt.diag hend) .pure))
    rw [hl]
    exact insNone_ev (m := 20) (by simp only [lenB]; omega)
  · have h1 : Evt (fun k n => slices_stableCmpFunc_Term_impl_compareTerms_L28 k n l (l.length : Int) () 20 0 20) (.inr (l, (l.length : Int), (), 20, 0, ())) :=
      Evt.step (fun k n => slices_stableCmpFunc_Term_impl_compareTerms_L28.eq_2 k _ _ _ _ _ _ n) (Evt.cfalse (decide_eq_false (by omega)) .pure)
    exact Evt.inr (Evt.diag h1) (Evt.bind q3 (Evt.inr (Evt.diag hend) .pure))

def mgR : Option Tm → List Tm → List Tm
  | none, [] => []
  | none, t :: r => mgR (some t) r
  | some q, [] => [q]
  | some q, t :: r => if lexI q t = 0 then mgR (some (q.1 + t.1, q.2)) r else q :: mgR (some t) r
theorem mgR_len : ∀ (r : List Tm) (o : Option Tm), (mgR o r).length ≤ r.length + 1
  | [], none => by simp [mgR]
  | [], some q => by simp [mgR]
  | t :: r, none => by have := mgR_len r (some t); simp [mgR]; omega
  | t :: r, some q => by
    unfold mgR
    split
    · have := mgR_len r (some (q.1 + t.1, q.2)); simp; omega
    · have := mgR_len r (some t); simp; omega

theorem merge_loop {xs : List Tm} (hb : xs.length ≤ 20) : ∀ (r dd d : List Tm) (q : Tm), dd ++ r = xs → d.length ≤ dd.length → (∀ t ∈ r, -4000 ≤ t.1 ∧ t.1 ≤ 4000) → -1000000 + 4000 * (r.length : Int) ≤ q.1 → q.1 ≤ 1000000 - 4000 * (r.length : Int) →
    Evt (fun k n => impl_collect_L250 k n (d ++ [q]) xs (xs.length : Int) dd.length) (.inr (d ++ mgR (some q) r, ())) := by
  intro r
  induction r with
  | nil =>
    intro dd d q h _ _ _ _
    refine Evt.step (fun k n => impl_collect_L250.eq_2 k _ _ _ _ n) ?_
    rw [List.append_nil] at h
    subst h
    exact Evt.cfalse (by simp) .pure
  | cons t r ih =>
    intro dd d q h hd ht h1 h2
    have hl := congrArg List.length h
    simp at hl
    have hq1 := ht t (by simp)
    simp only [List.length_cons] at h1 h2
    have hw : IntKind.wrap .i64 (((d ++ [q]).length : Int) - 1) = (d.length : Int) := by rw [w64 (by simp <;> omega) (by simp <;> omega)]; simp
    have g1 : (d ++ [q]).getD (Int.toNat (d.length : Int)) (0, 0, 0, 0) = q := mid_get
    have g2 : xs.getD (Int.toNat (dd.length : Int)) (0, 0, 0, 0) = t := by rw [← h]; exact mid_get
    have hstep := fun (k n : Nat) => impl_collect_L250.eq_2 k (d ++ [q]) xs (xs.length : Int) (dd.length : Int) n
    simp only [hw, g1, g2] at hstep
    refine Evt.step (fun k n => hstep k n) ?_
    have c0 : decide ((dd.length : Int) < (xs.length : Int)) = true := by rw [← h]; exact mid_lt
    have c1 : decide ((d.length : Int) < ((d ++ [q]).length : Int)) = true := mid_lt
    have hnx := len_next (d := dd) (r := r) (e := t) (by rw [h]; simp only [lenB]; omega)
    refine Evt.ctrue c0 (Evt.ctrue mid_ge (Evt.ctrue c0 (Evt.ctrue (decide_eq_true (by simp)) (Evt.ctrue mid_ge (Evt.ctrue c1 (Evt.bind (compareTerms_ev q t) ?_))))))
    rw [hnx]
    unfold mgR
    by_cases hz : lexI q t = 0
    · rw [if_pos hz]
      have ih := ih (dd ++ [t]) d (q.1 + t.1, q.2) (by simpa using h) (by simp; omega) (fun u hu => ht u (by simp [hu])) (by simp only; omega) (by simp only; omega)
      refine Evt.ctrue (by simp [hz]) (Evt.ctrue mid_ge (Evt.ctrue c1 (Evt.ctrue mid_ge (Evt.ctrue c1 ?_))))
      rw [mid_set, w64 (n := q.1 + t.1) (by omega) (by omega)]
      exact ih
    · rw [if_neg hz]
      have ih := ih (dd ++ [t]) (d ++ [q]) t (by simpa using h) (by simp; omega) (fun u hu => ht u (by simp [hu])) (by omega) (by omega)
      refine Evt.cfalse (by simpa using hz) (Evt.ctrue (decide_eq_true (by simp; omega)) ?_)
      rw [List.append_assoc d [q] (mgR _ _)] at ih
      exact ih
theorem merge_ev {xs : List Tm} (hb : xs.length ≤ 20) (ht : ∀ t ∈ xs, -4000 ≤ t.1 ∧ t.1 ≤ 4000) : Evt (fun k n => impl_collect_L250 k n [] xs (xs.length : Int) 0) (.inr (mgR none xs, ())) := by
  cases xs with
  | nil => exact Evt.step (fun k n => impl_collect_L250.eq_2 k _ _ _ _ n) (Evt.cfalse (by decide) .pure)
  | cons t r =>
    have ht1 := ht t (by simp)
    simp at hb
    have hm := merge_loop (xs := t :: r) (by simpa using hb) r [t] [] t rfl (by simp) (fun u hu => ht u (by simp [hu])) (by omega) (by omega)
    refine Evt.step (fun k n => impl_collect_L250.eq_2 k _ _ _ _ n) ?_
    refine Evt.ctrue (decide_eq_true (by simp <;> omega)) (Evt.ctrue (by decide) (Evt.ctrue (decide_eq_true (by simp <;> omega)) (Evt.cfalse (by decide) (Evt.ctrue (decide_eq_true (by simp)) ?_))))
    exact hm

def nzT (t : Tm) : Bool := !(t.1 == 0)
theorem index_ev {l : List Tm} (hb : l.length < lenB) : (l.all nzT = true → Evt (fun k _ => slices_IndexFunc_Term_Term_impl_collect_1 k l ()) (-1)) ∧ (l.all nzT = false → ∃ A b r, l = A ++ b :: r ∧ A.all nzT = true ∧ nzT b = false ∧ Evt (fun k _ => slices_IndexFunc_Term_Term_impl_collect_1 k l ()) (A.length : Int)) := by
  have key : ∀ (r d : List Tm), d ++ r = l → d.all nzT = true → (r.all nzT = true → Evt (fun k n => slices_IndexFunc_Term_Term_impl_collect_1_L26 k n l () (l.length : Int) d.length) (.inr ())) ∧
      (r.all nzT = false → ∃ A b r', l = A ++ b :: r' ∧ A.all nzT = true ∧ nzT b = false ∧ Evt (fun k n => slices_IndexFunc_Term_Term_impl_collect_1_L26 k n l () (l.length : Int) d.length) (.inl (A.length : Int))) := by
    intro r
    induction r with
    | nil =>
      intro d h hd
      refine ⟨fun _ => Evt.step (fun k n => slices_IndexFunc_Term_Term_impl_collect_1_L26.eq_2 k _ _ _ _ n) ?_, fun h => by simp at h⟩
      rw [List.append_nil] at h
      subst h
      exact Evt.cfalse (by simp) .pure
    | cons e r ih =>
      intro d h hd
      have hnx := len_next (d := d) (r := r) (e := e) (by rw [h]; exact hb)
      have g : l.getD (Int.toNat (d.length : Int)) (0, 0, 0, 0) = e := by rw [← h]; exact mid_get
      have c0 : decide ((d.length : Int) < (l.length : Int)) = true := by rw [← h]; exact mid_lt
      have hstep := fun (k n : Nat) => slices_IndexFunc_Term_Term_impl_collect_1_L26.eq_2 k l () (l.length : Int) (d.length : Int) n
      simp only [g, hnx] at hstep
      cases he : nzT e with
      | true =>
        obtain ⟨i1, i2⟩ := ih (d ++ [e]) (by simpa using h) (by simp only [List.all_append, hd, Bool.true_and, List.all_cons, he, List.all_nil])
        have hz : (e.1 == 0) = false := by unfold nzT at he; simpa using he
        have st : ∀ v, Evt (fun k n => slices_IndexFunc_Term_Term_impl_collect_1_L26 k n l () (l.length : Int) (d ++ [e]).length) v → Evt (fun k n => slices_IndexFunc_Term_Term_impl_collect_1_L26 k n l () (l.length : Int) d.length) v := fun v hv =>
          Evt.step (fun k n => hstep k n) (Evt.ctrue c0 (Evt.ctrue mid_ge (Evt.ctrue c0 (Evt.bind (.const (r := false) (by unfold impl_collect_1; rw [hz])) hv))))
        refine ⟨fun ha => st _ (i1 (by simpa [he] using ha)), fun ha => ?_⟩
        obtain ⟨A, b, r', e1, e2, e3, e4⟩ := i2 (by simpa [he] using ha)
        exact ⟨A, b, r', e1, e2, e3, st _ e4⟩
      | false =>
        have hz : (e.1 == 0) = true := by unfold nzT at he; simpa using he
        refine ⟨fun ha => by simp [he] at ha, fun _ => ⟨d, e, r, h.symm, hd, he, ?_⟩⟩
        exact Evt.step (fun k n => hstep k n) (Evt.ctrue c0 (Evt.ctrue mid_ge (Evt.ctrue c0 (Evt.bind (.const (r := true) (by unfold impl_collect_1; rw [hz])) .pure))))
  obtain ⟨k1, k2⟩ := key l [] rfl rfl
  refine ⟨fun h => Evt.eq (f := fun k q => _) ?_ (fun k q => by rw [slices_IndexFunc_Term_Term_impl_collect_1]), fun h => ?_⟩
  · exact Evt.inr (Evt.diag (k1 h)) .pure
  · obtain ⟨A, b, r', e1, e2, e3, e4⟩ := k2 h
    refine ⟨A, b, r', e1, e2, e3, Evt.eq (f := fun k q => _) ?_ (fun k q => by rw [slices_IndexFunc_Term_Term_impl_collect_1])⟩
    exact Evt.inl (Evt.diag e4) .pure

theorem delete_loop : ∀ (r A : List Tm) (b : Tm) (B : List Tm), (A ++ b :: B ++ r).length < lenB → ∃ X, X.length = (A ++ b :: B ++ r).length ∧ X.take (A ++ r.filter nzT).length = A ++ r.filter nzT ∧
    Evt (fun k n => slices_DeleteFunc_Term_Term_impl_collect_1_L122 k n (A ++ b :: (B ++ r)) () A.length ((A ++ b :: B).length : Int)) (.inr (X, ((A ++ r.filter nzT).length : Int), ())) := by
  intro r
  induction r with
  | nil =>
    intro A b B hb
    refine ⟨A ++ b :: B, by simp, by simp, Evt.step (fun k n => slices_DeleteFunc_Term_Term_impl_collect_1_L122.eq_2 k _ _ _ _ n) ?_⟩
    simp only [List.append_nil, List.filter_nil]
    exact Evt.cfalse (by simp) .pure
  | cons e r ih =>
    intro A b B hb
    have g : (A ++ b :: (B ++ e :: r)).getD (Int.toNat ((A ++ b :: B).length : Int)) (0, 0, 0, 0) = e := by
      have : A ++ b :: (B ++ e :: r) = (A ++ b :: B) ++ e :: r := by simp
      rw [this]
      exact mid_get
    have c0 : decide (((A ++ b :: B).length : Int) < ((A ++ b :: (B ++ e :: r)).length : Int)) = true := decide_eq_true (by simp; omega)
    have c1 : decide ((A.length : Int) < ((A ++ b :: (B ++ e :: r)).length : Int)) = true := mid_lt
    have hlt : (A ++ b :: B).length < lenB := by simp at hb ⊢; simp only [lenB] at hb ⊢; omega
    have hlA : A.length < lenB := by simp at hb ⊢; simp only [lenB] at hb ⊢; omega
    have hn1 := w64_next hlt
    have hn2 := w64_next hlA
    have hstep := fun (k n : Nat) => slices_DeleteFunc_Term_Term_impl_collect_1_L122.eq_2 k (A ++ b :: (B ++ e :: r)) () (A.length : Int) ((A ++ b :: B).length : Int) n
    simp only [g, hn1, hn2] at hstep
    cases he : nzT e with
    | true =>
      have hz : (e.1 == 0) = false := by unfold nzT at he; simpa using he
      cases B with
      | nil =>
        obtain ⟨X, x1, x2, x3⟩ := ih (A ++ [e]) e [] (by simpa using hb)
        refine ⟨X, by rw [x1]; simp, by simpa [he] using x2, Evt.step (fun k n => hstep k n) ?_⟩
        refine Evt.ctrue c0 (Evt.ctrue mid_ge (Evt.ctrue c0 (Evt.bind (.const (r := false) (by unfold impl_collect_1; rw [hz])) (Evt.ctrue rfl (Evt.ctrue mid_ge (Evt.ctrue c1 ?_))))))
        rw [mid_set]
        have e3 : A ++ [e] ++ e :: ([] ++ r) = A ++ e :: ([] ++ e :: r) := by simp
        rw [e3] at x3
        have e4 : A ++ [e] ++ r.filter nzT = A ++ (e :: r).filter nzT := by simp [he]
        have l1 : (A ++ [e]).length = A.length + 1 := by simp
        have l2 : (A ++ [e] ++ e :: []).length = (A ++ b :: []).length + 1 := by simp
        rw [e4, l1, l2] at x3
        exact x3
      | cons b' B =>
        obtain ⟨X, x1, x2, x3⟩ := ih (A ++ [e]) b' (B ++ [e]) (by simp at hb ⊢; simp only [lenB] at hb ⊢; omega)
        refine ⟨X, by rw [x1]; simp, by simpa [he] using x2, Evt.step (fun k n => hstep k n) ?_⟩
        refine Evt.ctrue c0 (Evt.ctrue mid_ge (Evt.ctrue c0 (Evt.bind (.const (r := false) (by unfold impl_collect_1; rw [hz])) (Evt.ctrue rfl (Evt.ctrue mid_ge (Evt.ctrue c1 ?_))))))
        rw [mid_set]
        have e4 : A ++ [e] ++ r.filter nzT = A ++ (e :: r).filter nzT := by simp [he]
        have l1 : (A ++ [e]).length = A.length + 1 := by simp
        have l2 : (A ++ [e] ++ b' :: (B ++ [e])).length = (A ++ b :: b' :: B).length + 1 := by simp; omega
        have e3 : A ++ [e] ++ b' :: (B ++ [e] ++ r) = A ++ e :: (b' :: B ++ e :: r) := by simp
        rw [e4, l1, l2, e3] at x3
        exact x3
    | false =>
      have hz : (e.1 == 0) = true := by unfold nzT at he; simpa using he
      obtain ⟨X, x1, x2, x3⟩ := ih A b (B ++ [e]) (by simpa using hb)
      refine ⟨X, by rw [x1]; simp, by simpa [he] using x2, Evt.step (fun k n => hstep k n) ?_⟩
      refine Evt.ctrue c0 (Evt.ctrue mid_ge (Evt.ctrue c0 (Evt.bind (.const (r := true) (by unfold impl_collect_1; rw [hz])) (Evt.cfalse rfl ?_))))
      have e4 : A ++ r.filter nzT = A ++ (e :: r).filter nzT := by simp [he]
      have l2 : (A ++ b :: (B ++ [e])).length = (A ++ b :: B).length + 1 := by simp; omega
      have e3 : A ++ b :: (B ++ [e] ++ r) = A ++ b :: (B ++ e :: r) := by simp
      rw [e4, l2, e3] at x3
      exact x3

theorem delete_ev {l : List Tm} (hb : l.length < lenB) : Evt (fun k _ => slices_DeleteFunc_Term_Term_impl_collect_1 k l ()) (l.filter nzT) := by
  refine Evt.eq (f := fun k q => _) ?_ (fun k q => by rw [slices_DeleteFunc_Term_Term_impl_collect_1])
  obtain ⟨i1, i2⟩ := index_ev hb
  cases ha : l.all nzT with
  | true =>
    have : l.filter nzT = l := List.filter_eq_self.2 (List.all_eq_true.1 ha)
    rw [this]
    exact Evt.bind (i1 ha) (Evt.ctrue rfl .pure)
  | false =>
    obtain ⟨A, b, r, rfl, hA, hbz, hev⟩ := i2 ha
    obtain ⟨X, x1, x2, x3⟩ := delete_loop r A b [] (by simpa using hb)
    have hlA : A.length < lenB := by simp at hb ⊢; simp only [lenB] at hb ⊢; omega
    have hn2 := w64_next hlA
    have e1 : (A ++ b :: r).filter nzT = A ++ r.filter nzT := by rw [List.filter_append, List.filter_eq_self.2 (List.all_eq_true.1 hA), List.filter_cons, hbz]; rfl
    rw [e1]
    have hle : (A ++ r.filter nzT).length < X.length := by
      rw [x1]
      have := List.length_filter_le nzT r
      simp
      omega
    refine Evt.bind hev (Evt.cfalse (by simp) ?_)
    have hx3 : Evt (fun k n => slices_DeleteFunc_Term_Term_impl_collect_1_L122 k n (A ++ b :: r) () (A.length : Int) (IntKind.wrap .i64 ((A.length : Int) + 1))) (.inr (X, ((A ++ r.filter nzT).length : Int), ())) := by
      rw [hn2]
      simpa using x3
    refine Evt.inr (Evt.diag hx3) ?_
    dsimp only
    generalize A ++ r.filter nzT = F at hle x2
    have hn : Int.toNat (F.length : Int) = F.length := Int.toNat_natCast _
    have e2 : (X.take F.length ++ List.replicate (X.length - F.length) ((0, 0, 0, 0) : Tm)).take F.length = F := by
      rw [List.take_append_of_le_length (by rw [List.length_take]; omega), List.take_take, Nat.min_self, x2]
    rw [hn]
    refine Evt.ctrue mid_ge (Evt.ctrue (decide_eq_true (by omega)) (Evt.ctrue mid_ge (Evt.ctrue (decide_eq_true (by rw [List.length_append, List.length_take, List.length_replicate, Nat.min_eq_left (Nat.le_of_lt hle)]; omega)) ?_)))
    rw [e2]
    exact .pure

theorem mgR_filter : ∀ (r : List Tm) (q : Tm), (∀ t ∈ q :: r, exOk t) → srt (q :: r) → ((q :: r).filter nzT).Pairwise (fun a b => keyT a < keyT b) → (mgR (some q) r).filter nzT = (q :: r).filter nzT
  | [], q, _, _, _ => rfl
  | t :: r, q, hx, hs, hp => by
    have hq := hx q (by simp)
    have ht := hx t (by simp)
    obtain ⟨s1, s2⟩ := List.pairwise_cons.1 hs
    obtain ⟨s3, s4⟩ := List.pairwise_cons.1 s2
    unfold mgR
    by_cases hz : lexI q t = 0
    · rw [if_pos hz]
      have h2 := lexI_zero.1 hz
      have hk : keyT q = keyT t := by unfold keyT; rw [h2]
      by_cases hq0 : q.1 = 0
      · have e1 : ((q.1 + t.1, q.2) : Tm) = t := by rw [hq0, h2, Int.zero_add]
        have nq : nzT q = false := by unfold nzT; simp [hq0]
        rw [e1, List.filter_cons (x := q), nq]
        rw [List.filter_cons (x := q), nq] at hp
        exact mgR_filter r t (fun u hu => hx u (by simp at hu ⊢; exact .inr hu)) s2 hp
      · by_cases ht0 : t.1 = 0
        · have e1 : ((q.1 + t.1, q.2) : Tm) = q := by rw [ht0, Int.add_zero]
          have nq : nzT q = true := by unfold nzT; simp [hq0]
          have nt : nzT t = false := by unfold nzT; simp [ht0]
          rw [e1, mgR_filter r q (fun u hu => hx u (by simp at hu ⊢; rcases hu with h | h <;> simp [h])) (List.pairwise_cons.2 ⟨fun u hu => s1 u (by simp [hu]), s4⟩) (by
            rw [List.filter_cons, if_pos nq, List.filter_cons, nt] at hp
            rw [List.filter_cons, if_pos nq]
            exact hp)]
          rw [List.filter_cons, List.filter_cons (x := q), List.filter_cons (x := t), nt, nq]
          rfl
        · exfalso
          have nq : nzT q = true := by unfold nzT; simp [hq0]
          have nt : nzT t = true := by unfold nzT; simp [ht0]
          rw [List.filter_cons, if_pos nq, List.filter_cons, if_pos nt] at hp
          have := (List.pairwise_cons.1 hp).1 t (by simp)
          omega
    · rw [if_neg hz]
      have h2 : ((t :: r).filter nzT).Pairwise (fun a b => keyT a < keyT b) := by
        rw [List.filter_cons] at hp
        split at hp
        · exact (List.pairwise_cons.1 hp).2
        · exact hp
      have ih := mgR_filter r t (fun u hu => hx u (by simp at hu ⊢; exact .inr hu)) s2 h2
      rw [List.filter_cons, List.filter_cons (x := q), ih]

theorem collect_ev {l : List Tm} (hb : l.length ≤ 20) (hx : ∀ t ∈ l, exOk t) (hc : ∀ t ∈ l, -4000 ≤ t.1 ∧ t.1 ≤ 4000) (hp : (l.filter nzT).Pairwise fun a b => keyT a < keyT b) : Evt (fun k _ => impl_collect k l) (l.filter nzT) := by
  obtain ⟨Y, q1, q2, q3⟩ := stable_ev hb hx
  refine Evt.eq (f := fun k q => _) ?_ (fun k q => by rw [impl_collect])
  have hcl : slices_Clone_Term_Term l = some l := by
    unfold slices_Clone_Term_Term
    rw [decide_eq_true (by simp; omega)]
    rfl
  have hl := q1.length_eq
  have hm := merge_ev (xs := Y) (by omega) (fun t ht => hc t (q1.mem_iff.1 ht))
  have hlen : (mgR none Y).length < lenB := by
    have := mgR_len Y none
    simp only [lenB]; omega
  refine Evt.bind (.const hcl) (Evt.bind q3 (Evt.inr (Evt.diag hm) (Evt.bind (delete_ev hlen) ?_)))
  have hf : Y.filter nzT = l.filter nzT := by
    refine List.Perm.eq_of_pairwise (le := fun a b => keyT a ≤ keyT b) ?_ (List.Pairwise.filter _ q2) (hp.imp (fun h => Int.le_of_lt h)) (q1.filter _)
    intro a b ha hb' h1 h2
    have hk : keyT a = keyT b := Int.le_antisymm h1 h2
    have ha' : a ∈ l.filter nzT := (q1.filter nzT).mem_iff.1 ha
    obtain ⟨i, hi, rfl⟩ := List.getElem_of_mem ha'
    obtain ⟨j, hj, rfl⟩ := List.getElem_of_mem hb'
    rcases Nat.lt_trichotomy i j with h | h | h
    · have := List.pairwise_iff_getElem.1 hp i j hi hj h; omega
    · subst h; rfl
    · have := List.pairwise_iff_getElem.1 hp j i hj hi h; omega
  have hg : (mgR none Y).filter nzT = l.filter nzT := by
    cases Y with
    | nil => rw [← hf]; rfl
    | cons t r =>
      rw [← hf]
      exact mgR_filter r t (fun u hu => hx u (q1.mem_iff.1 hu)) q2 (by rw [hf]; exact hp)
  rw [hg]
  exact .pure
end Go.Ev.G

namespace Go.Ev.G
open Go Go.Ev
set_option maxRecDepth 100000

def dn1 (e : Int) : Int := if e - 1 < 0 then 0 else e - 1
def exI (i : Nat) (t : Tm) : Int := match i with
  | 0 => t.2.1
  | 1 => t.2.2.1
  | _ => t.2.2.2
def lw (i : Nat) (t : Tm) : Tm := match i with
  | 0 => (t.1 * t.2.1, dn1 t.2.1, t.2.2)
  | 1 => (t.1 * t.2.2.1, t.2.1, dn1 t.2.2.1, t.2.2.2)
  | _ => (t.1 * t.2.2.2, t.2.1, t.2.2.1, dn1 t.2.2.2)
def dV (i : Nat) (p : List Tm) : List Tm := (p.filter fun t => decide (0 < exI i t)).map (lw i)

theorem mul_bd {c e : Int} (h1 : -1000 ≤ c ∧ c ≤ 1000) (h2 : 0 ≤ e ∧ e ≤ 4) : -4000 ≤ c * e ∧ c * e ≤ 4000 := by
  have : e = 0 ∨ e = 1 ∨ e = 2 ∨ e = 3 ∨ e = 4 := by omega
  rcases this with h | h | h | h | h <;> subst h <;> omega
theorem tmGd_ex {t : Tm} (h : tmGd t) : exOk t := ⟨h.2.1, h.2.2.1, h.2.2.2.1⟩
theorem exI_bd {i : Nat} {t : Tm} (h : tmGd t) : 0 ≤ exI i t ∧ exI i t ≤ 4 := by
  unfold exI
  split
  · exact h.2.1
  · exact h.2.2.1
  · exact h.2.2.2.1
theorem dn1_bd {e : Int} (h : 0 ≤ e ∧ e ≤ 4) : 0 ≤ dn1 e ∧ dn1 e ≤ 4 := by unfold dn1; split <;> omega
theorem lw_ex {i : Nat} {t : Tm} (h : tmGd t) : exOk (lw i t) := by
  unfold lw
  split
  · exact ⟨dn1_bd h.2.1, h.2.2.1, h.2.2.2.1⟩
  · exact ⟨h.2.1, dn1_bd h.2.2.1, h.2.2.2.1⟩
  · exact ⟨h.2.1, h.2.2.1, dn1_bd h.2.2.2.1⟩
theorem lw_c (i : Nat) (t : Tm) : (lw i t).1 = t.1 * exI i t := by
  unfold lw exI
  split <;> rfl
theorem lw_bd {i : Nat} {t : Tm} (h : tmGd t) : -4000 ≤ (lw i t).1 ∧ (lw i t).1 ≤ 4000 := by
  rw [lw_c]
  exact mul_bd h.1 (exI_bd h)
def wI (i : Nat) : Int := match i with
  | 0 => 25
  | 1 => 5
  | _ => 1
theorem lw_key {i : Nat} {t : Tm} (h : 0 < exI i t) : keyT (lw i t) = keyT t - wI i := by
  unfold exI at h
  unfold lw keyT wI dn1
  split
  · simp only at h ⊢; rw [if_neg (by omega)]; omega
  · simp only at h ⊢; rw [if_neg (by omega)]; omega
  · rename_i h0 h1
    split at h
    · exact absurd rfl h0
    · exact absurd rfl h1
    · simp only; rw [if_neg (by omega)]; omega

theorem okFrom_pw : ∀ (r : List Tm) (o : Option Tm), okFrom o r = true → (∀ q, o = some q → tmGd q) → r.Pairwise (fun a b => keyT a < keyT b) ∧ ∀ q, o = some q → ∀ t ∈ r, keyT q < keyT t
  | [], _, _, _ => ⟨.nil, fun _ _ t ht => by simp at ht⟩
  | e :: r, o, h, ho => by
    have hg := okFrom_gd (e :: r) o h
    unfold okFrom at h
    simp only [Bool.and_eq_true, decide_eq_true_eq] at h
    obtain ⟨i1, i2⟩ := okFrom_pw r (some e) h.2.2 (fun q hq => by cases hq; exact h.1.1)
    refine ⟨List.pairwise_cons.2 ⟨fun t ht => i2 e rfl t ht, i1⟩, fun q hq t ht => ?_⟩
    subst hq
    have hlt : keyT q < keyT e := (lexI_lt (tmGd_ex (ho q rfl)) (tmGd_ex h.1.1)).1 (by simpa using h.2.1)
    rcases List.mem_cons.1 ht with rfl | ht
    · exact hlt
    · have := i2 e rfl t ht
      omega
theorem okFrom_nz : ∀ (r : List Tm) (o : Option Tm), okFrom o r = true → ∀ t ∈ r, t.1 ≠ 0
  | [], _, _ => by simp
  | e :: r, o, h => by
    unfold okFrom at h
    simp only [Bool.and_eq_true, decide_eq_true_eq] at h
    intro t ht
    rcases List.mem_cons.1 ht with rfl | ht
    · have := h.1.2
      simpa using this
    · exact okFrom_nz r _ h.2.2 t ht
theorem polyV_len {p : List Tm} (h : polyV p = true) : p.length ≤ 20 := by
  unfold polyV at h
  rw [Bool.and_eq_true, decide_eq_true_eq] at h
  omega
theorem polyV_ok {p : List Tm} (h : polyV p = true) : okFrom none p = true := by
  unfold polyV at h
  rw [Bool.and_eq_true] at h
  exact h.1

theorem dV_filter {i : Nat} {p : List Tm} (h : polyV p = true) : (p.map (lw i)).filter nzT = dV i p := by
  rw [List.filter_map]
  unfold dV
  congr 1
  refine List.filter_congr fun t ht => ?_
  have hz := okFrom_nz p none (polyV_ok h) t ht
  have hb := exI_bd (i := i) (polyV_gd h t ht)
  show (!((lw i t).1 == 0)) = decide (0 < exI i t)
  rw [lw_c]
  by_cases h0 : exI i t = 0
  · simp [h0]
  · have hm : t.1 * exI i t ≠ 0 := Int.mul_ne_zero hz h0
    rw [decide_eq_true (by omega)]
    simp [hm]
theorem dV_pw {i : Nat} {p : List Tm} (h : polyV p = true) : (dV i p).Pairwise fun a b => keyT a < keyT b := by
  unfold dV
  rw [List.pairwise_map]
  have h1 := (okFrom_pw p none (polyV_ok h) (fun q hq => by cases hq)).1
  rw [List.pairwise_filter]
  refine h1.imp fun {a b} hab ha hb => ?_
  rw [lw_key (of_decide_eq_true ha), lw_key (of_decide_eq_true hb)]
  omega

theorem derive_step {i : Nat} (hi : i < 3) (k n : Nat) (x5 x10 : List Tm) (x11 x12 : Int) {t : Tm} (hx : x10.getD (Int.toNat x12) (0, 0, 0, 0) = t) (ht : tmGd t) :
    impl_derive_L58 k (n + 1) (i : Int) x5 x10 x11 x12 = (bif (decide (x12 < x11)) then (bif (decide (0 ≤ x12)) then (bif (decide (x12 < (x10.length : Int))) then (bif (decide (x5.length + ([lw i t] : List Tm).length < 274877906944)) then (impl_derive_L58 k n (i : Int) (x5 ++ [lw i t]) x10 x11 (IntKind.wrap .i64 (x12 + 1))) else none) else none) else none) else some (Sum.inr (x5, ()))) := by
  have w1 : ∀ e : Int, 0 ≤ e ∧ e ≤ 4 → IntKind.wrap .i64 (e - 1) = e - 1 := fun e he => w64 (by omega) (by omega)
  have w2 : ∀ e : Int, 0 ≤ e ∧ e ≤ 4 → IntKind.wrap .i64 (t.1 * e) = t.1 * e := fun e he => by have := mul_bd ht.1 he; exact w64 (by omega) (by omega)
  rw [impl_derive_L58.eq_2, hx]
  have : i = 0 ∨ i = 1 ∨ i = 2 := by omega
  rcases this with rfl | rfl | rfl
  · simp only [impl_Term_exponents, impl_termOf, Option.bind_some, show ((((0 : Nat) : Int)) == 0) = true from rfl, cond_true, w1 _ ht.2.1, w2 _ ht.2.1]
    rfl
  · simp only [impl_Term_exponents, impl_termOf, Option.bind_some, show ((((1 : Nat) : Int)) == 0) = false from rfl, show ((((1 : Nat) : Int)) == 1) = true from rfl, cond_true, cond_false, w1 _ ht.2.2.1, w2 _ ht.2.2.1]
    rfl
  · simp only [impl_Term_exponents, impl_termOf, Option.bind_some, show ((((2 : Nat) : Int)) == 0) = false from rfl, show ((((2 : Nat) : Int)) == 1) = false from rfl, show ((((2 : Nat) : Int)) == 2) = true from rfl, cond_true, cond_false, w1 _ ht.2.2.2.1, w2 _ ht.2.2.2.1]
    rfl

theorem derive_ev {i : Nat} {p : List Tm} (hi : i < 3) (h : polyV p = true) : Evt (fun k _ => impl_derive k p (i : Int)) (dV i p) := by
  refine Evt.eq (f := fun k q => _) ?_ (fun k q => by rw [impl_derive])
  have hl := polyV_len h
  have hg := polyV_gd h
  have key : ∀ (r d : List Tm), d ++ r = p → Evt (fun k n => impl_derive_L58 k n (i : Int) (d.map (lw i)) p (p.length : Int) d.length) (.inr (p.map (lw i), ())) := by
    intro r
    induction r with
    | nil =>
      intro d hd
      refine Evt.step (fun k n => impl_derive_L58.eq_2 k _ _ _ _ _ n) ?_
      rw [List.append_nil] at hd
      subst hd
      exact Evt.cfalse (by simp) .pure
    | cons e r ih =>
      intro d hd
      have ih := ih (d ++ [e]) (by simpa using hd)
      rw [← len_next (r := r) (by rw [hd]; simp only [lenB]; omega), List.map_append] at ih
      refine Evt.step (fun k n => derive_step hi k n _ _ _ _ (by rw [← hd]; exact mid_get) (hg e (by rw [← hd]; simp))) ?_
      have hll := congrArg List.length hd
      simp at hll
      exact Evt.ctrue (by rw [← hd]; exact mid_lt) (Evt.ctrue mid_ge (Evt.ctrue (by rw [← hd]; exact mid_lt) (Evt.ctrue (decide_eq_true (by simp; omega)) ih)))
  have hc := collect_ev (l := p.map (lw i)) (by simpa using hl) (fun t ht => by
      obtain ⟨u, hu, rfl⟩ := List.mem_map.1 ht
      exact lw_ex (hg u hu)) (fun t ht => by
      obtain ⟨u, hu, rfl⟩ := List.mem_map.1 ht
      exact lw_bd (hg u hu)) (by rw [dV_filter h]; exact dV_pw h)
  rw [dV_filter h] at hc
  exact Evt.inr (Evt.diag (key p [] rfl)) (Evt.bind hc .pure)

theorem poWith_eq {i : Nat} (hi : i < 3) {t : Tm} (h : 0 < exI i t) : spec_poPower t (i : Int) = some (exI i t) ∧ spec_poWith t (i : Int) (exI i t - 1) = some (t.1, (lw i t).2) := by
  have : i = 0 ∨ i = 1 ∨ i = 2 := by omega
  unfold lw dn1
  rcases this with rfl | rfl | rfl
  · simp only [exI] at h ⊢
    rw [if_neg (by omega)]
    exact ⟨rfl, rfl⟩
  · simp only [exI] at h ⊢
    rw [if_neg (by omega)]
    exact ⟨rfl, rfl⟩
  · simp only [exI] at h ⊢
    rw [if_neg (by omega)]
    exact ⟨rfl, rfl⟩
theorem poPower_eq3 {i : Nat} (hi : i < 3) (t : Tm) : spec_poPower t (i : Int) = some (exI i t) := by
  have : i = 0 ∨ i = 1 ∨ i = 2 := by omega
  rcases this with rfl | rfl | rfl <;> rfl

theorem poDerive_ev {i : Nat} {p : List Tm} (hi : i < 3) (h : polyV p = true) : Evt (fun k _ => spec_poDerive k p (i : Int)) (dV i p) := by
  refine Evt.eq (f := fun k q => _) ?_ (fun k q => by rw [spec_poDerive])
  have hl := polyV_len h
  have hg := polyV_gd h
  have key : ∀ (r d : List Tm), d ++ r = p → Evt (fun k n => spec_poDerive_L58 k n (i : Int) (dV i d) p (p.length : Int) d.length) (.inr (dV i p, ())) := by
    intro r
    induction r with
    | nil =>
      intro d hd
      refine Evt.step (fun k n => spec_poDerive_L58.eq_2 k _ _ _ _ _ n) ?_
      rw [List.append_nil] at hd
      subst hd
      exact Evt.cfalse (by simp) .pure
    | cons e r ih =>
      intro d hd
      have ih := ih (d ++ [e]) (by simpa using hd)
      rw [← len_next (r := r) (by rw [hd]; simp only [lenB]; omega)] at ih
      have he := hg e (by rw [← hd]; simp)
      have hb := exI_bd (i := i) he
      refine Evt.step (fun k n => spec_poDerive_L58.eq_2 k _ _ _ _ _ n) ?_
      have hll := congrArg List.length hd
      simp at hll
      have e1 : p.getD (Int.toNat (d.length : Int)) (0, 0, 0, 0) = e := by rw [← hd]; exact mid_get
      rw [e1]
      refine Evt.ctrue (by rw [← hd]; exact mid_lt) (Evt.ctrue mid_ge (Evt.ctrue (by rw [← hd]; exact mid_lt) (Evt.bind (.const (poPower_eq3 hi e)) ?_)))
      by_cases hz : 0 < exI i e
      · have hm := mul_bd he.1 hb
        refine Evt.ctrue (decide_eq_true hz) (Evt.bind (.const (r := (e.1, (lw i e).2)) (by rw [w64 (by omega) (by omega)]; exact (poWith_eq hi hz).2)) ?_)
        have hl2 : (dV i d).length ≤ d.length := by unfold dV; rw [List.length_map]; exact List.length_filter_le _ _
        have e2 : dV i (d ++ [e]) = dV i d ++ [(e.1 * exI i e, (lw i e).2)] := by
          unfold dV
          rw [List.filter_append, List.map_append, List.filter_cons, if_pos (decide_eq_true hz), List.filter_nil, List.map_cons, List.map_nil]
          congr 2
          rw [← lw_c]
        rw [e2] at ih
        simp only
        rw [w64 (n := e.1 * exI i e) (by omega) (by omega)]
        exact Evt.ctrue (decide_eq_true (by simp; omega)) ih
      · have e2 : dV i (d ++ [e]) = dV i d := by
          unfold dV
          rw [List.filter_append, List.filter_cons, if_neg (by simpa using hz), List.filter_nil, List.append_nil]
        rw [e2] at ih
        exact Evt.cfalse (decide_eq_false hz) ih
  exact Evt.inr (Evt.diag (key p [] rfl)) .pure
end Go.Ev.G

namespace Go.Ev.G
open Go Go.Ev
set_option maxRecDepth 100000

def ptV (M : Nat) (pt : List (Int × Int)) : Prop := ∀ x ∈ pt, 0 ≤ x.2 ∧ x.2 ≤ M ∧ x.1.natAbs ≤ 8 * 2 ^ x.2.toNat
def upX (M : Nat) (x : Int × Int) : Int := x.1 * 2 ^ (M - x.2.toNat)
def vaF (M : Nat) (t : Tm) : Nat → Int → List (Int × Int) → Int
  | _, c, [] => c
  | i, c, x :: r => vaF M t (i + 1) (c * upX M x ^ (exI i t).toNat) r
def vaT (M : Nat) (pt : List (Int × Int)) (t : Tm) : Int := vaF M t 0 t.1 pt * ((2 ^ M : Nat) : Int) ^ (4 - degT t)
theorem upX_bd {M : Nat} {x : Int × Int} (hM : M ≤ 9) (h0 : 0 ≤ x.2) (hk : x.2 ≤ M) (hb : x.1.natAbs ≤ 8 * 2 ^ x.2.toNat) : (upX M x).natAbs ≤ 4096 := by
  unfold upX
  rw [Int.natAbs_mul, Int.natAbs_pow]
  have e1 : (2 : Int).natAbs = 2 := rfl
  rw [e1]
  refine Nat.le_trans (Nat.mul_le_mul_right _ hb) ?_
  rw [Nat.mul_assoc, ← Nat.pow_add]
  have : x.2.toNat + (M - x.2.toNat) ≤ 9 := by omega
  have h2 := Nat.pow_le_pow_right (n := 2) (by decide) this
  have : (2 : Nat) ^ 9 = 512 := by decide
  omega

theorem va_up {M : Nat} {x : Int × Int} (hM : M ≤ 9) (h0 : 0 ≤ x.2) (hk : x.2 ≤ M) (hb : x.1.natAbs ≤ 8 * 2 ^ x.2.toNat) : ∃ f, Evt (fun k _ => spec_dyAt k x (M : Int)) (upX M x, f) := by
  obtain ⟨n, j⟩ := x
  obtain ⟨j, rfl⟩ := Int.eq_ofNat_of_zero_le h0
  simp only at hk hb
  have hp := Nat.pow_le_pow_right (n := 2) (by decide) (show j ≤ 9 by omega)
  have h9 : (2 : Nat) ^ 9 = 512 := by decide
  have hj : ((j : Nat) : Int).toNat = j := by omega
  rw [hj] at hb
  have hub := upX_bd (x := (n, (j : Int))) hM h0 hk (by simpa using hb)
  have e : upX M (n, (j : Int)) = n * 2 ^ (M - j) := by unfold upX; simp
  rw [e] at hub ⊢
  have hd := dyAt_ev (n := n) (j := j) (K := M) (by omega) (by omega) (by omega) (by omega)
  cases h : (atV (M - j) n).2 with
  | false =>
    obtain ⟨_, hl⟩ := atV_large _ _ h
    omega
  | true =>
    have := atV_true _ _ h
    refine ⟨true, ?_⟩
    have e2 : atV (M - j) n = (n * 2 ^ (M - j), true) := Prod.ext this h
    rw [e2] at hd
    exact hd

theorem sc_va {M : Nat} {pt : List (Int × Int)} {t : Tm} (hM : M ≤ 9) (hn : 1 ≤ pt.length ∧ pt.length ≤ 3) (ht : tmS pt.length t) (hp : ptV M pt) : scT pt t = vaT M pt t * (2 ^ (9 - M)) ^ 4 := by
  obtain ⟨t0, t1, t2, hd, _, i0, i1, i2⟩ := ht
  have hX : ∀ x ∈ pt, x.1 * 2 ^ (9 - x.2).toNat = upX M x * 2 ^ (9 - M) := by
    intro x hx
    obtain ⟨h0, hk, _⟩ := hp x hx
    unfold upX
    rw [Int.mul_assoc, ← Int.pow_add]
    congr 2
    omega
  have hP : (2 : Int) ^ (9 * (4 - degT t)) = ((2 ^ M : Nat) : Int) ^ (4 - degT t) * (2 ^ (9 - M)) ^ (4 - degT t) := by
    have e : ((2 ^ M : Nat) : Int) = (2 : Int) ^ M := by simp
    rw [e, ← Int.mul_pow, ← Int.pow_add, ← Int.pow_mul]
    congr 1
    have : M + (9 - M) = 9 := by omega
    rw [this]
  have hW : ∀ (a b c : Nat), a + b + c = degT t → ((2 : Int) ^ (9 - M)) ^ 4 = (2 ^ (9 - M)) ^ (4 - degT t) * (2 ^ (9 - M)) ^ a * (2 ^ (9 - M)) ^ b * (2 ^ (9 - M)) ^ c := by
    intro a b c h
    rw [← Int.pow_add, ← Int.pow_add, ← Int.pow_add]
    congr 1
    omega
  have hdg : t.2.1.toNat + t.2.2.1.toNat + t.2.2.2.toNat = degT t := rfl
  unfold scT vaT
  rw [hP, hW _ _ _ hdg]
  match pt, hn, hX, i0, i1, i2 with
  | [x], _, hX, _, i1, i2 =>
    have e1 : t.2.2.1.toNat = 0 := by simp at i1; omega
    have e2 : t.2.2.2.toNat = 0 := by simp at i2; omega
    have x0 : scX [x] 0 = upX M x * 2 ^ (9 - M) := hX x (by simp)
    rw [e1, e2, x0]
    simp only [vaF, exI, Int.pow_zero, Int.mul_one, Int.mul_pow]
    ac_rfl
  | [x, y], _, hX, _, _, i2 =>
    have e2 : t.2.2.2.toNat = 0 := by simp at i2; omega
    have x0 : scX [x, y] 0 = upX M x * 2 ^ (9 - M) := hX x (by simp)
    have x1 : scX [x, y] 1 = upX M y * 2 ^ (9 - M) := hX y (by simp)
    rw [e2, x0, x1]
    simp only [vaF, exI, Int.pow_zero, Int.mul_one, Int.mul_pow]
    ac_rfl
  | [x, y, z], _, hX, _, _, _ =>
    have x0 : scX [x, y, z] 0 = upX M x * 2 ^ (9 - M) := hX x (by simp)
    have x1 : scX [x, y, z] 1 = upX M y * 2 ^ (9 - M) := hX y (by simp)
    have x2 : scX [x, y, z] 2 = upX M z * 2 ^ (9 - M) := hX z (by simp)
    rw [x0, x1, x2]
    simp only [vaF, exI, Int.mul_pow]
    ac_rfl
theorem scV_va {M : Nat} {p : List Tm} {pt : List (Int × Int)} (hM : M ≤ 9) (hn : 1 ≤ pt.length ∧ pt.length ≤ 3) (ht : ∀ t ∈ p, tmS pt.length t) (hp : ptV M pt) : scV p pt = (p.map (vaT M pt)).sum * (2 ^ (9 - M)) ^ 4 := by
  unfold scV
  induction p with
  | nil => simp
  | cons t p ih =>
    rw [List.map_cons, List.sum_cons, List.map_cons, List.sum_cons, Int.add_mul, ih (fun u hu => ht u (by simp [hu])), sc_va hM hn (ht t (by simp)) hp]
theorem ptV_S {M : Nat} {pt : List (Int × Int)} (hM : M ≤ 9) (hp : ptV M pt) : ptS pt := by
  intro x hx
  obtain ⟨h0, hk, hb⟩ := hp x hx
  refine ⟨h0, by omega, ?_⟩
  have := upX_bd (M := 9) (Nat.le_refl _) h0 (by omega) hb
  unfold upX at this
  have e : (9 - x.2).toNat = 9 - x.2.toNat := by omega
  rw [e]
  exact this
end Go.Ev.G

namespace Go.Ev.G
open Go Go.Ev
set_option maxRecDepth 100000

def B32 : Nat := 4294967296
theorem andw32 {a : Nat} (ha : a < B64) : (BitVec.toNat (BitVec.ofInt (IntKind.bits .u64) (a : Int) &&& BitVec.ofInt (IntKind.bits .u64) 4294967295) : Int) = ((a % B32 : Nat) : Int) := by
  have h1 : BitVec.ofInt (IntKind.bits .u64) (a : Int) = BitVec.ofNat 64 a := by rfl
  have h2 : BitVec.ofInt (IntKind.bits .u64) 4294967295 = BitVec.ofNat 64 4294967295 := by rfl
  rw [h1, h2]
  have : (BitVec.toNat (BitVec.ofNat 64 a &&& BitVec.ofNat 64 4294967295)) = a % B32 := by
    rw [BitVec.toNat_and, BitVec.toNat_ofNat, BitVec.toNat_ofNat]
    have e1 : a % 2 ^ 64 = a := Nat.mod_eq_of_lt (by simpa [B64] using ha)
    rw [e1]
    have e2 : 4294967295 % 2 ^ 64 = 2 ^ 32 - 1 := by decide
    rw [e2, Nat.and_two_pow_sub_one_eq_mod]
    rfl
  exact congrArg _ this
theorem fdiv32 (a : Nat) : Int.fdiv (a : Int) (2 ^ min (Int.toNat 32) (IntKind.bits .u64)) = ((a / B32 : Nat) : Int) := by
  have : min (Int.toNat 32) (IntKind.bits .u64) = 32 := by decide
  rw [this, fdiv_pow]
  rfl

theorem mul64_eq {a b : Nat} (ha : a ≤ 1099511627776) (hb : b ≤ 1099511627776) : math_bits_Mul64 a b = some (((a * b / B64 : Nat) : Int), ((a * b % B64 : Nat) : Int)) := by
  have la : a < B64 := by simp only [B64]; omega
  have lb : b < B64 := by simp only [B64]; omega
  unfold math_bits_Mul64
  rw [andw32 la, andw32 lb, fdiv32, fdiv32]
  obtain ⟨x1, x0, ea, hx0⟩ : ∃ x1 x0, a = B32 * x1 + x0 ∧ x0 < B32 := ⟨a / B32, a % B32, (Nat.div_add_mod a B32).symm, Nat.mod_lt _ (by decide)⟩
  obtain ⟨y1, y0, eb, hy0⟩ : ∃ y1 y0, b = B32 * y1 + y0 ∧ y0 < B32 := ⟨b / B32, b % B32, (Nat.div_add_mod b B32).symm, Nat.mod_lt _ (by decide)⟩
  have da : a / B32 = x1 := by rw [ea, Nat.mul_add_div (by decide), Nat.div_eq_of_lt hx0]; rfl
  have ma : a % B32 = x0 := by rw [ea, Nat.mul_add_mod, Nat.mod_eq_of_lt hx0]
  have db : b / B32 = y1 := by rw [eb, Nat.mul_add_div (by decide), Nat.div_eq_of_lt hy0]; rfl
  have mb : b % B32 = y0 := by rw [eb, Nat.mul_add_mod, Nat.mod_eq_of_lt hy0]
  rw [da, ma, db, mb]
  have lx1 : x1 ≤ 256 := by simp only [B32] at ea hx0; omega
  have ly1 : y1 ≤ 256 := by simp only [B32] at eb hy0; omega
  have p00 : x0 * y0 ≤ 4294967295 * 4294967295 := Nat.mul_le_mul (by simp only [B32] at hx0; omega) (by simp only [B32] at hy0; omega)
  have p01 : x0 * y1 ≤ 4294967295 * 256 := Nat.mul_le_mul (by simp only [B32] at hx0; omega) ly1
  have p10 : x1 * y0 ≤ 256 * 4294967295 := Nat.mul_le_mul lx1 (by simp only [B32] at hy0; omega)
  have p11 : x1 * y1 ≤ 256 * 256 := Nat.mul_le_mul lx1 ly1
  have full : a * b = B64 * (x1 * y1) + B32 * (x0 * y1 + x1 * y0) + x0 * y0 := by
    rw [ea, eb, show B64 = B32 * B32 from rfl]
    simp only [Nat.mul_add, Nat.add_mul]
    have e1 : B32 * x1 * (B32 * y1) = B32 * B32 * (x1 * y1) := by ac_rfl
    have e2 : x0 * (B32 * y1) = B32 * (x0 * y1) := by ac_rfl
    have e3 : B32 * x1 * y0 = B32 * (x1 * y0) := by ac_rfl
    rw [e1, e2, e3]; omega
  have w : ∀ n : Nat, n < B64 → IntKind.wrap .u64 (n : Int) = (n : Int) := fun n h => wu64 (by omega) (by simp only [B64] at h; omega)
  have m1 : ∀ x y : Nat, ((x : Int) * (y : Int)) = ((x * y : Nat) : Int) := fun x y => (Int.natCast_mul x y).symm
  have m2 : ∀ x y : Nat, ((x : Int) + (y : Int)) = ((x + y : Nat) : Int) := fun x y => (Int.natCast_add x y).symm
  rw [w x0 (by simp only [B64, B32] at hx0 ⊢; omega), w y0 (by simp only [B64, B32] at hy0 ⊢; omega)]
  simp only [m1]
  rw [w (x0 * y0) (by simp only [B64]; omega), w (x1 * y0) (by simp only [B64]; omega), w (x1 * y1) (by simp only [B64]; omega), w (x0 * y1) (by simp only [B64]; omega)]
  rw [fdiv32]
  simp only [m2]
  have c0 : x0 * y0 / B32 ≤ 4294967295 := by simp only [B32]; omega
  rw [w (x1 * y0 + x0 * y0 / B32) (by simp only [B64]; omega)]
  rw [andw32 (by simp only [B64]; omega), fdiv32]
  rw [w ((x1 * y0 + x0 * y0 / B32) % B32) (by simp only [B64, B32]; omega)]
  simp only [m2]
  rw [w ((x1 * y0 + x0 * y0 / B32) % B32 + x0 * y1) (by simp only [B64, B32]; omega), fdiv32]
  rw [w (x1 * y1 + (x1 * y0 + x0 * y0 / B32) / B32) (by simp only [B64, B32]; omega)]
  simp only [m2]
  rw [w _ (by simp only [B64, B32]; omega), wu64_mod]
  congr 2
  · congr 1
    rw [full]
    simp only [B64, B32]
    omega
end Go.Ev.G

namespace Go.Ev.G
open Go Go.Ev
set_option maxRecDepth 100000

def prodD (a b : Int × Int) : (Int × Int) × Bool := mkD (a.1 * b.1) (a.2.toNat + b.2.toNat)
theorem wV_mul (a b : Int) : wV (!(decide (a < 0) == decide (b < 0))) (a.natAbs * b.natAbs) = a * b := by
  unfold wV
  by_cases ha : a < 0 <;> by_cases hb : b < 0
  · simp only [decide_eq_true ha, decide_eq_true hb]
    rw [if_neg (by simp), Int.natCast_mul, show (a.natAbs : Int) = -a by omega, show (b.natAbs : Int) = -b by omega, Int.neg_mul_neg]
  · simp only [decide_eq_true ha, decide_eq_false hb]
    rw [if_pos (by simp), Int.natCast_mul, show (a.natAbs : Int) = -a by omega, show (b.natAbs : Int) = b by omega, Int.neg_mul, Int.neg_neg]
  · simp only [decide_eq_false ha, decide_eq_true hb]
    rw [if_pos (by simp), Int.natCast_mul, show (a.natAbs : Int) = a by omega, show (b.natAbs : Int) = -b by omega, Int.mul_neg, Int.neg_neg]
  · simp only [decide_eq_false ha, decide_eq_false hb]
    rw [if_neg (by simp), Int.natCast_mul, show (a.natAbs : Int) = a by omega, show (b.natAbs : Int) = b by omega]

end Go.Ev.G

namespace Go.Ev.G
open Go Go.Ev
set_option maxRecDepth 100000

section
variable {α β : Type}
def Flag (g : α → Option β) (z : β) (b0 : Bool) (d : List α) (b : Bool) (o : List β) : Prop :=
  o.length = d.length ∧ b = (b0 && d.all fun x => (g x).isSome) ∧ (b = true → o = d.map fun x => (g x).getD z)
theorem Flag.nil {g : α → Option β} {z : β} {b0 : Bool} : Flag g z b0 [] b0 [] := ⟨rfl, by simp, fun _ => rfl⟩
theorem Flag.step {g : α → Option β} {z : β} {b0 b : Bool} {d : List α} {o : List β} {e : α} {v : β} (h : Flag g z b0 d b o) (hv : b = true → (g e).isSome = true → g e = some v) : Flag g z b0 (d ++ [e]) (b && (g e).isSome) (o ++ [v]) := by
  obtain ⟨h1, h2, h3⟩ := h
  refine ⟨by simp [h1], ?_, ?_⟩
  · rw [h2, List.all_append]
    simp only [List.all_cons, List.all_nil, Bool.and_true, Bool.and_assoc]
  · intro hh
    rw [Bool.and_eq_true] at hh
    rw [List.map_append, h3 hh.1]
    simp only [List.map_cons, List.map_nil, hv hh.1 hh.2, Option.getD_some]
end

abbrev Pt := List (Int × Int)
end Go.Ev.G

namespace Go.Ev.G
open Go Go.Ev
set_option maxRecDepth 100000

theorem szDyadicS_ev {x : Pt} (hx : x.length ≤ maxLen) {a : Nat} (ha : a ≤ 1000000) : laws_szDyadicS x a = some (if x.length ≤ a then ((a - x.length : Nat) : Int) else -1) := sz_one (fun _ _ => rfl) hx ha
end Go.Ev.G

namespace Go.Ev
open Go

section
variable {α β : Type}
def Ev3 {α : Type} (f : Nat → Nat → Nat → Option α) (r : α) : Prop := ∃ k0, ∀ k m n, k0 ≤ k → k0 ≤ m → k0 ≤ n → f k m n = some r

theorem Ev3.of {f : Nat → Option α} {r : α} (h : Evt (fun k _ => f k) r) : Ev3 (fun k _ _ => f k) r := by
  obtain ⟨k0, h⟩ := h
  exact ⟨k0, fun k m n hk _ _ => h k k hk hk⟩
theorem Ev3.diag {f : Nat → Nat → Nat → Option α} {r : α} (h : Ev3 f r) : Evt (fun k m => f k m k) r := by
  obtain ⟨k0, h⟩ := h
  exact ⟨k0, fun k m hk hm => h k m k hk hm hk⟩
theorem Ev3.const {o : Option α} {r : α} (h : o = some r) : Ev3 (fun _ _ _ => o) r := ⟨0, fun _ _ _ _ _ _ => h⟩
theorem Ev3.pure {r : α} : Ev3 (fun _ _ _ => some r) r := ⟨0, fun _ _ _ _ _ _ => rfl⟩
theorem Ev3.bind {f : Nat → Nat → Nat → Option α} {g : Nat → Nat → Nat → α → Option β} {a : α} {r : β} (h : Ev3 f a) (h' : Ev3 (fun k m n => g k m n a) r) : Ev3 (fun k m n => Option.bind (f k m n) fun x => g k m n x) r := by
  obtain ⟨k0, h⟩ := h
  obtain ⟨k1, h'⟩ := h'
  refine ⟨max k0 k1, fun k m n hk hm hn => ?_⟩
  exact (congrArg (fun o => Option.bind o fun x => g k m n x) (h k m n (by omega) (by omega) (by omega))).trans (h' k m n (by omega) (by omega) (by omega))
theorem Ev3.inr {R P A : Type} {f : Nat → Nat → Nat → Option (R ⊕ P)} {G : Nat → Nat → Nat → R → Option A} {K : Nat → Nat → Nat → P → Option A} {y : P} {r : A} (h : Ev3 f (.inr y)) (h' : Ev3 (fun k m n => K k m n y) r) : Ev3 (fun k m n => both (f k m n) (G k m n) (K k m n)) r := by
  obtain ⟨k0, h⟩ := h
  obtain ⟨k1, h'⟩ := h'
  refine ⟨max k0 k1, fun k m n hk hm hn => ?_⟩
  exact (congrArg (fun o => both o (G k m n) (K k m n)) (h k m n (by omega) (by omega) (by omega))).trans (h' k m n (by omega) (by omega) (by omega))
theorem Ev3.inl {R P A : Type} {f : Nat → Nat → Nat → Option (R ⊕ P)} {G : Nat → Nat → Nat → R → Option A} {K : Nat → Nat → Nat → P → Option A} {q : R} {r : A} (h : Ev3 f (.inl q)) (h' : Ev3 (fun k m n => G k m n q) r) : Ev3 (fun k m n => both (f k m n) (G k m n) (K k m n)) r := by
  obtain ⟨k0, h⟩ := h
  obtain ⟨k1, h'⟩ := h'
  refine ⟨max k0 k1, fun k m n hk hm hn => ?_⟩
  exact (congrArg (fun o => both o (G k m n) (K k m n)) (h k m n (by omega) (by omega) (by omega))).trans (h' k m n (by omega) (by omega) (by omega))
theorem Ev3.ctrue {c : Bool} {f g : Nat → Nat → Nat → Option α} {r : α} (hc : c = true) (h : Ev3 f r) : Ev3 (fun k m n => bif c then f k m n else g k m n) r := by subst hc; exact h
theorem Ev3.cfalse {c : Bool} {f g : Nat → Nat → Nat → Option α} {r : α} (hc : c = false) (h : Ev3 g r) : Ev3 (fun k m n => bif c then f k m n else g k m n) r := by subst hc; exact h
theorem Ev3.step {L F : Nat → Nat → Nat → Option α} {r : α} (hL : ∀ k m n, L k m (n + 1) = F k m n) (h : Ev3 F r) : Ev3 L r := by
  obtain ⟨k0, h⟩ := h
  refine ⟨k0 + 1, fun k m n hk hm hn => ?_⟩
  obtain ⟨n, rfl⟩ : ∃ n', n = n' + 1 := ⟨n - 1, by omega⟩
  rw [hL]
  exact h k m n (by omega) (by omega) (by omega)
end
end Go.Ev

namespace Go.Ev.G
open Go Go.Ev
set_option maxRecDepth 100000

def partV {α : Type} (m : List (List α)) (i j : Nat) : List (List α) := (m.eraseIdx i).map (·.eraseIdx j)
end Go.Ev.G

namespace Go.Ev.G
open Go Go.Ev
set_option maxRecDepth 100000

def ngD (c : Nat) (x : Int × Int) : Int × Int := if c % 2 = 1 then (-x.1, x.2) else x
def tmO (c : Nat) (a : Int × Int) (d : Option (Int × Int)) : Option (Int × Int) := match d with
  | none => none
  | some d => if (prodD a d).2 then some (ngD c (prodD a d).1) else none
def detO : Nat → List Pt → Option (Int × Int)
  | 0, m => some ((m.getD 0 []).getD 0 (0, 0))
  | n + 1, m =>
    let ts := (List.range (n + 2)).map fun c => tmO c ((m.getD 0 []).getD c (0, 0)) (detO n (partV m 0 c))
    if ts.all (·.isSome) then osum (0, 0) (ts.map fun o => o.getD (0, 0)) else none
def terms (n : Nat) (m : List Pt) : List (Option (Int × Int)) := (List.range (n + 2)).map fun c => tmO c ((m.getD 0 []).getD c (0, 0)) (detO n (partV m 0 c))
end Go.Ev.G

namespace Go.Ev.G
open Go Go.Ev
set_option maxRecDepth 100000

abbrev Iv := (Int × Int) × Int × Int
def minD (a b : Int × Int) : Int × Int := if sv b < sv a then b else a
def maxD (a b : Int × Int) : Int × Int := if sv a < sv b then b else a
theorem minD_gd {a b : Int × Int} (ha : gd a) (hb : gd b) : gd (minD a b) := by unfold minD; split; exact hb; exact ha
theorem maxD_gd {a b : Int × Int} (ha : gd a) (hb : gd b) : gd (maxD a b) := by unfold maxD; split; exact hb; exact ha
theorem minD_sv (a b : Int × Int) : sv (minD a b) = min (sv a) (sv b) := by unfold minD; split <;> omega
theorem maxD_sv (a b : Int × Int) : sv (maxD a b) = max (sv a) (sv b) := by unfold maxD; split <;> omega
end Go.Ev.G

namespace Go.Ev.G
open Go Go.Ev
set_option maxRecDepth 100000

def pw (t : Tm) (j : Nat) : Int := if j = 0 then t.2.1 else if j = 1 then t.2.2.1 else t.2.2.2
def big (xs : List Tm) (j : Nat) : Bool := xs.any fun t => decide (pw t j > 0)
def needs (n : Nat) (xs : List Tm) : Bool := (decide (n ≤ 0) && big xs 0) || ((decide (n ≤ 1) && big xs 1) || (decide (n ≤ 2) && big xs 2))

theorem poPower_eq (t : Tm) (j : Nat) : spec_poPower t j = some (pw t j) := by
  unfold spec_poPower pw
  by_cases h : j = 0
  · subst h; rfl
  · rw [if_neg h, show ((j : Int) == 0) = false by simp; omega, cond_false]
    by_cases h1 : j = 1
    · subst h1; rfl
    · rw [if_neg h1, show ((j : Int) == 1) = false by simp; omega, cond_false]

def degV (j : Nat) : Int → List Tm → Int
  | m, [] => m
  | m, t :: r => degV j (max m (pw t j)) r
theorem degV_pos (j : Nat) : ∀ (xs : List Tm) (m : Int), decide (degV j m xs > 0) = (decide (m > 0) || big xs j)
  | [], m => by simp [degV, big]
  | t :: r, m => by
    rw [degV, degV_pos j r]
    unfold big
    rw [List.any_cons, ← Bool.or_assoc]
    congr 1
    rw [Bool.eq_iff_iff]
    simp only [Bool.or_eq_true, decide_eq_true_eq]
    omega

theorem degreeIn_ev {xs : List Tm} {j : Nat} (hb : xs.length < lenB) : Evt (fun k _ => spec_poDegreeIn k xs j) (degV j (-1) xs) := by
  refine Evt.eq (f := fun k q => _) ?_ (fun k q => by rw [spec_poDegreeIn])
  have key : ∀ (r d : List Tm) (m : Int), d ++ r = xs → Evt (fun k n => spec_poDegreeIn_L58 k n j m xs (xs.length : Int) d.length) (.inr (degV j m r, ())) := by
    intro r
    induction r with
    | nil =>
      intro d m h
      refine Evt.step (fun k n => spec_poDegreeIn_L58.eq_2 k _ _ _ _ _ n) ?_
      rw [List.append_nil] at h
      subst h
      exact Evt.rng0 .pure
    | cons e r ih =>
      intro d m h
      refine Evt.step (fun k n => spec_poDegreeIn_L58.eq_2 k _ _ _ _ _ n) ?_
      have ih := ih (d ++ [e]) (max m (pw e j)) (by simpa using h)
      rw [← len_next (r := r) (by rw [h]; exact hb)] at ih
      subst h
      refine Evt.ctrue mid_lt (Evt.ctrue mid_ge (Evt.ctrue mid_lt ?_))
      rw [mid_get]
      exact Evt.bind (.const (poPower_eq _ _)) (Evt.bind (.const (most_eq _ _)) ih)
  have h0 := key xs [] (-1) rfl
  simp only [List.length_nil] at h0
  exact Evt.inr (Evt.diag h0) .pure

theorem system_inner {n : Nat} {xs : List Tm} (hb : xs.length < lenB) (x0 x6 : List (List Tm)) (x7 x8 : Int) :
    Evt (fun k m => spec_poSystem_L13518 k m x0 xs (n : Int) x6 x7 x8) (if needs n xs then .inl false else .inr (x0, x6, x7, x8, ())) := by
  have l3 : ∀ j : Nat, 3 ≤ j → Evt (fun k m => spec_poSystem_L13518 k m x0 xs (j : Int) x6 x7 x8) (.inr (x0, x6, x7, x8, ())) := by
    intro j hj
    exact Evt.step (fun k m => spec_poSystem_L13518.eq_2 k _ _ _ _ _ _ m) (Evt.cfalse (decide_eq_false (by omega)) .pure)
  have st : ∀ (j : Nat) (b : Bool), j < 3 → Evt (fun k m => spec_poSystem_L13518 k m x0 xs ((j + 1 : Nat) : Int) x6 x7 x8) (if b then .inl false else .inr (x0, x6, x7, x8, ())) → Evt (fun k m => spec_poSystem_L13518 k m x0 xs (j : Int) x6 x7 x8) (if (big xs j || b) then .inl false else .inr (x0, x6, x7, x8, ())) := by
    intro j b hj h
    refine Evt.step (fun k m => spec_poSystem_L13518.eq_2 k _ _ _ _ _ _ m) (Evt.ctrue (decide_eq_true (by omega)) (Evt.bind (degreeIn_ev hb) ?_))
    rw [degV_pos]
    rw [w64_next (by simp only [lenB]; omega)]
    cases big xs j with
    | true => exact Evt.ctrue rfl .pure
    | false => exact Evt.cfalse rfl (by simpa using h)
  have l2 := st 2 false (by omega) (by simpa using l3 3 (by omega))
  have l1 := st 1 _ (by omega) l2
  have l0 := st 0 _ (by omega) l1
  match n with
  | 0 => simpa [needs] using l0
  | 1 => simpa [needs] using l1
  | 2 => simpa [needs] using l2
  | m + 3 =>
    have := l3 (m + 3) (by omega)
    have e : needs (m + 3) xs = false := by simp [needs]
    rw [e]
    exact this

def sysV (m : List (List Tm)) : Bool := (m.all fun xs => polyV xs && !needs m.length xs) && decide (1 ≤ (m.length : Int) ∧ (m.length : Int) ≤ 3)

theorem poSystem_ev {m : List (List Tm)} (hb : m.length < lenB) (hm : ∀ r ∈ m, r.length < lenB) : Evt (fun k _ => spec_poSystem k m) (sysV m) := by
  refine Evt.eq (f := fun k q => _) ?_ (fun k q => by rw [spec_poSystem])
  have key : ∀ (r d : List (List Tm)), d ++ r = m → Evt (fun k n => spec_poSystem_L26 k n m m (m.length : Int) d.length) (if (r.all fun xs => polyV xs && !needs m.length xs) then .inr (m, ()) else .inl false) := by
    intro r
    induction r with
    | nil =>
      intro d h
      refine Evt.step (fun k n => spec_poSystem_L26.eq_2 k _ _ _ _ n) ?_
      rw [List.append_nil] at h
      subst h
      exact Evt.rng0 .pure
    | cons e r ih =>
      intro d h
      refine Evt.step (fun k n => spec_poSystem_L26.eq_2 k _ _ _ _ n) ?_
      have he := hm e (by rw [← h]; simp)
      have ih := ih (d ++ [e]) (by simpa using h)
      rw [← len_next (r := r) (by rw [h]; exact hb)] at ih
      have hi := system_inner (n := m.length) he m m (m.length : Int) (d.length : Int)
      subst h
      refine Evt.ctrue mid_lt (Evt.ctrue mid_ge (Evt.ctrue mid_lt ?_))
      rw [mid_get]
      refine Evt.bind (poGood_ev he) ?_
      cases hp : polyV e with
      | false => simp only [List.all_cons, hp, Bool.false_and]; exact Evt.ctrue rfl .pure
      | true =>
        refine Evt.cfalse rfl ?_
        cases hn : needs (d ++ e :: r).length e with
        | true => rw [hn] at hi; simp only [List.all_cons, hp, hn, Bool.not_true, Bool.and_false, Bool.false_and]; exact Evt.inl (Evt.diag hi) .pure
        | false => rw [hn] at hi; simp only [List.all_cons, hp, hn, Bool.not_false, Bool.true_and]; exact Evt.inr (Evt.diag hi) ih
  have h0 := key m [] rfl
  simp only [List.length_nil] at h0
  unfold sysV
  cases hall : (m.all fun xs => polyV xs && !needs m.length xs) with
  | true => rw [hall] at h0; exact Evt.inr (Evt.diag h0) (Evt.bind (.const (l1In_eq _ _ _)) .pure)
  | false => rw [hall] at h0; exact Evt.inl (Evt.diag h0) .pure

def needsT (n : Nat) (t : Tm) : Bool := (decide (n ≤ 0) && decide (t.2.1 > 0)) || ((decide (n ≤ 1) && decide (t.2.2.1 > 0)) || (decide (n ≤ 2) && decide (t.2.2.2 > 0)))
theorem needs_any (n : Nat) (xs : List Tm) : needs n xs = xs.any (needsT n) := by
  rw [Bool.eq_iff_iff]
  simp only [needs, big, Bool.or_eq_true, Bool.and_eq_true, decide_eq_true_eq, List.any_eq_true, needsT, pw]
  constructor
  · rintro (⟨h, t, ht, hp⟩ | ⟨h, t, ht, hp⟩ | ⟨h, t, ht, hp⟩)
    · exact ⟨t, ht, .inl ⟨h, by simpa using hp⟩⟩
    · exact ⟨t, ht, .inr (.inl ⟨h, by simpa using hp⟩)⟩
    · exact ⟨t, ht, .inr (.inr ⟨h, by simpa using hp⟩)⟩
  · rintro ⟨t, ht, ⟨h, hp⟩ | ⟨h, hp⟩ | ⟨h, hp⟩⟩
    · exact .inl ⟨h, t, ht, by simpa using hp⟩
    · exact .inr (.inl ⟨h, t, ht, by simpa using hp⟩)
    · exact .inr (.inr ⟨h, t, ht, by simpa using hp⟩)

theorem needs_inner (n : Nat) (t : Tm) (x9 : List Tm) (x10 x11 : Int) :
    Evt (fun k m => impl_needsAtMost_L6758 k m (n : Int) x9 x10 x11 t.2 0) (if needsT n t then .inl false else .inr ((n : Int), x9, x10, x11, ())) := by
  have w1 : IntKind.wrap .i64 (0 + 1) = 1 := by decide
  have w2 : IntKind.wrap .i64 (1 + 1) = 2 := by decide
  have w3 : IntKind.wrap .i64 (2 + 1) = 3 := by decide
  have l3 : Evt (fun k m => impl_needsAtMost_L6758 k m (n : Int) x9 x10 x11 t.2 3) (.inr ((n : Int), x9, x10, x11, ())) :=
    Evt.step (fun k m => impl_needsAtMost_L6758.eq_2 k _ _ _ _ _ _ m) (Evt.cfalse rfl .pure)
  have l2 : Evt (fun k m => impl_needsAtMost_L6758 k m (n : Int) x9 x10 x11 t.2 2) (if (decide (n ≤ 2) && decide (t.2.2.2 > 0)) then .inl false else .inr ((n : Int), x9, x10, x11, ())) := by
    refine Evt.step (fun k m => impl_needsAtMost_L6758.eq_2 k _ _ _ _ _ _ m) (Evt.ctrue rfl (Evt.cfalse rfl (Evt.cfalse rfl (Evt.ctrue rfl ?_))))
    rw [w3]
    by_cases h : n ≤ 2
    · refine Evt.ctrue (decide_eq_true (by omega)) ?_
      simp only [decide_eq_true h, Bool.true_and]
      cases decide (t.2.2.2 > 0) with
      | true => exact Evt.ctrue rfl .pure
      | false => exact Evt.cfalse rfl l3
    · simp only [decide_eq_false h, Bool.false_and]
      exact Evt.cfalse (decide_eq_false (by omega)) l3
  have l1 : Evt (fun k m => impl_needsAtMost_L6758 k m (n : Int) x9 x10 x11 t.2 1) (if ((decide (n ≤ 1) && decide (t.2.2.1 > 0)) || (decide (n ≤ 2) && decide (t.2.2.2 > 0))) then .inl false else .inr ((n : Int), x9, x10, x11, ())) := by
    refine Evt.step (fun k m => impl_needsAtMost_L6758.eq_2 k _ _ _ _ _ _ m) (Evt.ctrue rfl (Evt.cfalse rfl (Evt.ctrue rfl ?_)))
    rw [w2]
    by_cases h : n ≤ 1
    · refine Evt.ctrue (decide_eq_true (by omega)) ?_
      simp only [decide_eq_true h, Bool.true_and]
      cases decide (t.2.2.1 > 0) with
      | true => exact Evt.ctrue rfl .pure
      | false => exact Evt.cfalse rfl l2
    · simp only [decide_eq_false h, Bool.false_and, Bool.false_or]
      exact Evt.cfalse (decide_eq_false (by omega)) l2
  refine Evt.step (fun k m => impl_needsAtMost_L6758.eq_2 k _ _ _ _ _ _ m) (Evt.ctrue rfl (Evt.ctrue rfl ?_))
  rw [w1]
  unfold needsT
  by_cases h : n ≤ 0
  · refine Evt.ctrue (decide_eq_true (by omega)) ?_
    simp only [decide_eq_true h, Bool.true_and]
    cases decide (t.2.1 > 0) with
    | true => exact Evt.ctrue rfl .pure
    | false => exact Evt.cfalse rfl l1
  · simp only [decide_eq_false h, Bool.false_and, Bool.false_or]
    exact Evt.cfalse (decide_eq_false (by omega)) l1

theorem needsAtMost_ev {xs : List Tm} {n : Nat} (hb : xs.length < lenB) : Evt (fun k _ => impl_needsAtMost k xs n) (!needs n xs) := by
  refine Evt.eq (f := fun k q => _) ?_ (fun k q => by rw [impl_needsAtMost])
  rw [needs_any]
  have key : ∀ (r d : List Tm), d ++ r = xs → Evt (fun k m => impl_needsAtMost_L26 k m n xs (xs.length : Int) d.length) (if r.any (needsT n) then .inl false else .inr ()) := by
    intro r
    induction r with
    | nil =>
      intro d h
      refine Evt.step (fun k m => impl_needsAtMost_L26.eq_2 k _ _ _ _ m) ?_
      rw [List.append_nil] at h
      subst h
      exact Evt.rng0 .pure
    | cons e r ih =>
      intro d h
      refine Evt.step (fun k m => impl_needsAtMost_L26.eq_2 k _ _ _ _ m) ?_
      have ih := ih (d ++ [e]) (by simpa using h)
      rw [← len_next (r := r) (by rw [h]; exact hb)] at ih
      have hi := needs_inner n e xs (xs.length : Int) (d.length : Int)
      subst h
      refine Evt.ctrue mid_lt (Evt.ctrue mid_ge (Evt.ctrue mid_lt ?_))
      rw [mid_get]
      refine Evt.bind (.const rfl) ?_
      cases hn : needsT n e with
      | true => rw [hn] at hi; simp only [List.any_cons, hn, Bool.true_or]; exact Evt.inl (Evt.diag hi) .pure
      | false => rw [hn] at hi; simp only [List.any_cons, hn, Bool.false_or]; exact Evt.inr (Evt.diag hi) ih
  have h0 := key xs [] rfl
  simp only [List.length_nil] at h0
  cases hall : xs.any (needsT n) with
  | true => rw [hall] at h0; exact Evt.inl (Evt.diag h0) .pure
  | false => rw [hall] at h0; exact Evt.inr (Evt.diag h0) .pure

theorem isSystem_ev {m : List (List Tm)} (hb : m.length < lenB) (hm : ∀ r ∈ m, r.length < lenB) : Evt (fun k _ => impl_isSystem k m) (sysV m) := by
  refine Evt.eq (f := fun k q => _) ?_ (fun k q => by rw [impl_isSystem])
  have key : ∀ (r d : List (List Tm)), d ++ r = m → Evt (fun k n => impl_isSystem_L26 k n m m (m.length : Int) d.length) (if (r.all fun xs => polyV xs && !needs m.length xs) then .inr (m, ()) else .inl false) := by
    intro r
    induction r with
    | nil =>
      intro d h
      refine Evt.step (fun k n => impl_isSystem_L26.eq_2 k _ _ _ _ n) ?_
      rw [List.append_nil] at h
      subst h
      exact Evt.rng0 .pure
    | cons e r ih =>
      intro d h
      refine Evt.step (fun k n => impl_isSystem_L26.eq_2 k _ _ _ _ n) ?_
      have he := hm e (by rw [← h]; simp)
      have ih := ih (d ++ [e]) (by simpa using h)
      rw [← len_next (r := r) (by rw [h]; exact hb)] at ih
      subst h
      refine Evt.ctrue mid_lt (Evt.ctrue mid_ge (Evt.ctrue mid_lt ?_))
      rw [mid_get]
      refine Evt.bind (isPoly_ev he) ?_
      cases hp : polyV e with
      | false => simp only [List.all_cons, hp, Bool.false_and]; exact Evt.ctrue rfl .pure
      | true =>
        refine Evt.cfalse rfl (Evt.bind (needsAtMost_ev he) ?_)
        cases hn : needs (d ++ e :: r).length e with
        | true => simp only [List.all_cons, hp, hn, Bool.not_true, Bool.and_false, Bool.false_and]; exact Evt.ctrue rfl .pure
        | false => simp only [List.all_cons, hp, hn, Bool.not_false, Bool.true_and]; exact Evt.cfalse rfl ih
  have h0 := key m [] rfl
  simp only [List.length_nil] at h0
  unfold sysV
  cases hall : (m.all fun xs => polyV xs && !needs m.length xs) with
  | true => rw [hall] at h0; exact Evt.inr (Evt.diag h0) (Evt.bind (.const (inside_eq _ _ _)) .pure)
  | false => rw [hall] at h0; exact Evt.inl (Evt.diag h0) .pure

theorem intactT_ev {a : List (List Tm)} (h : Sized a) : Evt (fun k _ => laws_intactTermSS k (toV (fun x => toV id fT x false) ([fT], []) a false) (toV (fun x => toV id fT x false) ([fT], []) a false)) true := by
  refine intactTermSS_ev (room_toV h.len) ?_ ?_
  · intro y hy
    simp [toV] at hy
    obtain ⟨x, hx, rfl⟩ := hy
    exact ⟨by simp, h.row x hx⟩
  · intro y hy
    simp [toV] at hy
    rw [hy.2]; simp [lenB]

abbrev tTerm : Ty := .pair (.int .i64) (.pair (.int .i64) (.pair (.int .i64) (.int .i64)))
end Go.Ev.G

namespace Go.Ev.G
open Go Go.Ev
set_option maxRecDepth 100000

def tmW (t : Tm) : Prop := (-10000 ≤ t.1 ∧ t.1 ≤ 10000) ∧ (0 ≤ t.2.1 ∧ t.2.1 ≤ 4) ∧ (0 ≤ t.2.2.1 ∧ t.2.2.1 ≤ 4) ∧ (0 ≤ t.2.2.2 ∧ t.2.2.2 ≤ 4)
def sgl (a : Int × Int) : Iv := (a, a)
theorem sgl_iv {a : Int × Int} (h : gd a) : ivGd (sgl a) := ⟨h, h, Int.le_refl _⟩
end Go.Ev.G

namespace Go.Ev.G
open Go Go.Ev
set_option maxRecDepth 100000

structure Sd (s : List (List Tm)) (sides : List Iv) : Prop where
  sd : ∀ i ∈ sides, ivGd i
  ln : sides.length ≤ 3
  tm : ∀ p ∈ s, ∀ t ∈ p, tmW t
  lp : ∀ p ∈ s, p.length < lenB
abbrev Ed := Int × (Int × Int) × (Int × Int) × Int × Int
def sidesE (e : Ed) : List Iv := if e.1 = 0 then [sgl e.2.1, (minD e.2.2.1 e.2.2.2, maxD e.2.2.1 e.2.2.2)] else [(minD e.2.2.1 e.2.2.2, maxD e.2.2.1 e.2.2.2), sgl e.2.1]
structure EdOk (e : Ed) : Prop where
  sd : e.1 = 0 ∨ e.1 = 1
  a : gd e.2.1
  f : gd e.2.2.1
  t : gd e.2.2.2
theorem along_iv {a b : Int × Int} (ha : gd a) (hb : gd b) : ivGd (minD a b, maxD a b) := ⟨minD_gd ha hb, maxD_gd ha hb, by simp only [minD_sv, maxD_sv]; omega⟩
theorem EdOk.sides {e : Ed} (h : EdOk e) : ∀ i ∈ sidesE e, ivGd i := by
  intro i hi
  have q := along_iv h.f h.t
  have r := sgl_iv h.a
  unfold sidesE at hi
  split at hi <;> (simp only [List.mem_cons, List.not_mem_nil, or_false] at hi; rcases hi with rfl | rfl <;> assumption)
theorem EdOk.len (e : Ed) : (sidesE e).length = 2 := by unfold sidesE; split <;> rfl
theorem Sd.edge {s : List (List Tm)} (h1 : ∀ p ∈ s, ∀ t ∈ p, tmW t) (h2 : ∀ p ∈ s, p.length < lenB) {e : Ed} (h : EdOk e) : Sd s (sidesE e) := ⟨h.sides, by rw [EdOk.len]; omega, h1, h2⟩
def bnV (a : Int × Int) : Bool := decide (gd a) && (decide (a.2 ≤ 9) && decide (-8 * 2 ^ a.2.toNat ≤ a.1 ∧ a.1 ≤ 8 * 2 ^ a.2.toNat))
theorem pow9 {n : Nat} (h : n ≤ 9) : (1 : Int) ≤ 2 ^ n ∧ (2 : Int) ^ n ≤ 512 := by
  rcases (by omega : n = 0 ∨ n = 1 ∨ n = 2 ∨ n = 3 ∨ n = 4 ∨ n = 5 ∨ n = 6 ∨ n = 7 ∨ n = 8 ∨ n = 9) with rfl | rfl | rfl | rfl | rfl | rfl | rfl | rfl | rfl | rfl <;> decide
theorem isBoxNumber_eq (a : Int × Int) : impl_isBoxNumber a = some (bnV a) := by
  unfold impl_isBoxNumber bnV
  rw [isDyadic_eq, Option.bind_some]
  by_cases hg : gd a
  · rw [decide_eq_true hg, cond_true, Bool.true_and]
    obtain ⟨n, j, rfl, hj, h1, h2, hn⟩ := gd_nat hg
    simp only [Int.toNat_natCast]
    by_cases h9 : (j : Int) ≤ 9
    · have hp := pow9 (n := j) (by omega)
      have hmin := min64 (m := j) (by omega)
      simp only [Int.toNat_natCast] at hmin
      rw [decide_eq_true h9, cond_true, Bool.true_and, decide_eq_false (by omega), cond_false, cond_false, hmin, w64 (by omega) (by omega), w64 (by omega) (by omega), inside_eq]
      rfl
    · rw [decide_eq_false h9]; rfl
  · rw [decide_eq_false hg]; rfl
theorem vaPoint_ev {xs : Pt} (hb : xs.length < lenB) : Evt (fun k _ => spec_vaPoint k xs) (xs.all bnV && decide (1 ≤ (xs.length : Int) ∧ (xs.length : Int) ≤ 3)) := by
  refine Evt.eq (f := fun k q => _) ?_ (fun k q => by rw [spec_vaPoint])
  have key : ∀ (r d : Pt), d ++ r = xs → Evt (fun k n => spec_vaPoint_L26 k n xs xs (xs.length : Int) d.length) (if r.all bnV then .inr (xs, ()) else .inl false) := by
    intro r
    induction r with
    | nil =>
      intro d hd
      rw [List.append_nil] at hd
      subst hd
      exact Evt.step (fun k n => spec_vaPoint_L26.eq_2 k _ _ _ _ n) (Evt.rng0 .pure)
    | cons e r ih =>
      intro d hd
      refine Evt.step (fun k n => spec_vaPoint_L26.eq_2 k _ _ _ _ n) ?_
      have ih := ih (d ++ [e]) (by simpa using hd)
      rw [← hd] at ih ⊢
      refine Evt.ctrue mid_lt (Evt.ctrue mid_ge (Evt.ctrue mid_lt ?_))
      rw [mid_get, len_next (by rw [hd]; exact hb)]
      refine Evt.bind (.const (dyGood_eq e)) ?_
      rw [List.all_cons]
      unfold bnV
      by_cases hg : gd e
      · rw [decide_eq_true hg]
        refine Evt.cfalse rfl ?_
        obtain ⟨n, j, rfl, hj, h1, h2, hn⟩ := gd_nat hg
        simp only [Int.toNat_natCast, Bool.true_and]
        by_cases h9 : (j : Int) ≤ 9
        · rw [decide_eq_true h9]
          refine Evt.cfalse (decide_eq_false (by omega)) ?_
          have hp := pow9 (n := j) (by omega)
          have g8 : gd (8, 0) := by decide
          have g9 : gd (-8, 0) := by decide
          have sn : sv (n, (j : Int)) = n * 2 ^ (24 - j) := by simp [sv]
          have s8 : sv (8, 0) = 8 * 2 ^ j * 2 ^ (24 - j) := by
            rw [Int.mul_assoc, ← Int.pow_add, show j + (24 - j) = 24 by omega]; rfl
          have s9 : sv (-8, 0) = -8 * 2 ^ j * 2 ^ (24 - j) := by
            rw [Int.mul_assoc, ← Int.pow_add, show j + (24 - j) = 24 by omega]; rfl
          have hq : (0 : Int) < 2 ^ (24 - j) := Int.pow_pos (by decide)
          refine Evt.bind (.const rfl) (Evt.bind (dyCmp_ev hg g9) ?_)
          rw [sn, s9, cmpI_mul hq, cmpI_lt]
          by_cases c1 : n < -8 * 2 ^ j
          · rw [decide_eq_false (show ¬ (-8 * 2 ^ j ≤ n ∧ n ≤ 8 * 2 ^ j) by omega)]
            exact Evt.ctrue (decide_eq_true c1) .pure
          · refine Evt.cfalse (decide_eq_false c1) (Evt.bind (.const rfl) (Evt.bind (dyCmp_ev g8 hg) ?_))
            rw [sn, s8, cmpI_mul hq, cmpI_lt]
            by_cases c2 : 8 * 2 ^ j < n
            · rw [decide_eq_false (show ¬ (-8 * 2 ^ j ≤ n ∧ n ≤ 8 * 2 ^ j) by omega)]
              exact Evt.ctrue (decide_eq_true c2) .pure
            · rw [decide_eq_true (show (-8 * 2 ^ j ≤ n ∧ n ≤ 8 * 2 ^ j) by omega), Bool.true_and, Bool.true_and]
              exact Evt.cfalse (decide_eq_false c2) ih
        · rw [decide_eq_false h9]
          exact Evt.ctrue (decide_eq_true (by omega)) .pure
      · rw [decide_eq_false hg]
        exact Evt.ctrue rfl .pure
  have hk := key xs [] rfl
  simp only [List.length_nil] at hk
  cases ha : xs.all bnV with
  | true =>
    rw [ha, if_pos rfl] at hk
    refine Evt.inr (Evt.diag hk) (Evt.bind (.const (l1In_eq _ _ _)) ?_)
    rw [Bool.true_and]
    exact .pure
  | false =>
    rw [ha, if_neg (by simp)] at hk
    exact Evt.inl (Evt.diag hk) .pure

def twoV (m : List (List Tm)) : Bool := sysV m && ((m.length : Int) == 2)
theorem isTwo_ev {m : List (List Tm)} (hb : m.length < lenB) (hm : ∀ r ∈ m, r.length < lenB) : Evt (fun k _ => impl_isTwo k m) (twoV m) := by
  refine Evt.eq (f := fun k q => _) ?_ (fun k q => by rw [impl_isTwo])
  unfold twoV
  cases h : ((m.length : Int) == 2) with
  | false => rw [Bool.and_false]; exact Evt.cfalse rfl .pure
  | true => rw [Bool.and_true]; exact Evt.ctrue rfl (Evt.bind (isSystem_ev hb hm) .pure)
theorem twoV_len {m : List (List Tm)} (h : twoV m = true) : sysV m = true ∧ m.length = 2 := by
  unfold twoV at h
  rw [Bool.and_eq_true] at h
  refine ⟨h.1, ?_⟩
  have := h.2
  simp at this
  omega
end Go.Ev.G

namespace Go.Ev.G
open Go Go.Ev
set_option maxRecDepth 100000

section
variable {V : Type}
end
structure Pl (s : List (List Tm)) : Prop where
  ln : s.length = 2
  tm : ∀ p ∈ s, ∀ t ∈ p, tmW t
  lp : ∀ p ∈ s, p.length < lenB
theorem Pl.sd {s : List (List Tm)} (h : Pl s) {e : Ed} (he : EdOk e) : Sd s (sidesE e) := Sd.edge h.tm h.lp he
end Go.Ev.G

namespace Go.Ev.G
open Go Go.Ev
set_option maxRecDepth 100000

def halfD (a b : Int × Int) : (Int × Int) × Bool := mkD (sumN a b) (exA a b + 1)
theorem halfD_gd (a b : Int × Int) : gd (halfD a b).1 := mkD_gd _ _
theorem EdOk.left {e : Ed} (h : EdOk e) : EdOk (e.1, e.2.1, e.2.2.1, (halfD e.2.2.1 e.2.2.2).1) := ⟨h.sd, h.a, h.f, halfD_gd _ _⟩
theorem EdOk.right {e : Ed} (h : EdOk e) : EdOk (e.1, e.2.1, (halfD e.2.2.1 e.2.2.2).1, e.2.2.2) := ⟨h.sd, h.a, halfD_gd _ _, h.t⟩
end Go.Ev.G

namespace Go.Ev.G
open Go Go.Ev
set_option maxRecDepth 100000

theorem isBoxPoint_ev {xs : Pt} (hb : xs.length < lenB) : Evt (fun k _ => impl_isBoxPoint k xs) (xs.all bnV && decide (1 ≤ (xs.length : Int) ∧ (xs.length : Int) ≤ 3)) := by
  refine Evt.eq (f := fun k q => _) ?_ (fun k q => by rw [impl_isBoxPoint])
  refine Evt.bind (.const (inside_eq _ _ _)) ?_
  by_cases hl : 1 ≤ (xs.length : Int) ∧ (xs.length : Int) ≤ 3
  · rw [decide_eq_true hl, Bool.and_true]
    refine Evt.ctrue rfl ?_
    have key : ∀ (r d : Pt), d ++ r = xs → Evt (fun k n => slices_IndexFunc_Dyadic_Dyadic_impl_isBoxPoint_1_L26 k n xs () (xs.length : Int) d.length) (match r.findIdx? (fun a => !bnV a) with | some j => .inl ((d.length + j : Nat) : Int) | none => .inr ()) := by
      intro r
      induction r with
      | nil =>
        intro d h
        refine Evt.step (fun k n => slices_IndexFunc_Dyadic_Dyadic_impl_isBoxPoint_1_L26.eq_2 k _ _ _ _ n) ?_
        rw [List.append_nil] at h
        subst h
        exact Evt.cfalse (by simp) .pure
      | cons e r ih =>
        intro d h
        have ih := ih (d ++ [e]) (by simpa using h)
        rw [← len_next (r := r) (by rw [h]; exact hb)] at ih
        have g : xs.getD (Int.toNat (d.length : Int)) (0, 0) = e := by rw [← h]; exact mid_get
        refine Evt.step (fun k n => slices_IndexFunc_Dyadic_Dyadic_impl_isBoxPoint_1_L26.eq_2 k _ _ _ _ n) ?_
        rw [g]
        refine Evt.ctrue (by rw [← h]; exact mid_lt) (Evt.ctrue mid_ge (Evt.ctrue (by rw [← h]; exact mid_lt) (Evt.bind (.const (r := !bnV e) (by unfold impl_isBoxPoint_1; rw [isBoxNumber_eq]; rfl)) ?_)))
        cases hbn : bnV e with
        | false =>
          simp only [List.findIdx?_cons, hbn, Bool.not_false, if_true]
          exact Evt.ctrue rfl .pure
        | true =>
          simp only [List.findIdx?_cons, hbn, Bool.not_true, Bool.false_eq_true, if_false]
          refine Evt.cfalse rfl ?_
          cases hf : r.findIdx? (fun a => !bnV a) with
          | none => rw [hf] at ih; exact ih
          | some j =>
            rw [hf] at ih
            simp only [Option.map_some]
            have e1 : ((d ++ [e]).length + j : Nat) = d.length + (j + 1) := by simp; omega
            dsimp only at ih
            rw [e1] at ih
            exact ih
    have h0 := key xs [] rfl
    simp only [List.length_nil, Nat.zero_add] at h0
    have hC : Evt (fun k _ => slices_ContainsFunc_Dyadic_Dyadic_impl_isBoxPoint_1 k xs ()) (!xs.all bnV) := by
      refine Evt.eq (f := fun k q => _) ?_ (fun k q => by rw [slices_ContainsFunc_Dyadic_Dyadic_impl_isBoxPoint_1, slices_IndexFunc_Dyadic_Dyadic_impl_isBoxPoint_1])
      cases hf : xs.findIdx? (fun a => !bnV a) with
      | none =>
        rw [hf] at h0
        have : xs.all bnV = true := by
          rw [List.all_eq_true]
          intro x hx
          have := List.findIdx?_eq_none_iff.1 hf x hx
          simpa using this
        rw [this]
        exact Evt.bind (Evt.inr (Evt.diag h0) .pure) .pure
      | some j =>
        rw [hf] at h0
        have : xs.all bnV = false := by
          cases hall : xs.all bnV with
          | false => rfl
          | true =>
            exfalso
            have hn : xs.findIdx? (fun a => !bnV a) = none := List.findIdx?_eq_none_iff.2 (fun x hx => by
              have := List.all_eq_true.1 hall x hx
              simp [this])
            rw [hn] at hf
            cases hf
        rw [this]
        refine Evt.bind (Evt.inl (Evt.diag h0) .pure) ?_
        rw [decide_eq_true (show ((j : Nat) : Int) ≥ 0 by omega)]
        exact .pure
    refine Evt.bind hC ?_
    rw [Bool.not_not]
    exact .pure
  · rw [decide_eq_false hl, Bool.and_false]
    exact Evt.cfalse rfl .pure

theorem dgParts_eq {a b : Int} (ha : -68719476736 ≤ a ∧ a ≤ 68719476736) (hb : -68719476736 ≤ b ∧ b ≤ 68719476736) : spec_dgParts a b = some ((a * b) / 1099511627776, (a * b) % 1099511627776) := by
  have p20 : spec_dyPower 20 = some 1048576 := dyPower_eq (m := 20) (by omega)
  have p40 : spec_dyPower 40 = some 1099511627776 := dyPower_eq (m := 40) (by omega)
  have dn20 : ∀ n : Int, -9223372036854775807 ≤ n → n < 9223372036854775808 → spec_dyDown n 1048576 = some (n / 1048576) := fun n h1 h2 => dyDown_eq (p := 1048576) (by omega) h1 h2
  have dn40 : ∀ n : Int, -9223372036854775807 ≤ n → n < 9223372036854775808 → spec_dyDown n 1099511627776 = some (n / 1099511627776) := fun n h1 h2 => dyDown_eq (p := 1099511627776) (by omega) h1 h2
  unfold spec_dgParts
  have hx : -65536 ≤ a / 1048576 ∧ a / 1048576 ≤ 65536 := by omega
  have hxb : -(65536 * 68719476736) ≤ a / 1048576 * b ∧ a / 1048576 * b ≤ 65536 * 68719476736 := by
    have h := natAbs_mul_le (a := a / 1048576) (b := b) (B := 68719476736) (by omega)
    have h2 : (a / 1048576).natAbs * 68719476736 ≤ 65536 * 68719476736 := Nat.mul_le_mul_right _ (by omega)
    omega
  have hyb : -(1048576 * 68719476736) ≤ (a - a / 1048576 * 1048576) * b ∧ (a - a / 1048576 * 1048576) * b ≤ 1048576 * 68719476736 := by
    have h := natAbs_mul_le (a := a - a / 1048576 * 1048576) (b := b) (B := 68719476736) (by omega)
    have h2 : (a - a / 1048576 * 1048576).natAbs * 68719476736 ≤ 1048576 * 68719476736 := Nat.mul_le_mul_right _ (by omega)
    omega
  have hab : a * b = a / 1048576 * b * 1048576 + (a - a / 1048576 * 1048576) * b := by
    rw [Int.sub_mul, Int.mul_right_comm]
    omega
  rw [hab]
  simp only [p20, p40, Option.bind_some]
  rw [dn20 a (by omega) (by omega)]
  simp only [Option.bind_some]
  rw [w64 (n := a / 1048576 * b) (by omega) (by omega)]
  rw [w64 (n := a / 1048576 * 1048576) (by omega) (by omega), w64 (n := a - a / 1048576 * 1048576) (by omega) (by omega)]
  generalize a / 1048576 * b = xb at hxb ⊢
  generalize (a - a / 1048576 * 1048576) * b = yb at hyb ⊢
  rw [dn20 xb (by omega) (by omega)]
  simp only [Option.bind_some]
  rw [w64 (n := yb) (by omega) (by omega), w64 (n := xb / 1048576 * 1048576) (by omega) (by omega), w64 (n := xb - xb / 1048576 * 1048576) (by omega) (by omega), w64 (n := (xb - xb / 1048576 * 1048576) * 1048576) (by omega) (by omega), w64 (n := (xb - xb / 1048576 * 1048576) * 1048576 + yb) (by omega) (by omega)]
  rw [dn40 _ (by omega) (by omega)]
  simp only [Option.bind_some]
  rw [w64 (n := xb / 1048576 + ((xb - xb / 1048576 * 1048576) * 1048576 + yb) / 1099511627776) (by omega) (by omega), w64 (n := ((xb - xb / 1048576 * 1048576) * 1048576 + yb) / 1099511627776 * 1099511627776) (by omega) (by omega), w64 (by omega) (by omega)]
  congr 2
  · omega
  · omega
theorem dgDiff_eq {a b c d : Int} (ha : -68719476736 ≤ a ∧ a ≤ 68719476736) (hb : -68719476736 ≤ b ∧ b ≤ 68719476736) (hc : -68719476736 ≤ c ∧ c ≤ 68719476736) (hd : -68719476736 ≤ d ∧ d ≤ 68719476736) : ∃ r, spec_dgDiff a b c d = some r ∧ spec_l1Sign r = some (cmpI (a * b) (c * d)) := by
  have bd : ∀ x y : Int, -68719476736 ≤ x ∧ x ≤ 68719476736 → -68719476736 ≤ y ∧ y ≤ 68719476736 → -4722366482869645213696 ≤ x * y ∧ x * y ≤ 4722366482869645213696 := by
    intro x y hx hy
    have h := natAbs_mul_le (a := x) (b := y) (B := 68719476736) (by omega)
    have h2 : x.natAbs * 68719476736 ≤ 68719476736 * 68719476736 := Nat.mul_le_mul_right _ (by omega)
    omega
  have b1 := bd a b ha hb
  have b2 := bd c d hc hd
  unfold spec_dgDiff spec_dgHigh spec_dgLow
  rw [dgParts_eq ha hb, dgParts_eq hc hd]
  simp only [Option.bind_some]
  generalize a * b = u at b1 ⊢
  generalize c * d = v at b2 ⊢
  rw [w64 (n := u / 1099511627776 - v / 1099511627776) (by omega) (by omega), w64 (n := u % 1099511627776 - v % 1099511627776) (by omega) (by omega)]
  by_cases h : u / 1099511627776 - v / 1099511627776 = 0
  · refine ⟨u % 1099511627776 - v % 1099511627776, by rw [show (u / 1099511627776 - v / 1099511627776 != 0) = false by simpa using h]; rfl, ?_⟩
    rw [sign_eq]
    congr 1
    unfold cmpI
    split <;> split <;> (try split) <;> (try split) <;> omega
  · refine ⟨u / 1099511627776 - v / 1099511627776, by rw [show (u / 1099511627776 - v / 1099511627776 != 0) = true by simpa using h]; rfl, ?_⟩
    rw [sign_eq]
    congr 1
    unfold cmpI
    split <;> split <;> (try split) <;> (try split) <;> omega
end Go.Ev.G

namespace Go.Ev.G
open Go Go.Ev
set_option maxRecDepth 100000

theorem bePow_ev {b : Int} (hb : b.natAbs ≤ 64) {e : Nat} (he : e ≤ 3) : Evt (fun k _ => spec_bePower k b (e : Int)) (b ^ e) := by
  refine Evt.eq (f := fun k q => _) ?_ (fun k q => by rw [spec_bePower])
  have key : ∀ (m : Nat) (c : Int), m ≤ 3 → c.natAbs * 64 ^ m ≤ 4611686018427387904 → Evt (fun k n => spec_bePower_L28 k n b (m : Int) c) (.inr (c * b ^ m, ())) := by
    intro m
    induction m with
    | zero =>
      intro c _ _
      refine Evt.step (fun k n => spec_bePower_L28.eq_2 k _ _ _ n) ?_
      rw [Int.pow_zero, Int.mul_one]
      exact Evt.cfalse (by decide) .pure
    | succ m ih =>
      intro c hm hc
      have hcx := natAbs_mul_le (a := c) hb
      have hc2 : (c * b).natAbs * 64 ^ m ≤ 4611686018427387904 := by
        refine Nat.le_trans (Nat.mul_le_mul_right _ hcx) ?_
        rw [Nat.mul_assoc, Nat.mul_comm 64, ← Nat.pow_succ]
        exact hc
      have hc3 : (c * b).natAbs ≤ 4611686018427387904 := Nat.le_trans (Nat.le_mul_of_pos_right _ (Nat.pow_pos (by decide))) hc2
      have ih := ih (c * b) (by omega) hc2
      refine Evt.step (fun k n => spec_bePower_L28.eq_2 k _ _ _ n) (Evt.ctrue (decide_eq_true (by omega)) ?_)
      have w1 : IntKind.wrap .i64 (((m + 1 : Nat) : Int) - 1) = (m : Int) := by rw [w64 (by omega) (by omega)]; omega
      rw [w1, w64 (n := c * b) (by omega) (by omega)]
      rw [Int.mul_assoc, ← Int.pow_succ'] at ih
      exact ih
  have h64 : (1 : Int).natAbs * 64 ^ e ≤ 4611686018427387904 := by
    have := Nat.pow_le_pow_right (n := 64) (by decide) he
    have h3 : (64 : Nat) ^ 3 = 262144 := by decide
    have e1 : (1 : Int).natAbs = 1 := rfl
    rw [e1]
    omega
  have h := key e 1 he h64
  rw [Int.one_mul] at h
  exact Evt.inr (Evt.diag h) .pure

def tmD (t : Tm) : Prop := 0 ≤ t.2.1 ∧ 0 ≤ t.2.2.1 ∧ t.2.2.2 = 0 ∧ t.2.1 + t.2.2.1 ≤ 3 ∧ t.1.natAbs ≤ 4000
def dgT (A B : Int) (t : Tm) : Int := t.1 * A ^ t.2.1.toNat * B ^ t.2.2.1.toNat * 8 ^ (3 - t.2.1.toNat - t.2.2.1.toNat)
theorem dgT_steps {A B : Int} {t : Tm} (hA : A.natAbs ≤ 64) (hB : B.natAbs ≤ 64) (ht : tmD t) : (t.1 * A ^ t.2.1.toNat).natAbs ≤ 1048576000 ∧ (t.1 * A ^ t.2.1.toNat * B ^ t.2.2.1.toNat).natAbs ≤ 1048576000 ∧ (dgT A B t).natAbs ≤ 1048576000 := by
  obtain ⟨t0, t1, t2, hd, hc⟩ := ht
  have pw : ∀ (b : Int) (n : Nat), b.natAbs ≤ 64 → (b ^ n).natAbs ≤ 64 ^ n := by
    intro b n hb
    rw [Int.natAbs_pow]
    exact Nat.pow_le_pow_left hb n
  have hA2 := pw A t.2.1.toNat hA
  have hB2 := pw B t.2.2.1.toNat hB
  have s1 : (t.1 * A ^ t.2.1.toNat).natAbs ≤ 4000 * 64 ^ t.2.1.toNat := Nat.le_trans (natAbs_mul_le hA2) (Nat.mul_le_mul_right _ hc)
  have s2 : (t.1 * A ^ t.2.1.toNat * B ^ t.2.2.1.toNat).natAbs ≤ 4000 * 64 ^ (t.2.1.toNat + t.2.2.1.toNat) := by
    refine Nat.le_trans (natAbs_mul_le hB2) ?_
    rw [Nat.pow_add, ← Nat.mul_assoc]
    exact Nat.mul_le_mul_right _ s1
  have h3 : (64 : Nat) ^ 3 = 262144 := by decide
  have p1 : 64 ^ t.2.1.toNat ≤ 64 ^ 3 := Nat.pow_le_pow_right (by decide) (by omega)
  have p2 : 64 ^ (t.2.1.toNat + t.2.2.1.toNat) ≤ 64 ^ 3 := Nat.pow_le_pow_right (by decide) (by omega)
  refine ⟨by omega, by omega, ?_⟩
  unfold dgT
  refine Nat.le_trans (natAbs_mul_le (B := 64 ^ (3 - t.2.1.toNat - t.2.2.1.toNat)) ?_) ?_
  · rw [Int.natAbs_pow]
    exact Nat.pow_le_pow_left (by decide) _
  · refine Nat.le_trans (Nat.mul_le_mul_right _ s2) ?_
    rw [Nat.mul_assoc, ← Nat.pow_add, show t.2.1.toNat + t.2.2.1.toNat + (3 - t.2.1.toNat - t.2.2.1.toNat) = 3 by omega, h3]
    omega
theorem dgV_bd {A B : Int} {p : List Tm} (hA : A.natAbs ≤ 64) (hB : B.natAbs ≤ 64) (ht : ∀ t ∈ p, tmD t) : ((p.map (dgT A B)).sum).natAbs ≤ p.length * 1048576000 := by
  induction p with
  | nil => simp
  | cons e d ih =>
    have h1 := ih (fun t h => ht t (by simp [h]))
    have h2 := (dgT_steps hA hB (ht e (by simp))).2.2
    simp only [List.map_cons, List.sum_cons, List.length_cons]
    rw [Nat.add_mul]
    have := Int.natAbs_add_le (dgT A B e) ((d.map (dgT A B)).sum)
    omega
theorem up3_bd {x : Int × Int} (h0 : 0 ≤ x.2) (hk : x.2 ≤ 3) (hb : x.1.natAbs ≤ 8 * 2 ^ x.2.toNat) : (upX 3 x).natAbs ≤ 64 := by
  unfold upX
  rw [Int.natAbs_mul, Int.natAbs_pow]
  have e1 : (2 : Int).natAbs = 2 := rfl
  rw [e1]
  refine Nat.le_trans (Nat.mul_le_mul_right _ hb) ?_
  rw [Nat.mul_assoc, ← Nat.pow_add, show x.2.toNat + (3 - x.2.toNat) = 3 by omega]
  decide
theorem dgValue_ev {p : List Tm} {x y : Int × Int} (hl : p.length ≤ 20) (ht : ∀ t ∈ p, tmD t) (hp : ptV 3 [x, y]) : Evt (fun k _ => spec_dgValue k p [x, y]) ((p.map (dgT (upX 3 x) (upX 3 y))).sum) := by
  obtain ⟨x0, xk, xb⟩ := hp x (by simp)
  obtain ⟨y0, yk, yb⟩ := hp y (by simp)
  have hA := up3_bd x0 xk xb
  have hB := up3_bd y0 yk yb
  obtain ⟨f, hx⟩ := va_up (M := 3) (by omega) x0 xk xb
  obtain ⟨g, hy⟩ := va_up (M := 3) (by omega) y0 yk yb
  refine Evt.eq (f := fun k q => _) ?_ (fun k q => by rw [spec_dgValue])
  have key : ∀ (r d : List Tm), d ++ r = p → Evt (fun k n => spec_dgValue_L250 k n (upX 3 x) (upX 3 y) ((d.map (dgT (upX 3 x) (upX 3 y))).sum) p (p.length : Int) d.length) (.inr ((p.map (dgT (upX 3 x) (upX 3 y))).sum, ())) := by
    intro r
    induction r with
    | nil =>
      intro d h
      refine Evt.step (fun k n => spec_dgValue_L250.eq_2 k _ _ _ _ _ _ n) ?_
      rw [List.append_nil] at h
      subst h
      exact Evt.rng0 .pure
    | cons t r ih =>
      intro d h
      have hxl := congrArg List.length h
      simp at hxl
      have htm := ht t (by rw [← h]; simp)
      have hb := dgV_bd (p := d ++ [t]) hA hB (fun u hu => ht u (by rw [← h]; simp at hu ⊢; rcases hu with hu | hu <;> simp [hu]))
      have ih := ih (d ++ [t]) (by simpa using h)
      rw [← len_next (r := r) (by rw [h]; simp only [lenB]; omega)] at ih
      obtain ⟨s1, s2, s3⟩ := dgT_steps hA hB htm
      obtain ⟨t0, t1, t2, hd, hc⟩ := htm
      have g1 : p.getD (Int.toNat (d.length : Int)) (0, 0, 0, 0) = t := by rw [← h]; exact mid_get
      have n0 : ((t.2.1.toNat : Nat) : Int) = t.2.1 := by omega
      have n1 : ((t.2.2.1.toNat : Nat) : Int) = t.2.2.1 := by omega
      have b0 := bePow_ev hA (e := t.2.1.toNat) (by omega)
      have b1 := bePow_ev hB (e := t.2.2.1.toNat) (by omega)
      have b2 := bePow_ev (b := 8) (by decide) (e := 3 - t.2.1.toNat - t.2.2.1.toNat) (by omega)
      rw [n0] at b0
      rw [n1] at b1
      have w1 : IntKind.wrap .i64 ((IntKind.wrap .i64 (3 - t.2.1)) - t.2.2.1) = ((3 - t.2.1.toNat - t.2.2.1.toNat : Nat) : Int) := by rw [w64 (n := 3 - t.2.1) (by omega) (by omega), w64 (by omega) (by omega)]; omega
      refine Evt.step (fun k n => spec_dgValue_L250.eq_2 k _ _ _ _ _ _ n) ?_
      rw [g1, w1]
      refine Evt.ctrue (by rw [← h]; exact mid_lt) (Evt.ctrue mid_ge (Evt.ctrue (by rw [← h]; exact mid_lt) (Evt.bind b0 (Evt.bind b1 (Evt.bind b2 ?_)))))
      have es : ((d ++ [t]).map (dgT (upX 3 x) (upX 3 y))).sum = (d.map (dgT (upX 3 x) (upX 3 y))).sum + dgT (upX 3 x) (upX 3 y) t := by simp
      rw [es] at ih hb
      simp only [List.length_append, List.length_cons, List.length_nil] at hb
      rw [w64 (n := t.1 * upX 3 x ^ t.2.1.toNat) (by omega) (by omega), w64 (n := t.1 * upX 3 x ^ t.2.1.toNat * upX 3 y ^ t.2.2.1.toNat) (by omega) (by omega)]
      have ed : t.1 * upX 3 x ^ t.2.1.toNat * upX 3 y ^ t.2.2.1.toNat * 8 ^ (3 - t.2.1.toNat - t.2.2.1.toNat) = dgT (upX 3 x) (upX 3 y) t := rfl
      rw [ed, w64 (n := dgT (upX 3 x) (upX 3 y) t) (by omega) (by omega), w64 (n := (d.map (dgT (upX 3 x) (upX 3 y))).sum + dgT (upX 3 x) (upX 3 y) t) (by omega) (by omega)]
      exact ih
  exact Evt.ctrue (decide_eq_true (by simp)) (Evt.bind hx (Evt.ctrue (decide_eq_true (by simp)) (Evt.bind hy (Evt.inr (Evt.diag (key p [] rfl)) .pure))))

theorem scV_dg {p : List Tm} {x y : Int × Int} (ht : ∀ t ∈ p, tmD t) (hp : ptV 3 [x, y]) : scV p [x, y] = 8 * (p.map (dgT (upX 3 x) (upX 3 y))).sum * 16777216 ∧ ∀ t ∈ p, tmS 2 t := by
  have hS : ∀ t ∈ p, tmS 2 t := by
    intro t h
    obtain ⟨t0, t1, t2, hd, hc⟩ := ht t h
    have hdg : degT t ≤ 3 := by unfold degT; omega
    refine ⟨t0, t1, by omega, by omega, ?_, fun _ => by omega, fun _ => by omega, fun h => by omega⟩
    have h1 : 2 ^ (3 * degT t) ≤ 2 ^ 9 := Nat.pow_le_pow_right (by decide) (by omega)
    exact Nat.le_trans (Nat.mul_le_mul hc h1) (by decide)
  refine ⟨?_, hS⟩
  rw [scV_va (M := 3) (by omega) (by simp) hS hp]
  have e1 : ((2 : Int) ^ (9 - 3)) ^ 4 = 16777216 := by decide
  rw [e1]
  congr 1
  clear hS
  induction p with
  | nil => rfl
  | cons t p ih =>
    rw [List.map_cons, List.sum_cons, List.map_cons, List.sum_cons, Int.mul_add, ih (fun u hu => ht u (by simp [hu]))]
    congr 1
    obtain ⟨t0, t1, t2, hd, hc⟩ := ht t (by simp)
    have e2 : 4 - degT t = (3 - t.2.1.toNat - t.2.2.1.toNat) + 1 := by unfold degT; omega
    have e3 : ((2 ^ 3 : Nat) : Int) = 8 := rfl
    simp only [vaT, vaF, exI, dgT]
    rw [e2, e3, Int.pow_succ]
    ac_rfl
theorem shr24 (w : Int) : Int.fdiv (w * 16777216) (2 ^ min (Int.toNat 24) (IntKind.bits .i64)) = w := by
  have e : (2 : Int) ^ min (Int.toNat 24) (IntKind.bits .i64) = 16777216 := by decide
  rw [e]
  exact Int.mul_fdiv_cancel w (by decide)
theorem dV_D {i : Nat} {p : List Tm} (hi : i < 2) (h : polyV p = true) (hz : ∀ t ∈ p, t.2.2.2 = 0) : (dV i p).length ≤ 20 ∧ ∀ t ∈ dV i p, tmD t := by
  refine ⟨Nat.le_trans (by unfold dV; rw [List.length_map]; exact List.length_filter_le _ _) (polyV_len h), fun t ht => ?_⟩
  obtain ⟨u, hu, rfl⟩ := List.mem_map.1 ht
  obtain ⟨hu, hf⟩ := List.mem_filter.1 hu
  have hf := of_decide_eq_true hf
  have hg := polyV_gd h u hu
  have hzu := hz u hu
  have hb := lw_bd (i := i) hg
  obtain ⟨c, x, y, z, d⟩ := hg
  have : i = 0 ∨ i = 1 := by omega
  refine ⟨?_, ?_, ?_, ?_, by omega⟩ <;> rcases this with rfl | rfl <;> simp only [lw, dn1, exI] at hf ⊢ <;> (try split) <;> omega
theorem timesWide_eq {a b : Int} (ha : a.natAbs ≤ 1099511627776) (hb : b.natAbs ≤ 1099511627776) : impl_timesWide a b = some (wN (!(decide (a < 0) == decide (b < 0))) (a.natAbs * b.natAbs)) := by
  unfold impl_timesWide
  rw [size_eq (by omega) (by omega), Option.bind_some, size_eq (by omega) (by omega), Option.bind_some, mul64_eq ha hb]
  rfl
end Go.Ev.G

namespace Go.Ev.G
open Go Go.Ev
set_option maxRecDepth 100000

theorem two_form {s : List (List Tm)} (h : twoV s = true) : ∃ p0 p1, s = [p0, p1] ∧ (polyV p0 = true ∧ ∀ t ∈ p0, t.2.2.2 = 0) ∧ (polyV p1 = true ∧ ∀ t ∈ p1, t.2.2.2 = 0) := by
  obtain ⟨hs, hl⟩ := twoV_len h
  have gen : ∀ p ∈ s, polyV p = true ∧ ∀ t ∈ p, t.2.2.2 = 0 := by
    intro p hp
    unfold sysV at hs
    rw [Bool.and_eq_true, List.all_eq_true] at hs
    have h1 := hs.1 p hp
    rw [Bool.and_eq_true, hl] at h1
    refine ⟨h1.1, fun t ht => ?_⟩
    have hg := polyV_gd h1.1 t ht
    have h2 := h1.2
    simp only [needs, big, Bool.not_eq_true', Bool.or_eq_false_iff, Bool.and_eq_false_iff, List.any_eq_false] at h2
    have h3 := h2.2.2
    rcases h3 with h3 | h3
    · simp at h3
    · have := h3 t ht
      simp [pw] at this
      have := hg.2.2.2.1
      omega
  match s, hl with
  | [p0, p1], _ => exact ⟨p0, p1, rfl, gen p0 (by simp), gen p1 (by simp)⟩

def dgS (pt : Pt) (p : List Tm) (j : Nat) : Int := ((dV j p).map (dgT (upX 3 (pt.getD 0 (0, 0))) (upX 3 (pt.getD 1 (0, 0))))).sum
def jsV (s : List (List Tm)) (pt : Pt) : Int × Bool :=
  if twoV s then (if (pt.all bnV && decide (1 ≤ (pt.length : Int) ∧ (pt.length : Int) ≤ 3)) then (if pt.length = 2 then (if (pt.getD 0 (0, 0)).2 > 3 then (0, false) else if (pt.getD 1 (0, 0)).2 > 3 then (0, false) else
    (cmpI (dgS pt (s.getD 0 []) 0 * dgS pt (s.getD 1 []) 1) (dgS pt (s.getD 0 []) 1 * dgS pt (s.getD 1 []) 0), true)) else (0, false)) else (0, false)) else (0, false)

theorem dgS_bd {x y : Int × Int} (hp : ptV 3 [x, y]) {p : List Tm} {j : Nat} (hj : j < 2) (h : polyV p = true) (hz : ∀ t ∈ p, t.2.2.2 = 0) : -68719476736 ≤ dgS [x, y] p j ∧ dgS [x, y] p j ≤ 68719476736 ∧ (dgS [x, y] p j).natAbs ≤ 21000000000 := by
  obtain ⟨x0, xk, xb⟩ := hp x (by simp)
  obtain ⟨y0, yk, yb⟩ := hp y (by simp)
  obtain ⟨hl, hd⟩ := dV_D hj h hz
  have hb := dgV_bd (A := upX 3 x) (B := upX 3 y) (p := dV j p) (up3_bd x0 xk xb) (up3_bd y0 yk yb) hd
  have h2 : (dV j p).length * 1048576000 ≤ 20 * 1048576000 := Nat.mul_le_mul_right _ hl
  have e : dgS [x, y] p j = ((dV j p).map (dgT (upX 3 x) (upX 3 y))).sum := rfl
  rw [e]
  omega

theorem js_spec_row {x y : Int × Int} (hp : ptV 3 [x, y]) {p : List Tm} (h : polyV p = true) (hz : ∀ t ∈ p, t.2.2.2 = 0) {acc : List Int} (ha : acc.length ≤ 10) (x42 : List (List Tm)) (x43 x44 : Int) :
    Evt (fun k n => spec_JacobianSign_L31334 k n [x, y] acc p 0 x42 x43 x44) (.inr ([x, y], acc ++ [dgS [x, y] p 0] ++ [dgS [x, y] p 1], x42, x43, x44, ())) := by
  have w1 : IntKind.wrap .i64 ((0 : Int) + 1) = 1 := by decide
  have w2 : IntKind.wrap .i64 ((1 : Int) + 1) = 2 := by decide
  have d0 := poDerive_ev (i := 0) (by omega) h
  have d1 := poDerive_ev (i := 1) (by omega) h
  obtain ⟨l0, t0⟩ := dV_D (i := 0) (by omega) h hz
  obtain ⟨l1, t1⟩ := dV_D (i := 1) (by omega) h hz
  have v0 := dgValue_ev l0 t0 hp
  have v1 := dgValue_ev l1 t1 hp
  refine Evt.step (fun k n => spec_JacobianSign_L31334.eq_2 k _ _ _ _ _ _ _ n) (Evt.ctrue (by decide) (Evt.bind d0 (Evt.bind v0 (Evt.ctrue (decide_eq_true (by simp; omega)) ?_))))
  rw [w1]
  refine Evt.step (fun k n => spec_JacobianSign_L31334.eq_2 k _ _ _ _ _ _ _ n) (Evt.ctrue (by decide) (Evt.bind d1 (Evt.bind v1 (Evt.ctrue (decide_eq_true (by simp; omega)) ?_))))
  rw [w2]
  exact Evt.step (fun k n => spec_JacobianSign_L31334.eq_2 k _ _ _ _ _ _ _ n) (Evt.cfalse (by decide) .pure)

theorem js_impl_row {x y : Int × Int} (hp : ptV 3 [x, y]) {p : List Tm} (h : polyV p = true) (hz : ∀ t ∈ p, t.2.2.2 = 0) (d : (Int × Int) × Int × Int) (x37 : List (List Tm)) (x38 : Int) :
    Evt (fun k n => impl_JacobianSign_L31334 k n [x, y] d 0 p x37 x38 0 0) (.inr ([x, y], ((8 * dgS [x, y] p 0, 8 * dgS [x, y] p 1), d.2), x37, x38, 0, ())) ∧
    Evt (fun k n => impl_JacobianSign_L31334 k n [x, y] d 1 p x37 x38 1 0) (.inr ([x, y], (d.1, (8 * dgS [x, y] p 0, 8 * dgS [x, y] p 1)), x37, x38, 1, ())) := by
  have w1 : IntKind.wrap .i64 ((0 : Int) + 1) = 1 := by decide
  have w2 : IntKind.wrap .i64 ((1 : Int) + 1) = 2 := by decide
  have d0 := derive_ev (i := 0) (by omega) h
  have d1 := derive_ev (i := 1) (by omega) h
  obtain ⟨l0, t0⟩ := dV_D (i := 0) (by omega) h hz
  obtain ⟨l1, t1⟩ := dV_D (i := 1) (by omega) h hz
  obtain ⟨s0, q0⟩ := scV_dg t0 hp
  obtain ⟨s1, q1⟩ := scV_dg t1 hp
  have hS := ptV_S (M := 3) (by omega) hp
  have v0 := scaledAt_ev (pt := [x, y]) l0 q0 hS
  have v1 := scaledAt_ev (pt := [x, y]) l1 q1 hS
  rw [s0] at v0
  rw [s1] at v1
  constructor
  · refine Evt.step (fun k n => impl_JacobianSign_L31334.eq_2 k _ _ _ _ _ _ _ _ n) (Evt.ctrue (by decide) (Evt.bind d0 (Evt.bind v0 (Evt.ctrue rfl (Evt.ctrue rfl ?_)))))
    rw [w1, shr24]
    refine Evt.step (fun k n => impl_JacobianSign_L31334.eq_2 k _ _ _ _ _ _ _ _ n) (Evt.ctrue (by decide) (Evt.bind d1 (Evt.bind v1 (Evt.ctrue rfl (Evt.cfalse rfl (Evt.ctrue rfl ?_))))))
    rw [w2, shr24]
    exact Evt.step (fun k n => impl_JacobianSign_L31334.eq_2 k _ _ _ _ _ _ _ _ n) (Evt.cfalse (by decide) .pure)
  · refine Evt.step (fun k n => impl_JacobianSign_L31334.eq_2 k _ _ _ _ _ _ _ _ n) (Evt.ctrue (by decide) (Evt.bind d0 (Evt.bind v0 (Evt.cfalse rfl (Evt.ctrue rfl (Evt.ctrue rfl ?_))))))
    rw [w1, shr24]
    refine Evt.step (fun k n => impl_JacobianSign_L31334.eq_2 k _ _ _ _ _ _ _ _ n) (Evt.ctrue (by decide) (Evt.bind d1 (Evt.bind v1 (Evt.cfalse rfl (Evt.ctrue rfl (Evt.cfalse rfl (Evt.ctrue rfl ?_)))))))
    rw [w2, shr24]
    exact Evt.step (fun k n => impl_JacobianSign_L31334.eq_2 k _ _ _ _ _ _ _ _ n) (Evt.cfalse (by decide) .pure)

theorem bn_ptV {x y : Int × Int} (hx : bnV x = true) (hy : bnV y = true) (kx : ¬ x.2 > 3) (ky : ¬ y.2 > 3) : ptV 3 [x, y] := by
  have one : ∀ z : Int × Int, bnV z = true → ¬ z.2 > 3 → 0 ≤ z.2 ∧ z.2 ≤ (3 : Nat) ∧ z.1.natAbs ≤ 8 * 2 ^ z.2.toNat := by
    intro z hz kz
    unfold bnV at hz
    simp only [Bool.and_eq_true, decide_eq_true_eq] at hz
    obtain ⟨hg, _, hb⟩ := hz
    have e : ((8 * 2 ^ z.2.toNat : Nat) : Int) = 8 * 2 ^ z.2.toNat := by simp
    have e2 : (-8 : Int) * 2 ^ z.2.toNat = -(8 * 2 ^ z.2.toNat) := by rw [Int.neg_mul]
    refine ⟨hg.1, by omega, by omega⟩
  intro z hz
  simp only [List.mem_cons, List.not_mem_nil, or_false] at hz
  rcases hz with rfl | rfl
  · exact one _ hx kx
  · exact one _ hy ky

theorem spec_js_ev {s : List (List Tm)} {pt : Pt} (hb : s.length < lenB) (hm : ∀ r ∈ s, r.length < lenB) (hx : pt.length < lenB) : Evt (fun k _ => spec_JacobianSign k s pt) (jsV s pt) := by
  refine Evt.eq (f := fun k q => _) ?_ (fun k q => by rw [spec_JacobianSign])
  refine Evt.bind (poSystem_ev hb hm) ?_
  unfold jsV
  cases hs : sysV s with
  | false =>
    have : twoV s = false := by unfold twoV; rw [hs]; rfl
    rw [this]
    exact Evt.ctrue rfl .pure
  | true =>
  refine Evt.cfalse rfl ?_
  by_cases hl : (s.length : Int) = 2
  · have ht : twoV s = true := by unfold twoV; rw [hs, Bool.true_and]; exact beq_iff_eq.2 hl
    rw [if_pos ht]
    refine Evt.cfalse (by simpa using hl) (Evt.bind (vaPoint_ev hx) ?_)
    cases hp : (pt.all bnV && decide (1 ≤ (pt.length : Int) ∧ (pt.length : Int) ≤ 3)) with
    | false => exact Evt.ctrue rfl .pure
    | true =>
    refine Evt.cfalse rfl ?_
    rw [if_pos rfl]
    by_cases h2 : pt.length = 2
    · rw [if_pos h2]
      refine Evt.cfalse (by rw [h2]; rfl) (Evt.ctrue (decide_eq_true (by omega)) ?_)
      by_cases k0 : (pt.getD 0 (0, 0)).2 > 3
      · rw [if_pos k0]
        exact Evt.ctrue (decide_eq_true k0) .pure
      · rw [if_neg k0]
        refine Evt.cfalse (decide_eq_false k0) (Evt.ctrue (decide_eq_true (by omega)) ?_)
        by_cases k1 : (pt.getD 1 (0, 0)).2 > 3
        · rw [if_pos k1]
          exact Evt.ctrue (decide_eq_true k1) .pure
        · rw [if_neg k1]
          refine Evt.cfalse (decide_eq_false k1) ?_
          obtain ⟨p0, p1, rfl, ⟨g0, z0⟩, g1, z1⟩ := two_form ht
          match pt, h2, hp, k0, k1 with
          | [x, y], _, hp, k0, k1 =>
            simp only [List.all_cons, List.all_nil, Bool.and_true, Bool.and_eq_true] at hp
            have hpt := bn_ptV hp.1.1 hp.1.2 k0 k1
            have w1 : IntKind.wrap .i64 ((0 : Int) + 1) = 1 := by decide
            have w2 : IntKind.wrap .i64 ((1 : Int) + 1) = 2 := by decide
            have l : Evt (fun k n => spec_JacobianSign_L122 k n [x, y] [] [p0, p1] (([p0, p1] : List (List Tm)).length : Int) 0) (.inr ([dgS [x, y] p0 0, dgS [x, y] p0 1, dgS [x, y] p1 0, dgS [x, y] p1 1], ())) := by
              have c2 : (([p0, p1] : List (List Tm)).length : Int) = 2 := rfl
              rw [c2]
              have r0 := js_spec_row hpt g0 z0 (acc := []) (by simp) [p0, p1] 2 0
              have r1 := js_spec_row hpt g1 z1 (acc := [] ++ [dgS [x, y] p0 0] ++ [dgS [x, y] p0 1]) (by simp) [p0, p1] 2 1
              refine Evt.step (fun k n => spec_JacobianSign_L122.eq_2 k _ _ _ _ _ n) (Evt.ctrue (by decide) (Evt.ctrue (by decide) (Evt.ctrue (decide_eq_true (by rw [c2]; decide)) (Evt.inr (Evt.diag r0) ?_))))
              dsimp only
              rw [w1]
              refine Evt.step (fun k n => spec_JacobianSign_L122.eq_2 k _ _ _ _ _ n) (Evt.ctrue (by decide) (Evt.ctrue (by decide) (Evt.ctrue (decide_eq_true (by rw [c2]; decide)) (Evt.inr (Evt.diag r1) ?_))))
              dsimp only
              rw [w2]
              exact Evt.step (fun k n => spec_JacobianSign_L122.eq_2 k _ _ _ _ _ n) (Evt.cfalse (by decide) .pure)
            have b00 := dgS_bd hpt (j := 0) (by omega) g0 z0
            have b01 := dgS_bd hpt (j := 1) (by omega) g0 z0
            have b10 := dgS_bd hpt (j := 0) (by omega) g1 z1
            have b11 := dgS_bd hpt (j := 1) (by omega) g1 z1
            obtain ⟨r, hr1, hr2⟩ := dgDiff_eq (a := dgS [x, y] p0 0) (b := dgS [x, y] p1 1) (c := dgS [x, y] p0 1) (d := dgS [x, y] p1 0) ⟨b00.1, b00.2.1⟩ ⟨b11.1, b11.2.1⟩ ⟨b01.1, b01.2.1⟩ ⟨b10.1, b10.2.1⟩
            exact Evt.inr (Evt.diag l) (Evt.ctrue (decide_eq_true (by simp)) (Evt.ctrue (decide_eq_true (by simp)) (Evt.ctrue (decide_eq_true (by simp)) (Evt.ctrue (decide_eq_true (by simp)) (Evt.bind (.const hr1) (Evt.bind (.const hr2) .pure))))))
    · rw [if_neg h2]
      exact Evt.ctrue (by rw [bne_iff_ne]; omega) .pure
  · have ht : twoV s = false := by unfold twoV; rw [hs, Bool.true_and]; exact beq_eq_false_iff_ne.2 hl
    rw [ht]
    exact Evt.ctrue (by rw [bne_iff_ne]; exact hl) .pure

theorem cmp_eight (a b c d : Int) : cmpI (8 * a * (8 * b)) (8 * c * (8 * d)) = cmpI (a * b) (c * d) := by
  have e : ∀ x y : Int, 8 * x * (8 * y) = 64 * (x * y) := by
    intro x y
    have : (64 : Int) = 8 * 8 := rfl
    rw [this]
    ac_rfl
  rw [e, e]
  generalize a * b = u
  generalize c * d = v
  unfold cmpI
  split <;> split <;> (try split) <;> (try split) <;> omega

theorem impl_js_ev {s : List (List Tm)} {pt : Pt} (hb : s.length < lenB) (hm : ∀ r ∈ s, r.length < lenB) (hx : pt.length < lenB) : Evt (fun k _ => impl_JacobianSign k s pt) (jsV s pt) := by
  refine Evt.eq (f := fun k q => _) ?_ (fun k q => by rw [impl_JacobianSign])
  refine Evt.bind (isTwo_ev hb hm) ?_
  unfold jsV
  cases ht : twoV s with
  | false => exact Evt.ctrue rfl .pure
  | true =>
  rw [if_pos rfl]
  refine Evt.cfalse rfl (Evt.bind (isBoxPoint_ev hx) ?_)
  cases hp : (pt.all bnV && decide (1 ≤ (pt.length : Int) ∧ (pt.length : Int) ≤ 3)) with
  | false => exact Evt.ctrue rfl .pure
  | true =>
  refine Evt.cfalse rfl ?_
  rw [if_pos rfl]
  by_cases h2 : pt.length = 2
  · rw [if_pos h2]
    refine Evt.cfalse (by rw [h2]; rfl) (Evt.ctrue (decide_eq_true (by omega)) ?_)
    by_cases k0 : (pt.getD 0 (0, 0)).2 > 3
    · rw [if_pos k0]
      exact Evt.ctrue (decide_eq_true k0) .pure
    · rw [if_neg k0]
      refine Evt.cfalse (decide_eq_false k0) (Evt.ctrue (decide_eq_true (by omega)) ?_)
      by_cases k1 : (pt.getD 1 (0, 0)).2 > 3
      · rw [if_pos k1]
        exact Evt.ctrue (decide_eq_true k1) .pure
      · rw [if_neg k1]
        refine Evt.cfalse (decide_eq_false k1) ?_
        obtain ⟨p0, p1, rfl, ⟨g0, z0⟩, g1, z1⟩ := two_form ht
        match pt, h2, hp, k0, k1 with
        | [x, y], _, hp, k0, k1 =>
          simp only [List.all_cons, List.all_nil, Bool.and_true, Bool.and_eq_true] at hp
          have hpt := bn_ptV hp.1.1 hp.1.2 k0 k1
          have w1 : IntKind.wrap .i64 ((0 : Int) + 1) = 1 := by decide
          have w2 : IntKind.wrap .i64 ((1 : Int) + 1) = 2 := by decide
          have l : Evt (fun k n => impl_JacobianSign_L122 k n [x, y] ((0, 0), 0, 0) [p0, p1] (([p0, p1] : List (List Tm)).length : Int) 0) (.inr (((8 * dgS [x, y] p0 0, 8 * dgS [x, y] p0 1), (8 * dgS [x, y] p1 0, 8 * dgS [x, y] p1 1)), ())) := by
            have c2 : (([p0, p1] : List (List Tm)).length : Int) = 2 := rfl
            rw [c2]
            have r0 := (js_impl_row hpt g0 z0 ((0, 0), 0, 0) [p0, p1] 2).1
            have r1 := (js_impl_row hpt g1 z1 ((8 * dgS [x, y] p0 0, 8 * dgS [x, y] p0 1), 0, 0) [p0, p1] 2).2
            refine Evt.step (fun k n => impl_JacobianSign_L122.eq_2 k _ _ _ _ _ n) (Evt.ctrue (by decide) (Evt.ctrue (by decide) (Evt.ctrue (decide_eq_true (by rw [c2]; decide)) (Evt.inr (Evt.diag r0) ?_))))
            dsimp only
            rw [w1]
            refine Evt.step (fun k n => impl_JacobianSign_L122.eq_2 k _ _ _ _ _ n) (Evt.ctrue (by decide) (Evt.ctrue (by decide) (Evt.ctrue (decide_eq_true (by rw [c2]; decide)) (Evt.inr (Evt.diag r1) ?_))))
            dsimp only
            rw [w2]
            exact Evt.step (fun k n => impl_JacobianSign_L122.eq_2 k _ _ _ _ _ n) (Evt.cfalse (by decide) .pure)
          have b00 := dgS_bd hpt (j := 0) (by omega) g0 z0
          have b01 := dgS_bd hpt (j := 1) (by omega) g0 z0
          have b10 := dgS_bd hpt (j := 0) (by omega) g1 z1
          have b11 := dgS_bd hpt (j := 1) (by omega) g1 z1
          refine Evt.inr (Evt.diag l) ?_
          dsimp only
          refine Evt.bind (.const (timesWide_eq (by omega) (by omega))) (Evt.bind (.const (timesWide_eq (by omega) (by omega))) ?_)
          have hc := wV_cmp (!(decide (8 * dgS [x, y] p0 0 < 0) == decide (8 * dgS [x, y] p1 1 < 0))) (!(decide (8 * dgS [x, y] p0 1 < 0) == decide (8 * dgS [x, y] p1 0 < 0))) ((8 * dgS [x, y] p0 0).natAbs * (8 * dgS [x, y] p1 1).natAbs) ((8 * dgS [x, y] p0 1).natAbs * (8 * dgS [x, y] p1 0).natAbs)
          rw [wV_mul, wV_mul, cmp_eight] at hc
          exact Evt.bind hc .pure
  · rw [if_neg h2]
    exact Evt.ctrue (by rw [bne_iff_ne]; omega) .pure

theorem jacobianSign_law (a : List (List Tm)) (p : Pt) (ha : a.length ≤ maxLen) (hm : ∀ x ∈ a, x.length ≤ maxLen) (hp : p.length ≤ maxLen) : ∃ k, laws_FnExactJacobianSign k a p = some true := by
  refine Evt.get (Evt.eq (f := fun k q => _) ?_ (fun k q => by rw [laws_FnExactJacobianSign]))
  refine Evt.bind (szTermSS_ev (a := 1000000) ha hm (by omega)) ?_
  by_cases hz : a.length + (a.map List.length).sum ≤ 1000000
  · rw [if_pos hz]
    have hs : Sized a := hz
    refine Evt.cfalse (by simp <;> omega) (Evt.bind (.const (szDyadicS_ev hp (by omega))) ?_)
    by_cases hy : p.length ≤ 1000000 - (a.length + (a.map List.length).sum)
    · rw [if_pos hy]
      refine Evt.cfalse (by simp <;> omega) ?_
      have p1 : p.length ≤ 1000000 := by omega
      have hr : ∀ r ∈ a, r.length < lenB := fun r hr => by have := hs.row r hr; simp only [lenB]; omega
      have hl := hs.len
      have spec := spec_js_ev (s := a) (pt := p) (by simp only [lenB]; omega) hr (by simp only [lenB]; omega)
      have impl := impl_js_ev (s := a) (pt := p) (by simp only [lenB]; omega) hr (by simp only [lenB]; omega)
      refine Evt.bind (toTermSS_ev hs.len hs.row) (Evt.bind (toDyadicS_ev p1) ?_)
      simp only [toV_rows, toV_fst]
      refine Evt.bind spec (Evt.bind (toTermSS_ev hs.len hs.row) (Evt.bind (toDyadicS_ev p1) ?_))
      simp only [toV_rows, toV_fst]
      refine Evt.bind impl (Evt.cfalse (by simp) (Evt.cfalse (by simp) (Evt.bind (toTermSS_ev hs.len hs.row) (Evt.bind (intactT_ev hs) (Evt.cfalse rfl (Evt.bind (toDyadicS_ev p1) (Evt.bind (intactDyadicS_ev (room_toV p1)) (Evt.cfalse rfl (Evt.bind (toTermSS_ev hs.len hs.row) (Evt.bind (toDyadicS_ev p1) ?_))))))))))
      simp only [toV_rows, toV_fst]
      exact Evt.bind impl (Evt.cfalse (by simp) (Evt.cfalse (by simp) .pure))
    · rw [if_neg hy]
      exact Evt.ctrue rfl .pure
  · rw [if_neg hz]
    exact Evt.ctrue rfl .pure
theorem jacobianSign_row (a : List (List Tm)) (p : Pt) (h : WfT (.sl (.sl tTerm)) a) (hp : WfT (.sl tDyadic) p) : ∃ k, laws_FnExactJacobianSign k a p = some true := jacobianSign_law a p h.1 (fun x hx => (h.2 x hx).1) hp.1
end Go.Ev.G

