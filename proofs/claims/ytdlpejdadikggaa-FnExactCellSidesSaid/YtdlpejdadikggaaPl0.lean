/- Lemmas over plain functions with a bound on their rounds: enough rounds give the answer; no condition beyond the theorems' own hypotheses. -/
import Derived.Test.YtdlpejdadikggaaEv29
import Derived.IntWalk
import Derived.Laws.Bits64
set_option linter.unusedVariables false
namespace Go.Ev
open Go

/-! Plain laws: what the plain functions tell, with rounds enough. -/
def Evt {α : Type} (f : Nat → Nat → Option α) (r : α) : Prop := ∃ k0, ∀ k n, k0 ≤ k → k0 ≤ n → f k n = some r

section
variable {α β γ δ : Type}

theorem Evt.const {o : Option α} {r : α} (h : o = some r) : Evt (fun _ _ => o) r := ⟨0, fun _ _ _ _ => h⟩
theorem Evt.pure {r : α} : Evt (fun _ _ => some r) r := ⟨0, fun _ _ _ _ => rfl⟩
theorem Evt.bind {f : Nat → Nat → Option α} {g : Nat → Nat → α → Option β} {a : α} {r : β} (h : Evt f a) (h' : Evt (fun k n => g k n a) r) : Evt (fun k n => Option.bind (f k n) fun x => g k n x) r := by
  obtain ⟨k1, h1⟩ := h
  obtain ⟨k2, h2⟩ := h'
  refine ⟨max k1 k2, fun k n hk hn => ?_⟩
  exact (congrArg (fun o => Option.bind o fun x => g k n x) (h1 k n (by omega) (by omega))).trans (h2 k n (by omega) (by omega))
theorem Evt.inr {R P A : Type} {f : Nat → Nat → Option (R ⊕ P)} {G : Nat → Nat → R → Option A} {K : Nat → Nat → P → Option A} {y : P} {r : A} (h : Evt f (.inr y)) (h' : Evt (fun k n => K k n y) r) : Evt (fun k n => both (f k n) (G k n) (K k n)) r := by
  obtain ⟨k1, h1⟩ := h
  obtain ⟨k2, h2⟩ := h'
  refine ⟨max k1 k2, fun k n hk hn => ?_⟩
  exact (congrArg (fun o => both o (G k n) (K k n)) (h1 k n (by omega) (by omega))).trans (h2 k n (by omega) (by omega))
theorem Evt.inl {R P A : Type} {f : Nat → Nat → Option (R ⊕ P)} {G : Nat → Nat → R → Option A} {K : Nat → Nat → P → Option A} {q : R} {r : A} (h : Evt f (.inl q)) (h' : Evt (fun k n => G k n q) r) : Evt (fun k n => both (f k n) (G k n) (K k n)) r := by
  obtain ⟨k1, h1⟩ := h
  obtain ⟨k2, h2⟩ := h'
  refine ⟨max k1 k2, fun k n hk hn => ?_⟩
  exact (congrArg (fun o => both o (G k n) (K k n)) (h1 k n (by omega) (by omega))).trans (h2 k n (by omega) (by omega))
theorem Evt.ctrue {c : Bool} {f g : Nat → Nat → Option α} {r : α} (hc : c = true) (h : Evt f r) : Evt (fun k n => bif c then f k n else g k n) r := by subst hc; exact h
theorem Evt.cfalse {c : Bool} {f g : Nat → Nat → Option α} {r : α} (hc : c = false) (h : Evt g r) : Evt (fun k n => bif c then f k n else g k n) r := by subst hc; exact h
theorem Evt.ite {c : Bool} {f g : Nat → Nat → Option α} {r : α} (h : c = true → Evt f r) (h' : c = false → Evt g r) : Evt (fun k n => bif c then f k n else g k n) r := by
  cases c with
  | true => exact h rfl
  | false => exact h' rfl
/-- a loop, begun with the rounds there are -/
theorem Evt.diag {f : Nat → Nat → Option α} {r : α} (h : Evt f r) : Evt (fun k _ => f k k) r := by
  obtain ⟨k1, h1⟩ := h
  exact ⟨k1, fun k n hk _ => h1 k k hk hk⟩
theorem Evt.step {L F : Nat → Nat → Option α} {r : α} (hL : ∀ k n, L k (n + 1) = F k n) (h : Evt F r) : Evt L r := by
  obtain ⟨k1, h1⟩ := h
  refine ⟨k1 + 1, fun k n hk hn => ?_⟩
  obtain ⟨m, rfl⟩ : ∃ m, n = m + 1 := ⟨n - 1, by omega⟩
  rw [hL]
  exact h1 k m (by omega) (by omega)
theorem Evt.eq {f g : Nat → Nat → Option α} {r : α} (h : Evt f r) (e : ∀ k n, g k n = f k n) : Evt g r := by
  obtain ⟨k1, h1⟩ := h
  exact ⟨k1, fun k n hk hn => by rw [e]; exact h1 k n hk hn⟩
theorem Evt.get {f : Nat → Option α} {r : α} (h : Evt (fun k _ => f k) r) : ∃ k, f k = some r := by
  obtain ⟨k1, h1⟩ := h
  exact ⟨k1, h1 k1 k1 (Nat.le_refl _) (Nat.le_refl _)⟩
theorem Evt.uniq {f : Nat → Nat → Option α} {r r' : α} (h : Evt f r) (h' : Evt f r') : r = r' := by
  obtain ⟨k1, h1⟩ := h
  obtain ⟨k2, h2⟩ := h'
  have a := h1 (max k1 k2) (max k1 k2) (by omega) (by omega)
  have b := h2 (max k1 k2) (max k1 k2) (by omega) (by omega)
  rw [a] at b
  exact Option.some.inj b
end

/-! Numbers. -/
def lenB : Nat := 4611686018427387904
theorem w64 {n : Int} (h0 : -9223372036854775808 ≤ n) (h1 : n ≤ 9223372036854775807) : IntKind.wrap .i64 n = n := by rw [IntKind.wrap_i64]; omega
theorem w64_next {m : Nat} (h : m < lenB) : IntKind.wrap .i64 ((m : Int) + 1) = ((m + 1 : Nat) : Int) := by
  simp only [lenB] at h
  rw [w64] <;> omega
theorem wu64 {n : Int} (h0 : 0 ≤ n) (h1 : n ≤ 18446744073709551615) : IntKind.wrap .u64 n = n := by
  rw [IntKind.wrap_u64]; omega

/-! A list with a place in it. -/
section
variable {α : Type}
theorem mid_lt {d r : List α} {e : α} : decide ((d.length : Int) < ((d ++ e :: r).length : Int)) = true := by simp; omega
theorem mid_ge {m : Nat} : decide ((0 : Int) ≤ (m : Int)) = true := by simp
theorem mid_get {d r : List α} {e z : α} : (d ++ e :: r).getD (Int.toNat (d.length : Int)) z = e := by simp
theorem mid_set {d r : List α} {e v : α} : (d ++ e :: r).set (Int.toNat (d.length : Int)) v = d ++ v :: r := by simp
theorem mid_end {d : List α} : decide ((d.length : Int) < (d.length : Int)) = false := by simp
end
end Go.Ev
