/- Lemmas over plain functions with a bound on their rounds: enough rounds give the answer; no condition beyond the theorems' own hypotheses. -/
import Derived.Test.YtdlpejdadikggaaPl1
set_option linter.unusedVariables false
namespace Go.Ev
open Go

section
variable {α β : Type}

/-- one round over a list -/
theorem Evt.rng {d r : List α} {e z : α} {F : Nat → Nat → α → Option β} {G : Nat → Nat → Option β} {res : β} (h : Evt (fun k n => F k n e) res) :
    Evt (fun k n => bif (decide ((d.length : Int) < ((d ++ e :: r).length : Int))) then (bif (decide (0 ≤ (d.length : Int))) then (bif (decide ((d.length : Int) < ((d ++ e :: r).length : Int))) then F k n ((d ++ e :: r).getD (Int.toNat (d.length : Int)) z) else none) else none) else G k n) res := by
  refine Evt.ctrue mid_lt (Evt.ctrue mid_ge (Evt.ctrue mid_lt ?_))
  rw [mid_get]
  exact h
theorem Evt.rng0 {d : List α} {F G : Nat → Nat → Option β} {res : β} (h : Evt G res) : Evt (fun k n => bif (decide ((d.length : Int) < (d.length : Int))) then F k n else G k n) res := Evt.cfalse mid_end h

theorem len_next {d r : List α} {e : α} (h : (d ++ e :: r).length < lenB) : IntKind.wrap .i64 ((d.length : Int) + 1) = ((d ++ [e]).length : Int) := by
  rw [w64_next (by simp at h; omega)]; simp

/-- the first place of a property -/
theorem index_all {d0 : α} {L : Nat → Nat → Int → Option (Int ⊕ Unit)} {xs : List α} {p : Nat → α → Option Bool} {P : α → Bool} (hp : ∀ x ∈ xs, Evt (fun k _ => p k x) (P x))
    (hL : ∀ k n i, L k (n + 1) i = (bif (decide (i < (xs.length : Int))) then (bif (decide (0 ≤ i)) then (bif (decide (i < (xs.length : Int))) then (Option.bind (p k (xs.getD (Int.toNat i) d0)) fun r1 => (bif r1 then some (Sum.inl i) else L k n (IntKind.wrap .i64 (i + 1)))) else none) else none) else some (.inr ())))
    (hb : xs.length < lenB) : Evt (fun k n => L k n 0) (match xs.findIdx? P with | some j => .inl (j : Int) | none => .inr ()) := by
  have key : ∀ (r d : List α), d ++ r = xs → Evt (fun k n => L k n d.length) (match r.findIdx? P with | some j => .inl ((d.length + j : Nat) : Int) | none => .inr ()) := by
    intro r
    induction r with
    | nil =>
      intro d h
      rw [List.append_nil] at h
      refine Evt.step (fun k n => hL k n _) ?_
      rw [← h]
      exact Evt.rng0 .pure
    | cons e r ih =>
      intro d h
      refine Evt.step (fun k n => hL k n _) ?_
      rw [← h]
      refine Evt.rng (F := fun k n x => (Option.bind (p k x) fun r1 => (bif r1 then some (Sum.inl (d.length : Int)) else L k n (IntKind.wrap .i64 ((d.length : Int) + 1))))) ?_
      refine Evt.bind (hp e (by rw [← h]; simp)) ?_
      rw [List.findIdx?_cons]
      cases hP : P e with
      | true => exact Evt.ctrue rfl .pure
      | false =>
        refine Evt.cfalse rfl ?_
        rw [len_next (e := e) (r := r) (by rw [h]; exact hb)]
        have := ih (d ++ [e]) (by simpa using h)
        cases hr : r.findIdx? P with
        | none => rw [hr] at this; simpa using this
        | some j =>
          rw [hr] at this
          have e2 : (d ++ [e]).length + j = d.length + (j + 1) := by simp; omega
          simp only [e2] at this
          exact this
  have := key xs [] rfl
  simpa using this

theorem findIdx?_any {P : α → Bool} (xs : List α) : (xs.findIdx? P).isSome = xs.any P := by
  induction xs with
  | nil => rfl
  | cons x xs ih =>
    rw [List.findIdx?_cons, List.any_cons]
    cases P x with
    | true => rfl
    | false => simp [ih]
end
end Go.Ev
