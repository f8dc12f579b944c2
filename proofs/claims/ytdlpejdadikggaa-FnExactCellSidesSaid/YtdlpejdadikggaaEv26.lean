/- A part of a verified evaluator of the model's code: what it evaluates is what a call returns; no condition beyond the theorems' own hypotheses. -/
import Derived.Test.YtdlpejdadikggaaEv25
set_option linter.unusedVariables false
namespace Go.Ev
open Go

/-! For printed texts. -/
def codeOf (f : Func) : Code := f.body.getD .skip

def natsBeq : List Nat → List Nat → Bool
  | [], [] => true
  | a :: l, b :: m => Nat.beq a b && natsBeq l m
  | _, _ => false

theorem natsBeq_eq : ∀ {l m : List Nat}, natsBeq l m = true → l = m
  | [], [], _ => rfl
  | a :: l, b :: m, h => by
    simp only [natsBeq, Bool.and_eq_true] at h
    rw [Nat.eq_of_beq_eq_true h.1, natsBeq_eq h.2]
  | [], _ :: _, h => by cases h
  | _ :: _, [], h => by cases h

noncomputable def gOf : List (FuncId × List FuncId × Variant) → FuncId → List FuncId → Option Variant
  | [], _, _ => none
  | q :: l, g, ids => bif Nat.beq g q.1 && natsBeq ids q.2.1 then some q.2.2 else gOf l g ids

def AllC (P : Program) : List (FuncId × List FuncId × Variant) → Prop
  | [] => True
  | q :: l => Contract P q.1 q.2.2 ∧ AllC P l

theorem gOf_ok {P : Program} : ∀ {l : List (FuncId × List FuncId × Variant)}, AllC P l → ∀ g ids v, gOf l g ids = some v → Contract P g v
  | [], _, g, ids, v, h => by cases h
  | q :: l, ha, g, ids, v, h => by
    simp only [gOf] at h
    cases hc : (Nat.beq g q.1 && natsBeq ids q.2.1) with
    | true =>
      rw [hc] at h
      simp only [cond_true, Option.some.injEq] at h
      rw [Bool.and_eq_true] at hc
      rw [Nat.eq_of_beq_eq_true hc.1, ← h]
      exact ha.1
    | false =>
      rw [hc] at h
      exact gOf_ok ha.2 g ids v h

def tyOf : List (TypeId × Ty) → TypeId → Option Ty
  | [], _ => none
  | q :: l, e => bif Nat.beq e q.1 then some q.2 else tyOf l e

def AllT (P : Program) : List (TypeId × Ty) → Prop
  | [] => True
  | q :: l => TyOk P q.1 q.2 ∧ AllT P l

theorem tyOf_ok {P : Program} : ∀ {l : List (TypeId × Ty)}, AllT P l → ∀ e t, tyOf l e = some t → TyOk P e t
  | [], _, e, t, h => by cases h
  | q :: l, ha, e, t, h => by
    simp only [tyOf] at h
    cases hc : Nat.beq e q.1 with
    | true =>
      rw [hc] at h
      simp only [cond_true, Option.some.injEq] at h
      rw [Nat.eq_of_beq_eq_true hc, ← h]
      exact ha.1
    | false =>
      rw [hc] at h
      exact tyOf_ok ha.2 e t h

/-- the loops of a code, with their places -/
def loopsOf : Code → Nat → List (Nat × Code)
  | .seq a b, p => loopsOf a (2 * p) ++ loopsOf b (2 * p + 1)
  | .cond _ x y, p => loopsOf x (2 * p) ++ loopsOf y (2 * p + 1)
  | .block _ c, p => loopsOf c (2 * p)
  | .loop c, p => (p, c) :: loopsOf c (2 * p)
  | _, _ => []

theorem AnnOk_of {R : Type} {F : Fn R} : ∀ {c : Code} {p : Nat}, (∀ q ∈ loopsOf c p, LoopOk F q.2 q.1) → AnnOk F c p
  | .seq a b, p, h => ⟨AnnOk_of fun q hq => h q (List.mem_append.2 (.inl hq)), AnnOk_of fun q hq => h q (List.mem_append.2 (.inr hq))⟩
  | .cond _ x y, p, h => ⟨AnnOk_of fun q hq => h q (List.mem_append.2 (.inl hq)), AnnOk_of fun q hq => h q (List.mem_append.2 (.inr hq))⟩
  | .block _ c, p, h => AnnOk_of (c := c) h
  | .loop c, p, h => ⟨h (p, c) (by simp [loopsOf]), AnnOk_of fun q hq => h q (by simp [loopsOf, hq])⟩
  | .skip, _, _ => trivial
  | .exit _, _, _ => trivial
  | .ret, _, _ => trivial
  | .region _ _ _, _, _ => trivial
  | .rangeFunc _ _ _ _, _, _ => trivial
  | .scope _, _, _ => trivial
  | .label _, _, _ => trivial
  | .goto _, _, _ => trivial
  | .refuse _, _, _ => trivial

def AllL {R : Type} (F : Fn R) : List (Nat × Code) → Prop
  | [] => True
  | q :: l => LoopOk F q.2 q.1 ∧ AllL F l

theorem AllL_mem {R : Type} {F : Fn R} : ∀ {l : List (Nat × Code)}, AllL F l → ∀ q ∈ l, LoopOk F q.2 q.1
  | q :: l, h, q', hq => by
    rcases List.mem_cons.1 hq with rfl | hq
    · exact h.1
    · exact AllL_mem h.2 q' hq

def findB : List (Nat × Code) → Nat → Code
  | [], _ => .skip
  | q :: l, p => bif Nat.beq q.1 p then q.2 else findB l p

/-- a loop's body, by its place -/
def loopB (c : Code) (p : Nat) : Code := findB (loopsOf c 1) p

theorem AnnOk_list {R : Type} {F : Fn R} {c : Code} (l : List (Nat × Code)) (h : loopsOf c 1 = l) (hl : AllL F l) : AnnOk F c 1 :=
  AnnOk_of fun q hq => AllL_mem hl q (h ▸ hq)

theorem LoopOk.mk {R : Type} {F : Fn R} {c : Code} {p : Nat} {pin pout : List PE} {ex nx : Nat} {Lf : Nat → PTe pin → Option (R ⊕ PTe pout)} {k : Nat} (h : F.an p = some (.loop pin pout ex nx (Lf k))) (h0 : ∀ x, Lf 0 x = none)
    (hs : ∀ n x, roundOf F c p pin pout ex nx (Lf n) x = Lf (n + 1) x) : LoopOk F c p := by
  intro pin' pout' ex' nx' L' h'
  rw [h] at h'
  cases h'
  exact ⟨Lf, k, rfl, h0, hs⟩

/-- a part that returns, or goes on -/
def both {R P A : Type} (o : Option (R ⊕ P)) (f : R → Option A) (g : P → Option A) : Option A := o.bind fun
  | .inl r => f r
  | .inr y => g y

theorem hnOf (s : String) (h : (s == "runtime.NumGoroutine") = false) : (s == "runtime.NumGoroutine") = false := h
theorem contract_none {P : Program} {g : FuncId} {v : Variant} (h : ∀ x, v.fn x = none) : Contract P g v := by
  intro w x vs U E O r _ _ _ _ hr
  rw [h] at hr
  cases hr
end Go.Ev
