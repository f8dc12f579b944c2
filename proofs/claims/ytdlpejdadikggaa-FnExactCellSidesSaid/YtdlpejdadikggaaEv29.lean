/- A part of a verified evaluator of the model's code: what it evaluates is what a call returns; no condition beyond the theorems' own hypotheses. -/
import Derived.Test.YtdlpejdadikggaaEv28
import Derived.Laws.Externs
set_option linter.unusedVariables false
namespace Go.Ev
open Go

/-! The model's own entries: sums and differences of 64 bits, with a carry. -/
def math_bits_Add64 (x y c : Int) : Option (Int × Int) :=
  bif c == 0 || c == 1 then some ((((x.toNat + y.toNat + c.toNat) % 18446744073709551616 : Nat) : Int), (((x.toNat + y.toNat + c.toNat) / 18446744073709551616 : Nat) : Int)) else none
def math_bits_Sub64 (x y b : Int) : Option (Int × Int) :=
  bif b == 0 || b == 1 then some ((((x.toNat + 18446744073709551616 - y.toNat - b.toNat) % 18446744073709551616 : Nat) : Int), ((if x.toNat < y.toNat + b.toNat then 1 else 0 : Nat) : Int)) else none

def sub64E : Array Value → Sem Value := fun args => do
  let (x, y, b) ← Extern.MathBitsCarry.three "Sub64" args
  pure (Extern.MathBitsCarry.pair ((x + Extern.MathBitsCarry.m64 - y - b) % Extern.MathBitsCarry.m64) (if x < y + b then 1 else 0))

theorem add64_run {P : Program} (x y c : Int) (h : c = 0 ∨ c = 1) (w : World) : (add64Entry #[.int .u64 x, .int .u64 y, .int .u64 c]).run P w =
    .ok (.tuple #[.int .u64 (((x.toNat + y.toNat + c.toNat) % 18446744073709551616 : Nat) : Int), .int .u64 (((x.toNat + y.toNat + c.toNat) / 18446744073709551616 : Nat) : Int)]) w := by
  rcases h with rfl | rfl <;> rfl

theorem sub64_run {P : Program} (x y c : Int) (h : c = 0 ∨ c = 1) (w : World) : (sub64E #[.int .u64 x, .int .u64 y, .int .u64 c]).run P w =
    .ok (.tuple #[.int .u64 (((x.toNat + 18446744073709551616 - y.toNat - c.toNat) % 18446744073709551616 : Nat) : Int), .int .u64 ((if x.toNat < y.toNat + c.toNat then 1 else 0 : Nat) : Int)]) w := by
  rcases h with rfl | rfl <;> rfl

def V64 (f : Int → Int → Int → Option (Int × Int)) : Variant := ⟨[.val (.int .u64) false, .val (.int .u64) false, .val (.int .u64) false], [(.int .u64, false), (.int .u64, false)], fun x => f x.1 x.2.1 x.2.2.1⟩

theorem contract64 {P : Program} {g : FuncId} {fn : Func} {e : Array Value → Sem Value} {f : Int → Int → Int → Option (Int × Int)} (hf : P.funcs[g]? = some fn) (hname : (fn.name == "runtime.NumGoroutine") = false)
    (hb : fn.body.isNone = true) (hn : Extern.findNext fn = none) (he : Extern.find fn = some e)
    (hr : ∀ x y c r, f x y c = some r → ∀ w, (e #[.int .u64 x, .int .u64 y, .int .u64 c]).run P w = .ok (.tuple #[.int .u64 r.1, .int .u64 r.2]) w) : Contract P g (V64 f) := by
  intro w x vs U E O r hA _ _ _ hx
  obtain ⟨x, y, c, u⟩ := x
  obtain ⟨v1, us, U1, U2, E1, E2, O1, O2, rfl, rfl, rfl, rfl, ⟨rfl, rfl, h1, _⟩, hA⟩ := hA
  obtain ⟨v2, us, U3, U4, E3, E4, O3, O4, rfl, rfl, rfl, rfl, ⟨rfl, rfl, h2, _⟩, hA⟩ := hA
  obtain ⟨v3, us, U5, U6, E5, E6, O5, O6, rfl, rfl, rfl, rfl, ⟨rfl, rfl, h3, _⟩, hA⟩ := hA
  obtain ⟨rfl, rfl, rfl, rfl⟩ := hA
  simp only [cellsOf] at h1 h2 h3
  have e1 : v1 = .int .u64 x := by have := h1.1; simpa using this
  have e2 : v2 = .int .u64 y := by have := h2.1; simpa using this
  have e3 : v3 = .int .u64 c := by have := h3.1; simpa using this
  subst e1 e2 e3
  right
  refine ⟨.tuple #[.int .u64 r.1, .int .u64 r.2], w, ?_, [.int .u64 r.1, .int .u64 r.2], [], rfl, ?_, ?_, .nil, by simp, fun _ _ _ => rfl, WLe.refl w⟩
  · rw [run_callFunc_extern hf hname hb hn he, hr x y c r hx w]
    rfl
  · exact ⟨_, _, [], [], rfl, rfl, ⟨⟨rfl, rfl⟩, fun h => by cases h⟩, ⟨_, _, [], [], rfl, rfl, ⟨⟨rfl, rfl⟩, fun h => by cases h⟩, rfl, rfl⟩⟩
  · exact ⟨_, _, rfl, _, _, rfl, _, _, rfl, rfl⟩

theorem contractAdd64 {P : Program} {g : FuncId} {fn : Func} (hf : P.funcs[g]? = some fn) (hname : (fn.name == "runtime.NumGoroutine") = false)
    (hb : fn.body.isNone = true) (hn : Extern.findNext fn = none) (he : Extern.find fn = some add64Entry) : Contract P g (V64 math_bits_Add64) :=
  contract64 hf hname hb hn he (by
    intro x y c r h w
    unfold math_bits_Add64 at h
    cases hc : (c == 0 || c == 1) with
    | false => rw [hc] at h; cases h
    | true =>
      rw [hc] at h
      cases h
      exact add64_run x y c (by simpa using hc) w)

theorem contractSub64 {P : Program} {g : FuncId} {fn : Func} (hf : P.funcs[g]? = some fn) (hname : (fn.name == "runtime.NumGoroutine") = false)
    (hb : fn.body.isNone = true) (hn : Extern.findNext fn = none) (he : Extern.find fn = some sub64E) : Contract P g (V64 math_bits_Sub64) :=
  contract64 hf hname hb hn he (by
    intro x y c r h w
    unfold math_bits_Sub64 at h
    cases hc : (c == 0 || c == 1) with
    | false => rw [hc] at h; cases h
    | true =>
      rw [hc] at h
      cases h
      exact sub64_run x y c (by simpa using hc) w)
end Go.Ev
