/- A part of a verified evaluator of the model's code: what it evaluates is what a call returns; no condition beyond the theorems' own hypotheses. -/
import Derived.Test.YtdlpejdadikggaaEv26
import Derived.Below
set_option linter.unusedVariables false
namespace Go.Ev
open Go Go.RowKit

/-- a law's function, called: it returns true and nothing that was there has turned -/
theorem law_calls {P : Program} {g : FuncId} {v : Variant} {fn : Func} {c : Code} {w : World} {x : PT v.ps} {vs : List Value} {U : List Nat} {r : CT (v.rs.map (·.1) ++ outs v.ps)}
    (hK : Contract P g v) (hfn : P.funcs[g]? = some fn) (hb : fn.body = some c) (hn : (fn.name == "runtime.NumGoroutine") = false) (hA : ArgsR w v.ps x vs U [] []) (hlt : ∀ b ∈ U, b < w.heap.size) (hr : v.fn x = some r)
    (hc : ∀ w' us F, CompsR w' v.rs (csplit _ _ r).1 us F → us = [.bool true]) : Calls P g vs.toArray w fun e W' => e = .returned (.bool true) ∧ Below w.heap.size w W' := by
  have h := hK w x vs U [] [] r hA (by simp) (by simp) (by simpa using hlt) hr
  have he : (callFunc g vs.toArray).run P w = .ok (.enter g vs.toArray) w := by
    simp [callFunc, hfn, hb]
    simpa using hn
  rcases h with ⟨_, h⟩ | ⟨u, w', h, _⟩
  · refine h.mono fun e W' hh => ?_
    obtain ⟨us, F, rfl, h1, _, _, _, h2, h3⟩ := hh
    have := hc W' us F h1
    subst this
    exact ⟨rfl, ⟨h3.os, h3.tape, h3.out, h3.le, fun k hk => h2 k hk (by simp)⟩⟩
  · rw [he] at h
    cases h

theorem comps_true {w' : World} {us : List Value} {F : List Nat} (h : CompsR w' [(.bool, false)] (true : Bool) us F) : us = [.bool true] := by
  obtain ⟨v, us', F1, F2, rfl, rfl, ⟨h1, _⟩, h2, _⟩ := h
  simp only [cellsOf] at h1
  have := h1.1
  simp at this
  rw [this, h2]
  rfl

/-- an integer among the arguments -/
theorem argsR_int {w : World} {k : IntKind} {n : Int} {ps : List BTy} {x : PT ps} {vs : List Value} {U E : List Nat} {O : List (List Nat)} (h : ArgsR w ps x vs U E O) : ArgsR w (.val (.int k) false :: ps) (n, x) (.int k n :: vs) U E O :=
  ⟨_, _, [], U, [], E, [], O, rfl, rfl, rfl, rfl, ⟨rfl, rfl, ⟨rfl, rfl⟩, fun h => by cases h⟩, h⟩

theorem argsR_nil {w : World} : ArgsR w [] () [] [] [] [] := ⟨rfl, rfl, rfl, rfl⟩
end Go.Ev
