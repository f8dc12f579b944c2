/- A part of a verified evaluator of the model's code: what it evaluates is what a call returns; no condition beyond the theorems' own hypotheses. -/
import Derived.Test.YtdlpejdadikggaaEv15
set_option linter.unusedVariables false
namespace Go.Ev
open Go

section
variable {X : Ctx} {σ σ' : St} {ι : Nat → Home} {a : Act} {w : World} {α : Type} {o : Oper} {nid : Nat}

theorem rdArgs_run : ∀ {ps : List BTy} {σ : St} {avs : List AV} {vs : List Value} {G : List Nat} {k : PT ps → List Nat → List Nat → List Nat → Pg α} {r : α × St}, Rel X σ ι a w → Free X σ ι w G → (rdArgs ps avs k).run σ = some r → F2 (RAV ι) avs vs →
    ∃ x u e i U E O σ1, ArgsR w ps x vs U E O ∧ UOk σ ι u U ∧ Outs σ ι e E ∧ OutsL σ ι i O ∧ Less σ σ1 ∧ Rel X σ1 ι a w ∧ Free X σ1 ι w (G ++ E) ∧ (∀ id, id ∉ e → σ1.H id = σ.H id) ∧ Align ι ps vs i ∧ (k x u e i).run σ1 = some r
  | [], σ, [], [], G, k, r, hR, hF, h, _ => ⟨(), [], [], [], [], [], [], σ, ⟨rfl, rfl, rfl, rfl⟩, .nil, .nil, .nil, .refl _, hR, by simpa using hF, (fun _ _ => rfl), rfl, h⟩
  | [], σ, _ :: _, _, G, k, r, hR, hF, h, _ => by simp only [rdArgs] at h; cases h
  | [], σ, [], _ :: _, G, k, r, hR, hF, h, hv => hv.elim
  | b :: ps, σ, [], _, G, k, r, hR, hF, h, _ => by simp only [rdArgs] at h; cases h
  | b :: ps, σ, _ :: _, [], G, k, r, hR, hF, h, hv => hv.elim
  | b :: ps, σ, av :: avs, v :: vs, G, k, r, hR, hF, h, hv => by
    simp only [rdArgs] at h
    obtain ⟨x, u, e, i, U, E, O, σ1, h1, h2, h3, h4, h5, h6, h7, h8, h9, h⟩ := rdArg_run hR hF h hv.1
    obtain ⟨y, u', e', i', U', E', O', σ2, g1, g2, g3, g4, g5, g6, g7, g8, g9, h⟩ := rdArgs_run h6 h7 h hv.2
    refine ⟨(x, y), u ++ u', e ++ e', i ++ i', U ++ U', E ++ E', O ++ O', σ2, ⟨v, vs, U, U', E, E', O, O', rfl, rfl, rfl, rfl, h1, g1⟩, h2.append (h5.uok g2), h3.append (h5.outs g3), h4.append (h5.outsL g4), h5.trans g5, g6, by simpa using g7, ?_, ?_, h⟩
    · intro id hid
      rw [g8 id (fun hm => hid (List.mem_append.2 (.inr hm))), h8 id (fun hm => hid (List.mem_append.2 (.inl hm)))]
    · exact h9 ps vs i' g9
end
end Go.Ev
