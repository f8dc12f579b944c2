/- The row of FnCubes is proved: whatever the input, the function returns true and what was there stays; for all inputs that the row lets in. -/
import Derived.Test.YtbkhmofhdbjpcaaGreatRows
import Derived.Test.YtbkhmofhdbjpcaaGreatKFnCubes1
import Derived.Test.YtbkhmofhdbjpcaaGreatAFnCubes3
import Derived.WalkKit
import Derived.ProofKit
import Derived.OpenShut
import Derived.ShutString
import Derived.ChangeOld
import Derived.Below
import Derived.SizedLaws
import Derived.Carry
namespace Go.Proofs.YtbkhmofhdbjpcaaGreat.fnCubes
open Go.ChangeShapes Go.WideShapes Go.ChangeAt Go.RowKit Go.Ev
set_option linter.unusedVariables false
theorem own : ownKnob Tryz.prog.godebug = none := by kernel_rfl
theorem laidOut : laidOutB Tryz.prog = true := by kernel_rfl
set_option maxRecDepth 100000 in
theorem lifted (os : Os) (started : os.Started) (H : Type) (enc : TypeId × Value → H) :
    ReturnsInHanded {} Tryz.checked os 5 .any (Rows.fnCubesSpec.pre6 enc Tryz.prog Tryz.f5 Rows.fnCubesRow.domain false) (Rows.fnCubesSpec.post enc Tryz.prog Tryz.f5 false true false false) := by
  refine returnsInHanded_of_change_sized (C := Tryz.checked) own started (by kernel_rfl) Tryz.func5
    (ChangeSpec.witness6 (enc := enc) (C := Tryz.checked) false ⟨#[], #[.slice none 0 0, .slice none 0 0], []⟩ 8 (by kernel_rfl) (by kernel_rfl) (by kernel_rfl) (by kernel_rfl)) ?_
  intro W base args ds gs before hval0 hW hcnd hsz0 _
  have hval : ∀ (j : Nat) t v, Tryz.f5.params[j]? = some t → args[j]? = some v → Value.okWide Tryz.prog W .any base t v := hval0
  have hW' := hW
  obtain ⟨p, q, hA0, hV, rfl, hfz, hnd⟩ := hW
  have hA : DataW.TrodAll enc Tryz.prog W 0 (fun _ => true) true Tryz.f5.params.toList args.toList ds p := hA0
  rw [Tryz.params5] at hA hval
  obtain ⟨v0, vs0, d0, ds0, p0, q0, hargs, rfl, rfl, h0, r0⟩ := trodAll_cons hA
  obtain ⟨v1, vs1, d1, ds1, p1, q1, rfl, rfl, rfl, h1, r1⟩ := trodAll_cons r0
  obtain ⟨rfl, rfl, rfl⟩ := trodAll_nil r1
  obtain rfl : args = #[v0, v1] := by cases args; simp_all
  obtain ⟨rfl, rfl⟩ := trodVars_none hV
  obtain ⟨x0, U0, z0, lt0, wf0⟩ := open_arg 8 (.sl (.int .u8)) false (by kernel_rfl) (by kernel_rfl) (hval 0 22 v0 rfl rfl) h0
  obtain ⟨x1, U1, z1, lt1, wf1⟩ := open_arg 8 (.sl (.int .u8)) false (by kernel_rfl) (by kernel_rfl) (hval 1 22 v1 rfl rfl) h1
  clear hA0 hval0 hsz0
  obtain ⟨k, hk⟩ := Go.Ev.G.fnCubes_row x0 x1 wf0 wf1
  refine (law_calls (v := Go.Ev.G.laws_FnCubes_V k) (x := (x0, (x1, ()))) (vs := [v0, v1]) (Go.Ev.G.laws_FnCubes_K k) Tryz.func5 (c := codeOf Tryz.f5) (by kernel_rfl) (by kernel_rfl) (argsR_val z0 (argsR_val z1 argsR_nil)) (by
      intro b hb
      simp only [List.mem_append, List.not_mem_nil, or_false] at hb
      rcases hb with hb | hb
      · exact lt0 b hb
      · exact lt1 b hb) hk (fun _ _ _ h => comps_true h)).mono fun e W' ⟨he, bel⟩ => ?_
  subst he
  exact ⟨_, rfl, _, _, _, [], _, [], hW', trodAll_mk1 (shut_bool Tryz.underlying4 _), (trodAll_cons_mk (Below.trod laidOut (by kernel_rfl) (of_decide_eq_true (by kernel_rfl)) h0 bel (trod_lt' h0)) (trodAll_cons_mk (Below.trod laidOut (by kernel_rfl) (of_decide_eq_true (by kernel_rfl)) h1 bel (trod_lt' h1)) trodAll_mk0)), rfl, bel.frame _, fun h => by cases h⟩
theorem and_t {a b : Bool} (ha : a = true) (hb : b = true) : (a && b) = true := by rw [ha, hb]; rfl
theorem and_l {a b : Bool} (h : (a && b) = true) : a = true := by cases a with | true => rfl | false => cases h
theorem and_r {a b : Bool} (h : (a && b) = true) : b = true := by cases a with | true => exact h | false => cases h
set_option maxHeartbeats 8000000 in
set_option maxRecDepth 100000 in
theorem facts : joinedFacts Tryz.pinned.checked.prog 5 Tryz.f5 Rows.fnCubesSpec Rows.fnCubesRow = true := by
  have h3 : ((Tryz.pinned.checked.prog.mayEnter && (Rows.fnCubesRow.lifted == Tryz.pinned.checked.prog.liftsFinal)) && (Tryz.pinned.checked.prog.make == some Rows.fnCubesRow.make)) = true := by as_aux_lemma => kernel_rfl
  have e1 := and_r h3
  have e2 := and_r (and_l h3)
  have e3 := and_l (and_l h3)
  clear h3
  unfold joinedFacts
  repeat' with_reducible apply and_t
  all_goals first | (with_reducible exact e1) | (with_reducible exact e2) | (with_reducible exact e3) | (clear e1 e2 e3; as_aux_lemma => kernel_rfl)
theorem over : Rows.fnCubesRow.holds Tryz.pinned (OpenSpec.ofChange Rows.fnCubesSpec) :=
  OpenClaim.holds_of_wide 5 Tryz.f5 rfl rfl rfl rfl rfl rfl rfl ⟨rfl, rfl, rfl, rfl, rfl⟩ rfl rfl rfl rfl rfl (by kernel_rfl) Tryz.func5 facts
    (of_decide_eq_true (by kernel_rfl)) (by unfold Func.isWrapper; first | (rw [if_pos (by decide +kernel)]; kernel_rfl) | (rw [if_neg (by decide +kernel)]; exact ⟨rfl, rfl⟩))
    (fun os started H enc _ => lifted os started H enc)
theorem proved : Rows.FnCubesSaid := over
#print axioms proved
end Go.Proofs.YtbkhmofhdbjpcaaGreat.fnCubes
namespace Go.Proofs.YtbkhmofhdbjpcaaGreat
/-- The row, under a short name, for the claim. -/
theorem fnCubes_holds : Rows.FnCubesSaid := fnCubes.proved
end Go.Proofs.YtbkhmofhdbjpcaaGreat
