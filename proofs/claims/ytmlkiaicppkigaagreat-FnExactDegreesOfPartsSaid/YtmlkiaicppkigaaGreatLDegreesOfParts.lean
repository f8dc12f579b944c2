/- The row of FnExactDegreesOfParts is proved: whatever the input, the function returns true and what was there stays; for all inputs that the row lets in. -/
import Derived.Test.YtmlkiaicppkigaaGreatRows
import Derived.Test.YtmlkiaicppkigaaGreatKDegreesOfParts1
import Derived.Test.YtmlkiaicppkigaaGreatADegreesOfParts2
import Derived.WalkKit
import Derived.ProofKit
import Derived.OpenShut
import Derived.ShutString
import Derived.ChangeOld
import Derived.Below
import Derived.SizedLaws
import Derived.Carry
namespace Go.Proofs.YtmlkiaicppkigaaGreat.fnExactDegreesOfParts
open Go.ChangeShapes Go.WideShapes Go.ChangeAt Go.RowKit Go.Ev
set_option linter.unusedVariables false
theorem own : ownKnob Tryz.prog.godebug = none := by kernel_rfl
theorem laidOut : laidOutB Tryz.prog = true := by kernel_rfl
set_option maxRecDepth 100000 in
theorem lifted (os : Os) (started : os.Started) (H : Type) (enc : TypeId × Value → H) :
    ReturnsInHanded {} Tryz.checked os 3 .any (Rows.fnExactDegreesOfPartsSpec.pre6 enc Tryz.prog Tryz.f3 Rows.fnExactDegreesOfPartsRow.domain false) (Rows.fnExactDegreesOfPartsSpec.post enc Tryz.prog Tryz.f3 false true false false) := by
  refine returnsInHanded_of_change_sized (C := Tryz.checked) own started (by kernel_rfl) Tryz.func3
    (ChangeSpec.witness6 (enc := enc) (C := Tryz.checked) false ⟨#[], #[.slice none 0 0, .agg #[.int .i64 0, .slice none 0 0, .slice none 0 0], .int .i64 0], []⟩ 8 (by kernel_rfl) (by kernel_rfl) (by kernel_rfl) (by kernel_rfl)) ?_
  intro W base args ds gs before hval0 hW hcnd hsz0 _
  have hval : ∀ (j : Nat) t v, Tryz.f3.params[j]? = some t → args[j]? = some v → Value.okWide Tryz.prog W .any base t v := hval0
  have hW' := hW
  obtain ⟨p, q, hA0, hV, rfl, hfz, hnd⟩ := hW
  have hA : DataW.TrodAll enc Tryz.prog W 0 (fun _ => true) true Tryz.f3.params.toList args.toList ds p := hA0
  rw [Tryz.params3] at hA hval
  obtain ⟨v0, vs0, d0, ds0, p0, q0, hargs, rfl, rfl, h0, r0⟩ := trodAll_cons hA
  obtain ⟨v1, vs1, d1, ds1, p1, q1, rfl, rfl, rfl, h1, r1⟩ := trodAll_cons r0
  obtain ⟨v2, vs2, d2, ds2, p2, q2, rfl, rfl, rfl, h2, r2⟩ := trodAll_cons r1
  obtain ⟨rfl, rfl, rfl⟩ := trodAll_nil r2
  obtain rfl : args = #[v0, v1, v2] := by cases args; simp_all
  obtain ⟨rfl, rfl⟩ := trodVars_none hV
  obtain ⟨x0, U0, z0, lt0, wf0⟩ := open_arg 8 (.sl (.sl (.pair (.int .i64) (.pair (.int .i64) (.pair (.int .i64) (.int .i64)))))) false (by kernel_rfl) (by kernel_rfl) (hval 0 22 v0 rfl rfl) h0
  obtain ⟨x1, U1, z1, lt1, wf1⟩ := open_arg 8 (.pair (.int .i64) (.pair (.sl (.int .i64)) (.sl (.int .i64)))) true (by kernel_rfl) (by kernel_rfl) (hval 1 25 v1 rfl rfl) h1
  obtain ⟨x2, U2, z2, lt2, wf2⟩ := open_arg 8 (.int .i64) false (by kernel_rfl) (by kernel_rfl) (hval 2 3 v2 rfl rfl) h2
  clear hA0 hval0 hsz0
  obtain ⟨k, hk⟩ := Go.Ev.G.degreesOfParts_row x0 x1 x2 wf0 wf1 wf2
  refine (law_calls (v := Go.Ev.G.laws_FnExactDegreesOfParts_V k) (x := (x0, (x1, (x2, ())))) (vs := [v0, v1, v2]) (Go.Ev.G.laws_FnExactDegreesOfParts_K k) Tryz.func3 (c := codeOf Tryz.f3) (by kernel_rfl) (by kernel_rfl) (argsR_val z0 (argsR_val z1 (argsR_val z2 argsR_nil))) (by
      intro b hb
      simp only [List.mem_append, List.not_mem_nil, or_false] at hb
      rcases hb with hb | hb | hb
      · exact lt0 b hb
      · exact lt1 b hb
      · exact lt2 b hb) hk (fun _ _ _ h => comps_true h)).mono fun e W' ⟨he, bel⟩ => ?_
  subst he
  exact ⟨_, rfl, _, _, _, [], _, [], hW', trodAll_mk1 (shut_bool Tryz.underlying4 _), (trodAll_cons_mk (Below.trod laidOut (by kernel_rfl) (of_decide_eq_true (by kernel_rfl)) h0 bel (trod_lt' h0)) (trodAll_cons_mk (Below.trod laidOut (by kernel_rfl) (of_decide_eq_true (by kernel_rfl)) h1 bel (trod_lt' h1)) (trodAll_cons_mk (Below.trod laidOut (by kernel_rfl) (of_decide_eq_true (by kernel_rfl)) h2 bel (trod_lt' h2)) trodAll_mk0))), rfl, bel.frame _, fun h => by cases h⟩
theorem and_t {a b : Bool} (ha : a = true) (hb : b = true) : (a && b) = true := by rw [ha, hb]; rfl
theorem and_l {a b : Bool} (h : (a && b) = true) : a = true := by cases a with | true => rfl | false => cases h
theorem and_r {a b : Bool} (h : (a && b) = true) : b = true := by cases a with | true => exact h | false => cases h
set_option maxHeartbeats 8000000 in
set_option maxRecDepth 100000 in
theorem facts : joinedFacts Tryz.pinned.checked.prog 3 Tryz.f3 Rows.fnExactDegreesOfPartsSpec Rows.fnExactDegreesOfPartsRow = true := by
  have h3 : ((Tryz.pinned.checked.prog.mayEnter && (Rows.fnExactDegreesOfPartsRow.lifted == Tryz.pinned.checked.prog.liftsFinal)) && (Tryz.pinned.checked.prog.make == some Rows.fnExactDegreesOfPartsRow.make)) = true := by as_aux_lemma => kernel_rfl
  have e1 := and_r h3
  have e2 := and_r (and_l h3)
  have e3 := and_l (and_l h3)
  clear h3
  unfold joinedFacts
  repeat' with_reducible apply and_t
  all_goals first | (with_reducible exact e1) | (with_reducible exact e2) | (with_reducible exact e3) | (clear e1 e2 e3; as_aux_lemma => kernel_rfl)
theorem over : Rows.fnExactDegreesOfPartsRow.holds Tryz.pinned (OpenSpec.ofChange Rows.fnExactDegreesOfPartsSpec) :=
  OpenClaim.holds_of_wide 3 Tryz.f3 rfl rfl rfl rfl rfl rfl rfl ⟨rfl, rfl, rfl, rfl, rfl⟩ rfl rfl rfl rfl rfl (by kernel_rfl) Tryz.func3 facts
    (of_decide_eq_true (by kernel_rfl)) (by unfold Func.isWrapper; first | (rw [if_pos (by decide +kernel)]; kernel_rfl) | (rw [if_neg (by decide +kernel)]; exact ⟨rfl, rfl⟩))
    (fun os started H enc _ => lifted os started H enc)
theorem proved : Rows.FnExactDegreesOfPartsSaid := over
#print axioms proved
end Go.Proofs.YtmlkiaicppkigaaGreat.fnExactDegreesOfParts
namespace Go.Proofs.YtmlkiaicppkigaaGreat
/-- The row, under a short name, for the claim. -/
theorem fnExactDegreesOfParts_holds : Rows.FnExactDegreesOfPartsSaid := fnExactDegreesOfParts.proved
end Go.Proofs.YtmlkiaicppkigaaGreat
