/- The plain functions behind FnExactNewtonName, their contracts, and that the law's plain function returns true; for all inputs. -/
import Derived.Test.YtdlpejdadikggaaEv27
import Derived.Test.YtdlpejdadikggaaProg
namespace Go.Ev.CC
open Go Go.Ev Go.Proofs
set_option maxRecDepth 100000
def tys : List (TypeId × Ty) := []

theorem tys_ok : AllT Try.prog tys := trivial

theorem mix_ok : Try.prog.follows .mixedOrders = true := by kernel_rfl

def spec_NewtonName (a0 : Int) : Option (ByteArray × Bool) := (bif (a0 == 0) then some (⟨#[110, 111, 110, 101]⟩, true) else (bif (a0 == 1) then some (⟨#[111, 110, 101]⟩, true) else (bif (a0 == 2) then some (⟨#[111, 112, 101, 110]⟩, true) else some (⟨#[]⟩, false))))
noncomputable def spec_NewtonName_V : Variant := ⟨[.val (.int .i64) false], [(.str, false), (.bool, false)], fun x => spec_NewtonName x.1⟩
noncomputable def spec_NewtonName_C : Cfg := ⟨Try.prog, tyOf tys, 11, gOf []⟩
def spec_NewtonName_ps : List PE := [⟨0, 0, .val (.int .i64) false, false⟩]
noncomputable def spec_NewtonName_F : Fn (ByteArray × Bool) := ⟨spec_NewtonName_C, rdRes Try.prog spec_NewtonName_ps [(.str, false), (.bool, false)] Try.f13.results.toList .ret, fun p => none, 0, []⟩
theorem spec_NewtonName_eq (x : PTe spec_NewtonName_ps) : evFn (spec_NewtonName_F) (codeOf Try.f13) spec_NewtonName_ps 16 x = spec_NewtonName x.1 := by kernel_rfl
theorem spec_NewtonName_K : Contract Try.prog 13 (spec_NewtonName_V) :=
  contract (C := spec_NewtonName_C) (F := spec_NewtonName_F) (fn := Try.f13) (c := codeOf Try.f13) (ps := spec_NewtonName_ps) (rs := [(.str, false), (.bool, false)]) (nx := 16) ⟨tyOf_ok tys_ok, gOf_ok trivial⟩ rfl (by kernel_rfl) (by kernel_rfl) (by kernel_rfl) (by kernel_rfl) (by kernel_rfl) (by kernel_rfl) rfl (by kernel_rfl) (by kernel_rfl) (AnnOk_list [] (by kernel_rfl) trivial) mix_ok (spec_NewtonName_eq)

def impl_inside (a0 : Int) (a1 : Int) (a2 : Int) : Option (Bool) := (bif (decide (a0 ≥ a1)) then some (decide (a0 ≤ a2)) else some false)
noncomputable def impl_inside_V : Variant := ⟨[.val (.int .i64) false, .val (.int .i64) false, .val (.int .i64) false], [(.bool, false)], fun x => impl_inside x.1 x.2.1 x.2.2.1⟩
noncomputable def impl_inside_C : Cfg := ⟨Try.prog, tyOf tys, 15, gOf []⟩
def impl_inside_ps : List PE := [⟨0, 0, .val (.int .i64) false, false⟩, ⟨1, 16, .val (.int .i64) false, false⟩, ⟨2, 32, .val (.int .i64) false, false⟩]
noncomputable def impl_inside_F : Fn (Bool) := ⟨impl_inside_C, rdRes Try.prog impl_inside_ps [(.bool, false)] Try.f61.results.toList .ret, fun p => none, 0, []⟩
theorem impl_inside_eq (x : PTe impl_inside_ps) : evFn (impl_inside_F) (codeOf Try.f61) impl_inside_ps 48 x = impl_inside x.1 x.2.1 x.2.2.1 := by kernel_rfl
theorem impl_inside_K : Contract Try.prog 61 (impl_inside_V) :=
  contract (C := impl_inside_C) (F := impl_inside_F) (fn := Try.f61) (c := codeOf Try.f61) (ps := impl_inside_ps) (rs := [(.bool, false)]) (nx := 48) ⟨tyOf_ok tys_ok, gOf_ok trivial⟩ rfl (by kernel_rfl) (by kernel_rfl) (by kernel_rfl) (by kernel_rfl) (by kernel_rfl) (by kernel_rfl) rfl (by kernel_rfl) (by kernel_rfl) (AnnOk_list [] (by kernel_rfl) trivial) mix_ok (impl_inside_eq)

def impl_NewtonName (a0 : Int) : Option (ByteArray × Bool) := (Option.bind (impl_inside a0 0 2) fun r1 => (bif (!r1) then some (⟨#[]⟩, false) else (bif (a0 == 0) then some (⟨#[110, 111, 110, 101]⟩, true) else (bif (a0 == 1) then some (⟨#[111, 110, 101]⟩, true) else (bif (a0 == 2) then some (⟨#[111, 112, 101, 110]⟩, true) else none)))))
noncomputable def impl_NewtonName_V : Variant := ⟨[.val (.int .i64) false], [(.str, false), (.bool, false)], fun x => impl_NewtonName x.1⟩
noncomputable def impl_NewtonName_C : Cfg := ⟨Try.prog, tyOf tys, 10, gOf [(61, [], impl_inside_V)]⟩
def impl_NewtonName_ps : List PE := [⟨0, 0, .val (.int .i64) false, false⟩]
noncomputable def impl_NewtonName_F : Fn (ByteArray × Bool) := ⟨impl_NewtonName_C, rdRes Try.prog impl_NewtonName_ps [(.str, false), (.bool, false)] Try.f14.results.toList .ret, fun p => none, 0, []⟩
theorem impl_NewtonName_eq (x : PTe impl_NewtonName_ps) : evFn (impl_NewtonName_F) (codeOf Try.f14) impl_NewtonName_ps 16 x = impl_NewtonName x.1 := by kernel_rfl
theorem impl_NewtonName_K : Contract Try.prog 14 (impl_NewtonName_V) :=
  contract (C := impl_NewtonName_C) (F := impl_NewtonName_F) (fn := Try.f14) (c := codeOf Try.f14) (ps := impl_NewtonName_ps) (rs := [(.str, false), (.bool, false)]) (nx := 16) ⟨tyOf_ok tys_ok, gOf_ok ⟨impl_inside_K, trivial⟩⟩ rfl (by kernel_rfl) (by kernel_rfl) (by kernel_rfl) (by kernel_rfl) (by kernel_rfl) (by kernel_rfl) rfl (by kernel_rfl) (by kernel_rfl) (AnnOk_list [] (by kernel_rfl) trivial) mix_ok (impl_NewtonName_eq)

def laws_FnExactNewtonName (a0 : Int) : Option (Bool) := (Option.bind (spec_NewtonName a0) fun r1 => (Option.bind (impl_NewtonName a0) fun r2 => (bif (!((r2.1 : ByteArray).toList == (r1.1 : ByteArray).toList)) then some false else (bif (!(r2.2 == r1.2)) then some false else some true))))
noncomputable def laws_FnExactNewtonName_V : Variant := ⟨[.val (.int .i64) false], [(.bool, false)], fun x => laws_FnExactNewtonName x.1⟩
noncomputable def laws_FnExactNewtonName_C : Cfg := ⟨Try.prog, tyOf tys, 25, gOf [(13, [], spec_NewtonName_V), (14, [], impl_NewtonName_V)]⟩
def laws_FnExactNewtonName_ps : List PE := [⟨0, 0, .val (.int .i64) false, false⟩]
noncomputable def laws_FnExactNewtonName_F : Fn (Bool) := ⟨laws_FnExactNewtonName_C, rdRes Try.prog laws_FnExactNewtonName_ps [(.bool, false)] Try.f3.results.toList .ret, fun p => none, 0, []⟩
theorem laws_FnExactNewtonName_eq (x : PTe laws_FnExactNewtonName_ps) : evFn (laws_FnExactNewtonName_F) (codeOf Try.f3) laws_FnExactNewtonName_ps 16 x = laws_FnExactNewtonName x.1 := by kernel_rfl
theorem laws_FnExactNewtonName_K : Contract Try.prog 3 (laws_FnExactNewtonName_V) :=
  contract (C := laws_FnExactNewtonName_C) (F := laws_FnExactNewtonName_F) (fn := Try.f3) (c := codeOf Try.f3) (ps := laws_FnExactNewtonName_ps) (rs := [(.bool, false)]) (nx := 16) ⟨tyOf_ok tys_ok, gOf_ok ⟨spec_NewtonName_K, impl_NewtonName_K, trivial⟩⟩ rfl (by kernel_rfl) (by kernel_rfl) (by kernel_rfl) (by kernel_rfl) (by kernel_rfl) (by kernel_rfl) rfl (by kernel_rfl) (by kernel_rfl) (AnnOk_list [] (by kernel_rfl) trivial) mix_ok (laws_FnExactNewtonName_eq)

theorem newtonName_true (a0 : Int) : laws_FnExactNewtonName a0 = some true := by
  by_cases h0 : a0 = 0
  · subst h0; decide +kernel
  by_cases h1 : a0 = 1
  · subst h1; decide +kernel
  by_cases h2 : a0 = 2
  · subst h2; decide +kernel
  have e0 : (a0 == 0) = false := by simpa using h0
  have e1 : (a0 == 1) = false := by simpa using h1
  have e2 : (a0 == 2) = false := by simpa using h2
  have hi : impl_inside a0 0 2 = some false := by
    unfold impl_inside
    by_cases h : 0 ≤ a0
    · have : ¬ a0 ≤ 2 := by omega
      simp [h, this]
    · simp [h]
  simp [laws_FnExactNewtonName, spec_NewtonName, impl_NewtonName, e0, e1, e2, hi]
end Go.Ev.CC
