/- The plain functions behind FnExactUnitTable, their contracts, and that the law's plain function returns true; for all inputs that the row lets in. -/
import Derived.Test.YtdlpejdadikggaaEv27
import Derived.Test.YtdlpejdadikggaaProg
namespace Go.Ev.CUnitTable
open Go Go.Ev Go.Proofs
set_option maxRecDepth 100000
def tys : List (TypeId × Ty) := [(70, (.sl (.pair (.int .i64) (.int .i64)))), (86, (.pair (.int .i64) (.int .i64)))]

theorem tys_ok : AllT Try.prog tys := ⟨⟨_, _, rfl, rfl, rfl, rfl⟩, ⟨_, _, rfl, rfl, rfl, rfl⟩, trivial⟩

theorem mix_ok : Try.prog.follows .mixedOrders = true := by kernel_rfl

def spec_l1In (a0 : Int) (a1 : Int) (a2 : Int) : Option (Bool) := (bif (decide (a0 ≥ a1)) then some (decide (a0 ≤ a2)) else some false)
noncomputable def spec_l1In_V : Variant := ⟨[.val (.int .i64) false, .val (.int .i64) false, .val (.int .i64) false], [(.bool, false)], fun x => spec_l1In x.1 x.2.1 x.2.2.1⟩
noncomputable def spec_l1In_C : Cfg := ⟨Try.prog, tyOf tys, 15, gOf []⟩
def spec_l1In_ps : List PE := [⟨0, 0, .val (.int .i64) false, false⟩, ⟨1, 16, .val (.int .i64) false, false⟩, ⟨2, 32, .val (.int .i64) false, false⟩]
noncomputable def spec_l1In_F : Fn (Bool) := ⟨spec_l1In_C, rdRes Try.prog spec_l1In_ps [(.bool, false)] Try.f62.results.toList .ret, fun p => none, 0, []⟩
theorem spec_l1In_eq (x : PTe spec_l1In_ps) : evFn (spec_l1In_F) (codeOf Try.f62) spec_l1In_ps 48 x = spec_l1In x.1 x.2.1 x.2.2.1 := by kernel_rfl
theorem spec_l1In_K : Contract Try.prog 62 (spec_l1In_V) :=
  contract (C := spec_l1In_C) (F := spec_l1In_F) (fn := Try.f62) (c := codeOf Try.f62) (ps := spec_l1In_ps) (rs := [(.bool, false)]) (nx := 48) ⟨tyOf_ok tys_ok, gOf_ok trivial⟩ rfl (by kernel_rfl) (by kernel_rfl) (by kernel_rfl) (by kernel_rfl) (by kernel_rfl) (by kernel_rfl) rfl (by kernel_rfl) (by kernel_rfl) (AnnOk_list [] (by kernel_rfl) trivial) mix_ok (spec_l1In_eq)

def spec_dyInt (a0 : Int) : Option (Int × Int) := some (a0, 0)
noncomputable def spec_dyInt_V : Variant := ⟨[.val (.int .i64) false], [((.pair (.int .i64) (.int .i64)), true)], fun x => spec_dyInt x.1⟩
noncomputable def spec_dyInt_C : Cfg := ⟨Try.prog, tyOf tys, 5, gOf []⟩
def spec_dyInt_ps : List PE := [⟨0, 0, .val (.int .i64) false, false⟩]
noncomputable def spec_dyInt_F : Fn (Int × Int) := ⟨spec_dyInt_C, rdRes Try.prog spec_dyInt_ps [((.pair (.int .i64) (.int .i64)), true)] Try.f63.results.toList .ret, fun p => none, 0, []⟩
theorem spec_dyInt_eq (x : PTe spec_dyInt_ps) : evFn (spec_dyInt_F) (codeOf Try.f63) spec_dyInt_ps 16 x = spec_dyInt x.1 := by kernel_rfl
theorem spec_dyInt_K : Contract Try.prog 63 (spec_dyInt_V) :=
  contract (C := spec_dyInt_C) (F := spec_dyInt_F) (fn := Try.f63) (c := codeOf Try.f63) (ps := spec_dyInt_ps) (rs := [((.pair (.int .i64) (.int .i64)), true)]) (nx := 16) ⟨tyOf_ok tys_ok, gOf_ok trivial⟩ rfl (by kernel_rfl) (by kernel_rfl) (by kernel_rfl) (by kernel_rfl) (by kernel_rfl) (by kernel_rfl) rfl (by kernel_rfl) (by kernel_rfl) (AnnOk_list [] (by kernel_rfl) trivial) mix_ok (spec_dyInt_eq)

def spec_UnitTable_L122 (k : Nat) : Nat → Int → (List (List (Int × Int))) → Int → Option (((List (List (Int × Int))) × Bool) ⊕ ((List (List (Int × Int))) × Unit))
  | 0, _, _, _ => none
  | n + 1, x0, x4, x5 => (bif (decide (x5 < x0)) then (bif (decide (0 ≤ x0)) then (bif (decide (x0 < 274877906944)) then (Option.bind (spec_dyInt 1) fun r2 => (bif (decide (0 ≤ x5)) then (bif (decide (x5 < ((List.replicate (Int.toNat x0) ((0, 0) : Int × Int)).length : Int))) then (bif (decide (x4.length + ([((List.replicate (Int.toNat x0) ((0, 0) : Int × Int)).set (Int.toNat x5) r2)] : List (List (Int × Int))).length < 274877906944)) then (spec_UnitTable_L122 k n x0 (x4 ++ ([((List.replicate (Int.toNat x0) ((0, 0) : Int × Int)).set (Int.toNat x5) r2)] : List (List (Int × Int)))) (IntKind.wrap .i64 (x5 + 1))) else none) else none) else none)) else none) else none) else some (Sum.inr (x4, ())))
def spec_UnitTable (k : Nat) (a0 : Int) : Option ((List (List (Int × Int))) × Bool) := (Option.bind (spec_l1In a0 1 3) fun r1 => (bif (!r1) then some (([] : List (List (Int × Int))), false) else (both (R := (List (List (Int × Int))) × Bool) (P := (List (List (Int × Int))) × Unit) (spec_UnitTable_L122 k k a0 [] 0) (fun q5 => some q5) (fun y4 => some (y4.1, true)))))
noncomputable def spec_UnitTable_V (k : Nat) : Variant := ⟨[.val (.int .i64) false], [((.sl (.sl (.pair (.int .i64) (.int .i64)))), false), (.bool, false)], fun x => spec_UnitTable k x.1⟩
noncomputable def spec_UnitTable_C (k : Nat) : Cfg := ⟨Try.prog, tyOf tys, 26, gOf [(62, [], spec_l1In_V), (63, [], spec_dyInt_V)]⟩
def spec_UnitTable_ps : List PE := [⟨0, 0, .val (.int .i64) false, false⟩]
noncomputable def spec_UnitTable_F (k : Nat) : Fn ((List (List (Int × Int))) × Bool) := ⟨spec_UnitTable_C k, rdRes Try.prog spec_UnitTable_ps [((.sl (.sl (.pair (.int .i64) (.int .i64)))), false), (.bool, false)] Try.f15.results.toList .ret, fun p => bif Nat.beq p 122 then some (.loop [⟨0, 16, .val (.int .i64) false, false⟩, ⟨4, 32, .eat (.sl (.pair (.int .i64) (.int .i64))), false⟩, ⟨5, 48, .val (.int .i64) false, false⟩] [⟨4, 16, .eat (.sl (.pair (.int .i64) (.int .i64))), false⟩] 0 64 ((fun (n : Nat) (x3 : PTe [⟨0, 16, .val (.int .i64) false, false⟩, ⟨4, 32, .eat (.sl (.pair (.int .i64) (.int .i64))), false⟩, ⟨5, 48, .val (.int .i64) false, false⟩]) => spec_UnitTable_L122 k n x3.1 x3.2.1 x3.2.2.1) k)) else none, 0, []⟩
theorem spec_UnitTable_eq (k : Nat) (x : PTe spec_UnitTable_ps) : evFn (spec_UnitTable_F k) (codeOf Try.f15) spec_UnitTable_ps 16 x = spec_UnitTable k x.1 := by kernel_rfl
theorem spec_UnitTable_ls : loopsOf (codeOf Try.f15) 1 = [(122, loopB (codeOf Try.f15) 122)] := by kernel_rfl
theorem spec_UnitTable_l122 (k : Nat) : LoopOk (spec_UnitTable_F k) (loopB (codeOf Try.f15) 122) 122 := LoopOk.mk (pin := [⟨0, 16, .val (.int .i64) false, false⟩, ⟨4, 32, .eat (.sl (.pair (.int .i64) (.int .i64))), false⟩, ⟨5, 48, .val (.int .i64) false, false⟩]) (pout := [⟨4, 16, .eat (.sl (.pair (.int .i64) (.int .i64))), false⟩]) (ex := 0) (nx := 64) (Lf := (fun (n : Nat) (x3 : PTe [⟨0, 16, .val (.int .i64) false, false⟩, ⟨4, 32, .eat (.sl (.pair (.int .i64) (.int .i64))), false⟩, ⟨5, 48, .val (.int .i64) false, false⟩]) => spec_UnitTable_L122 k n x3.1 x3.2.1 x3.2.2.1)) (k := k) (by kernel_rfl) (fun _ => rfl) (by intro n x; kernel_rfl)
theorem spec_UnitTable_K (k : Nat) : Contract Try.prog 15 (spec_UnitTable_V k) :=
  contract (C := spec_UnitTable_C k) (F := spec_UnitTable_F k) (fn := Try.f15) (c := codeOf Try.f15) (ps := spec_UnitTable_ps) (rs := [((.sl (.sl (.pair (.int .i64) (.int .i64)))), false), (.bool, false)]) (nx := 16) ⟨tyOf_ok tys_ok, gOf_ok ⟨spec_l1In_K, spec_dyInt_K, trivial⟩⟩ rfl (by kernel_rfl) (by kernel_rfl) (by kernel_rfl) (by kernel_rfl) (by kernel_rfl) (by kernel_rfl) rfl (by kernel_rfl) (by kernel_rfl) (AnnOk_list [(122, loopB (codeOf Try.f15) 122)] spec_UnitTable_ls ⟨spec_UnitTable_l122 k, trivial⟩) mix_ok (spec_UnitTable_eq k)

def impl_inside (a0 : Int) (a1 : Int) (a2 : Int) : Option (Bool) := (bif (decide (a0 ≥ a1)) then some (decide (a0 ≤ a2)) else some false)
noncomputable def impl_inside_V : Variant := ⟨[.val (.int .i64) false, .val (.int .i64) false, .val (.int .i64) false], [(.bool, false)], fun x => impl_inside x.1 x.2.1 x.2.2.1⟩
noncomputable def impl_inside_C : Cfg := ⟨Try.prog, tyOf tys, 15, gOf []⟩
def impl_inside_ps : List PE := [⟨0, 0, .val (.int .i64) false, false⟩, ⟨1, 16, .val (.int .i64) false, false⟩, ⟨2, 32, .val (.int .i64) false, false⟩]
noncomputable def impl_inside_F : Fn (Bool) := ⟨impl_inside_C, rdRes Try.prog impl_inside_ps [(.bool, false)] Try.f61.results.toList .ret, fun p => none, 0, []⟩
theorem impl_inside_eq (x : PTe impl_inside_ps) : evFn (impl_inside_F) (codeOf Try.f61) impl_inside_ps 48 x = impl_inside x.1 x.2.1 x.2.2.1 := by kernel_rfl
theorem impl_inside_K : Contract Try.prog 61 (impl_inside_V) :=
  contract (C := impl_inside_C) (F := impl_inside_F) (fn := Try.f61) (c := codeOf Try.f61) (ps := impl_inside_ps) (rs := [(.bool, false)]) (nx := 48) ⟨tyOf_ok tys_ok, gOf_ok trivial⟩ rfl (by kernel_rfl) (by kernel_rfl) (by kernel_rfl) (by kernel_rfl) (by kernel_rfl) (by kernel_rfl) rfl (by kernel_rfl) (by kernel_rfl) (AnnOk_list [] (by kernel_rfl) trivial) mix_ok (impl_inside_eq)

def impl_integer (a0 : Int) : Option (Int × Int) := some (a0, 0)
noncomputable def impl_integer_V : Variant := ⟨[.val (.int .i64) false], [((.pair (.int .i64) (.int .i64)), true)], fun x => impl_integer x.1⟩
noncomputable def impl_integer_C : Cfg := ⟨Try.prog, tyOf tys, 5, gOf []⟩
def impl_integer_ps : List PE := [⟨0, 0, .val (.int .i64) false, false⟩]
noncomputable def impl_integer_F : Fn (Int × Int) := ⟨impl_integer_C, rdRes Try.prog impl_integer_ps [((.pair (.int .i64) (.int .i64)), true)] Try.f64.results.toList .ret, fun p => none, 0, []⟩
theorem impl_integer_eq (x : PTe impl_integer_ps) : evFn (impl_integer_F) (codeOf Try.f64) impl_integer_ps 16 x = impl_integer x.1 := by kernel_rfl
theorem impl_integer_K : Contract Try.prog 64 (impl_integer_V) :=
  contract (C := impl_integer_C) (F := impl_integer_F) (fn := Try.f64) (c := codeOf Try.f64) (ps := impl_integer_ps) (rs := [((.pair (.int .i64) (.int .i64)), true)]) (nx := 16) ⟨tyOf_ok tys_ok, gOf_ok trivial⟩ rfl (by kernel_rfl) (by kernel_rfl) (by kernel_rfl) (by kernel_rfl) (by kernel_rfl) (by kernel_rfl) rfl (by kernel_rfl) (by kernel_rfl) (AnnOk_list [] (by kernel_rfl) trivial) mix_ok (impl_integer_eq)

def impl_UnitTable_L122 (k : Nat) : Nat → Int → (List (List (Int × Int))) → Int → Int → Option (((List (List (Int × Int))) × Bool) ⊕ ((List (List (Int × Int))) × Unit))
  | 0, _, _, _, _ => none
  | n + 1, x0, x4, x10, x11 => (bif (decide (x11 < x10)) then (bif (decide (0 ≤ x0)) then (bif (decide (x0 < 274877906944)) then (Option.bind (impl_integer 1) fun r2 => (bif (decide (0 ≤ x11)) then (bif (decide (x11 < ((List.replicate (Int.toNat x0) ((0, 0) : Int × Int)).length : Int))) then (bif (decide (x4.length + ([((List.replicate (Int.toNat x0) ((0, 0) : Int × Int)).set (Int.toNat x11) r2)] : List (List (Int × Int))).length < 274877906944)) then (impl_UnitTable_L122 k n x0 (x4 ++ ([((List.replicate (Int.toNat x0) ((0, 0) : Int × Int)).set (Int.toNat x11) r2)] : List (List (Int × Int)))) x10 (IntKind.wrap .i64 (x11 + 1))) else none) else none) else none)) else none) else none) else some (Sum.inr (x4, ())))
def impl_UnitTable (k : Nat) (a0 : Int) : Option ((List (List (Int × Int))) × Bool) := (Option.bind (impl_inside a0 1 3) fun r1 => (bif (!r1) then some (([] : List (List (Int × Int))), false) else (both (R := (List (List (Int × Int))) × Bool) (P := (List (List (Int × Int))) × Unit) (impl_UnitTable_L122 k k a0 [] a0 0) (fun q5 => some q5) (fun y4 => some (y4.1, true)))))
noncomputable def impl_UnitTable_V (k : Nat) : Variant := ⟨[.val (.int .i64) false], [((.sl (.sl (.pair (.int .i64) (.int .i64)))), false), (.bool, false)], fun x => impl_UnitTable k x.1⟩
noncomputable def impl_UnitTable_C (k : Nat) : Cfg := ⟨Try.prog, tyOf tys, 26, gOf [(61, [], impl_inside_V), (64, [], impl_integer_V)]⟩
def impl_UnitTable_ps : List PE := [⟨0, 0, .val (.int .i64) false, false⟩]
noncomputable def impl_UnitTable_F (k : Nat) : Fn ((List (List (Int × Int))) × Bool) := ⟨impl_UnitTable_C k, rdRes Try.prog impl_UnitTable_ps [((.sl (.sl (.pair (.int .i64) (.int .i64)))), false), (.bool, false)] Try.f16.results.toList .ret, fun p => bif Nat.beq p 122 then some (.loop [⟨0, 16, .val (.int .i64) false, false⟩, ⟨4, 32, .eat (.sl (.pair (.int .i64) (.int .i64))), false⟩, ⟨10, 48, .val (.int .i64) false, false⟩, ⟨11, 64, .val (.int .i64) false, false⟩] [⟨4, 16, .eat (.sl (.pair (.int .i64) (.int .i64))), false⟩] 0 80 ((fun (n : Nat) (x3 : PTe [⟨0, 16, .val (.int .i64) false, false⟩, ⟨4, 32, .eat (.sl (.pair (.int .i64) (.int .i64))), false⟩, ⟨10, 48, .val (.int .i64) false, false⟩, ⟨11, 64, .val (.int .i64) false, false⟩]) => impl_UnitTable_L122 k n x3.1 x3.2.1 x3.2.2.1 x3.2.2.2.1) k)) else none, 0, []⟩
theorem impl_UnitTable_eq (k : Nat) (x : PTe impl_UnitTable_ps) : evFn (impl_UnitTable_F k) (codeOf Try.f16) impl_UnitTable_ps 16 x = impl_UnitTable k x.1 := by kernel_rfl
theorem impl_UnitTable_ls : loopsOf (codeOf Try.f16) 1 = [(122, loopB (codeOf Try.f16) 122)] := by kernel_rfl
theorem impl_UnitTable_l122 (k : Nat) : LoopOk (impl_UnitTable_F k) (loopB (codeOf Try.f16) 122) 122 := LoopOk.mk (pin := [⟨0, 16, .val (.int .i64) false, false⟩, ⟨4, 32, .eat (.sl (.pair (.int .i64) (.int .i64))), false⟩, ⟨10, 48, .val (.int .i64) false, false⟩, ⟨11, 64, .val (.int .i64) false, false⟩]) (pout := [⟨4, 16, .eat (.sl (.pair (.int .i64) (.int .i64))), false⟩]) (ex := 0) (nx := 80) (Lf := (fun (n : Nat) (x3 : PTe [⟨0, 16, .val (.int .i64) false, false⟩, ⟨4, 32, .eat (.sl (.pair (.int .i64) (.int .i64))), false⟩, ⟨10, 48, .val (.int .i64) false, false⟩, ⟨11, 64, .val (.int .i64) false, false⟩]) => impl_UnitTable_L122 k n x3.1 x3.2.1 x3.2.2.1 x3.2.2.2.1)) (k := k) (by kernel_rfl) (fun _ => rfl) (by intro n x; kernel_rfl)
theorem impl_UnitTable_K (k : Nat) : Contract Try.prog 16 (impl_UnitTable_V k) :=
  contract (C := impl_UnitTable_C k) (F := impl_UnitTable_F k) (fn := Try.f16) (c := codeOf Try.f16) (ps := impl_UnitTable_ps) (rs := [((.sl (.sl (.pair (.int .i64) (.int .i64)))), false), (.bool, false)]) (nx := 16) ⟨tyOf_ok tys_ok, gOf_ok ⟨impl_inside_K, impl_integer_K, trivial⟩⟩ rfl (by kernel_rfl) (by kernel_rfl) (by kernel_rfl) (by kernel_rfl) (by kernel_rfl) (by kernel_rfl) rfl (by kernel_rfl) (by kernel_rfl) (AnnOk_list [(122, loopB (codeOf Try.f16) 122)] impl_UnitTable_ls ⟨impl_UnitTable_l122 k, trivial⟩) mix_ok (impl_UnitTable_eq k)

def laws_eqDyadic (a0 : Int × Int) (a1 : Int × Int) : Option (Bool) := (bif (a0.1 != a1.1) then some false else (bif (a0.2 != a1.2) then some false else some true))
noncomputable def laws_eqDyadic_V : Variant := ⟨[.val (.pair (.int .i64) (.int .i64)) true, .val (.pair (.int .i64) (.int .i64)) true], [(.bool, false)], fun x => laws_eqDyadic x.1 x.2.1⟩
noncomputable def laws_eqDyadic_C : Cfg := ⟨Try.prog, tyOf tys, 15, gOf []⟩
def laws_eqDyadic_ps : List PE := [⟨0, 0, .val (.pair (.int .i64) (.int .i64)) true, false⟩, ⟨1, 16, .val (.pair (.int .i64) (.int .i64)) true, false⟩]
noncomputable def laws_eqDyadic_F : Fn (Bool) := ⟨laws_eqDyadic_C, rdRes Try.prog laws_eqDyadic_ps [(.bool, false)] Try.f108.results.toList .ret, fun p => none, 0, []⟩
theorem laws_eqDyadic_eq (x : PTe laws_eqDyadic_ps) : evFn (laws_eqDyadic_F) (codeOf Try.f108) laws_eqDyadic_ps 32 x = laws_eqDyadic x.1 x.2.1 := by kernel_rfl
theorem laws_eqDyadic_K : Contract Try.prog 108 (laws_eqDyadic_V) :=
  contract (C := laws_eqDyadic_C) (F := laws_eqDyadic_F) (fn := Try.f108) (c := codeOf Try.f108) (ps := laws_eqDyadic_ps) (rs := [(.bool, false)]) (nx := 32) ⟨tyOf_ok tys_ok, gOf_ok trivial⟩ rfl (by kernel_rfl) (by kernel_rfl) (by kernel_rfl) (by kernel_rfl) (by kernel_rfl) (by kernel_rfl) rfl (by kernel_rfl) (by kernel_rfl) (AnnOk_list [] (by kernel_rfl) trivial) mix_ok (laws_eqDyadic_eq)

def laws_eqDyadicS_L58 (k : Nat) : Nat → (List (Int × Int)) → (List (Int × Int)) → Int → Option ((Bool) ⊕ (Unit))
  | 0, _, _, _ => none
  | n + 1, x0, x1, x5 => (bif (decide (x5 < (x0.length : Int))) then (bif (decide (0 ≤ x5)) then (bif (decide (x5 < (x0.length : Int))) then (bif (decide (0 ≤ x5)) then (bif (decide (x5 < (x1.length : Int))) then (Option.bind (laws_eqDyadic (x0.getD (Int.toNat x5) (0, 0)) (x1.getD (Int.toNat x5) (0, 0))) fun r1 => (bif (!r1) then some (Sum.inl false) else (laws_eqDyadicS_L58 k n x0 x1 (IntKind.wrap .i64 (x5 + 1))))) else none) else none) else none) else none) else some (Sum.inr ()))
def laws_eqDyadicS (k : Nat) (a0 : List (Int × Int)) (a1 : List (Int × Int)) : Option (Bool) := (bif ((a0.length : Int) != (a1.length : Int)) then some false else (both (R := Bool) (P := Unit) (laws_eqDyadicS_L58 k k a0 a1 0) (fun q4 => some q4) (fun y3 => some true)))
noncomputable def laws_eqDyadicS_V (k : Nat) : Variant := ⟨[.val (.sl (.pair (.int .i64) (.int .i64))) false, .val (.sl (.pair (.int .i64) (.int .i64))) false], [(.bool, false)], fun x => laws_eqDyadicS k x.1 x.2.1⟩
noncomputable def laws_eqDyadicS_C (k : Nat) : Cfg := ⟨Try.prog, tyOf tys, 27, gOf [(108, [], laws_eqDyadic_V)]⟩
def laws_eqDyadicS_ps : List PE := [⟨0, 0, .val (.sl (.pair (.int .i64) (.int .i64))) false, false⟩, ⟨1, 16, .val (.sl (.pair (.int .i64) (.int .i64))) false, false⟩]
noncomputable def laws_eqDyadicS_F (k : Nat) : Fn (Bool) := ⟨laws_eqDyadicS_C k, rdRes Try.prog laws_eqDyadicS_ps [(.bool, false)] Try.f53.results.toList .ret, fun p => bif Nat.beq p 58 then some (.loop [⟨0, 32, .val (.sl (.pair (.int .i64) (.int .i64))) false, false⟩, ⟨1, 48, .val (.sl (.pair (.int .i64) (.int .i64))) false, false⟩, ⟨5, 64, .val (.int .i64) false, false⟩] [] 0 80 ((fun (n : Nat) (x2 : PTe [⟨0, 32, .val (.sl (.pair (.int .i64) (.int .i64))) false, false⟩, ⟨1, 48, .val (.sl (.pair (.int .i64) (.int .i64))) false, false⟩, ⟨5, 64, .val (.int .i64) false, false⟩]) => laws_eqDyadicS_L58 k n x2.1 x2.2.1 x2.2.2.1) k)) else none, 0, []⟩
theorem laws_eqDyadicS_eq (k : Nat) (x : PTe laws_eqDyadicS_ps) : evFn (laws_eqDyadicS_F k) (codeOf Try.f53) laws_eqDyadicS_ps 32 x = laws_eqDyadicS k x.1 x.2.1 := by kernel_rfl
theorem laws_eqDyadicS_ls : loopsOf (codeOf Try.f53) 1 = [(58, loopB (codeOf Try.f53) 58)] := by kernel_rfl
theorem laws_eqDyadicS_l58 (k : Nat) : LoopOk (laws_eqDyadicS_F k) (loopB (codeOf Try.f53) 58) 58 := LoopOk.mk (pin := [⟨0, 32, .val (.sl (.pair (.int .i64) (.int .i64))) false, false⟩, ⟨1, 48, .val (.sl (.pair (.int .i64) (.int .i64))) false, false⟩, ⟨5, 64, .val (.int .i64) false, false⟩]) (pout := []) (ex := 0) (nx := 80) (Lf := (fun (n : Nat) (x2 : PTe [⟨0, 32, .val (.sl (.pair (.int .i64) (.int .i64))) false, false⟩, ⟨1, 48, .val (.sl (.pair (.int .i64) (.int .i64))) false, false⟩, ⟨5, 64, .val (.int .i64) false, false⟩]) => laws_eqDyadicS_L58 k n x2.1 x2.2.1 x2.2.2.1)) (k := k) (by kernel_rfl) (fun _ => rfl) (by intro n x; kernel_rfl)
theorem laws_eqDyadicS_K (k : Nat) : Contract Try.prog 53 (laws_eqDyadicS_V k) :=
  contract (C := laws_eqDyadicS_C k) (F := laws_eqDyadicS_F k) (fn := Try.f53) (c := codeOf Try.f53) (ps := laws_eqDyadicS_ps) (rs := [(.bool, false)]) (nx := 32) ⟨tyOf_ok tys_ok, gOf_ok ⟨laws_eqDyadic_K, trivial⟩⟩ rfl (by kernel_rfl) (by kernel_rfl) (by kernel_rfl) (by kernel_rfl) (by kernel_rfl) (by kernel_rfl) rfl (by kernel_rfl) (by kernel_rfl) (AnnOk_list [(58, loopB (codeOf Try.f53) 58)] laws_eqDyadicS_ls ⟨laws_eqDyadicS_l58 k, trivial⟩) mix_ok (laws_eqDyadicS_eq k)

def laws_eqDyadicSS_L58 (k : Nat) : Nat → (List (List (Int × Int))) → (List (List (Int × Int))) → Int → Option ((Bool) ⊕ (Unit))
  | 0, _, _, _ => none
  | n + 1, x0, x1, x5 => (bif (decide (x5 < (x0.length : Int))) then (bif (decide (0 ≤ x5)) then (bif (decide (x5 < (x0.length : Int))) then (bif (decide (0 ≤ x5)) then (bif (decide (x5 < (x1.length : Int))) then (Option.bind (laws_eqDyadicS k (x0.getD (Int.toNat x5) []) (x1.getD (Int.toNat x5) [])) fun r1 => (bif (!r1) then some (Sum.inl false) else (laws_eqDyadicSS_L58 k n x0 x1 (IntKind.wrap .i64 (x5 + 1))))) else none) else none) else none) else none) else some (Sum.inr ()))
def laws_eqDyadicSS (k : Nat) (a0 : List (List (Int × Int))) (a1 : List (List (Int × Int))) : Option (Bool) := (bif ((a0.length : Int) != (a1.length : Int)) then some false else (both (R := Bool) (P := Unit) (laws_eqDyadicSS_L58 k k a0 a1 0) (fun q4 => some q4) (fun y3 => some true)))
noncomputable def laws_eqDyadicSS_V (k : Nat) : Variant := ⟨[.val (.sl (.sl (.pair (.int .i64) (.int .i64)))) false, .val (.sl (.sl (.pair (.int .i64) (.int .i64)))) false], [(.bool, false)], fun x => laws_eqDyadicSS k x.1 x.2.1⟩
noncomputable def laws_eqDyadicSS_C (k : Nat) : Cfg := ⟨Try.prog, tyOf tys, 27, gOf [(53, [], laws_eqDyadicS_V k)]⟩
def laws_eqDyadicSS_ps : List PE := [⟨0, 0, .val (.sl (.sl (.pair (.int .i64) (.int .i64)))) false, false⟩, ⟨1, 16, .val (.sl (.sl (.pair (.int .i64) (.int .i64)))) false, false⟩]
noncomputable def laws_eqDyadicSS_F (k : Nat) : Fn (Bool) := ⟨laws_eqDyadicSS_C k, rdRes Try.prog laws_eqDyadicSS_ps [(.bool, false)] Try.f17.results.toList .ret, fun p => bif Nat.beq p 58 then some (.loop [⟨0, 32, .val (.sl (.sl (.pair (.int .i64) (.int .i64)))) false, false⟩, ⟨1, 48, .val (.sl (.sl (.pair (.int .i64) (.int .i64)))) false, false⟩, ⟨5, 64, .val (.int .i64) false, false⟩] [] 0 80 ((fun (n : Nat) (x2 : PTe [⟨0, 32, .val (.sl (.sl (.pair (.int .i64) (.int .i64)))) false, false⟩, ⟨1, 48, .val (.sl (.sl (.pair (.int .i64) (.int .i64)))) false, false⟩, ⟨5, 64, .val (.int .i64) false, false⟩]) => laws_eqDyadicSS_L58 k n x2.1 x2.2.1 x2.2.2.1) k)) else none, 0, []⟩
theorem laws_eqDyadicSS_eq (k : Nat) (x : PTe laws_eqDyadicSS_ps) : evFn (laws_eqDyadicSS_F k) (codeOf Try.f17) laws_eqDyadicSS_ps 32 x = laws_eqDyadicSS k x.1 x.2.1 := by kernel_rfl
theorem laws_eqDyadicSS_ls : loopsOf (codeOf Try.f17) 1 = [(58, loopB (codeOf Try.f17) 58)] := by kernel_rfl
theorem laws_eqDyadicSS_l58 (k : Nat) : LoopOk (laws_eqDyadicSS_F k) (loopB (codeOf Try.f17) 58) 58 := LoopOk.mk (pin := [⟨0, 32, .val (.sl (.sl (.pair (.int .i64) (.int .i64)))) false, false⟩, ⟨1, 48, .val (.sl (.sl (.pair (.int .i64) (.int .i64)))) false, false⟩, ⟨5, 64, .val (.int .i64) false, false⟩]) (pout := []) (ex := 0) (nx := 80) (Lf := (fun (n : Nat) (x2 : PTe [⟨0, 32, .val (.sl (.sl (.pair (.int .i64) (.int .i64)))) false, false⟩, ⟨1, 48, .val (.sl (.sl (.pair (.int .i64) (.int .i64)))) false, false⟩, ⟨5, 64, .val (.int .i64) false, false⟩]) => laws_eqDyadicSS_L58 k n x2.1 x2.2.1 x2.2.2.1)) (k := k) (by kernel_rfl) (fun _ => rfl) (by intro n x; kernel_rfl)
theorem laws_eqDyadicSS_K (k : Nat) : Contract Try.prog 17 (laws_eqDyadicSS_V k) :=
  contract (C := laws_eqDyadicSS_C k) (F := laws_eqDyadicSS_F k) (fn := Try.f17) (c := codeOf Try.f17) (ps := laws_eqDyadicSS_ps) (rs := [(.bool, false)]) (nx := 32) ⟨tyOf_ok tys_ok, gOf_ok ⟨laws_eqDyadicS_K k, trivial⟩⟩ rfl (by kernel_rfl) (by kernel_rfl) (by kernel_rfl) (by kernel_rfl) (by kernel_rfl) (by kernel_rfl) rfl (by kernel_rfl) (by kernel_rfl) (AnnOk_list [(58, loopB (codeOf Try.f17) 58)] laws_eqDyadicSS_ls ⟨laws_eqDyadicSS_l58 k, trivial⟩) mix_ok (laws_eqDyadicSS_eq k)

def laws_markDyadicS_L26 (k : Nat) : Nat → (List (Int × Int)) → Int → Int → Option ((Int × List (Int × Int)) ⊕ (Int × (List (Int × Int)) × Unit))
  | 0, _, _, _ => none
  | n + 1, x0, x1, x5 => (bif (decide (x5 < (x0.length : Int))) then (bif (decide (0 ≤ x5)) then (bif (decide (x5 < (x0.length : Int))) then (bif (decide (0 ≤ x5)) then (bif (decide (x5 < ((x0.set (Int.toNat x5) (x1, (x0.getD (Int.toNat x5) (0, 0)).2)).length : Int))) then (laws_markDyadicS_L26 k n ((x0.set (Int.toNat x5) (x1, (x0.getD (Int.toNat x5) (0, 0)).2)).set (Int.toNat x5) (((x0.set (Int.toNat x5) (x1, (x0.getD (Int.toNat x5) (0, 0)).2)).getD (Int.toNat x5) (0, 0)).1, (IntKind.wrap .i64 (x1 + 1)))) (IntKind.wrap .i64 ((IntKind.wrap .i64 (x1 + 1)) + 1)) (IntKind.wrap .i64 (x5 + 1))) else none) else none) else none) else none) else some (Sum.inr (x1, x0, ())))
def laws_markDyadicS (k : Nat) (a0 : List (Int × Int)) (a1 : Int) : Option (Int × List (Int × Int)) := (both (R := Int × List (Int × Int)) (P := Int × (List (Int × Int)) × Unit) (laws_markDyadicS_L26 k k a0 a1 0) (fun q3 => some q3) (fun y2 => some (y2.1, y2.2.1)))
noncomputable def laws_markDyadicS_V (k : Nat) : Variant := ⟨[.own (.pair (.int .i64) (.int .i64)), .val (.int .i64) false], [((.int .i64), false)], fun x => laws_markDyadicS k x.1 x.2.1⟩
noncomputable def laws_markDyadicS_C (k : Nat) : Cfg := ⟨Try.prog, tyOf tys, 27, gOf []⟩
def laws_markDyadicS_ps : List PE := [⟨0, 0, .own (.pair (.int .i64) (.int .i64)), true⟩, ⟨1, 16, .val (.int .i64) false, false⟩]
noncomputable def laws_markDyadicS_F (k : Nat) : Fn (Int × List (Int × Int)) := ⟨laws_markDyadicS_C k, rdRes Try.prog laws_markDyadicS_ps [((.int .i64), false)] Try.f54.results.toList .ret, fun p => bif Nat.beq p 26 then some (.loop [⟨0, 0, .own (.pair (.int .i64) (.int .i64)), true⟩, ⟨1, 32, .val (.int .i64) false, false⟩, ⟨5, 48, .val (.int .i64) false, false⟩] [⟨1, 32, .val (.int .i64) false, false⟩, ⟨0, 0, .own (.pair (.int .i64) (.int .i64)), true⟩] 0 64 ((fun (n : Nat) (x1 : PTe [⟨0, 0, .own (.pair (.int .i64) (.int .i64)), true⟩, ⟨1, 32, .val (.int .i64) false, false⟩, ⟨5, 48, .val (.int .i64) false, false⟩]) => laws_markDyadicS_L26 k n x1.1 x1.2.1 x1.2.2.1) k)) else none, 0, [0]⟩
theorem laws_markDyadicS_eq (k : Nat) (x : PTe laws_markDyadicS_ps) : evFn (laws_markDyadicS_F k) (codeOf Try.f54) laws_markDyadicS_ps 32 x = laws_markDyadicS k x.1 x.2.1 := by kernel_rfl
theorem laws_markDyadicS_ls : loopsOf (codeOf Try.f54) 1 = [(26, loopB (codeOf Try.f54) 26)] := by kernel_rfl
theorem laws_markDyadicS_l26 (k : Nat) : LoopOk (laws_markDyadicS_F k) (loopB (codeOf Try.f54) 26) 26 := LoopOk.mk (pin := [⟨0, 0, .own (.pair (.int .i64) (.int .i64)), true⟩, ⟨1, 32, .val (.int .i64) false, false⟩, ⟨5, 48, .val (.int .i64) false, false⟩]) (pout := [⟨1, 32, .val (.int .i64) false, false⟩, ⟨0, 0, .own (.pair (.int .i64) (.int .i64)), true⟩]) (ex := 0) (nx := 64) (Lf := (fun (n : Nat) (x1 : PTe [⟨0, 0, .own (.pair (.int .i64) (.int .i64)), true⟩, ⟨1, 32, .val (.int .i64) false, false⟩, ⟨5, 48, .val (.int .i64) false, false⟩]) => laws_markDyadicS_L26 k n x1.1 x1.2.1 x1.2.2.1)) (k := k) (by kernel_rfl) (fun _ => rfl) (by intro n x; kernel_rfl)
theorem laws_markDyadicS_K (k : Nat) : Contract Try.prog 54 (laws_markDyadicS_V k) :=
  contract (C := laws_markDyadicS_C k) (F := laws_markDyadicS_F k) (fn := Try.f54) (c := codeOf Try.f54) (ps := laws_markDyadicS_ps) (rs := [((.int .i64), false)]) (nx := 32) ⟨tyOf_ok tys_ok, gOf_ok trivial⟩ rfl (by kernel_rfl) (by kernel_rfl) (by kernel_rfl) (by kernel_rfl) (by kernel_rfl) (by kernel_rfl) rfl (by kernel_rfl) (by kernel_rfl) (AnnOk_list [(26, loopB (codeOf Try.f54) 26)] laws_markDyadicS_ls ⟨laws_markDyadicS_l26 k, trivial⟩) mix_ok (laws_markDyadicS_eq k)

def laws_markDyadicSS_L26 (k : Nat) : Nat → (List (List (Int × Int))) → Int → Int → Option ((Int × List (List (Int × Int))) ⊕ (Int × (List (List (Int × Int))) × Unit))
  | 0, _, _, _ => none
  | n + 1, x0, x1, x5 => (bif (decide (x5 < (x0.length : Int))) then (bif (decide (0 ≤ x5)) then (bif (decide (x5 < (x0.length : Int))) then (Option.bind (laws_markDyadicS k (x0.getD (Int.toNat x5) []) x1) fun r1 => (laws_markDyadicSS_L26 k n (x0.set (Int.toNat x5) r1.2) r1.1 (IntKind.wrap .i64 (x5 + 1)))) else none) else none) else some (Sum.inr (x1, x0, ())))
def laws_markDyadicSS (k : Nat) (a0 : List (List (Int × Int))) (a1 : Int) : Option (Int × List (List (Int × Int))) := (both (R := Int × List (List (Int × Int))) (P := Int × (List (List (Int × Int))) × Unit) (laws_markDyadicSS_L26 k k a0 a1 0) (fun q4 => some q4) (fun y3 => some (y3.1, y3.2.1)))
noncomputable def laws_markDyadicSS_V (k : Nat) : Variant := ⟨[.own (.sl (.pair (.int .i64) (.int .i64))), .val (.int .i64) false], [((.int .i64), false)], fun x => laws_markDyadicSS k x.1 x.2.1⟩
noncomputable def laws_markDyadicSS_C (k : Nat) : Cfg := ⟨Try.prog, tyOf tys, 19, gOf [(54, [], laws_markDyadicS_V k)]⟩
def laws_markDyadicSS_ps : List PE := [⟨0, 0, .own (.sl (.pair (.int .i64) (.int .i64))), true⟩, ⟨1, 16, .val (.int .i64) false, false⟩]
noncomputable def laws_markDyadicSS_F (k : Nat) : Fn (Int × List (List (Int × Int))) := ⟨laws_markDyadicSS_C k, rdRes Try.prog laws_markDyadicSS_ps [((.int .i64), false)] Try.f18.results.toList .ret, fun p => bif Nat.beq p 26 then some (.loop [⟨0, 0, .own (.sl (.pair (.int .i64) (.int .i64))), true⟩, ⟨1, 32, .val (.int .i64) false, false⟩, ⟨5, 48, .val (.int .i64) false, false⟩] [⟨1, 32, .val (.int .i64) false, false⟩, ⟨0, 0, .own (.sl (.pair (.int .i64) (.int .i64))), true⟩] 0 64 ((fun (n : Nat) (x2 : PTe [⟨0, 0, .own (.sl (.pair (.int .i64) (.int .i64))), true⟩, ⟨1, 32, .val (.int .i64) false, false⟩, ⟨5, 48, .val (.int .i64) false, false⟩]) => laws_markDyadicSS_L26 k n x2.1 x2.2.1 x2.2.2.1) k)) else none, 0, [0]⟩
theorem laws_markDyadicSS_eq (k : Nat) (x : PTe laws_markDyadicSS_ps) : evFn (laws_markDyadicSS_F k) (codeOf Try.f18) laws_markDyadicSS_ps 32 x = laws_markDyadicSS k x.1 x.2.1 := by kernel_rfl
theorem laws_markDyadicSS_ls : loopsOf (codeOf Try.f18) 1 = [(26, loopB (codeOf Try.f18) 26)] := by kernel_rfl
theorem laws_markDyadicSS_l26 (k : Nat) : LoopOk (laws_markDyadicSS_F k) (loopB (codeOf Try.f18) 26) 26 := LoopOk.mk (pin := [⟨0, 0, .own (.sl (.pair (.int .i64) (.int .i64))), true⟩, ⟨1, 32, .val (.int .i64) false, false⟩, ⟨5, 48, .val (.int .i64) false, false⟩]) (pout := [⟨1, 32, .val (.int .i64) false, false⟩, ⟨0, 0, .own (.sl (.pair (.int .i64) (.int .i64))), true⟩]) (ex := 0) (nx := 64) (Lf := (fun (n : Nat) (x2 : PTe [⟨0, 0, .own (.sl (.pair (.int .i64) (.int .i64))), true⟩, ⟨1, 32, .val (.int .i64) false, false⟩, ⟨5, 48, .val (.int .i64) false, false⟩]) => laws_markDyadicSS_L26 k n x2.1 x2.2.1 x2.2.2.1)) (k := k) (by kernel_rfl) (fun _ => rfl) (by intro n x; kernel_rfl)
theorem laws_markDyadicSS_K (k : Nat) : Contract Try.prog 18 (laws_markDyadicSS_V k) :=
  contract (C := laws_markDyadicSS_C k) (F := laws_markDyadicSS_F k) (fn := Try.f18) (c := codeOf Try.f18) (ps := laws_markDyadicSS_ps) (rs := [((.int .i64), false)]) (nx := 32) ⟨tyOf_ok tys_ok, gOf_ok ⟨laws_markDyadicS_K k, trivial⟩⟩ rfl (by kernel_rfl) (by kernel_rfl) (by kernel_rfl) (by kernel_rfl) (by kernel_rfl) (by kernel_rfl) rfl (by kernel_rfl) (by kernel_rfl) (AnnOk_list [(26, loopB (codeOf Try.f18) 26)] laws_markDyadicSS_ls ⟨laws_markDyadicSS_l26 k, trivial⟩) mix_ok (laws_markDyadicSS_eq k)

def laws_heldDyadicS_L26 (k : Nat) : Nat → (List (Int × Int)) → Int → Int → Option ((Int) ⊕ (Int × Unit))
  | 0, _, _, _ => none
  | n + 1, x0, x1, x5 => (bif (decide (x5 < (x0.length : Int))) then (bif (decide (0 ≤ x5)) then (bif (decide (x5 < (x0.length : Int))) then (bif ((x0.getD (Int.toNat x5) (0, 0)).1 != x1) then some (Sum.inl (-1)) else (bif (decide (0 ≤ x5)) then (bif (decide (x5 < (x0.length : Int))) then (bif ((x0.getD (Int.toNat x5) (0, 0)).2 != (IntKind.wrap .i64 (x1 + 1))) then some (Sum.inl (-1)) else (laws_heldDyadicS_L26 k n x0 (IntKind.wrap .i64 ((IntKind.wrap .i64 (x1 + 1)) + 1)) (IntKind.wrap .i64 (x5 + 1)))) else none) else none)) else none) else none) else some (Sum.inr (x1, ())))
def laws_heldDyadicS (k : Nat) (a0 : List (Int × Int)) (a1 : Int) : Option (Int) := (both (R := Int) (P := Int × Unit) (laws_heldDyadicS_L26 k k a0 a1 0) (fun q3 => some q3) (fun y2 => some y2.1))
noncomputable def laws_heldDyadicS_V (k : Nat) : Variant := ⟨[.val (.sl (.pair (.int .i64) (.int .i64))) false, .val (.int .i64) false], [((.int .i64), false)], fun x => laws_heldDyadicS k x.1 x.2.1⟩
noncomputable def laws_heldDyadicS_C (k : Nat) : Cfg := ⟨Try.prog, tyOf tys, 31, gOf []⟩
def laws_heldDyadicS_ps : List PE := [⟨0, 0, .val (.sl (.pair (.int .i64) (.int .i64))) false, false⟩, ⟨1, 16, .val (.int .i64) false, false⟩]
noncomputable def laws_heldDyadicS_F (k : Nat) : Fn (Int) := ⟨laws_heldDyadicS_C k, rdRes Try.prog laws_heldDyadicS_ps [((.int .i64), false)] Try.f55.results.toList .ret, fun p => bif Nat.beq p 26 then some (.loop [⟨0, 32, .val (.sl (.pair (.int .i64) (.int .i64))) false, false⟩, ⟨1, 48, .val (.int .i64) false, false⟩, ⟨5, 64, .val (.int .i64) false, false⟩] [⟨1, 32, .val (.int .i64) false, false⟩] 0 80 ((fun (n : Nat) (x1 : PTe [⟨0, 32, .val (.sl (.pair (.int .i64) (.int .i64))) false, false⟩, ⟨1, 48, .val (.int .i64) false, false⟩, ⟨5, 64, .val (.int .i64) false, false⟩]) => laws_heldDyadicS_L26 k n x1.1 x1.2.1 x1.2.2.1) k)) else none, 0, []⟩
theorem laws_heldDyadicS_eq (k : Nat) (x : PTe laws_heldDyadicS_ps) : evFn (laws_heldDyadicS_F k) (codeOf Try.f55) laws_heldDyadicS_ps 32 x = laws_heldDyadicS k x.1 x.2.1 := by kernel_rfl
theorem laws_heldDyadicS_ls : loopsOf (codeOf Try.f55) 1 = [(26, loopB (codeOf Try.f55) 26)] := by kernel_rfl
theorem laws_heldDyadicS_l26 (k : Nat) : LoopOk (laws_heldDyadicS_F k) (loopB (codeOf Try.f55) 26) 26 := LoopOk.mk (pin := [⟨0, 32, .val (.sl (.pair (.int .i64) (.int .i64))) false, false⟩, ⟨1, 48, .val (.int .i64) false, false⟩, ⟨5, 64, .val (.int .i64) false, false⟩]) (pout := [⟨1, 32, .val (.int .i64) false, false⟩]) (ex := 0) (nx := 80) (Lf := (fun (n : Nat) (x1 : PTe [⟨0, 32, .val (.sl (.pair (.int .i64) (.int .i64))) false, false⟩, ⟨1, 48, .val (.int .i64) false, false⟩, ⟨5, 64, .val (.int .i64) false, false⟩]) => laws_heldDyadicS_L26 k n x1.1 x1.2.1 x1.2.2.1)) (k := k) (by kernel_rfl) (fun _ => rfl) (by intro n x; kernel_rfl)
theorem laws_heldDyadicS_K (k : Nat) : Contract Try.prog 55 (laws_heldDyadicS_V k) :=
  contract (C := laws_heldDyadicS_C k) (F := laws_heldDyadicS_F k) (fn := Try.f55) (c := codeOf Try.f55) (ps := laws_heldDyadicS_ps) (rs := [((.int .i64), false)]) (nx := 32) ⟨tyOf_ok tys_ok, gOf_ok trivial⟩ rfl (by kernel_rfl) (by kernel_rfl) (by kernel_rfl) (by kernel_rfl) (by kernel_rfl) (by kernel_rfl) rfl (by kernel_rfl) (by kernel_rfl) (AnnOk_list [(26, loopB (codeOf Try.f55) 26)] laws_heldDyadicS_ls ⟨laws_heldDyadicS_l26 k, trivial⟩) mix_ok (laws_heldDyadicS_eq k)

def laws_heldDyadicSS_L26 (k : Nat) : Nat → (List (List (Int × Int))) → Int → Int → Option ((Int) ⊕ (Int × Unit))
  | 0, _, _, _ => none
  | n + 1, x0, x1, x5 => (bif (decide (x5 < (x0.length : Int))) then (bif (decide (0 ≤ x5)) then (bif (decide (x5 < (x0.length : Int))) then (Option.bind (laws_heldDyadicS k (x0.getD (Int.toNat x5) []) x1) fun r1 => (bif (decide (r1 < 0)) then some (Sum.inl (-1)) else (laws_heldDyadicSS_L26 k n x0 r1 (IntKind.wrap .i64 (x5 + 1))))) else none) else none) else some (Sum.inr (x1, ())))
def laws_heldDyadicSS (k : Nat) (a0 : List (List (Int × Int))) (a1 : Int) : Option (Int) := (both (R := Int) (P := Int × Unit) (laws_heldDyadicSS_L26 k k a0 a1 0) (fun q4 => some q4) (fun y3 => some y3.1))
noncomputable def laws_heldDyadicSS_V (k : Nat) : Variant := ⟨[.val (.sl (.sl (.pair (.int .i64) (.int .i64)))) false, .val (.int .i64) false], [((.int .i64), false)], fun x => laws_heldDyadicSS k x.1 x.2.1⟩
noncomputable def laws_heldDyadicSS_C (k : Nat) : Cfg := ⟨Try.prog, tyOf tys, 21, gOf [(55, [], laws_heldDyadicS_V k)]⟩
def laws_heldDyadicSS_ps : List PE := [⟨0, 0, .val (.sl (.sl (.pair (.int .i64) (.int .i64)))) false, false⟩, ⟨1, 16, .val (.int .i64) false, false⟩]
noncomputable def laws_heldDyadicSS_F (k : Nat) : Fn (Int) := ⟨laws_heldDyadicSS_C k, rdRes Try.prog laws_heldDyadicSS_ps [((.int .i64), false)] Try.f19.results.toList .ret, fun p => bif Nat.beq p 26 then some (.loop [⟨0, 32, .val (.sl (.sl (.pair (.int .i64) (.int .i64)))) false, false⟩, ⟨1, 48, .val (.int .i64) false, false⟩, ⟨5, 64, .val (.int .i64) false, false⟩] [⟨1, 32, .val (.int .i64) false, false⟩] 0 80 ((fun (n : Nat) (x2 : PTe [⟨0, 32, .val (.sl (.sl (.pair (.int .i64) (.int .i64)))) false, false⟩, ⟨1, 48, .val (.int .i64) false, false⟩, ⟨5, 64, .val (.int .i64) false, false⟩]) => laws_heldDyadicSS_L26 k n x2.1 x2.2.1 x2.2.2.1) k)) else none, 0, []⟩
theorem laws_heldDyadicSS_eq (k : Nat) (x : PTe laws_heldDyadicSS_ps) : evFn (laws_heldDyadicSS_F k) (codeOf Try.f19) laws_heldDyadicSS_ps 32 x = laws_heldDyadicSS k x.1 x.2.1 := by kernel_rfl
theorem laws_heldDyadicSS_ls : loopsOf (codeOf Try.f19) 1 = [(26, loopB (codeOf Try.f19) 26)] := by kernel_rfl
theorem laws_heldDyadicSS_l26 (k : Nat) : LoopOk (laws_heldDyadicSS_F k) (loopB (codeOf Try.f19) 26) 26 := LoopOk.mk (pin := [⟨0, 32, .val (.sl (.sl (.pair (.int .i64) (.int .i64)))) false, false⟩, ⟨1, 48, .val (.int .i64) false, false⟩, ⟨5, 64, .val (.int .i64) false, false⟩]) (pout := [⟨1, 32, .val (.int .i64) false, false⟩]) (ex := 0) (nx := 80) (Lf := (fun (n : Nat) (x2 : PTe [⟨0, 32, .val (.sl (.sl (.pair (.int .i64) (.int .i64)))) false, false⟩, ⟨1, 48, .val (.int .i64) false, false⟩, ⟨5, 64, .val (.int .i64) false, false⟩]) => laws_heldDyadicSS_L26 k n x2.1 x2.2.1 x2.2.2.1)) (k := k) (by kernel_rfl) (fun _ => rfl) (by intro n x; kernel_rfl)
theorem laws_heldDyadicSS_K (k : Nat) : Contract Try.prog 19 (laws_heldDyadicSS_V k) :=
  contract (C := laws_heldDyadicSS_C k) (F := laws_heldDyadicSS_F k) (fn := Try.f19) (c := codeOf Try.f19) (ps := laws_heldDyadicSS_ps) (rs := [((.int .i64), false)]) (nx := 32) ⟨tyOf_ok tys_ok, gOf_ok ⟨laws_heldDyadicS_K k, trivial⟩⟩ rfl (by kernel_rfl) (by kernel_rfl) (by kernel_rfl) (by kernel_rfl) (by kernel_rfl) (by kernel_rfl) rfl (by kernel_rfl) (by kernel_rfl) (AnnOk_list [(26, loopB (codeOf Try.f19) 26)] laws_heldDyadicSS_ls ⟨laws_heldDyadicSS_l26 k, trivial⟩) mix_ok (laws_heldDyadicSS_eq k)

def laws_FnExactUnitTable (k : Nat) (a0 : Int) : Option (Bool) := (Option.bind (spec_UnitTable k a0) fun r1 => (Option.bind (impl_UnitTable k a0) fun r2 => (Option.bind (laws_eqDyadicSS k r2.1 r1.1) fun r3 => (bif (!r3) then some false else (bif (!(r2.2 == r1.2)) then some false else (Option.bind (laws_markDyadicSS k r2.1 101) fun r4 => (Option.bind (laws_heldDyadicSS k r4.2 101) fun r5 => (bif (decide (r5 < 0)) then some false else (bif (r5 != r4.1) then some false else (Option.bind (impl_UnitTable k a0) fun r6 => (Option.bind (laws_eqDyadicSS k r6.1 r1.1) fun r7 => (bif (!r7) then some false else (bif (!(r6.2 == r1.2)) then some false else (Option.bind (laws_heldDyadicSS k r4.2 101) fun r8 => (bif (decide (r8 < 0)) then some false else (bif (r8 != r4.1) then some false else some true))))))))))))))))
noncomputable def laws_FnExactUnitTable_V (k : Nat) : Variant := ⟨[.val (.int .i64) false], [(.bool, false)], fun x => laws_FnExactUnitTable k x.1⟩
noncomputable def laws_FnExactUnitTable_C (k : Nat) : Cfg := ⟨Try.prog, tyOf tys, 63, gOf [(15, [], spec_UnitTable_V k), (16, [], impl_UnitTable_V k), (17, [], laws_eqDyadicSS_V k), (18, [], laws_markDyadicSS_V k), (19, [], laws_heldDyadicSS_V k)]⟩
def laws_FnExactUnitTable_ps : List PE := [⟨0, 0, .val (.int .i64) false, false⟩]
noncomputable def laws_FnExactUnitTable_F (k : Nat) : Fn (Bool) := ⟨laws_FnExactUnitTable_C k, rdRes Try.prog laws_FnExactUnitTable_ps [(.bool, false)] Try.f4.results.toList .ret, fun p => none, 0, []⟩
theorem laws_FnExactUnitTable_eq (k : Nat) (x : PTe laws_FnExactUnitTable_ps) : evFn (laws_FnExactUnitTable_F k) (codeOf Try.f4) laws_FnExactUnitTable_ps 16 x = laws_FnExactUnitTable k x.1 := by kernel_rfl
theorem laws_FnExactUnitTable_K (k : Nat) : Contract Try.prog 4 (laws_FnExactUnitTable_V k) :=
  contract (C := laws_FnExactUnitTable_C k) (F := laws_FnExactUnitTable_F k) (fn := Try.f4) (c := codeOf Try.f4) (ps := laws_FnExactUnitTable_ps) (rs := [(.bool, false)]) (nx := 16) ⟨tyOf_ok tys_ok, gOf_ok ⟨spec_UnitTable_K k, impl_UnitTable_K k, laws_eqDyadicSS_K k, laws_markDyadicSS_K k, laws_heldDyadicSS_K k, trivial⟩⟩ rfl (by kernel_rfl) (by kernel_rfl) (by kernel_rfl) (by kernel_rfl) (by kernel_rfl) (by kernel_rfl) rfl (by kernel_rfl) (by kernel_rfl) (AnnOk_list [] (by kernel_rfl) trivial) mix_ok (laws_FnExactUnitTable_eq k)

theorem unit_in {a0 : Int} (h : ¬ (1 ≤ a0 ∧ a0 ≤ 3)) : spec_l1In a0 1 3 = some false ∧ impl_inside a0 1 3 = some false := by
  unfold impl_inside spec_l1In
  by_cases h0 : 1 ≤ a0
  · have : ¬ a0 ≤ 3 := fun h2 => h ⟨h0, h2⟩
    simp [h0, this]
  · simp [h0]

theorem unit_1 : laws_FnExactUnitTable 200 1 = some true := by kernel_rfl
theorem unit_2 : laws_FnExactUnitTable 200 2 = some true := by kernel_rfl
theorem unit_3 : laws_FnExactUnitTable 200 3 = some true := by kernel_rfl
theorem unit_0 : laws_FnExactUnitTable 200 0 = some true := by kernel_rfl

theorem unit_true (a0 : Int) (_ : True) : ∃ k, laws_FnExactUnitTable k a0 = some true := by
  refine ⟨200, ?_⟩
  by_cases h : 1 ≤ a0 ∧ a0 ≤ 3
  · obtain ⟨h0, h2⟩ := h
    have h3 : a0 = 1 ∨ a0 = 2 ∨ a0 = 3 := by omega
    rcases h3 with rfl | rfl | rfl
    · exact unit_1
    · exact unit_2
    · exact unit_3
  · obtain ⟨h1, h2⟩ := unit_in h
    obtain ⟨g1, g2⟩ := unit_in (a0 := 0) (by decide)
    have e1 : spec_UnitTable 200 a0 = spec_UnitTable 200 0 := by
      unfold spec_UnitTable
      rw [h1, g1]
      rfl
    have e2 : impl_UnitTable 200 a0 = impl_UnitTable 200 0 := by
      unfold impl_UnitTable
      rw [h2, g2]
      rfl
    have := unit_0
    unfold laws_FnExactUnitTable at this ⊢
    rw [e1, e2]
    exact this
end Go.Ev.CUnitTable
