/- The contracts of the functions behind FnExactInverseJacobian: a call of each returns what its plain function computes; for all inputs within the sizes named. -/
import Derived.Test.YtndgjjaolajkjaaGreatPInverseJacobian1
import Derived.Test.YtndgjjaolajkjaaGreatKInverseJacobian1
set_option linter.unusedVariables false
namespace Go.Ev.G
open Go Go.Ev Go.Proofs
set_option maxRecDepth 100000
noncomputable def slices_Concat_Dyadic_Dyadic_V (k : Nat) : Variant := ⟨[.val ty_14 false], [(ty_11, false)], fun x => slices_Concat_Dyadic_Dyadic k x.1⟩
noncomputable def slices_Concat_Dyadic_Dyadic_C (k : Nat) : Cfg := ⟨Tryz.prog, tyOf tys, 36, gOf [(295, [], slices_Grow_Dyadic_Dyadic_V)], false, [], []⟩
def slices_Concat_Dyadic_Dyadic_i58 : List PE := [⟨0, 16, .val ty_14 false, false⟩, ⟨3, 32, .val ty_0 false, false⟩, ⟨9, 48, .val ty_14 false, false⟩, ⟨10, 64, .val ty_0 false, false⟩, ⟨11, 80, .val ty_0 false, false⟩]
def slices_Concat_Dyadic_Dyadic_o58 : List PE := [⟨0, 16, .val ty_14 false, false⟩, ⟨3, 32, .val ty_0 false, false⟩]
noncomputable def slices_Concat_Dyadic_Dyadic_f58 (k : Nat) (n : Nat) (x1 : PTe slices_Concat_Dyadic_Dyadic_i58) : Option ((List (Int × Int)) ⊕ PTe slices_Concat_Dyadic_Dyadic_o58) := slices_Concat_Dyadic_Dyadic_L58 k n x1.1 x1.2.1 x1.2.2.1 x1.2.2.2.1 x1.2.2.2.2.1
def slices_Concat_Dyadic_Dyadic_i250 : List PE := [⟨6, 16, .eat ty_1, false⟩, ⟨25, 32, .val ty_14 false, false⟩, ⟨26, 48, .val ty_0 false, false⟩, ⟨27, 64, .val ty_0 false, false⟩]
def slices_Concat_Dyadic_Dyadic_o250 : List PE := [⟨6, 16, .eat ty_1, false⟩]
noncomputable def slices_Concat_Dyadic_Dyadic_f250 (k : Nat) (n : Nat) (x5 : PTe slices_Concat_Dyadic_Dyadic_i250) : Option ((List (Int × Int)) ⊕ PTe slices_Concat_Dyadic_Dyadic_o250) := slices_Concat_Dyadic_Dyadic_L250 k n x5.1 x5.2.1 x5.2.2.1 x5.2.2.2.1
def slices_Concat_Dyadic_Dyadic_ps : List PE := [⟨0, 0, .val ty_14 false, false⟩]
noncomputable def slices_Concat_Dyadic_Dyadic_F (k : Nat) : Fn (List (Int × Int)) := ⟨slices_Concat_Dyadic_Dyadic_C k, rdRes Tryz.prog slices_Concat_Dyadic_Dyadic_ps [(ty_11, false)] Tryz.f280.results.toList .ret, fun p => bif Nat.beq p 58 then some (.loop slices_Concat_Dyadic_Dyadic_i58 slices_Concat_Dyadic_Dyadic_o58 0 96 (slices_Concat_Dyadic_Dyadic_f58 k k)) else bif Nat.beq p 250 then some (.loop slices_Concat_Dyadic_Dyadic_i250 slices_Concat_Dyadic_Dyadic_o250 2 80 (slices_Concat_Dyadic_Dyadic_f250 k k)) else none, 0, []⟩
theorem slices_Concat_Dyadic_Dyadic_eq (k : Nat) (x : PTe slices_Concat_Dyadic_Dyadic_ps) : evFn (slices_Concat_Dyadic_Dyadic_F k) (codeOf Tryz.f280) slices_Concat_Dyadic_Dyadic_ps 16 x = slices_Concat_Dyadic_Dyadic k x.1 := by kernel_rfl
theorem slices_Concat_Dyadic_Dyadic_ls : loopsOf (codeOf Tryz.f280) 1 = [(58, loopB (codeOf Tryz.f280) 58), (250, loopB (codeOf Tryz.f280) 250)] := by kernel_rfl
theorem slices_Concat_Dyadic_Dyadic_l58 (k : Nat) : LoopOk (slices_Concat_Dyadic_Dyadic_F k) (loopB (codeOf Tryz.f280) 58) 58 := LoopOk.mk (pin := slices_Concat_Dyadic_Dyadic_i58) (pout := slices_Concat_Dyadic_Dyadic_o58) (ex := 0) (nx := 96) (Lf := slices_Concat_Dyadic_Dyadic_f58 k) (k := k) (by kernel_rfl) (fun _ => rfl) (by intro n x; kernel_rfl)
theorem slices_Concat_Dyadic_Dyadic_l250 (k : Nat) : LoopOk (slices_Concat_Dyadic_Dyadic_F k) (loopB (codeOf Tryz.f280) 250) 250 := LoopOk.mk (pin := slices_Concat_Dyadic_Dyadic_i250) (pout := slices_Concat_Dyadic_Dyadic_o250) (ex := 2) (nx := 80) (Lf := slices_Concat_Dyadic_Dyadic_f250 k) (k := k) (by kernel_rfl) (fun _ => rfl) (by intro n x; kernel_rfl)
theorem slices_Concat_Dyadic_Dyadic_K (k : Nat) : Contract Tryz.prog 280 (slices_Concat_Dyadic_Dyadic_V k) :=
  contract (C := slices_Concat_Dyadic_Dyadic_C k) (F := slices_Concat_Dyadic_Dyadic_F k) (fn := Tryz.f280) (ps := slices_Concat_Dyadic_Dyadic_ps) (rs := [(ty_11, false)]) (nx := 16) ⟨tyOf_ok tys_ok, gOf_ok ⟨slices_Grow_Dyadic_Dyadic_K, trivial⟩⟩ rfl (by kernel_rfl) (by kernel_rfl) (by kernel_rfl) (by kernel_rfl) (by kernel_rfl) (by kernel_rfl) rfl (by kernel_rfl) (by kernel_rfl) (AnnOk_list [(58, loopB (codeOf Tryz.f280) 58), (250, loopB (codeOf Tryz.f280) 250)] slices_Concat_Dyadic_Dyadic_ls ⟨slices_Concat_Dyadic_Dyadic_l58 k, slices_Concat_Dyadic_Dyadic_l250 k, trivial⟩) mix_ok (slices_Concat_Dyadic_Dyadic_eq k)

noncomputable def impl_part_Dyadic_V (k : Nat) : Variant := ⟨[.val ty_14 false, .val ty_0 false, .val ty_0 false], [(ty_14, false)], fun x => impl_part_Dyadic k x.1 x.2.1 x.2.2.1⟩
noncomputable def impl_part_Dyadic_C (k : Nat) : Cfg := ⟨Tryz.prog, tyOf tys, 34, gOf [(280, [], slices_Concat_Dyadic_Dyadic_V k)], false, [], [28]⟩
def impl_part_Dyadic_i58 : List PE := [⟨1, 48, .val ty_0 false, false⟩, ⟨2, 64, .val ty_0 false, false⟩, ⟨7, 80, .eat ty_11, false⟩, ⟨10, 96, .val ty_14 false, false⟩, ⟨11, 112, .val ty_0 false, false⟩, ⟨12, 128, .val ty_0 false, false⟩]
def impl_part_Dyadic_o58 : List PE := [⟨7, 48, .eat ty_11, false⟩]
noncomputable def impl_part_Dyadic_f58 (k : Nat) (n : Nat) (x2 : PTe impl_part_Dyadic_i58) : Option ((List (List (Int × Int))) ⊕ PTe impl_part_Dyadic_o58) := impl_part_Dyadic_L58 k n x2.1 x2.2.1 x2.2.2.1 x2.2.2.2.1 x2.2.2.2.2.1 x2.2.2.2.2.2.1
def impl_part_Dyadic_ps : List PE := [⟨0, 0, .val ty_14 false, false⟩, ⟨1, 16, .val ty_0 false, false⟩, ⟨2, 32, .val ty_0 false, false⟩]
noncomputable def impl_part_Dyadic_F (k : Nat) : Fn (List (List (Int × Int))) := ⟨impl_part_Dyadic_C k, rdRes Tryz.prog impl_part_Dyadic_ps [(ty_14, false)] Tryz.f250.results.toList .ret, fun p => bif Nat.beq p 58 then some (.loop impl_part_Dyadic_i58 impl_part_Dyadic_o58 0 144 (impl_part_Dyadic_f58 k k)) else none, 0, []⟩
theorem impl_part_Dyadic_eq (k : Nat) (x : PTe impl_part_Dyadic_ps) : evFn (impl_part_Dyadic_F k) (codeOf Tryz.f250) impl_part_Dyadic_ps 48 x = impl_part_Dyadic k x.1 x.2.1 x.2.2.1 := by kernel_rfl
theorem impl_part_Dyadic_ls : loopsOf (codeOf Tryz.f250) 1 = [(58, loopB (codeOf Tryz.f250) 58)] := by kernel_rfl
theorem impl_part_Dyadic_l58 (k : Nat) : LoopOk (impl_part_Dyadic_F k) (loopB (codeOf Tryz.f250) 58) 58 := LoopOk.mk (pin := impl_part_Dyadic_i58) (pout := impl_part_Dyadic_o58) (ex := 0) (nx := 144) (Lf := impl_part_Dyadic_f58 k) (k := k) (by kernel_rfl) (fun _ => rfl) (by intro n x; kernel_rfl)
theorem impl_part_Dyadic_K (k : Nat) : Contract Tryz.prog 250 (impl_part_Dyadic_V k) :=
  contract (C := impl_part_Dyadic_C k) (F := impl_part_Dyadic_F k) (fn := Tryz.f250) (ps := impl_part_Dyadic_ps) (rs := [(ty_14, false)]) (nx := 48) ⟨tyOf_ok tys_ok, gOf_ok ⟨slices_Concat_Dyadic_Dyadic_K k, trivial⟩⟩ rfl (by kernel_rfl) (by kernel_rfl) (by kernel_rfl) (by kernel_rfl) (by kernel_rfl) (by kernel_rfl) rfl (by kernel_rfl) (by kernel_rfl) (AnnOk_list [(58, loopB (codeOf Tryz.f250) 58)] impl_part_Dyadic_ls ⟨impl_part_Dyadic_l58 k, trivial⟩) mix_ok (impl_part_Dyadic_eq k)

noncomputable def impl_reckoner_total_V (k : Nat) : Variant := ⟨[.ptr .bool true, .val ty_11 false], [(ty_1, true)], fun x => impl_reckoner_total k x.1 x.2.1⟩
noncomputable def impl_reckoner_total_C (k : Nat) : Cfg := ⟨Tryz.prog, tyOf tys, 24, gOf [(179, [], impl_reckoner_sum_V k)], false, [], []⟩
def impl_reckoner_total_i58 : List PE := [⟨0, 0, .ptr .bool true, true⟩, ⟨4, 32, .box ty_1 false, false⟩, ⟨5, 48, .box ty_1 false, false⟩, ⟨12, 64, .val ty_11 false, false⟩, ⟨13, 80, .val ty_0 false, false⟩, ⟨14, 96, .val ty_0 false, false⟩]
def impl_reckoner_total_o58 : List PE := [⟨4, 32, .box ty_1 false, false⟩, ⟨5, 48, .box ty_1 false, false⟩, ⟨0, 0, .ptr .bool true, true⟩]
noncomputable def impl_reckoner_total_f58 (k : Nat) (n : Nat) (x2 : PTe impl_reckoner_total_i58) : Option (((Int × Int) × Bool) ⊕ PTe impl_reckoner_total_o58) := impl_reckoner_total_L58 k n x2.1 x2.2.1 x2.2.2.1 x2.2.2.2.1 x2.2.2.2.2.1 x2.2.2.2.2.2.1
def impl_reckoner_total_ps : List PE := [⟨0, 0, .ptr .bool true, true⟩, ⟨1, 16, .val ty_11 false, false⟩]
noncomputable def impl_reckoner_total_F (k : Nat) : Fn ((Int × Int) × Bool) := ⟨impl_reckoner_total_C k, rdRes Tryz.prog impl_reckoner_total_ps [(ty_1, true)] Tryz.f251.results.toList .ret, fun p => bif Nat.beq p 58 then some (.loop impl_reckoner_total_i58 impl_reckoner_total_o58 0 112 (impl_reckoner_total_f58 k k)) else none, 0, [0]⟩
theorem impl_reckoner_total_eq (k : Nat) (x : PTe impl_reckoner_total_ps) : evFn (impl_reckoner_total_F k) (codeOf Tryz.f251) impl_reckoner_total_ps 32 x = impl_reckoner_total k x.1 x.2.1 := by kernel_rfl
theorem impl_reckoner_total_ls : loopsOf (codeOf Tryz.f251) 1 = [(58, loopB (codeOf Tryz.f251) 58)] := by kernel_rfl
theorem impl_reckoner_total_l58 (k : Nat) : LoopOk (impl_reckoner_total_F k) (loopB (codeOf Tryz.f251) 58) 58 := LoopOk.mk (pin := impl_reckoner_total_i58) (pout := impl_reckoner_total_o58) (ex := 0) (nx := 112) (Lf := impl_reckoner_total_f58 k) (k := k) (by kernel_rfl) (fun _ => rfl) (by intro n x; kernel_rfl)
theorem impl_reckoner_total_K (k : Nat) : Contract Tryz.prog 251 (impl_reckoner_total_V k) :=
  contract (C := impl_reckoner_total_C k) (F := impl_reckoner_total_F k) (fn := Tryz.f251) (ps := impl_reckoner_total_ps) (rs := [(ty_1, true)]) (nx := 32) ⟨tyOf_ok tys_ok, gOf_ok ⟨impl_reckoner_sum_K k, trivial⟩⟩ rfl (by kernel_rfl) (by kernel_rfl) (by kernel_rfl) (by kernel_rfl) (by kernel_rfl) (by kernel_rfl) rfl (by kernel_rfl) (by kernel_rfl) (AnnOk_list [(58, loopB (codeOf Tryz.f251) 58)] impl_reckoner_total_ls ⟨impl_reckoner_total_l58 k, trivial⟩) mix_ok (impl_reckoner_total_eq k)

noncomputable def impl_reckoner_determinant_V (k : Nat) : Variant := ⟨[.ptr .bool true, .val ty_14 false], [(ty_1, true)], fun x => impl_reckoner_determinant k x.1 x.2.1⟩
noncomputable def impl_reckoner_determinant_W (rc : Bool → (List (List (Int × Int))) → Option ((Int × Int) × Bool)) : Variant := ⟨[.ptr .bool true, .val ty_14 false], [(ty_1, true)], fun x => rc x.1 x.2.1⟩
noncomputable def impl_reckoner_determinant_C (k : Nat) (rc : Bool → (List (List (Int × Int))) → Option ((Int × Int) × Bool)) : Cfg := ⟨Tryz.prog, tyOf tys, 47, gOf [(250, [], impl_part_Dyadic_V k), (194, [], impl_reckoner_determinant_W rc), (175, [], impl_reckoner_product_V k), (232, [], impl_minus_V), (251, [], impl_reckoner_total_V k)], false, [], []⟩
def impl_reckoner_determinant_i122 : List PE := [⟨0, 0, .ptr .bool true, true⟩, ⟨1, 32, .val ty_14 false, false⟩, ⟨4, 48, .box ty_1 false, false⟩, ⟨5, 64, .eat ty_1, false⟩, ⟨19, 80, .val ty_11 false, false⟩, ⟨20, 96, .val ty_0 false, false⟩, ⟨21, 112, .val ty_0 false, false⟩]
def impl_reckoner_determinant_o122 : List PE := [⟨0, 0, .ptr .bool true, true⟩, ⟨4, 32, .box ty_1 false, false⟩, ⟨5, 48, .eat ty_1, false⟩]
noncomputable def impl_reckoner_determinant_f122 (k : Nat) (rc : Bool → (List (List (Int × Int))) → Option ((Int × Int) × Bool)) (n : Nat) (x7 : PTe impl_reckoner_determinant_i122) : Option (((Int × Int) × Bool) ⊕ PTe impl_reckoner_determinant_o122) := impl_reckoner_determinant_L122 k rc n x7.1 x7.2.1 x7.2.2.1 x7.2.2.2.1 x7.2.2.2.2.1 x7.2.2.2.2.2.1 x7.2.2.2.2.2.2.1
def impl_reckoner_determinant_ps : List PE := [⟨0, 0, .ptr .bool true, true⟩, ⟨1, 16, .val ty_14 false, false⟩]
noncomputable def impl_reckoner_determinant_F (k : Nat) (rc : Bool → (List (List (Int × Int))) → Option ((Int × Int) × Bool)) : Fn ((Int × Int) × Bool) := ⟨impl_reckoner_determinant_C k rc, rdRes Tryz.prog impl_reckoner_determinant_ps [(ty_1, true)] Tryz.f194.results.toList .ret, fun p => bif Nat.beq p 31334 then some (.cut [⟨0, 0, .ptr .bool true, true⟩, ⟨1, 32, .val ty_14 false, false⟩, ⟨4, 48, .box ty_1 false, false⟩, ⟨5, 64, .eat ty_1, false⟩, ⟨8, 80, .box ty_1 false, false⟩, ⟨19, 96, .val ty_11 false, false⟩, ⟨20, 112, .val ty_0 false, false⟩, ⟨21, 128, .val ty_0 false, false⟩] 144) else bif Nat.beq p 122 then some (.loop impl_reckoner_determinant_i122 impl_reckoner_determinant_o122 0 128 (impl_reckoner_determinant_f122 k rc k)) else none, 0, [0]⟩
theorem impl_reckoner_determinant_eq (k : Nat) (rc : Bool → (List (List (Int × Int))) → Option ((Int × Int) × Bool)) (x : PTe impl_reckoner_determinant_ps) : evFn (impl_reckoner_determinant_F k rc) (codeOf Tryz.f194) impl_reckoner_determinant_ps 32 x = impl_reckoner_determinant_B k rc x.1 x.2.1 := by kernel_rfl
theorem impl_reckoner_determinant_ls : loopsOf (codeOf Tryz.f194) 1 = [(122, loopB (codeOf Tryz.f194) 122)] := by kernel_rfl
theorem impl_reckoner_determinant_l122 (k : Nat) (rc : Bool → (List (List (Int × Int))) → Option ((Int × Int) × Bool)) : LoopOk (impl_reckoner_determinant_F k rc) (loopB (codeOf Tryz.f194) 122) 122 := LoopOk.mk (pin := impl_reckoner_determinant_i122) (pout := impl_reckoner_determinant_o122) (ex := 0) (nx := 128) (Lf := impl_reckoner_determinant_f122 k rc) (k := k) (by kernel_rfl) (fun _ => rfl) (by intro n x; kernel_rfl)
theorem impl_reckoner_determinant_KB (k : Nat) (rc : Bool → (List (List (Int × Int))) → Option ((Int × Int) × Bool)) (hrc : Contract Tryz.prog 194 (impl_reckoner_determinant_W rc)) : Contract Tryz.prog 194 (impl_reckoner_determinant_W (impl_reckoner_determinant_B k rc)) :=
  contract (C := impl_reckoner_determinant_C k rc) (F := impl_reckoner_determinant_F k rc) (fn := Tryz.f194) (ps := impl_reckoner_determinant_ps) (rs := [(ty_1, true)]) (nx := 32) ⟨tyOf_ok tys_ok, gOf_ok ⟨impl_part_Dyadic_K k, hrc, impl_reckoner_product_K k, impl_minus_K, impl_reckoner_total_K k, trivial⟩⟩ rfl (by kernel_rfl) (by kernel_rfl) (by kernel_rfl) (by kernel_rfl) (by kernel_rfl) (by kernel_rfl) rfl (by kernel_rfl) (by kernel_rfl) (AnnOk_list [(122, loopB (codeOf Tryz.f194) 122)] impl_reckoner_determinant_ls ⟨impl_reckoner_determinant_l122 k rc, trivial⟩) mix_ok (impl_reckoner_determinant_eq k rc)
theorem impl_reckoner_determinant_KR (k : Nat) : ∀ n, Contract Tryz.prog 194 (impl_reckoner_determinant_W (impl_reckoner_determinant_R k n))
  | 0 => contract_none fun _ => rfl
  | n + 1 => impl_reckoner_determinant_KB k _ (impl_reckoner_determinant_KR k n)
theorem impl_reckoner_determinant_K (k : Nat) : Contract Tryz.prog 194 (impl_reckoner_determinant_V k) := impl_reckoner_determinant_KR k k

noncomputable def impl_adjoint_V (k : Nat) : Variant := ⟨[.val ty_14 false], [(ty_14, false), (.bool, false)], fun x => impl_adjoint k x.1⟩
noncomputable def impl_adjoint_C (k : Nat) : Cfg := ⟨Tryz.prog, tyOf tys, 57, gOf [(252, [], impl_integer_V), (250, [], impl_part_Dyadic_V k), (194, [], impl_reckoner_determinant_V k), (232, [], impl_minus_V)], false, [], []⟩
def impl_adjoint_i256410 : List PE := [⟨0, 16, .val ty_14 false, false⟩, ⟨4, 32, .box .bool false, false⟩, ⟨5, 48, .eat ty_11, false⟩, ⟨6, 64, .val ty_0 false, false⟩, ⟨7, 80, .eat ty_1, false⟩, ⟨19, 96, .val ty_0 false, false⟩, ⟨20, 112, .val ty_0 false, false⟩, ⟨24, 128, .val ty_0 false, false⟩, ⟨25, 144, .val ty_0 false, false⟩]
def impl_adjoint_o256410 : List PE := [⟨0, 16, .val ty_14 false, false⟩, ⟨4, 32, .box .bool false, false⟩, ⟨5, 48, .eat ty_11, false⟩, ⟨7, 64, .eat ty_1, false⟩, ⟨19, 80, .val ty_0 false, false⟩, ⟨20, 96, .val ty_0 false, false⟩]
noncomputable def impl_adjoint_f256410 (k : Nat) (n : Nat) (x7 : PTe impl_adjoint_i256410) : Option (((List (List (Int × Int))) × Bool) ⊕ PTe impl_adjoint_o256410) := impl_adjoint_L256410 k n x7.1 x7.2.1 x7.2.2.1 x7.2.2.2.1 x7.2.2.2.2.1 x7.2.2.2.2.2.1 x7.2.2.2.2.2.2.1 x7.2.2.2.2.2.2.2.1 x7.2.2.2.2.2.2.2.2.1
def impl_adjoint_i250 : List PE := [⟨0, 16, .val ty_14 false, false⟩, ⟨4, 32, .box .bool false, false⟩, ⟨5, 48, .eat ty_11, false⟩, ⟨19, 64, .val ty_0 false, false⟩, ⟨20, 80, .val ty_0 false, false⟩]
def impl_adjoint_o250 : List PE := [⟨4, 16, .box .bool false, false⟩, ⟨5, 32, .eat ty_11, false⟩]
noncomputable def impl_adjoint_f250 (k : Nat) (n : Nat) (x10 : PTe impl_adjoint_i250) : Option (((List (List (Int × Int))) × Bool) ⊕ PTe impl_adjoint_o250) := impl_adjoint_L250 k n x10.1 x10.2.1 x10.2.2.1 x10.2.2.2.1 x10.2.2.2.2.1
def impl_adjoint_ps : List PE := [⟨0, 0, .val ty_14 false, false⟩]
noncomputable def impl_adjoint_F (k : Nat) : Fn ((List (List (Int × Int))) × Bool) := ⟨impl_adjoint_C k, rdRes Tryz.prog impl_adjoint_ps [(ty_14, false), (.bool, false)] Tryz.f195.results.toList .ret, fun p => bif Nat.beq p 65641062 then some (.cut [⟨0, 16, .val ty_14 false, false⟩, ⟨4, 32, .box .bool false, false⟩, ⟨5, 48, .eat ty_11, false⟩, ⟨6, 64, .val ty_0 false, false⟩, ⟨7, 80, .eat ty_1, false⟩, ⟨9, 96, .box ty_1 false, false⟩, ⟨19, 112, .val ty_0 false, false⟩, ⟨20, 128, .val ty_0 false, false⟩, ⟨24, 144, .val ty_0 false, false⟩, ⟨25, 160, .val ty_0 false, false⟩] 176) else bif Nat.beq p 256410 then some (.loop impl_adjoint_i256410 impl_adjoint_o256410 2 160 (impl_adjoint_f256410 k k)) else bif Nat.beq p 250 then some (.loop impl_adjoint_i250 impl_adjoint_o250 0 96 (impl_adjoint_f250 k k)) else none, 0, []⟩
theorem impl_adjoint_eq (k : Nat) (x : PTe impl_adjoint_ps) : evFn (impl_adjoint_F k) (codeOf Tryz.f195) impl_adjoint_ps 16 x = impl_adjoint k x.1 := by kernel_rfl
theorem impl_adjoint_ls : loopsOf (codeOf Tryz.f195) 1 = [(250, loopB (codeOf Tryz.f195) 250), (256410, loopB (codeOf Tryz.f195) 256410)] := by kernel_rfl
theorem impl_adjoint_l256410 (k : Nat) : LoopOk (impl_adjoint_F k) (loopB (codeOf Tryz.f195) 256410) 256410 := LoopOk.mk (pin := impl_adjoint_i256410) (pout := impl_adjoint_o256410) (ex := 2) (nx := 160) (Lf := impl_adjoint_f256410 k) (k := k) (by kernel_rfl) (fun _ => rfl) (by intro n x; kernel_rfl)
theorem impl_adjoint_l250 (k : Nat) : LoopOk (impl_adjoint_F k) (loopB (codeOf Tryz.f195) 250) 250 := LoopOk.mk (pin := impl_adjoint_i250) (pout := impl_adjoint_o250) (ex := 0) (nx := 96) (Lf := impl_adjoint_f250 k) (k := k) (by kernel_rfl) (fun _ => rfl) (by intro n x; kernel_rfl)
theorem impl_adjoint_K (k : Nat) : Contract Tryz.prog 195 (impl_adjoint_V k) :=
  contract (C := impl_adjoint_C k) (F := impl_adjoint_F k) (fn := Tryz.f195) (ps := impl_adjoint_ps) (rs := [(ty_14, false), (.bool, false)]) (nx := 16) ⟨tyOf_ok tys_ok, gOf_ok ⟨impl_integer_K, impl_part_Dyadic_K k, impl_reckoner_determinant_K k, impl_minus_K, trivial⟩⟩ rfl (by kernel_rfl) (by kernel_rfl) (by kernel_rfl) (by kernel_rfl) (by kernel_rfl) (by kernel_rfl) rfl (by kernel_rfl) (by kernel_rfl) (AnnOk_list [(250, loopB (codeOf Tryz.f195) 250), (256410, loopB (codeOf Tryz.f195) 256410)] impl_adjoint_ls ⟨impl_adjoint_l250 k, impl_adjoint_l256410 k, trivial⟩) mix_ok (impl_adjoint_eq k)

noncomputable def math_bits_Len64_V : Variant := ⟨[.val ty_15 false], [(ty_0, false)], fun x => math_bits_Len64 x.1⟩
noncomputable def math_bits_Len64_C : Cfg := ⟨Tryz.prog, tyOf tys, 25, gOf [], false, [], []⟩
def math_bits_Len64_ps : List PE := [⟨0, 0, .val ty_15 false, false⟩]
noncomputable def math_bits_Len64_F : Fn (Int) := ⟨math_bits_Len64_C, rdRes Tryz.prog math_bits_Len64_ps [(ty_0, false)] Tryz.f296.results.toList .ret, fun p => bif Nat.beq p 30 then some (.cut [⟨0, 16, .val ty_15 false, false⟩, ⟨2, 32, .val ty_0 false, false⟩] 48) else bif Nat.beq p 14 then some (.cut [⟨0, 16, .val ty_15 false, false⟩, ⟨2, 32, .val ty_0 false, false⟩] 48) else bif Nat.beq p 6 then some (.cut [⟨0, 16, .val ty_15 false, false⟩, ⟨2, 32, .val ty_0 false, false⟩] 48) else none, 0, []⟩
theorem math_bits_Len64_eq (x : PTe math_bits_Len64_ps) : evFn (math_bits_Len64_F) (codeOf Tryz.f296) math_bits_Len64_ps 16 x = math_bits_Len64 x.1 := by kernel_rfl
theorem math_bits_Len64_K : Contract Tryz.prog 296 (math_bits_Len64_V) :=
  contract (C := math_bits_Len64_C) (F := math_bits_Len64_F) (fn := Tryz.f296) (ps := math_bits_Len64_ps) (rs := [(ty_0, false)]) (nx := 16) ⟨tyOf_ok tys_ok, gOf_ok trivial⟩ rfl (by kernel_rfl) (by kernel_rfl) (by kernel_rfl) (by kernel_rfl) (by kernel_rfl) (by kernel_rfl) rfl (by kernel_rfl) (by kernel_rfl) (AnnOk_list [] (by kernel_rfl) trivial) mix_ok (math_bits_Len64_eq)

noncomputable def math_bits_LeadingZeros64_V : Variant := ⟨[.val ty_15 false], [(ty_0, false)], fun x => math_bits_LeadingZeros64 x.1⟩
noncomputable def math_bits_LeadingZeros64_C : Cfg := ⟨Tryz.prog, tyOf tys, 6, gOf [(296, [], math_bits_Len64_V)], false, [], []⟩
def math_bits_LeadingZeros64_ps : List PE := [⟨0, 0, .val ty_15 false, false⟩]
noncomputable def math_bits_LeadingZeros64_F : Fn (Int) := ⟨math_bits_LeadingZeros64_C, rdRes Tryz.prog math_bits_LeadingZeros64_ps [(ty_0, false)] Tryz.f281.results.toList .ret, fun p => none, 0, []⟩
theorem math_bits_LeadingZeros64_eq (x : PTe math_bits_LeadingZeros64_ps) : evFn (math_bits_LeadingZeros64_F) (codeOf Tryz.f281) math_bits_LeadingZeros64_ps 16 x = math_bits_LeadingZeros64 x.1 := by kernel_rfl
theorem math_bits_LeadingZeros64_K : Contract Tryz.prog 281 (math_bits_LeadingZeros64_V) :=
  contract (C := math_bits_LeadingZeros64_C) (F := math_bits_LeadingZeros64_F) (fn := Tryz.f281) (ps := math_bits_LeadingZeros64_ps) (rs := [(ty_0, false)]) (nx := 16) ⟨tyOf_ok tys_ok, gOf_ok ⟨math_bits_Len64_K, trivial⟩⟩ rfl (by kernel_rfl) (by kernel_rfl) (by kernel_rfl) (by kernel_rfl) (by kernel_rfl) (by kernel_rfl) rfl (by kernel_rfl) (by kernel_rfl) (AnnOk_list [] (by kernel_rfl) trivial) mix_ok (math_bits_LeadingZeros64_eq)

noncomputable def math_bits_Div64_V (k : Nat) : Variant := ⟨[.val ty_15 false, .val ty_15 false, .val ty_15 false], [(ty_15, false), (ty_15, false)], fun x => math_bits_Div64 k x.1 x.2.1 x.2.2.1⟩
noncomputable def math_bits_Div64_C (k : Nat) : Cfg := ⟨Tryz.prog, tyOf tys, 135, gOf [(281, [], math_bits_LeadingZeros64_V)], false, [], []⟩
def math_bits_Div64_i131068 : List PE := [⟨2, 48, .val ty_15 false, false⟩, ⟨8, 64, .val ty_15 false, false⟩, ⟨9, 80, .val ty_15 false, false⟩, ⟨10, 96, .val ty_15 false, false⟩, ⟨11, 112, .val ty_15 false, false⟩, ⟨13, 128, .val ty_15 false, false⟩, ⟨14, 144, .val ty_15 false, false⟩, ⟨15, 160, .val ty_15 false, false⟩, ⟨16, 176, .val ty_15 false, false⟩]
def math_bits_Div64_o131068 : List PE := [⟨2, 48, .val ty_15 false, false⟩, ⟨8, 64, .val ty_15 false, false⟩, ⟨9, 80, .val ty_15 false, false⟩, ⟨10, 96, .val ty_15 false, false⟩, ⟨11, 112, .val ty_15 false, false⟩, ⟨13, 128, .val ty_15 false, false⟩, ⟨14, 144, .val ty_15 false, false⟩, ⟨15, 160, .val ty_15 false, false⟩]
noncomputable def math_bits_Div64_f131068 (k : Nat) (n : Nat) (x2 : PTe math_bits_Div64_i131068) : Option ((Int × Int) ⊕ PTe math_bits_Div64_o131068) := math_bits_Div64_L131068 k n x2.1 x2.2.1 x2.2.2.1 x2.2.2.2.1 x2.2.2.2.2.1 x2.2.2.2.2.2.1 x2.2.2.2.2.2.2.1 x2.2.2.2.2.2.2.2.1 x2.2.2.2.2.2.2.2.2.1
def math_bits_Div64_i2097148 : List PE := [⟨2, 48, .val ty_15 false, false⟩, ⟨8, 64, .val ty_15 false, false⟩, ⟨9, 80, .val ty_15 false, false⟩, ⟨10, 96, .val ty_15 false, false⟩, ⟨14, 112, .val ty_15 false, false⟩, ⟨15, 128, .val ty_15 false, false⟩, ⟨16, 144, .val ty_15 false, false⟩, ⟨17, 160, .val ty_15 false, false⟩, ⟨18, 176, .val ty_15 false, false⟩]
def math_bits_Div64_o2097148 : List PE := [⟨2, 48, .val ty_15 false, false⟩, ⟨8, 64, .val ty_15 false, false⟩, ⟨14, 80, .val ty_15 false, false⟩, ⟨15, 96, .val ty_15 false, false⟩, ⟨17, 112, .val ty_15 false, false⟩, ⟨18, 128, .val ty_15 false, false⟩]
noncomputable def math_bits_Div64_f2097148 (k : Nat) (n : Nat) (x5 : PTe math_bits_Div64_i2097148) : Option ((Int × Int) ⊕ PTe math_bits_Div64_o2097148) := math_bits_Div64_L2097148 k n x5.1 x5.2.1 x5.2.2.1 x5.2.2.2.1 x5.2.2.2.2.1 x5.2.2.2.2.2.1 x5.2.2.2.2.2.2.1 x5.2.2.2.2.2.2.2.1 x5.2.2.2.2.2.2.2.2.1
def math_bits_Div64_ps : List PE := [⟨0, 0, .val ty_15 false, false⟩, ⟨1, 16, .val ty_15 false, false⟩, ⟨2, 32, .val ty_15 false, false⟩]
noncomputable def math_bits_Div64_F (k : Nat) : Fn (Int × Int) := ⟨math_bits_Div64_C k, rdRes Tryz.prog math_bits_Div64_ps [(ty_15, false), (ty_15, false)] Tryz.f253.results.toList .ret, fun p => bif Nat.beq p 131068 then some (.loop math_bits_Div64_i131068 math_bits_Div64_o131068 0 192 (math_bits_Div64_f131068 k k)) else bif Nat.beq p 2097148 then some (.loop math_bits_Div64_i2097148 math_bits_Div64_o2097148 2 192 (math_bits_Div64_f2097148 k k)) else none, 0, []⟩
theorem math_bits_Div64_eq (k : Nat) (x : PTe math_bits_Div64_ps) : evFn (math_bits_Div64_F k) (codeOf Tryz.f253) math_bits_Div64_ps 48 x = math_bits_Div64 k x.1 x.2.1 x.2.2.1 := by kernel_rfl
theorem math_bits_Div64_ls : loopsOf (codeOf Tryz.f253) 1 = [(131068, loopB (codeOf Tryz.f253) 131068), (2097148, loopB (codeOf Tryz.f253) 2097148)] := by kernel_rfl
theorem math_bits_Div64_l131068 (k : Nat) : LoopOk (math_bits_Div64_F k) (loopB (codeOf Tryz.f253) 131068) 131068 := LoopOk.mk (pin := math_bits_Div64_i131068) (pout := math_bits_Div64_o131068) (ex := 0) (nx := 192) (Lf := math_bits_Div64_f131068 k) (k := k) (by kernel_rfl) (fun _ => rfl) (by intro n x; kernel_rfl)
theorem math_bits_Div64_l2097148 (k : Nat) : LoopOk (math_bits_Div64_F k) (loopB (codeOf Tryz.f253) 2097148) 2097148 := LoopOk.mk (pin := math_bits_Div64_i2097148) (pout := math_bits_Div64_o2097148) (ex := 2) (nx := 192) (Lf := math_bits_Div64_f2097148 k) (k := k) (by kernel_rfl) (fun _ => rfl) (by intro n x; kernel_rfl)
theorem math_bits_Div64_K (k : Nat) : Contract Tryz.prog 253 (math_bits_Div64_V k) :=
  contract (C := math_bits_Div64_C k) (F := math_bits_Div64_F k) (fn := Tryz.f253) (ps := math_bits_Div64_ps) (rs := [(ty_15, false), (ty_15, false)]) (nx := 48) ⟨tyOf_ok tys_ok, gOf_ok ⟨math_bits_LeadingZeros64_K, trivial⟩⟩ rfl (by kernel_rfl) (by kernel_rfl) (by kernel_rfl) (by kernel_rfl) (by kernel_rfl) (by kernel_rfl) rfl (by kernel_rfl) (by kernel_rfl) (AnnOk_list [(131068, loopB (codeOf Tryz.f253) 131068), (2097148, loopB (codeOf Tryz.f253) 2097148)] math_bits_Div64_ls ⟨math_bits_Div64_l131068 k, math_bits_Div64_l2097148 k, trivial⟩) mix_ok (math_bits_Div64_eq k)

noncomputable def impl_quotientDown_V (k : Nat) : Variant := ⟨[.val ty_0 false, .val ty_0 false, .val ty_0 false, .val ty_0 false], [(ty_1, true), (.bool, false)], fun x => impl_quotientDown k x.1 x.2.1 x.2.2.1 x.2.2.2.1⟩
noncomputable def impl_quotientDown_C (k : Nat) : Cfg := ⟨Tryz.prog, tyOf tys, 88, gOf [(187, [], impl_wideOf_V), (188, [], impl_wide_shift_V), (241, [], impl_size_V), (253, [], math_bits_Div64_V k), (243, [], impl_compareSizes_V k), (189, [], impl_wide_add_V k), (190, [], impl_wide_fit_V k)], false, [], []⟩
def impl_quotientDown_ps : List PE := [⟨0, 0, .val ty_0 false, false⟩, ⟨1, 16, .val ty_0 false, false⟩, ⟨2, 32, .val ty_0 false, false⟩, ⟨3, 48, .val ty_0 false, false⟩]
noncomputable def impl_quotientDown_F (k : Nat) : Fn ((Int × Int) × Bool) := ⟨impl_quotientDown_C k, rdRes Tryz.prog impl_quotientDown_ps [(ty_1, true), (.bool, false)] Tryz.f196.results.toList .ret, fun p => bif Nat.beq p 1022 then some (.cut [⟨3, 64, .val ty_0 false, false⟩, ⟨8, 80, .box ty_1 false, false⟩, ⟨16, 96, .box ty_17 false, false⟩] 112) else bif Nat.beq p 1022 then some (.cut [⟨3, 64, .val ty_0 false, false⟩, ⟨8, 80, .box ty_1 false, false⟩, ⟨16, 96, .box ty_17 false, false⟩] 112) else none, 0, []⟩
theorem impl_quotientDown_eq (k : Nat) (x : PTe impl_quotientDown_ps) : evFn (impl_quotientDown_F k) (codeOf Tryz.f196) impl_quotientDown_ps 64 x = impl_quotientDown k x.1 x.2.1 x.2.2.1 x.2.2.2.1 := by kernel_rfl
theorem impl_quotientDown_K (k : Nat) : Contract Tryz.prog 196 (impl_quotientDown_V k) :=
  contract (C := impl_quotientDown_C k) (F := impl_quotientDown_F k) (fn := Tryz.f196) (ps := impl_quotientDown_ps) (rs := [(ty_1, true), (.bool, false)]) (nx := 64) ⟨tyOf_ok tys_ok, gOf_ok ⟨impl_wideOf_K, impl_wide_shift_K, impl_size_K, math_bits_Div64_K k, impl_compareSizes_K k, impl_wide_add_K k, impl_wide_fit_K k, trivial⟩⟩ rfl (by kernel_rfl) (by kernel_rfl) (by kernel_rfl) (by kernel_rfl) (by kernel_rfl) (by kernel_rfl) rfl (by kernel_rfl) (by kernel_rfl) (AnnOk_list [] (by kernel_rfl) trivial) mix_ok (impl_quotientDown_eq k)

noncomputable def impl_roundedInverse_V (k : Nat) : Variant := ⟨[.val ty_14 false, .val ty_0 false], [(ty_14, false), (.bool, false)], fun x => impl_roundedInverse k x.1 x.2.1⟩
noncomputable def impl_roundedInverse_C (k : Nat) : Cfg := ⟨Tryz.prog, tyOf tys, 77, gOf [(194, [], impl_reckoner_determinant_V k), (195, [], impl_adjoint_V k), (196, [], impl_quotientDown_V k), (126, [], impl_reckoner_keep_V)], false, [11, 44, 51], []⟩
def impl_roundedInverse_i129638 : List PE := [⟨38, 48, .same 8, false⟩, ⟨44, 64, .same 11, false⟩, ⟨11, 32, .vw 8, false⟩, ⟨1, 80, .val ty_0 false, false⟩, ⟨6, 96, .box .bool false, false⟩, ⟨7, 112, .box ty_1 false, false⟩, ⟨8, 128, .eat ty_11, false⟩, ⟨39, 144, .val ty_0 false, false⟩, ⟨40, 160, .val ty_0 false, false⟩, ⟨45, 176, .val ty_0 false, false⟩, ⟨46, 192, .val ty_0 false, false⟩]
def impl_roundedInverse_o129638 : List PE := [⟨38, 32, .same 8, false⟩, ⟨1, 48, .val ty_0 false, false⟩, ⟨6, 64, .box .bool false, false⟩, ⟨7, 80, .box ty_1 false, false⟩, ⟨8, 96, .eat ty_11, false⟩, ⟨39, 112, .val ty_0 false, false⟩, ⟨40, 128, .val ty_0 false, false⟩]
noncomputable def impl_roundedInverse_f129638 (k : Nat) (n : Nat) (x5 : PTe impl_roundedInverse_i129638) : Option (((List (List (Int × Int))) × Bool) ⊕ PTe impl_roundedInverse_o129638) := impl_roundedInverse_L129638 k n x5.1 x5.2.1 x5.2.2.1 x5.2.2.2.1 x5.2.2.2.2.1 x5.2.2.2.2.2.1 x5.2.2.2.2.2.2.1 x5.2.2.2.2.2.2.2.1 x5.2.2.2.2.2.2.2.2.1 x5.2.2.2.2.2.2.2.2.2.1 x5.2.2.2.2.2.2.2.2.2.2.1
def impl_roundedInverse_i506 : List PE := [⟨38, 32, .same 8, false⟩, ⟨1, 48, .val ty_0 false, false⟩, ⟨6, 64, .box .bool false, false⟩, ⟨7, 80, .box ty_1 false, false⟩, ⟨8, 96, .eat ty_11, false⟩, ⟨39, 112, .val ty_0 false, false⟩, ⟨40, 128, .val ty_0 false, false⟩]
def impl_roundedInverse_o506 : List PE := [⟨6, 32, .box .bool false, false⟩, ⟨8, 48, .eat ty_11, false⟩]
noncomputable def impl_roundedInverse_f506 (k : Nat) (n : Nat) (x8 : PTe impl_roundedInverse_i506) : Option (((List (List (Int × Int))) × Bool) ⊕ PTe impl_roundedInverse_o506) := impl_roundedInverse_L506 k n x8.1 x8.2.1 x8.2.2.1 x8.2.2.2.1 x8.2.2.2.2.1 x8.2.2.2.2.2.1 x8.2.2.2.2.2.2.1
def impl_roundedInverse_ps : List PE := [⟨0, 0, .val ty_14 false, false⟩, ⟨1, 16, .val ty_0 false, false⟩]
noncomputable def impl_roundedInverse_F (k : Nat) : Fn ((List (List (Int × Int))) × Bool) := ⟨impl_roundedInverse_C k, rdRes Tryz.prog impl_roundedInverse_ps [(ty_14, false), (.bool, false)] Tryz.f130.results.toList .ret, fun p => bif Nat.beq p 129638 then some (.loop impl_roundedInverse_i129638 impl_roundedInverse_o129638 2 208 (impl_roundedInverse_f129638 k k)) else bif Nat.beq p 506 then some (.loop impl_roundedInverse_i506 impl_roundedInverse_o506 0 144 (impl_roundedInverse_f506 k k)) else none, 0, []⟩
theorem impl_roundedInverse_eq (k : Nat) (x : PTe impl_roundedInverse_ps) : evFn (impl_roundedInverse_F k) (codeOf Tryz.f130) impl_roundedInverse_ps 32 x = impl_roundedInverse k x.1 x.2.1 := by kernel_rfl
theorem impl_roundedInverse_ls : loopsOf (codeOf Tryz.f130) 1 = [(506, loopB (codeOf Tryz.f130) 506), (129638, loopB (codeOf Tryz.f130) 129638)] := by kernel_rfl
theorem impl_roundedInverse_l129638 (k : Nat) : LoopOk (impl_roundedInverse_F k) (loopB (codeOf Tryz.f130) 129638) 129638 := LoopOk.mk (pin := impl_roundedInverse_i129638) (pout := impl_roundedInverse_o129638) (ex := 2) (nx := 208) (Lf := impl_roundedInverse_f129638 k) (k := k) (by kernel_rfl) (fun _ => rfl) (by intro n x; kernel_rfl)
theorem impl_roundedInverse_l506 (k : Nat) : LoopOk (impl_roundedInverse_F k) (loopB (codeOf Tryz.f130) 506) 506 := LoopOk.mk (pin := impl_roundedInverse_i506) (pout := impl_roundedInverse_o506) (ex := 0) (nx := 144) (Lf := impl_roundedInverse_f506 k) (k := k) (by kernel_rfl) (fun _ => rfl) (by intro n x; kernel_rfl)
theorem impl_roundedInverse_K (k : Nat) : Contract Tryz.prog 130 (impl_roundedInverse_V k) :=
  contract (C := impl_roundedInverse_C k) (F := impl_roundedInverse_F k) (fn := Tryz.f130) (ps := impl_roundedInverse_ps) (rs := [(ty_14, false), (.bool, false)]) (nx := 32) ⟨tyOf_ok tys_ok, gOf_ok ⟨impl_reckoner_determinant_K k, impl_adjoint_K k, impl_quotientDown_K k, impl_reckoner_keep_K, trivial⟩⟩ rfl (by kernel_rfl) (by kernel_rfl) (by kernel_rfl) (by kernel_rfl) (by kernel_rfl) (by kernel_rfl) rfl (by kernel_rfl) (by kernel_rfl) (AnnOk_list [(506, loopB (codeOf Tryz.f130) 506), (129638, loopB (codeOf Tryz.f130) 129638)] impl_roundedInverse_ls ⟨impl_roundedInverse_l506 k, impl_roundedInverse_l129638 k, trivial⟩) mix_ok (impl_roundedInverse_eq k)

noncomputable def impl_inverseJacobian_V (k : Nat) : Variant := ⟨[.val ty_5 false, .ptr ty_9 false], [(ty_14, false), (.bool, false)], fun x => impl_inverseJacobian k x.1 x.2.1⟩
noncomputable def impl_inverseJacobian_C (k : Nat) : Cfg := ⟨Tryz.prog, tyOf tys, 20, gOf [(79, [], impl_middleJacobian_V k), (130, [], impl_roundedInverse_V k)], false, [], []⟩
def impl_inverseJacobian_ps : List PE := [⟨0, 0, .val ty_5 false, false⟩, ⟨1, 16, .ptr ty_9 false, false⟩]
noncomputable def impl_inverseJacobian_F (k : Nat) : Fn ((List (List (Int × Int))) × Bool) := ⟨impl_inverseJacobian_C k, rdRes Tryz.prog impl_inverseJacobian_ps [(ty_14, false), (.bool, false)] Tryz.f84.results.toList .ret, fun p => none, 0, []⟩
theorem impl_inverseJacobian_eq (k : Nat) (x : PTe impl_inverseJacobian_ps) : evFn (impl_inverseJacobian_F k) (codeOf Tryz.f84) impl_inverseJacobian_ps 32 x = impl_inverseJacobian k x.1 x.2.1 := by kernel_rfl
theorem impl_inverseJacobian_K (k : Nat) : Contract Tryz.prog 84 (impl_inverseJacobian_V k) :=
  contract (C := impl_inverseJacobian_C k) (F := impl_inverseJacobian_F k) (fn := Tryz.f84) (ps := impl_inverseJacobian_ps) (rs := [(ty_14, false), (.bool, false)]) (nx := 32) ⟨tyOf_ok tys_ok, gOf_ok ⟨impl_middleJacobian_K k, impl_roundedInverse_K k, trivial⟩⟩ rfl (by kernel_rfl) (by kernel_rfl) (by kernel_rfl) (by kernel_rfl) (by kernel_rfl) (by kernel_rfl) rfl (by kernel_rfl) (by kernel_rfl) (AnnOk_list [] (by kernel_rfl) trivial) mix_ok (impl_inverseJacobian_eq k)

noncomputable def impl_InverseJacobian_V (k : Nat) : Variant := ⟨[.val ty_5 false, .val ty_9 true], [(ty_14, false), (.bool, false)], fun x => impl_InverseJacobian k x.1 x.2.1⟩
noncomputable def impl_InverseJacobian_C (k : Nat) : Cfg := ⟨Tryz.prog, tyOf tys, 13, gOf [(78, [], impl_newtonFits_V k), (84, [], impl_inverseJacobian_V k)], false, [], []⟩
def impl_InverseJacobian_ps : List PE := [⟨0, 0, .val ty_5 false, false⟩, ⟨1, 16, .val ty_9 true, false⟩]
noncomputable def impl_InverseJacobian_F (k : Nat) : Fn ((List (List (Int × Int))) × Bool) := ⟨impl_InverseJacobian_C k, rdRes Tryz.prog impl_InverseJacobian_ps [(ty_14, false), (.bool, false)] Tryz.f36.results.toList .ret, fun p => none, 0, []⟩
theorem impl_InverseJacobian_eq (k : Nat) (x : PTe impl_InverseJacobian_ps) : evFn (impl_InverseJacobian_F k) (codeOf Tryz.f36) impl_InverseJacobian_ps 32 x = impl_InverseJacobian k x.1 x.2.1 := by kernel_rfl
theorem impl_InverseJacobian_K (k : Nat) : Contract Tryz.prog 36 (impl_InverseJacobian_V k) :=
  contract (C := impl_InverseJacobian_C k) (F := impl_InverseJacobian_F k) (fn := Tryz.f36) (ps := impl_InverseJacobian_ps) (rs := [(ty_14, false), (.bool, false)]) (nx := 32) ⟨tyOf_ok tys_ok, gOf_ok ⟨impl_newtonFits_K k, impl_inverseJacobian_K k, trivial⟩⟩ rfl (by kernel_rfl) (by kernel_rfl) (by kernel_rfl) (by kernel_rfl) (by kernel_rfl) (by kernel_rfl) rfl (by kernel_rfl) (by kernel_rfl) (AnnOk_list [] (by kernel_rfl) trivial) mix_ok (impl_InverseJacobian_eq k)

noncomputable def laws_eqDyadic_V : Variant := ⟨[.val ty_1 true, .val ty_1 true], [(.bool, false)], fun x => laws_eqDyadic x.1 x.2.1⟩
noncomputable def laws_eqDyadic_C : Cfg := ⟨Tryz.prog, tyOf tys, 15, gOf [], false, [], []⟩
def laws_eqDyadic_ps : List PE := [⟨0, 0, .val ty_1 true, false⟩, ⟨1, 16, .val ty_1 true, false⟩]
noncomputable def laws_eqDyadic_F : Fn (Bool) := ⟨laws_eqDyadic_C, rdRes Tryz.prog laws_eqDyadic_ps [(.bool, false)] Tryz.f128.results.toList .ret, fun p => none, 0, []⟩
theorem laws_eqDyadic_eq (x : PTe laws_eqDyadic_ps) : evFn (laws_eqDyadic_F) (codeOf Tryz.f128) laws_eqDyadic_ps 32 x = laws_eqDyadic x.1 x.2.1 := by kernel_rfl
theorem laws_eqDyadic_K : Contract Tryz.prog 128 (laws_eqDyadic_V) :=
  contract (C := laws_eqDyadic_C) (F := laws_eqDyadic_F) (fn := Tryz.f128) (ps := laws_eqDyadic_ps) (rs := [(.bool, false)]) (nx := 32) ⟨tyOf_ok tys_ok, gOf_ok trivial⟩ rfl (by kernel_rfl) (by kernel_rfl) (by kernel_rfl) (by kernel_rfl) (by kernel_rfl) (by kernel_rfl) rfl (by kernel_rfl) (by kernel_rfl) (AnnOk_list [] (by kernel_rfl) trivial) mix_ok (laws_eqDyadic_eq)

noncomputable def laws_eqDyadicS_V (k : Nat) : Variant := ⟨[.val ty_11 false, .val ty_11 false], [(.bool, false)], fun x => laws_eqDyadicS k x.1 x.2.1⟩
noncomputable def laws_eqDyadicS_C (k : Nat) : Cfg := ⟨Tryz.prog, tyOf tys, 27, gOf [(128, [], laws_eqDyadic_V)], false, [], []⟩
def laws_eqDyadicS_i58 : List PE := [⟨0, 32, .val ty_11 false, false⟩, ⟨1, 48, .val ty_11 false, false⟩, ⟨5, 64, .val ty_0 false, false⟩]
def laws_eqDyadicS_o58 : List PE := []
noncomputable def laws_eqDyadicS_f58 (k : Nat) (n : Nat) (x2 : PTe laws_eqDyadicS_i58) : Option ((Bool) ⊕ PTe laws_eqDyadicS_o58) := laws_eqDyadicS_L58 k n x2.1 x2.2.1 x2.2.2.1
def laws_eqDyadicS_ps : List PE := [⟨0, 0, .val ty_11 false, false⟩, ⟨1, 16, .val ty_11 false, false⟩]
noncomputable def laws_eqDyadicS_F (k : Nat) : Fn (Bool) := ⟨laws_eqDyadicS_C k, rdRes Tryz.prog laws_eqDyadicS_ps [(.bool, false)] Tryz.f80.results.toList .ret, fun p => bif Nat.beq p 58 then some (.loop laws_eqDyadicS_i58 laws_eqDyadicS_o58 0 80 (laws_eqDyadicS_f58 k k)) else none, 0, []⟩
theorem laws_eqDyadicS_eq (k : Nat) (x : PTe laws_eqDyadicS_ps) : evFn (laws_eqDyadicS_F k) (codeOf Tryz.f80) laws_eqDyadicS_ps 32 x = laws_eqDyadicS k x.1 x.2.1 := by kernel_rfl
theorem laws_eqDyadicS_ls : loopsOf (codeOf Tryz.f80) 1 = [(58, loopB (codeOf Tryz.f80) 58)] := by kernel_rfl
theorem laws_eqDyadicS_l58 (k : Nat) : LoopOk (laws_eqDyadicS_F k) (loopB (codeOf Tryz.f80) 58) 58 := LoopOk.mk (pin := laws_eqDyadicS_i58) (pout := laws_eqDyadicS_o58) (ex := 0) (nx := 80) (Lf := laws_eqDyadicS_f58 k) (k := k) (by kernel_rfl) (fun _ => rfl) (by intro n x; kernel_rfl)
theorem laws_eqDyadicS_K (k : Nat) : Contract Tryz.prog 80 (laws_eqDyadicS_V k) :=
  contract (C := laws_eqDyadicS_C k) (F := laws_eqDyadicS_F k) (fn := Tryz.f80) (ps := laws_eqDyadicS_ps) (rs := [(.bool, false)]) (nx := 32) ⟨tyOf_ok tys_ok, gOf_ok ⟨laws_eqDyadic_K, trivial⟩⟩ rfl (by kernel_rfl) (by kernel_rfl) (by kernel_rfl) (by kernel_rfl) (by kernel_rfl) (by kernel_rfl) rfl (by kernel_rfl) (by kernel_rfl) (AnnOk_list [(58, loopB (codeOf Tryz.f80) 58)] laws_eqDyadicS_ls ⟨laws_eqDyadicS_l58 k, trivial⟩) mix_ok (laws_eqDyadicS_eq k)

noncomputable def laws_eqDyadicSS_V (k : Nat) : Variant := ⟨[.val ty_14 false, .val ty_14 false], [(.bool, false)], fun x => laws_eqDyadicSS k x.1 x.2.1⟩
noncomputable def laws_eqDyadicSS_C (k : Nat) : Cfg := ⟨Tryz.prog, tyOf tys, 27, gOf [(80, [], laws_eqDyadicS_V k)], false, [], []⟩
def laws_eqDyadicSS_i58 : List PE := [⟨0, 32, .val ty_14 false, false⟩, ⟨1, 48, .val ty_14 false, false⟩, ⟨5, 64, .val ty_0 false, false⟩]
def laws_eqDyadicSS_o58 : List PE := []
noncomputable def laws_eqDyadicSS_f58 (k : Nat) (n : Nat) (x2 : PTe laws_eqDyadicSS_i58) : Option ((Bool) ⊕ PTe laws_eqDyadicSS_o58) := laws_eqDyadicSS_L58 k n x2.1 x2.2.1 x2.2.2.1
def laws_eqDyadicSS_ps : List PE := [⟨0, 0, .val ty_14 false, false⟩, ⟨1, 16, .val ty_14 false, false⟩]
noncomputable def laws_eqDyadicSS_F (k : Nat) : Fn (Bool) := ⟨laws_eqDyadicSS_C k, rdRes Tryz.prog laws_eqDyadicSS_ps [(.bool, false)] Tryz.f31.results.toList .ret, fun p => bif Nat.beq p 58 then some (.loop laws_eqDyadicSS_i58 laws_eqDyadicSS_o58 0 80 (laws_eqDyadicSS_f58 k k)) else none, 0, []⟩
theorem laws_eqDyadicSS_eq (k : Nat) (x : PTe laws_eqDyadicSS_ps) : evFn (laws_eqDyadicSS_F k) (codeOf Tryz.f31) laws_eqDyadicSS_ps 32 x = laws_eqDyadicSS k x.1 x.2.1 := by kernel_rfl
theorem laws_eqDyadicSS_ls : loopsOf (codeOf Tryz.f31) 1 = [(58, loopB (codeOf Tryz.f31) 58)] := by kernel_rfl
theorem laws_eqDyadicSS_l58 (k : Nat) : LoopOk (laws_eqDyadicSS_F k) (loopB (codeOf Tryz.f31) 58) 58 := LoopOk.mk (pin := laws_eqDyadicSS_i58) (pout := laws_eqDyadicSS_o58) (ex := 0) (nx := 80) (Lf := laws_eqDyadicSS_f58 k) (k := k) (by kernel_rfl) (fun _ => rfl) (by intro n x; kernel_rfl)
theorem laws_eqDyadicSS_K (k : Nat) : Contract Tryz.prog 31 (laws_eqDyadicSS_V k) :=
  contract (C := laws_eqDyadicSS_C k) (F := laws_eqDyadicSS_F k) (fn := Tryz.f31) (ps := laws_eqDyadicSS_ps) (rs := [(.bool, false)]) (nx := 32) ⟨tyOf_ok tys_ok, gOf_ok ⟨laws_eqDyadicS_K k, trivial⟩⟩ rfl (by kernel_rfl) (by kernel_rfl) (by kernel_rfl) (by kernel_rfl) (by kernel_rfl) (by kernel_rfl) rfl (by kernel_rfl) (by kernel_rfl) (AnnOk_list [(58, loopB (codeOf Tryz.f31) 58)] laws_eqDyadicSS_ls ⟨laws_eqDyadicSS_l58 k, trivial⟩) mix_ok (laws_eqDyadicSS_eq k)

noncomputable def laws_eqTerm_V : Variant := ⟨[.val ty_3 true, .val ty_3 true], [(.bool, false)], fun x => laws_eqTerm x.1 x.2.1⟩
noncomputable def laws_eqTerm_C : Cfg := ⟨Tryz.prog, tyOf tys, 25, gOf [], false, [], []⟩
def laws_eqTerm_ps : List PE := [⟨0, 0, .val ty_3 true, false⟩, ⟨1, 16, .val ty_3 true, false⟩]
noncomputable def laws_eqTerm_F : Fn (Bool) := ⟨laws_eqTerm_C, rdRes Tryz.prog laws_eqTerm_ps [(.bool, false)] Tryz.f163.results.toList .ret, fun p => none, 0, []⟩
theorem laws_eqTerm_eq (x : PTe laws_eqTerm_ps) : evFn (laws_eqTerm_F) (codeOf Tryz.f163) laws_eqTerm_ps 32 x = laws_eqTerm x.1 x.2.1 := by kernel_rfl
theorem laws_eqTerm_K : Contract Tryz.prog 163 (laws_eqTerm_V) :=
  contract (C := laws_eqTerm_C) (F := laws_eqTerm_F) (fn := Tryz.f163) (ps := laws_eqTerm_ps) (rs := [(.bool, false)]) (nx := 32) ⟨tyOf_ok tys_ok, gOf_ok trivial⟩ rfl (by kernel_rfl) (by kernel_rfl) (by kernel_rfl) (by kernel_rfl) (by kernel_rfl) (by kernel_rfl) rfl (by kernel_rfl) (by kernel_rfl) (AnnOk_list [] (by kernel_rfl) trivial) mix_ok (laws_eqTerm_eq)

noncomputable def laws_eqTermS_V (k : Nat) : Variant := ⟨[.val ty_4 false, .val ty_4 false], [(.bool, false)], fun x => laws_eqTermS k x.1 x.2.1⟩
noncomputable def laws_eqTermS_C (k : Nat) : Cfg := ⟨Tryz.prog, tyOf tys, 27, gOf [(163, [], laws_eqTerm_V)], false, [], []⟩
def laws_eqTermS_i58 : List PE := [⟨0, 32, .val ty_4 false, false⟩, ⟨1, 48, .val ty_4 false, false⟩, ⟨5, 64, .val ty_0 false, false⟩]
def laws_eqTermS_o58 : List PE := []
noncomputable def laws_eqTermS_f58 (k : Nat) (n : Nat) (x2 : PTe laws_eqTermS_i58) : Option ((Bool) ⊕ PTe laws_eqTermS_o58) := laws_eqTermS_L58 k n x2.1 x2.2.1 x2.2.2.1
def laws_eqTermS_ps : List PE := [⟨0, 0, .val ty_4 false, false⟩, ⟨1, 16, .val ty_4 false, false⟩]
noncomputable def laws_eqTermS_F (k : Nat) : Fn (Bool) := ⟨laws_eqTermS_C k, rdRes Tryz.prog laws_eqTermS_ps [(.bool, false)] Tryz.f102.results.toList .ret, fun p => bif Nat.beq p 58 then some (.loop laws_eqTermS_i58 laws_eqTermS_o58 0 80 (laws_eqTermS_f58 k k)) else none, 0, []⟩
theorem laws_eqTermS_eq (k : Nat) (x : PTe laws_eqTermS_ps) : evFn (laws_eqTermS_F k) (codeOf Tryz.f102) laws_eqTermS_ps 32 x = laws_eqTermS k x.1 x.2.1 := by kernel_rfl
theorem laws_eqTermS_ls : loopsOf (codeOf Tryz.f102) 1 = [(58, loopB (codeOf Tryz.f102) 58)] := by kernel_rfl
theorem laws_eqTermS_l58 (k : Nat) : LoopOk (laws_eqTermS_F k) (loopB (codeOf Tryz.f102) 58) 58 := LoopOk.mk (pin := laws_eqTermS_i58) (pout := laws_eqTermS_o58) (ex := 0) (nx := 80) (Lf := laws_eqTermS_f58 k) (k := k) (by kernel_rfl) (fun _ => rfl) (by intro n x; kernel_rfl)
theorem laws_eqTermS_K (k : Nat) : Contract Tryz.prog 102 (laws_eqTermS_V k) :=
  contract (C := laws_eqTermS_C k) (F := laws_eqTermS_F k) (fn := Tryz.f102) (ps := laws_eqTermS_ps) (rs := [(.bool, false)]) (nx := 32) ⟨tyOf_ok tys_ok, gOf_ok ⟨laws_eqTerm_K, trivial⟩⟩ rfl (by kernel_rfl) (by kernel_rfl) (by kernel_rfl) (by kernel_rfl) (by kernel_rfl) (by kernel_rfl) rfl (by kernel_rfl) (by kernel_rfl) (AnnOk_list [(58, loopB (codeOf Tryz.f102) 58)] laws_eqTermS_ls ⟨laws_eqTermS_l58 k, trivial⟩) mix_ok (laws_eqTermS_eq k)

noncomputable def laws_intactTermS_V (k : Nat) : Variant := ⟨[.val ty_6 false, .val ty_6 false], [(.bool, false)], fun x => laws_intactTermS k x.1 x.2.1⟩
noncomputable def laws_intactTermS_C (k : Nat) : Cfg := ⟨Tryz.prog, tyOf tys, 26, gOf [(48, [], laws_roomBehind_V), (102, [], laws_eqTermS_V k)], false, [], []⟩
def laws_intactTermS_ps : List PE := [⟨0, 0, .val ty_6 false, false⟩, ⟨1, 16, .val ty_6 false, false⟩]
noncomputable def laws_intactTermS_F (k : Nat) : Fn (Bool) := ⟨laws_intactTermS_C k, rdRes Tryz.prog laws_intactTermS_ps [(.bool, false)] Tryz.f54.results.toList .ret, fun p => none, 0, []⟩
theorem laws_intactTermS_eq (k : Nat) (x : PTe laws_intactTermS_ps) : evFn (laws_intactTermS_F k) (codeOf Tryz.f54) laws_intactTermS_ps 32 x = laws_intactTermS k x.1 x.2.1 := by kernel_rfl
theorem laws_intactTermS_K (k : Nat) : Contract Tryz.prog 54 (laws_intactTermS_V k) :=
  contract (C := laws_intactTermS_C k) (F := laws_intactTermS_F k) (fn := Tryz.f54) (ps := laws_intactTermS_ps) (rs := [(.bool, false)]) (nx := 32) ⟨tyOf_ok tys_ok, gOf_ok ⟨laws_roomBehind_K, laws_eqTermS_K k, trivial⟩⟩ rfl (by kernel_rfl) (by kernel_rfl) (by kernel_rfl) (by kernel_rfl) (by kernel_rfl) (by kernel_rfl) rfl (by kernel_rfl) (by kernel_rfl) (AnnOk_list [] (by kernel_rfl) trivial) mix_ok (laws_intactTermS_eq k)

noncomputable def laws_eqTermSS_V (k : Nat) : Variant := ⟨[.val ty_5 false, .val ty_5 false], [(.bool, false)], fun x => laws_eqTermSS k x.1 x.2.1⟩
noncomputable def laws_eqTermSS_C (k : Nat) : Cfg := ⟨Tryz.prog, tyOf tys, 27, gOf [(102, [], laws_eqTermS_V k)], false, [], []⟩
def laws_eqTermSS_i58 : List PE := [⟨0, 32, .val ty_5 false, false⟩, ⟨1, 48, .val ty_5 false, false⟩, ⟨5, 64, .val ty_0 false, false⟩]
def laws_eqTermSS_o58 : List PE := []
noncomputable def laws_eqTermSS_f58 (k : Nat) (n : Nat) (x2 : PTe laws_eqTermSS_i58) : Option ((Bool) ⊕ PTe laws_eqTermSS_o58) := laws_eqTermSS_L58 k n x2.1 x2.2.1 x2.2.2.1
def laws_eqTermSS_ps : List PE := [⟨0, 0, .val ty_5 false, false⟩, ⟨1, 16, .val ty_5 false, false⟩]
noncomputable def laws_eqTermSS_F (k : Nat) : Fn (Bool) := ⟨laws_eqTermSS_C k, rdRes Tryz.prog laws_eqTermSS_ps [(.bool, false)] Tryz.f55.results.toList .ret, fun p => bif Nat.beq p 58 then some (.loop laws_eqTermSS_i58 laws_eqTermSS_o58 0 80 (laws_eqTermSS_f58 k k)) else none, 0, []⟩
theorem laws_eqTermSS_eq (k : Nat) (x : PTe laws_eqTermSS_ps) : evFn (laws_eqTermSS_F k) (codeOf Tryz.f55) laws_eqTermSS_ps 32 x = laws_eqTermSS k x.1 x.2.1 := by kernel_rfl
theorem laws_eqTermSS_ls : loopsOf (codeOf Tryz.f55) 1 = [(58, loopB (codeOf Tryz.f55) 58)] := by kernel_rfl
theorem laws_eqTermSS_l58 (k : Nat) : LoopOk (laws_eqTermSS_F k) (loopB (codeOf Tryz.f55) 58) 58 := LoopOk.mk (pin := laws_eqTermSS_i58) (pout := laws_eqTermSS_o58) (ex := 0) (nx := 80) (Lf := laws_eqTermSS_f58 k) (k := k) (by kernel_rfl) (fun _ => rfl) (by intro n x; kernel_rfl)
theorem laws_eqTermSS_K (k : Nat) : Contract Tryz.prog 55 (laws_eqTermSS_V k) :=
  contract (C := laws_eqTermSS_C k) (F := laws_eqTermSS_F k) (fn := Tryz.f55) (ps := laws_eqTermSS_ps) (rs := [(.bool, false)]) (nx := 32) ⟨tyOf_ok tys_ok, gOf_ok ⟨laws_eqTermS_K k, trivial⟩⟩ rfl (by kernel_rfl) (by kernel_rfl) (by kernel_rfl) (by kernel_rfl) (by kernel_rfl) (by kernel_rfl) rfl (by kernel_rfl) (by kernel_rfl) (AnnOk_list [(58, loopB (codeOf Tryz.f55) 58)] laws_eqTermSS_ls ⟨laws_eqTermSS_l58 k, trivial⟩) mix_ok (laws_eqTermSS_eq k)

noncomputable def laws_intactTermSS_V (k : Nat) : Variant := ⟨[.val ty_18 false, .val ty_18 false], [(.bool, false)], fun x => laws_intactTermSS k x.1 x.2.1⟩
noncomputable def laws_intactTermSS_C (k : Nat) : Cfg := ⟨Tryz.prog, tyOf tys, 45, gOf [(48, [], laws_roomBehind_V), (54, [], laws_intactTermS_V k), (55, [], laws_eqTermSS_V k)], false, [], []⟩
def laws_intactTermSS_i122 : List PE := [⟨0, 32, .val ty_18 false, false⟩, ⟨1, 48, .val ty_18 false, false⟩, ⟨5, 64, .val ty_0 false, false⟩, ⟨6, 80, .val ty_0 false, false⟩]
def laws_intactTermSS_o122 : List PE := [⟨0, 32, .val ty_18 false, false⟩, ⟨1, 48, .val ty_18 false, false⟩, ⟨5, 64, .val ty_0 false, false⟩]
noncomputable def laws_intactTermSS_f122 (k : Nat) (n : Nat) (x3 : PTe laws_intactTermSS_i122) : Option ((Bool) ⊕ PTe laws_intactTermSS_o122) := laws_intactTermSS_L122 k n x3.1 x3.2.1 x3.2.2.1 x3.2.2.2.1
def laws_intactTermSS_ps : List PE := [⟨0, 0, .val ty_18 false, false⟩, ⟨1, 16, .val ty_18 false, false⟩]
noncomputable def laws_intactTermSS_F (k : Nat) : Fn (Bool) := ⟨laws_intactTermSS_C k, rdRes Tryz.prog laws_intactTermSS_ps [(.bool, false)] Tryz.f15.results.toList .ret, fun p => bif Nat.beq p 122 then some (.loop laws_intactTermSS_i122 laws_intactTermSS_o122 0 96 (laws_intactTermSS_f122 k k)) else none, 0, []⟩
theorem laws_intactTermSS_eq (k : Nat) (x : PTe laws_intactTermSS_ps) : evFn (laws_intactTermSS_F k) (codeOf Tryz.f15) laws_intactTermSS_ps 32 x = laws_intactTermSS k x.1 x.2.1 := by kernel_rfl
theorem laws_intactTermSS_ls : loopsOf (codeOf Tryz.f15) 1 = [(122, loopB (codeOf Tryz.f15) 122)] := by kernel_rfl
theorem laws_intactTermSS_l122 (k : Nat) : LoopOk (laws_intactTermSS_F k) (loopB (codeOf Tryz.f15) 122) 122 := LoopOk.mk (pin := laws_intactTermSS_i122) (pout := laws_intactTermSS_o122) (ex := 0) (nx := 96) (Lf := laws_intactTermSS_f122 k) (k := k) (by kernel_rfl) (fun _ => rfl) (by intro n x; kernel_rfl)
theorem laws_intactTermSS_K (k : Nat) : Contract Tryz.prog 15 (laws_intactTermSS_V k) :=
  contract (C := laws_intactTermSS_C k) (F := laws_intactTermSS_F k) (fn := Tryz.f15) (ps := laws_intactTermSS_ps) (rs := [(.bool, false)]) (nx := 32) ⟨tyOf_ok tys_ok, gOf_ok ⟨laws_roomBehind_K, laws_intactTermS_K k, laws_eqTermSS_K k, trivial⟩⟩ rfl (by kernel_rfl) (by kernel_rfl) (by kernel_rfl) (by kernel_rfl) (by kernel_rfl) (by kernel_rfl) rfl (by kernel_rfl) (by kernel_rfl) (AnnOk_list [(122, loopB (codeOf Tryz.f15) 122)] laws_intactTermSS_ls ⟨laws_intactTermSS_l122 k, trivial⟩) mix_ok (laws_intactTermSS_eq k)

noncomputable def laws_eqIntS_V (k : Nat) : Variant := ⟨[.val ty_7 false, .val ty_7 false], [(.bool, false)], fun x => laws_eqIntS k x.1 x.2.1⟩
noncomputable def laws_eqIntS_C (k : Nat) : Cfg := ⟨Tryz.prog, tyOf tys, 26, gOf [], false, [], []⟩
def laws_eqIntS_i58 : List PE := [⟨0, 32, .val ty_7 false, false⟩, ⟨1, 48, .val ty_7 false, false⟩, ⟨5, 64, .val ty_0 false, false⟩]
def laws_eqIntS_o58 : List PE := []
noncomputable def laws_eqIntS_f58 (k : Nat) (n : Nat) (x1 : PTe laws_eqIntS_i58) : Option ((Bool) ⊕ PTe laws_eqIntS_o58) := laws_eqIntS_L58 k n x1.1 x1.2.1 x1.2.2.1
def laws_eqIntS_ps : List PE := [⟨0, 0, .val ty_7 false, false⟩, ⟨1, 16, .val ty_7 false, false⟩]
noncomputable def laws_eqIntS_F (k : Nat) : Fn (Bool) := ⟨laws_eqIntS_C k, rdRes Tryz.prog laws_eqIntS_ps [(.bool, false)] Tryz.f39.results.toList .ret, fun p => bif Nat.beq p 58 then some (.loop laws_eqIntS_i58 laws_eqIntS_o58 0 80 (laws_eqIntS_f58 k k)) else none, 0, []⟩
theorem laws_eqIntS_eq (k : Nat) (x : PTe laws_eqIntS_ps) : evFn (laws_eqIntS_F k) (codeOf Tryz.f39) laws_eqIntS_ps 32 x = laws_eqIntS k x.1 x.2.1 := by kernel_rfl
theorem laws_eqIntS_ls : loopsOf (codeOf Tryz.f39) 1 = [(58, loopB (codeOf Tryz.f39) 58)] := by kernel_rfl
theorem laws_eqIntS_l58 (k : Nat) : LoopOk (laws_eqIntS_F k) (loopB (codeOf Tryz.f39) 58) 58 := LoopOk.mk (pin := laws_eqIntS_i58) (pout := laws_eqIntS_o58) (ex := 0) (nx := 80) (Lf := laws_eqIntS_f58 k) (k := k) (by kernel_rfl) (fun _ => rfl) (by intro n x; kernel_rfl)
theorem laws_eqIntS_K (k : Nat) : Contract Tryz.prog 39 (laws_eqIntS_V k) :=
  contract (C := laws_eqIntS_C k) (F := laws_eqIntS_F k) (fn := Tryz.f39) (ps := laws_eqIntS_ps) (rs := [(.bool, false)]) (nx := 32) ⟨tyOf_ok tys_ok, gOf_ok trivial⟩ rfl (by kernel_rfl) (by kernel_rfl) (by kernel_rfl) (by kernel_rfl) (by kernel_rfl) (by kernel_rfl) rfl (by kernel_rfl) (by kernel_rfl) (AnnOk_list [(58, loopB (codeOf Tryz.f39) 58)] laws_eqIntS_ls ⟨laws_eqIntS_l58 k, trivial⟩) mix_ok (laws_eqIntS_eq k)

noncomputable def laws_intactIntS_V (k : Nat) : Variant := ⟨[.val ty_19 false, .val ty_19 false], [(.bool, false)], fun x => laws_intactIntS k x.1 x.2.1⟩
noncomputable def laws_intactIntS_C (k : Nat) : Cfg := ⟨Tryz.prog, tyOf tys, 26, gOf [(48, [], laws_roomBehind_V), (39, [], laws_eqIntS_V k)], false, [], []⟩
def laws_intactIntS_ps : List PE := [⟨0, 0, .val ty_19 false, false⟩, ⟨1, 16, .val ty_19 false, false⟩]
noncomputable def laws_intactIntS_F (k : Nat) : Fn (Bool) := ⟨laws_intactIntS_C k, rdRes Tryz.prog laws_intactIntS_ps [(.bool, false)] Tryz.f56.results.toList .ret, fun p => none, 0, []⟩
theorem laws_intactIntS_eq (k : Nat) (x : PTe laws_intactIntS_ps) : evFn (laws_intactIntS_F k) (codeOf Tryz.f56) laws_intactIntS_ps 32 x = laws_intactIntS k x.1 x.2.1 := by kernel_rfl
theorem laws_intactIntS_K (k : Nat) : Contract Tryz.prog 56 (laws_intactIntS_V k) :=
  contract (C := laws_intactIntS_C k) (F := laws_intactIntS_F k) (fn := Tryz.f56) (ps := laws_intactIntS_ps) (rs := [(.bool, false)]) (nx := 32) ⟨tyOf_ok tys_ok, gOf_ok ⟨laws_roomBehind_K, laws_eqIntS_K k, trivial⟩⟩ rfl (by kernel_rfl) (by kernel_rfl) (by kernel_rfl) (by kernel_rfl) (by kernel_rfl) (by kernel_rfl) rfl (by kernel_rfl) (by kernel_rfl) (AnnOk_list [] (by kernel_rfl) trivial) mix_ok (laws_intactIntS_eq k)

noncomputable def laws_intactBox_V (k : Nat) : Variant := ⟨[.val ty_21 true, .val ty_21 true], [(.bool, false)], fun x => laws_intactBox k x.1 x.2.1⟩
noncomputable def laws_intactBox_C (k : Nat) : Cfg := ⟨Tryz.prog, tyOf tys, 22, gOf [(56, [], laws_intactIntS_V k)], false, [], []⟩
def laws_intactBox_ps : List PE := [⟨0, 0, .val ty_21 true, false⟩, ⟨1, 16, .val ty_21 true, false⟩]
noncomputable def laws_intactBox_F (k : Nat) : Fn (Bool) := ⟨laws_intactBox_C k, rdRes Tryz.prog laws_intactBox_ps [(.bool, false)] Tryz.f16.results.toList .ret, fun p => none, 0, []⟩
theorem laws_intactBox_eq (k : Nat) (x : PTe laws_intactBox_ps) : evFn (laws_intactBox_F k) (codeOf Tryz.f16) laws_intactBox_ps 32 x = laws_intactBox k x.1 x.2.1 := by kernel_rfl
theorem laws_intactBox_K (k : Nat) : Contract Tryz.prog 16 (laws_intactBox_V k) :=
  contract (C := laws_intactBox_C k) (F := laws_intactBox_F k) (fn := Tryz.f16) (ps := laws_intactBox_ps) (rs := [(.bool, false)]) (nx := 32) ⟨tyOf_ok tys_ok, gOf_ok ⟨laws_intactIntS_K k, trivial⟩⟩ rfl (by kernel_rfl) (by kernel_rfl) (by kernel_rfl) (by kernel_rfl) (by kernel_rfl) (by kernel_rfl) rfl (by kernel_rfl) (by kernel_rfl) (AnnOk_list [] (by kernel_rfl) trivial) mix_ok (laws_intactBox_eq k)

noncomputable def laws_markTermS_V (k : Nat) : Variant := ⟨[.own ty_3, .val ty_0 false], [(ty_0, false)], fun x => laws_markTermS k x.1 x.2.1⟩
noncomputable def laws_markTermS_C (k : Nat) : Cfg := ⟨Tryz.prog, tyOf tys, 41, gOf [], false, [], []⟩
def laws_markTermS_i26 : List PE := [⟨0, 0, .own ty_3, true⟩, ⟨1, 32, .val ty_0 false, false⟩, ⟨5, 48, .val ty_0 false, false⟩]
def laws_markTermS_o26 : List PE := [⟨1, 32, .val ty_0 false, false⟩, ⟨0, 0, .own ty_3, true⟩]
noncomputable def laws_markTermS_f26 (k : Nat) (n : Nat) (x1 : PTe laws_markTermS_i26) : Option ((Int × List (Int × Int × Int × Int)) ⊕ PTe laws_markTermS_o26) := laws_markTermS_L26 k n x1.1 x1.2.1 x1.2.2.1
def laws_markTermS_ps : List PE := [⟨0, 0, .own ty_3, true⟩, ⟨1, 16, .val ty_0 false, false⟩]
noncomputable def laws_markTermS_F (k : Nat) : Fn (Int × List (Int × Int × Int × Int)) := ⟨laws_markTermS_C k, rdRes Tryz.prog laws_markTermS_ps [(ty_0, false)] Tryz.f81.results.toList .ret, fun p => bif Nat.beq p 26 then some (.loop laws_markTermS_i26 laws_markTermS_o26 0 64 (laws_markTermS_f26 k k)) else none, 0, [0]⟩
theorem laws_markTermS_eq (k : Nat) (x : PTe laws_markTermS_ps) : evFn (laws_markTermS_F k) (codeOf Tryz.f81) laws_markTermS_ps 32 x = laws_markTermS k x.1 x.2.1 := by kernel_rfl
theorem laws_markTermS_ls : loopsOf (codeOf Tryz.f81) 1 = [(26, loopB (codeOf Tryz.f81) 26)] := by kernel_rfl
theorem laws_markTermS_l26 (k : Nat) : LoopOk (laws_markTermS_F k) (loopB (codeOf Tryz.f81) 26) 26 := LoopOk.mk (pin := laws_markTermS_i26) (pout := laws_markTermS_o26) (ex := 0) (nx := 64) (Lf := laws_markTermS_f26 k) (k := k) (by kernel_rfl) (fun _ => rfl) (by intro n x; kernel_rfl)
theorem laws_markTermS_K (k : Nat) : Contract Tryz.prog 81 (laws_markTermS_V k) :=
  contract (C := laws_markTermS_C k) (F := laws_markTermS_F k) (fn := Tryz.f81) (ps := laws_markTermS_ps) (rs := [(ty_0, false)]) (nx := 32) ⟨tyOf_ok tys_ok, gOf_ok trivial⟩ rfl (by kernel_rfl) (by kernel_rfl) (by kernel_rfl) (by kernel_rfl) (by kernel_rfl) (by kernel_rfl) rfl (by kernel_rfl) (by kernel_rfl) (AnnOk_list [(26, loopB (codeOf Tryz.f81) 26)] laws_markTermS_ls ⟨laws_markTermS_l26 k, trivial⟩) mix_ok (laws_markTermS_eq k)

noncomputable def laws_markTermSS_V (k : Nat) : Variant := ⟨[.own ty_4, .val ty_0 false], [(ty_0, false)], fun x => laws_markTermSS k x.1 x.2.1⟩
noncomputable def laws_markTermSS_C (k : Nat) : Cfg := ⟨Tryz.prog, tyOf tys, 19, gOf [(81, [], laws_markTermS_V k)], false, [], []⟩
def laws_markTermSS_i26 : List PE := [⟨0, 0, .own ty_4, true⟩, ⟨1, 32, .val ty_0 false, false⟩, ⟨5, 48, .val ty_0 false, false⟩]
def laws_markTermSS_o26 : List PE := [⟨1, 32, .val ty_0 false, false⟩, ⟨0, 0, .own ty_4, true⟩]
noncomputable def laws_markTermSS_f26 (k : Nat) (n : Nat) (x2 : PTe laws_markTermSS_i26) : Option ((Int × List (List (Int × Int × Int × Int))) ⊕ PTe laws_markTermSS_o26) := laws_markTermSS_L26 k n x2.1 x2.2.1 x2.2.2.1
def laws_markTermSS_ps : List PE := [⟨0, 0, .own ty_4, true⟩, ⟨1, 16, .val ty_0 false, false⟩]
noncomputable def laws_markTermSS_F (k : Nat) : Fn (Int × List (List (Int × Int × Int × Int))) := ⟨laws_markTermSS_C k, rdRes Tryz.prog laws_markTermSS_ps [(ty_0, false)] Tryz.f32.results.toList .ret, fun p => bif Nat.beq p 26 then some (.loop laws_markTermSS_i26 laws_markTermSS_o26 0 64 (laws_markTermSS_f26 k k)) else none, 0, [0]⟩
theorem laws_markTermSS_eq (k : Nat) (x : PTe laws_markTermSS_ps) : evFn (laws_markTermSS_F k) (codeOf Tryz.f32) laws_markTermSS_ps 32 x = laws_markTermSS k x.1 x.2.1 := by kernel_rfl
theorem laws_markTermSS_ls : loopsOf (codeOf Tryz.f32) 1 = [(26, loopB (codeOf Tryz.f32) 26)] := by kernel_rfl
theorem laws_markTermSS_l26 (k : Nat) : LoopOk (laws_markTermSS_F k) (loopB (codeOf Tryz.f32) 26) 26 := LoopOk.mk (pin := laws_markTermSS_i26) (pout := laws_markTermSS_o26) (ex := 0) (nx := 64) (Lf := laws_markTermSS_f26 k) (k := k) (by kernel_rfl) (fun _ => rfl) (by intro n x; kernel_rfl)
theorem laws_markTermSS_K (k : Nat) : Contract Tryz.prog 32 (laws_markTermSS_V k) :=
  contract (C := laws_markTermSS_C k) (F := laws_markTermSS_F k) (fn := Tryz.f32) (ps := laws_markTermSS_ps) (rs := [(ty_0, false)]) (nx := 32) ⟨tyOf_ok tys_ok, gOf_ok ⟨laws_markTermS_K k, trivial⟩⟩ rfl (by kernel_rfl) (by kernel_rfl) (by kernel_rfl) (by kernel_rfl) (by kernel_rfl) (by kernel_rfl) rfl (by kernel_rfl) (by kernel_rfl) (AnnOk_list [(26, loopB (codeOf Tryz.f32) 26)] laws_markTermSS_ls ⟨laws_markTermSS_l26 k, trivial⟩) mix_ok (laws_markTermSS_eq k)

noncomputable def laws_markIntS_V (k : Nat) : Variant := ⟨[.own ty_0, .val ty_0 false], [(ty_0, false)], fun x => laws_markIntS k x.1 x.2.1⟩
noncomputable def laws_markIntS_C (k : Nat) : Cfg := ⟨Tryz.prog, tyOf tys, 19, gOf [], false, [], []⟩
def laws_markIntS_i26 : List PE := [⟨0, 0, .own ty_0, true⟩, ⟨1, 32, .val ty_0 false, false⟩, ⟨5, 48, .val ty_0 false, false⟩]
def laws_markIntS_o26 : List PE := [⟨1, 32, .val ty_0 false, false⟩, ⟨0, 0, .own ty_0, true⟩]
noncomputable def laws_markIntS_f26 (k : Nat) (n : Nat) (x1 : PTe laws_markIntS_i26) : Option ((Int × List Int) ⊕ PTe laws_markIntS_o26) := laws_markIntS_L26 k n x1.1 x1.2.1 x1.2.2.1
def laws_markIntS_ps : List PE := [⟨0, 0, .own ty_0, true⟩, ⟨1, 16, .val ty_0 false, false⟩]
noncomputable def laws_markIntS_F (k : Nat) : Fn (Int × List Int) := ⟨laws_markIntS_C k, rdRes Tryz.prog laws_markIntS_ps [(ty_0, false)] Tryz.f40.results.toList .ret, fun p => bif Nat.beq p 26 then some (.loop laws_markIntS_i26 laws_markIntS_o26 0 64 (laws_markIntS_f26 k k)) else none, 0, [0]⟩
theorem laws_markIntS_eq (k : Nat) (x : PTe laws_markIntS_ps) : evFn (laws_markIntS_F k) (codeOf Tryz.f40) laws_markIntS_ps 32 x = laws_markIntS k x.1 x.2.1 := by kernel_rfl
theorem laws_markIntS_ls : loopsOf (codeOf Tryz.f40) 1 = [(26, loopB (codeOf Tryz.f40) 26)] := by kernel_rfl
theorem laws_markIntS_l26 (k : Nat) : LoopOk (laws_markIntS_F k) (loopB (codeOf Tryz.f40) 26) 26 := LoopOk.mk (pin := laws_markIntS_i26) (pout := laws_markIntS_o26) (ex := 0) (nx := 64) (Lf := laws_markIntS_f26 k) (k := k) (by kernel_rfl) (fun _ => rfl) (by intro n x; kernel_rfl)
theorem laws_markIntS_K (k : Nat) : Contract Tryz.prog 40 (laws_markIntS_V k) :=
  contract (C := laws_markIntS_C k) (F := laws_markIntS_F k) (fn := Tryz.f40) (ps := laws_markIntS_ps) (rs := [(ty_0, false)]) (nx := 32) ⟨tyOf_ok tys_ok, gOf_ok trivial⟩ rfl (by kernel_rfl) (by kernel_rfl) (by kernel_rfl) (by kernel_rfl) (by kernel_rfl) (by kernel_rfl) rfl (by kernel_rfl) (by kernel_rfl) (AnnOk_list [(26, loopB (codeOf Tryz.f40) 26)] laws_markIntS_ls ⟨laws_markIntS_l26 k, trivial⟩) mix_ok (laws_markIntS_eq k)

noncomputable def laws_markBox_V (k : Nat) : Variant := ⟨[.gob ty_9 true, .val ty_0 false], [(ty_0, false)], fun x => laws_markBox k x.1 x.2.1⟩
noncomputable def laws_markBox_C (k : Nat) : Cfg := ⟨Tryz.prog, tyOf tys, 14, gOf [(40, [], laws_markIntS_V k)], false, [], []⟩
def laws_markBox_ps : List PE := [⟨0, 0, .gob ty_9 true, false⟩, ⟨1, 16, .val ty_0 false, false⟩]
noncomputable def laws_markBox_F (k : Nat) : Fn (Int) := ⟨laws_markBox_C k, rdRes Tryz.prog laws_markBox_ps [(ty_0, false)] Tryz.f33.results.toList .ret, fun p => none, 0, []⟩
theorem laws_markBox_eq (k : Nat) (x : PTe laws_markBox_ps) : evFn (laws_markBox_F k) (codeOf Tryz.f33) laws_markBox_ps 32 x = laws_markBox k x.1 x.2.1 := by kernel_rfl
theorem laws_markBox_K (k : Nat) : Contract Tryz.prog 33 (laws_markBox_V k) :=
  contract (C := laws_markBox_C k) (F := laws_markBox_F k) (fn := Tryz.f33) (ps := laws_markBox_ps) (rs := [(ty_0, false)]) (nx := 32) ⟨tyOf_ok tys_ok, gOf_ok ⟨laws_markIntS_K k, trivial⟩⟩ rfl (by kernel_rfl) (by kernel_rfl) (by kernel_rfl) (by kernel_rfl) (by kernel_rfl) (by kernel_rfl) rfl (by kernel_rfl) (by kernel_rfl) (AnnOk_list [] (by kernel_rfl) trivial) mix_ok (laws_markBox_eq k)

noncomputable def laws_markDyadicS_V (k : Nat) : Variant := ⟨[.own ty_1, .val ty_0 false], [(ty_0, false)], fun x => laws_markDyadicS k x.1 x.2.1⟩
noncomputable def laws_markDyadicS_C (k : Nat) : Cfg := ⟨Tryz.prog, tyOf tys, 27, gOf [], false, [], []⟩
def laws_markDyadicS_i26 : List PE := [⟨0, 0, .own ty_1, true⟩, ⟨1, 32, .val ty_0 false, false⟩, ⟨5, 48, .val ty_0 false, false⟩]
def laws_markDyadicS_o26 : List PE := [⟨1, 32, .val ty_0 false, false⟩, ⟨0, 0, .own ty_1, true⟩]
noncomputable def laws_markDyadicS_f26 (k : Nat) (n : Nat) (x1 : PTe laws_markDyadicS_i26) : Option ((Int × List (Int × Int)) ⊕ PTe laws_markDyadicS_o26) := laws_markDyadicS_L26 k n x1.1 x1.2.1 x1.2.2.1
def laws_markDyadicS_ps : List PE := [⟨0, 0, .own ty_1, true⟩, ⟨1, 16, .val ty_0 false, false⟩]
noncomputable def laws_markDyadicS_F (k : Nat) : Fn (Int × List (Int × Int)) := ⟨laws_markDyadicS_C k, rdRes Tryz.prog laws_markDyadicS_ps [(ty_0, false)] Tryz.f72.results.toList .ret, fun p => bif Nat.beq p 26 then some (.loop laws_markDyadicS_i26 laws_markDyadicS_o26 0 64 (laws_markDyadicS_f26 k k)) else none, 0, [0]⟩
theorem laws_markDyadicS_eq (k : Nat) (x : PTe laws_markDyadicS_ps) : evFn (laws_markDyadicS_F k) (codeOf Tryz.f72) laws_markDyadicS_ps 32 x = laws_markDyadicS k x.1 x.2.1 := by kernel_rfl
theorem laws_markDyadicS_ls : loopsOf (codeOf Tryz.f72) 1 = [(26, loopB (codeOf Tryz.f72) 26)] := by kernel_rfl
theorem laws_markDyadicS_l26 (k : Nat) : LoopOk (laws_markDyadicS_F k) (loopB (codeOf Tryz.f72) 26) 26 := LoopOk.mk (pin := laws_markDyadicS_i26) (pout := laws_markDyadicS_o26) (ex := 0) (nx := 64) (Lf := laws_markDyadicS_f26 k) (k := k) (by kernel_rfl) (fun _ => rfl) (by intro n x; kernel_rfl)
theorem laws_markDyadicS_K (k : Nat) : Contract Tryz.prog 72 (laws_markDyadicS_V k) :=
  contract (C := laws_markDyadicS_C k) (F := laws_markDyadicS_F k) (fn := Tryz.f72) (ps := laws_markDyadicS_ps) (rs := [(ty_0, false)]) (nx := 32) ⟨tyOf_ok tys_ok, gOf_ok trivial⟩ rfl (by kernel_rfl) (by kernel_rfl) (by kernel_rfl) (by kernel_rfl) (by kernel_rfl) (by kernel_rfl) rfl (by kernel_rfl) (by kernel_rfl) (AnnOk_list [(26, loopB (codeOf Tryz.f72) 26)] laws_markDyadicS_ls ⟨laws_markDyadicS_l26 k, trivial⟩) mix_ok (laws_markDyadicS_eq k)

noncomputable def laws_markDyadicSS_V (k : Nat) : Variant := ⟨[.own ty_11, .val ty_0 false], [(ty_0, false)], fun x => laws_markDyadicSS k x.1 x.2.1⟩
noncomputable def laws_markDyadicSS_C (k : Nat) : Cfg := ⟨Tryz.prog, tyOf tys, 19, gOf [(72, [], laws_markDyadicS_V k)], false, [], []⟩
def laws_markDyadicSS_i26 : List PE := [⟨0, 0, .own ty_11, true⟩, ⟨1, 32, .val ty_0 false, false⟩, ⟨5, 48, .val ty_0 false, false⟩]
def laws_markDyadicSS_o26 : List PE := [⟨1, 32, .val ty_0 false, false⟩, ⟨0, 0, .own ty_11, true⟩]
noncomputable def laws_markDyadicSS_f26 (k : Nat) (n : Nat) (x2 : PTe laws_markDyadicSS_i26) : Option ((Int × List (List (Int × Int))) ⊕ PTe laws_markDyadicSS_o26) := laws_markDyadicSS_L26 k n x2.1 x2.2.1 x2.2.2.1
def laws_markDyadicSS_ps : List PE := [⟨0, 0, .own ty_11, true⟩, ⟨1, 16, .val ty_0 false, false⟩]
noncomputable def laws_markDyadicSS_F (k : Nat) : Fn (Int × List (List (Int × Int))) := ⟨laws_markDyadicSS_C k, rdRes Tryz.prog laws_markDyadicSS_ps [(ty_0, false)] Tryz.f26.results.toList .ret, fun p => bif Nat.beq p 26 then some (.loop laws_markDyadicSS_i26 laws_markDyadicSS_o26 0 64 (laws_markDyadicSS_f26 k k)) else none, 0, [0]⟩
theorem laws_markDyadicSS_eq (k : Nat) (x : PTe laws_markDyadicSS_ps) : evFn (laws_markDyadicSS_F k) (codeOf Tryz.f26) laws_markDyadicSS_ps 32 x = laws_markDyadicSS k x.1 x.2.1 := by kernel_rfl
theorem laws_markDyadicSS_ls : loopsOf (codeOf Tryz.f26) 1 = [(26, loopB (codeOf Tryz.f26) 26)] := by kernel_rfl
theorem laws_markDyadicSS_l26 (k : Nat) : LoopOk (laws_markDyadicSS_F k) (loopB (codeOf Tryz.f26) 26) 26 := LoopOk.mk (pin := laws_markDyadicSS_i26) (pout := laws_markDyadicSS_o26) (ex := 0) (nx := 64) (Lf := laws_markDyadicSS_f26 k) (k := k) (by kernel_rfl) (fun _ => rfl) (by intro n x; kernel_rfl)
theorem laws_markDyadicSS_K (k : Nat) : Contract Tryz.prog 26 (laws_markDyadicSS_V k) :=
  contract (C := laws_markDyadicSS_C k) (F := laws_markDyadicSS_F k) (fn := Tryz.f26) (ps := laws_markDyadicSS_ps) (rs := [(ty_0, false)]) (nx := 32) ⟨tyOf_ok tys_ok, gOf_ok ⟨laws_markDyadicS_K k, trivial⟩⟩ rfl (by kernel_rfl) (by kernel_rfl) (by kernel_rfl) (by kernel_rfl) (by kernel_rfl) (by kernel_rfl) rfl (by kernel_rfl) (by kernel_rfl) (AnnOk_list [(26, loopB (codeOf Tryz.f26) 26)] laws_markDyadicSS_ls ⟨laws_markDyadicSS_l26 k, trivial⟩) mix_ok (laws_markDyadicSS_eq k)

noncomputable def laws_heldDyadicS_V (k : Nat) : Variant := ⟨[.val ty_11 false, .val ty_0 false], [(ty_0, false)], fun x => laws_heldDyadicS k x.1 x.2.1⟩
noncomputable def laws_heldDyadicS_C (k : Nat) : Cfg := ⟨Tryz.prog, tyOf tys, 31, gOf [], false, [], []⟩
def laws_heldDyadicS_i26 : List PE := [⟨0, 32, .val ty_11 false, false⟩, ⟨1, 48, .val ty_0 false, false⟩, ⟨5, 64, .val ty_0 false, false⟩]
def laws_heldDyadicS_o26 : List PE := [⟨1, 32, .val ty_0 false, false⟩]
noncomputable def laws_heldDyadicS_f26 (k : Nat) (n : Nat) (x1 : PTe laws_heldDyadicS_i26) : Option ((Int) ⊕ PTe laws_heldDyadicS_o26) := laws_heldDyadicS_L26 k n x1.1 x1.2.1 x1.2.2.1
def laws_heldDyadicS_ps : List PE := [⟨0, 0, .val ty_11 false, false⟩, ⟨1, 16, .val ty_0 false, false⟩]
noncomputable def laws_heldDyadicS_F (k : Nat) : Fn (Int) := ⟨laws_heldDyadicS_C k, rdRes Tryz.prog laws_heldDyadicS_ps [(ty_0, false)] Tryz.f82.results.toList .ret, fun p => bif Nat.beq p 26 then some (.loop laws_heldDyadicS_i26 laws_heldDyadicS_o26 0 80 (laws_heldDyadicS_f26 k k)) else none, 0, []⟩
theorem laws_heldDyadicS_eq (k : Nat) (x : PTe laws_heldDyadicS_ps) : evFn (laws_heldDyadicS_F k) (codeOf Tryz.f82) laws_heldDyadicS_ps 32 x = laws_heldDyadicS k x.1 x.2.1 := by kernel_rfl
theorem laws_heldDyadicS_ls : loopsOf (codeOf Tryz.f82) 1 = [(26, loopB (codeOf Tryz.f82) 26)] := by kernel_rfl
theorem laws_heldDyadicS_l26 (k : Nat) : LoopOk (laws_heldDyadicS_F k) (loopB (codeOf Tryz.f82) 26) 26 := LoopOk.mk (pin := laws_heldDyadicS_i26) (pout := laws_heldDyadicS_o26) (ex := 0) (nx := 80) (Lf := laws_heldDyadicS_f26 k) (k := k) (by kernel_rfl) (fun _ => rfl) (by intro n x; kernel_rfl)
theorem laws_heldDyadicS_K (k : Nat) : Contract Tryz.prog 82 (laws_heldDyadicS_V k) :=
  contract (C := laws_heldDyadicS_C k) (F := laws_heldDyadicS_F k) (fn := Tryz.f82) (ps := laws_heldDyadicS_ps) (rs := [(ty_0, false)]) (nx := 32) ⟨tyOf_ok tys_ok, gOf_ok trivial⟩ rfl (by kernel_rfl) (by kernel_rfl) (by kernel_rfl) (by kernel_rfl) (by kernel_rfl) (by kernel_rfl) rfl (by kernel_rfl) (by kernel_rfl) (AnnOk_list [(26, loopB (codeOf Tryz.f82) 26)] laws_heldDyadicS_ls ⟨laws_heldDyadicS_l26 k, trivial⟩) mix_ok (laws_heldDyadicS_eq k)

noncomputable def laws_heldDyadicSS_V (k : Nat) : Variant := ⟨[.val ty_14 false, .val ty_0 false], [(ty_0, false)], fun x => laws_heldDyadicSS k x.1 x.2.1⟩
noncomputable def laws_heldDyadicSS_C (k : Nat) : Cfg := ⟨Tryz.prog, tyOf tys, 21, gOf [(82, [], laws_heldDyadicS_V k)], false, [], []⟩
def laws_heldDyadicSS_i26 : List PE := [⟨0, 32, .val ty_14 false, false⟩, ⟨1, 48, .val ty_0 false, false⟩, ⟨5, 64, .val ty_0 false, false⟩]
def laws_heldDyadicSS_o26 : List PE := [⟨1, 32, .val ty_0 false, false⟩]
noncomputable def laws_heldDyadicSS_f26 (k : Nat) (n : Nat) (x2 : PTe laws_heldDyadicSS_i26) : Option ((Int) ⊕ PTe laws_heldDyadicSS_o26) := laws_heldDyadicSS_L26 k n x2.1 x2.2.1 x2.2.2.1
def laws_heldDyadicSS_ps : List PE := [⟨0, 0, .val ty_14 false, false⟩, ⟨1, 16, .val ty_0 false, false⟩]
noncomputable def laws_heldDyadicSS_F (k : Nat) : Fn (Int) := ⟨laws_heldDyadicSS_C k, rdRes Tryz.prog laws_heldDyadicSS_ps [(ty_0, false)] Tryz.f34.results.toList .ret, fun p => bif Nat.beq p 26 then some (.loop laws_heldDyadicSS_i26 laws_heldDyadicSS_o26 0 80 (laws_heldDyadicSS_f26 k k)) else none, 0, []⟩
theorem laws_heldDyadicSS_eq (k : Nat) (x : PTe laws_heldDyadicSS_ps) : evFn (laws_heldDyadicSS_F k) (codeOf Tryz.f34) laws_heldDyadicSS_ps 32 x = laws_heldDyadicSS k x.1 x.2.1 := by kernel_rfl
theorem laws_heldDyadicSS_ls : loopsOf (codeOf Tryz.f34) 1 = [(26, loopB (codeOf Tryz.f34) 26)] := by kernel_rfl
theorem laws_heldDyadicSS_l26 (k : Nat) : LoopOk (laws_heldDyadicSS_F k) (loopB (codeOf Tryz.f34) 26) 26 := LoopOk.mk (pin := laws_heldDyadicSS_i26) (pout := laws_heldDyadicSS_o26) (ex := 0) (nx := 80) (Lf := laws_heldDyadicSS_f26 k) (k := k) (by kernel_rfl) (fun _ => rfl) (by intro n x; kernel_rfl)
theorem laws_heldDyadicSS_K (k : Nat) : Contract Tryz.prog 34 (laws_heldDyadicSS_V k) :=
  contract (C := laws_heldDyadicSS_C k) (F := laws_heldDyadicSS_F k) (fn := Tryz.f34) (ps := laws_heldDyadicSS_ps) (rs := [(ty_0, false)]) (nx := 32) ⟨tyOf_ok tys_ok, gOf_ok ⟨laws_heldDyadicS_K k, trivial⟩⟩ rfl (by kernel_rfl) (by kernel_rfl) (by kernel_rfl) (by kernel_rfl) (by kernel_rfl) (by kernel_rfl) rfl (by kernel_rfl) (by kernel_rfl) (AnnOk_list [(26, loopB (codeOf Tryz.f34) 26)] laws_heldDyadicSS_ls ⟨laws_heldDyadicSS_l26 k, trivial⟩) mix_ok (laws_heldDyadicSS_eq k)

noncomputable def laws_FnExactInverseJacobian_V (k : Nat) : Variant := ⟨[.val ty_5 false, .val ty_9 true], [(.bool, false)], fun x => laws_FnExactInverseJacobian k x.1 x.2.1⟩
noncomputable def laws_FnExactInverseJacobian_C (k : Nat) : Cfg := ⟨Tryz.prog, tyOf tys, 119, gOf [(9, [], laws_szTermSS_V k), (10, [], laws_szBox_V), (12, [], laws_toTermSS_V k), (13, [], laws_toBox_V k), (35, [], spec_InverseJacobian_V k), (36, [], impl_InverseJacobian_V k), (31, [], laws_eqDyadicSS_V k), (15, [], laws_intactTermSS_V k), (16, [], laws_intactBox_V k), (32, [], laws_markTermSS_V k), (33, [], laws_markBox_V k), (26, [], laws_markDyadicSS_V k), (34, [], laws_heldDyadicSS_V k)], false, [], []⟩
def laws_FnExactInverseJacobian_ps : List PE := [⟨0, 0, .val ty_5 false, false⟩, ⟨1, 16, .val ty_9 true, false⟩]
noncomputable def laws_FnExactInverseJacobian_F (k : Nat) : Fn (Bool) := ⟨laws_FnExactInverseJacobian_C k, rdRes Tryz.prog laws_FnExactInverseJacobian_ps [(.bool, false)] Tryz.f6.results.toList .ret, fun p => none, 0, []⟩
theorem laws_FnExactInverseJacobian_eq (k : Nat) (x : PTe laws_FnExactInverseJacobian_ps) : evFn (laws_FnExactInverseJacobian_F k) (codeOf Tryz.f6) laws_FnExactInverseJacobian_ps 32 x = laws_FnExactInverseJacobian k x.1 x.2.1 := by kernel_rfl
theorem laws_FnExactInverseJacobian_K (k : Nat) : Contract Tryz.prog 6 (laws_FnExactInverseJacobian_V k) :=
  contract (C := laws_FnExactInverseJacobian_C k) (F := laws_FnExactInverseJacobian_F k) (fn := Tryz.f6) (ps := laws_FnExactInverseJacobian_ps) (rs := [(.bool, false)]) (nx := 32) ⟨tyOf_ok tys_ok, gOf_ok ⟨laws_szTermSS_K k, laws_szBox_K, laws_toTermSS_K k, laws_toBox_K k, spec_InverseJacobian_K k, impl_InverseJacobian_K k, laws_eqDyadicSS_K k, laws_intactTermSS_K k, laws_intactBox_K k, laws_markTermSS_K k, laws_markBox_K k, laws_markDyadicSS_K k, laws_heldDyadicSS_K k, trivial⟩⟩ rfl (by kernel_rfl) (by kernel_rfl) (by kernel_rfl) (by kernel_rfl) (by kernel_rfl) (by kernel_rfl) rfl (by kernel_rfl) (by kernel_rfl) (AnnOk_list [] (by kernel_rfl) trivial) mix_ok (laws_FnExactInverseJacobian_eq k)
end Go.Ev.G
