/- The contracts of the functions behind FnExactRoundedInverse: a call of each returns what its plain function computes; for all inputs within the sizes named. -/
import Derived.Test.YtndgjjaolajkjaaPRoundedInverse1
import Derived.Test.YtndgjjaolajkjaaProg
set_option linter.unusedVariables false
namespace Go.Ev.G
open Go Go.Ev Go.Proofs
set_option maxRecDepth 100000
abbrev ty_0 : Ty := (.int .i64)

abbrev ty_1 : Ty := (.pair ty_0 ty_0)

abbrev ty_2 : Ty := (.sl ty_1)

abbrev ty_3 : Ty := (.sl ty_2)

abbrev ty_4 : Ty := (.rm ty_1)

abbrev ty_5 : Ty := (.sl ty_0)

abbrev ty_6 : Ty := (.int .u64)

abbrev ty_7 : Ty := (.pair ty_6 ty_6)

abbrev ty_8 : Ty := (.pair .bool ty_7)

abbrev ty_9 : Ty := (.rm ty_4)

def tys : List (TypeId × Ty) := [(3, ty_0), (45, ty_2), (78, ty_1)]

theorem tys_ok : AllT Try.prog tys := ⟨⟨_, _, rfl, rfl, rfl, rfl⟩, ⟨_, _, rfl, rfl, rfl, rfl⟩, ⟨_, _, rfl, rfl, rfl, rfl⟩, trivial⟩

def tysR : List (TypeId × Ty) := [(45, ty_4), (78, ty_1)]

theorem tysR_ok : AllT Try.prog tysR := ⟨⟨_, _, rfl, rfl, rfl, rfl⟩, ⟨_, _, rfl, rfl, rfl, rfl⟩, trivial⟩

theorem mix_ok : Try.prog.follows .mixedOrders = true := by kernel_rfl

noncomputable def laws_szDyadicS_V : Variant := ⟨[.val ty_2 false, .val ty_0 false], [(ty_0, false)], fun x => laws_szDyadicS x.1 x.2.1⟩
noncomputable def laws_szDyadicS_C : Cfg := ⟨Try.prog, tyOf tys, 12, gOf [], false, [], []⟩
def laws_szDyadicS_ps : List PE := [⟨0, 0, .val ty_2 false, false⟩, ⟨1, 16, .val ty_0 false, false⟩]
noncomputable def laws_szDyadicS_F : Fn (Int) := ⟨laws_szDyadicS_C, rdRes Try.prog laws_szDyadicS_ps [(ty_0, false)] Try.f22.results.toList .ret, fun p => none, 0, []⟩
theorem laws_szDyadicS_eq (x : PTe laws_szDyadicS_ps) : evFn (laws_szDyadicS_F) (codeOf Try.f22) laws_szDyadicS_ps 32 x = laws_szDyadicS x.1 x.2.1 := by kernel_rfl
theorem laws_szDyadicS_K : Contract Try.prog 22 (laws_szDyadicS_V) :=
  contract (C := laws_szDyadicS_C) (F := laws_szDyadicS_F) (fn := Try.f22) (c := codeOf Try.f22) (ps := laws_szDyadicS_ps) (rs := [(ty_0, false)]) (nx := 32) ⟨tyOf_ok tys_ok, gOf_ok trivial⟩ rfl (by kernel_rfl) (by kernel_rfl) (by kernel_rfl) (by kernel_rfl) (by kernel_rfl) (by kernel_rfl) rfl (by kernel_rfl) (by kernel_rfl) (AnnOk_list [] (by kernel_rfl) trivial) mix_ok (laws_szDyadicS_eq)

noncomputable def laws_szDyadicSS_V (k : Nat) : Variant := ⟨[.val ty_3 false, .val ty_0 false], [(ty_0, false)], fun x => laws_szDyadicSS k x.1 x.2.1⟩
noncomputable def laws_szDyadicSS_C (k : Nat) : Cfg := ⟨Try.prog, tyOf tys, 27, gOf [(22, [], laws_szDyadicS_V)], false, [], []⟩
def laws_szDyadicSS_i122 : List PE := [⟨0, 32, .val ty_3 false, false⟩, ⟨1, 48, .val ty_0 false, false⟩, ⟨5, 64, .val ty_0 false, false⟩]
def laws_szDyadicSS_o122 : List PE := [⟨1, 32, .val ty_0 false, false⟩]
noncomputable def laws_szDyadicSS_f122 (k : Nat) (n : Nat) (x2 : PTe laws_szDyadicSS_i122) : Option ((Int) ⊕ PTe laws_szDyadicSS_o122) := laws_szDyadicSS_L122 k n x2.1 x2.2.1 x2.2.2.1
def laws_szDyadicSS_ps : List PE := [⟨0, 0, .val ty_3 false, false⟩, ⟨1, 16, .val ty_0 false, false⟩]
noncomputable def laws_szDyadicSS_F (k : Nat) : Fn (Int) := ⟨laws_szDyadicSS_C k, rdRes Try.prog laws_szDyadicSS_ps [(ty_0, false)] Try.f27.results.toList .ret, fun p => bif Nat.beq p 122 then some (.loop laws_szDyadicSS_i122 laws_szDyadicSS_o122 0 80 (laws_szDyadicSS_f122 k k)) else none, 0, []⟩
theorem laws_szDyadicSS_eq (k : Nat) (x : PTe laws_szDyadicSS_ps) : evFn (laws_szDyadicSS_F k) (codeOf Try.f27) laws_szDyadicSS_ps 32 x = laws_szDyadicSS k x.1 x.2.1 := by kernel_rfl
theorem laws_szDyadicSS_ls : loopsOf (codeOf Try.f27) 1 = [(122, loopB (codeOf Try.f27) 122)] := by kernel_rfl
theorem laws_szDyadicSS_l122 (k : Nat) : LoopOk (laws_szDyadicSS_F k) (loopB (codeOf Try.f27) 122) 122 := LoopOk.mk (pin := laws_szDyadicSS_i122) (pout := laws_szDyadicSS_o122) (ex := 0) (nx := 80) (Lf := laws_szDyadicSS_f122 k) (k := k) (by kernel_rfl) (fun _ => rfl) (by intro n x; kernel_rfl)
theorem laws_szDyadicSS_K (k : Nat) : Contract Try.prog 27 (laws_szDyadicSS_V k) :=
  contract (C := laws_szDyadicSS_C k) (F := laws_szDyadicSS_F k) (fn := Try.f27) (c := codeOf Try.f27) (ps := laws_szDyadicSS_ps) (rs := [(ty_0, false)]) (nx := 32) ⟨tyOf_ok tys_ok, gOf_ok ⟨laws_szDyadicS_K, trivial⟩⟩ rfl (by kernel_rfl) (by kernel_rfl) (by kernel_rfl) (by kernel_rfl) (by kernel_rfl) (by kernel_rfl) rfl (by kernel_rfl) (by kernel_rfl) (AnnOk_list [(122, loopB (codeOf Try.f27) 122)] laws_szDyadicSS_ls ⟨laws_szDyadicSS_l122 k, trivial⟩) mix_ok (laws_szDyadicSS_eq k)

noncomputable def laws_roomBehind_V : Variant := ⟨[.val ty_0 false], [(ty_0, false)], fun x => laws_roomBehind x.1⟩
noncomputable def laws_roomBehind_C : Cfg := ⟨Try.prog, tyOf tys, 10, gOf [], false, [], []⟩
def laws_roomBehind_ps : List PE := [⟨0, 0, .val ty_0 false, false⟩]
noncomputable def laws_roomBehind_F : Fn (Int) := ⟨laws_roomBehind_C, rdRes Try.prog laws_roomBehind_ps [(ty_0, false)] Try.f53.results.toList .ret, fun p => none, 0, []⟩
theorem laws_roomBehind_eq (x : PTe laws_roomBehind_ps) : evFn (laws_roomBehind_F) (codeOf Try.f53) laws_roomBehind_ps 16 x = laws_roomBehind x.1 := by kernel_rfl
theorem laws_roomBehind_K : Contract Try.prog 53 (laws_roomBehind_V) :=
  contract (C := laws_roomBehind_C) (F := laws_roomBehind_F) (fn := Try.f53) (c := codeOf Try.f53) (ps := laws_roomBehind_ps) (rs := [(ty_0, false)]) (nx := 16) ⟨tyOf_ok tys_ok, gOf_ok trivial⟩ rfl (by kernel_rfl) (by kernel_rfl) (by kernel_rfl) (by kernel_rfl) (by kernel_rfl) (by kernel_rfl) rfl (by kernel_rfl) (by kernel_rfl) (AnnOk_list [] (by kernel_rfl) trivial) mix_ok (laws_roomBehind_eq)

noncomputable def laws_toDyadic_V : Variant := ⟨[.val ty_1 true], [(ty_1, true)], fun x => laws_toDyadic x.1⟩
noncomputable def laws_toDyadic_C : Cfg := ⟨Try.prog, tyOf tysR, 11, gOf [], true, [], []⟩
def laws_toDyadic_ps : List PE := [⟨0, 0, .val ty_1 true, false⟩]
noncomputable def laws_toDyadic_F : Fn (Int × Int) := ⟨laws_toDyadic_C, rdRes Try.prog laws_toDyadic_ps [(ty_1, true)] Try.f69.results.toList .ret, fun p => none, 0, []⟩
theorem laws_toDyadic_eq (x : PTe laws_toDyadic_ps) : evFn (laws_toDyadic_F) (codeOf Try.f69) laws_toDyadic_ps 16 x = laws_toDyadic x.1 := by kernel_rfl
theorem laws_toDyadic_K : Contract Try.prog 69 (laws_toDyadic_V) :=
  contract (C := laws_toDyadic_C) (F := laws_toDyadic_F) (fn := Try.f69) (c := codeOf Try.f69) (ps := laws_toDyadic_ps) (rs := [(ty_1, true)]) (nx := 16) ⟨tyOf_ok tysR_ok, gOf_ok trivial⟩ rfl (by kernel_rfl) (by kernel_rfl) (by kernel_rfl) (by kernel_rfl) (by kernel_rfl) (by kernel_rfl) rfl (by kernel_rfl) (by kernel_rfl) (AnnOk_list [] (by kernel_rfl) trivial) mix_ok (laws_toDyadic_eq)

noncomputable def laws_fillerDyadic_V : Variant := ⟨[], [(ty_1, true)], fun x => laws_fillerDyadic⟩
noncomputable def laws_fillerDyadic_C : Cfg := ⟨Try.prog, tyOf tys, 2, gOf [], false, [], []⟩
def laws_fillerDyadic_ps : List PE := []
noncomputable def laws_fillerDyadic_F : Fn (Int × Int) := ⟨laws_fillerDyadic_C, rdRes Try.prog laws_fillerDyadic_ps [(ty_1, true)] Try.f70.results.toList .ret, fun p => none, 0, []⟩
theorem laws_fillerDyadic_eq (x : PTe laws_fillerDyadic_ps) : evFn (laws_fillerDyadic_F) (codeOf Try.f70) laws_fillerDyadic_ps 0 x = laws_fillerDyadic := by kernel_rfl
theorem laws_fillerDyadic_K : Contract Try.prog 70 (laws_fillerDyadic_V) :=
  contract (C := laws_fillerDyadic_C) (F := laws_fillerDyadic_F) (fn := Try.f70) (c := codeOf Try.f70) (ps := laws_fillerDyadic_ps) (rs := [(ty_1, true)]) (nx := 0) ⟨tyOf_ok tys_ok, gOf_ok trivial⟩ rfl (by kernel_rfl) (by kernel_rfl) (by kernel_rfl) (by kernel_rfl) (by kernel_rfl) (by kernel_rfl) rfl (by kernel_rfl) (by kernel_rfl) (AnnOk_list [] (by kernel_rfl) trivial) mix_ok (laws_fillerDyadic_eq)

noncomputable def laws_toDyadicS_V (k : Nat) : Variant := ⟨[.val ty_2 false, .val .bool false], [(ty_4, false)], fun x => laws_toDyadicS k x.1 x.2.1⟩
noncomputable def laws_toDyadicS_C (k : Nat) : Cfg := ⟨Try.prog, tyOf tysR, 51, gOf [(53, [], laws_roomBehind_V), (69, [], laws_toDyadic_V), (70, [], laws_fillerDyadic_V)], true, [], []⟩
def laws_toDyadicS_i122 : List PE := [⟨0, 32, .val ty_2 false, false⟩, ⟨5, 48, .eat ty_1, false⟩, ⟨6, 64, .val ty_0 false, false⟩]
def laws_toDyadicS_o122 : List PE := [⟨0, 32, .val ty_2 false, false⟩, ⟨5, 48, .eat ty_1, false⟩]
noncomputable def laws_toDyadicS_f122 (k : Nat) (n : Nat) (x4 : PTe laws_toDyadicS_i122) : Option ((List (Int × Int) × List (Int × Int)) ⊕ PTe laws_toDyadicS_o122) := laws_toDyadicS_L122 k n x4.1 x4.2.1 x4.2.2.1
def laws_toDyadicS_i250 : List PE := [⟨0, 32, .val ty_2 false, false⟩, ⟨5, 48, .eat ty_1, false⟩, ⟨7, 64, .val ty_0 false, false⟩]
def laws_toDyadicS_o250 : List PE := [⟨0, 32, .val ty_2 false, false⟩, ⟨5, 48, .eat ty_1, false⟩]
noncomputable def laws_toDyadicS_f250 (k : Nat) (n : Nat) (x8 : PTe laws_toDyadicS_i250) : Option ((List (Int × Int) × List (Int × Int)) ⊕ PTe laws_toDyadicS_o250) := laws_toDyadicS_L250 k n x8.1 x8.2.1 x8.2.2.1
def laws_toDyadicS_ps : List PE := [⟨0, 0, .val ty_2 false, false⟩, ⟨1, 16, .val .bool false, false⟩]
noncomputable def laws_toDyadicS_F (k : Nat) : Fn (List (Int × Int) × List (Int × Int)) := ⟨laws_toDyadicS_C k, rdRes Try.prog laws_toDyadicS_ps [(ty_4, false)] Try.f24.results.toList .ret, fun p => bif Nat.beq p 122 then some (.loop laws_toDyadicS_i122 laws_toDyadicS_o122 0 80 (laws_toDyadicS_f122 k k)) else bif Nat.beq p 250 then some (.loop laws_toDyadicS_i250 laws_toDyadicS_o250 2 80 (laws_toDyadicS_f250 k k)) else bif Nat.beq p 6 then some (.cut [⟨0, 32, .val ty_2 false, false⟩] 48) else none, 0, []⟩
theorem laws_toDyadicS_eq (k : Nat) (x : PTe laws_toDyadicS_ps) : evFn (laws_toDyadicS_F k) (codeOf Try.f24) laws_toDyadicS_ps 32 x = laws_toDyadicS k x.1 x.2.1 := by kernel_rfl
theorem laws_toDyadicS_ls : loopsOf (codeOf Try.f24) 1 = [(122, loopB (codeOf Try.f24) 122), (250, loopB (codeOf Try.f24) 250)] := by kernel_rfl
theorem laws_toDyadicS_l122 (k : Nat) : LoopOk (laws_toDyadicS_F k) (loopB (codeOf Try.f24) 122) 122 := LoopOk.mk (pin := laws_toDyadicS_i122) (pout := laws_toDyadicS_o122) (ex := 0) (nx := 80) (Lf := laws_toDyadicS_f122 k) (k := k) (by kernel_rfl) (fun _ => rfl) (by intro n x; kernel_rfl)
theorem laws_toDyadicS_l250 (k : Nat) : LoopOk (laws_toDyadicS_F k) (loopB (codeOf Try.f24) 250) 250 := LoopOk.mk (pin := laws_toDyadicS_i250) (pout := laws_toDyadicS_o250) (ex := 2) (nx := 80) (Lf := laws_toDyadicS_f250 k) (k := k) (by kernel_rfl) (fun _ => rfl) (by intro n x; kernel_rfl)
theorem laws_toDyadicS_K (k : Nat) : Contract Try.prog 24 (laws_toDyadicS_V k) :=
  contract (C := laws_toDyadicS_C k) (F := laws_toDyadicS_F k) (fn := Try.f24) (c := codeOf Try.f24) (ps := laws_toDyadicS_ps) (rs := [(ty_4, false)]) (nx := 32) ⟨tyOf_ok tysR_ok, gOf_ok ⟨laws_roomBehind_K, laws_toDyadic_K, laws_fillerDyadic_K, trivial⟩⟩ rfl (by kernel_rfl) (by kernel_rfl) (by kernel_rfl) (by kernel_rfl) (by kernel_rfl) (by kernel_rfl) rfl (by kernel_rfl) (by kernel_rfl) (AnnOk_list [(122, loopB (codeOf Try.f24) 122), (250, loopB (codeOf Try.f24) 250)] laws_toDyadicS_ls ⟨laws_toDyadicS_l122 k, laws_toDyadicS_l250 k, trivial⟩) mix_ok (laws_toDyadicS_eq k)

noncomputable def laws_toDyadicSS_V (k : Nat) : Variant := ⟨[.val ty_3 false, .val .bool false], [(ty_9, false)], fun x => laws_toDyadicSS k x.1 x.2.1⟩
noncomputable def laws_toDyadicSS_C (k : Nat) : Cfg := ⟨Try.prog, tyOf tysR, 53, gOf [(53, [], laws_roomBehind_V), (24, [], laws_toDyadicS_V k), (70, [], laws_fillerDyadic_V)], true, [5, 27, 39, 44], []⟩
def laws_toDyadicSS_i122 : List PE := [⟨0, 32, .val ty_3 false, false⟩, ⟨1, 48, .val .bool false, false⟩, ⟨5, 64, .eat ty_4, false⟩, ⟨6, 80, .val ty_0 false, false⟩]
def laws_toDyadicSS_o122 : List PE := [⟨0, 32, .val ty_3 false, false⟩, ⟨5, 48, .eat ty_4, false⟩]
noncomputable def laws_toDyadicSS_f122 (k : Nat) (n : Nat) (x4 : PTe laws_toDyadicSS_i122) : Option ((List (List (Int × Int) × List (Int × Int)) × List (List (Int × Int) × List (Int × Int))) ⊕ PTe laws_toDyadicSS_o122) := laws_toDyadicSS_L122 k n x4.1 x4.2.1 x4.2.2.1 x4.2.2.2.1
def laws_toDyadicSS_i250 : List PE := [⟨0, 32, .val ty_3 false, false⟩, ⟨5, 48, .eat ty_4, false⟩, ⟨7, 64, .val ty_0 false, false⟩]
def laws_toDyadicSS_o250 : List PE := [⟨0, 32, .val ty_3 false, false⟩, ⟨5, 48, .eat ty_4, false⟩]
noncomputable def laws_toDyadicSS_f250 (k : Nat) (n : Nat) (x8 : PTe laws_toDyadicSS_i250) : Option ((List (List (Int × Int) × List (Int × Int)) × List (List (Int × Int) × List (Int × Int))) ⊕ PTe laws_toDyadicSS_o250) := laws_toDyadicSS_L250 k n x8.1 x8.2.1 x8.2.2.1
def laws_toDyadicSS_ps : List PE := [⟨0, 0, .val ty_3 false, false⟩, ⟨1, 16, .val .bool false, false⟩]
noncomputable def laws_toDyadicSS_F (k : Nat) : Fn (List (List (Int × Int) × List (Int × Int)) × List (List (Int × Int) × List (Int × Int))) := ⟨laws_toDyadicSS_C k, rdRes Try.prog laws_toDyadicSS_ps [(ty_9, false)] Try.f29.results.toList .ret, fun p => bif Nat.beq p 122 then some (.loop laws_toDyadicSS_i122 laws_toDyadicSS_o122 0 96 (laws_toDyadicSS_f122 k k)) else bif Nat.beq p 250 then some (.loop laws_toDyadicSS_i250 laws_toDyadicSS_o250 2 80 (laws_toDyadicSS_f250 k k)) else bif Nat.beq p 6 then some (.cut [⟨0, 32, .val ty_3 false, false⟩, ⟨1, 48, .val .bool false, false⟩] 64) else none, 0, []⟩
theorem laws_toDyadicSS_eq (k : Nat) (x : PTe laws_toDyadicSS_ps) : evFn (laws_toDyadicSS_F k) (codeOf Try.f29) laws_toDyadicSS_ps 32 x = laws_toDyadicSS k x.1 x.2.1 := by kernel_rfl
theorem laws_toDyadicSS_ls : loopsOf (codeOf Try.f29) 1 = [(122, loopB (codeOf Try.f29) 122), (250, loopB (codeOf Try.f29) 250)] := by kernel_rfl
theorem laws_toDyadicSS_l122 (k : Nat) : LoopOk (laws_toDyadicSS_F k) (loopB (codeOf Try.f29) 122) 122 := LoopOk.mk (pin := laws_toDyadicSS_i122) (pout := laws_toDyadicSS_o122) (ex := 0) (nx := 96) (Lf := laws_toDyadicSS_f122 k) (k := k) (by kernel_rfl) (fun _ => rfl) (by intro n x; kernel_rfl)
theorem laws_toDyadicSS_l250 (k : Nat) : LoopOk (laws_toDyadicSS_F k) (loopB (codeOf Try.f29) 250) 250 := LoopOk.mk (pin := laws_toDyadicSS_i250) (pout := laws_toDyadicSS_o250) (ex := 2) (nx := 80) (Lf := laws_toDyadicSS_f250 k) (k := k) (by kernel_rfl) (fun _ => rfl) (by intro n x; kernel_rfl)
theorem laws_toDyadicSS_K (k : Nat) : Contract Try.prog 29 (laws_toDyadicSS_V k) :=
  contract (C := laws_toDyadicSS_C k) (F := laws_toDyadicSS_F k) (fn := Try.f29) (c := codeOf Try.f29) (ps := laws_toDyadicSS_ps) (rs := [(ty_9, false)]) (nx := 32) ⟨tyOf_ok tysR_ok, gOf_ok ⟨laws_roomBehind_K, laws_toDyadicS_K k, laws_fillerDyadic_K, trivial⟩⟩ rfl (by kernel_rfl) (by kernel_rfl) (by kernel_rfl) (by kernel_rfl) (by kernel_rfl) (by kernel_rfl) rfl (by kernel_rfl) (by kernel_rfl) (AnnOk_list [(122, loopB (codeOf Try.f29) 122), (250, loopB (codeOf Try.f29) 250)] laws_toDyadicSS_ls ⟨laws_toDyadicSS_l122 k, laws_toDyadicSS_l250 k, trivial⟩) mix_ok (laws_toDyadicSS_eq k)

noncomputable def spec_l1In_V : Variant := ⟨[.val ty_0 false, .val ty_0 false, .val ty_0 false], [(.bool, false)], fun x => spec_l1In x.1 x.2.1 x.2.2.1⟩
noncomputable def spec_l1In_C : Cfg := ⟨Try.prog, tyOf tys, 15, gOf [], false, [], []⟩
def spec_l1In_ps : List PE := [⟨0, 0, .val ty_0 false, false⟩, ⟨1, 16, .val ty_0 false, false⟩, ⟨2, 32, .val ty_0 false, false⟩]
noncomputable def spec_l1In_F : Fn (Bool) := ⟨spec_l1In_C, rdRes Try.prog spec_l1In_ps [(.bool, false)] Try.f78.results.toList .ret, fun p => none, 0, []⟩
theorem spec_l1In_eq (x : PTe spec_l1In_ps) : evFn (spec_l1In_F) (codeOf Try.f78) spec_l1In_ps 48 x = spec_l1In x.1 x.2.1 x.2.2.1 := by kernel_rfl
theorem spec_l1In_K : Contract Try.prog 78 (spec_l1In_V) :=
  contract (C := spec_l1In_C) (F := spec_l1In_F) (fn := Try.f78) (c := codeOf Try.f78) (ps := spec_l1In_ps) (rs := [(.bool, false)]) (nx := 48) ⟨tyOf_ok tys_ok, gOf_ok trivial⟩ rfl (by kernel_rfl) (by kernel_rfl) (by kernel_rfl) (by kernel_rfl) (by kernel_rfl) (by kernel_rfl) rfl (by kernel_rfl) (by kernel_rfl) (AnnOk_list [] (by kernel_rfl) trivial) mix_ok (spec_l1In_eq)

noncomputable def spec_dyGood_V : Variant := ⟨[.val ty_1 true], [(.bool, false)], fun x => spec_dyGood x.1⟩
noncomputable def spec_dyGood_C : Cfg := ⟨Try.prog, tyOf tys, 22, gOf [(78, [], spec_l1In_V)], false, [], []⟩
def spec_dyGood_ps : List PE := [⟨0, 0, .val ty_1 true, false⟩]
noncomputable def spec_dyGood_F : Fn (Bool) := ⟨spec_dyGood_C, rdRes Try.prog spec_dyGood_ps [(.bool, false)] Try.f110.results.toList .ret, fun p => none, 0, []⟩
theorem spec_dyGood_eq (x : PTe spec_dyGood_ps) : evFn (spec_dyGood_F) (codeOf Try.f110) spec_dyGood_ps 16 x = spec_dyGood x.1 := by kernel_rfl
theorem spec_dyGood_K : Contract Try.prog 110 (spec_dyGood_V) :=
  contract (C := spec_dyGood_C) (F := spec_dyGood_F) (fn := Try.f110) (c := codeOf Try.f110) (ps := spec_dyGood_ps) (rs := [(.bool, false)]) (nx := 16) ⟨tyOf_ok tys_ok, gOf_ok ⟨spec_l1In_K, trivial⟩⟩ rfl (by kernel_rfl) (by kernel_rfl) (by kernel_rfl) (by kernel_rfl) (by kernel_rfl) (by kernel_rfl) rfl (by kernel_rfl) (by kernel_rfl) (AnnOk_list [] (by kernel_rfl) trivial) mix_ok (spec_dyGood_eq)

noncomputable def spec_l1All_V (k : Nat) : Variant := ⟨[.val ty_5 false, .val ty_0 false, .val ty_0 false], [(.bool, false)], fun x => spec_l1All k x.1 x.2.1 x.2.2.1⟩
noncomputable def spec_l1All_C (k : Nat) : Cfg := ⟨Try.prog, tyOf tys, 21, gOf [(78, [], spec_l1In_V)], false, [], []⟩
def spec_l1All_i26 : List PE := [⟨1, 48, .val ty_0 false, false⟩, ⟨2, 64, .val ty_0 false, false⟩, ⟨9, 80, .val ty_5 false, false⟩, ⟨10, 96, .val ty_0 false, false⟩, ⟨11, 112, .val ty_0 false, false⟩]
def spec_l1All_o26 : List PE := []
noncomputable def spec_l1All_f26 (k : Nat) (n : Nat) (x2 : PTe spec_l1All_i26) : Option ((Bool) ⊕ PTe spec_l1All_o26) := spec_l1All_L26 k n x2.1 x2.2.1 x2.2.2.1 x2.2.2.2.1 x2.2.2.2.2.1
def spec_l1All_ps : List PE := [⟨0, 0, .val ty_5 false, false⟩, ⟨1, 16, .val ty_0 false, false⟩, ⟨2, 32, .val ty_0 false, false⟩]
noncomputable def spec_l1All_F (k : Nat) : Fn (Bool) := ⟨spec_l1All_C k, rdRes Try.prog spec_l1All_ps [(.bool, false)] Try.f169.results.toList .ret, fun p => bif Nat.beq p 26 then some (.loop spec_l1All_i26 spec_l1All_o26 0 128 (spec_l1All_f26 k k)) else none, 0, []⟩
theorem spec_l1All_eq (k : Nat) (x : PTe spec_l1All_ps) : evFn (spec_l1All_F k) (codeOf Try.f169) spec_l1All_ps 48 x = spec_l1All k x.1 x.2.1 x.2.2.1 := by kernel_rfl
theorem spec_l1All_ls : loopsOf (codeOf Try.f169) 1 = [(26, loopB (codeOf Try.f169) 26)] := by kernel_rfl
theorem spec_l1All_l26 (k : Nat) : LoopOk (spec_l1All_F k) (loopB (codeOf Try.f169) 26) 26 := LoopOk.mk (pin := spec_l1All_i26) (pout := spec_l1All_o26) (ex := 0) (nx := 128) (Lf := spec_l1All_f26 k) (k := k) (by kernel_rfl) (fun _ => rfl) (by intro n x; kernel_rfl)
theorem spec_l1All_K (k : Nat) : Contract Try.prog 169 (spec_l1All_V k) :=
  contract (C := spec_l1All_C k) (F := spec_l1All_F k) (fn := Try.f169) (c := codeOf Try.f169) (ps := spec_l1All_ps) (rs := [(.bool, false)]) (nx := 48) ⟨tyOf_ok tys_ok, gOf_ok ⟨spec_l1In_K, trivial⟩⟩ rfl (by kernel_rfl) (by kernel_rfl) (by kernel_rfl) (by kernel_rfl) (by kernel_rfl) (by kernel_rfl) rfl (by kernel_rfl) (by kernel_rfl) (AnnOk_list [(26, loopB (codeOf Try.f169) 26)] spec_l1All_ls ⟨spec_l1All_l26 k, trivial⟩) mix_ok (spec_l1All_eq k)

noncomputable def spec_mxSquare_V (k : Nat) : Variant := ⟨[.val ty_0 false, .val ty_5 false], [(.bool, false)], fun x => spec_mxSquare k x.1 x.2.1⟩
noncomputable def spec_mxSquare_C (k : Nat) : Cfg := ⟨Try.prog, tyOf tys, 13, gOf [(78, [], spec_l1In_V), (169, [], spec_l1All_V k)], false, [], []⟩
def spec_mxSquare_ps : List PE := [⟨0, 0, .val ty_0 false, false⟩, ⟨1, 16, .val ty_5 false, false⟩]
noncomputable def spec_mxSquare_F (k : Nat) : Fn (Bool) := ⟨spec_mxSquare_C k, rdRes Try.prog spec_mxSquare_ps [(.bool, false)] Try.f130.results.toList .ret, fun p => none, 0, []⟩
theorem spec_mxSquare_eq (k : Nat) (x : PTe spec_mxSquare_ps) : evFn (spec_mxSquare_F k) (codeOf Try.f130) spec_mxSquare_ps 32 x = spec_mxSquare k x.1 x.2.1 := by kernel_rfl
theorem spec_mxSquare_K (k : Nat) : Contract Try.prog 130 (spec_mxSquare_V k) :=
  contract (C := spec_mxSquare_C k) (F := spec_mxSquare_F k) (fn := Try.f130) (c := codeOf Try.f130) (ps := spec_mxSquare_ps) (rs := [(.bool, false)]) (nx := 32) ⟨tyOf_ok tys_ok, gOf_ok ⟨spec_l1In_K, spec_l1All_K k, trivial⟩⟩ rfl (by kernel_rfl) (by kernel_rfl) (by kernel_rfl) (by kernel_rfl) (by kernel_rfl) (by kernel_rfl) rfl (by kernel_rfl) (by kernel_rfl) (AnnOk_list [] (by kernel_rfl) trivial) mix_ok (spec_mxSquare_eq k)

noncomputable def spec_mxGood_V (k : Nat) : Variant := ⟨[.val ty_3 false], [(.bool, false)], fun x => spec_mxGood k x.1⟩
noncomputable def spec_mxGood_C (k : Nat) : Cfg := ⟨Try.prog, tyOf tys, 34, gOf [(110, [], spec_dyGood_V), (130, [], spec_mxSquare_V k)], false, [], []⟩
def spec_mxGood_i29898 : List PE := [⟨0, 16, .val ty_3 false, false⟩, ⟨3, 32, .eat ty_0, false⟩, ⟨5, 48, .val ty_2 false, false⟩, ⟨8, 64, .val ty_3 false, false⟩, ⟨9, 80, .val ty_0 false, false⟩, ⟨10, 96, .val ty_0 false, false⟩, ⟨14, 112, .val ty_2 false, false⟩, ⟨15, 128, .val ty_0 false, false⟩, ⟨16, 144, .val ty_0 false, false⟩]
def spec_mxGood_o29898 : List PE := [⟨0, 16, .val ty_3 false, false⟩, ⟨3, 32, .eat ty_0, false⟩, ⟨5, 48, .val ty_2 false, false⟩, ⟨8, 64, .val ty_3 false, false⟩, ⟨9, 80, .val ty_0 false, false⟩, ⟨10, 96, .val ty_0 false, false⟩]
noncomputable def spec_mxGood_f29898 (k : Nat) (n : Nat) (x2 : PTe spec_mxGood_i29898) : Option ((Bool) ⊕ PTe spec_mxGood_o29898) := spec_mxGood_L29898 k n x2.1 x2.2.1 x2.2.2.1 x2.2.2.2.1 x2.2.2.2.2.1 x2.2.2.2.2.2.1 x2.2.2.2.2.2.2.1 x2.2.2.2.2.2.2.2.1 x2.2.2.2.2.2.2.2.2.1
def spec_mxGood_i58 : List PE := [⟨0, 16, .val ty_3 false, false⟩, ⟨3, 32, .eat ty_0, false⟩, ⟨8, 48, .val ty_3 false, false⟩, ⟨9, 64, .val ty_0 false, false⟩, ⟨10, 80, .val ty_0 false, false⟩]
def spec_mxGood_o58 : List PE := [⟨0, 16, .val ty_3 false, false⟩, ⟨3, 32, .eat ty_0, false⟩]
noncomputable def spec_mxGood_f58 (k : Nat) (n : Nat) (x5 : PTe spec_mxGood_i58) : Option ((Bool) ⊕ PTe spec_mxGood_o58) := spec_mxGood_L58 k n x5.1 x5.2.1 x5.2.2.1 x5.2.2.2.1 x5.2.2.2.2.1
def spec_mxGood_ps : List PE := [⟨0, 0, .val ty_3 false, false⟩]
noncomputable def spec_mxGood_F (k : Nat) : Fn (Bool) := ⟨spec_mxGood_C k, rdRes Try.prog spec_mxGood_ps [(.bool, false)] Try.f77.results.toList .ret, fun p => bif Nat.beq p 29898 then some (.loop spec_mxGood_i29898 spec_mxGood_o29898 2 160 (spec_mxGood_f29898 k k)) else bif Nat.beq p 58 then some (.loop spec_mxGood_i58 spec_mxGood_o58 0 96 (spec_mxGood_f58 k k)) else none, 0, []⟩
theorem spec_mxGood_eq (k : Nat) (x : PTe spec_mxGood_ps) : evFn (spec_mxGood_F k) (codeOf Try.f77) spec_mxGood_ps 16 x = spec_mxGood k x.1 := by kernel_rfl
theorem spec_mxGood_ls : loopsOf (codeOf Try.f77) 1 = [(58, loopB (codeOf Try.f77) 58), (29898, loopB (codeOf Try.f77) 29898)] := by kernel_rfl
theorem spec_mxGood_l29898 (k : Nat) : LoopOk (spec_mxGood_F k) (loopB (codeOf Try.f77) 29898) 29898 := LoopOk.mk (pin := spec_mxGood_i29898) (pout := spec_mxGood_o29898) (ex := 2) (nx := 160) (Lf := spec_mxGood_f29898 k) (k := k) (by kernel_rfl) (fun _ => rfl) (by intro n x; kernel_rfl)
theorem spec_mxGood_l58 (k : Nat) : LoopOk (spec_mxGood_F k) (loopB (codeOf Try.f77) 58) 58 := LoopOk.mk (pin := spec_mxGood_i58) (pout := spec_mxGood_o58) (ex := 0) (nx := 96) (Lf := spec_mxGood_f58 k) (k := k) (by kernel_rfl) (fun _ => rfl) (by intro n x; kernel_rfl)
theorem spec_mxGood_K (k : Nat) : Contract Try.prog 77 (spec_mxGood_V k) :=
  contract (C := spec_mxGood_C k) (F := spec_mxGood_F k) (fn := Try.f77) (c := codeOf Try.f77) (ps := spec_mxGood_ps) (rs := [(.bool, false)]) (nx := 16) ⟨tyOf_ok tys_ok, gOf_ok ⟨spec_dyGood_K, spec_mxSquare_K k, trivial⟩⟩ rfl (by kernel_rfl) (by kernel_rfl) (by kernel_rfl) (by kernel_rfl) (by kernel_rfl) (by kernel_rfl) rfl (by kernel_rfl) (by kernel_rfl) (AnnOk_list [(58, loopB (codeOf Try.f77) 58), (29898, loopB (codeOf Try.f77) 29898)] spec_mxGood_ls ⟨spec_mxGood_l58 k, spec_mxGood_l29898 k, trivial⟩) mix_ok (spec_mxGood_eq k)

noncomputable def spec_mxPart_V (k : Nat) : Variant := ⟨[.val ty_3 false, .val ty_0 false, .val ty_0 false], [(ty_3, false)], fun x => spec_mxPart k x.1 x.2.1 x.2.2.1⟩
noncomputable def spec_mxPart_C (k : Nat) : Cfg := ⟨Try.prog, tyOf tys, 35, gOf [], false, [], []⟩
def spec_mxPart_i58 : List PE := [⟨1, 48, .val ty_0 false, false⟩, ⟨2, 64, .val ty_0 false, false⟩, ⟨7, 80, .eat ty_2, false⟩, ⟨10, 96, .val ty_3 false, false⟩, ⟨11, 112, .val ty_0 false, false⟩, ⟨12, 128, .val ty_0 false, false⟩]
def spec_mxPart_o58 : List PE := [⟨7, 48, .eat ty_2, false⟩]
noncomputable def spec_mxPart_f58 (k : Nat) (n : Nat) (x1 : PTe spec_mxPart_i58) : Option ((List (List (Int × Int))) ⊕ PTe spec_mxPart_o58) := spec_mxPart_L58 k n x1.1 x1.2.1 x1.2.2.1 x1.2.2.2.1 x1.2.2.2.2.1 x1.2.2.2.2.2.1
def spec_mxPart_ps : List PE := [⟨0, 0, .val ty_3 false, false⟩, ⟨1, 16, .val ty_0 false, false⟩, ⟨2, 32, .val ty_0 false, false⟩]
noncomputable def spec_mxPart_F (k : Nat) : Fn (List (List (Int × Int))) := ⟨spec_mxPart_C k, rdRes Try.prog spec_mxPart_ps [(ty_3, false)] Try.f170.results.toList .ret, fun p => bif Nat.beq p 58 then some (.loop spec_mxPart_i58 spec_mxPart_o58 0 144 (spec_mxPart_f58 k k)) else none, 0, []⟩
theorem spec_mxPart_eq (k : Nat) (x : PTe spec_mxPart_ps) : evFn (spec_mxPart_F k) (codeOf Try.f170) spec_mxPart_ps 48 x = spec_mxPart k x.1 x.2.1 x.2.2.1 := by kernel_rfl
theorem spec_mxPart_ls : loopsOf (codeOf Try.f170) 1 = [(58, loopB (codeOf Try.f170) 58)] := by kernel_rfl
theorem spec_mxPart_l58 (k : Nat) : LoopOk (spec_mxPart_F k) (loopB (codeOf Try.f170) 58) 58 := LoopOk.mk (pin := spec_mxPart_i58) (pout := spec_mxPart_o58) (ex := 0) (nx := 144) (Lf := spec_mxPart_f58 k) (k := k) (by kernel_rfl) (fun _ => rfl) (by intro n x; kernel_rfl)
theorem spec_mxPart_K (k : Nat) : Contract Try.prog 170 (spec_mxPart_V k) :=
  contract (C := spec_mxPart_C k) (F := spec_mxPart_F k) (fn := Try.f170) (c := codeOf Try.f170) (ps := spec_mxPart_ps) (rs := [(ty_3, false)]) (nx := 48) ⟨tyOf_ok tys_ok, gOf_ok trivial⟩ rfl (by kernel_rfl) (by kernel_rfl) (by kernel_rfl) (by kernel_rfl) (by kernel_rfl) (by kernel_rfl) rfl (by kernel_rfl) (by kernel_rfl) (AnnOk_list [(58, loopB (codeOf Try.f170) 58)] spec_mxPart_ls ⟨spec_mxPart_l58 k, trivial⟩) mix_ok (spec_mxPart_eq k)

noncomputable def spec_l1Most_V : Variant := ⟨[.val ty_0 false, .val ty_0 false], [(ty_0, false)], fun x => spec_l1Most x.1 x.2.1⟩
noncomputable def spec_l1Most_C : Cfg := ⟨Try.prog, tyOf tys, 10, gOf [], false, [], []⟩
def spec_l1Most_ps : List PE := [⟨0, 0, .val ty_0 false, false⟩, ⟨1, 16, .val ty_0 false, false⟩]
noncomputable def spec_l1Most_F : Fn (Int) := ⟨spec_l1Most_C, rdRes Try.prog spec_l1Most_ps [(ty_0, false)] Try.f153.results.toList .ret, fun p => none, 0, []⟩
theorem spec_l1Most_eq (x : PTe spec_l1Most_ps) : evFn (spec_l1Most_F) (codeOf Try.f153) spec_l1Most_ps 32 x = spec_l1Most x.1 x.2.1 := by kernel_rfl
theorem spec_l1Most_K : Contract Try.prog 153 (spec_l1Most_V) :=
  contract (C := spec_l1Most_C) (F := spec_l1Most_F) (fn := Try.f153) (c := codeOf Try.f153) (ps := spec_l1Most_ps) (rs := [(ty_0, false)]) (nx := 32) ⟨tyOf_ok tys_ok, gOf_ok trivial⟩ rfl (by kernel_rfl) (by kernel_rfl) (by kernel_rfl) (by kernel_rfl) (by kernel_rfl) (by kernel_rfl) rfl (by kernel_rfl) (by kernel_rfl) (AnnOk_list [] (by kernel_rfl) trivial) mix_ok (spec_l1Most_eq)

noncomputable def spec_l1Abs_V : Variant := ⟨[.val ty_0 false], [(ty_0, false)], fun x => spec_l1Abs x.1⟩
noncomputable def spec_l1Abs_C : Cfg := ⟨Try.prog, tyOf tys, 7, gOf [(153, [], spec_l1Most_V)], false, [], []⟩
def spec_l1Abs_ps : List PE := [⟨0, 0, .val ty_0 false, false⟩]
noncomputable def spec_l1Abs_F : Fn (Int) := ⟨spec_l1Abs_C, rdRes Try.prog spec_l1Abs_ps [(ty_0, false)] Try.f198.results.toList .ret, fun p => none, 0, []⟩
theorem spec_l1Abs_eq (x : PTe spec_l1Abs_ps) : evFn (spec_l1Abs_F) (codeOf Try.f198) spec_l1Abs_ps 16 x = spec_l1Abs x.1 := by kernel_rfl
theorem spec_l1Abs_K : Contract Try.prog 198 (spec_l1Abs_V) :=
  contract (C := spec_l1Abs_C) (F := spec_l1Abs_F) (fn := Try.f198) (c := codeOf Try.f198) (ps := spec_l1Abs_ps) (rs := [(ty_0, false)]) (nx := 16) ⟨tyOf_ok tys_ok, gOf_ok ⟨spec_l1Most_K, trivial⟩⟩ rfl (by kernel_rfl) (by kernel_rfl) (by kernel_rfl) (by kernel_rfl) (by kernel_rfl) (by kernel_rfl) rfl (by kernel_rfl) (by kernel_rfl) (AnnOk_list [] (by kernel_rfl) trivial) mix_ok (spec_l1Abs_eq)

noncomputable def spec_dyMake_V (k : Nat) : Variant := ⟨[.val ty_0 false, .val ty_0 false], [(ty_1, true), (.bool, false)], fun x => spec_dyMake k x.1 x.2.1⟩
noncomputable def spec_dyMake_C (k : Nat) : Cfg := ⟨Try.prog, tyOf tys, 32, gOf [(110, [], spec_dyGood_V)], false, [], []⟩
def spec_dyMake_i28 : List PE := [⟨0, 32, .val ty_0 false, false⟩, ⟨1, 48, .val ty_0 false, false⟩, ⟨4, 64, .box ty_1 false, false⟩]
def spec_dyMake_o28 : List PE := [⟨0, 32, .val ty_0 false, false⟩, ⟨1, 48, .val ty_0 false, false⟩, ⟨4, 64, .box ty_1 false, false⟩]
noncomputable def spec_dyMake_f28 (k : Nat) (n : Nat) (x2 : PTe spec_dyMake_i28) : Option (((Int × Int) × Bool) ⊕ PTe spec_dyMake_o28) := spec_dyMake_L28 k n x2.1 x2.2.1 x2.2.2.1
def spec_dyMake_ps : List PE := [⟨0, 0, .val ty_0 false, false⟩, ⟨1, 16, .val ty_0 false, false⟩]
noncomputable def spec_dyMake_F (k : Nat) : Fn ((Int × Int) × Bool) := ⟨spec_dyMake_C k, rdRes Try.prog spec_dyMake_ps [(ty_1, true), (.bool, false)] Try.f152.results.toList .ret, fun p => bif Nat.beq p 28 then some (.loop spec_dyMake_i28 spec_dyMake_o28 0 80 (spec_dyMake_f28 k k)) else bif Nat.beq p 6 then some (.cut [⟨0, 32, .val ty_0 false, false⟩, ⟨1, 48, .val ty_0 false, false⟩, ⟨4, 64, .box ty_1 false, false⟩] 80) else none, 0, []⟩
theorem spec_dyMake_eq (k : Nat) (x : PTe spec_dyMake_ps) : evFn (spec_dyMake_F k) (codeOf Try.f152) spec_dyMake_ps 32 x = spec_dyMake k x.1 x.2.1 := by kernel_rfl
theorem spec_dyMake_ls : loopsOf (codeOf Try.f152) 1 = [(28, loopB (codeOf Try.f152) 28)] := by kernel_rfl
theorem spec_dyMake_l28 (k : Nat) : LoopOk (spec_dyMake_F k) (loopB (codeOf Try.f152) 28) 28 := LoopOk.mk (pin := spec_dyMake_i28) (pout := spec_dyMake_o28) (ex := 0) (nx := 80) (Lf := spec_dyMake_f28 k) (k := k) (by kernel_rfl) (fun _ => rfl) (by intro n x; kernel_rfl)
theorem spec_dyMake_K (k : Nat) : Contract Try.prog 152 (spec_dyMake_V k) :=
  contract (C := spec_dyMake_C k) (F := spec_dyMake_F k) (fn := Try.f152) (c := codeOf Try.f152) (ps := spec_dyMake_ps) (rs := [(ty_1, true), (.bool, false)]) (nx := 32) ⟨tyOf_ok tys_ok, gOf_ok ⟨spec_dyGood_K, trivial⟩⟩ rfl (by kernel_rfl) (by kernel_rfl) (by kernel_rfl) (by kernel_rfl) (by kernel_rfl) (by kernel_rfl) rfl (by kernel_rfl) (by kernel_rfl) (AnnOk_list [(28, loopB (codeOf Try.f152) 28)] spec_dyMake_ls ⟨spec_dyMake_l28 k, trivial⟩) mix_ok (spec_dyMake_eq k)

noncomputable def spec_dyMul_V (k : Nat) : Variant := ⟨[.val ty_1 true, .val ty_1 true], [(ty_1, true), (.bool, false)], fun x => spec_dyMul k x.1 x.2.1⟩
noncomputable def spec_dyMul_C (k : Nat) : Cfg := ⟨Try.prog, tyOf tys, 67, gOf [(198, [], spec_l1Abs_V), (152, [], spec_dyMake_V k)], false, [], []⟩
def spec_dyMul_i60 : List PE := [⟨2, 32, .box ty_1 false, false⟩, ⟨3, 48, .box ty_1 false, false⟩, ⟨4, 64, .box ty_1 false, false⟩, ⟨6, 80, .val ty_0 false, false⟩]
def spec_dyMul_o60 : List PE := [⟨2, 32, .box ty_1 false, false⟩, ⟨3, 48, .box ty_1 false, false⟩, ⟨4, 64, .box ty_1 false, false⟩, ⟨6, 80, .val ty_0 false, false⟩]
noncomputable def spec_dyMul_f60 (k : Nat) (n : Nat) (x1 : PTe spec_dyMul_i60) : Option (((Int × Int) × Bool) ⊕ PTe spec_dyMul_o60) := spec_dyMul_L60 k n x1.1 x1.2.1 x1.2.2.1 x1.2.2.2.1
def spec_dyMul_i124 : List PE := [⟨2, 32, .box ty_1 false, false⟩, ⟨3, 48, .box ty_1 false, false⟩, ⟨4, 64, .box ty_1 false, false⟩, ⟨6, 80, .val ty_0 false, false⟩]
def spec_dyMul_o124 : List PE := [⟨2, 32, .box ty_1 false, false⟩, ⟨3, 48, .box ty_1 false, false⟩, ⟨4, 64, .box ty_1 false, false⟩, ⟨6, 80, .val ty_0 false, false⟩]
noncomputable def spec_dyMul_f124 (k : Nat) (n : Nat) (x4 : PTe spec_dyMul_i124) : Option (((Int × Int) × Bool) ⊕ PTe spec_dyMul_o124) := spec_dyMul_L124 k n x4.1 x4.2.1 x4.2.2.1 x4.2.2.2.1
def spec_dyMul_ps : List PE := [⟨0, 0, .val ty_1 true, false⟩, ⟨1, 16, .val ty_1 true, false⟩]
noncomputable def spec_dyMul_F (k : Nat) : Fn ((Int × Int) × Bool) := ⟨spec_dyMul_C k, rdRes Try.prog spec_dyMul_ps [(ty_1, true), (.bool, false)] Try.f171.results.toList .ret, fun p => bif Nat.beq p 60 then some (.loop spec_dyMul_i60 spec_dyMul_o60 0 96 (spec_dyMul_f60 k k)) else bif Nat.beq p 124 then some (.loop spec_dyMul_i124 spec_dyMul_o124 2 96 (spec_dyMul_f124 k k)) else none, 0, []⟩
theorem spec_dyMul_eq (k : Nat) (x : PTe spec_dyMul_ps) : evFn (spec_dyMul_F k) (codeOf Try.f171) spec_dyMul_ps 32 x = spec_dyMul k x.1 x.2.1 := by kernel_rfl
theorem spec_dyMul_ls : loopsOf (codeOf Try.f171) 1 = [(60, loopB (codeOf Try.f171) 60), (124, loopB (codeOf Try.f171) 124)] := by kernel_rfl
theorem spec_dyMul_l60 (k : Nat) : LoopOk (spec_dyMul_F k) (loopB (codeOf Try.f171) 60) 60 := LoopOk.mk (pin := spec_dyMul_i60) (pout := spec_dyMul_o60) (ex := 0) (nx := 96) (Lf := spec_dyMul_f60 k) (k := k) (by kernel_rfl) (fun _ => rfl) (by intro n x; kernel_rfl)
theorem spec_dyMul_l124 (k : Nat) : LoopOk (spec_dyMul_F k) (loopB (codeOf Try.f171) 124) 124 := LoopOk.mk (pin := spec_dyMul_i124) (pout := spec_dyMul_o124) (ex := 2) (nx := 96) (Lf := spec_dyMul_f124 k) (k := k) (by kernel_rfl) (fun _ => rfl) (by intro n x; kernel_rfl)
theorem spec_dyMul_K (k : Nat) : Contract Try.prog 171 (spec_dyMul_V k) :=
  contract (C := spec_dyMul_C k) (F := spec_dyMul_F k) (fn := Try.f171) (c := codeOf Try.f171) (ps := spec_dyMul_ps) (rs := [(ty_1, true), (.bool, false)]) (nx := 32) ⟨tyOf_ok tys_ok, gOf_ok ⟨spec_l1Abs_K, spec_dyMake_K k, trivial⟩⟩ rfl (by kernel_rfl) (by kernel_rfl) (by kernel_rfl) (by kernel_rfl) (by kernel_rfl) (by kernel_rfl) rfl (by kernel_rfl) (by kernel_rfl) (AnnOk_list [(60, loopB (codeOf Try.f171) 60), (124, loopB (codeOf Try.f171) 124)] spec_dyMul_ls ⟨spec_dyMul_l60 k, spec_dyMul_l124 k, trivial⟩) mix_ok (spec_dyMul_eq k)

noncomputable def spec_dyMinus_V : Variant := ⟨[.val ty_1 true], [(ty_1, true)], fun x => spec_dyMinus x.1⟩
noncomputable def spec_dyMinus_C : Cfg := ⟨Try.prog, tyOf tys, 9, gOf [], false, [], []⟩
def spec_dyMinus_ps : List PE := [⟨0, 0, .val ty_1 true, false⟩]
noncomputable def spec_dyMinus_F : Fn (Int × Int) := ⟨spec_dyMinus_C, rdRes Try.prog spec_dyMinus_ps [(ty_1, true)] Try.f172.results.toList .ret, fun p => none, 0, []⟩
theorem spec_dyMinus_eq (x : PTe spec_dyMinus_ps) : evFn (spec_dyMinus_F) (codeOf Try.f172) spec_dyMinus_ps 16 x = spec_dyMinus x.1 := by kernel_rfl
theorem spec_dyMinus_K : Contract Try.prog 172 (spec_dyMinus_V) :=
  contract (C := spec_dyMinus_C) (F := spec_dyMinus_F) (fn := Try.f172) (c := codeOf Try.f172) (ps := spec_dyMinus_ps) (rs := [(ty_1, true)]) (nx := 16) ⟨tyOf_ok tys_ok, gOf_ok trivial⟩ rfl (by kernel_rfl) (by kernel_rfl) (by kernel_rfl) (by kernel_rfl) (by kernel_rfl) (by kernel_rfl) rfl (by kernel_rfl) (by kernel_rfl) (AnnOk_list [] (by kernel_rfl) trivial) mix_ok (spec_dyMinus_eq)

noncomputable def spec_dyPower_V : Variant := ⟨[.val ty_0 false], [(ty_0, false)], fun x => spec_dyPower x.1⟩
noncomputable def spec_dyPower_C : Cfg := ⟨Try.prog, tyOf tys, 6, gOf [], false, [], []⟩
def spec_dyPower_ps : List PE := [⟨0, 0, .val ty_0 false, false⟩]
noncomputable def spec_dyPower_F : Fn (Int) := ⟨spec_dyPower_C, rdRes Try.prog spec_dyPower_ps [(ty_0, false)] Try.f151.results.toList .ret, fun p => none, 0, []⟩
theorem spec_dyPower_eq (x : PTe spec_dyPower_ps) : evFn (spec_dyPower_F) (codeOf Try.f151) spec_dyPower_ps 16 x = spec_dyPower x.1 := by kernel_rfl
theorem spec_dyPower_K : Contract Try.prog 151 (spec_dyPower_V) :=
  contract (C := spec_dyPower_C) (F := spec_dyPower_F) (fn := Try.f151) (c := codeOf Try.f151) (ps := spec_dyPower_ps) (rs := [(ty_0, false)]) (nx := 16) ⟨tyOf_ok tys_ok, gOf_ok trivial⟩ rfl (by kernel_rfl) (by kernel_rfl) (by kernel_rfl) (by kernel_rfl) (by kernel_rfl) (by kernel_rfl) rfl (by kernel_rfl) (by kernel_rfl) (AnnOk_list [] (by kernel_rfl) trivial) mix_ok (spec_dyPower_eq)

noncomputable def spec_dyAt_V (k : Nat) : Variant := ⟨[.val ty_1 true, .val ty_0 false], [(ty_0, false), (.bool, false)], fun x => spec_dyAt k x.1 x.2.1⟩
noncomputable def spec_dyAt_C (k : Nat) : Cfg := ⟨Try.prog, tyOf tys, 30, gOf [(151, [], spec_dyPower_V), (78, [], spec_l1In_V)], false, [], []⟩
def spec_dyAt_i58 : List PE := [⟨1, 32, .val ty_0 false, false⟩, ⟨2, 48, .box ty_1 false, false⟩, ⟨6, 64, .val ty_0 false, false⟩]
def spec_dyAt_o58 : List PE := [⟨2, 32, .box ty_1 false, false⟩]
noncomputable def spec_dyAt_f58 (k : Nat) (n : Nat) (x4 : PTe spec_dyAt_i58) : Option ((Int × Bool) ⊕ PTe spec_dyAt_o58) := spec_dyAt_L58 k n x4.1 x4.2.1 x4.2.2.1
def spec_dyAt_ps : List PE := [⟨0, 0, .val ty_1 true, false⟩, ⟨1, 16, .val ty_0 false, false⟩]
noncomputable def spec_dyAt_F (k : Nat) : Fn (Int × Bool) := ⟨spec_dyAt_C k, rdRes Try.prog spec_dyAt_ps [(ty_0, false), (.bool, false)] Try.f113.results.toList .ret, fun p => bif Nat.beq p 58 then some (.loop spec_dyAt_i58 spec_dyAt_o58 0 80 (spec_dyAt_f58 k k)) else none, 0, []⟩
theorem spec_dyAt_eq (k : Nat) (x : PTe spec_dyAt_ps) : evFn (spec_dyAt_F k) (codeOf Try.f113) spec_dyAt_ps 32 x = spec_dyAt k x.1 x.2.1 := by kernel_rfl
theorem spec_dyAt_ls : loopsOf (codeOf Try.f113) 1 = [(58, loopB (codeOf Try.f113) 58)] := by kernel_rfl
theorem spec_dyAt_l58 (k : Nat) : LoopOk (spec_dyAt_F k) (loopB (codeOf Try.f113) 58) 58 := LoopOk.mk (pin := spec_dyAt_i58) (pout := spec_dyAt_o58) (ex := 0) (nx := 80) (Lf := spec_dyAt_f58 k) (k := k) (by kernel_rfl) (fun _ => rfl) (by intro n x; kernel_rfl)
theorem spec_dyAt_K (k : Nat) : Contract Try.prog 113 (spec_dyAt_V k) :=
  contract (C := spec_dyAt_C k) (F := spec_dyAt_F k) (fn := Try.f113) (c := codeOf Try.f113) (ps := spec_dyAt_ps) (rs := [(ty_0, false), (.bool, false)]) (nx := 32) ⟨tyOf_ok tys_ok, gOf_ok ⟨spec_dyPower_K, spec_l1In_K, trivial⟩⟩ rfl (by kernel_rfl) (by kernel_rfl) (by kernel_rfl) (by kernel_rfl) (by kernel_rfl) (by kernel_rfl) rfl (by kernel_rfl) (by kernel_rfl) (AnnOk_list [(58, loopB (codeOf Try.f113) 58)] spec_dyAt_ls ⟨spec_dyAt_l58 k, trivial⟩) mix_ok (spec_dyAt_eq k)

noncomputable def spec_dyAdd_V (k : Nat) : Variant := ⟨[.val ty_1 true, .val ty_1 true], [(ty_1, true), (.bool, false)], fun x => spec_dyAdd k x.1 x.2.1⟩
noncomputable def spec_dyAdd_C (k : Nat) : Cfg := ⟨Try.prog, tyOf tys, 42, gOf [(153, [], spec_l1Most_V), (113, [], spec_dyAt_V k), (152, [], spec_dyMake_V k)], false, [], []⟩
def spec_dyAdd_ps : List PE := [⟨0, 0, .val ty_1 true, false⟩, ⟨1, 16, .val ty_1 true, false⟩]
noncomputable def spec_dyAdd_F (k : Nat) : Fn ((Int × Int) × Bool) := ⟨spec_dyAdd_C k, rdRes Try.prog spec_dyAdd_ps [(ty_1, true), (.bool, false)] Try.f173.results.toList .ret, fun p => none, 0, []⟩
theorem spec_dyAdd_eq (k : Nat) (x : PTe spec_dyAdd_ps) : evFn (spec_dyAdd_F k) (codeOf Try.f173) spec_dyAdd_ps 32 x = spec_dyAdd k x.1 x.2.1 := by kernel_rfl
theorem spec_dyAdd_K (k : Nat) : Contract Try.prog 173 (spec_dyAdd_V k) :=
  contract (C := spec_dyAdd_C k) (F := spec_dyAdd_F k) (fn := Try.f173) (c := codeOf Try.f173) (ps := spec_dyAdd_ps) (rs := [(ty_1, true), (.bool, false)]) (nx := 32) ⟨tyOf_ok tys_ok, gOf_ok ⟨spec_l1Most_K, spec_dyAt_K k, spec_dyMake_K k, trivial⟩⟩ rfl (by kernel_rfl) (by kernel_rfl) (by kernel_rfl) (by kernel_rfl) (by kernel_rfl) (by kernel_rfl) rfl (by kernel_rfl) (by kernel_rfl) (AnnOk_list [] (by kernel_rfl) trivial) mix_ok (spec_dyAdd_eq k)

noncomputable def spec_mxDet_V (k : Nat) : Variant := ⟨[.val ty_3 false], [(ty_1, true), (.bool, false)], fun x => spec_mxDet k x.1⟩
noncomputable def spec_mxDet_W (rc : (List (List (Int × Int))) → Option ((Int × Int) × Bool)) : Variant := ⟨[.val ty_3 false], [(ty_1, true), (.bool, false)], fun x => rc x.1⟩
noncomputable def spec_mxDet_C (k : Nat) (rc : (List (List (Int × Int))) → Option ((Int × Int) × Bool)) : Cfg := ⟨Try.prog, tyOf tys, 68, gOf [(170, [], spec_mxPart_V k), (131, [], spec_mxDet_W rc), (171, [], spec_dyMul_V k), (172, [], spec_dyMinus_V), (173, [], spec_dyAdd_V k)], false, [], []⟩
def spec_mxDet_i122 : List PE := [⟨0, 16, .val ty_3 false, false⟩, ⟨2, 32, .box ty_1 false, false⟩, ⟨4, 48, .box ty_1 false, false⟩, ⟨24, 64, .val ty_2 false, false⟩, ⟨25, 80, .val ty_0 false, false⟩, ⟨26, 96, .val ty_0 false, false⟩]
def spec_mxDet_o122 : List PE := [⟨2, 16, .box ty_1 false, false⟩, ⟨4, 32, .box ty_1 false, false⟩]
noncomputable def spec_mxDet_f122 (k : Nat) (rc : (List (List (Int × Int))) → Option ((Int × Int) × Bool)) (n : Nat) (x8 : PTe spec_mxDet_i122) : Option (((Int × Int) × Bool) ⊕ PTe spec_mxDet_o122) := spec_mxDet_L122 k rc n x8.1 x8.2.1 x8.2.2.1 x8.2.2.2.1 x8.2.2.2.2.1 x8.2.2.2.2.2.1
def spec_mxDet_ps : List PE := [⟨0, 0, .val ty_3 false, false⟩]
noncomputable def spec_mxDet_F (k : Nat) (rc : (List (List (Int × Int))) → Option ((Int × Int) × Bool)) : Fn ((Int × Int) × Bool) := ⟨spec_mxDet_C k rc, rdRes Try.prog spec_mxDet_ps [(ty_1, true), (.bool, false)] Try.f131.results.toList .ret, fun p => bif Nat.beq p 125342 then some (.cut [⟨0, 16, .val ty_3 false, false⟩, ⟨2, 32, .box ty_1 false, false⟩, ⟨4, 48, .box ty_1 false, false⟩, ⟨9, 64, .box ty_1 false, false⟩, ⟨10, 80, .val .bool false, false⟩, ⟨24, 96, .val ty_2 false, false⟩, ⟨25, 112, .val ty_0 false, false⟩, ⟨26, 128, .val ty_0 false, false⟩] 144) else bif Nat.beq p 122 then some (.loop spec_mxDet_i122 spec_mxDet_o122 0 112 (spec_mxDet_f122 k rc k)) else none, 0, []⟩
theorem spec_mxDet_eq (k : Nat) (rc : (List (List (Int × Int))) → Option ((Int × Int) × Bool)) (x : PTe spec_mxDet_ps) : evFn (spec_mxDet_F k rc) (codeOf Try.f131) spec_mxDet_ps 16 x = spec_mxDet_B k rc x.1 := by kernel_rfl
theorem spec_mxDet_ls : loopsOf (codeOf Try.f131) 1 = [(122, loopB (codeOf Try.f131) 122)] := by kernel_rfl
theorem spec_mxDet_l122 (k : Nat) (rc : (List (List (Int × Int))) → Option ((Int × Int) × Bool)) : LoopOk (spec_mxDet_F k rc) (loopB (codeOf Try.f131) 122) 122 := LoopOk.mk (pin := spec_mxDet_i122) (pout := spec_mxDet_o122) (ex := 0) (nx := 112) (Lf := spec_mxDet_f122 k rc) (k := k) (by kernel_rfl) (fun _ => rfl) (by intro n x; kernel_rfl)
theorem spec_mxDet_KB (k : Nat) (rc : (List (List (Int × Int))) → Option ((Int × Int) × Bool)) (hrc : Contract Try.prog 131 (spec_mxDet_W rc)) : Contract Try.prog 131 (spec_mxDet_W (spec_mxDet_B k rc)) :=
  contract (C := spec_mxDet_C k rc) (F := spec_mxDet_F k rc) (fn := Try.f131) (c := codeOf Try.f131) (ps := spec_mxDet_ps) (rs := [(ty_1, true), (.bool, false)]) (nx := 16) ⟨tyOf_ok tys_ok, gOf_ok ⟨spec_mxPart_K k, hrc, spec_dyMul_K k, spec_dyMinus_K, spec_dyAdd_K k, trivial⟩⟩ rfl (by kernel_rfl) (by kernel_rfl) (by kernel_rfl) (by kernel_rfl) (by kernel_rfl) (by kernel_rfl) rfl (by kernel_rfl) (by kernel_rfl) (AnnOk_list [(122, loopB (codeOf Try.f131) 122)] spec_mxDet_ls ⟨spec_mxDet_l122 k rc, trivial⟩) mix_ok (spec_mxDet_eq k rc)
theorem spec_mxDet_KR (k : Nat) : ∀ n, Contract Try.prog 131 (spec_mxDet_W (spec_mxDet_R k n))
  | 0 => contract_none fun _ => rfl
  | n + 1 => spec_mxDet_KB k _ (spec_mxDet_KR k n)
theorem spec_mxDet_K (k : Nat) : Contract Try.prog 131 (spec_mxDet_V k) := spec_mxDet_KR k k

noncomputable def spec_dyInt_V : Variant := ⟨[.val ty_0 false], [(ty_1, true)], fun x => spec_dyInt x.1⟩
noncomputable def spec_dyInt_C : Cfg := ⟨Try.prog, tyOf tys, 5, gOf [], false, [], []⟩
def spec_dyInt_ps : List PE := [⟨0, 0, .val ty_0 false, false⟩]
noncomputable def spec_dyInt_F : Fn (Int × Int) := ⟨spec_dyInt_C, rdRes Try.prog spec_dyInt_ps [(ty_1, true)] Try.f112.results.toList .ret, fun p => none, 0, []⟩
theorem spec_dyInt_eq (x : PTe spec_dyInt_ps) : evFn (spec_dyInt_F) (codeOf Try.f112) spec_dyInt_ps 16 x = spec_dyInt x.1 := by kernel_rfl
theorem spec_dyInt_K : Contract Try.prog 112 (spec_dyInt_V) :=
  contract (C := spec_dyInt_C) (F := spec_dyInt_F) (fn := Try.f112) (c := codeOf Try.f112) (ps := spec_dyInt_ps) (rs := [(ty_1, true)]) (nx := 16) ⟨tyOf_ok tys_ok, gOf_ok trivial⟩ rfl (by kernel_rfl) (by kernel_rfl) (by kernel_rfl) (by kernel_rfl) (by kernel_rfl) (by kernel_rfl) rfl (by kernel_rfl) (by kernel_rfl) (AnnOk_list [] (by kernel_rfl) trivial) mix_ok (spec_dyInt_eq)

noncomputable def spec_mxAdjoint_V (k : Nat) : Variant := ⟨[.val ty_3 false], [(ty_3, false), (.bool, false)], fun x => spec_mxAdjoint k x.1⟩
noncomputable def spec_mxAdjoint_C (k : Nat) : Cfg := ⟨Try.prog, tyOf tys, 54, gOf [(112, [], spec_dyInt_V), (170, [], spec_mxPart_V k), (131, [], spec_mxDet_V k), (172, [], spec_dyMinus_V)], false, [], []⟩
def spec_mxAdjoint_i125338 : List PE := [⟨0, 16, .val ty_3 false, false⟩, ⟨4, 32, .eat ty_2, false⟩, ⟨5, 48, .val ty_0 false, false⟩, ⟨6, 64, .eat ty_1, false⟩, ⟨17, 80, .val ty_0 false, false⟩, ⟨18, 96, .val ty_0 false, false⟩, ⟨22, 112, .val ty_0 false, false⟩, ⟨23, 128, .val ty_0 false, false⟩]
def spec_mxAdjoint_o125338 : List PE := [⟨0, 16, .val ty_3 false, false⟩, ⟨4, 32, .eat ty_2, false⟩, ⟨6, 48, .eat ty_1, false⟩, ⟨17, 64, .val ty_0 false, false⟩, ⟨18, 80, .val ty_0 false, false⟩]
noncomputable def spec_mxAdjoint_f125338 (k : Nat) (n : Nat) (x7 : PTe spec_mxAdjoint_i125338) : Option (((List (List (Int × Int))) × Bool) ⊕ PTe spec_mxAdjoint_o125338) := spec_mxAdjoint_L125338 k n x7.1 x7.2.1 x7.2.2.1 x7.2.2.2.1 x7.2.2.2.2.1 x7.2.2.2.2.2.1 x7.2.2.2.2.2.2.1 x7.2.2.2.2.2.2.2.1
def spec_mxAdjoint_i122 : List PE := [⟨0, 16, .val ty_3 false, false⟩, ⟨4, 32, .eat ty_2, false⟩, ⟨17, 48, .val ty_0 false, false⟩, ⟨18, 64, .val ty_0 false, false⟩]
def spec_mxAdjoint_o122 : List PE := [⟨4, 16, .eat ty_2, false⟩]
noncomputable def spec_mxAdjoint_f122 (k : Nat) (n : Nat) (x10 : PTe spec_mxAdjoint_i122) : Option (((List (List (Int × Int))) × Bool) ⊕ PTe spec_mxAdjoint_o122) := spec_mxAdjoint_L122 k n x10.1 x10.2.1 x10.2.2.1 x10.2.2.2.1
def spec_mxAdjoint_ps : List PE := [⟨0, 0, .val ty_3 false, false⟩]
noncomputable def spec_mxAdjoint_F (k : Nat) : Fn ((List (List (Int × Int))) × Bool) := ⟨spec_mxAdjoint_C k, rdRes Try.prog spec_mxAdjoint_ps [(ty_3, false), (.bool, false)] Try.f132.results.toList .ret, fun p => bif Nat.beq p 64173262 then some (.cut [⟨0, 16, .val ty_3 false, false⟩, ⟨4, 32, .eat ty_2, false⟩, ⟨5, 48, .val ty_0 false, false⟩, ⟨6, 64, .eat ty_1, false⟩, ⟨8, 80, .box ty_1 false, false⟩, ⟨17, 96, .val ty_0 false, false⟩, ⟨18, 112, .val ty_0 false, false⟩, ⟨22, 128, .val ty_0 false, false⟩, ⟨23, 144, .val ty_0 false, false⟩] 160) else bif Nat.beq p 125338 then some (.loop spec_mxAdjoint_i125338 spec_mxAdjoint_o125338 2 144 (spec_mxAdjoint_f125338 k k)) else bif Nat.beq p 122 then some (.loop spec_mxAdjoint_i122 spec_mxAdjoint_o122 0 80 (spec_mxAdjoint_f122 k k)) else none, 0, []⟩
theorem spec_mxAdjoint_eq (k : Nat) (x : PTe spec_mxAdjoint_ps) : evFn (spec_mxAdjoint_F k) (codeOf Try.f132) spec_mxAdjoint_ps 16 x = spec_mxAdjoint k x.1 := by kernel_rfl
theorem spec_mxAdjoint_ls : loopsOf (codeOf Try.f132) 1 = [(122, loopB (codeOf Try.f132) 122), (125338, loopB (codeOf Try.f132) 125338)] := by kernel_rfl
theorem spec_mxAdjoint_l125338 (k : Nat) : LoopOk (spec_mxAdjoint_F k) (loopB (codeOf Try.f132) 125338) 125338 := LoopOk.mk (pin := spec_mxAdjoint_i125338) (pout := spec_mxAdjoint_o125338) (ex := 2) (nx := 144) (Lf := spec_mxAdjoint_f125338 k) (k := k) (by kernel_rfl) (fun _ => rfl) (by intro n x; kernel_rfl)
theorem spec_mxAdjoint_l122 (k : Nat) : LoopOk (spec_mxAdjoint_F k) (loopB (codeOf Try.f132) 122) 122 := LoopOk.mk (pin := spec_mxAdjoint_i122) (pout := spec_mxAdjoint_o122) (ex := 0) (nx := 80) (Lf := spec_mxAdjoint_f122 k) (k := k) (by kernel_rfl) (fun _ => rfl) (by intro n x; kernel_rfl)
theorem spec_mxAdjoint_K (k : Nat) : Contract Try.prog 132 (spec_mxAdjoint_V k) :=
  contract (C := spec_mxAdjoint_C k) (F := spec_mxAdjoint_F k) (fn := Try.f132) (c := codeOf Try.f132) (ps := spec_mxAdjoint_ps) (rs := [(ty_3, false), (.bool, false)]) (nx := 16) ⟨tyOf_ok tys_ok, gOf_ok ⟨spec_dyInt_K, spec_mxPart_K k, spec_mxDet_K k, spec_dyMinus_K, trivial⟩⟩ rfl (by kernel_rfl) (by kernel_rfl) (by kernel_rfl) (by kernel_rfl) (by kernel_rfl) (by kernel_rfl) rfl (by kernel_rfl) (by kernel_rfl) (AnnOk_list [(122, loopB (codeOf Try.f132) 122), (125338, loopB (codeOf Try.f132) 125338)] spec_mxAdjoint_ls ⟨spec_mxAdjoint_l122 k, spec_mxAdjoint_l125338 k, trivial⟩) mix_ok (spec_mxAdjoint_eq k)

noncomputable def spec_dyDown_V : Variant := ⟨[.val ty_0 false, .val ty_0 false], [(ty_0, false)], fun x => spec_dyDown x.1 x.2.1⟩
noncomputable def spec_dyDown_C : Cfg := ⟨Try.prog, tyOf tys, 16, gOf [], false, [], []⟩
def spec_dyDown_ps : List PE := [⟨0, 0, .val ty_0 false, false⟩, ⟨1, 16, .val ty_0 false, false⟩]
noncomputable def spec_dyDown_F : Fn (Int) := ⟨spec_dyDown_C, rdRes Try.prog spec_dyDown_ps [(ty_0, false)] Try.f174.results.toList .ret, fun p => none, 0, []⟩
theorem spec_dyDown_eq (x : PTe spec_dyDown_ps) : evFn (spec_dyDown_F) (codeOf Try.f174) spec_dyDown_ps 32 x = spec_dyDown x.1 x.2.1 := by kernel_rfl
theorem spec_dyDown_K : Contract Try.prog 174 (spec_dyDown_V) :=
  contract (C := spec_dyDown_C) (F := spec_dyDown_F) (fn := Try.f174) (c := codeOf Try.f174) (ps := spec_dyDown_ps) (rs := [(ty_0, false)]) (nx := 32) ⟨tyOf_ok tys_ok, gOf_ok trivial⟩ rfl (by kernel_rfl) (by kernel_rfl) (by kernel_rfl) (by kernel_rfl) (by kernel_rfl) (by kernel_rfl) rfl (by kernel_rfl) (by kernel_rfl) (AnnOk_list [] (by kernel_rfl) trivial) mix_ok (spec_dyDown_eq)

noncomputable def spec_dyDigits_V (k : Nat) : Variant := ⟨[.val ty_0 false, .val ty_0 false, .val ty_0 false, .val ty_0 false, .val ty_0 false], [(ty_1, true), (.bool, false)], fun x => spec_dyDigits k x.1 x.2.1 x.2.2.1 x.2.2.2.1 x.2.2.2.2.1⟩
noncomputable def spec_dyDigits_C (k : Nat) : Cfg := ⟨Try.prog, tyOf tys, 65, gOf [(198, [], spec_l1Abs_V), (151, [], spec_dyPower_V), (152, [], spec_dyMake_V k)], false, [], []⟩
def spec_dyDigits_i58 : List PE := [⟨0, 80, .val ty_0 false, false⟩, ⟨1, 96, .val ty_0 false, false⟩, ⟨2, 112, .val ty_0 false, false⟩, ⟨3, 128, .val ty_0 false, false⟩, ⟨4, 144, .val ty_0 false, false⟩, ⟨10, 160, .box ty_1 false, false⟩, ⟨12, 176, .val ty_0 false, false⟩, ⟨13, 192, .val ty_0 false, false⟩]
def spec_dyDigits_o58 : List PE := [⟨0, 80, .val ty_0 false, false⟩, ⟨3, 96, .val ty_0 false, false⟩, ⟨4, 112, .val ty_0 false, false⟩, ⟨10, 128, .box ty_1 false, false⟩, ⟨12, 144, .val ty_0 false, false⟩]
noncomputable def spec_dyDigits_f58 (k : Nat) (n : Nat) (x1 : PTe spec_dyDigits_i58) : Option (((Int × Int) × Bool) ⊕ PTe spec_dyDigits_o58) := spec_dyDigits_L58 k n x1.1 x1.2.1 x1.2.2.1 x1.2.2.2.1 x1.2.2.2.2.1 x1.2.2.2.2.2.1 x1.2.2.2.2.2.2.1 x1.2.2.2.2.2.2.2.1
def spec_dyDigits_i60 : List PE := [⟨0, 80, .val ty_0 false, false⟩, ⟨3, 96, .val ty_0 false, false⟩, ⟨4, 112, .val ty_0 false, false⟩, ⟨10, 128, .box ty_1 false, false⟩, ⟨12, 144, .val ty_0 false, false⟩]
def spec_dyDigits_o60 : List PE := [⟨0, 80, .val ty_0 false, false⟩, ⟨3, 96, .val ty_0 false, false⟩, ⟨4, 112, .val ty_0 false, false⟩, ⟨10, 128, .box ty_1 false, false⟩, ⟨12, 144, .val ty_0 false, false⟩]
noncomputable def spec_dyDigits_f60 (k : Nat) (n : Nat) (x4 : PTe spec_dyDigits_i60) : Option (((Int × Int) × Bool) ⊕ PTe spec_dyDigits_o60) := spec_dyDigits_L60 k n x4.1 x4.2.1 x4.2.2.1 x4.2.2.2.1 x4.2.2.2.2.1
def spec_dyDigits_ps : List PE := [⟨0, 0, .val ty_0 false, false⟩, ⟨1, 16, .val ty_0 false, false⟩, ⟨2, 32, .val ty_0 false, false⟩, ⟨3, 48, .val ty_0 false, false⟩, ⟨4, 64, .val ty_0 false, false⟩]
noncomputable def spec_dyDigits_F (k : Nat) : Fn ((Int × Int) × Bool) := ⟨spec_dyDigits_C k, rdRes Try.prog spec_dyDigits_ps [(ty_1, true), (.bool, false)] Try.f175.results.toList .ret, fun p => bif Nat.beq p 58 then some (.loop spec_dyDigits_i58 spec_dyDigits_o58 0 208 (spec_dyDigits_f58 k k)) else bif Nat.beq p 60 then some (.loop spec_dyDigits_i60 spec_dyDigits_o60 2 160 (spec_dyDigits_f60 k k)) else none, 0, []⟩
theorem spec_dyDigits_eq (k : Nat) (x : PTe spec_dyDigits_ps) : evFn (spec_dyDigits_F k) (codeOf Try.f175) spec_dyDigits_ps 80 x = spec_dyDigits k x.1 x.2.1 x.2.2.1 x.2.2.2.1 x.2.2.2.2.1 := by kernel_rfl
theorem spec_dyDigits_ls : loopsOf (codeOf Try.f175) 1 = [(58, loopB (codeOf Try.f175) 58), (60, loopB (codeOf Try.f175) 60)] := by kernel_rfl
theorem spec_dyDigits_l58 (k : Nat) : LoopOk (spec_dyDigits_F k) (loopB (codeOf Try.f175) 58) 58 := LoopOk.mk (pin := spec_dyDigits_i58) (pout := spec_dyDigits_o58) (ex := 0) (nx := 208) (Lf := spec_dyDigits_f58 k) (k := k) (by kernel_rfl) (fun _ => rfl) (by intro n x; kernel_rfl)
theorem spec_dyDigits_l60 (k : Nat) : LoopOk (spec_dyDigits_F k) (loopB (codeOf Try.f175) 60) 60 := LoopOk.mk (pin := spec_dyDigits_i60) (pout := spec_dyDigits_o60) (ex := 2) (nx := 160) (Lf := spec_dyDigits_f60 k) (k := k) (by kernel_rfl) (fun _ => rfl) (by intro n x; kernel_rfl)
theorem spec_dyDigits_K (k : Nat) : Contract Try.prog 175 (spec_dyDigits_V k) :=
  contract (C := spec_dyDigits_C k) (F := spec_dyDigits_F k) (fn := Try.f175) (c := codeOf Try.f175) (ps := spec_dyDigits_ps) (rs := [(ty_1, true), (.bool, false)]) (nx := 80) ⟨tyOf_ok tys_ok, gOf_ok ⟨spec_l1Abs_K, spec_dyPower_K, spec_dyMake_K k, trivial⟩⟩ rfl (by kernel_rfl) (by kernel_rfl) (by kernel_rfl) (by kernel_rfl) (by kernel_rfl) (by kernel_rfl) rfl (by kernel_rfl) (by kernel_rfl) (AnnOk_list [(58, loopB (codeOf Try.f175) 58), (60, loopB (codeOf Try.f175) 60)] spec_dyDigits_ls ⟨spec_dyDigits_l58 k, spec_dyDigits_l60 k, trivial⟩) mix_ok (spec_dyDigits_eq k)

noncomputable def spec_dyDivide_V (k : Nat) : Variant := ⟨[.val ty_1 true, .val ty_1 true, .val ty_0 false], [(ty_1, true), (.bool, false)], fun x => spec_dyDivide k x.1 x.2.1 x.2.2.1⟩
noncomputable def spec_dyDivide_C (k : Nat) : Cfg := ⟨Try.prog, tyOf tys, 59, gOf [(172, [], spec_dyMinus_V), (174, [], spec_dyDown_V), (151, [], spec_dyPower_V), (152, [], spec_dyMake_V k), (175, [], spec_dyDigits_V k)], false, [], []⟩
def spec_dyDivide_ps : List PE := [⟨0, 0, .val ty_1 true, false⟩, ⟨1, 16, .val ty_1 true, false⟩, ⟨2, 32, .val ty_0 false, false⟩]
noncomputable def spec_dyDivide_F (k : Nat) : Fn ((Int × Int) × Bool) := ⟨spec_dyDivide_C k, rdRes Try.prog spec_dyDivide_ps [(ty_1, true), (.bool, false)] Try.f133.results.toList .ret, fun p => bif Nat.beq p 14 then some (.cut [⟨2, 48, .val ty_0 false, false⟩, ⟨3, 64, .box ty_1 false, false⟩, ⟨4, 80, .box ty_1 false, false⟩, ⟨6, 96, .box ty_1 false, false⟩] 112) else none, 0, []⟩
theorem spec_dyDivide_eq (k : Nat) (x : PTe spec_dyDivide_ps) : evFn (spec_dyDivide_F k) (codeOf Try.f133) spec_dyDivide_ps 48 x = spec_dyDivide k x.1 x.2.1 x.2.2.1 := by kernel_rfl
theorem spec_dyDivide_K (k : Nat) : Contract Try.prog 133 (spec_dyDivide_V k) :=
  contract (C := spec_dyDivide_C k) (F := spec_dyDivide_F k) (fn := Try.f133) (c := codeOf Try.f133) (ps := spec_dyDivide_ps) (rs := [(ty_1, true), (.bool, false)]) (nx := 48) ⟨tyOf_ok tys_ok, gOf_ok ⟨spec_dyMinus_K, spec_dyDown_K, spec_dyPower_K, spec_dyMake_K k, spec_dyDigits_K k, trivial⟩⟩ rfl (by kernel_rfl) (by kernel_rfl) (by kernel_rfl) (by kernel_rfl) (by kernel_rfl) (by kernel_rfl) rfl (by kernel_rfl) (by kernel_rfl) (AnnOk_list [] (by kernel_rfl) trivial) mix_ok (spec_dyDivide_eq k)

noncomputable def spec_mxInverse_V (k : Nat) : Variant := ⟨[.val ty_3 false, .val ty_0 false], [(ty_3, false), (.bool, false)], fun x => spec_mxInverse k x.1 x.2.1⟩
noncomputable def spec_mxInverse_C (k : Nat) : Cfg := ⟨Try.prog, tyOf tys, 71, gOf [(131, [], spec_mxDet_V k), (132, [], spec_mxAdjoint_V k), (133, [], spec_dyDivide_V k)], false, [], []⟩
def spec_mxInverse_i518554 : List PE := [⟨1, 32, .val ty_0 false, false⟩, ⟨6, 48, .box ty_1 false, false⟩, ⟨10, 64, .eat ty_2, false⟩, ⟨13, 80, .eat ty_1, false⟩, ⟨39, 96, .val ty_3 false, false⟩, ⟨40, 112, .val ty_0 false, false⟩, ⟨41, 128, .val ty_0 false, false⟩, ⟨45, 144, .val ty_2 false, false⟩, ⟨46, 160, .val ty_0 false, false⟩, ⟨47, 176, .val ty_0 false, false⟩]
def spec_mxInverse_o518554 : List PE := [⟨1, 32, .val ty_0 false, false⟩, ⟨6, 48, .box ty_1 false, false⟩, ⟨10, 64, .eat ty_2, false⟩, ⟨13, 80, .eat ty_1, false⟩, ⟨39, 96, .val ty_3 false, false⟩, ⟨40, 112, .val ty_0 false, false⟩, ⟨41, 128, .val ty_0 false, false⟩]
noncomputable def spec_mxInverse_f518554 (k : Nat) (n : Nat) (x4 : PTe spec_mxInverse_i518554) : Option (((List (List (Int × Int))) × Bool) ⊕ PTe spec_mxInverse_o518554) := spec_mxInverse_L518554 k n x4.1 x4.2.1 x4.2.2.1 x4.2.2.2.1 x4.2.2.2.2.1 x4.2.2.2.2.2.1 x4.2.2.2.2.2.2.1 x4.2.2.2.2.2.2.2.1 x4.2.2.2.2.2.2.2.2.1 x4.2.2.2.2.2.2.2.2.2.1
def spec_mxInverse_i506 : List PE := [⟨1, 32, .val ty_0 false, false⟩, ⟨6, 48, .box ty_1 false, false⟩, ⟨10, 64, .eat ty_2, false⟩, ⟨39, 80, .val ty_3 false, false⟩, ⟨40, 96, .val ty_0 false, false⟩, ⟨41, 112, .val ty_0 false, false⟩]
def spec_mxInverse_o506 : List PE := [⟨10, 32, .eat ty_2, false⟩]
noncomputable def spec_mxInverse_f506 (k : Nat) (n : Nat) (x7 : PTe spec_mxInverse_i506) : Option (((List (List (Int × Int))) × Bool) ⊕ PTe spec_mxInverse_o506) := spec_mxInverse_L506 k n x7.1 x7.2.1 x7.2.2.1 x7.2.2.2.1 x7.2.2.2.2.1 x7.2.2.2.2.2.1
def spec_mxInverse_ps : List PE := [⟨0, 0, .val ty_3 false, false⟩, ⟨1, 16, .val ty_0 false, false⟩]
noncomputable def spec_mxInverse_F (k : Nat) : Fn ((List (List (Int × Int))) × Bool) := ⟨spec_mxInverse_C k, rdRes Try.prog spec_mxInverse_ps [(ty_3, false), (.bool, false)] Try.f79.results.toList .ret, fun p => bif Nat.beq p 518554 then some (.loop spec_mxInverse_i518554 spec_mxInverse_o518554 2 192 (spec_mxInverse_f518554 k k)) else bif Nat.beq p 506 then some (.loop spec_mxInverse_i506 spec_mxInverse_o506 0 128 (spec_mxInverse_f506 k k)) else none, 0, []⟩
theorem spec_mxInverse_eq (k : Nat) (x : PTe spec_mxInverse_ps) : evFn (spec_mxInverse_F k) (codeOf Try.f79) spec_mxInverse_ps 32 x = spec_mxInverse k x.1 x.2.1 := by kernel_rfl
theorem spec_mxInverse_ls : loopsOf (codeOf Try.f79) 1 = [(506, loopB (codeOf Try.f79) 506), (518554, loopB (codeOf Try.f79) 518554)] := by kernel_rfl
theorem spec_mxInverse_l518554 (k : Nat) : LoopOk (spec_mxInverse_F k) (loopB (codeOf Try.f79) 518554) 518554 := LoopOk.mk (pin := spec_mxInverse_i518554) (pout := spec_mxInverse_o518554) (ex := 2) (nx := 192) (Lf := spec_mxInverse_f518554 k) (k := k) (by kernel_rfl) (fun _ => rfl) (by intro n x; kernel_rfl)
theorem spec_mxInverse_l506 (k : Nat) : LoopOk (spec_mxInverse_F k) (loopB (codeOf Try.f79) 506) 506 := LoopOk.mk (pin := spec_mxInverse_i506) (pout := spec_mxInverse_o506) (ex := 0) (nx := 128) (Lf := spec_mxInverse_f506 k) (k := k) (by kernel_rfl) (fun _ => rfl) (by intro n x; kernel_rfl)
theorem spec_mxInverse_K (k : Nat) : Contract Try.prog 79 (spec_mxInverse_V k) :=
  contract (C := spec_mxInverse_C k) (F := spec_mxInverse_F k) (fn := Try.f79) (c := codeOf Try.f79) (ps := spec_mxInverse_ps) (rs := [(ty_3, false), (.bool, false)]) (nx := 32) ⟨tyOf_ok tys_ok, gOf_ok ⟨spec_mxDet_K k, spec_mxAdjoint_K k, spec_dyDivide_K k, trivial⟩⟩ rfl (by kernel_rfl) (by kernel_rfl) (by kernel_rfl) (by kernel_rfl) (by kernel_rfl) (by kernel_rfl) rfl (by kernel_rfl) (by kernel_rfl) (AnnOk_list [(506, loopB (codeOf Try.f79) 506), (518554, loopB (codeOf Try.f79) 518554)] spec_mxInverse_ls ⟨spec_mxInverse_l506 k, spec_mxInverse_l518554 k, trivial⟩) mix_ok (spec_mxInverse_eq k)

noncomputable def spec_RoundedInverse_V (k : Nat) : Variant := ⟨[.val ty_3 false, .val ty_0 false], [(ty_3, false), (.bool, false)], fun x => spec_RoundedInverse k x.1 x.2.1⟩
noncomputable def spec_RoundedInverse_C (k : Nat) : Cfg := ⟨Try.prog, tyOf tys, 19, gOf [(77, [], spec_mxGood_V k), (78, [], spec_l1In_V), (79, [], spec_mxInverse_V k)], false, [], []⟩
def spec_RoundedInverse_ps : List PE := [⟨0, 0, .val ty_3 false, false⟩, ⟨1, 16, .val ty_0 false, false⟩]
noncomputable def spec_RoundedInverse_F (k : Nat) : Fn ((List (List (Int × Int))) × Bool) := ⟨spec_RoundedInverse_C k, rdRes Try.prog spec_RoundedInverse_ps [(ty_3, false), (.bool, false)] Try.f28.results.toList .ret, fun p => none, 0, []⟩
theorem spec_RoundedInverse_eq (k : Nat) (x : PTe spec_RoundedInverse_ps) : evFn (spec_RoundedInverse_F k) (codeOf Try.f28) spec_RoundedInverse_ps 32 x = spec_RoundedInverse k x.1 x.2.1 := by kernel_rfl
theorem spec_RoundedInverse_K (k : Nat) : Contract Try.prog 28 (spec_RoundedInverse_V k) :=
  contract (C := spec_RoundedInverse_C k) (F := spec_RoundedInverse_F k) (fn := Try.f28) (c := codeOf Try.f28) (ps := spec_RoundedInverse_ps) (rs := [(ty_3, false), (.bool, false)]) (nx := 32) ⟨tyOf_ok tys_ok, gOf_ok ⟨spec_mxGood_K k, spec_l1In_K, spec_mxInverse_K k, trivial⟩⟩ rfl (by kernel_rfl) (by kernel_rfl) (by kernel_rfl) (by kernel_rfl) (by kernel_rfl) (by kernel_rfl) rfl (by kernel_rfl) (by kernel_rfl) (AnnOk_list [] (by kernel_rfl) trivial) mix_ok (spec_RoundedInverse_eq k)

noncomputable def impl_inside_V : Variant := ⟨[.val ty_0 false, .val ty_0 false, .val ty_0 false], [(.bool, false)], fun x => impl_inside x.1 x.2.1 x.2.2.1⟩
noncomputable def impl_inside_C : Cfg := ⟨Try.prog, tyOf tys, 15, gOf [], false, [], []⟩
def impl_inside_ps : List PE := [⟨0, 0, .val ty_0 false, false⟩, ⟨1, 16, .val ty_0 false, false⟩, ⟨2, 32, .val ty_0 false, false⟩]
noncomputable def impl_inside_F : Fn (Bool) := ⟨impl_inside_C, rdRes Try.prog impl_inside_ps [(.bool, false)] Try.f57.results.toList .ret, fun p => none, 0, []⟩
theorem impl_inside_eq (x : PTe impl_inside_ps) : evFn (impl_inside_F) (codeOf Try.f57) impl_inside_ps 48 x = impl_inside x.1 x.2.1 x.2.2.1 := by kernel_rfl
theorem impl_inside_K : Contract Try.prog 57 (impl_inside_V) :=
  contract (C := impl_inside_C) (F := impl_inside_F) (fn := Try.f57) (c := codeOf Try.f57) (ps := impl_inside_ps) (rs := [(.bool, false)]) (nx := 48) ⟨tyOf_ok tys_ok, gOf_ok trivial⟩ rfl (by kernel_rfl) (by kernel_rfl) (by kernel_rfl) (by kernel_rfl) (by kernel_rfl) (by kernel_rfl) rfl (by kernel_rfl) (by kernel_rfl) (AnnOk_list [] (by kernel_rfl) trivial) mix_ok (impl_inside_eq)

noncomputable def impl_isPlaces_V : Variant := ⟨[.val ty_0 false], [(.bool, false)], fun x => impl_isPlaces x.1⟩
noncomputable def impl_isPlaces_C : Cfg := ⟨Try.prog, tyOf tys, 5, gOf [(57, [], impl_inside_V)], false, [], []⟩
def impl_isPlaces_ps : List PE := [⟨0, 0, .val ty_0 false, false⟩]
noncomputable def impl_isPlaces_F : Fn (Bool) := ⟨impl_isPlaces_C, rdRes Try.prog impl_isPlaces_ps [(.bool, false)] Try.f81.results.toList .ret, fun p => none, 0, []⟩
theorem impl_isPlaces_eq (x : PTe impl_isPlaces_ps) : evFn (impl_isPlaces_F) (codeOf Try.f81) impl_isPlaces_ps 16 x = impl_isPlaces x.1 := by kernel_rfl
theorem impl_isPlaces_K : Contract Try.prog 81 (impl_isPlaces_V) :=
  contract (C := impl_isPlaces_C) (F := impl_isPlaces_F) (fn := Try.f81) (c := codeOf Try.f81) (ps := impl_isPlaces_ps) (rs := [(.bool, false)]) (nx := 16) ⟨tyOf_ok tys_ok, gOf_ok ⟨impl_inside_K, trivial⟩⟩ rfl (by kernel_rfl) (by kernel_rfl) (by kernel_rfl) (by kernel_rfl) (by kernel_rfl) (by kernel_rfl) rfl (by kernel_rfl) (by kernel_rfl) (AnnOk_list [] (by kernel_rfl) trivial) mix_ok (impl_isPlaces_eq)

noncomputable def impl_isDyadic_V : Variant := ⟨[.val ty_1 true], [(.bool, false)], fun x => impl_isDyadic x.1⟩
noncomputable def impl_isDyadic_C : Cfg := ⟨Try.prog, tyOf tys, 22, gOf [(81, [], impl_isPlaces_V), (57, [], impl_inside_V)], false, [], []⟩
def impl_isDyadic_ps : List PE := [⟨0, 0, .val ty_1 true, false⟩]
noncomputable def impl_isDyadic_F : Fn (Bool) := ⟨impl_isDyadic_C, rdRes Try.prog impl_isDyadic_ps [(.bool, false)] Try.f135.results.toList .ret, fun p => none, 0, []⟩
theorem impl_isDyadic_eq (x : PTe impl_isDyadic_ps) : evFn (impl_isDyadic_F) (codeOf Try.f135) impl_isDyadic_ps 16 x = impl_isDyadic x.1 := by kernel_rfl
theorem impl_isDyadic_K : Contract Try.prog 135 (impl_isDyadic_V) :=
  contract (C := impl_isDyadic_C) (F := impl_isDyadic_F) (fn := Try.f135) (c := codeOf Try.f135) (ps := impl_isDyadic_ps) (rs := [(.bool, false)]) (nx := 16) ⟨tyOf_ok tys_ok, gOf_ok ⟨impl_isPlaces_K, impl_inside_K, trivial⟩⟩ rfl (by kernel_rfl) (by kernel_rfl) (by kernel_rfl) (by kernel_rfl) (by kernel_rfl) (by kernel_rfl) rfl (by kernel_rfl) (by kernel_rfl) (AnnOk_list [] (by kernel_rfl) trivial) mix_ok (impl_isDyadic_eq)

noncomputable def impl_isTable_1_V : Variant := ⟨[.val ty_1 true], [(.bool, false)], fun x => impl_isTable_1 x.1⟩
noncomputable def impl_isTable_1_C : Cfg := ⟨Try.prog, tyOf tys, 6, gOf [(135, [], impl_isDyadic_V)], false, [], []⟩
def impl_isTable_1_ps : List PE := [⟨0, 0, .val ty_1 true, false⟩]
noncomputable def impl_isTable_1_F : Fn (Bool) := ⟨impl_isTable_1_C, rdRes Try.prog impl_isTable_1_ps [(.bool, false)] Try.f134.results.toList .ret, fun p => none, 0, []⟩
theorem impl_isTable_1_eq (x : PTe impl_isTable_1_ps) : evFn (impl_isTable_1_F) (codeOf Try.f134) impl_isTable_1_ps 16 x = impl_isTable_1 x.1 := by kernel_rfl
theorem impl_isTable_1_K : Contract Try.prog 134 (impl_isTable_1_V) :=
  contract (C := impl_isTable_1_C) (F := impl_isTable_1_F) (fn := Try.f134) (c := codeOf Try.f134) (ps := impl_isTable_1_ps) (rs := [(.bool, false)]) (nx := 16) ⟨tyOf_ok tys_ok, gOf_ok ⟨impl_isDyadic_K, trivial⟩⟩ rfl (by kernel_rfl) (by kernel_rfl) (by kernel_rfl) (by kernel_rfl) (by kernel_rfl) (by kernel_rfl) rfl (by kernel_rfl) (by kernel_rfl) (AnnOk_list [] (by kernel_rfl) trivial) mix_ok (impl_isTable_1_eq)

noncomputable def slices_IndexFunc_Dyadic_Dyadic_impl_isTable_1_V (k : Nat) : Variant := ⟨[.val ty_2 false, .fn 134 []], [(ty_0, false)], fun x => slices_IndexFunc_Dyadic_Dyadic_impl_isTable_1 k x.1 x.2.1⟩
noncomputable def slices_IndexFunc_Dyadic_Dyadic_impl_isTable_1_C (k : Nat) : Cfg := ⟨Try.prog, tyOf tys, 19, gOf [(134, [], impl_isTable_1_V)], false, [], []⟩
def slices_IndexFunc_Dyadic_Dyadic_impl_isTable_1_i26 : List PE := [⟨0, 32, .val ty_2 false, false⟩, ⟨1, 48, .fn 134 [], false⟩, ⟨7, 64, .val ty_0 false, false⟩, ⟨8, 80, .val ty_0 false, false⟩]
def slices_IndexFunc_Dyadic_Dyadic_impl_isTable_1_o26 : List PE := []
noncomputable def slices_IndexFunc_Dyadic_Dyadic_impl_isTable_1_f26 (k : Nat) (n : Nat) (x2 : PTe slices_IndexFunc_Dyadic_Dyadic_impl_isTable_1_i26) : Option ((Int) ⊕ PTe slices_IndexFunc_Dyadic_Dyadic_impl_isTable_1_o26) := slices_IndexFunc_Dyadic_Dyadic_impl_isTable_1_L26 k n x2.1 x2.2.1 x2.2.2.1 x2.2.2.2.1
def slices_IndexFunc_Dyadic_Dyadic_impl_isTable_1_ps : List PE := [⟨0, 0, .val ty_2 false, false⟩, ⟨1, 16, .fn 134 [], false⟩]
noncomputable def slices_IndexFunc_Dyadic_Dyadic_impl_isTable_1_F (k : Nat) : Fn (Int) := ⟨slices_IndexFunc_Dyadic_Dyadic_impl_isTable_1_C k, rdRes Try.prog slices_IndexFunc_Dyadic_Dyadic_impl_isTable_1_ps [(ty_0, false)] Try.f161.results.toList .ret, fun p => bif Nat.beq p 26 then some (.loop slices_IndexFunc_Dyadic_Dyadic_impl_isTable_1_i26 slices_IndexFunc_Dyadic_Dyadic_impl_isTable_1_o26 0 96 (slices_IndexFunc_Dyadic_Dyadic_impl_isTable_1_f26 k k)) else none, 0, []⟩
theorem slices_IndexFunc_Dyadic_Dyadic_impl_isTable_1_eq (k : Nat) (x : PTe slices_IndexFunc_Dyadic_Dyadic_impl_isTable_1_ps) : evFn (slices_IndexFunc_Dyadic_Dyadic_impl_isTable_1_F k) (codeOf Try.f161) slices_IndexFunc_Dyadic_Dyadic_impl_isTable_1_ps 32 x = slices_IndexFunc_Dyadic_Dyadic_impl_isTable_1 k x.1 x.2.1 := by kernel_rfl
theorem slices_IndexFunc_Dyadic_Dyadic_impl_isTable_1_ls : loopsOf (codeOf Try.f161) 1 = [(26, loopB (codeOf Try.f161) 26)] := by kernel_rfl
theorem slices_IndexFunc_Dyadic_Dyadic_impl_isTable_1_l26 (k : Nat) : LoopOk (slices_IndexFunc_Dyadic_Dyadic_impl_isTable_1_F k) (loopB (codeOf Try.f161) 26) 26 := LoopOk.mk (pin := slices_IndexFunc_Dyadic_Dyadic_impl_isTable_1_i26) (pout := slices_IndexFunc_Dyadic_Dyadic_impl_isTable_1_o26) (ex := 0) (nx := 96) (Lf := slices_IndexFunc_Dyadic_Dyadic_impl_isTable_1_f26 k) (k := k) (by kernel_rfl) (fun _ => rfl) (by intro n x; kernel_rfl)
theorem slices_IndexFunc_Dyadic_Dyadic_impl_isTable_1_K (k : Nat) : Contract Try.prog 161 (slices_IndexFunc_Dyadic_Dyadic_impl_isTable_1_V k) :=
  contract (C := slices_IndexFunc_Dyadic_Dyadic_impl_isTable_1_C k) (F := slices_IndexFunc_Dyadic_Dyadic_impl_isTable_1_F k) (fn := Try.f161) (c := codeOf Try.f161) (ps := slices_IndexFunc_Dyadic_Dyadic_impl_isTable_1_ps) (rs := [(ty_0, false)]) (nx := 32) ⟨tyOf_ok tys_ok, gOf_ok ⟨impl_isTable_1_K, trivial⟩⟩ rfl (by kernel_rfl) (by kernel_rfl) (by kernel_rfl) (by kernel_rfl) (by kernel_rfl) (by kernel_rfl) rfl (by kernel_rfl) (by kernel_rfl) (AnnOk_list [(26, loopB (codeOf Try.f161) 26)] slices_IndexFunc_Dyadic_Dyadic_impl_isTable_1_ls ⟨slices_IndexFunc_Dyadic_Dyadic_impl_isTable_1_l26 k, trivial⟩) mix_ok (slices_IndexFunc_Dyadic_Dyadic_impl_isTable_1_eq k)

noncomputable def slices_ContainsFunc_Dyadic_Dyadic_impl_isTable_1_V (k : Nat) : Variant := ⟨[.val ty_2 false, .fn 134 []], [(.bool, false)], fun x => slices_ContainsFunc_Dyadic_Dyadic_impl_isTable_1 k x.1 x.2.1⟩
noncomputable def slices_ContainsFunc_Dyadic_Dyadic_impl_isTable_1_C (k : Nat) : Cfg := ⟨Try.prog, tyOf tys, 9, gOf [(161, [134], slices_IndexFunc_Dyadic_Dyadic_impl_isTable_1_V k)], false, [], []⟩
def slices_ContainsFunc_Dyadic_Dyadic_impl_isTable_1_ps : List PE := [⟨0, 0, .val ty_2 false, false⟩, ⟨1, 16, .fn 134 [], false⟩]
noncomputable def slices_ContainsFunc_Dyadic_Dyadic_impl_isTable_1_F (k : Nat) : Fn (Bool) := ⟨slices_ContainsFunc_Dyadic_Dyadic_impl_isTable_1_C k, rdRes Try.prog slices_ContainsFunc_Dyadic_Dyadic_impl_isTable_1_ps [(.bool, false)] Try.f120.results.toList .ret, fun p => none, 0, []⟩
theorem slices_ContainsFunc_Dyadic_Dyadic_impl_isTable_1_eq (k : Nat) (x : PTe slices_ContainsFunc_Dyadic_Dyadic_impl_isTable_1_ps) : evFn (slices_ContainsFunc_Dyadic_Dyadic_impl_isTable_1_F k) (codeOf Try.f120) slices_ContainsFunc_Dyadic_Dyadic_impl_isTable_1_ps 32 x = slices_ContainsFunc_Dyadic_Dyadic_impl_isTable_1 k x.1 x.2.1 := by kernel_rfl
theorem slices_ContainsFunc_Dyadic_Dyadic_impl_isTable_1_K (k : Nat) : Contract Try.prog 120 (slices_ContainsFunc_Dyadic_Dyadic_impl_isTable_1_V k) :=
  contract (C := slices_ContainsFunc_Dyadic_Dyadic_impl_isTable_1_C k) (F := slices_ContainsFunc_Dyadic_Dyadic_impl_isTable_1_F k) (fn := Try.f120) (c := codeOf Try.f120) (ps := slices_ContainsFunc_Dyadic_Dyadic_impl_isTable_1_ps) (rs := [(.bool, false)]) (nx := 32) ⟨tyOf_ok tys_ok, gOf_ok ⟨slices_IndexFunc_Dyadic_Dyadic_impl_isTable_1_K k, trivial⟩⟩ rfl (by kernel_rfl) (by kernel_rfl) (by kernel_rfl) (by kernel_rfl) (by kernel_rfl) (by kernel_rfl) rfl (by kernel_rfl) (by kernel_rfl) (AnnOk_list [] (by kernel_rfl) trivial) mix_ok (slices_ContainsFunc_Dyadic_Dyadic_impl_isTable_1_eq k)

noncomputable def impl_isTable_V (k : Nat) : Variant := ⟨[.val ty_3 false], [(.bool, false)], fun x => impl_isTable k x.1⟩
noncomputable def impl_isTable_C (k : Nat) : Cfg := ⟨Try.prog, tyOf tys, 24, gOf [(120, [134], slices_ContainsFunc_Dyadic_Dyadic_impl_isTable_1_V k), (57, [], impl_inside_V)], false, [], []⟩
def impl_isTable_i26 : List PE := [⟨0, 16, .val ty_3 false, false⟩, ⟨5, 32, .val ty_3 false, false⟩, ⟨6, 48, .val ty_0 false, false⟩, ⟨7, 64, .val ty_0 false, false⟩]
def impl_isTable_o26 : List PE := [⟨0, 16, .val ty_3 false, false⟩]
noncomputable def impl_isTable_f26 (k : Nat) (n : Nat) (x2 : PTe impl_isTable_i26) : Option ((Bool) ⊕ PTe impl_isTable_o26) := impl_isTable_L26 k n x2.1 x2.2.1 x2.2.2.1 x2.2.2.2.1
def impl_isTable_ps : List PE := [⟨0, 0, .val ty_3 false, false⟩]
noncomputable def impl_isTable_F (k : Nat) : Fn (Bool) := ⟨impl_isTable_C k, rdRes Try.prog impl_isTable_ps [(.bool, false)] Try.f80.results.toList .ret, fun p => bif Nat.beq p 26 then some (.loop impl_isTable_i26 impl_isTable_o26 0 80 (impl_isTable_f26 k k)) else none, 0, []⟩
theorem impl_isTable_eq (k : Nat) (x : PTe impl_isTable_ps) : evFn (impl_isTable_F k) (codeOf Try.f80) impl_isTable_ps 16 x = impl_isTable k x.1 := by kernel_rfl
theorem impl_isTable_ls : loopsOf (codeOf Try.f80) 1 = [(26, loopB (codeOf Try.f80) 26)] := by kernel_rfl
theorem impl_isTable_l26 (k : Nat) : LoopOk (impl_isTable_F k) (loopB (codeOf Try.f80) 26) 26 := LoopOk.mk (pin := impl_isTable_i26) (pout := impl_isTable_o26) (ex := 0) (nx := 80) (Lf := impl_isTable_f26 k) (k := k) (by kernel_rfl) (fun _ => rfl) (by intro n x; kernel_rfl)
theorem impl_isTable_K (k : Nat) : Contract Try.prog 80 (impl_isTable_V k) :=
  contract (C := impl_isTable_C k) (F := impl_isTable_F k) (fn := Try.f80) (c := codeOf Try.f80) (ps := impl_isTable_ps) (rs := [(.bool, false)]) (nx := 16) ⟨tyOf_ok tys_ok, gOf_ok ⟨slices_ContainsFunc_Dyadic_Dyadic_impl_isTable_1_K k, impl_inside_K, trivial⟩⟩ rfl (by kernel_rfl) (by kernel_rfl) (by kernel_rfl) (by kernel_rfl) (by kernel_rfl) (by kernel_rfl) rfl (by kernel_rfl) (by kernel_rfl) (AnnOk_list [(26, loopB (codeOf Try.f80) 26)] impl_isTable_ls ⟨impl_isTable_l26 k, trivial⟩) mix_ok (impl_isTable_eq k)

noncomputable def slices_Grow_Dyadic_Dyadic_V : Variant := ⟨[.lit (.slice none 0 0), .val ty_0 false], [(ty_2, false)], fun x => slices_Grow_Dyadic_Dyadic x.1 x.2.1⟩
noncomputable def slices_Grow_Dyadic_Dyadic_C : Cfg := ⟨Try.prog, tyOf tys, 27, gOf [], true, [], []⟩
def slices_Grow_Dyadic_Dyadic_ps : List PE := [⟨0, 0, .lit (.slice none 0 0), false⟩, ⟨1, 16, .val ty_0 false, false⟩]
noncomputable def slices_Grow_Dyadic_Dyadic_F : Fn (List (Int × Int)) := ⟨slices_Grow_Dyadic_Dyadic_C, rdRes Try.prog slices_Grow_Dyadic_Dyadic_ps [(ty_2, false)] Try.f213.results.toList .ret, fun p => none, 0, []⟩
theorem slices_Grow_Dyadic_Dyadic_eq (x : PTe slices_Grow_Dyadic_Dyadic_ps) : evFn (slices_Grow_Dyadic_Dyadic_F) (codeOf Try.f213) slices_Grow_Dyadic_Dyadic_ps 32 x = slices_Grow_Dyadic_Dyadic x.1 x.2.1 := by kernel_rfl
theorem slices_Grow_Dyadic_Dyadic_K : Contract Try.prog 213 (slices_Grow_Dyadic_Dyadic_V) :=
  contract (C := slices_Grow_Dyadic_Dyadic_C) (F := slices_Grow_Dyadic_Dyadic_F) (fn := Try.f213) (c := codeOf Try.f213) (ps := slices_Grow_Dyadic_Dyadic_ps) (rs := [(ty_2, false)]) (nx := 32) ⟨tyOf_ok tys_ok, gOf_ok trivial⟩ rfl (by kernel_rfl) (by kernel_rfl) (by kernel_rfl) (by kernel_rfl) (by kernel_rfl) (by kernel_rfl) rfl (by kernel_rfl) (by kernel_rfl) (AnnOk_list [] (by kernel_rfl) trivial) mix_ok (slices_Grow_Dyadic_Dyadic_eq)

noncomputable def slices_Concat_Dyadic_Dyadic_V (k : Nat) : Variant := ⟨[.val ty_3 false], [(ty_2, false)], fun x => slices_Concat_Dyadic_Dyadic k x.1⟩
noncomputable def slices_Concat_Dyadic_Dyadic_C (k : Nat) : Cfg := ⟨Try.prog, tyOf tys, 36, gOf [(213, [], slices_Grow_Dyadic_Dyadic_V)], false, [], []⟩
def slices_Concat_Dyadic_Dyadic_i58 : List PE := [⟨0, 16, .val ty_3 false, false⟩, ⟨3, 32, .val ty_0 false, false⟩, ⟨9, 48, .val ty_3 false, false⟩, ⟨10, 64, .val ty_0 false, false⟩, ⟨11, 80, .val ty_0 false, false⟩]
def slices_Concat_Dyadic_Dyadic_o58 : List PE := [⟨0, 16, .val ty_3 false, false⟩, ⟨3, 32, .val ty_0 false, false⟩]
noncomputable def slices_Concat_Dyadic_Dyadic_f58 (k : Nat) (n : Nat) (x1 : PTe slices_Concat_Dyadic_Dyadic_i58) : Option ((List (Int × Int)) ⊕ PTe slices_Concat_Dyadic_Dyadic_o58) := slices_Concat_Dyadic_Dyadic_L58 k n x1.1 x1.2.1 x1.2.2.1 x1.2.2.2.1 x1.2.2.2.2.1
def slices_Concat_Dyadic_Dyadic_i250 : List PE := [⟨6, 16, .eat ty_1, false⟩, ⟨25, 32, .val ty_3 false, false⟩, ⟨26, 48, .val ty_0 false, false⟩, ⟨27, 64, .val ty_0 false, false⟩]
def slices_Concat_Dyadic_Dyadic_o250 : List PE := [⟨6, 16, .eat ty_1, false⟩]
noncomputable def slices_Concat_Dyadic_Dyadic_f250 (k : Nat) (n : Nat) (x5 : PTe slices_Concat_Dyadic_Dyadic_i250) : Option ((List (Int × Int)) ⊕ PTe slices_Concat_Dyadic_Dyadic_o250) := slices_Concat_Dyadic_Dyadic_L250 k n x5.1 x5.2.1 x5.2.2.1 x5.2.2.2.1
def slices_Concat_Dyadic_Dyadic_ps : List PE := [⟨0, 0, .val ty_3 false, false⟩]
noncomputable def slices_Concat_Dyadic_Dyadic_F (k : Nat) : Fn (List (Int × Int)) := ⟨slices_Concat_Dyadic_Dyadic_C k, rdRes Try.prog slices_Concat_Dyadic_Dyadic_ps [(ty_2, false)] Try.f200.results.toList .ret, fun p => bif Nat.beq p 58 then some (.loop slices_Concat_Dyadic_Dyadic_i58 slices_Concat_Dyadic_Dyadic_o58 0 96 (slices_Concat_Dyadic_Dyadic_f58 k k)) else bif Nat.beq p 250 then some (.loop slices_Concat_Dyadic_Dyadic_i250 slices_Concat_Dyadic_Dyadic_o250 2 80 (slices_Concat_Dyadic_Dyadic_f250 k k)) else none, 0, []⟩
theorem slices_Concat_Dyadic_Dyadic_eq (k : Nat) (x : PTe slices_Concat_Dyadic_Dyadic_ps) : evFn (slices_Concat_Dyadic_Dyadic_F k) (codeOf Try.f200) slices_Concat_Dyadic_Dyadic_ps 16 x = slices_Concat_Dyadic_Dyadic k x.1 := by kernel_rfl
theorem slices_Concat_Dyadic_Dyadic_ls : loopsOf (codeOf Try.f200) 1 = [(58, loopB (codeOf Try.f200) 58), (250, loopB (codeOf Try.f200) 250)] := by kernel_rfl
theorem slices_Concat_Dyadic_Dyadic_l58 (k : Nat) : LoopOk (slices_Concat_Dyadic_Dyadic_F k) (loopB (codeOf Try.f200) 58) 58 := LoopOk.mk (pin := slices_Concat_Dyadic_Dyadic_i58) (pout := slices_Concat_Dyadic_Dyadic_o58) (ex := 0) (nx := 96) (Lf := slices_Concat_Dyadic_Dyadic_f58 k) (k := k) (by kernel_rfl) (fun _ => rfl) (by intro n x; kernel_rfl)
theorem slices_Concat_Dyadic_Dyadic_l250 (k : Nat) : LoopOk (slices_Concat_Dyadic_Dyadic_F k) (loopB (codeOf Try.f200) 250) 250 := LoopOk.mk (pin := slices_Concat_Dyadic_Dyadic_i250) (pout := slices_Concat_Dyadic_Dyadic_o250) (ex := 2) (nx := 80) (Lf := slices_Concat_Dyadic_Dyadic_f250 k) (k := k) (by kernel_rfl) (fun _ => rfl) (by intro n x; kernel_rfl)
theorem slices_Concat_Dyadic_Dyadic_K (k : Nat) : Contract Try.prog 200 (slices_Concat_Dyadic_Dyadic_V k) :=
  contract (C := slices_Concat_Dyadic_Dyadic_C k) (F := slices_Concat_Dyadic_Dyadic_F k) (fn := Try.f200) (c := codeOf Try.f200) (ps := slices_Concat_Dyadic_Dyadic_ps) (rs := [(ty_2, false)]) (nx := 16) ⟨tyOf_ok tys_ok, gOf_ok ⟨slices_Grow_Dyadic_Dyadic_K, trivial⟩⟩ rfl (by kernel_rfl) (by kernel_rfl) (by kernel_rfl) (by kernel_rfl) (by kernel_rfl) (by kernel_rfl) rfl (by kernel_rfl) (by kernel_rfl) (AnnOk_list [(58, loopB (codeOf Try.f200) 58), (250, loopB (codeOf Try.f200) 250)] slices_Concat_Dyadic_Dyadic_ls ⟨slices_Concat_Dyadic_Dyadic_l58 k, slices_Concat_Dyadic_Dyadic_l250 k, trivial⟩) mix_ok (slices_Concat_Dyadic_Dyadic_eq k)

noncomputable def impl_part_Dyadic_V (k : Nat) : Variant := ⟨[.val ty_3 false, .val ty_0 false, .val ty_0 false], [(ty_3, false)], fun x => impl_part_Dyadic k x.1 x.2.1 x.2.2.1⟩
noncomputable def impl_part_Dyadic_C (k : Nat) : Cfg := ⟨Try.prog, tyOf tys, 34, gOf [(200, [], slices_Concat_Dyadic_Dyadic_V k)], false, [], [28]⟩
def impl_part_Dyadic_i58 : List PE := [⟨1, 48, .val ty_0 false, false⟩, ⟨2, 64, .val ty_0 false, false⟩, ⟨7, 80, .eat ty_2, false⟩, ⟨10, 96, .val ty_3 false, false⟩, ⟨11, 112, .val ty_0 false, false⟩, ⟨12, 128, .val ty_0 false, false⟩]
def impl_part_Dyadic_o58 : List PE := [⟨7, 48, .eat ty_2, false⟩]
noncomputable def impl_part_Dyadic_f58 (k : Nat) (n : Nat) (x2 : PTe impl_part_Dyadic_i58) : Option ((List (List (Int × Int))) ⊕ PTe impl_part_Dyadic_o58) := impl_part_Dyadic_L58 k n x2.1 x2.2.1 x2.2.2.1 x2.2.2.2.1 x2.2.2.2.2.1 x2.2.2.2.2.2.1
def impl_part_Dyadic_ps : List PE := [⟨0, 0, .val ty_3 false, false⟩, ⟨1, 16, .val ty_0 false, false⟩, ⟨2, 32, .val ty_0 false, false⟩]
noncomputable def impl_part_Dyadic_F (k : Nat) : Fn (List (List (Int × Int))) := ⟨impl_part_Dyadic_C k, rdRes Try.prog impl_part_Dyadic_ps [(ty_3, false)] Try.f177.results.toList .ret, fun p => bif Nat.beq p 58 then some (.loop impl_part_Dyadic_i58 impl_part_Dyadic_o58 0 144 (impl_part_Dyadic_f58 k k)) else none, 0, []⟩
theorem impl_part_Dyadic_eq (k : Nat) (x : PTe impl_part_Dyadic_ps) : evFn (impl_part_Dyadic_F k) (codeOf Try.f177) impl_part_Dyadic_ps 48 x = impl_part_Dyadic k x.1 x.2.1 x.2.2.1 := by kernel_rfl
theorem impl_part_Dyadic_ls : loopsOf (codeOf Try.f177) 1 = [(58, loopB (codeOf Try.f177) 58)] := by kernel_rfl
theorem impl_part_Dyadic_l58 (k : Nat) : LoopOk (impl_part_Dyadic_F k) (loopB (codeOf Try.f177) 58) 58 := LoopOk.mk (pin := impl_part_Dyadic_i58) (pout := impl_part_Dyadic_o58) (ex := 0) (nx := 144) (Lf := impl_part_Dyadic_f58 k) (k := k) (by kernel_rfl) (fun _ => rfl) (by intro n x; kernel_rfl)
theorem impl_part_Dyadic_K (k : Nat) : Contract Try.prog 177 (impl_part_Dyadic_V k) :=
  contract (C := impl_part_Dyadic_C k) (F := impl_part_Dyadic_F k) (fn := Try.f177) (c := codeOf Try.f177) (ps := impl_part_Dyadic_ps) (rs := [(ty_3, false)]) (nx := 48) ⟨tyOf_ok tys_ok, gOf_ok ⟨slices_Concat_Dyadic_Dyadic_K k, trivial⟩⟩ rfl (by kernel_rfl) (by kernel_rfl) (by kernel_rfl) (by kernel_rfl) (by kernel_rfl) (by kernel_rfl) rfl (by kernel_rfl) (by kernel_rfl) (AnnOk_list [(58, loopB (codeOf Try.f177) 58)] impl_part_Dyadic_ls ⟨impl_part_Dyadic_l58 k, trivial⟩) mix_ok (impl_part_Dyadic_eq k)

noncomputable def impl_size_V : Variant := ⟨[.val ty_0 false], [(ty_6, false)], fun x => impl_size x.1⟩
noncomputable def impl_size_C : Cfg := ⟨Try.prog, tyOf tys, 10, gOf [], false, [], []⟩
def impl_size_ps : List PE := [⟨0, 0, .val ty_0 false, false⟩]
noncomputable def impl_size_F : Fn (Int) := ⟨impl_size_C, rdRes Try.prog impl_size_ps [(ty_6, false)] Try.f128.results.toList .ret, fun p => none, 0, []⟩
theorem impl_size_eq (x : PTe impl_size_ps) : evFn (impl_size_F) (codeOf Try.f128) impl_size_ps 16 x = impl_size x.1 := by kernel_rfl
theorem impl_size_K : Contract Try.prog 128 (impl_size_V) :=
  contract (C := impl_size_C) (F := impl_size_F) (fn := Try.f128) (c := codeOf Try.f128) (ps := impl_size_ps) (rs := [(ty_6, false)]) (nx := 16) ⟨tyOf_ok tys_ok, gOf_ok trivial⟩ rfl (by kernel_rfl) (by kernel_rfl) (by kernel_rfl) (by kernel_rfl) (by kernel_rfl) (by kernel_rfl) rfl (by kernel_rfl) (by kernel_rfl) (AnnOk_list [] (by kernel_rfl) trivial) mix_ok (impl_size_eq)

noncomputable def math_bits_Mul64_V : Variant := ⟨[.val ty_6 false, .val ty_6 false], [(ty_6, false), (ty_6, false)], fun x => math_bits_Mul64 x.1 x.2.1⟩
noncomputable def math_bits_Mul64_C : Cfg := ⟨Try.prog, tyOf tys, 51, gOf [], false, [], []⟩
def math_bits_Mul64_ps : List PE := [⟨0, 0, .val ty_6 false, false⟩, ⟨1, 16, .val ty_6 false, false⟩]
noncomputable def math_bits_Mul64_F : Fn (Int × Int) := ⟨math_bits_Mul64_C, rdRes Try.prog math_bits_Mul64_ps [(ty_6, false), (ty_6, false)] Try.f127.results.toList .ret, fun p => none, 0, []⟩
theorem math_bits_Mul64_eq (x : PTe math_bits_Mul64_ps) : evFn (math_bits_Mul64_F) (codeOf Try.f127) math_bits_Mul64_ps 32 x = math_bits_Mul64 x.1 x.2.1 := by kernel_rfl
theorem math_bits_Mul64_K : Contract Try.prog 127 (math_bits_Mul64_V) :=
  contract (C := math_bits_Mul64_C) (F := math_bits_Mul64_F) (fn := Try.f127) (c := codeOf Try.f127) (ps := math_bits_Mul64_ps) (rs := [(ty_6, false), (ty_6, false)]) (nx := 32) ⟨tyOf_ok tys_ok, gOf_ok trivial⟩ rfl (by kernel_rfl) (by kernel_rfl) (by kernel_rfl) (by kernel_rfl) (by kernel_rfl) (by kernel_rfl) rfl (by kernel_rfl) (by kernel_rfl) (AnnOk_list [] (by kernel_rfl) trivial) mix_ok (math_bits_Mul64_eq)

noncomputable def impl_timesWide_V : Variant := ⟨[.val ty_0 false, .val ty_0 false], [(ty_8, true)], fun x => impl_timesWide x.1 x.2.1⟩
noncomputable def impl_timesWide_C : Cfg := ⟨Try.prog, tyOf tys, 23, gOf [(128, [], impl_size_V), (127, [], math_bits_Mul64_V)], false, [], []⟩
def impl_timesWide_ps : List PE := [⟨0, 0, .val ty_0 false, false⟩, ⟨1, 16, .val ty_0 false, false⟩]
noncomputable def impl_timesWide_F : Fn (Bool × Int × Int) := ⟨impl_timesWide_C, rdRes Try.prog impl_timesWide_ps [(ty_8, true)] Try.f75.results.toList .ret, fun p => none, 0, []⟩
theorem impl_timesWide_eq (x : PTe impl_timesWide_ps) : evFn (impl_timesWide_F) (codeOf Try.f75) impl_timesWide_ps 32 x = impl_timesWide x.1 x.2.1 := by kernel_rfl
theorem impl_timesWide_K : Contract Try.prog 75 (impl_timesWide_V) :=
  contract (C := impl_timesWide_C) (F := impl_timesWide_F) (fn := Try.f75) (c := codeOf Try.f75) (ps := impl_timesWide_ps) (rs := [(ty_8, true)]) (nx := 32) ⟨tyOf_ok tys_ok, gOf_ok ⟨impl_size_K, math_bits_Mul64_K, trivial⟩⟩ rfl (by kernel_rfl) (by kernel_rfl) (by kernel_rfl) (by kernel_rfl) (by kernel_rfl) (by kernel_rfl) rfl (by kernel_rfl) (by kernel_rfl) (AnnOk_list [] (by kernel_rfl) trivial) mix_ok (impl_timesWide_eq)

noncomputable def impl_wide_isZero_V : Variant := ⟨[.val ty_8 true], [(.bool, false)], fun x => impl_wide_isZero x.1⟩
noncomputable def impl_wide_isZero_C : Cfg := ⟨Try.prog, tyOf tys, 11, gOf [], false, [], []⟩
def impl_wide_isZero_ps : List PE := [⟨0, 0, .val ty_8 true, false⟩]
noncomputable def impl_wide_isZero_F : Fn (Bool) := ⟨impl_wide_isZero_C, rdRes Try.prog impl_wide_isZero_ps [(.bool, false)] Try.f125.results.toList .ret, fun p => none, 0, []⟩
theorem impl_wide_isZero_eq (x : PTe impl_wide_isZero_ps) : evFn (impl_wide_isZero_F) (codeOf Try.f125) impl_wide_isZero_ps 16 x = impl_wide_isZero x.1 := by kernel_rfl
theorem impl_wide_isZero_K : Contract Try.prog 125 (impl_wide_isZero_V) :=
  contract (C := impl_wide_isZero_C) (F := impl_wide_isZero_F) (fn := Try.f125) (c := codeOf Try.f125) (ps := impl_wide_isZero_ps) (rs := [(.bool, false)]) (nx := 16) ⟨tyOf_ok tys_ok, gOf_ok trivial⟩ rfl (by kernel_rfl) (by kernel_rfl) (by kernel_rfl) (by kernel_rfl) (by kernel_rfl) (by kernel_rfl) rfl (by kernel_rfl) (by kernel_rfl) (AnnOk_list [] (by kernel_rfl) trivial) mix_ok (impl_wide_isZero_eq)

noncomputable def impl_wide_shift_V : Variant := ⟨[.val ty_8 true, .val ty_0 false], [(ty_8, true)], fun x => impl_wide_shift x.1 x.2.1⟩
noncomputable def impl_wide_shift_C : Cfg := ⟨Try.prog, tyOf tys, 63, gOf [], false, [], []⟩
def impl_wide_shift_ps : List PE := [⟨0, 0, .val ty_8 true, false⟩, ⟨1, 16, .val ty_0 false, false⟩]
noncomputable def impl_wide_shift_F : Fn (Bool × Int × Int) := ⟨impl_wide_shift_C, rdRes Try.prog impl_wide_shift_ps [(ty_8, true)] Try.f154.results.toList .ret, fun p => none, 0, []⟩
theorem impl_wide_shift_eq (x : PTe impl_wide_shift_ps) : evFn (impl_wide_shift_F) (codeOf Try.f154) impl_wide_shift_ps 32 x = impl_wide_shift x.1 x.2.1 := by kernel_rfl
theorem impl_wide_shift_K : Contract Try.prog 154 (impl_wide_shift_V) :=
  contract (C := impl_wide_shift_C) (F := impl_wide_shift_F) (fn := Try.f154) (c := codeOf Try.f154) (ps := impl_wide_shift_ps) (rs := [(ty_8, true)]) (nx := 32) ⟨tyOf_ok tys_ok, gOf_ok trivial⟩ rfl (by kernel_rfl) (by kernel_rfl) (by kernel_rfl) (by kernel_rfl) (by kernel_rfl) (by kernel_rfl) rfl (by kernel_rfl) (by kernel_rfl) (AnnOk_list [] (by kernel_rfl) trivial) mix_ok (impl_wide_shift_eq)

noncomputable def impl_wide_fit_V (k : Nat) : Variant := ⟨[.val ty_8 true, .val ty_0 false], [(ty_1, true), (.bool, false)], fun x => impl_wide_fit k x.1 x.2.1⟩
noncomputable def impl_wide_fit_C (k : Nat) : Cfg := ⟨Try.prog, tyOf tys, 45, gOf [(125, [], impl_wide_isZero_V), (154, [], impl_wide_shift_V)], false, [], []⟩
def impl_wide_fit_i28 : List PE := [⟨1, 32, .val ty_0 false, false⟩, ⟨2, 48, .box ty_8 false, false⟩, ⟨4, 64, .box ty_1 false, false⟩]
def impl_wide_fit_o28 : List PE := [⟨1, 32, .val ty_0 false, false⟩, ⟨2, 48, .box ty_8 false, false⟩, ⟨4, 64, .box ty_1 false, false⟩]
noncomputable def impl_wide_fit_f28 (k : Nat) (n : Nat) (x3 : PTe impl_wide_fit_i28) : Option (((Int × Int) × Bool) ⊕ PTe impl_wide_fit_o28) := impl_wide_fit_L28 k n x3.1 x3.2.1 x3.2.2.1
def impl_wide_fit_ps : List PE := [⟨0, 0, .val ty_8 true, false⟩, ⟨1, 16, .val ty_0 false, false⟩]
noncomputable def impl_wide_fit_F (k : Nat) : Fn ((Int × Int) × Bool) := ⟨impl_wide_fit_C k, rdRes Try.prog impl_wide_fit_ps [(ty_1, true), (.bool, false)] Try.f105.results.toList .ret, fun p => bif Nat.beq p 28 then some (.loop impl_wide_fit_i28 impl_wide_fit_o28 0 80 (impl_wide_fit_f28 k k)) else none, 0, []⟩
theorem impl_wide_fit_eq (k : Nat) (x : PTe impl_wide_fit_ps) : evFn (impl_wide_fit_F k) (codeOf Try.f105) impl_wide_fit_ps 32 x = impl_wide_fit k x.1 x.2.1 := by kernel_rfl
theorem impl_wide_fit_ls : loopsOf (codeOf Try.f105) 1 = [(28, loopB (codeOf Try.f105) 28)] := by kernel_rfl
theorem impl_wide_fit_l28 (k : Nat) : LoopOk (impl_wide_fit_F k) (loopB (codeOf Try.f105) 28) 28 := LoopOk.mk (pin := impl_wide_fit_i28) (pout := impl_wide_fit_o28) (ex := 0) (nx := 80) (Lf := impl_wide_fit_f28 k) (k := k) (by kernel_rfl) (fun _ => rfl) (by intro n x; kernel_rfl)
theorem impl_wide_fit_K (k : Nat) : Contract Try.prog 105 (impl_wide_fit_V k) :=
  contract (C := impl_wide_fit_C k) (F := impl_wide_fit_F k) (fn := Try.f105) (c := codeOf Try.f105) (ps := impl_wide_fit_ps) (rs := [(ty_1, true), (.bool, false)]) (nx := 32) ⟨tyOf_ok tys_ok, gOf_ok ⟨impl_wide_isZero_K, impl_wide_shift_K, trivial⟩⟩ rfl (by kernel_rfl) (by kernel_rfl) (by kernel_rfl) (by kernel_rfl) (by kernel_rfl) (by kernel_rfl) rfl (by kernel_rfl) (by kernel_rfl) (AnnOk_list [(28, loopB (codeOf Try.f105) 28)] impl_wide_fit_ls ⟨impl_wide_fit_l28 k, trivial⟩) mix_ok (impl_wide_fit_eq k)

noncomputable def impl_productOf_V (k : Nat) : Variant := ⟨[.val ty_1 true, .val ty_1 true], [(ty_1, true), (.bool, false)], fun x => impl_productOf k x.1 x.2.1⟩
noncomputable def impl_productOf_C (k : Nat) : Cfg := ⟨Try.prog, tyOf tys, 19, gOf [(75, [], impl_timesWide_V), (105, [], impl_wide_fit_V k)], false, [], []⟩
def impl_productOf_ps : List PE := [⟨0, 0, .val ty_1 true, false⟩, ⟨1, 16, .val ty_1 true, false⟩]
noncomputable def impl_productOf_F (k : Nat) : Fn ((Int × Int) × Bool) := ⟨impl_productOf_C k, rdRes Try.prog impl_productOf_ps [(ty_1, true), (.bool, false)] Try.f199.results.toList .ret, fun p => none, 0, []⟩
theorem impl_productOf_eq (k : Nat) (x : PTe impl_productOf_ps) : evFn (impl_productOf_F k) (codeOf Try.f199) impl_productOf_ps 32 x = impl_productOf k x.1 x.2.1 := by kernel_rfl
theorem impl_productOf_K (k : Nat) : Contract Try.prog 199 (impl_productOf_V k) :=
  contract (C := impl_productOf_C k) (F := impl_productOf_F k) (fn := Try.f199) (c := codeOf Try.f199) (ps := impl_productOf_ps) (rs := [(ty_1, true), (.bool, false)]) (nx := 32) ⟨tyOf_ok tys_ok, gOf_ok ⟨impl_timesWide_K, impl_wide_fit_K k, trivial⟩⟩ rfl (by kernel_rfl) (by kernel_rfl) (by kernel_rfl) (by kernel_rfl) (by kernel_rfl) (by kernel_rfl) rfl (by kernel_rfl) (by kernel_rfl) (AnnOk_list [] (by kernel_rfl) trivial) mix_ok (impl_productOf_eq k)

noncomputable def impl_reckoner_keep_V : Variant := ⟨[.ptr .bool true, .val ty_1 true, .val .bool false], [(ty_1, true)], fun x => impl_reckoner_keep x.1 x.2.1 x.2.2.1⟩
noncomputable def impl_reckoner_keep_C : Cfg := ⟨Try.prog, tyOf tys, 24, gOf [], false, [], []⟩
def impl_reckoner_keep_ps : List PE := [⟨0, 0, .ptr .bool true, true⟩, ⟨1, 16, .val ty_1 true, false⟩, ⟨2, 32, .val .bool false, false⟩]
noncomputable def impl_reckoner_keep_F : Fn ((Int × Int) × Bool) := ⟨impl_reckoner_keep_C, rdRes Try.prog impl_reckoner_keep_ps [(ty_1, true)] Try.f138.results.toList .ret, fun p => none, 0, [0]⟩
theorem impl_reckoner_keep_eq (x : PTe impl_reckoner_keep_ps) : evFn (impl_reckoner_keep_F) (codeOf Try.f138) impl_reckoner_keep_ps 48 x = impl_reckoner_keep x.1 x.2.1 x.2.2.1 := by kernel_rfl
theorem impl_reckoner_keep_K : Contract Try.prog 138 (impl_reckoner_keep_V) :=
  contract (C := impl_reckoner_keep_C) (F := impl_reckoner_keep_F) (fn := Try.f138) (c := codeOf Try.f138) (ps := impl_reckoner_keep_ps) (rs := [(ty_1, true)]) (nx := 48) ⟨tyOf_ok tys_ok, gOf_ok trivial⟩ rfl (by kernel_rfl) (by kernel_rfl) (by kernel_rfl) (by kernel_rfl) (by kernel_rfl) (by kernel_rfl) rfl (by kernel_rfl) (by kernel_rfl) (AnnOk_list [] (by kernel_rfl) trivial) mix_ok (impl_reckoner_keep_eq)

noncomputable def impl_reckoner_product_V (k : Nat) : Variant := ⟨[.ptr .bool true, .val ty_1 true, .val ty_1 true], [(ty_1, true)], fun x => impl_reckoner_product k x.1 x.2.1 x.2.2.1⟩
noncomputable def impl_reckoner_product_C (k : Nat) : Cfg := ⟨Try.prog, tyOf tys, 14, gOf [(199, [], impl_productOf_V k), (138, [], impl_reckoner_keep_V)], false, [], []⟩
def impl_reckoner_product_ps : List PE := [⟨0, 0, .ptr .bool true, true⟩, ⟨1, 16, .val ty_1 true, false⟩, ⟨2, 32, .val ty_1 true, false⟩]
noncomputable def impl_reckoner_product_F (k : Nat) : Fn ((Int × Int) × Bool) := ⟨impl_reckoner_product_C k, rdRes Try.prog impl_reckoner_product_ps [(ty_1, true)] Try.f176.results.toList .ret, fun p => none, 0, [0]⟩
theorem impl_reckoner_product_eq (k : Nat) (x : PTe impl_reckoner_product_ps) : evFn (impl_reckoner_product_F k) (codeOf Try.f176) impl_reckoner_product_ps 48 x = impl_reckoner_product k x.1 x.2.1 x.2.2.1 := by kernel_rfl
theorem impl_reckoner_product_K (k : Nat) : Contract Try.prog 176 (impl_reckoner_product_V k) :=
  contract (C := impl_reckoner_product_C k) (F := impl_reckoner_product_F k) (fn := Try.f176) (c := codeOf Try.f176) (ps := impl_reckoner_product_ps) (rs := [(ty_1, true)]) (nx := 48) ⟨tyOf_ok tys_ok, gOf_ok ⟨impl_productOf_K k, impl_reckoner_keep_K, trivial⟩⟩ rfl (by kernel_rfl) (by kernel_rfl) (by kernel_rfl) (by kernel_rfl) (by kernel_rfl) (by kernel_rfl) rfl (by kernel_rfl) (by kernel_rfl) (AnnOk_list [] (by kernel_rfl) trivial) mix_ok (impl_reckoner_product_eq k)

noncomputable def impl_minus_V : Variant := ⟨[.val ty_1 true], [(ty_1, true)], fun x => impl_minus x.1⟩
noncomputable def impl_minus_C : Cfg := ⟨Try.prog, tyOf tys, 9, gOf [], false, [], []⟩
def impl_minus_ps : List PE := [⟨0, 0, .val ty_1 true, false⟩]
noncomputable def impl_minus_F : Fn (Int × Int) := ⟨impl_minus_C, rdRes Try.prog impl_minus_ps [(ty_1, true)] Try.f178.results.toList .ret, fun p => none, 0, []⟩
theorem impl_minus_eq (x : PTe impl_minus_ps) : evFn (impl_minus_F) (codeOf Try.f178) impl_minus_ps 16 x = impl_minus x.1 := by kernel_rfl
theorem impl_minus_K : Contract Try.prog 178 (impl_minus_V) :=
  contract (C := impl_minus_C) (F := impl_minus_F) (fn := Try.f178) (c := codeOf Try.f178) (ps := impl_minus_ps) (rs := [(ty_1, true)]) (nx := 16) ⟨tyOf_ok tys_ok, gOf_ok trivial⟩ rfl (by kernel_rfl) (by kernel_rfl) (by kernel_rfl) (by kernel_rfl) (by kernel_rfl) (by kernel_rfl) rfl (by kernel_rfl) (by kernel_rfl) (AnnOk_list [] (by kernel_rfl) trivial) mix_ok (impl_minus_eq)

noncomputable def impl_wideOf_V : Variant := ⟨[.val ty_0 false], [(ty_8, true)], fun x => impl_wideOf x.1⟩
noncomputable def impl_wideOf_C : Cfg := ⟨Try.prog, tyOf tys, 8, gOf [(128, [], impl_size_V)], false, [], []⟩
def impl_wideOf_ps : List PE := [⟨0, 0, .val ty_0 false, false⟩]
noncomputable def impl_wideOf_F : Fn (Bool × Int × Int) := ⟨impl_wideOf_C, rdRes Try.prog impl_wideOf_ps [(ty_8, true)] Try.f103.results.toList .ret, fun p => none, 0, []⟩
theorem impl_wideOf_eq (x : PTe impl_wideOf_ps) : evFn (impl_wideOf_F) (codeOf Try.f103) impl_wideOf_ps 16 x = impl_wideOf x.1 := by kernel_rfl
theorem impl_wideOf_K : Contract Try.prog 103 (impl_wideOf_V) :=
  contract (C := impl_wideOf_C) (F := impl_wideOf_F) (fn := Try.f103) (c := codeOf Try.f103) (ps := impl_wideOf_ps) (rs := [(ty_8, true)]) (nx := 16) ⟨tyOf_ok tys_ok, gOf_ok ⟨impl_size_K, trivial⟩⟩ rfl (by kernel_rfl) (by kernel_rfl) (by kernel_rfl) (by kernel_rfl) (by kernel_rfl) (by kernel_rfl) rfl (by kernel_rfl) (by kernel_rfl) (AnnOk_list [] (by kernel_rfl) trivial) mix_ok (impl_wideOf_eq)

noncomputable def math_bits_Add64_V : Variant := V64 math_bits_Add64
theorem math_bits_Add64_K : Contract Try.prog 203 math_bits_Add64_V := contractAdd64 (fn := Try.f203) (by kernel_rfl) (by kernel_rfl) (by kernel_rfl) (by kernel_rfl) (by kernel_rfl)

noncomputable def cmp_isNaN_uint64_V : Variant := ⟨[.val ty_6 false], [(.bool, false)], fun x => cmp_isNaN_uint64 x.1⟩
noncomputable def cmp_isNaN_uint64_C : Cfg := ⟨Try.prog, tyOf tys, 6, gOf [], false, [], []⟩
def cmp_isNaN_uint64_ps : List PE := [⟨0, 0, .val ty_6 false, false⟩]
noncomputable def cmp_isNaN_uint64_F : Fn (Bool) := ⟨cmp_isNaN_uint64_C, rdRes Try.prog cmp_isNaN_uint64_ps [(.bool, false)] Try.f197.results.toList .ret, fun p => none, 0, []⟩
theorem cmp_isNaN_uint64_eq (x : PTe cmp_isNaN_uint64_ps) : evFn (cmp_isNaN_uint64_F) (codeOf Try.f197) cmp_isNaN_uint64_ps 16 x = cmp_isNaN_uint64 x.1 := by kernel_rfl
theorem cmp_isNaN_uint64_K : Contract Try.prog 197 (cmp_isNaN_uint64_V) :=
  contract (C := cmp_isNaN_uint64_C) (F := cmp_isNaN_uint64_F) (fn := Try.f197) (c := codeOf Try.f197) (ps := cmp_isNaN_uint64_ps) (rs := [(.bool, false)]) (nx := 16) ⟨tyOf_ok tys_ok, gOf_ok trivial⟩ rfl (by kernel_rfl) (by kernel_rfl) (by kernel_rfl) (by kernel_rfl) (by kernel_rfl) (by kernel_rfl) rfl (by kernel_rfl) (by kernel_rfl) (AnnOk_list [] (by kernel_rfl) trivial) mix_ok (cmp_isNaN_uint64_eq)

noncomputable def cmp_Compare_uint64_V : Variant := ⟨[.val ty_6 false, .val ty_6 false], [(ty_0, false)], fun x => cmp_Compare_uint64 x.1 x.2.1⟩
noncomputable def cmp_Compare_uint64_C : Cfg := ⟨Try.prog, tyOf tys, 20, gOf [(197, [], cmp_isNaN_uint64_V)], false, [], []⟩
def cmp_Compare_uint64_ps : List PE := [⟨0, 0, .val ty_6 false, false⟩, ⟨1, 16, .val ty_6 false, false⟩]
noncomputable def cmp_Compare_uint64_F : Fn (Int) := ⟨cmp_Compare_uint64_C, rdRes Try.prog cmp_Compare_uint64_ps [(ty_0, false)] Try.f168.results.toList .ret, fun p => none, 0, []⟩
theorem cmp_Compare_uint64_eq (x : PTe cmp_Compare_uint64_ps) : evFn (cmp_Compare_uint64_F) (codeOf Try.f168) cmp_Compare_uint64_ps 32 x = cmp_Compare_uint64 x.1 x.2.1 := by kernel_rfl
theorem cmp_Compare_uint64_K : Contract Try.prog 168 (cmp_Compare_uint64_V) :=
  contract (C := cmp_Compare_uint64_C) (F := cmp_Compare_uint64_F) (fn := Try.f168) (c := codeOf Try.f168) (ps := cmp_Compare_uint64_ps) (rs := [(ty_0, false)]) (nx := 32) ⟨tyOf_ok tys_ok, gOf_ok ⟨cmp_isNaN_uint64_K, trivial⟩⟩ rfl (by kernel_rfl) (by kernel_rfl) (by kernel_rfl) (by kernel_rfl) (by kernel_rfl) (by kernel_rfl) rfl (by kernel_rfl) (by kernel_rfl) (AnnOk_list [] (by kernel_rfl) trivial) mix_ok (cmp_Compare_uint64_eq)

noncomputable def cmp_Or_int_V (k : Nat) : Variant := ⟨[.val ty_5 false], [(ty_0, false)], fun x => cmp_Or_int k x.1⟩
noncomputable def cmp_Or_int_C (k : Nat) : Cfg := ⟨Try.prog, tyOf tys, 18, gOf [], false, [], []⟩
def cmp_Or_int_i58 : List PE := [⟨3, 16, .val ty_0 false, false⟩, ⟨6, 32, .val ty_5 false, false⟩, ⟨7, 48, .val ty_0 false, false⟩, ⟨8, 64, .val ty_0 false, false⟩]
def cmp_Or_int_o58 : List PE := [⟨3, 16, .val ty_0 false, false⟩]
noncomputable def cmp_Or_int_f58 (k : Nat) (n : Nat) (x1 : PTe cmp_Or_int_i58) : Option ((Int) ⊕ PTe cmp_Or_int_o58) := cmp_Or_int_L58 k n x1.1 x1.2.1 x1.2.2.1 x1.2.2.2.1
def cmp_Or_int_ps : List PE := [⟨0, 0, .val ty_5 false, false⟩]
noncomputable def cmp_Or_int_F (k : Nat) : Fn (Int) := ⟨cmp_Or_int_C k, rdRes Try.prog cmp_Or_int_ps [(ty_0, false)] Try.f167.results.toList .ret, fun p => bif Nat.beq p 58 then some (.loop cmp_Or_int_i58 cmp_Or_int_o58 0 80 (cmp_Or_int_f58 k k)) else none, 0, []⟩
theorem cmp_Or_int_eq (k : Nat) (x : PTe cmp_Or_int_ps) : evFn (cmp_Or_int_F k) (codeOf Try.f167) cmp_Or_int_ps 16 x = cmp_Or_int k x.1 := by kernel_rfl
theorem cmp_Or_int_ls : loopsOf (codeOf Try.f167) 1 = [(58, loopB (codeOf Try.f167) 58)] := by kernel_rfl
theorem cmp_Or_int_l58 (k : Nat) : LoopOk (cmp_Or_int_F k) (loopB (codeOf Try.f167) 58) 58 := LoopOk.mk (pin := cmp_Or_int_i58) (pout := cmp_Or_int_o58) (ex := 0) (nx := 80) (Lf := cmp_Or_int_f58 k) (k := k) (by kernel_rfl) (fun _ => rfl) (by intro n x; kernel_rfl)
theorem cmp_Or_int_K (k : Nat) : Contract Try.prog 167 (cmp_Or_int_V k) :=
  contract (C := cmp_Or_int_C k) (F := cmp_Or_int_F k) (fn := Try.f167) (c := codeOf Try.f167) (ps := cmp_Or_int_ps) (rs := [(ty_0, false)]) (nx := 16) ⟨tyOf_ok tys_ok, gOf_ok trivial⟩ rfl (by kernel_rfl) (by kernel_rfl) (by kernel_rfl) (by kernel_rfl) (by kernel_rfl) (by kernel_rfl) rfl (by kernel_rfl) (by kernel_rfl) (AnnOk_list [(58, loopB (codeOf Try.f167) 58)] cmp_Or_int_ls ⟨cmp_Or_int_l58 k, trivial⟩) mix_ok (cmp_Or_int_eq k)

noncomputable def impl_compareSizes_V (k : Nat) : Variant := ⟨[.val ty_8 true, .val ty_8 true], [(ty_0, false)], fun x => impl_compareSizes k x.1 x.2.1⟩
noncomputable def impl_compareSizes_C (k : Nat) : Cfg := ⟨Try.prog, tyOf tys, 17, gOf [(168, [], cmp_Compare_uint64_V), (167, [], cmp_Or_int_V k)], false, [], []⟩
def impl_compareSizes_ps : List PE := [⟨0, 0, .val ty_8 true, false⟩, ⟨1, 16, .val ty_8 true, false⟩]
noncomputable def impl_compareSizes_F (k : Nat) : Fn (Int) := ⟨impl_compareSizes_C k, rdRes Try.prog impl_compareSizes_ps [(ty_0, false)] Try.f126.results.toList .ret, fun p => none, 0, []⟩
theorem impl_compareSizes_eq (k : Nat) (x : PTe impl_compareSizes_ps) : evFn (impl_compareSizes_F k) (codeOf Try.f126) impl_compareSizes_ps 32 x = impl_compareSizes k x.1 x.2.1 := by kernel_rfl
theorem impl_compareSizes_K (k : Nat) : Contract Try.prog 126 (impl_compareSizes_V k) :=
  contract (C := impl_compareSizes_C k) (F := impl_compareSizes_F k) (fn := Try.f126) (c := codeOf Try.f126) (ps := impl_compareSizes_ps) (rs := [(ty_0, false)]) (nx := 32) ⟨tyOf_ok tys_ok, gOf_ok ⟨cmp_Compare_uint64_K, cmp_Or_int_K k, trivial⟩⟩ rfl (by kernel_rfl) (by kernel_rfl) (by kernel_rfl) (by kernel_rfl) (by kernel_rfl) (by kernel_rfl) rfl (by kernel_rfl) (by kernel_rfl) (AnnOk_list [] (by kernel_rfl) trivial) mix_ok (impl_compareSizes_eq k)

noncomputable def math_bits_Sub64_V : Variant := V64 math_bits_Sub64
theorem math_bits_Sub64_K : Contract Try.prog 204 math_bits_Sub64_V := contractSub64 (fn := Try.f204) (by kernel_rfl) (by kernel_rfl) (by kernel_rfl) (by kernel_rfl) (by kernel_rfl)

noncomputable def impl_wide_add_V (k : Nat) : Variant := ⟨[.val ty_8 true, .val ty_8 true], [(ty_8, true)], fun x => impl_wide_add k x.1 x.2.1⟩
noncomputable def impl_wide_add_C (k : Nat) : Cfg := ⟨Try.prog, tyOf tys, 68, gOf [(203, [], math_bits_Add64_V), (126, [], impl_compareSizes_V k), (204, [], math_bits_Sub64_V)], false, [], []⟩
def impl_wide_add_ps : List PE := [⟨0, 0, .val ty_8 true, false⟩, ⟨1, 16, .val ty_8 true, false⟩]
noncomputable def impl_wide_add_F (k : Nat) : Fn (Bool × Int × Int) := ⟨impl_wide_add_C k, rdRes Try.prog impl_wide_add_ps [(ty_8, true)] Try.f182.results.toList .ret, fun p => bif Nat.beq p 14 then some (.cut [⟨2, 32, .box ty_8 false, false⟩, ⟨3, 48, .box ty_8 false, false⟩, ⟨4, 64, .box ty_8 false, false⟩] 80) else none, 0, []⟩
theorem impl_wide_add_eq (k : Nat) (x : PTe impl_wide_add_ps) : evFn (impl_wide_add_F k) (codeOf Try.f182) impl_wide_add_ps 32 x = impl_wide_add k x.1 x.2.1 := by kernel_rfl
theorem impl_wide_add_K (k : Nat) : Contract Try.prog 182 (impl_wide_add_V k) :=
  contract (C := impl_wide_add_C k) (F := impl_wide_add_F k) (fn := Try.f182) (c := codeOf Try.f182) (ps := impl_wide_add_ps) (rs := [(ty_8, true)]) (nx := 32) ⟨tyOf_ok tys_ok, gOf_ok ⟨math_bits_Add64_K, impl_compareSizes_K k, math_bits_Sub64_K, trivial⟩⟩ rfl (by kernel_rfl) (by kernel_rfl) (by kernel_rfl) (by kernel_rfl) (by kernel_rfl) (by kernel_rfl) rfl (by kernel_rfl) (by kernel_rfl) (AnnOk_list [] (by kernel_rfl) trivial) mix_ok (impl_wide_add_eq k)

noncomputable def impl_sumOf_V (k : Nat) : Variant := ⟨[.val ty_1 true, .val ty_1 true], [(ty_1, true), (.bool, false)], fun x => impl_sumOf k x.1 x.2.1⟩
noncomputable def impl_sumOf_C (k : Nat) : Cfg := ⟨Try.prog, tyOf tys, 33, gOf [(103, [], impl_wideOf_V), (154, [], impl_wide_shift_V), (182, [], impl_wide_add_V k), (105, [], impl_wide_fit_V k)], false, [], []⟩
def impl_sumOf_ps : List PE := [⟨0, 0, .val ty_1 true, false⟩, ⟨1, 16, .val ty_1 true, false⟩]
noncomputable def impl_sumOf_F (k : Nat) : Fn ((Int × Int) × Bool) := ⟨impl_sumOf_C k, rdRes Try.prog impl_sumOf_ps [(ty_1, true), (.bool, false)] Try.f214.results.toList .ret, fun p => none, 0, []⟩
theorem impl_sumOf_eq (k : Nat) (x : PTe impl_sumOf_ps) : evFn (impl_sumOf_F k) (codeOf Try.f214) impl_sumOf_ps 32 x = impl_sumOf k x.1 x.2.1 := by kernel_rfl
theorem impl_sumOf_K (k : Nat) : Contract Try.prog 214 (impl_sumOf_V k) :=
  contract (C := impl_sumOf_C k) (F := impl_sumOf_F k) (fn := Try.f214) (c := codeOf Try.f214) (ps := impl_sumOf_ps) (rs := [(ty_1, true), (.bool, false)]) (nx := 32) ⟨tyOf_ok tys_ok, gOf_ok ⟨impl_wideOf_K, impl_wide_shift_K, impl_wide_add_K k, impl_wide_fit_K k, trivial⟩⟩ rfl (by kernel_rfl) (by kernel_rfl) (by kernel_rfl) (by kernel_rfl) (by kernel_rfl) (by kernel_rfl) rfl (by kernel_rfl) (by kernel_rfl) (AnnOk_list [] (by kernel_rfl) trivial) mix_ok (impl_sumOf_eq k)

noncomputable def impl_reckoner_sum_V (k : Nat) : Variant := ⟨[.ptr .bool true, .val ty_1 true, .val ty_1 true], [(ty_1, true)], fun x => impl_reckoner_sum k x.1 x.2.1 x.2.2.1⟩
noncomputable def impl_reckoner_sum_C (k : Nat) : Cfg := ⟨Try.prog, tyOf tys, 14, gOf [(214, [], impl_sumOf_V k), (138, [], impl_reckoner_keep_V)], false, [], []⟩
def impl_reckoner_sum_ps : List PE := [⟨0, 0, .ptr .bool true, true⟩, ⟨1, 16, .val ty_1 true, false⟩, ⟨2, 32, .val ty_1 true, false⟩]
noncomputable def impl_reckoner_sum_F (k : Nat) : Fn ((Int × Int) × Bool) := ⟨impl_reckoner_sum_C k, rdRes Try.prog impl_reckoner_sum_ps [(ty_1, true)] Try.f201.results.toList .ret, fun p => none, 0, [0]⟩
theorem impl_reckoner_sum_eq (k : Nat) (x : PTe impl_reckoner_sum_ps) : evFn (impl_reckoner_sum_F k) (codeOf Try.f201) impl_reckoner_sum_ps 48 x = impl_reckoner_sum k x.1 x.2.1 x.2.2.1 := by kernel_rfl
theorem impl_reckoner_sum_K (k : Nat) : Contract Try.prog 201 (impl_reckoner_sum_V k) :=
  contract (C := impl_reckoner_sum_C k) (F := impl_reckoner_sum_F k) (fn := Try.f201) (c := codeOf Try.f201) (ps := impl_reckoner_sum_ps) (rs := [(ty_1, true)]) (nx := 48) ⟨tyOf_ok tys_ok, gOf_ok ⟨impl_sumOf_K k, impl_reckoner_keep_K, trivial⟩⟩ rfl (by kernel_rfl) (by kernel_rfl) (by kernel_rfl) (by kernel_rfl) (by kernel_rfl) (by kernel_rfl) rfl (by kernel_rfl) (by kernel_rfl) (AnnOk_list [] (by kernel_rfl) trivial) mix_ok (impl_reckoner_sum_eq k)

noncomputable def impl_reckoner_total_V (k : Nat) : Variant := ⟨[.ptr .bool true, .val ty_2 false], [(ty_1, true)], fun x => impl_reckoner_total k x.1 x.2.1⟩
noncomputable def impl_reckoner_total_C (k : Nat) : Cfg := ⟨Try.prog, tyOf tys, 24, gOf [(201, [], impl_reckoner_sum_V k)], false, [], []⟩
def impl_reckoner_total_i58 : List PE := [⟨0, 0, .ptr .bool true, true⟩, ⟨4, 32, .box ty_1 false, false⟩, ⟨5, 48, .box ty_1 false, false⟩, ⟨12, 64, .val ty_2 false, false⟩, ⟨13, 80, .val ty_0 false, false⟩, ⟨14, 96, .val ty_0 false, false⟩]
def impl_reckoner_total_o58 : List PE := [⟨4, 32, .box ty_1 false, false⟩, ⟨5, 48, .box ty_1 false, false⟩, ⟨0, 0, .ptr .bool true, true⟩]
noncomputable def impl_reckoner_total_f58 (k : Nat) (n : Nat) (x2 : PTe impl_reckoner_total_i58) : Option (((Int × Int) × Bool) ⊕ PTe impl_reckoner_total_o58) := impl_reckoner_total_L58 k n x2.1 x2.2.1 x2.2.2.1 x2.2.2.2.1 x2.2.2.2.2.1 x2.2.2.2.2.2.1
def impl_reckoner_total_ps : List PE := [⟨0, 0, .ptr .bool true, true⟩, ⟨1, 16, .val ty_2 false, false⟩]
noncomputable def impl_reckoner_total_F (k : Nat) : Fn ((Int × Int) × Bool) := ⟨impl_reckoner_total_C k, rdRes Try.prog impl_reckoner_total_ps [(ty_1, true)] Try.f179.results.toList .ret, fun p => bif Nat.beq p 58 then some (.loop impl_reckoner_total_i58 impl_reckoner_total_o58 0 112 (impl_reckoner_total_f58 k k)) else none, 0, [0]⟩
theorem impl_reckoner_total_eq (k : Nat) (x : PTe impl_reckoner_total_ps) : evFn (impl_reckoner_total_F k) (codeOf Try.f179) impl_reckoner_total_ps 32 x = impl_reckoner_total k x.1 x.2.1 := by kernel_rfl
theorem impl_reckoner_total_ls : loopsOf (codeOf Try.f179) 1 = [(58, loopB (codeOf Try.f179) 58)] := by kernel_rfl
theorem impl_reckoner_total_l58 (k : Nat) : LoopOk (impl_reckoner_total_F k) (loopB (codeOf Try.f179) 58) 58 := LoopOk.mk (pin := impl_reckoner_total_i58) (pout := impl_reckoner_total_o58) (ex := 0) (nx := 112) (Lf := impl_reckoner_total_f58 k) (k := k) (by kernel_rfl) (fun _ => rfl) (by intro n x; kernel_rfl)
theorem impl_reckoner_total_K (k : Nat) : Contract Try.prog 179 (impl_reckoner_total_V k) :=
  contract (C := impl_reckoner_total_C k) (F := impl_reckoner_total_F k) (fn := Try.f179) (c := codeOf Try.f179) (ps := impl_reckoner_total_ps) (rs := [(ty_1, true)]) (nx := 32) ⟨tyOf_ok tys_ok, gOf_ok ⟨impl_reckoner_sum_K k, trivial⟩⟩ rfl (by kernel_rfl) (by kernel_rfl) (by kernel_rfl) (by kernel_rfl) (by kernel_rfl) (by kernel_rfl) rfl (by kernel_rfl) (by kernel_rfl) (AnnOk_list [(58, loopB (codeOf Try.f179) 58)] impl_reckoner_total_ls ⟨impl_reckoner_total_l58 k, trivial⟩) mix_ok (impl_reckoner_total_eq k)

noncomputable def impl_reckoner_determinant_V (k : Nat) : Variant := ⟨[.ptr .bool true, .val ty_3 false], [(ty_1, true)], fun x => impl_reckoner_determinant k x.1 x.2.1⟩
noncomputable def impl_reckoner_determinant_W (rc : Bool → (List (List (Int × Int))) → Option ((Int × Int) × Bool)) : Variant := ⟨[.ptr .bool true, .val ty_3 false], [(ty_1, true)], fun x => rc x.1 x.2.1⟩
noncomputable def impl_reckoner_determinant_C (k : Nat) (rc : Bool → (List (List (Int × Int))) → Option ((Int × Int) × Bool)) : Cfg := ⟨Try.prog, tyOf tys, 47, gOf [(177, [], impl_part_Dyadic_V k), (136, [], impl_reckoner_determinant_W rc), (176, [], impl_reckoner_product_V k), (178, [], impl_minus_V), (179, [], impl_reckoner_total_V k)], false, [], []⟩
def impl_reckoner_determinant_i122 : List PE := [⟨0, 0, .ptr .bool true, true⟩, ⟨1, 32, .val ty_3 false, false⟩, ⟨4, 48, .box ty_1 false, false⟩, ⟨5, 64, .eat ty_1, false⟩, ⟨19, 80, .val ty_2 false, false⟩, ⟨20, 96, .val ty_0 false, false⟩, ⟨21, 112, .val ty_0 false, false⟩]
def impl_reckoner_determinant_o122 : List PE := [⟨0, 0, .ptr .bool true, true⟩, ⟨4, 32, .box ty_1 false, false⟩, ⟨5, 48, .eat ty_1, false⟩]
noncomputable def impl_reckoner_determinant_f122 (k : Nat) (rc : Bool → (List (List (Int × Int))) → Option ((Int × Int) × Bool)) (n : Nat) (x7 : PTe impl_reckoner_determinant_i122) : Option (((Int × Int) × Bool) ⊕ PTe impl_reckoner_determinant_o122) := impl_reckoner_determinant_L122 k rc n x7.1 x7.2.1 x7.2.2.1 x7.2.2.2.1 x7.2.2.2.2.1 x7.2.2.2.2.2.1 x7.2.2.2.2.2.2.1
def impl_reckoner_determinant_ps : List PE := [⟨0, 0, .ptr .bool true, true⟩, ⟨1, 16, .val ty_3 false, false⟩]
noncomputable def impl_reckoner_determinant_F (k : Nat) (rc : Bool → (List (List (Int × Int))) → Option ((Int × Int) × Bool)) : Fn ((Int × Int) × Bool) := ⟨impl_reckoner_determinant_C k rc, rdRes Try.prog impl_reckoner_determinant_ps [(ty_1, true)] Try.f136.results.toList .ret, fun p => bif Nat.beq p 31334 then some (.cut [⟨0, 0, .ptr .bool true, true⟩, ⟨1, 32, .val ty_3 false, false⟩, ⟨4, 48, .box ty_1 false, false⟩, ⟨5, 64, .eat ty_1, false⟩, ⟨8, 80, .box ty_1 false, false⟩, ⟨19, 96, .val ty_2 false, false⟩, ⟨20, 112, .val ty_0 false, false⟩, ⟨21, 128, .val ty_0 false, false⟩] 144) else bif Nat.beq p 122 then some (.loop impl_reckoner_determinant_i122 impl_reckoner_determinant_o122 0 128 (impl_reckoner_determinant_f122 k rc k)) else none, 0, [0]⟩
theorem impl_reckoner_determinant_eq (k : Nat) (rc : Bool → (List (List (Int × Int))) → Option ((Int × Int) × Bool)) (x : PTe impl_reckoner_determinant_ps) : evFn (impl_reckoner_determinant_F k rc) (codeOf Try.f136) impl_reckoner_determinant_ps 32 x = impl_reckoner_determinant_B k rc x.1 x.2.1 := by kernel_rfl
theorem impl_reckoner_determinant_ls : loopsOf (codeOf Try.f136) 1 = [(122, loopB (codeOf Try.f136) 122)] := by kernel_rfl
theorem impl_reckoner_determinant_l122 (k : Nat) (rc : Bool → (List (List (Int × Int))) → Option ((Int × Int) × Bool)) : LoopOk (impl_reckoner_determinant_F k rc) (loopB (codeOf Try.f136) 122) 122 := LoopOk.mk (pin := impl_reckoner_determinant_i122) (pout := impl_reckoner_determinant_o122) (ex := 0) (nx := 128) (Lf := impl_reckoner_determinant_f122 k rc) (k := k) (by kernel_rfl) (fun _ => rfl) (by intro n x; kernel_rfl)
theorem impl_reckoner_determinant_KB (k : Nat) (rc : Bool → (List (List (Int × Int))) → Option ((Int × Int) × Bool)) (hrc : Contract Try.prog 136 (impl_reckoner_determinant_W rc)) : Contract Try.prog 136 (impl_reckoner_determinant_W (impl_reckoner_determinant_B k rc)) :=
  contract (C := impl_reckoner_determinant_C k rc) (F := impl_reckoner_determinant_F k rc) (fn := Try.f136) (c := codeOf Try.f136) (ps := impl_reckoner_determinant_ps) (rs := [(ty_1, true)]) (nx := 32) ⟨tyOf_ok tys_ok, gOf_ok ⟨impl_part_Dyadic_K k, hrc, impl_reckoner_product_K k, impl_minus_K, impl_reckoner_total_K k, trivial⟩⟩ rfl (by kernel_rfl) (by kernel_rfl) (by kernel_rfl) (by kernel_rfl) (by kernel_rfl) (by kernel_rfl) rfl (by kernel_rfl) (by kernel_rfl) (AnnOk_list [(122, loopB (codeOf Try.f136) 122)] impl_reckoner_determinant_ls ⟨impl_reckoner_determinant_l122 k rc, trivial⟩) mix_ok (impl_reckoner_determinant_eq k rc)
theorem impl_reckoner_determinant_KR (k : Nat) : ∀ n, Contract Try.prog 136 (impl_reckoner_determinant_W (impl_reckoner_determinant_R k n))
  | 0 => contract_none fun _ => rfl
  | n + 1 => impl_reckoner_determinant_KB k _ (impl_reckoner_determinant_KR k n)
theorem impl_reckoner_determinant_K (k : Nat) : Contract Try.prog 136 (impl_reckoner_determinant_V k) := impl_reckoner_determinant_KR k k

noncomputable def impl_integer_V : Variant := ⟨[.val ty_0 false], [(ty_1, true)], fun x => impl_integer x.1⟩
noncomputable def impl_integer_C : Cfg := ⟨Try.prog, tyOf tys, 5, gOf [], false, [], []⟩
def impl_integer_ps : List PE := [⟨0, 0, .val ty_0 false, false⟩]
noncomputable def impl_integer_F : Fn (Int × Int) := ⟨impl_integer_C, rdRes Try.prog impl_integer_ps [(ty_1, true)] Try.f180.results.toList .ret, fun p => none, 0, []⟩
theorem impl_integer_eq (x : PTe impl_integer_ps) : evFn (impl_integer_F) (codeOf Try.f180) impl_integer_ps 16 x = impl_integer x.1 := by kernel_rfl
theorem impl_integer_K : Contract Try.prog 180 (impl_integer_V) :=
  contract (C := impl_integer_C) (F := impl_integer_F) (fn := Try.f180) (c := codeOf Try.f180) (ps := impl_integer_ps) (rs := [(ty_1, true)]) (nx := 16) ⟨tyOf_ok tys_ok, gOf_ok trivial⟩ rfl (by kernel_rfl) (by kernel_rfl) (by kernel_rfl) (by kernel_rfl) (by kernel_rfl) (by kernel_rfl) rfl (by kernel_rfl) (by kernel_rfl) (AnnOk_list [] (by kernel_rfl) trivial) mix_ok (impl_integer_eq)

noncomputable def impl_adjoint_V (k : Nat) : Variant := ⟨[.val ty_3 false], [(ty_3, false), (.bool, false)], fun x => impl_adjoint k x.1⟩
noncomputable def impl_adjoint_C (k : Nat) : Cfg := ⟨Try.prog, tyOf tys, 57, gOf [(180, [], impl_integer_V), (177, [], impl_part_Dyadic_V k), (136, [], impl_reckoner_determinant_V k), (178, [], impl_minus_V)], false, [], []⟩
def impl_adjoint_i256410 : List PE := [⟨0, 16, .val ty_3 false, false⟩, ⟨4, 32, .box .bool false, false⟩, ⟨5, 48, .eat ty_2, false⟩, ⟨6, 64, .val ty_0 false, false⟩, ⟨7, 80, .eat ty_1, false⟩, ⟨19, 96, .val ty_0 false, false⟩, ⟨20, 112, .val ty_0 false, false⟩, ⟨24, 128, .val ty_0 false, false⟩, ⟨25, 144, .val ty_0 false, false⟩]
def impl_adjoint_o256410 : List PE := [⟨0, 16, .val ty_3 false, false⟩, ⟨4, 32, .box .bool false, false⟩, ⟨5, 48, .eat ty_2, false⟩, ⟨7, 64, .eat ty_1, false⟩, ⟨19, 80, .val ty_0 false, false⟩, ⟨20, 96, .val ty_0 false, false⟩]
noncomputable def impl_adjoint_f256410 (k : Nat) (n : Nat) (x7 : PTe impl_adjoint_i256410) : Option (((List (List (Int × Int))) × Bool) ⊕ PTe impl_adjoint_o256410) := impl_adjoint_L256410 k n x7.1 x7.2.1 x7.2.2.1 x7.2.2.2.1 x7.2.2.2.2.1 x7.2.2.2.2.2.1 x7.2.2.2.2.2.2.1 x7.2.2.2.2.2.2.2.1 x7.2.2.2.2.2.2.2.2.1
def impl_adjoint_i250 : List PE := [⟨0, 16, .val ty_3 false, false⟩, ⟨4, 32, .box .bool false, false⟩, ⟨5, 48, .eat ty_2, false⟩, ⟨19, 64, .val ty_0 false, false⟩, ⟨20, 80, .val ty_0 false, false⟩]
def impl_adjoint_o250 : List PE := [⟨4, 16, .box .bool false, false⟩, ⟨5, 32, .eat ty_2, false⟩]
noncomputable def impl_adjoint_f250 (k : Nat) (n : Nat) (x10 : PTe impl_adjoint_i250) : Option (((List (List (Int × Int))) × Bool) ⊕ PTe impl_adjoint_o250) := impl_adjoint_L250 k n x10.1 x10.2.1 x10.2.2.1 x10.2.2.2.1 x10.2.2.2.2.1
def impl_adjoint_ps : List PE := [⟨0, 0, .val ty_3 false, false⟩]
noncomputable def impl_adjoint_F (k : Nat) : Fn ((List (List (Int × Int))) × Bool) := ⟨impl_adjoint_C k, rdRes Try.prog impl_adjoint_ps [(ty_3, false), (.bool, false)] Try.f137.results.toList .ret, fun p => bif Nat.beq p 65641062 then some (.cut [⟨0, 16, .val ty_3 false, false⟩, ⟨4, 32, .box .bool false, false⟩, ⟨5, 48, .eat ty_2, false⟩, ⟨6, 64, .val ty_0 false, false⟩, ⟨7, 80, .eat ty_1, false⟩, ⟨9, 96, .box ty_1 false, false⟩, ⟨19, 112, .val ty_0 false, false⟩, ⟨20, 128, .val ty_0 false, false⟩, ⟨24, 144, .val ty_0 false, false⟩, ⟨25, 160, .val ty_0 false, false⟩] 176) else bif Nat.beq p 256410 then some (.loop impl_adjoint_i256410 impl_adjoint_o256410 2 160 (impl_adjoint_f256410 k k)) else bif Nat.beq p 250 then some (.loop impl_adjoint_i250 impl_adjoint_o250 0 96 (impl_adjoint_f250 k k)) else none, 0, []⟩
theorem impl_adjoint_eq (k : Nat) (x : PTe impl_adjoint_ps) : evFn (impl_adjoint_F k) (codeOf Try.f137) impl_adjoint_ps 16 x = impl_adjoint k x.1 := by kernel_rfl
theorem impl_adjoint_ls : loopsOf (codeOf Try.f137) 1 = [(250, loopB (codeOf Try.f137) 250), (256410, loopB (codeOf Try.f137) 256410)] := by kernel_rfl
theorem impl_adjoint_l256410 (k : Nat) : LoopOk (impl_adjoint_F k) (loopB (codeOf Try.f137) 256410) 256410 := LoopOk.mk (pin := impl_adjoint_i256410) (pout := impl_adjoint_o256410) (ex := 2) (nx := 160) (Lf := impl_adjoint_f256410 k) (k := k) (by kernel_rfl) (fun _ => rfl) (by intro n x; kernel_rfl)
theorem impl_adjoint_l250 (k : Nat) : LoopOk (impl_adjoint_F k) (loopB (codeOf Try.f137) 250) 250 := LoopOk.mk (pin := impl_adjoint_i250) (pout := impl_adjoint_o250) (ex := 0) (nx := 96) (Lf := impl_adjoint_f250 k) (k := k) (by kernel_rfl) (fun _ => rfl) (by intro n x; kernel_rfl)
theorem impl_adjoint_K (k : Nat) : Contract Try.prog 137 (impl_adjoint_V k) :=
  contract (C := impl_adjoint_C k) (F := impl_adjoint_F k) (fn := Try.f137) (c := codeOf Try.f137) (ps := impl_adjoint_ps) (rs := [(ty_3, false), (.bool, false)]) (nx := 16) ⟨tyOf_ok tys_ok, gOf_ok ⟨impl_integer_K, impl_part_Dyadic_K k, impl_reckoner_determinant_K k, impl_minus_K, trivial⟩⟩ rfl (by kernel_rfl) (by kernel_rfl) (by kernel_rfl) (by kernel_rfl) (by kernel_rfl) (by kernel_rfl) rfl (by kernel_rfl) (by kernel_rfl) (AnnOk_list [(250, loopB (codeOf Try.f137) 250), (256410, loopB (codeOf Try.f137) 256410)] impl_adjoint_ls ⟨impl_adjoint_l250 k, impl_adjoint_l256410 k, trivial⟩) mix_ok (impl_adjoint_eq k)

noncomputable def math_bits_Len64_V : Variant := ⟨[.val ty_6 false], [(ty_0, false)], fun x => math_bits_Len64 x.1⟩
noncomputable def math_bits_Len64_C : Cfg := ⟨Try.prog, tyOf tys, 25, gOf [], false, [], []⟩
def math_bits_Len64_ps : List PE := [⟨0, 0, .val ty_6 false, false⟩]
noncomputable def math_bits_Len64_F : Fn (Int) := ⟨math_bits_Len64_C, rdRes Try.prog math_bits_Len64_ps [(ty_0, false)] Try.f215.results.toList .ret, fun p => bif Nat.beq p 30 then some (.cut [⟨0, 16, .val ty_6 false, false⟩, ⟨2, 32, .val ty_0 false, false⟩] 48) else bif Nat.beq p 14 then some (.cut [⟨0, 16, .val ty_6 false, false⟩, ⟨2, 32, .val ty_0 false, false⟩] 48) else bif Nat.beq p 6 then some (.cut [⟨0, 16, .val ty_6 false, false⟩, ⟨2, 32, .val ty_0 false, false⟩] 48) else none, 0, []⟩
theorem math_bits_Len64_eq (x : PTe math_bits_Len64_ps) : evFn (math_bits_Len64_F) (codeOf Try.f215) math_bits_Len64_ps 16 x = math_bits_Len64 x.1 := by kernel_rfl
theorem math_bits_Len64_K : Contract Try.prog 215 (math_bits_Len64_V) :=
  contract (C := math_bits_Len64_C) (F := math_bits_Len64_F) (fn := Try.f215) (c := codeOf Try.f215) (ps := math_bits_Len64_ps) (rs := [(ty_0, false)]) (nx := 16) ⟨tyOf_ok tys_ok, gOf_ok trivial⟩ rfl (by kernel_rfl) (by kernel_rfl) (by kernel_rfl) (by kernel_rfl) (by kernel_rfl) (by kernel_rfl) rfl (by kernel_rfl) (by kernel_rfl) (AnnOk_list [] (by kernel_rfl) trivial) mix_ok (math_bits_Len64_eq)

noncomputable def math_bits_LeadingZeros64_V : Variant := ⟨[.val ty_6 false], [(ty_0, false)], fun x => math_bits_LeadingZeros64 x.1⟩
noncomputable def math_bits_LeadingZeros64_C : Cfg := ⟨Try.prog, tyOf tys, 6, gOf [(215, [], math_bits_Len64_V)], false, [], []⟩
def math_bits_LeadingZeros64_ps : List PE := [⟨0, 0, .val ty_6 false, false⟩]
noncomputable def math_bits_LeadingZeros64_F : Fn (Int) := ⟨math_bits_LeadingZeros64_C, rdRes Try.prog math_bits_LeadingZeros64_ps [(ty_0, false)] Try.f202.results.toList .ret, fun p => none, 0, []⟩
theorem math_bits_LeadingZeros64_eq (x : PTe math_bits_LeadingZeros64_ps) : evFn (math_bits_LeadingZeros64_F) (codeOf Try.f202) math_bits_LeadingZeros64_ps 16 x = math_bits_LeadingZeros64 x.1 := by kernel_rfl
theorem math_bits_LeadingZeros64_K : Contract Try.prog 202 (math_bits_LeadingZeros64_V) :=
  contract (C := math_bits_LeadingZeros64_C) (F := math_bits_LeadingZeros64_F) (fn := Try.f202) (c := codeOf Try.f202) (ps := math_bits_LeadingZeros64_ps) (rs := [(ty_0, false)]) (nx := 16) ⟨tyOf_ok tys_ok, gOf_ok ⟨math_bits_Len64_K, trivial⟩⟩ rfl (by kernel_rfl) (by kernel_rfl) (by kernel_rfl) (by kernel_rfl) (by kernel_rfl) (by kernel_rfl) rfl (by kernel_rfl) (by kernel_rfl) (AnnOk_list [] (by kernel_rfl) trivial) mix_ok (math_bits_LeadingZeros64_eq)

noncomputable def math_bits_Div64_V (k : Nat) : Variant := ⟨[.val ty_6 false, .val ty_6 false, .val ty_6 false], [(ty_6, false), (ty_6, false)], fun x => math_bits_Div64 k x.1 x.2.1 x.2.2.1⟩
noncomputable def math_bits_Div64_C (k : Nat) : Cfg := ⟨Try.prog, tyOf tys, 135, gOf [(202, [], math_bits_LeadingZeros64_V)], false, [], []⟩
def math_bits_Div64_i131068 : List PE := [⟨2, 48, .val ty_6 false, false⟩, ⟨8, 64, .val ty_6 false, false⟩, ⟨9, 80, .val ty_6 false, false⟩, ⟨10, 96, .val ty_6 false, false⟩, ⟨11, 112, .val ty_6 false, false⟩, ⟨13, 128, .val ty_6 false, false⟩, ⟨14, 144, .val ty_6 false, false⟩, ⟨15, 160, .val ty_6 false, false⟩, ⟨16, 176, .val ty_6 false, false⟩]
def math_bits_Div64_o131068 : List PE := [⟨2, 48, .val ty_6 false, false⟩, ⟨8, 64, .val ty_6 false, false⟩, ⟨9, 80, .val ty_6 false, false⟩, ⟨10, 96, .val ty_6 false, false⟩, ⟨11, 112, .val ty_6 false, false⟩, ⟨13, 128, .val ty_6 false, false⟩, ⟨14, 144, .val ty_6 false, false⟩, ⟨15, 160, .val ty_6 false, false⟩]
noncomputable def math_bits_Div64_f131068 (k : Nat) (n : Nat) (x2 : PTe math_bits_Div64_i131068) : Option ((Int × Int) ⊕ PTe math_bits_Div64_o131068) := math_bits_Div64_L131068 k n x2.1 x2.2.1 x2.2.2.1 x2.2.2.2.1 x2.2.2.2.2.1 x2.2.2.2.2.2.1 x2.2.2.2.2.2.2.1 x2.2.2.2.2.2.2.2.1 x2.2.2.2.2.2.2.2.2.1
def math_bits_Div64_i2097148 : List PE := [⟨2, 48, .val ty_6 false, false⟩, ⟨8, 64, .val ty_6 false, false⟩, ⟨9, 80, .val ty_6 false, false⟩, ⟨10, 96, .val ty_6 false, false⟩, ⟨14, 112, .val ty_6 false, false⟩, ⟨15, 128, .val ty_6 false, false⟩, ⟨16, 144, .val ty_6 false, false⟩, ⟨17, 160, .val ty_6 false, false⟩, ⟨18, 176, .val ty_6 false, false⟩]
def math_bits_Div64_o2097148 : List PE := [⟨2, 48, .val ty_6 false, false⟩, ⟨8, 64, .val ty_6 false, false⟩, ⟨14, 80, .val ty_6 false, false⟩, ⟨15, 96, .val ty_6 false, false⟩, ⟨17, 112, .val ty_6 false, false⟩, ⟨18, 128, .val ty_6 false, false⟩]
noncomputable def math_bits_Div64_f2097148 (k : Nat) (n : Nat) (x5 : PTe math_bits_Div64_i2097148) : Option ((Int × Int) ⊕ PTe math_bits_Div64_o2097148) := math_bits_Div64_L2097148 k n x5.1 x5.2.1 x5.2.2.1 x5.2.2.2.1 x5.2.2.2.2.1 x5.2.2.2.2.2.1 x5.2.2.2.2.2.2.1 x5.2.2.2.2.2.2.2.1 x5.2.2.2.2.2.2.2.2.1
def math_bits_Div64_ps : List PE := [⟨0, 0, .val ty_6 false, false⟩, ⟨1, 16, .val ty_6 false, false⟩, ⟨2, 32, .val ty_6 false, false⟩]
noncomputable def math_bits_Div64_F (k : Nat) : Fn (Int × Int) := ⟨math_bits_Div64_C k, rdRes Try.prog math_bits_Div64_ps [(ty_6, false), (ty_6, false)] Try.f181.results.toList .ret, fun p => bif Nat.beq p 131068 then some (.loop math_bits_Div64_i131068 math_bits_Div64_o131068 0 192 (math_bits_Div64_f131068 k k)) else bif Nat.beq p 2097148 then some (.loop math_bits_Div64_i2097148 math_bits_Div64_o2097148 2 192 (math_bits_Div64_f2097148 k k)) else none, 0, []⟩
theorem math_bits_Div64_eq (k : Nat) (x : PTe math_bits_Div64_ps) : evFn (math_bits_Div64_F k) (codeOf Try.f181) math_bits_Div64_ps 48 x = math_bits_Div64 k x.1 x.2.1 x.2.2.1 := by kernel_rfl
theorem math_bits_Div64_ls : loopsOf (codeOf Try.f181) 1 = [(131068, loopB (codeOf Try.f181) 131068), (2097148, loopB (codeOf Try.f181) 2097148)] := by kernel_rfl
theorem math_bits_Div64_l131068 (k : Nat) : LoopOk (math_bits_Div64_F k) (loopB (codeOf Try.f181) 131068) 131068 := LoopOk.mk (pin := math_bits_Div64_i131068) (pout := math_bits_Div64_o131068) (ex := 0) (nx := 192) (Lf := math_bits_Div64_f131068 k) (k := k) (by kernel_rfl) (fun _ => rfl) (by intro n x; kernel_rfl)
theorem math_bits_Div64_l2097148 (k : Nat) : LoopOk (math_bits_Div64_F k) (loopB (codeOf Try.f181) 2097148) 2097148 := LoopOk.mk (pin := math_bits_Div64_i2097148) (pout := math_bits_Div64_o2097148) (ex := 2) (nx := 192) (Lf := math_bits_Div64_f2097148 k) (k := k) (by kernel_rfl) (fun _ => rfl) (by intro n x; kernel_rfl)
theorem math_bits_Div64_K (k : Nat) : Contract Try.prog 181 (math_bits_Div64_V k) :=
  contract (C := math_bits_Div64_C k) (F := math_bits_Div64_F k) (fn := Try.f181) (c := codeOf Try.f181) (ps := math_bits_Div64_ps) (rs := [(ty_6, false), (ty_6, false)]) (nx := 48) ⟨tyOf_ok tys_ok, gOf_ok ⟨math_bits_LeadingZeros64_K, trivial⟩⟩ rfl (by kernel_rfl) (by kernel_rfl) (by kernel_rfl) (by kernel_rfl) (by kernel_rfl) (by kernel_rfl) rfl (by kernel_rfl) (by kernel_rfl) (AnnOk_list [(131068, loopB (codeOf Try.f181) 131068), (2097148, loopB (codeOf Try.f181) 2097148)] math_bits_Div64_ls ⟨math_bits_Div64_l131068 k, math_bits_Div64_l2097148 k, trivial⟩) mix_ok (math_bits_Div64_eq k)

noncomputable def impl_quotientDown_V (k : Nat) : Variant := ⟨[.val ty_0 false, .val ty_0 false, .val ty_0 false, .val ty_0 false], [(ty_1, true), (.bool, false)], fun x => impl_quotientDown k x.1 x.2.1 x.2.2.1 x.2.2.2.1⟩
noncomputable def impl_quotientDown_C (k : Nat) : Cfg := ⟨Try.prog, tyOf tys, 88, gOf [(103, [], impl_wideOf_V), (154, [], impl_wide_shift_V), (128, [], impl_size_V), (181, [], math_bits_Div64_V k), (126, [], impl_compareSizes_V k), (182, [], impl_wide_add_V k), (105, [], impl_wide_fit_V k)], false, [], []⟩
def impl_quotientDown_ps : List PE := [⟨0, 0, .val ty_0 false, false⟩, ⟨1, 16, .val ty_0 false, false⟩, ⟨2, 32, .val ty_0 false, false⟩, ⟨3, 48, .val ty_0 false, false⟩]
noncomputable def impl_quotientDown_F (k : Nat) : Fn ((Int × Int) × Bool) := ⟨impl_quotientDown_C k, rdRes Try.prog impl_quotientDown_ps [(ty_1, true), (.bool, false)] Try.f139.results.toList .ret, fun p => bif Nat.beq p 1022 then some (.cut [⟨3, 64, .val ty_0 false, false⟩, ⟨8, 80, .box ty_1 false, false⟩, ⟨16, 96, .box ty_8 false, false⟩] 112) else bif Nat.beq p 1022 then some (.cut [⟨3, 64, .val ty_0 false, false⟩, ⟨8, 80, .box ty_1 false, false⟩, ⟨16, 96, .box ty_8 false, false⟩] 112) else none, 0, []⟩
theorem impl_quotientDown_eq (k : Nat) (x : PTe impl_quotientDown_ps) : evFn (impl_quotientDown_F k) (codeOf Try.f139) impl_quotientDown_ps 64 x = impl_quotientDown k x.1 x.2.1 x.2.2.1 x.2.2.2.1 := by kernel_rfl
theorem impl_quotientDown_K (k : Nat) : Contract Try.prog 139 (impl_quotientDown_V k) :=
  contract (C := impl_quotientDown_C k) (F := impl_quotientDown_F k) (fn := Try.f139) (c := codeOf Try.f139) (ps := impl_quotientDown_ps) (rs := [(ty_1, true), (.bool, false)]) (nx := 64) ⟨tyOf_ok tys_ok, gOf_ok ⟨impl_wideOf_K, impl_wide_shift_K, impl_size_K, math_bits_Div64_K k, impl_compareSizes_K k, impl_wide_add_K k, impl_wide_fit_K k, trivial⟩⟩ rfl (by kernel_rfl) (by kernel_rfl) (by kernel_rfl) (by kernel_rfl) (by kernel_rfl) (by kernel_rfl) rfl (by kernel_rfl) (by kernel_rfl) (AnnOk_list [] (by kernel_rfl) trivial) mix_ok (impl_quotientDown_eq k)

noncomputable def impl_roundedInverse_V (k : Nat) : Variant := ⟨[.val ty_3 false, .val ty_0 false], [(ty_3, false), (.bool, false)], fun x => impl_roundedInverse k x.1 x.2.1⟩
noncomputable def impl_roundedInverse_C (k : Nat) : Cfg := ⟨Try.prog, tyOf tys, 77, gOf [(136, [], impl_reckoner_determinant_V k), (137, [], impl_adjoint_V k), (139, [], impl_quotientDown_V k), (138, [], impl_reckoner_keep_V)], false, [11, 44, 51], []⟩
def impl_roundedInverse_i129638 : List PE := [⟨38, 48, .same 8, false⟩, ⟨44, 64, .same 11, false⟩, ⟨11, 32, .vw 8, false⟩, ⟨1, 80, .val ty_0 false, false⟩, ⟨6, 96, .box .bool false, false⟩, ⟨7, 112, .box ty_1 false, false⟩, ⟨8, 128, .eat ty_2, false⟩, ⟨39, 144, .val ty_0 false, false⟩, ⟨40, 160, .val ty_0 false, false⟩, ⟨45, 176, .val ty_0 false, false⟩, ⟨46, 192, .val ty_0 false, false⟩]
def impl_roundedInverse_o129638 : List PE := [⟨38, 32, .same 8, false⟩, ⟨1, 48, .val ty_0 false, false⟩, ⟨6, 64, .box .bool false, false⟩, ⟨7, 80, .box ty_1 false, false⟩, ⟨8, 96, .eat ty_2, false⟩, ⟨39, 112, .val ty_0 false, false⟩, ⟨40, 128, .val ty_0 false, false⟩]
noncomputable def impl_roundedInverse_f129638 (k : Nat) (n : Nat) (x5 : PTe impl_roundedInverse_i129638) : Option (((List (List (Int × Int))) × Bool) ⊕ PTe impl_roundedInverse_o129638) := impl_roundedInverse_L129638 k n x5.1 x5.2.1 x5.2.2.1 x5.2.2.2.1 x5.2.2.2.2.1 x5.2.2.2.2.2.1 x5.2.2.2.2.2.2.1 x5.2.2.2.2.2.2.2.1 x5.2.2.2.2.2.2.2.2.1 x5.2.2.2.2.2.2.2.2.2.1 x5.2.2.2.2.2.2.2.2.2.2.1
def impl_roundedInverse_i506 : List PE := [⟨38, 32, .same 8, false⟩, ⟨1, 48, .val ty_0 false, false⟩, ⟨6, 64, .box .bool false, false⟩, ⟨7, 80, .box ty_1 false, false⟩, ⟨8, 96, .eat ty_2, false⟩, ⟨39, 112, .val ty_0 false, false⟩, ⟨40, 128, .val ty_0 false, false⟩]
def impl_roundedInverse_o506 : List PE := [⟨6, 32, .box .bool false, false⟩, ⟨8, 48, .eat ty_2, false⟩]
noncomputable def impl_roundedInverse_f506 (k : Nat) (n : Nat) (x8 : PTe impl_roundedInverse_i506) : Option (((List (List (Int × Int))) × Bool) ⊕ PTe impl_roundedInverse_o506) := impl_roundedInverse_L506 k n x8.1 x8.2.1 x8.2.2.1 x8.2.2.2.1 x8.2.2.2.2.1 x8.2.2.2.2.2.1 x8.2.2.2.2.2.2.1
def impl_roundedInverse_ps : List PE := [⟨0, 0, .val ty_3 false, false⟩, ⟨1, 16, .val ty_0 false, false⟩]
noncomputable def impl_roundedInverse_F (k : Nat) : Fn ((List (List (Int × Int))) × Bool) := ⟨impl_roundedInverse_C k, rdRes Try.prog impl_roundedInverse_ps [(ty_3, false), (.bool, false)] Try.f82.results.toList .ret, fun p => bif Nat.beq p 129638 then some (.loop impl_roundedInverse_i129638 impl_roundedInverse_o129638 2 208 (impl_roundedInverse_f129638 k k)) else bif Nat.beq p 506 then some (.loop impl_roundedInverse_i506 impl_roundedInverse_o506 0 144 (impl_roundedInverse_f506 k k)) else none, 0, []⟩
theorem impl_roundedInverse_eq (k : Nat) (x : PTe impl_roundedInverse_ps) : evFn (impl_roundedInverse_F k) (codeOf Try.f82) impl_roundedInverse_ps 32 x = impl_roundedInverse k x.1 x.2.1 := by kernel_rfl
theorem impl_roundedInverse_ls : loopsOf (codeOf Try.f82) 1 = [(506, loopB (codeOf Try.f82) 506), (129638, loopB (codeOf Try.f82) 129638)] := by kernel_rfl
theorem impl_roundedInverse_l129638 (k : Nat) : LoopOk (impl_roundedInverse_F k) (loopB (codeOf Try.f82) 129638) 129638 := LoopOk.mk (pin := impl_roundedInverse_i129638) (pout := impl_roundedInverse_o129638) (ex := 2) (nx := 208) (Lf := impl_roundedInverse_f129638 k) (k := k) (by kernel_rfl) (fun _ => rfl) (by intro n x; kernel_rfl)
theorem impl_roundedInverse_l506 (k : Nat) : LoopOk (impl_roundedInverse_F k) (loopB (codeOf Try.f82) 506) 506 := LoopOk.mk (pin := impl_roundedInverse_i506) (pout := impl_roundedInverse_o506) (ex := 0) (nx := 144) (Lf := impl_roundedInverse_f506 k) (k := k) (by kernel_rfl) (fun _ => rfl) (by intro n x; kernel_rfl)
theorem impl_roundedInverse_K (k : Nat) : Contract Try.prog 82 (impl_roundedInverse_V k) :=
  contract (C := impl_roundedInverse_C k) (F := impl_roundedInverse_F k) (fn := Try.f82) (c := codeOf Try.f82) (ps := impl_roundedInverse_ps) (rs := [(ty_3, false), (.bool, false)]) (nx := 32) ⟨tyOf_ok tys_ok, gOf_ok ⟨impl_reckoner_determinant_K k, impl_adjoint_K k, impl_quotientDown_K k, impl_reckoner_keep_K, trivial⟩⟩ rfl (by kernel_rfl) (by kernel_rfl) (by kernel_rfl) (by kernel_rfl) (by kernel_rfl) (by kernel_rfl) rfl (by kernel_rfl) (by kernel_rfl) (AnnOk_list [(506, loopB (codeOf Try.f82) 506), (129638, loopB (codeOf Try.f82) 129638)] impl_roundedInverse_ls ⟨impl_roundedInverse_l506 k, impl_roundedInverse_l129638 k, trivial⟩) mix_ok (impl_roundedInverse_eq k)

noncomputable def impl_RoundedInverse_V (k : Nat) : Variant := ⟨[.val ty_3 false, .val ty_0 false], [(ty_3, false), (.bool, false)], fun x => impl_RoundedInverse k x.1 x.2.1⟩
noncomputable def impl_RoundedInverse_C (k : Nat) : Cfg := ⟨Try.prog, tyOf tys, 19, gOf [(80, [], impl_isTable_V k), (81, [], impl_isPlaces_V), (82, [], impl_roundedInverse_V k)], false, [], []⟩
def impl_RoundedInverse_ps : List PE := [⟨0, 0, .val ty_3 false, false⟩, ⟨1, 16, .val ty_0 false, false⟩]
noncomputable def impl_RoundedInverse_F (k : Nat) : Fn ((List (List (Int × Int))) × Bool) := ⟨impl_RoundedInverse_C k, rdRes Try.prog impl_RoundedInverse_ps [(ty_3, false), (.bool, false)] Try.f30.results.toList .ret, fun p => none, 0, []⟩
theorem impl_RoundedInverse_eq (k : Nat) (x : PTe impl_RoundedInverse_ps) : evFn (impl_RoundedInverse_F k) (codeOf Try.f30) impl_RoundedInverse_ps 32 x = impl_RoundedInverse k x.1 x.2.1 := by kernel_rfl
theorem impl_RoundedInverse_K (k : Nat) : Contract Try.prog 30 (impl_RoundedInverse_V k) :=
  contract (C := impl_RoundedInverse_C k) (F := impl_RoundedInverse_F k) (fn := Try.f30) (c := codeOf Try.f30) (ps := impl_RoundedInverse_ps) (rs := [(ty_3, false), (.bool, false)]) (nx := 32) ⟨tyOf_ok tys_ok, gOf_ok ⟨impl_isTable_K k, impl_isPlaces_K, impl_roundedInverse_K k, trivial⟩⟩ rfl (by kernel_rfl) (by kernel_rfl) (by kernel_rfl) (by kernel_rfl) (by kernel_rfl) (by kernel_rfl) rfl (by kernel_rfl) (by kernel_rfl) (AnnOk_list [] (by kernel_rfl) trivial) mix_ok (impl_RoundedInverse_eq k)

noncomputable def laws_eqDyadic_V : Variant := ⟨[.val ty_1 true, .val ty_1 true], [(.bool, false)], fun x => laws_eqDyadic x.1 x.2.1⟩
noncomputable def laws_eqDyadic_C : Cfg := ⟨Try.prog, tyOf tys, 15, gOf [], false, [], []⟩
def laws_eqDyadic_ps : List PE := [⟨0, 0, .val ty_1 true, false⟩, ⟨1, 16, .val ty_1 true, false⟩]
noncomputable def laws_eqDyadic_F : Fn (Bool) := ⟨laws_eqDyadic_C, rdRes Try.prog laws_eqDyadic_ps [(.bool, false)] Try.f129.results.toList .ret, fun p => none, 0, []⟩
theorem laws_eqDyadic_eq (x : PTe laws_eqDyadic_ps) : evFn (laws_eqDyadic_F) (codeOf Try.f129) laws_eqDyadic_ps 32 x = laws_eqDyadic x.1 x.2.1 := by kernel_rfl
theorem laws_eqDyadic_K : Contract Try.prog 129 (laws_eqDyadic_V) :=
  contract (C := laws_eqDyadic_C) (F := laws_eqDyadic_F) (fn := Try.f129) (c := codeOf Try.f129) (ps := laws_eqDyadic_ps) (rs := [(.bool, false)]) (nx := 32) ⟨tyOf_ok tys_ok, gOf_ok trivial⟩ rfl (by kernel_rfl) (by kernel_rfl) (by kernel_rfl) (by kernel_rfl) (by kernel_rfl) (by kernel_rfl) rfl (by kernel_rfl) (by kernel_rfl) (AnnOk_list [] (by kernel_rfl) trivial) mix_ok (laws_eqDyadic_eq)

noncomputable def laws_eqDyadicS_V (k : Nat) : Variant := ⟨[.val ty_2 false, .val ty_2 false], [(.bool, false)], fun x => laws_eqDyadicS k x.1 x.2.1⟩
noncomputable def laws_eqDyadicS_C (k : Nat) : Cfg := ⟨Try.prog, tyOf tys, 27, gOf [(129, [], laws_eqDyadic_V)], false, [], []⟩
def laws_eqDyadicS_i58 : List PE := [⟨0, 32, .val ty_2 false, false⟩, ⟨1, 48, .val ty_2 false, false⟩, ⟨5, 64, .val ty_0 false, false⟩]
def laws_eqDyadicS_o58 : List PE := []
noncomputable def laws_eqDyadicS_f58 (k : Nat) (n : Nat) (x2 : PTe laws_eqDyadicS_i58) : Option ((Bool) ⊕ PTe laws_eqDyadicS_o58) := laws_eqDyadicS_L58 k n x2.1 x2.2.1 x2.2.2.1
def laws_eqDyadicS_ps : List PE := [⟨0, 0, .val ty_2 false, false⟩, ⟨1, 16, .val ty_2 false, false⟩]
noncomputable def laws_eqDyadicS_F (k : Nat) : Fn (Bool) := ⟨laws_eqDyadicS_C k, rdRes Try.prog laws_eqDyadicS_ps [(.bool, false)] Try.f76.results.toList .ret, fun p => bif Nat.beq p 58 then some (.loop laws_eqDyadicS_i58 laws_eqDyadicS_o58 0 80 (laws_eqDyadicS_f58 k k)) else none, 0, []⟩
theorem laws_eqDyadicS_eq (k : Nat) (x : PTe laws_eqDyadicS_ps) : evFn (laws_eqDyadicS_F k) (codeOf Try.f76) laws_eqDyadicS_ps 32 x = laws_eqDyadicS k x.1 x.2.1 := by kernel_rfl
theorem laws_eqDyadicS_ls : loopsOf (codeOf Try.f76) 1 = [(58, loopB (codeOf Try.f76) 58)] := by kernel_rfl
theorem laws_eqDyadicS_l58 (k : Nat) : LoopOk (laws_eqDyadicS_F k) (loopB (codeOf Try.f76) 58) 58 := LoopOk.mk (pin := laws_eqDyadicS_i58) (pout := laws_eqDyadicS_o58) (ex := 0) (nx := 80) (Lf := laws_eqDyadicS_f58 k) (k := k) (by kernel_rfl) (fun _ => rfl) (by intro n x; kernel_rfl)
theorem laws_eqDyadicS_K (k : Nat) : Contract Try.prog 76 (laws_eqDyadicS_V k) :=
  contract (C := laws_eqDyadicS_C k) (F := laws_eqDyadicS_F k) (fn := Try.f76) (c := codeOf Try.f76) (ps := laws_eqDyadicS_ps) (rs := [(.bool, false)]) (nx := 32) ⟨tyOf_ok tys_ok, gOf_ok ⟨laws_eqDyadic_K, trivial⟩⟩ rfl (by kernel_rfl) (by kernel_rfl) (by kernel_rfl) (by kernel_rfl) (by kernel_rfl) (by kernel_rfl) rfl (by kernel_rfl) (by kernel_rfl) (AnnOk_list [(58, loopB (codeOf Try.f76) 58)] laws_eqDyadicS_ls ⟨laws_eqDyadicS_l58 k, trivial⟩) mix_ok (laws_eqDyadicS_eq k)

noncomputable def laws_eqDyadicSS_V (k : Nat) : Variant := ⟨[.val ty_3 false, .val ty_3 false], [(.bool, false)], fun x => laws_eqDyadicSS k x.1 x.2.1⟩
noncomputable def laws_eqDyadicSS_C (k : Nat) : Cfg := ⟨Try.prog, tyOf tys, 27, gOf [(76, [], laws_eqDyadicS_V k)], false, [], []⟩
def laws_eqDyadicSS_i58 : List PE := [⟨0, 32, .val ty_3 false, false⟩, ⟨1, 48, .val ty_3 false, false⟩, ⟨5, 64, .val ty_0 false, false⟩]
def laws_eqDyadicSS_o58 : List PE := []
noncomputable def laws_eqDyadicSS_f58 (k : Nat) (n : Nat) (x2 : PTe laws_eqDyadicSS_i58) : Option ((Bool) ⊕ PTe laws_eqDyadicSS_o58) := laws_eqDyadicSS_L58 k n x2.1 x2.2.1 x2.2.2.1
def laws_eqDyadicSS_ps : List PE := [⟨0, 0, .val ty_3 false, false⟩, ⟨1, 16, .val ty_3 false, false⟩]
noncomputable def laws_eqDyadicSS_F (k : Nat) : Fn (Bool) := ⟨laws_eqDyadicSS_C k, rdRes Try.prog laws_eqDyadicSS_ps [(.bool, false)] Try.f31.results.toList .ret, fun p => bif Nat.beq p 58 then some (.loop laws_eqDyadicSS_i58 laws_eqDyadicSS_o58 0 80 (laws_eqDyadicSS_f58 k k)) else none, 0, []⟩
theorem laws_eqDyadicSS_eq (k : Nat) (x : PTe laws_eqDyadicSS_ps) : evFn (laws_eqDyadicSS_F k) (codeOf Try.f31) laws_eqDyadicSS_ps 32 x = laws_eqDyadicSS k x.1 x.2.1 := by kernel_rfl
theorem laws_eqDyadicSS_ls : loopsOf (codeOf Try.f31) 1 = [(58, loopB (codeOf Try.f31) 58)] := by kernel_rfl
theorem laws_eqDyadicSS_l58 (k : Nat) : LoopOk (laws_eqDyadicSS_F k) (loopB (codeOf Try.f31) 58) 58 := LoopOk.mk (pin := laws_eqDyadicSS_i58) (pout := laws_eqDyadicSS_o58) (ex := 0) (nx := 80) (Lf := laws_eqDyadicSS_f58 k) (k := k) (by kernel_rfl) (fun _ => rfl) (by intro n x; kernel_rfl)
theorem laws_eqDyadicSS_K (k : Nat) : Contract Try.prog 31 (laws_eqDyadicSS_V k) :=
  contract (C := laws_eqDyadicSS_C k) (F := laws_eqDyadicSS_F k) (fn := Try.f31) (c := codeOf Try.f31) (ps := laws_eqDyadicSS_ps) (rs := [(.bool, false)]) (nx := 32) ⟨tyOf_ok tys_ok, gOf_ok ⟨laws_eqDyadicS_K k, trivial⟩⟩ rfl (by kernel_rfl) (by kernel_rfl) (by kernel_rfl) (by kernel_rfl) (by kernel_rfl) (by kernel_rfl) rfl (by kernel_rfl) (by kernel_rfl) (AnnOk_list [(58, loopB (codeOf Try.f31) 58)] laws_eqDyadicSS_ls ⟨laws_eqDyadicSS_l58 k, trivial⟩) mix_ok (laws_eqDyadicSS_eq k)

noncomputable def laws_intactDyadicS_V (k : Nat) : Variant := ⟨[.val ty_4 false, .val ty_4 false], [(.bool, false)], fun x => laws_intactDyadicS k x.1 x.2.1⟩
noncomputable def laws_intactDyadicS_C (k : Nat) : Cfg := ⟨Try.prog, tyOf tys, 26, gOf [(53, [], laws_roomBehind_V), (76, [], laws_eqDyadicS_V k)], false, [], []⟩
def laws_intactDyadicS_ps : List PE := [⟨0, 0, .val ty_4 false, false⟩, ⟨1, 16, .val ty_4 false, false⟩]
noncomputable def laws_intactDyadicS_F (k : Nat) : Fn (Bool) := ⟨laws_intactDyadicS_C k, rdRes Try.prog laws_intactDyadicS_ps [(.bool, false)] Try.f26.results.toList .ret, fun p => none, 0, []⟩
theorem laws_intactDyadicS_eq (k : Nat) (x : PTe laws_intactDyadicS_ps) : evFn (laws_intactDyadicS_F k) (codeOf Try.f26) laws_intactDyadicS_ps 32 x = laws_intactDyadicS k x.1 x.2.1 := by kernel_rfl
theorem laws_intactDyadicS_K (k : Nat) : Contract Try.prog 26 (laws_intactDyadicS_V k) :=
  contract (C := laws_intactDyadicS_C k) (F := laws_intactDyadicS_F k) (fn := Try.f26) (c := codeOf Try.f26) (ps := laws_intactDyadicS_ps) (rs := [(.bool, false)]) (nx := 32) ⟨tyOf_ok tys_ok, gOf_ok ⟨laws_roomBehind_K, laws_eqDyadicS_K k, trivial⟩⟩ rfl (by kernel_rfl) (by kernel_rfl) (by kernel_rfl) (by kernel_rfl) (by kernel_rfl) (by kernel_rfl) rfl (by kernel_rfl) (by kernel_rfl) (AnnOk_list [] (by kernel_rfl) trivial) mix_ok (laws_intactDyadicS_eq k)

noncomputable def laws_intactDyadicSS_V (k : Nat) : Variant := ⟨[.val ty_9 false, .val ty_9 false], [(.bool, false)], fun x => laws_intactDyadicSS k x.1 x.2.1⟩
noncomputable def laws_intactDyadicSS_C (k : Nat) : Cfg := ⟨Try.prog, tyOf tys, 45, gOf [(53, [], laws_roomBehind_V), (26, [], laws_intactDyadicS_V k), (31, [], laws_eqDyadicSS_V k)], false, [], []⟩
def laws_intactDyadicSS_i122 : List PE := [⟨0, 32, .val ty_9 false, false⟩, ⟨1, 48, .val ty_9 false, false⟩, ⟨5, 64, .val ty_0 false, false⟩, ⟨6, 80, .val ty_0 false, false⟩]
def laws_intactDyadicSS_o122 : List PE := [⟨0, 32, .val ty_9 false, false⟩, ⟨1, 48, .val ty_9 false, false⟩, ⟨5, 64, .val ty_0 false, false⟩]
noncomputable def laws_intactDyadicSS_f122 (k : Nat) (n : Nat) (x3 : PTe laws_intactDyadicSS_i122) : Option ((Bool) ⊕ PTe laws_intactDyadicSS_o122) := laws_intactDyadicSS_L122 k n x3.1 x3.2.1 x3.2.2.1 x3.2.2.2.1
def laws_intactDyadicSS_ps : List PE := [⟨0, 0, .val ty_9 false, false⟩, ⟨1, 16, .val ty_9 false, false⟩]
noncomputable def laws_intactDyadicSS_F (k : Nat) : Fn (Bool) := ⟨laws_intactDyadicSS_C k, rdRes Try.prog laws_intactDyadicSS_ps [(.bool, false)] Try.f32.results.toList .ret, fun p => bif Nat.beq p 122 then some (.loop laws_intactDyadicSS_i122 laws_intactDyadicSS_o122 0 96 (laws_intactDyadicSS_f122 k k)) else none, 0, []⟩
theorem laws_intactDyadicSS_eq (k : Nat) (x : PTe laws_intactDyadicSS_ps) : evFn (laws_intactDyadicSS_F k) (codeOf Try.f32) laws_intactDyadicSS_ps 32 x = laws_intactDyadicSS k x.1 x.2.1 := by kernel_rfl
theorem laws_intactDyadicSS_ls : loopsOf (codeOf Try.f32) 1 = [(122, loopB (codeOf Try.f32) 122)] := by kernel_rfl
theorem laws_intactDyadicSS_l122 (k : Nat) : LoopOk (laws_intactDyadicSS_F k) (loopB (codeOf Try.f32) 122) 122 := LoopOk.mk (pin := laws_intactDyadicSS_i122) (pout := laws_intactDyadicSS_o122) (ex := 0) (nx := 96) (Lf := laws_intactDyadicSS_f122 k) (k := k) (by kernel_rfl) (fun _ => rfl) (by intro n x; kernel_rfl)
theorem laws_intactDyadicSS_K (k : Nat) : Contract Try.prog 32 (laws_intactDyadicSS_V k) :=
  contract (C := laws_intactDyadicSS_C k) (F := laws_intactDyadicSS_F k) (fn := Try.f32) (c := codeOf Try.f32) (ps := laws_intactDyadicSS_ps) (rs := [(.bool, false)]) (nx := 32) ⟨tyOf_ok tys_ok, gOf_ok ⟨laws_roomBehind_K, laws_intactDyadicS_K k, laws_eqDyadicSS_K k, trivial⟩⟩ rfl (by kernel_rfl) (by kernel_rfl) (by kernel_rfl) (by kernel_rfl) (by kernel_rfl) (by kernel_rfl) rfl (by kernel_rfl) (by kernel_rfl) (AnnOk_list [(122, loopB (codeOf Try.f32) 122)] laws_intactDyadicSS_ls ⟨laws_intactDyadicSS_l122 k, trivial⟩) mix_ok (laws_intactDyadicSS_eq k)

noncomputable def laws_markDyadicS_V (k : Nat) : Variant := ⟨[.own ty_1, .val ty_0 false], [(ty_0, false)], fun x => laws_markDyadicS k x.1 x.2.1⟩
noncomputable def laws_markDyadicS_C (k : Nat) : Cfg := ⟨Try.prog, tyOf tys, 27, gOf [], false, [], []⟩
def laws_markDyadicS_i26 : List PE := [⟨0, 0, .own ty_1, true⟩, ⟨1, 32, .val ty_0 false, false⟩, ⟨5, 48, .val ty_0 false, false⟩]
def laws_markDyadicS_o26 : List PE := [⟨1, 32, .val ty_0 false, false⟩, ⟨0, 0, .own ty_1, true⟩]
noncomputable def laws_markDyadicS_f26 (k : Nat) (n : Nat) (x1 : PTe laws_markDyadicS_i26) : Option ((Int × List (Int × Int)) ⊕ PTe laws_markDyadicS_o26) := laws_markDyadicS_L26 k n x1.1 x1.2.1 x1.2.2.1
def laws_markDyadicS_ps : List PE := [⟨0, 0, .own ty_1, true⟩, ⟨1, 16, .val ty_0 false, false⟩]
noncomputable def laws_markDyadicS_F (k : Nat) : Fn (Int × List (Int × Int)) := ⟨laws_markDyadicS_C k, rdRes Try.prog laws_markDyadicS_ps [(ty_0, false)] Try.f83.results.toList .ret, fun p => bif Nat.beq p 26 then some (.loop laws_markDyadicS_i26 laws_markDyadicS_o26 0 64 (laws_markDyadicS_f26 k k)) else none, 0, [0]⟩
theorem laws_markDyadicS_eq (k : Nat) (x : PTe laws_markDyadicS_ps) : evFn (laws_markDyadicS_F k) (codeOf Try.f83) laws_markDyadicS_ps 32 x = laws_markDyadicS k x.1 x.2.1 := by kernel_rfl
theorem laws_markDyadicS_ls : loopsOf (codeOf Try.f83) 1 = [(26, loopB (codeOf Try.f83) 26)] := by kernel_rfl
theorem laws_markDyadicS_l26 (k : Nat) : LoopOk (laws_markDyadicS_F k) (loopB (codeOf Try.f83) 26) 26 := LoopOk.mk (pin := laws_markDyadicS_i26) (pout := laws_markDyadicS_o26) (ex := 0) (nx := 64) (Lf := laws_markDyadicS_f26 k) (k := k) (by kernel_rfl) (fun _ => rfl) (by intro n x; kernel_rfl)
theorem laws_markDyadicS_K (k : Nat) : Contract Try.prog 83 (laws_markDyadicS_V k) :=
  contract (C := laws_markDyadicS_C k) (F := laws_markDyadicS_F k) (fn := Try.f83) (c := codeOf Try.f83) (ps := laws_markDyadicS_ps) (rs := [(ty_0, false)]) (nx := 32) ⟨tyOf_ok tys_ok, gOf_ok trivial⟩ rfl (by kernel_rfl) (by kernel_rfl) (by kernel_rfl) (by kernel_rfl) (by kernel_rfl) (by kernel_rfl) rfl (by kernel_rfl) (by kernel_rfl) (AnnOk_list [(26, loopB (codeOf Try.f83) 26)] laws_markDyadicS_ls ⟨laws_markDyadicS_l26 k, trivial⟩) mix_ok (laws_markDyadicS_eq k)

noncomputable def laws_markDyadicSS_V (k : Nat) : Variant := ⟨[.own ty_2, .val ty_0 false], [(ty_0, false)], fun x => laws_markDyadicSS k x.1 x.2.1⟩
noncomputable def laws_markDyadicSS_C (k : Nat) : Cfg := ⟨Try.prog, tyOf tys, 19, gOf [(83, [], laws_markDyadicS_V k)], false, [], []⟩
def laws_markDyadicSS_i26 : List PE := [⟨0, 0, .own ty_2, true⟩, ⟨1, 32, .val ty_0 false, false⟩, ⟨5, 48, .val ty_0 false, false⟩]
def laws_markDyadicSS_o26 : List PE := [⟨1, 32, .val ty_0 false, false⟩, ⟨0, 0, .own ty_2, true⟩]
noncomputable def laws_markDyadicSS_f26 (k : Nat) (n : Nat) (x2 : PTe laws_markDyadicSS_i26) : Option ((Int × List (List (Int × Int))) ⊕ PTe laws_markDyadicSS_o26) := laws_markDyadicSS_L26 k n x2.1 x2.2.1 x2.2.2.1
def laws_markDyadicSS_ps : List PE := [⟨0, 0, .own ty_2, true⟩, ⟨1, 16, .val ty_0 false, false⟩]
noncomputable def laws_markDyadicSS_F (k : Nat) : Fn (Int × List (List (Int × Int))) := ⟨laws_markDyadicSS_C k, rdRes Try.prog laws_markDyadicSS_ps [(ty_0, false)] Try.f33.results.toList .ret, fun p => bif Nat.beq p 26 then some (.loop laws_markDyadicSS_i26 laws_markDyadicSS_o26 0 64 (laws_markDyadicSS_f26 k k)) else none, 0, [0]⟩
theorem laws_markDyadicSS_eq (k : Nat) (x : PTe laws_markDyadicSS_ps) : evFn (laws_markDyadicSS_F k) (codeOf Try.f33) laws_markDyadicSS_ps 32 x = laws_markDyadicSS k x.1 x.2.1 := by kernel_rfl
theorem laws_markDyadicSS_ls : loopsOf (codeOf Try.f33) 1 = [(26, loopB (codeOf Try.f33) 26)] := by kernel_rfl
theorem laws_markDyadicSS_l26 (k : Nat) : LoopOk (laws_markDyadicSS_F k) (loopB (codeOf Try.f33) 26) 26 := LoopOk.mk (pin := laws_markDyadicSS_i26) (pout := laws_markDyadicSS_o26) (ex := 0) (nx := 64) (Lf := laws_markDyadicSS_f26 k) (k := k) (by kernel_rfl) (fun _ => rfl) (by intro n x; kernel_rfl)
theorem laws_markDyadicSS_K (k : Nat) : Contract Try.prog 33 (laws_markDyadicSS_V k) :=
  contract (C := laws_markDyadicSS_C k) (F := laws_markDyadicSS_F k) (fn := Try.f33) (c := codeOf Try.f33) (ps := laws_markDyadicSS_ps) (rs := [(ty_0, false)]) (nx := 32) ⟨tyOf_ok tys_ok, gOf_ok ⟨laws_markDyadicS_K k, trivial⟩⟩ rfl (by kernel_rfl) (by kernel_rfl) (by kernel_rfl) (by kernel_rfl) (by kernel_rfl) (by kernel_rfl) rfl (by kernel_rfl) (by kernel_rfl) (AnnOk_list [(26, loopB (codeOf Try.f33) 26)] laws_markDyadicSS_ls ⟨laws_markDyadicSS_l26 k, trivial⟩) mix_ok (laws_markDyadicSS_eq k)

noncomputable def laws_heldDyadicS_V (k : Nat) : Variant := ⟨[.val ty_2 false, .val ty_0 false], [(ty_0, false)], fun x => laws_heldDyadicS k x.1 x.2.1⟩
noncomputable def laws_heldDyadicS_C (k : Nat) : Cfg := ⟨Try.prog, tyOf tys, 31, gOf [], false, [], []⟩
def laws_heldDyadicS_i26 : List PE := [⟨0, 32, .val ty_2 false, false⟩, ⟨1, 48, .val ty_0 false, false⟩, ⟨5, 64, .val ty_0 false, false⟩]
def laws_heldDyadicS_o26 : List PE := [⟨1, 32, .val ty_0 false, false⟩]
noncomputable def laws_heldDyadicS_f26 (k : Nat) (n : Nat) (x1 : PTe laws_heldDyadicS_i26) : Option ((Int) ⊕ PTe laws_heldDyadicS_o26) := laws_heldDyadicS_L26 k n x1.1 x1.2.1 x1.2.2.1
def laws_heldDyadicS_ps : List PE := [⟨0, 0, .val ty_2 false, false⟩, ⟨1, 16, .val ty_0 false, false⟩]
noncomputable def laws_heldDyadicS_F (k : Nat) : Fn (Int) := ⟨laws_heldDyadicS_C k, rdRes Try.prog laws_heldDyadicS_ps [(ty_0, false)] Try.f84.results.toList .ret, fun p => bif Nat.beq p 26 then some (.loop laws_heldDyadicS_i26 laws_heldDyadicS_o26 0 80 (laws_heldDyadicS_f26 k k)) else none, 0, []⟩
theorem laws_heldDyadicS_eq (k : Nat) (x : PTe laws_heldDyadicS_ps) : evFn (laws_heldDyadicS_F k) (codeOf Try.f84) laws_heldDyadicS_ps 32 x = laws_heldDyadicS k x.1 x.2.1 := by kernel_rfl
theorem laws_heldDyadicS_ls : loopsOf (codeOf Try.f84) 1 = [(26, loopB (codeOf Try.f84) 26)] := by kernel_rfl
theorem laws_heldDyadicS_l26 (k : Nat) : LoopOk (laws_heldDyadicS_F k) (loopB (codeOf Try.f84) 26) 26 := LoopOk.mk (pin := laws_heldDyadicS_i26) (pout := laws_heldDyadicS_o26) (ex := 0) (nx := 80) (Lf := laws_heldDyadicS_f26 k) (k := k) (by kernel_rfl) (fun _ => rfl) (by intro n x; kernel_rfl)
theorem laws_heldDyadicS_K (k : Nat) : Contract Try.prog 84 (laws_heldDyadicS_V k) :=
  contract (C := laws_heldDyadicS_C k) (F := laws_heldDyadicS_F k) (fn := Try.f84) (c := codeOf Try.f84) (ps := laws_heldDyadicS_ps) (rs := [(ty_0, false)]) (nx := 32) ⟨tyOf_ok tys_ok, gOf_ok trivial⟩ rfl (by kernel_rfl) (by kernel_rfl) (by kernel_rfl) (by kernel_rfl) (by kernel_rfl) (by kernel_rfl) rfl (by kernel_rfl) (by kernel_rfl) (AnnOk_list [(26, loopB (codeOf Try.f84) 26)] laws_heldDyadicS_ls ⟨laws_heldDyadicS_l26 k, trivial⟩) mix_ok (laws_heldDyadicS_eq k)

noncomputable def laws_heldDyadicSS_V (k : Nat) : Variant := ⟨[.val ty_3 false, .val ty_0 false], [(ty_0, false)], fun x => laws_heldDyadicSS k x.1 x.2.1⟩
noncomputable def laws_heldDyadicSS_C (k : Nat) : Cfg := ⟨Try.prog, tyOf tys, 21, gOf [(84, [], laws_heldDyadicS_V k)], false, [], []⟩
def laws_heldDyadicSS_i26 : List PE := [⟨0, 32, .val ty_3 false, false⟩, ⟨1, 48, .val ty_0 false, false⟩, ⟨5, 64, .val ty_0 false, false⟩]
def laws_heldDyadicSS_o26 : List PE := [⟨1, 32, .val ty_0 false, false⟩]
noncomputable def laws_heldDyadicSS_f26 (k : Nat) (n : Nat) (x2 : PTe laws_heldDyadicSS_i26) : Option ((Int) ⊕ PTe laws_heldDyadicSS_o26) := laws_heldDyadicSS_L26 k n x2.1 x2.2.1 x2.2.2.1
def laws_heldDyadicSS_ps : List PE := [⟨0, 0, .val ty_3 false, false⟩, ⟨1, 16, .val ty_0 false, false⟩]
noncomputable def laws_heldDyadicSS_F (k : Nat) : Fn (Int) := ⟨laws_heldDyadicSS_C k, rdRes Try.prog laws_heldDyadicSS_ps [(ty_0, false)] Try.f34.results.toList .ret, fun p => bif Nat.beq p 26 then some (.loop laws_heldDyadicSS_i26 laws_heldDyadicSS_o26 0 80 (laws_heldDyadicSS_f26 k k)) else none, 0, []⟩
theorem laws_heldDyadicSS_eq (k : Nat) (x : PTe laws_heldDyadicSS_ps) : evFn (laws_heldDyadicSS_F k) (codeOf Try.f34) laws_heldDyadicSS_ps 32 x = laws_heldDyadicSS k x.1 x.2.1 := by kernel_rfl
theorem laws_heldDyadicSS_ls : loopsOf (codeOf Try.f34) 1 = [(26, loopB (codeOf Try.f34) 26)] := by kernel_rfl
theorem laws_heldDyadicSS_l26 (k : Nat) : LoopOk (laws_heldDyadicSS_F k) (loopB (codeOf Try.f34) 26) 26 := LoopOk.mk (pin := laws_heldDyadicSS_i26) (pout := laws_heldDyadicSS_o26) (ex := 0) (nx := 80) (Lf := laws_heldDyadicSS_f26 k) (k := k) (by kernel_rfl) (fun _ => rfl) (by intro n x; kernel_rfl)
theorem laws_heldDyadicSS_K (k : Nat) : Contract Try.prog 34 (laws_heldDyadicSS_V k) :=
  contract (C := laws_heldDyadicSS_C k) (F := laws_heldDyadicSS_F k) (fn := Try.f34) (c := codeOf Try.f34) (ps := laws_heldDyadicSS_ps) (rs := [(ty_0, false)]) (nx := 32) ⟨tyOf_ok tys_ok, gOf_ok ⟨laws_heldDyadicS_K k, trivial⟩⟩ rfl (by kernel_rfl) (by kernel_rfl) (by kernel_rfl) (by kernel_rfl) (by kernel_rfl) (by kernel_rfl) rfl (by kernel_rfl) (by kernel_rfl) (AnnOk_list [(26, loopB (codeOf Try.f34) 26)] laws_heldDyadicSS_ls ⟨laws_heldDyadicSS_l26 k, trivial⟩) mix_ok (laws_heldDyadicSS_eq k)

noncomputable def laws_FnExactRoundedInverse_V (k : Nat) : Variant := ⟨[.val ty_3 false, .val ty_0 false], [(.bool, false)], fun x => laws_FnExactRoundedInverse k x.1 x.2.1⟩
noncomputable def laws_FnExactRoundedInverse_C (k : Nat) : Cfg := ⟨Try.prog, tyOf tys, 101, gOf [(27, [], laws_szDyadicSS_V k), (29, [], laws_toDyadicSS_V k), (28, [], spec_RoundedInverse_V k), (30, [], impl_RoundedInverse_V k), (31, [], laws_eqDyadicSS_V k), (32, [], laws_intactDyadicSS_V k), (33, [], laws_markDyadicSS_V k), (34, [], laws_heldDyadicSS_V k)], false, [], []⟩
def laws_FnExactRoundedInverse_ps : List PE := [⟨0, 0, .val ty_3 false, false⟩, ⟨1, 16, .val ty_0 false, false⟩]
noncomputable def laws_FnExactRoundedInverse_F (k : Nat) : Fn (Bool) := ⟨laws_FnExactRoundedInverse_C k, rdRes Try.prog laws_FnExactRoundedInverse_ps [(.bool, false)] Try.f5.results.toList .ret, fun p => none, 0, []⟩
theorem laws_FnExactRoundedInverse_eq (k : Nat) (x : PTe laws_FnExactRoundedInverse_ps) : evFn (laws_FnExactRoundedInverse_F k) (codeOf Try.f5) laws_FnExactRoundedInverse_ps 32 x = laws_FnExactRoundedInverse k x.1 x.2.1 := by kernel_rfl
theorem laws_FnExactRoundedInverse_K (k : Nat) : Contract Try.prog 5 (laws_FnExactRoundedInverse_V k) :=
  contract (C := laws_FnExactRoundedInverse_C k) (F := laws_FnExactRoundedInverse_F k) (fn := Try.f5) (c := codeOf Try.f5) (ps := laws_FnExactRoundedInverse_ps) (rs := [(.bool, false)]) (nx := 32) ⟨tyOf_ok tys_ok, gOf_ok ⟨laws_szDyadicSS_K k, laws_toDyadicSS_K k, spec_RoundedInverse_K k, impl_RoundedInverse_K k, laws_eqDyadicSS_K k, laws_intactDyadicSS_K k, laws_markDyadicSS_K k, laws_heldDyadicSS_K k, trivial⟩⟩ rfl (by kernel_rfl) (by kernel_rfl) (by kernel_rfl) (by kernel_rfl) (by kernel_rfl) (by kernel_rfl) rfl (by kernel_rfl) (by kernel_rfl) (AnnOk_list [] (by kernel_rfl) trivial) mix_ok (laws_FnExactRoundedInverse_eq k)
end Go.Ev.G
