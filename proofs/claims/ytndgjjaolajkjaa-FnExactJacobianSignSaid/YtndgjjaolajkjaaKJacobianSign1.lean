/- The contracts of the functions behind FnExactJacobianSign: a call of each returns what its plain function computes; for all inputs within the sizes named. -/
import Derived.Test.YtndgjjaolajkjaaPJacobianSign1
import Derived.Test.YtndgjjaolajkjaaProg
set_option linter.unusedVariables false
namespace Go.Ev.G
open Go Go.Ev Go.Proofs
set_option maxRecDepth 100000
abbrev ty_0 : Ty := (.int .i64)

abbrev ty_1 : Ty := (.pair ty_0 ty_0)

abbrev ty_2 : Ty := (.pair ty_0 ty_1)

abbrev ty_3 : Ty := (.pair ty_0 ty_2)

abbrev ty_4 : Ty := (.sl ty_3)

abbrev ty_5 : Ty := (.sl ty_4)

abbrev ty_6 : Ty := (.rm ty_3)

abbrev ty_7 : Ty := (.sl ty_1)

abbrev ty_8 : Ty := (.sl ty_0)

abbrev ty_9 : Ty := (.pair ty_1 ty_1)

abbrev ty_10 : Ty := (.int .u64)

abbrev ty_11 : Ty := (.pair ty_10 ty_10)

abbrev ty_12 : Ty := (.pair .bool ty_11)

abbrev ty_13 : Ty := (.rm ty_6)

abbrev ty_14 : Ty := (.rm ty_1)

def tys : List (TypeId × Ty) := [(3, ty_0), (85, ty_3)]

theorem tys_ok : AllT Try.prog tys := ⟨⟨_, _, rfl, rfl, rfl, rfl⟩, ⟨_, _, rfl, rfl, rfl, rfl⟩, trivial⟩

def tysR : List (TypeId × Ty) := [(61, ty_6), (78, ty_1), (85, ty_3)]

theorem tysR_ok : AllT Try.prog tysR := ⟨⟨_, _, rfl, rfl, rfl, rfl⟩, ⟨_, _, rfl, rfl, rfl, rfl⟩, ⟨_, _, rfl, rfl, rfl, rfl⟩, trivial⟩

theorem mix_ok : Try.prog.follows .mixedOrders = true := by kernel_rfl

noncomputable def laws_szTermS_V : Variant := ⟨[.val ty_4 false, .val ty_0 false], [(ty_0, false)], fun x => laws_szTermS x.1 x.2.1⟩
noncomputable def laws_szTermS_C : Cfg := ⟨Try.prog, tyOf tys, 12, gOf [], false, [], []⟩
def laws_szTermS_ps : List PE := [⟨0, 0, .val ty_4 false, false⟩, ⟨1, 16, .val ty_0 false, false⟩]
noncomputable def laws_szTermS_F : Fn (Int) := ⟨laws_szTermS_C, rdRes Try.prog laws_szTermS_ps [(ty_0, false)] Try.f35.results.toList .ret, fun p => none, 0, []⟩
theorem laws_szTermS_eq (x : PTe laws_szTermS_ps) : evFn (laws_szTermS_F) (codeOf Try.f35) laws_szTermS_ps 32 x = laws_szTermS x.1 x.2.1 := by kernel_rfl
theorem laws_szTermS_K : Contract Try.prog 35 (laws_szTermS_V) :=
  contract (C := laws_szTermS_C) (F := laws_szTermS_F) (fn := Try.f35) (ps := laws_szTermS_ps) (rs := [(ty_0, false)]) (nx := 32) ⟨tyOf_ok tys_ok, gOf_ok trivial⟩ rfl (by kernel_rfl) (by kernel_rfl) (by kernel_rfl) (by kernel_rfl) (by kernel_rfl) (by kernel_rfl) rfl (by kernel_rfl) (by kernel_rfl) (AnnOk_list [] (by kernel_rfl) trivial) mix_ok (laws_szTermS_eq)

noncomputable def laws_szTermSS_V (k : Nat) : Variant := ⟨[.val ty_5 false, .val ty_0 false], [(ty_0, false)], fun x => laws_szTermSS k x.1 x.2.1⟩
noncomputable def laws_szTermSS_C (k : Nat) : Cfg := ⟨Try.prog, tyOf tys, 27, gOf [(35, [], laws_szTermS_V)], false, [], []⟩
def laws_szTermSS_i122 : List PE := [⟨0, 32, .val ty_5 false, false⟩, ⟨1, 48, .val ty_0 false, false⟩, ⟨5, 64, .val ty_0 false, false⟩]
def laws_szTermSS_o122 : List PE := [⟨1, 32, .val ty_0 false, false⟩]
noncomputable def laws_szTermSS_f122 (k : Nat) (n : Nat) (x2 : PTe laws_szTermSS_i122) : Option ((Int) ⊕ PTe laws_szTermSS_o122) := laws_szTermSS_L122 k n x2.1 x2.2.1 x2.2.2.1
def laws_szTermSS_ps : List PE := [⟨0, 0, .val ty_5 false, false⟩, ⟨1, 16, .val ty_0 false, false⟩]
noncomputable def laws_szTermSS_F (k : Nat) : Fn (Int) := ⟨laws_szTermSS_C k, rdRes Try.prog laws_szTermSS_ps [(ty_0, false)] Try.f9.results.toList .ret, fun p => bif Nat.beq p 122 then some (.loop laws_szTermSS_i122 laws_szTermSS_o122 0 80 (laws_szTermSS_f122 k k)) else none, 0, []⟩
theorem laws_szTermSS_eq (k : Nat) (x : PTe laws_szTermSS_ps) : evFn (laws_szTermSS_F k) (codeOf Try.f9) laws_szTermSS_ps 32 x = laws_szTermSS k x.1 x.2.1 := by kernel_rfl
theorem laws_szTermSS_ls : loopsOf (codeOf Try.f9) 1 = [(122, loopB (codeOf Try.f9) 122)] := by kernel_rfl
theorem laws_szTermSS_l122 (k : Nat) : LoopOk (laws_szTermSS_F k) (loopB (codeOf Try.f9) 122) 122 := LoopOk.mk (pin := laws_szTermSS_i122) (pout := laws_szTermSS_o122) (ex := 0) (nx := 80) (Lf := laws_szTermSS_f122 k) (k := k) (by kernel_rfl) (fun _ => rfl) (by intro n x; kernel_rfl)
theorem laws_szTermSS_K (k : Nat) : Contract Try.prog 9 (laws_szTermSS_V k) :=
  contract (C := laws_szTermSS_C k) (F := laws_szTermSS_F k) (fn := Try.f9) (ps := laws_szTermSS_ps) (rs := [(ty_0, false)]) (nx := 32) ⟨tyOf_ok tys_ok, gOf_ok ⟨laws_szTermS_K, trivial⟩⟩ rfl (by kernel_rfl) (by kernel_rfl) (by kernel_rfl) (by kernel_rfl) (by kernel_rfl) (by kernel_rfl) rfl (by kernel_rfl) (by kernel_rfl) (AnnOk_list [(122, loopB (codeOf Try.f9) 122)] laws_szTermSS_ls ⟨laws_szTermSS_l122 k, trivial⟩) mix_ok (laws_szTermSS_eq k)

noncomputable def laws_szDyadicS_V : Variant := ⟨[.val ty_7 false, .val ty_0 false], [(ty_0, false)], fun x => laws_szDyadicS x.1 x.2.1⟩
noncomputable def laws_szDyadicS_C : Cfg := ⟨Try.prog, tyOf tys, 12, gOf [], false, [], []⟩
def laws_szDyadicS_ps : List PE := [⟨0, 0, .val ty_7 false, false⟩, ⟨1, 16, .val ty_0 false, false⟩]
noncomputable def laws_szDyadicS_F : Fn (Int) := ⟨laws_szDyadicS_C, rdRes Try.prog laws_szDyadicS_ps [(ty_0, false)] Try.f22.results.toList .ret, fun p => none, 0, []⟩
theorem laws_szDyadicS_eq (x : PTe laws_szDyadicS_ps) : evFn (laws_szDyadicS_F) (codeOf Try.f22) laws_szDyadicS_ps 32 x = laws_szDyadicS x.1 x.2.1 := by kernel_rfl
theorem laws_szDyadicS_K : Contract Try.prog 22 (laws_szDyadicS_V) :=
  contract (C := laws_szDyadicS_C) (F := laws_szDyadicS_F) (fn := Try.f22) (ps := laws_szDyadicS_ps) (rs := [(ty_0, false)]) (nx := 32) ⟨tyOf_ok tys_ok, gOf_ok trivial⟩ rfl (by kernel_rfl) (by kernel_rfl) (by kernel_rfl) (by kernel_rfl) (by kernel_rfl) (by kernel_rfl) rfl (by kernel_rfl) (by kernel_rfl) (AnnOk_list [] (by kernel_rfl) trivial) mix_ok (laws_szDyadicS_eq)

noncomputable def laws_roomBehind_V : Variant := ⟨[.val ty_0 false], [(ty_0, false)], fun x => laws_roomBehind x.1⟩
noncomputable def laws_roomBehind_C : Cfg := ⟨Try.prog, tyOf tys, 10, gOf [], false, [], []⟩
def laws_roomBehind_ps : List PE := [⟨0, 0, .val ty_0 false, false⟩]
noncomputable def laws_roomBehind_F : Fn (Int) := ⟨laws_roomBehind_C, rdRes Try.prog laws_roomBehind_ps [(ty_0, false)] Try.f53.results.toList .ret, fun p => none, 0, []⟩
theorem laws_roomBehind_eq (x : PTe laws_roomBehind_ps) : evFn (laws_roomBehind_F) (codeOf Try.f53) laws_roomBehind_ps 16 x = laws_roomBehind x.1 := by kernel_rfl
theorem laws_roomBehind_K : Contract Try.prog 53 (laws_roomBehind_V) :=
  contract (C := laws_roomBehind_C) (F := laws_roomBehind_F) (fn := Try.f53) (ps := laws_roomBehind_ps) (rs := [(ty_0, false)]) (nx := 16) ⟨tyOf_ok tys_ok, gOf_ok trivial⟩ rfl (by kernel_rfl) (by kernel_rfl) (by kernel_rfl) (by kernel_rfl) (by kernel_rfl) (by kernel_rfl) rfl (by kernel_rfl) (by kernel_rfl) (AnnOk_list [] (by kernel_rfl) trivial) mix_ok (laws_roomBehind_eq)

noncomputable def laws_toTerm_V : Variant := ⟨[.val ty_3 true], [(ty_3, true)], fun x => laws_toTerm x.1⟩
noncomputable def laws_toTerm_C : Cfg := ⟨Try.prog, tyOf tysR, 17, gOf [], true, [], []⟩
def laws_toTerm_ps : List PE := [⟨0, 0, .val ty_3 true, false⟩]
noncomputable def laws_toTerm_F : Fn (Int × Int × Int × Int) := ⟨laws_toTerm_C, rdRes Try.prog laws_toTerm_ps [(ty_3, true)] Try.f87.results.toList .ret, fun p => none, 0, []⟩
theorem laws_toTerm_eq (x : PTe laws_toTerm_ps) : evFn (laws_toTerm_F) (codeOf Try.f87) laws_toTerm_ps 16 x = laws_toTerm x.1 := by kernel_rfl
theorem laws_toTerm_K : Contract Try.prog 87 (laws_toTerm_V) :=
  contract (C := laws_toTerm_C) (F := laws_toTerm_F) (fn := Try.f87) (ps := laws_toTerm_ps) (rs := [(ty_3, true)]) (nx := 16) ⟨tyOf_ok tysR_ok, gOf_ok trivial⟩ rfl (by kernel_rfl) (by kernel_rfl) (by kernel_rfl) (by kernel_rfl) (by kernel_rfl) (by kernel_rfl) rfl (by kernel_rfl) (by kernel_rfl) (AnnOk_list [] (by kernel_rfl) trivial) mix_ok (laws_toTerm_eq)

noncomputable def laws_fillerTerm_V : Variant := ⟨[], [(ty_3, true)], fun x => laws_fillerTerm⟩
noncomputable def laws_fillerTerm_C : Cfg := ⟨Try.prog, tyOf tys, 2, gOf [], false, [], []⟩
def laws_fillerTerm_ps : List PE := []
noncomputable def laws_fillerTerm_F : Fn (Int × Int × Int × Int) := ⟨laws_fillerTerm_C, rdRes Try.prog laws_fillerTerm_ps [(ty_3, true)] Try.f54.results.toList .ret, fun p => none, 0, []⟩
theorem laws_fillerTerm_eq (x : PTe laws_fillerTerm_ps) : evFn (laws_fillerTerm_F) (codeOf Try.f54) laws_fillerTerm_ps 0 x = laws_fillerTerm := by kernel_rfl
theorem laws_fillerTerm_K : Contract Try.prog 54 (laws_fillerTerm_V) :=
  contract (C := laws_fillerTerm_C) (F := laws_fillerTerm_F) (fn := Try.f54) (ps := laws_fillerTerm_ps) (rs := [(ty_3, true)]) (nx := 0) ⟨tyOf_ok tys_ok, gOf_ok trivial⟩ rfl (by kernel_rfl) (by kernel_rfl) (by kernel_rfl) (by kernel_rfl) (by kernel_rfl) (by kernel_rfl) rfl (by kernel_rfl) (by kernel_rfl) (AnnOk_list [] (by kernel_rfl) trivial) mix_ok (laws_fillerTerm_eq)

noncomputable def laws_toTermS_V (k : Nat) : Variant := ⟨[.val ty_4 false, .val .bool false], [(ty_6, false)], fun x => laws_toTermS k x.1 x.2.1⟩
noncomputable def laws_toTermS_C (k : Nat) : Cfg := ⟨Try.prog, tyOf tysR, 51, gOf [(53, [], laws_roomBehind_V), (87, [], laws_toTerm_V), (54, [], laws_fillerTerm_V)], true, [], []⟩
def laws_toTermS_i122 : List PE := [⟨0, 32, .val ty_4 false, false⟩, ⟨5, 48, .eat ty_3, false⟩, ⟨6, 64, .val ty_0 false, false⟩]
def laws_toTermS_o122 : List PE := [⟨0, 32, .val ty_4 false, false⟩, ⟨5, 48, .eat ty_3, false⟩]
noncomputable def laws_toTermS_f122 (k : Nat) (n : Nat) (x4 : PTe laws_toTermS_i122) : Option ((List (Int × Int × Int × Int) × List (Int × Int × Int × Int)) ⊕ PTe laws_toTermS_o122) := laws_toTermS_L122 k n x4.1 x4.2.1 x4.2.2.1
def laws_toTermS_i250 : List PE := [⟨0, 32, .val ty_4 false, false⟩, ⟨5, 48, .eat ty_3, false⟩, ⟨7, 64, .val ty_0 false, false⟩]
def laws_toTermS_o250 : List PE := [⟨0, 32, .val ty_4 false, false⟩, ⟨5, 48, .eat ty_3, false⟩]
noncomputable def laws_toTermS_f250 (k : Nat) (n : Nat) (x8 : PTe laws_toTermS_i250) : Option ((List (Int × Int × Int × Int) × List (Int × Int × Int × Int)) ⊕ PTe laws_toTermS_o250) := laws_toTermS_L250 k n x8.1 x8.2.1 x8.2.2.1
def laws_toTermS_ps : List PE := [⟨0, 0, .val ty_4 false, false⟩, ⟨1, 16, .val .bool false, false⟩]
noncomputable def laws_toTermS_F (k : Nat) : Fn (List (Int × Int × Int × Int) × List (Int × Int × Int × Int)) := ⟨laws_toTermS_C k, rdRes Try.prog laws_toTermS_ps [(ty_6, false)] Try.f37.results.toList .ret, fun p => bif Nat.beq p 122 then some (.loop laws_toTermS_i122 laws_toTermS_o122 0 80 (laws_toTermS_f122 k k)) else bif Nat.beq p 250 then some (.loop laws_toTermS_i250 laws_toTermS_o250 2 80 (laws_toTermS_f250 k k)) else bif Nat.beq p 6 then some (.cut [⟨0, 32, .val ty_4 false, false⟩] 48) else none, 0, []⟩
theorem laws_toTermS_eq (k : Nat) (x : PTe laws_toTermS_ps) : evFn (laws_toTermS_F k) (codeOf Try.f37) laws_toTermS_ps 32 x = laws_toTermS k x.1 x.2.1 := by kernel_rfl
theorem laws_toTermS_ls : loopsOf (codeOf Try.f37) 1 = [(122, loopB (codeOf Try.f37) 122), (250, loopB (codeOf Try.f37) 250)] := by kernel_rfl
theorem laws_toTermS_l122 (k : Nat) : LoopOk (laws_toTermS_F k) (loopB (codeOf Try.f37) 122) 122 := LoopOk.mk (pin := laws_toTermS_i122) (pout := laws_toTermS_o122) (ex := 0) (nx := 80) (Lf := laws_toTermS_f122 k) (k := k) (by kernel_rfl) (fun _ => rfl) (by intro n x; kernel_rfl)
theorem laws_toTermS_l250 (k : Nat) : LoopOk (laws_toTermS_F k) (loopB (codeOf Try.f37) 250) 250 := LoopOk.mk (pin := laws_toTermS_i250) (pout := laws_toTermS_o250) (ex := 2) (nx := 80) (Lf := laws_toTermS_f250 k) (k := k) (by kernel_rfl) (fun _ => rfl) (by intro n x; kernel_rfl)
theorem laws_toTermS_K (k : Nat) : Contract Try.prog 37 (laws_toTermS_V k) :=
  contract (C := laws_toTermS_C k) (F := laws_toTermS_F k) (fn := Try.f37) (ps := laws_toTermS_ps) (rs := [(ty_6, false)]) (nx := 32) ⟨tyOf_ok tysR_ok, gOf_ok ⟨laws_roomBehind_K, laws_toTerm_K, laws_fillerTerm_K, trivial⟩⟩ rfl (by kernel_rfl) (by kernel_rfl) (by kernel_rfl) (by kernel_rfl) (by kernel_rfl) (by kernel_rfl) rfl (by kernel_rfl) (by kernel_rfl) (AnnOk_list [(122, loopB (codeOf Try.f37) 122), (250, loopB (codeOf Try.f37) 250)] laws_toTermS_ls ⟨laws_toTermS_l122 k, laws_toTermS_l250 k, trivial⟩) mix_ok (laws_toTermS_eq k)

noncomputable def laws_toTermSS_V (k : Nat) : Variant := ⟨[.val ty_5 false, .val .bool false], [(ty_13, false)], fun x => laws_toTermSS k x.1 x.2.1⟩
noncomputable def laws_toTermSS_C (k : Nat) : Cfg := ⟨Try.prog, tyOf tysR, 53, gOf [(53, [], laws_roomBehind_V), (37, [], laws_toTermS_V k), (54, [], laws_fillerTerm_V)], true, [5, 27, 39, 44], []⟩
def laws_toTermSS_i122 : List PE := [⟨0, 32, .val ty_5 false, false⟩, ⟨1, 48, .val .bool false, false⟩, ⟨5, 64, .eat ty_6, false⟩, ⟨6, 80, .val ty_0 false, false⟩]
def laws_toTermSS_o122 : List PE := [⟨0, 32, .val ty_5 false, false⟩, ⟨5, 48, .eat ty_6, false⟩]
noncomputable def laws_toTermSS_f122 (k : Nat) (n : Nat) (x4 : PTe laws_toTermSS_i122) : Option ((List (List (Int × Int × Int × Int) × List (Int × Int × Int × Int)) × List (List (Int × Int × Int × Int) × List (Int × Int × Int × Int))) ⊕ PTe laws_toTermSS_o122) := laws_toTermSS_L122 k n x4.1 x4.2.1 x4.2.2.1 x4.2.2.2.1
def laws_toTermSS_i250 : List PE := [⟨0, 32, .val ty_5 false, false⟩, ⟨5, 48, .eat ty_6, false⟩, ⟨7, 64, .val ty_0 false, false⟩]
def laws_toTermSS_o250 : List PE := [⟨0, 32, .val ty_5 false, false⟩, ⟨5, 48, .eat ty_6, false⟩]
noncomputable def laws_toTermSS_f250 (k : Nat) (n : Nat) (x8 : PTe laws_toTermSS_i250) : Option ((List (List (Int × Int × Int × Int) × List (Int × Int × Int × Int)) × List (List (Int × Int × Int × Int) × List (Int × Int × Int × Int))) ⊕ PTe laws_toTermSS_o250) := laws_toTermSS_L250 k n x8.1 x8.2.1 x8.2.2.1
def laws_toTermSS_ps : List PE := [⟨0, 0, .val ty_5 false, false⟩, ⟨1, 16, .val .bool false, false⟩]
noncomputable def laws_toTermSS_F (k : Nat) : Fn (List (List (Int × Int × Int × Int) × List (Int × Int × Int × Int)) × List (List (Int × Int × Int × Int) × List (Int × Int × Int × Int))) := ⟨laws_toTermSS_C k, rdRes Try.prog laws_toTermSS_ps [(ty_13, false)] Try.f12.results.toList .ret, fun p => bif Nat.beq p 122 then some (.loop laws_toTermSS_i122 laws_toTermSS_o122 0 96 (laws_toTermSS_f122 k k)) else bif Nat.beq p 250 then some (.loop laws_toTermSS_i250 laws_toTermSS_o250 2 80 (laws_toTermSS_f250 k k)) else bif Nat.beq p 6 then some (.cut [⟨0, 32, .val ty_5 false, false⟩, ⟨1, 48, .val .bool false, false⟩] 64) else none, 0, []⟩
theorem laws_toTermSS_eq (k : Nat) (x : PTe laws_toTermSS_ps) : evFn (laws_toTermSS_F k) (codeOf Try.f12) laws_toTermSS_ps 32 x = laws_toTermSS k x.1 x.2.1 := by kernel_rfl
theorem laws_toTermSS_ls : loopsOf (codeOf Try.f12) 1 = [(122, loopB (codeOf Try.f12) 122), (250, loopB (codeOf Try.f12) 250)] := by kernel_rfl
theorem laws_toTermSS_l122 (k : Nat) : LoopOk (laws_toTermSS_F k) (loopB (codeOf Try.f12) 122) 122 := LoopOk.mk (pin := laws_toTermSS_i122) (pout := laws_toTermSS_o122) (ex := 0) (nx := 96) (Lf := laws_toTermSS_f122 k) (k := k) (by kernel_rfl) (fun _ => rfl) (by intro n x; kernel_rfl)
theorem laws_toTermSS_l250 (k : Nat) : LoopOk (laws_toTermSS_F k) (loopB (codeOf Try.f12) 250) 250 := LoopOk.mk (pin := laws_toTermSS_i250) (pout := laws_toTermSS_o250) (ex := 2) (nx := 80) (Lf := laws_toTermSS_f250 k) (k := k) (by kernel_rfl) (fun _ => rfl) (by intro n x; kernel_rfl)
theorem laws_toTermSS_K (k : Nat) : Contract Try.prog 12 (laws_toTermSS_V k) :=
  contract (C := laws_toTermSS_C k) (F := laws_toTermSS_F k) (fn := Try.f12) (ps := laws_toTermSS_ps) (rs := [(ty_13, false)]) (nx := 32) ⟨tyOf_ok tysR_ok, gOf_ok ⟨laws_roomBehind_K, laws_toTermS_K k, laws_fillerTerm_K, trivial⟩⟩ rfl (by kernel_rfl) (by kernel_rfl) (by kernel_rfl) (by kernel_rfl) (by kernel_rfl) (by kernel_rfl) rfl (by kernel_rfl) (by kernel_rfl) (AnnOk_list [(122, loopB (codeOf Try.f12) 122), (250, loopB (codeOf Try.f12) 250)] laws_toTermSS_ls ⟨laws_toTermSS_l122 k, laws_toTermSS_l250 k, trivial⟩) mix_ok (laws_toTermSS_eq k)

noncomputable def laws_toDyadic_V : Variant := ⟨[.val ty_1 true], [(ty_1, true)], fun x => laws_toDyadic x.1⟩
noncomputable def laws_toDyadic_C : Cfg := ⟨Try.prog, tyOf tysR, 11, gOf [], true, [], []⟩
def laws_toDyadic_ps : List PE := [⟨0, 0, .val ty_1 true, false⟩]
noncomputable def laws_toDyadic_F : Fn (Int × Int) := ⟨laws_toDyadic_C, rdRes Try.prog laws_toDyadic_ps [(ty_1, true)] Try.f69.results.toList .ret, fun p => none, 0, []⟩
theorem laws_toDyadic_eq (x : PTe laws_toDyadic_ps) : evFn (laws_toDyadic_F) (codeOf Try.f69) laws_toDyadic_ps 16 x = laws_toDyadic x.1 := by kernel_rfl
theorem laws_toDyadic_K : Contract Try.prog 69 (laws_toDyadic_V) :=
  contract (C := laws_toDyadic_C) (F := laws_toDyadic_F) (fn := Try.f69) (ps := laws_toDyadic_ps) (rs := [(ty_1, true)]) (nx := 16) ⟨tyOf_ok tysR_ok, gOf_ok trivial⟩ rfl (by kernel_rfl) (by kernel_rfl) (by kernel_rfl) (by kernel_rfl) (by kernel_rfl) (by kernel_rfl) rfl (by kernel_rfl) (by kernel_rfl) (AnnOk_list [] (by kernel_rfl) trivial) mix_ok (laws_toDyadic_eq)

noncomputable def laws_fillerDyadic_V : Variant := ⟨[], [(ty_1, true)], fun x => laws_fillerDyadic⟩
noncomputable def laws_fillerDyadic_C : Cfg := ⟨Try.prog, tyOf tys, 2, gOf [], false, [], []⟩
def laws_fillerDyadic_ps : List PE := []
noncomputable def laws_fillerDyadic_F : Fn (Int × Int) := ⟨laws_fillerDyadic_C, rdRes Try.prog laws_fillerDyadic_ps [(ty_1, true)] Try.f70.results.toList .ret, fun p => none, 0, []⟩
theorem laws_fillerDyadic_eq (x : PTe laws_fillerDyadic_ps) : evFn (laws_fillerDyadic_F) (codeOf Try.f70) laws_fillerDyadic_ps 0 x = laws_fillerDyadic := by kernel_rfl
theorem laws_fillerDyadic_K : Contract Try.prog 70 (laws_fillerDyadic_V) :=
  contract (C := laws_fillerDyadic_C) (F := laws_fillerDyadic_F) (fn := Try.f70) (ps := laws_fillerDyadic_ps) (rs := [(ty_1, true)]) (nx := 0) ⟨tyOf_ok tys_ok, gOf_ok trivial⟩ rfl (by kernel_rfl) (by kernel_rfl) (by kernel_rfl) (by kernel_rfl) (by kernel_rfl) (by kernel_rfl) rfl (by kernel_rfl) (by kernel_rfl) (AnnOk_list [] (by kernel_rfl) trivial) mix_ok (laws_fillerDyadic_eq)

noncomputable def laws_toDyadicS_V (k : Nat) : Variant := ⟨[.val ty_7 false, .val .bool false], [(ty_14, false)], fun x => laws_toDyadicS k x.1 x.2.1⟩
noncomputable def laws_toDyadicS_C (k : Nat) : Cfg := ⟨Try.prog, tyOf tysR, 51, gOf [(53, [], laws_roomBehind_V), (69, [], laws_toDyadic_V), (70, [], laws_fillerDyadic_V)], true, [], []⟩
def laws_toDyadicS_i122 : List PE := [⟨0, 32, .val ty_7 false, false⟩, ⟨5, 48, .eat ty_1, false⟩, ⟨6, 64, .val ty_0 false, false⟩]
def laws_toDyadicS_o122 : List PE := [⟨0, 32, .val ty_7 false, false⟩, ⟨5, 48, .eat ty_1, false⟩]
noncomputable def laws_toDyadicS_f122 (k : Nat) (n : Nat) (x4 : PTe laws_toDyadicS_i122) : Option ((List (Int × Int) × List (Int × Int)) ⊕ PTe laws_toDyadicS_o122) := laws_toDyadicS_L122 k n x4.1 x4.2.1 x4.2.2.1
def laws_toDyadicS_i250 : List PE := [⟨0, 32, .val ty_7 false, false⟩, ⟨5, 48, .eat ty_1, false⟩, ⟨7, 64, .val ty_0 false, false⟩]
def laws_toDyadicS_o250 : List PE := [⟨0, 32, .val ty_7 false, false⟩, ⟨5, 48, .eat ty_1, false⟩]
noncomputable def laws_toDyadicS_f250 (k : Nat) (n : Nat) (x8 : PTe laws_toDyadicS_i250) : Option ((List (Int × Int) × List (Int × Int)) ⊕ PTe laws_toDyadicS_o250) := laws_toDyadicS_L250 k n x8.1 x8.2.1 x8.2.2.1
def laws_toDyadicS_ps : List PE := [⟨0, 0, .val ty_7 false, false⟩, ⟨1, 16, .val .bool false, false⟩]
noncomputable def laws_toDyadicS_F (k : Nat) : Fn (List (Int × Int) × List (Int × Int)) := ⟨laws_toDyadicS_C k, rdRes Try.prog laws_toDyadicS_ps [(ty_14, false)] Try.f24.results.toList .ret, fun p => bif Nat.beq p 122 then some (.loop laws_toDyadicS_i122 laws_toDyadicS_o122 0 80 (laws_toDyadicS_f122 k k)) else bif Nat.beq p 250 then some (.loop laws_toDyadicS_i250 laws_toDyadicS_o250 2 80 (laws_toDyadicS_f250 k k)) else bif Nat.beq p 6 then some (.cut [⟨0, 32, .val ty_7 false, false⟩] 48) else none, 0, []⟩
theorem laws_toDyadicS_eq (k : Nat) (x : PTe laws_toDyadicS_ps) : evFn (laws_toDyadicS_F k) (codeOf Try.f24) laws_toDyadicS_ps 32 x = laws_toDyadicS k x.1 x.2.1 := by kernel_rfl
theorem laws_toDyadicS_ls : loopsOf (codeOf Try.f24) 1 = [(122, loopB (codeOf Try.f24) 122), (250, loopB (codeOf Try.f24) 250)] := by kernel_rfl
theorem laws_toDyadicS_l122 (k : Nat) : LoopOk (laws_toDyadicS_F k) (loopB (codeOf Try.f24) 122) 122 := LoopOk.mk (pin := laws_toDyadicS_i122) (pout := laws_toDyadicS_o122) (ex := 0) (nx := 80) (Lf := laws_toDyadicS_f122 k) (k := k) (by kernel_rfl) (fun _ => rfl) (by intro n x; kernel_rfl)
theorem laws_toDyadicS_l250 (k : Nat) : LoopOk (laws_toDyadicS_F k) (loopB (codeOf Try.f24) 250) 250 := LoopOk.mk (pin := laws_toDyadicS_i250) (pout := laws_toDyadicS_o250) (ex := 2) (nx := 80) (Lf := laws_toDyadicS_f250 k) (k := k) (by kernel_rfl) (fun _ => rfl) (by intro n x; kernel_rfl)
theorem laws_toDyadicS_K (k : Nat) : Contract Try.prog 24 (laws_toDyadicS_V k) :=
  contract (C := laws_toDyadicS_C k) (F := laws_toDyadicS_F k) (fn := Try.f24) (ps := laws_toDyadicS_ps) (rs := [(ty_14, false)]) (nx := 32) ⟨tyOf_ok tysR_ok, gOf_ok ⟨laws_roomBehind_K, laws_toDyadic_K, laws_fillerDyadic_K, trivial⟩⟩ rfl (by kernel_rfl) (by kernel_rfl) (by kernel_rfl) (by kernel_rfl) (by kernel_rfl) (by kernel_rfl) rfl (by kernel_rfl) (by kernel_rfl) (AnnOk_list [(122, loopB (codeOf Try.f24) 122), (250, loopB (codeOf Try.f24) 250)] laws_toDyadicS_ls ⟨laws_toDyadicS_l122 k, laws_toDyadicS_l250 k, trivial⟩) mix_ok (laws_toDyadicS_eq k)

noncomputable def spec_l1In_V : Variant := ⟨[.val ty_0 false, .val ty_0 false, .val ty_0 false], [(.bool, false)], fun x => spec_l1In x.1 x.2.1 x.2.2.1⟩
noncomputable def spec_l1In_C : Cfg := ⟨Try.prog, tyOf tys, 15, gOf [], false, [], []⟩
def spec_l1In_ps : List PE := [⟨0, 0, .val ty_0 false, false⟩, ⟨1, 16, .val ty_0 false, false⟩, ⟨2, 32, .val ty_0 false, false⟩]
noncomputable def spec_l1In_F : Fn (Bool) := ⟨spec_l1In_C, rdRes Try.prog spec_l1In_ps [(.bool, false)] Try.f78.results.toList .ret, fun p => none, 0, []⟩
theorem spec_l1In_eq (x : PTe spec_l1In_ps) : evFn (spec_l1In_F) (codeOf Try.f78) spec_l1In_ps 48 x = spec_l1In x.1 x.2.1 x.2.2.1 := by kernel_rfl
theorem spec_l1In_K : Contract Try.prog 78 (spec_l1In_V) :=
  contract (C := spec_l1In_C) (F := spec_l1In_F) (fn := Try.f78) (ps := spec_l1In_ps) (rs := [(.bool, false)]) (nx := 48) ⟨tyOf_ok tys_ok, gOf_ok trivial⟩ rfl (by kernel_rfl) (by kernel_rfl) (by kernel_rfl) (by kernel_rfl) (by kernel_rfl) (by kernel_rfl) rfl (by kernel_rfl) (by kernel_rfl) (AnnOk_list [] (by kernel_rfl) trivial) mix_ok (spec_l1In_eq)

noncomputable def spec_poTerm_V : Variant := ⟨[.val ty_3 true], [(.bool, false)], fun x => spec_poTerm x.1⟩
noncomputable def spec_poTerm_C : Cfg := ⟨Try.prog, tyOf tys, 32, gOf [(78, [], spec_l1In_V)], false, [], []⟩
def spec_poTerm_ps : List PE := [⟨0, 0, .val ty_3 true, false⟩]
noncomputable def spec_poTerm_F : Fn (Bool) := ⟨spec_poTerm_C, rdRes Try.prog spec_poTerm_ps [(.bool, false)] Try.f155.results.toList .ret, fun p => none, 0, []⟩
theorem spec_poTerm_eq (x : PTe spec_poTerm_ps) : evFn (spec_poTerm_F) (codeOf Try.f155) spec_poTerm_ps 16 x = spec_poTerm x.1 := by kernel_rfl
theorem spec_poTerm_K : Contract Try.prog 155 (spec_poTerm_V) :=
  contract (C := spec_poTerm_C) (F := spec_poTerm_F) (fn := Try.f155) (ps := spec_poTerm_ps) (rs := [(.bool, false)]) (nx := 16) ⟨tyOf_ok tys_ok, gOf_ok ⟨spec_l1In_K, trivial⟩⟩ rfl (by kernel_rfl) (by kernel_rfl) (by kernel_rfl) (by kernel_rfl) (by kernel_rfl) (by kernel_rfl) rfl (by kernel_rfl) (by kernel_rfl) (AnnOk_list [] (by kernel_rfl) trivial) mix_ok (spec_poTerm_eq)

noncomputable def spec_l1Sign_V : Variant := ⟨[.val ty_0 false], [(ty_0, false)], fun x => spec_l1Sign x.1⟩
noncomputable def spec_l1Sign_C : Cfg := ⟨Try.prog, tyOf tys, 9, gOf [], false, [], []⟩
def spec_l1Sign_ps : List PE := [⟨0, 0, .val ty_0 false, false⟩]
noncomputable def spec_l1Sign_F : Fn (Int) := ⟨spec_l1Sign_C, rdRes Try.prog spec_l1Sign_ps [(ty_0, false)] Try.f67.results.toList .ret, fun p => none, 0, []⟩
theorem spec_l1Sign_eq (x : PTe spec_l1Sign_ps) : evFn (spec_l1Sign_F) (codeOf Try.f67) spec_l1Sign_ps 16 x = spec_l1Sign x.1 := by kernel_rfl
theorem spec_l1Sign_K : Contract Try.prog 67 (spec_l1Sign_V) :=
  contract (C := spec_l1Sign_C) (F := spec_l1Sign_F) (fn := Try.f67) (ps := spec_l1Sign_ps) (rs := [(ty_0, false)]) (nx := 16) ⟨tyOf_ok tys_ok, gOf_ok trivial⟩ rfl (by kernel_rfl) (by kernel_rfl) (by kernel_rfl) (by kernel_rfl) (by kernel_rfl) (by kernel_rfl) rfl (by kernel_rfl) (by kernel_rfl) (AnnOk_list [] (by kernel_rfl) trivial) mix_ok (spec_l1Sign_eq)

noncomputable def spec_poOrder_V : Variant := ⟨[.val ty_3 true, .val ty_3 true], [(ty_0, false)], fun x => spec_poOrder x.1 x.2.1⟩
noncomputable def spec_poOrder_C : Cfg := ⟨Try.prog, tyOf tys, 35, gOf [(67, [], spec_l1Sign_V)], false, [], []⟩
def spec_poOrder_ps : List PE := [⟨0, 0, .val ty_3 true, false⟩, ⟨1, 16, .val ty_3 true, false⟩]
noncomputable def spec_poOrder_F : Fn (Int) := ⟨spec_poOrder_C, rdRes Try.prog spec_poOrder_ps [(ty_0, false)] Try.f156.results.toList .ret, fun p => none, 0, []⟩
theorem spec_poOrder_eq (x : PTe spec_poOrder_ps) : evFn (spec_poOrder_F) (codeOf Try.f156) spec_poOrder_ps 32 x = spec_poOrder x.1 x.2.1 := by kernel_rfl
theorem spec_poOrder_K : Contract Try.prog 156 (spec_poOrder_V) :=
  contract (C := spec_poOrder_C) (F := spec_poOrder_F) (fn := Try.f156) (ps := spec_poOrder_ps) (rs := [(ty_0, false)]) (nx := 32) ⟨tyOf_ok tys_ok, gOf_ok ⟨spec_l1Sign_K, trivial⟩⟩ rfl (by kernel_rfl) (by kernel_rfl) (by kernel_rfl) (by kernel_rfl) (by kernel_rfl) (by kernel_rfl) rfl (by kernel_rfl) (by kernel_rfl) (AnnOk_list [] (by kernel_rfl) trivial) mix_ok (spec_poOrder_eq)

noncomputable def spec_poGood_V (k : Nat) : Variant := ⟨[.val ty_4 false], [(.bool, false)], fun x => spec_poGood k x.1⟩
noncomputable def spec_poGood_C (k : Nat) : Cfg := ⟨Try.prog, tyOf tys, 38, gOf [(155, [], spec_poTerm_V), (156, [], spec_poOrder_V)], false, [], []⟩
def spec_poGood_i26 : List PE := [⟨0, 16, .val ty_4 false, false⟩, ⟨5, 32, .val ty_4 false, false⟩, ⟨6, 48, .val ty_0 false, false⟩, ⟨7, 64, .val ty_0 false, false⟩]
def spec_poGood_o26 : List PE := [⟨0, 16, .val ty_4 false, false⟩]
noncomputable def spec_poGood_f26 (k : Nat) (n : Nat) (x3 : PTe spec_poGood_i26) : Option ((Bool) ⊕ PTe spec_poGood_o26) := spec_poGood_L26 k n x3.1 x3.2.1 x3.2.2.1 x3.2.2.2.1
def spec_poGood_ps : List PE := [⟨0, 0, .val ty_4 false, false⟩]
noncomputable def spec_poGood_F (k : Nat) : Fn (Bool) := ⟨spec_poGood_C k, rdRes Try.prog spec_poGood_ps [(.bool, false)] Try.f108.results.toList .ret, fun p => bif Nat.beq p 26 then some (.loop spec_poGood_i26 spec_poGood_o26 0 80 (spec_poGood_f26 k k)) else none, 0, []⟩
theorem spec_poGood_eq (k : Nat) (x : PTe spec_poGood_ps) : evFn (spec_poGood_F k) (codeOf Try.f108) spec_poGood_ps 16 x = spec_poGood k x.1 := by kernel_rfl
theorem spec_poGood_ls : loopsOf (codeOf Try.f108) 1 = [(26, loopB (codeOf Try.f108) 26)] := by kernel_rfl
theorem spec_poGood_l26 (k : Nat) : LoopOk (spec_poGood_F k) (loopB (codeOf Try.f108) 26) 26 := LoopOk.mk (pin := spec_poGood_i26) (pout := spec_poGood_o26) (ex := 0) (nx := 80) (Lf := spec_poGood_f26 k) (k := k) (by kernel_rfl) (fun _ => rfl) (by intro n x; kernel_rfl)
theorem spec_poGood_K (k : Nat) : Contract Try.prog 108 (spec_poGood_V k) :=
  contract (C := spec_poGood_C k) (F := spec_poGood_F k) (fn := Try.f108) (ps := spec_poGood_ps) (rs := [(.bool, false)]) (nx := 16) ⟨tyOf_ok tys_ok, gOf_ok ⟨spec_poTerm_K, spec_poOrder_K, trivial⟩⟩ rfl (by kernel_rfl) (by kernel_rfl) (by kernel_rfl) (by kernel_rfl) (by kernel_rfl) (by kernel_rfl) rfl (by kernel_rfl) (by kernel_rfl) (AnnOk_list [(26, loopB (codeOf Try.f108) 26)] spec_poGood_ls ⟨spec_poGood_l26 k, trivial⟩) mix_ok (spec_poGood_eq k)

noncomputable def spec_poPower_V : Variant := ⟨[.val ty_3 true, .val ty_0 false], [(ty_0, false)], fun x => spec_poPower x.1 x.2.1⟩
noncomputable def spec_poPower_C : Cfg := ⟨Try.prog, tyOf tys, 16, gOf [], false, [], []⟩
def spec_poPower_ps : List PE := [⟨0, 0, .val ty_3 true, false⟩, ⟨1, 16, .val ty_0 false, false⟩]
noncomputable def spec_poPower_F : Fn (Int) := ⟨spec_poPower_C, rdRes Try.prog spec_poPower_ps [(ty_0, false)] Try.f115.results.toList .ret, fun p => none, 0, []⟩
theorem spec_poPower_eq (x : PTe spec_poPower_ps) : evFn (spec_poPower_F) (codeOf Try.f115) spec_poPower_ps 32 x = spec_poPower x.1 x.2.1 := by kernel_rfl
theorem spec_poPower_K : Contract Try.prog 115 (spec_poPower_V) :=
  contract (C := spec_poPower_C) (F := spec_poPower_F) (fn := Try.f115) (ps := spec_poPower_ps) (rs := [(ty_0, false)]) (nx := 32) ⟨tyOf_ok tys_ok, gOf_ok trivial⟩ rfl (by kernel_rfl) (by kernel_rfl) (by kernel_rfl) (by kernel_rfl) (by kernel_rfl) (by kernel_rfl) rfl (by kernel_rfl) (by kernel_rfl) (AnnOk_list [] (by kernel_rfl) trivial) mix_ok (spec_poPower_eq)

noncomputable def spec_l1Most_V : Variant := ⟨[.val ty_0 false, .val ty_0 false], [(ty_0, false)], fun x => spec_l1Most x.1 x.2.1⟩
noncomputable def spec_l1Most_C : Cfg := ⟨Try.prog, tyOf tys, 10, gOf [], false, [], []⟩
def spec_l1Most_ps : List PE := [⟨0, 0, .val ty_0 false, false⟩, ⟨1, 16, .val ty_0 false, false⟩]
noncomputable def spec_l1Most_F : Fn (Int) := ⟨spec_l1Most_C, rdRes Try.prog spec_l1Most_ps [(ty_0, false)] Try.f153.results.toList .ret, fun p => none, 0, []⟩
theorem spec_l1Most_eq (x : PTe spec_l1Most_ps) : evFn (spec_l1Most_F) (codeOf Try.f153) spec_l1Most_ps 32 x = spec_l1Most x.1 x.2.1 := by kernel_rfl
theorem spec_l1Most_K : Contract Try.prog 153 (spec_l1Most_V) :=
  contract (C := spec_l1Most_C) (F := spec_l1Most_F) (fn := Try.f153) (ps := spec_l1Most_ps) (rs := [(ty_0, false)]) (nx := 32) ⟨tyOf_ok tys_ok, gOf_ok trivial⟩ rfl (by kernel_rfl) (by kernel_rfl) (by kernel_rfl) (by kernel_rfl) (by kernel_rfl) (by kernel_rfl) rfl (by kernel_rfl) (by kernel_rfl) (AnnOk_list [] (by kernel_rfl) trivial) mix_ok (spec_l1Most_eq)

noncomputable def spec_poDegreeIn_V (k : Nat) : Variant := ⟨[.val ty_4 false, .val ty_0 false], [(ty_0, false)], fun x => spec_poDegreeIn k x.1 x.2.1⟩
noncomputable def spec_poDegreeIn_C (k : Nat) : Cfg := ⟨Try.prog, tyOf tys, 21, gOf [(115, [], spec_poPower_V), (153, [], spec_l1Most_V)], false, [], []⟩
def spec_poDegreeIn_i58 : List PE := [⟨1, 32, .val ty_0 false, false⟩, ⟨5, 48, .val ty_0 false, false⟩, ⟨8, 64, .val ty_4 false, false⟩, ⟨9, 80, .val ty_0 false, false⟩, ⟨10, 96, .val ty_0 false, false⟩]
def spec_poDegreeIn_o58 : List PE := [⟨5, 32, .val ty_0 false, false⟩]
noncomputable def spec_poDegreeIn_f58 (k : Nat) (n : Nat) (x3 : PTe spec_poDegreeIn_i58) : Option ((Int) ⊕ PTe spec_poDegreeIn_o58) := spec_poDegreeIn_L58 k n x3.1 x3.2.1 x3.2.2.1 x3.2.2.2.1 x3.2.2.2.2.1
def spec_poDegreeIn_ps : List PE := [⟨0, 0, .val ty_4 false, false⟩, ⟨1, 16, .val ty_0 false, false⟩]
noncomputable def spec_poDegreeIn_F (k : Nat) : Fn (Int) := ⟨spec_poDegreeIn_C k, rdRes Try.prog spec_poDegreeIn_ps [(ty_0, false)] Try.f109.results.toList .ret, fun p => bif Nat.beq p 58 then some (.loop spec_poDegreeIn_i58 spec_poDegreeIn_o58 0 112 (spec_poDegreeIn_f58 k k)) else none, 0, []⟩
theorem spec_poDegreeIn_eq (k : Nat) (x : PTe spec_poDegreeIn_ps) : evFn (spec_poDegreeIn_F k) (codeOf Try.f109) spec_poDegreeIn_ps 32 x = spec_poDegreeIn k x.1 x.2.1 := by kernel_rfl
theorem spec_poDegreeIn_ls : loopsOf (codeOf Try.f109) 1 = [(58, loopB (codeOf Try.f109) 58)] := by kernel_rfl
theorem spec_poDegreeIn_l58 (k : Nat) : LoopOk (spec_poDegreeIn_F k) (loopB (codeOf Try.f109) 58) 58 := LoopOk.mk (pin := spec_poDegreeIn_i58) (pout := spec_poDegreeIn_o58) (ex := 0) (nx := 112) (Lf := spec_poDegreeIn_f58 k) (k := k) (by kernel_rfl) (fun _ => rfl) (by intro n x; kernel_rfl)
theorem spec_poDegreeIn_K (k : Nat) : Contract Try.prog 109 (spec_poDegreeIn_V k) :=
  contract (C := spec_poDegreeIn_C k) (F := spec_poDegreeIn_F k) (fn := Try.f109) (ps := spec_poDegreeIn_ps) (rs := [(ty_0, false)]) (nx := 32) ⟨tyOf_ok tys_ok, gOf_ok ⟨spec_poPower_K, spec_l1Most_K, trivial⟩⟩ rfl (by kernel_rfl) (by kernel_rfl) (by kernel_rfl) (by kernel_rfl) (by kernel_rfl) (by kernel_rfl) rfl (by kernel_rfl) (by kernel_rfl) (AnnOk_list [(58, loopB (codeOf Try.f109) 58)] spec_poDegreeIn_ls ⟨spec_poDegreeIn_l58 k, trivial⟩) mix_ok (spec_poDegreeIn_eq k)

noncomputable def spec_poSystem_V (k : Nat) : Variant := ⟨[.val ty_5 false], [(.bool, false)], fun x => spec_poSystem k x.1⟩
noncomputable def spec_poSystem_C (k : Nat) : Cfg := ⟨Try.prog, tyOf tys, 29, gOf [(108, [], spec_poGood_V k), (109, [], spec_poDegreeIn_V k), (78, [], spec_l1In_V)], false, [], []⟩
def spec_poSystem_i13518 : List PE := [⟨0, 16, .val ty_5 false, false⟩, ⟨4, 32, .val ty_4 false, false⟩, ⟨5, 48, .val ty_0 false, false⟩, ⟨6, 64, .val ty_5 false, false⟩, ⟨7, 80, .val ty_0 false, false⟩, ⟨8, 96, .val ty_0 false, false⟩]
def spec_poSystem_o13518 : List PE := [⟨0, 16, .val ty_5 false, false⟩, ⟨6, 32, .val ty_5 false, false⟩, ⟨7, 48, .val ty_0 false, false⟩, ⟨8, 64, .val ty_0 false, false⟩]
noncomputable def spec_poSystem_f13518 (k : Nat) (n : Nat) (x3 : PTe spec_poSystem_i13518) : Option ((Bool) ⊕ PTe spec_poSystem_o13518) := spec_poSystem_L13518 k n x3.1 x3.2.1 x3.2.2.1 x3.2.2.2.1 x3.2.2.2.2.1 x3.2.2.2.2.2.1
def spec_poSystem_i26 : List PE := [⟨0, 16, .val ty_5 false, false⟩, ⟨6, 32, .val ty_5 false, false⟩, ⟨7, 48, .val ty_0 false, false⟩, ⟨8, 64, .val ty_0 false, false⟩]
def spec_poSystem_o26 : List PE := [⟨0, 16, .val ty_5 false, false⟩]
noncomputable def spec_poSystem_f26 (k : Nat) (n : Nat) (x6 : PTe spec_poSystem_i26) : Option ((Bool) ⊕ PTe spec_poSystem_o26) := spec_poSystem_L26 k n x6.1 x6.2.1 x6.2.2.1 x6.2.2.2.1
def spec_poSystem_ps : List PE := [⟨0, 0, .val ty_5 false, false⟩]
noncomputable def spec_poSystem_F (k : Nat) : Fn (Bool) := ⟨spec_poSystem_C k, rdRes Try.prog spec_poSystem_ps [(.bool, false)] Try.f63.results.toList .ret, fun p => bif Nat.beq p 13518 then some (.loop spec_poSystem_i13518 spec_poSystem_o13518 2 112 (spec_poSystem_f13518 k k)) else bif Nat.beq p 26 then some (.loop spec_poSystem_i26 spec_poSystem_o26 0 80 (spec_poSystem_f26 k k)) else none, 0, []⟩
theorem spec_poSystem_eq (k : Nat) (x : PTe spec_poSystem_ps) : evFn (spec_poSystem_F k) (codeOf Try.f63) spec_poSystem_ps 16 x = spec_poSystem k x.1 := by kernel_rfl
theorem spec_poSystem_ls : loopsOf (codeOf Try.f63) 1 = [(26, loopB (codeOf Try.f63) 26), (13518, loopB (codeOf Try.f63) 13518)] := by kernel_rfl
theorem spec_poSystem_l13518 (k : Nat) : LoopOk (spec_poSystem_F k) (loopB (codeOf Try.f63) 13518) 13518 := LoopOk.mk (pin := spec_poSystem_i13518) (pout := spec_poSystem_o13518) (ex := 2) (nx := 112) (Lf := spec_poSystem_f13518 k) (k := k) (by kernel_rfl) (fun _ => rfl) (by intro n x; kernel_rfl)
theorem spec_poSystem_l26 (k : Nat) : LoopOk (spec_poSystem_F k) (loopB (codeOf Try.f63) 26) 26 := LoopOk.mk (pin := spec_poSystem_i26) (pout := spec_poSystem_o26) (ex := 0) (nx := 80) (Lf := spec_poSystem_f26 k) (k := k) (by kernel_rfl) (fun _ => rfl) (by intro n x; kernel_rfl)
theorem spec_poSystem_K (k : Nat) : Contract Try.prog 63 (spec_poSystem_V k) :=
  contract (C := spec_poSystem_C k) (F := spec_poSystem_F k) (fn := Try.f63) (ps := spec_poSystem_ps) (rs := [(.bool, false)]) (nx := 16) ⟨tyOf_ok tys_ok, gOf_ok ⟨spec_poGood_K k, spec_poDegreeIn_K k, spec_l1In_K, trivial⟩⟩ rfl (by kernel_rfl) (by kernel_rfl) (by kernel_rfl) (by kernel_rfl) (by kernel_rfl) (by kernel_rfl) rfl (by kernel_rfl) (by kernel_rfl) (AnnOk_list [(26, loopB (codeOf Try.f63) 26), (13518, loopB (codeOf Try.f63) 13518)] spec_poSystem_ls ⟨spec_poSystem_l26 k, spec_poSystem_l13518 k, trivial⟩) mix_ok (spec_poSystem_eq k)

noncomputable def spec_dyGood_V : Variant := ⟨[.val ty_1 true], [(.bool, false)], fun x => spec_dyGood x.1⟩
noncomputable def spec_dyGood_C : Cfg := ⟨Try.prog, tyOf tys, 22, gOf [(78, [], spec_l1In_V)], false, [], []⟩
def spec_dyGood_ps : List PE := [⟨0, 0, .val ty_1 true, false⟩]
noncomputable def spec_dyGood_F : Fn (Bool) := ⟨spec_dyGood_C, rdRes Try.prog spec_dyGood_ps [(.bool, false)] Try.f110.results.toList .ret, fun p => none, 0, []⟩
theorem spec_dyGood_eq (x : PTe spec_dyGood_ps) : evFn (spec_dyGood_F) (codeOf Try.f110) spec_dyGood_ps 16 x = spec_dyGood x.1 := by kernel_rfl
theorem spec_dyGood_K : Contract Try.prog 110 (spec_dyGood_V) :=
  contract (C := spec_dyGood_C) (F := spec_dyGood_F) (fn := Try.f110) (ps := spec_dyGood_ps) (rs := [(.bool, false)]) (nx := 16) ⟨tyOf_ok tys_ok, gOf_ok ⟨spec_l1In_K, trivial⟩⟩ rfl (by kernel_rfl) (by kernel_rfl) (by kernel_rfl) (by kernel_rfl) (by kernel_rfl) (by kernel_rfl) rfl (by kernel_rfl) (by kernel_rfl) (AnnOk_list [] (by kernel_rfl) trivial) mix_ok (spec_dyGood_eq)

noncomputable def spec_dyInt_V : Variant := ⟨[.val ty_0 false], [(ty_1, true)], fun x => spec_dyInt x.1⟩
noncomputable def spec_dyInt_C : Cfg := ⟨Try.prog, tyOf tys, 5, gOf [], false, [], []⟩
def spec_dyInt_ps : List PE := [⟨0, 0, .val ty_0 false, false⟩]
noncomputable def spec_dyInt_F : Fn (Int × Int) := ⟨spec_dyInt_C, rdRes Try.prog spec_dyInt_ps [(ty_1, true)] Try.f112.results.toList .ret, fun p => none, 0, []⟩
theorem spec_dyInt_eq (x : PTe spec_dyInt_ps) : evFn (spec_dyInt_F) (codeOf Try.f112) spec_dyInt_ps 16 x = spec_dyInt x.1 := by kernel_rfl
theorem spec_dyInt_K : Contract Try.prog 112 (spec_dyInt_V) :=
  contract (C := spec_dyInt_C) (F := spec_dyInt_F) (fn := Try.f112) (ps := spec_dyInt_ps) (rs := [(ty_1, true)]) (nx := 16) ⟨tyOf_ok tys_ok, gOf_ok trivial⟩ rfl (by kernel_rfl) (by kernel_rfl) (by kernel_rfl) (by kernel_rfl) (by kernel_rfl) (by kernel_rfl) rfl (by kernel_rfl) (by kernel_rfl) (AnnOk_list [] (by kernel_rfl) trivial) mix_ok (spec_dyInt_eq)

noncomputable def spec_dyPower_V : Variant := ⟨[.val ty_0 false], [(ty_0, false)], fun x => spec_dyPower x.1⟩
noncomputable def spec_dyPower_C : Cfg := ⟨Try.prog, tyOf tys, 6, gOf [], false, [], []⟩
def spec_dyPower_ps : List PE := [⟨0, 0, .val ty_0 false, false⟩]
noncomputable def spec_dyPower_F : Fn (Int) := ⟨spec_dyPower_C, rdRes Try.prog spec_dyPower_ps [(ty_0, false)] Try.f151.results.toList .ret, fun p => none, 0, []⟩
theorem spec_dyPower_eq (x : PTe spec_dyPower_ps) : evFn (spec_dyPower_F) (codeOf Try.f151) spec_dyPower_ps 16 x = spec_dyPower x.1 := by kernel_rfl
theorem spec_dyPower_K : Contract Try.prog 151 (spec_dyPower_V) :=
  contract (C := spec_dyPower_C) (F := spec_dyPower_F) (fn := Try.f151) (ps := spec_dyPower_ps) (rs := [(ty_0, false)]) (nx := 16) ⟨tyOf_ok tys_ok, gOf_ok trivial⟩ rfl (by kernel_rfl) (by kernel_rfl) (by kernel_rfl) (by kernel_rfl) (by kernel_rfl) (by kernel_rfl) rfl (by kernel_rfl) (by kernel_rfl) (AnnOk_list [] (by kernel_rfl) trivial) mix_ok (spec_dyPower_eq)

noncomputable def spec_dyDown_V : Variant := ⟨[.val ty_0 false, .val ty_0 false], [(ty_0, false)], fun x => spec_dyDown x.1 x.2.1⟩
noncomputable def spec_dyDown_C : Cfg := ⟨Try.prog, tyOf tys, 16, gOf [], false, [], []⟩
def spec_dyDown_ps : List PE := [⟨0, 0, .val ty_0 false, false⟩, ⟨1, 16, .val ty_0 false, false⟩]
noncomputable def spec_dyDown_F : Fn (Int) := ⟨spec_dyDown_C, rdRes Try.prog spec_dyDown_ps [(ty_0, false)] Try.f174.results.toList .ret, fun p => none, 0, []⟩
theorem spec_dyDown_eq (x : PTe spec_dyDown_ps) : evFn (spec_dyDown_F) (codeOf Try.f174) spec_dyDown_ps 32 x = spec_dyDown x.1 x.2.1 := by kernel_rfl
theorem spec_dyDown_K : Contract Try.prog 174 (spec_dyDown_V) :=
  contract (C := spec_dyDown_C) (F := spec_dyDown_F) (fn := Try.f174) (ps := spec_dyDown_ps) (rs := [(ty_0, false)]) (nx := 32) ⟨tyOf_ok tys_ok, gOf_ok trivial⟩ rfl (by kernel_rfl) (by kernel_rfl) (by kernel_rfl) (by kernel_rfl) (by kernel_rfl) (by kernel_rfl) rfl (by kernel_rfl) (by kernel_rfl) (AnnOk_list [] (by kernel_rfl) trivial) mix_ok (spec_dyDown_eq)

noncomputable def spec_dyFloor_V : Variant := ⟨[.val ty_1 true], [(ty_0, false)], fun x => spec_dyFloor x.1⟩
noncomputable def spec_dyFloor_C : Cfg := ⟨Try.prog, tyOf tys, 9, gOf [(151, [], spec_dyPower_V), (174, [], spec_dyDown_V)], false, [], []⟩
def spec_dyFloor_ps : List PE := [⟨0, 0, .val ty_1 true, false⟩]
noncomputable def spec_dyFloor_F : Fn (Int) := ⟨spec_dyFloor_C, rdRes Try.prog spec_dyFloor_ps [(ty_0, false)] Try.f157.results.toList .ret, fun p => none, 0, []⟩
theorem spec_dyFloor_eq (x : PTe spec_dyFloor_ps) : evFn (spec_dyFloor_F) (codeOf Try.f157) spec_dyFloor_ps 16 x = spec_dyFloor x.1 := by kernel_rfl
theorem spec_dyFloor_K : Contract Try.prog 157 (spec_dyFloor_V) :=
  contract (C := spec_dyFloor_C) (F := spec_dyFloor_F) (fn := Try.f157) (ps := spec_dyFloor_ps) (rs := [(ty_0, false)]) (nx := 16) ⟨tyOf_ok tys_ok, gOf_ok ⟨spec_dyPower_K, spec_dyDown_K, trivial⟩⟩ rfl (by kernel_rfl) (by kernel_rfl) (by kernel_rfl) (by kernel_rfl) (by kernel_rfl) (by kernel_rfl) rfl (by kernel_rfl) (by kernel_rfl) (AnnOk_list [] (by kernel_rfl) trivial) mix_ok (spec_dyFloor_eq)

noncomputable def spec_dyAt_V (k : Nat) : Variant := ⟨[.val ty_1 true, .val ty_0 false], [(ty_0, false), (.bool, false)], fun x => spec_dyAt k x.1 x.2.1⟩
noncomputable def spec_dyAt_C (k : Nat) : Cfg := ⟨Try.prog, tyOf tys, 30, gOf [(151, [], spec_dyPower_V), (78, [], spec_l1In_V)], false, [], []⟩
def spec_dyAt_i58 : List PE := [⟨1, 32, .val ty_0 false, false⟩, ⟨2, 48, .box ty_1 false, false⟩, ⟨6, 64, .val ty_0 false, false⟩]
def spec_dyAt_o58 : List PE := [⟨2, 32, .box ty_1 false, false⟩]
noncomputable def spec_dyAt_f58 (k : Nat) (n : Nat) (x4 : PTe spec_dyAt_i58) : Option ((Int × Bool) ⊕ PTe spec_dyAt_o58) := spec_dyAt_L58 k n x4.1 x4.2.1 x4.2.2.1
def spec_dyAt_ps : List PE := [⟨0, 0, .val ty_1 true, false⟩, ⟨1, 16, .val ty_0 false, false⟩]
noncomputable def spec_dyAt_F (k : Nat) : Fn (Int × Bool) := ⟨spec_dyAt_C k, rdRes Try.prog spec_dyAt_ps [(ty_0, false), (.bool, false)] Try.f113.results.toList .ret, fun p => bif Nat.beq p 58 then some (.loop spec_dyAt_i58 spec_dyAt_o58 0 80 (spec_dyAt_f58 k k)) else none, 0, []⟩
theorem spec_dyAt_eq (k : Nat) (x : PTe spec_dyAt_ps) : evFn (spec_dyAt_F k) (codeOf Try.f113) spec_dyAt_ps 32 x = spec_dyAt k x.1 x.2.1 := by kernel_rfl
theorem spec_dyAt_ls : loopsOf (codeOf Try.f113) 1 = [(58, loopB (codeOf Try.f113) 58)] := by kernel_rfl
theorem spec_dyAt_l58 (k : Nat) : LoopOk (spec_dyAt_F k) (loopB (codeOf Try.f113) 58) 58 := LoopOk.mk (pin := spec_dyAt_i58) (pout := spec_dyAt_o58) (ex := 0) (nx := 80) (Lf := spec_dyAt_f58 k) (k := k) (by kernel_rfl) (fun _ => rfl) (by intro n x; kernel_rfl)
theorem spec_dyAt_K (k : Nat) : Contract Try.prog 113 (spec_dyAt_V k) :=
  contract (C := spec_dyAt_C k) (F := spec_dyAt_F k) (fn := Try.f113) (ps := spec_dyAt_ps) (rs := [(ty_0, false), (.bool, false)]) (nx := 32) ⟨tyOf_ok tys_ok, gOf_ok ⟨spec_dyPower_K, spec_l1In_K, trivial⟩⟩ rfl (by kernel_rfl) (by kernel_rfl) (by kernel_rfl) (by kernel_rfl) (by kernel_rfl) (by kernel_rfl) rfl (by kernel_rfl) (by kernel_rfl) (AnnOk_list [(58, loopB (codeOf Try.f113) 58)] spec_dyAt_ls ⟨spec_dyAt_l58 k, trivial⟩) mix_ok (spec_dyAt_eq k)

noncomputable def spec_dyCmp_V (k : Nat) : Variant := ⟨[.val ty_1 true, .val ty_1 true], [(ty_0, false)], fun x => spec_dyCmp k x.1 x.2.1⟩
noncomputable def spec_dyCmp_C (k : Nat) : Cfg := ⟨Try.prog, tyOf tys, 56, gOf [(157, [], spec_dyFloor_V), (67, [], spec_l1Sign_V), (151, [], spec_dyPower_V), (113, [], spec_dyAt_V k)], false, [], []⟩
def spec_dyCmp_ps : List PE := [⟨0, 0, .val ty_1 true, false⟩, ⟨1, 16, .val ty_1 true, false⟩]
noncomputable def spec_dyCmp_F (k : Nat) : Fn (Int) := ⟨spec_dyCmp_C k, rdRes Try.prog spec_dyCmp_ps [(ty_0, false)] Try.f111.results.toList .ret, fun p => none, 0, []⟩
theorem spec_dyCmp_eq (k : Nat) (x : PTe spec_dyCmp_ps) : evFn (spec_dyCmp_F k) (codeOf Try.f111) spec_dyCmp_ps 32 x = spec_dyCmp k x.1 x.2.1 := by kernel_rfl
theorem spec_dyCmp_K (k : Nat) : Contract Try.prog 111 (spec_dyCmp_V k) :=
  contract (C := spec_dyCmp_C k) (F := spec_dyCmp_F k) (fn := Try.f111) (ps := spec_dyCmp_ps) (rs := [(ty_0, false)]) (nx := 32) ⟨tyOf_ok tys_ok, gOf_ok ⟨spec_dyFloor_K, spec_l1Sign_K, spec_dyPower_K, spec_dyAt_K k, trivial⟩⟩ rfl (by kernel_rfl) (by kernel_rfl) (by kernel_rfl) (by kernel_rfl) (by kernel_rfl) (by kernel_rfl) rfl (by kernel_rfl) (by kernel_rfl) (AnnOk_list [] (by kernel_rfl) trivial) mix_ok (spec_dyCmp_eq k)

noncomputable def spec_vaPoint_V (k : Nat) : Variant := ⟨[.val ty_7 false], [(.bool, false)], fun x => spec_vaPoint k x.1⟩
noncomputable def spec_vaPoint_C (k : Nat) : Cfg := ⟨Try.prog, tyOf tys, 35, gOf [(110, [], spec_dyGood_V), (112, [], spec_dyInt_V), (111, [], spec_dyCmp_V k), (78, [], spec_l1In_V)], false, [], []⟩
def spec_vaPoint_i26 : List PE := [⟨0, 16, .val ty_7 false, false⟩, ⟨5, 32, .val ty_7 false, false⟩, ⟨6, 48, .val ty_0 false, false⟩, ⟨7, 64, .val ty_0 false, false⟩]
def spec_vaPoint_o26 : List PE := [⟨0, 16, .val ty_7 false, false⟩]
noncomputable def spec_vaPoint_f26 (k : Nat) (n : Nat) (x6 : PTe spec_vaPoint_i26) : Option ((Bool) ⊕ PTe spec_vaPoint_o26) := spec_vaPoint_L26 k n x6.1 x6.2.1 x6.2.2.1 x6.2.2.2.1
def spec_vaPoint_ps : List PE := [⟨0, 0, .val ty_7 false, false⟩]
noncomputable def spec_vaPoint_F (k : Nat) : Fn (Bool) := ⟨spec_vaPoint_C k, rdRes Try.prog spec_vaPoint_ps [(.bool, false)] Try.f64.results.toList .ret, fun p => bif Nat.beq p 26 then some (.loop spec_vaPoint_i26 spec_vaPoint_o26 0 80 (spec_vaPoint_f26 k k)) else none, 0, []⟩
theorem spec_vaPoint_eq (k : Nat) (x : PTe spec_vaPoint_ps) : evFn (spec_vaPoint_F k) (codeOf Try.f64) spec_vaPoint_ps 16 x = spec_vaPoint k x.1 := by kernel_rfl
theorem spec_vaPoint_ls : loopsOf (codeOf Try.f64) 1 = [(26, loopB (codeOf Try.f64) 26)] := by kernel_rfl
theorem spec_vaPoint_l26 (k : Nat) : LoopOk (spec_vaPoint_F k) (loopB (codeOf Try.f64) 26) 26 := LoopOk.mk (pin := spec_vaPoint_i26) (pout := spec_vaPoint_o26) (ex := 0) (nx := 80) (Lf := spec_vaPoint_f26 k) (k := k) (by kernel_rfl) (fun _ => rfl) (by intro n x; kernel_rfl)
theorem spec_vaPoint_K (k : Nat) : Contract Try.prog 64 (spec_vaPoint_V k) :=
  contract (C := spec_vaPoint_C k) (F := spec_vaPoint_F k) (fn := Try.f64) (ps := spec_vaPoint_ps) (rs := [(.bool, false)]) (nx := 16) ⟨tyOf_ok tys_ok, gOf_ok ⟨spec_dyGood_K, spec_dyInt_K, spec_dyCmp_K k, spec_l1In_K, trivial⟩⟩ rfl (by kernel_rfl) (by kernel_rfl) (by kernel_rfl) (by kernel_rfl) (by kernel_rfl) (by kernel_rfl) rfl (by kernel_rfl) (by kernel_rfl) (AnnOk_list [(26, loopB (codeOf Try.f64) 26)] spec_vaPoint_ls ⟨spec_vaPoint_l26 k, trivial⟩) mix_ok (spec_vaPoint_eq k)

noncomputable def spec_poWith_V : Variant := ⟨[.val ty_3 true, .val ty_0 false, .val ty_0 false], [(ty_3, true)], fun x => spec_poWith x.1 x.2.1 x.2.2.1⟩
noncomputable def spec_poWith_C : Cfg := ⟨Try.prog, tyOf tys, 19, gOf [], false, [], []⟩
def spec_poWith_ps : List PE := [⟨0, 0, .val ty_3 true, false⟩, ⟨1, 16, .val ty_0 false, false⟩, ⟨2, 32, .val ty_0 false, false⟩]
noncomputable def spec_poWith_F : Fn (Int × Int × Int × Int) := ⟨spec_poWith_C, rdRes Try.prog spec_poWith_ps [(ty_3, true)] Try.f116.results.toList .ret, fun p => none, 0, []⟩
theorem spec_poWith_eq (x : PTe spec_poWith_ps) : evFn (spec_poWith_F) (codeOf Try.f116) spec_poWith_ps 48 x = spec_poWith x.1 x.2.1 x.2.2.1 := by kernel_rfl
theorem spec_poWith_K : Contract Try.prog 116 (spec_poWith_V) :=
  contract (C := spec_poWith_C) (F := spec_poWith_F) (fn := Try.f116) (ps := spec_poWith_ps) (rs := [(ty_3, true)]) (nx := 48) ⟨tyOf_ok tys_ok, gOf_ok trivial⟩ rfl (by kernel_rfl) (by kernel_rfl) (by kernel_rfl) (by kernel_rfl) (by kernel_rfl) (by kernel_rfl) rfl (by kernel_rfl) (by kernel_rfl) (AnnOk_list [] (by kernel_rfl) trivial) mix_ok (spec_poWith_eq)

noncomputable def spec_poDerive_V (k : Nat) : Variant := ⟨[.val ty_4 false, .val ty_0 false], [(ty_4, false)], fun x => spec_poDerive k x.1 x.2.1⟩
noncomputable def spec_poDerive_C (k : Nat) : Cfg := ⟨Try.prog, tyOf tys, 37, gOf [(115, [], spec_poPower_V), (116, [], spec_poWith_V)], false, [], []⟩
def spec_poDerive_i58 : List PE := [⟨1, 32, .val ty_0 false, false⟩, ⟨5, 48, .eat ty_3, false⟩, ⟨10, 64, .val ty_4 false, false⟩, ⟨11, 80, .val ty_0 false, false⟩, ⟨12, 96, .val ty_0 false, false⟩]
def spec_poDerive_o58 : List PE := [⟨5, 32, .eat ty_3, false⟩]
noncomputable def spec_poDerive_f58 (k : Nat) (n : Nat) (x3 : PTe spec_poDerive_i58) : Option ((List (Int × Int × Int × Int)) ⊕ PTe spec_poDerive_o58) := spec_poDerive_L58 k n x3.1 x3.2.1 x3.2.2.1 x3.2.2.2.1 x3.2.2.2.2.1
def spec_poDerive_ps : List PE := [⟨0, 0, .val ty_4 false, false⟩, ⟨1, 16, .val ty_0 false, false⟩]
noncomputable def spec_poDerive_F (k : Nat) : Fn (List (Int × Int × Int × Int)) := ⟨spec_poDerive_C k, rdRes Try.prog spec_poDerive_ps [(ty_4, false)] Try.f66.results.toList .ret, fun p => bif Nat.beq p 58 then some (.loop spec_poDerive_i58 spec_poDerive_o58 0 112 (spec_poDerive_f58 k k)) else none, 0, []⟩
theorem spec_poDerive_eq (k : Nat) (x : PTe spec_poDerive_ps) : evFn (spec_poDerive_F k) (codeOf Try.f66) spec_poDerive_ps 32 x = spec_poDerive k x.1 x.2.1 := by kernel_rfl
theorem spec_poDerive_ls : loopsOf (codeOf Try.f66) 1 = [(58, loopB (codeOf Try.f66) 58)] := by kernel_rfl
theorem spec_poDerive_l58 (k : Nat) : LoopOk (spec_poDerive_F k) (loopB (codeOf Try.f66) 58) 58 := LoopOk.mk (pin := spec_poDerive_i58) (pout := spec_poDerive_o58) (ex := 0) (nx := 112) (Lf := spec_poDerive_f58 k) (k := k) (by kernel_rfl) (fun _ => rfl) (by intro n x; kernel_rfl)
theorem spec_poDerive_K (k : Nat) : Contract Try.prog 66 (spec_poDerive_V k) :=
  contract (C := spec_poDerive_C k) (F := spec_poDerive_F k) (fn := Try.f66) (ps := spec_poDerive_ps) (rs := [(ty_4, false)]) (nx := 32) ⟨tyOf_ok tys_ok, gOf_ok ⟨spec_poPower_K, spec_poWith_K, trivial⟩⟩ rfl (by kernel_rfl) (by kernel_rfl) (by kernel_rfl) (by kernel_rfl) (by kernel_rfl) (by kernel_rfl) rfl (by kernel_rfl) (by kernel_rfl) (AnnOk_list [(58, loopB (codeOf Try.f66) 58)] spec_poDerive_ls ⟨spec_poDerive_l58 k, trivial⟩) mix_ok (spec_poDerive_eq k)

noncomputable def spec_bePower_V (k : Nat) : Variant := ⟨[.val ty_0 false, .val ty_0 false], [(ty_0, false)], fun x => spec_bePower k x.1 x.2.1⟩
noncomputable def spec_bePower_C (k : Nat) : Cfg := ⟨Try.prog, tyOf tys, 14, gOf [], false, [], []⟩
def spec_bePower_i28 : List PE := [⟨0, 32, .val ty_0 false, false⟩, ⟨1, 48, .val ty_0 false, false⟩, ⟨5, 64, .val ty_0 false, false⟩]
def spec_bePower_o28 : List PE := [⟨5, 32, .val ty_0 false, false⟩]
noncomputable def spec_bePower_f28 (k : Nat) (n : Nat) (x1 : PTe spec_bePower_i28) : Option ((Int) ⊕ PTe spec_bePower_o28) := spec_bePower_L28 k n x1.1 x1.2.1 x1.2.2.1
def spec_bePower_ps : List PE := [⟨0, 0, .val ty_0 false, false⟩, ⟨1, 16, .val ty_0 false, false⟩]
noncomputable def spec_bePower_F (k : Nat) : Fn (Int) := ⟨spec_bePower_C k, rdRes Try.prog spec_bePower_ps [(ty_0, false)] Try.f114.results.toList .ret, fun p => bif Nat.beq p 28 then some (.loop spec_bePower_i28 spec_bePower_o28 0 80 (spec_bePower_f28 k k)) else none, 0, []⟩
theorem spec_bePower_eq (k : Nat) (x : PTe spec_bePower_ps) : evFn (spec_bePower_F k) (codeOf Try.f114) spec_bePower_ps 32 x = spec_bePower k x.1 x.2.1 := by kernel_rfl
theorem spec_bePower_ls : loopsOf (codeOf Try.f114) 1 = [(28, loopB (codeOf Try.f114) 28)] := by kernel_rfl
theorem spec_bePower_l28 (k : Nat) : LoopOk (spec_bePower_F k) (loopB (codeOf Try.f114) 28) 28 := LoopOk.mk (pin := spec_bePower_i28) (pout := spec_bePower_o28) (ex := 0) (nx := 80) (Lf := spec_bePower_f28 k) (k := k) (by kernel_rfl) (fun _ => rfl) (by intro n x; kernel_rfl)
theorem spec_bePower_K (k : Nat) : Contract Try.prog 114 (spec_bePower_V k) :=
  contract (C := spec_bePower_C k) (F := spec_bePower_F k) (fn := Try.f114) (ps := spec_bePower_ps) (rs := [(ty_0, false)]) (nx := 32) ⟨tyOf_ok tys_ok, gOf_ok trivial⟩ rfl (by kernel_rfl) (by kernel_rfl) (by kernel_rfl) (by kernel_rfl) (by kernel_rfl) (by kernel_rfl) rfl (by kernel_rfl) (by kernel_rfl) (AnnOk_list [(28, loopB (codeOf Try.f114) 28)] spec_bePower_ls ⟨spec_bePower_l28 k, trivial⟩) mix_ok (spec_bePower_eq k)

noncomputable def spec_dgValue_V (k : Nat) : Variant := ⟨[.val ty_4 false, .val ty_7 false], [(ty_0, false)], fun x => spec_dgValue k x.1 x.2.1⟩
noncomputable def spec_dgValue_C (k : Nat) : Cfg := ⟨Try.prog, tyOf tys, 56, gOf [(113, [], spec_dyAt_V k), (114, [], spec_bePower_V k)], false, [], []⟩
def spec_dgValue_i250 : List PE := [⟨5, 32, .val ty_0 false, false⟩, ⟨7, 48, .val ty_0 false, false⟩, ⟨9, 64, .val ty_0 false, false⟩, ⟨26, 80, .val ty_4 false, false⟩, ⟨27, 96, .val ty_0 false, false⟩, ⟨28, 112, .val ty_0 false, false⟩]
def spec_dgValue_o250 : List PE := [⟨9, 32, .val ty_0 false, false⟩]
noncomputable def spec_dgValue_f250 (k : Nat) (n : Nat) (x6 : PTe spec_dgValue_i250) : Option ((Int) ⊕ PTe spec_dgValue_o250) := spec_dgValue_L250 k n x6.1 x6.2.1 x6.2.2.1 x6.2.2.2.1 x6.2.2.2.2.1 x6.2.2.2.2.2.1
def spec_dgValue_ps : List PE := [⟨0, 0, .val ty_4 false, false⟩, ⟨1, 16, .val ty_7 false, false⟩]
noncomputable def spec_dgValue_F (k : Nat) : Fn (Int) := ⟨spec_dgValue_C k, rdRes Try.prog spec_dgValue_ps [(ty_0, false)] Try.f65.results.toList .ret, fun p => bif Nat.beq p 250 then some (.loop spec_dgValue_i250 spec_dgValue_o250 0 128 (spec_dgValue_f250 k k)) else none, 0, []⟩
theorem spec_dgValue_eq (k : Nat) (x : PTe spec_dgValue_ps) : evFn (spec_dgValue_F k) (codeOf Try.f65) spec_dgValue_ps 32 x = spec_dgValue k x.1 x.2.1 := by kernel_rfl
theorem spec_dgValue_ls : loopsOf (codeOf Try.f65) 1 = [(250, loopB (codeOf Try.f65) 250)] := by kernel_rfl
theorem spec_dgValue_l250 (k : Nat) : LoopOk (spec_dgValue_F k) (loopB (codeOf Try.f65) 250) 250 := LoopOk.mk (pin := spec_dgValue_i250) (pout := spec_dgValue_o250) (ex := 0) (nx := 128) (Lf := spec_dgValue_f250 k) (k := k) (by kernel_rfl) (fun _ => rfl) (by intro n x; kernel_rfl)
theorem spec_dgValue_K (k : Nat) : Contract Try.prog 65 (spec_dgValue_V k) :=
  contract (C := spec_dgValue_C k) (F := spec_dgValue_F k) (fn := Try.f65) (ps := spec_dgValue_ps) (rs := [(ty_0, false)]) (nx := 32) ⟨tyOf_ok tys_ok, gOf_ok ⟨spec_dyAt_K k, spec_bePower_K k, trivial⟩⟩ rfl (by kernel_rfl) (by kernel_rfl) (by kernel_rfl) (by kernel_rfl) (by kernel_rfl) (by kernel_rfl) rfl (by kernel_rfl) (by kernel_rfl) (AnnOk_list [(250, loopB (codeOf Try.f65) 250)] spec_dgValue_ls ⟨spec_dgValue_l250 k, trivial⟩) mix_ok (spec_dgValue_eq k)

noncomputable def spec_dgParts_V : Variant := ⟨[.val ty_0 false, .val ty_0 false], [(ty_0, false), (ty_0, false)], fun x => spec_dgParts x.1 x.2.1⟩
noncomputable def spec_dgParts_C : Cfg := ⟨Try.prog, tyOf tys, 56, gOf [(151, [], spec_dyPower_V), (174, [], spec_dyDown_V)], false, [], []⟩
def spec_dgParts_ps : List PE := [⟨0, 0, .val ty_0 false, false⟩, ⟨1, 16, .val ty_0 false, false⟩]
noncomputable def spec_dgParts_F : Fn (Int × Int) := ⟨spec_dgParts_C, rdRes Try.prog spec_dgParts_ps [(ty_0, false), (ty_0, false)] Try.f158.results.toList .ret, fun p => none, 0, []⟩
theorem spec_dgParts_eq (x : PTe spec_dgParts_ps) : evFn (spec_dgParts_F) (codeOf Try.f158) spec_dgParts_ps 32 x = spec_dgParts x.1 x.2.1 := by kernel_rfl
theorem spec_dgParts_K : Contract Try.prog 158 (spec_dgParts_V) :=
  contract (C := spec_dgParts_C) (F := spec_dgParts_F) (fn := Try.f158) (ps := spec_dgParts_ps) (rs := [(ty_0, false), (ty_0, false)]) (nx := 32) ⟨tyOf_ok tys_ok, gOf_ok ⟨spec_dyPower_K, spec_dyDown_K, trivial⟩⟩ rfl (by kernel_rfl) (by kernel_rfl) (by kernel_rfl) (by kernel_rfl) (by kernel_rfl) (by kernel_rfl) rfl (by kernel_rfl) (by kernel_rfl) (AnnOk_list [] (by kernel_rfl) trivial) mix_ok (spec_dgParts_eq)

noncomputable def spec_dgHigh_V : Variant := ⟨[.val ty_0 false, .val ty_0 false], [(ty_0, false)], fun x => spec_dgHigh x.1 x.2.1⟩
noncomputable def spec_dgHigh_C : Cfg := ⟨Try.prog, tyOf tys, 14, gOf [(158, [], spec_dgParts_V)], false, [], []⟩
def spec_dgHigh_ps : List PE := [⟨0, 0, .val ty_0 false, false⟩, ⟨1, 16, .val ty_0 false, false⟩]
noncomputable def spec_dgHigh_F : Fn (Int) := ⟨spec_dgHigh_C, rdRes Try.prog spec_dgHigh_ps [(ty_0, false)] Try.f117.results.toList .ret, fun p => none, 0, []⟩
theorem spec_dgHigh_eq (x : PTe spec_dgHigh_ps) : evFn (spec_dgHigh_F) (codeOf Try.f117) spec_dgHigh_ps 32 x = spec_dgHigh x.1 x.2.1 := by kernel_rfl
theorem spec_dgHigh_K : Contract Try.prog 117 (spec_dgHigh_V) :=
  contract (C := spec_dgHigh_C) (F := spec_dgHigh_F) (fn := Try.f117) (ps := spec_dgHigh_ps) (rs := [(ty_0, false)]) (nx := 32) ⟨tyOf_ok tys_ok, gOf_ok ⟨spec_dgParts_K, trivial⟩⟩ rfl (by kernel_rfl) (by kernel_rfl) (by kernel_rfl) (by kernel_rfl) (by kernel_rfl) (by kernel_rfl) rfl (by kernel_rfl) (by kernel_rfl) (AnnOk_list [] (by kernel_rfl) trivial) mix_ok (spec_dgHigh_eq)

noncomputable def spec_dgLow_V : Variant := ⟨[.val ty_0 false, .val ty_0 false], [(ty_0, false)], fun x => spec_dgLow x.1 x.2.1⟩
noncomputable def spec_dgLow_C : Cfg := ⟨Try.prog, tyOf tys, 14, gOf [(158, [], spec_dgParts_V)], false, [], []⟩
def spec_dgLow_ps : List PE := [⟨0, 0, .val ty_0 false, false⟩, ⟨1, 16, .val ty_0 false, false⟩]
noncomputable def spec_dgLow_F : Fn (Int) := ⟨spec_dgLow_C, rdRes Try.prog spec_dgLow_ps [(ty_0, false)] Try.f118.results.toList .ret, fun p => none, 0, []⟩
theorem spec_dgLow_eq (x : PTe spec_dgLow_ps) : evFn (spec_dgLow_F) (codeOf Try.f118) spec_dgLow_ps 32 x = spec_dgLow x.1 x.2.1 := by kernel_rfl
theorem spec_dgLow_K : Contract Try.prog 118 (spec_dgLow_V) :=
  contract (C := spec_dgLow_C) (F := spec_dgLow_F) (fn := Try.f118) (ps := spec_dgLow_ps) (rs := [(ty_0, false)]) (nx := 32) ⟨tyOf_ok tys_ok, gOf_ok ⟨spec_dgParts_K, trivial⟩⟩ rfl (by kernel_rfl) (by kernel_rfl) (by kernel_rfl) (by kernel_rfl) (by kernel_rfl) (by kernel_rfl) rfl (by kernel_rfl) (by kernel_rfl) (AnnOk_list [] (by kernel_rfl) trivial) mix_ok (spec_dgLow_eq)

noncomputable def spec_dgDiff_V : Variant := ⟨[.val ty_0 false, .val ty_0 false, .val ty_0 false, .val ty_0 false], [(ty_0, false)], fun x => spec_dgDiff x.1 x.2.1 x.2.2.1 x.2.2.2.1⟩
noncomputable def spec_dgDiff_C : Cfg := ⟨Try.prog, tyOf tys, 29, gOf [(117, [], spec_dgHigh_V), (118, [], spec_dgLow_V)], false, [], []⟩
def spec_dgDiff_ps : List PE := [⟨0, 0, .val ty_0 false, false⟩, ⟨1, 16, .val ty_0 false, false⟩, ⟨2, 32, .val ty_0 false, false⟩, ⟨3, 48, .val ty_0 false, false⟩]
noncomputable def spec_dgDiff_F : Fn (Int) := ⟨spec_dgDiff_C, rdRes Try.prog spec_dgDiff_ps [(ty_0, false)] Try.f68.results.toList .ret, fun p => none, 0, []⟩
theorem spec_dgDiff_eq (x : PTe spec_dgDiff_ps) : evFn (spec_dgDiff_F) (codeOf Try.f68) spec_dgDiff_ps 64 x = spec_dgDiff x.1 x.2.1 x.2.2.1 x.2.2.2.1 := by kernel_rfl
theorem spec_dgDiff_K : Contract Try.prog 68 (spec_dgDiff_V) :=
  contract (C := spec_dgDiff_C) (F := spec_dgDiff_F) (fn := Try.f68) (ps := spec_dgDiff_ps) (rs := [(ty_0, false)]) (nx := 64) ⟨tyOf_ok tys_ok, gOf_ok ⟨spec_dgHigh_K, spec_dgLow_K, trivial⟩⟩ rfl (by kernel_rfl) (by kernel_rfl) (by kernel_rfl) (by kernel_rfl) (by kernel_rfl) (by kernel_rfl) rfl (by kernel_rfl) (by kernel_rfl) (AnnOk_list [] (by kernel_rfl) trivial) mix_ok (spec_dgDiff_eq)

noncomputable def spec_JacobianSign_V (k : Nat) : Variant := ⟨[.val ty_5 false, .val ty_7 false], [(ty_0, false), (.bool, false)], fun x => spec_JacobianSign k x.1 x.2.1⟩
noncomputable def spec_JacobianSign_C (k : Nat) : Cfg := ⟨Try.prog, tyOf tys, 75, gOf [(63, [], spec_poSystem_V k), (64, [], spec_vaPoint_V k), (66, [], spec_poDerive_V k), (65, [], spec_dgValue_V k), (68, [], spec_dgDiff_V), (67, [], spec_l1Sign_V)], false, [], []⟩
def spec_JacobianSign_i31334 : List PE := [⟨1, 32, .val ty_7 false, false⟩, ⟨6, 48, .eat ty_0, false⟩, ⟨8, 64, .val ty_4 false, false⟩, ⟨9, 80, .val ty_0 false, false⟩, ⟨42, 96, .val ty_5 false, false⟩, ⟨43, 112, .val ty_0 false, false⟩, ⟨44, 128, .val ty_0 false, false⟩]
def spec_JacobianSign_o31334 : List PE := [⟨1, 32, .val ty_7 false, false⟩, ⟨6, 48, .eat ty_0, false⟩, ⟨42, 64, .val ty_5 false, false⟩, ⟨43, 80, .val ty_0 false, false⟩, ⟨44, 96, .val ty_0 false, false⟩]
noncomputable def spec_JacobianSign_f31334 (k : Nat) (n : Nat) (x5 : PTe spec_JacobianSign_i31334) : Option ((Int × Bool) ⊕ PTe spec_JacobianSign_o31334) := spec_JacobianSign_L31334 k n x5.1 x5.2.1 x5.2.2.1 x5.2.2.2.1 x5.2.2.2.2.1 x5.2.2.2.2.2.1 x5.2.2.2.2.2.2.1
def spec_JacobianSign_i122 : List PE := [⟨1, 32, .val ty_7 false, false⟩, ⟨6, 48, .eat ty_0, false⟩, ⟨42, 64, .val ty_5 false, false⟩, ⟨43, 80, .val ty_0 false, false⟩, ⟨44, 96, .val ty_0 false, false⟩]
def spec_JacobianSign_o122 : List PE := [⟨6, 32, .eat ty_0, false⟩]
noncomputable def spec_JacobianSign_f122 (k : Nat) (n : Nat) (x8 : PTe spec_JacobianSign_i122) : Option ((Int × Bool) ⊕ PTe spec_JacobianSign_o122) := spec_JacobianSign_L122 k n x8.1 x8.2.1 x8.2.2.1 x8.2.2.2.1 x8.2.2.2.2.1
def spec_JacobianSign_ps : List PE := [⟨0, 0, .val ty_5 false, false⟩, ⟨1, 16, .val ty_7 false, false⟩]
noncomputable def spec_JacobianSign_F (k : Nat) : Fn (Int × Bool) := ⟨spec_JacobianSign_C k, rdRes Try.prog spec_JacobianSign_ps [(ty_0, false), (.bool, false)] Try.f23.results.toList .ret, fun p => bif Nat.beq p 31334 then some (.loop spec_JacobianSign_i31334 spec_JacobianSign_o31334 2 144 (spec_JacobianSign_f31334 k k)) else bif Nat.beq p 122 then some (.loop spec_JacobianSign_i122 spec_JacobianSign_o122 0 112 (spec_JacobianSign_f122 k k)) else none, 0, []⟩
theorem spec_JacobianSign_eq (k : Nat) (x : PTe spec_JacobianSign_ps) : evFn (spec_JacobianSign_F k) (codeOf Try.f23) spec_JacobianSign_ps 32 x = spec_JacobianSign k x.1 x.2.1 := by kernel_rfl
theorem spec_JacobianSign_ls : loopsOf (codeOf Try.f23) 1 = [(122, loopB (codeOf Try.f23) 122), (31334, loopB (codeOf Try.f23) 31334)] := by kernel_rfl
theorem spec_JacobianSign_l31334 (k : Nat) : LoopOk (spec_JacobianSign_F k) (loopB (codeOf Try.f23) 31334) 31334 := LoopOk.mk (pin := spec_JacobianSign_i31334) (pout := spec_JacobianSign_o31334) (ex := 2) (nx := 144) (Lf := spec_JacobianSign_f31334 k) (k := k) (by kernel_rfl) (fun _ => rfl) (by intro n x; kernel_rfl)
theorem spec_JacobianSign_l122 (k : Nat) : LoopOk (spec_JacobianSign_F k) (loopB (codeOf Try.f23) 122) 122 := LoopOk.mk (pin := spec_JacobianSign_i122) (pout := spec_JacobianSign_o122) (ex := 0) (nx := 112) (Lf := spec_JacobianSign_f122 k) (k := k) (by kernel_rfl) (fun _ => rfl) (by intro n x; kernel_rfl)
theorem spec_JacobianSign_K (k : Nat) : Contract Try.prog 23 (spec_JacobianSign_V k) :=
  contract (C := spec_JacobianSign_C k) (F := spec_JacobianSign_F k) (fn := Try.f23) (ps := spec_JacobianSign_ps) (rs := [(ty_0, false), (.bool, false)]) (nx := 32) ⟨tyOf_ok tys_ok, gOf_ok ⟨spec_poSystem_K k, spec_vaPoint_K k, spec_poDerive_K k, spec_dgValue_K k, spec_dgDiff_K, spec_l1Sign_K, trivial⟩⟩ rfl (by kernel_rfl) (by kernel_rfl) (by kernel_rfl) (by kernel_rfl) (by kernel_rfl) (by kernel_rfl) rfl (by kernel_rfl) (by kernel_rfl) (AnnOk_list [(122, loopB (codeOf Try.f23) 122), (31334, loopB (codeOf Try.f23) 31334)] spec_JacobianSign_ls ⟨spec_JacobianSign_l122 k, spec_JacobianSign_l31334 k, trivial⟩) mix_ok (spec_JacobianSign_eq k)

noncomputable def impl_inside_V : Variant := ⟨[.val ty_0 false, .val ty_0 false, .val ty_0 false], [(.bool, false)], fun x => impl_inside x.1 x.2.1 x.2.2.1⟩
noncomputable def impl_inside_C : Cfg := ⟨Try.prog, tyOf tys, 15, gOf [], false, [], []⟩
def impl_inside_ps : List PE := [⟨0, 0, .val ty_0 false, false⟩, ⟨1, 16, .val ty_0 false, false⟩, ⟨2, 32, .val ty_0 false, false⟩]
noncomputable def impl_inside_F : Fn (Bool) := ⟨impl_inside_C, rdRes Try.prog impl_inside_ps [(.bool, false)] Try.f57.results.toList .ret, fun p => none, 0, []⟩
theorem impl_inside_eq (x : PTe impl_inside_ps) : evFn (impl_inside_F) (codeOf Try.f57) impl_inside_ps 48 x = impl_inside x.1 x.2.1 x.2.2.1 := by kernel_rfl
theorem impl_inside_K : Contract Try.prog 57 (impl_inside_V) :=
  contract (C := impl_inside_C) (F := impl_inside_F) (fn := Try.f57) (ps := impl_inside_ps) (rs := [(.bool, false)]) (nx := 48) ⟨tyOf_ok tys_ok, gOf_ok trivial⟩ rfl (by kernel_rfl) (by kernel_rfl) (by kernel_rfl) (by kernel_rfl) (by kernel_rfl) (by kernel_rfl) rfl (by kernel_rfl) (by kernel_rfl) (AnnOk_list [] (by kernel_rfl) trivial) mix_ok (impl_inside_eq)

noncomputable def impl_Term_degree_V : Variant := ⟨[.val ty_3 true], [(ty_0, false)], fun x => impl_Term_degree x.1⟩
noncomputable def impl_Term_degree_C : Cfg := ⟨Try.prog, tyOf tys, 11, gOf [], false, [], []⟩
def impl_Term_degree_ps : List PE := [⟨0, 0, .val ty_3 true, false⟩]
noncomputable def impl_Term_degree_F : Fn (Int) := ⟨impl_Term_degree_C, rdRes Try.prog impl_Term_degree_ps [(ty_0, false)] Try.f106.results.toList .ret, fun p => none, 0, []⟩
theorem impl_Term_degree_eq (x : PTe impl_Term_degree_ps) : evFn (impl_Term_degree_F) (codeOf Try.f106) impl_Term_degree_ps 16 x = impl_Term_degree x.1 := by kernel_rfl
theorem impl_Term_degree_K : Contract Try.prog 106 (impl_Term_degree_V) :=
  contract (C := impl_Term_degree_C) (F := impl_Term_degree_F) (fn := Try.f106) (ps := impl_Term_degree_ps) (rs := [(ty_0, false)]) (nx := 16) ⟨tyOf_ok tys_ok, gOf_ok trivial⟩ rfl (by kernel_rfl) (by kernel_rfl) (by kernel_rfl) (by kernel_rfl) (by kernel_rfl) (by kernel_rfl) rfl (by kernel_rfl) (by kernel_rfl) (AnnOk_list [] (by kernel_rfl) trivial) mix_ok (impl_Term_degree_eq)

noncomputable def impl_hasDegree_V : Variant := ⟨[.val ty_3 true], [(.bool, false)], fun x => impl_hasDegree x.1⟩
noncomputable def impl_hasDegree_C : Cfg := ⟨Try.prog, tyOf tys, 21, gOf [(57, [], impl_inside_V), (106, [], impl_Term_degree_V)], false, [], []⟩
def impl_hasDegree_ps : List PE := [⟨0, 0, .val ty_3 true, false⟩]
noncomputable def impl_hasDegree_F : Fn (Bool) := ⟨impl_hasDegree_C, rdRes Try.prog impl_hasDegree_ps [(.bool, false)] Try.f193.results.toList .ret, fun p => none, 0, []⟩
theorem impl_hasDegree_eq (x : PTe impl_hasDegree_ps) : evFn (impl_hasDegree_F) (codeOf Try.f193) impl_hasDegree_ps 16 x = impl_hasDegree x.1 := by kernel_rfl
theorem impl_hasDegree_K : Contract Try.prog 193 (impl_hasDegree_V) :=
  contract (C := impl_hasDegree_C) (F := impl_hasDegree_F) (fn := Try.f193) (ps := impl_hasDegree_ps) (rs := [(.bool, false)]) (nx := 16) ⟨tyOf_ok tys_ok, gOf_ok ⟨impl_inside_K, impl_Term_degree_K, trivial⟩⟩ rfl (by kernel_rfl) (by kernel_rfl) (by kernel_rfl) (by kernel_rfl) (by kernel_rfl) (by kernel_rfl) rfl (by kernel_rfl) (by kernel_rfl) (AnnOk_list [] (by kernel_rfl) trivial) mix_ok (impl_hasDegree_eq)

noncomputable def cmp_isNaN_int_V : Variant := ⟨[.val ty_0 false], [(.bool, false)], fun x => cmp_isNaN_int x.1⟩
noncomputable def cmp_isNaN_int_C : Cfg := ⟨Try.prog, tyOf tys, 6, gOf [], false, [], []⟩
def cmp_isNaN_int_ps : List PE := [⟨0, 0, .val ty_0 false, false⟩]
noncomputable def cmp_isNaN_int_F : Fn (Bool) := ⟨cmp_isNaN_int_C, rdRes Try.prog cmp_isNaN_int_ps [(.bool, false)] Try.f212.results.toList .ret, fun p => none, 0, []⟩
theorem cmp_isNaN_int_eq (x : PTe cmp_isNaN_int_ps) : evFn (cmp_isNaN_int_F) (codeOf Try.f212) cmp_isNaN_int_ps 16 x = cmp_isNaN_int x.1 := by kernel_rfl
theorem cmp_isNaN_int_K : Contract Try.prog 212 (cmp_isNaN_int_V) :=
  contract (C := cmp_isNaN_int_C) (F := cmp_isNaN_int_F) (fn := Try.f212) (ps := cmp_isNaN_int_ps) (rs := [(.bool, false)]) (nx := 16) ⟨tyOf_ok tys_ok, gOf_ok trivial⟩ rfl (by kernel_rfl) (by kernel_rfl) (by kernel_rfl) (by kernel_rfl) (by kernel_rfl) (by kernel_rfl) rfl (by kernel_rfl) (by kernel_rfl) (AnnOk_list [] (by kernel_rfl) trivial) mix_ok (cmp_isNaN_int_eq)

noncomputable def cmp_Compare_int_V : Variant := ⟨[.val ty_0 false, .val ty_0 false], [(ty_0, false)], fun x => cmp_Compare_int x.1 x.2.1⟩
noncomputable def cmp_Compare_int_C : Cfg := ⟨Try.prog, tyOf tys, 20, gOf [(212, [], cmp_isNaN_int_V)], false, [], []⟩
def cmp_Compare_int_ps : List PE := [⟨0, 0, .val ty_0 false, false⟩, ⟨1, 16, .val ty_0 false, false⟩]
noncomputable def cmp_Compare_int_F : Fn (Int) := ⟨cmp_Compare_int_C, rdRes Try.prog cmp_Compare_int_ps [(ty_0, false)] Try.f195.results.toList .ret, fun p => none, 0, []⟩
theorem cmp_Compare_int_eq (x : PTe cmp_Compare_int_ps) : evFn (cmp_Compare_int_F) (codeOf Try.f195) cmp_Compare_int_ps 32 x = cmp_Compare_int x.1 x.2.1 := by kernel_rfl
theorem cmp_Compare_int_K : Contract Try.prog 195 (cmp_Compare_int_V) :=
  contract (C := cmp_Compare_int_C) (F := cmp_Compare_int_F) (fn := Try.f195) (ps := cmp_Compare_int_ps) (rs := [(ty_0, false)]) (nx := 32) ⟨tyOf_ok tys_ok, gOf_ok ⟨cmp_isNaN_int_K, trivial⟩⟩ rfl (by kernel_rfl) (by kernel_rfl) (by kernel_rfl) (by kernel_rfl) (by kernel_rfl) (by kernel_rfl) rfl (by kernel_rfl) (by kernel_rfl) (AnnOk_list [] (by kernel_rfl) trivial) mix_ok (cmp_Compare_int_eq)

noncomputable def cmp_Or_int_V (k : Nat) : Variant := ⟨[.val ty_8 false], [(ty_0, false)], fun x => cmp_Or_int k x.1⟩
noncomputable def cmp_Or_int_C (k : Nat) : Cfg := ⟨Try.prog, tyOf tys, 18, gOf [], false, [], []⟩
def cmp_Or_int_i58 : List PE := [⟨3, 16, .val ty_0 false, false⟩, ⟨6, 32, .val ty_8 false, false⟩, ⟨7, 48, .val ty_0 false, false⟩, ⟨8, 64, .val ty_0 false, false⟩]
def cmp_Or_int_o58 : List PE := [⟨3, 16, .val ty_0 false, false⟩]
noncomputable def cmp_Or_int_f58 (k : Nat) (n : Nat) (x1 : PTe cmp_Or_int_i58) : Option ((Int) ⊕ PTe cmp_Or_int_o58) := cmp_Or_int_L58 k n x1.1 x1.2.1 x1.2.2.1 x1.2.2.2.1
def cmp_Or_int_ps : List PE := [⟨0, 0, .val ty_8 false, false⟩]
noncomputable def cmp_Or_int_F (k : Nat) : Fn (Int) := ⟨cmp_Or_int_C k, rdRes Try.prog cmp_Or_int_ps [(ty_0, false)] Try.f167.results.toList .ret, fun p => bif Nat.beq p 58 then some (.loop cmp_Or_int_i58 cmp_Or_int_o58 0 80 (cmp_Or_int_f58 k k)) else none, 0, []⟩
theorem cmp_Or_int_eq (k : Nat) (x : PTe cmp_Or_int_ps) : evFn (cmp_Or_int_F k) (codeOf Try.f167) cmp_Or_int_ps 16 x = cmp_Or_int k x.1 := by kernel_rfl
theorem cmp_Or_int_ls : loopsOf (codeOf Try.f167) 1 = [(58, loopB (codeOf Try.f167) 58)] := by kernel_rfl
theorem cmp_Or_int_l58 (k : Nat) : LoopOk (cmp_Or_int_F k) (loopB (codeOf Try.f167) 58) 58 := LoopOk.mk (pin := cmp_Or_int_i58) (pout := cmp_Or_int_o58) (ex := 0) (nx := 80) (Lf := cmp_Or_int_f58 k) (k := k) (by kernel_rfl) (fun _ => rfl) (by intro n x; kernel_rfl)
theorem cmp_Or_int_K (k : Nat) : Contract Try.prog 167 (cmp_Or_int_V k) :=
  contract (C := cmp_Or_int_C k) (F := cmp_Or_int_F k) (fn := Try.f167) (ps := cmp_Or_int_ps) (rs := [(ty_0, false)]) (nx := 16) ⟨tyOf_ok tys_ok, gOf_ok trivial⟩ rfl (by kernel_rfl) (by kernel_rfl) (by kernel_rfl) (by kernel_rfl) (by kernel_rfl) (by kernel_rfl) rfl (by kernel_rfl) (by kernel_rfl) (AnnOk_list [(58, loopB (codeOf Try.f167) 58)] cmp_Or_int_ls ⟨cmp_Or_int_l58 k, trivial⟩) mix_ok (cmp_Or_int_eq k)

noncomputable def impl_compareTerms_V (k : Nat) : Variant := ⟨[.val ty_3 true, .val ty_3 true], [(ty_0, false)], fun x => impl_compareTerms k x.1 x.2.1⟩
noncomputable def impl_compareTerms_C (k : Nat) : Cfg := ⟨Try.prog, tyOf tys, 22, gOf [(195, [], cmp_Compare_int_V), (167, [], cmp_Or_int_V k)], false, [], []⟩
def impl_compareTerms_ps : List PE := [⟨0, 0, .val ty_3 true, false⟩, ⟨1, 16, .val ty_3 true, false⟩]
noncomputable def impl_compareTerms_F (k : Nat) : Fn (Int) := ⟨impl_compareTerms_C k, rdRes Try.prog impl_compareTerms_ps [(ty_0, false)] Try.f164.results.toList .ret, fun p => none, 0, []⟩
theorem impl_compareTerms_eq (k : Nat) (x : PTe impl_compareTerms_ps) : evFn (impl_compareTerms_F k) (codeOf Try.f164) impl_compareTerms_ps 32 x = impl_compareTerms k x.1 x.2.1 := by kernel_rfl
theorem impl_compareTerms_K (k : Nat) : Contract Try.prog 164 (impl_compareTerms_V k) :=
  contract (C := impl_compareTerms_C k) (F := impl_compareTerms_F k) (fn := Try.f164) (ps := impl_compareTerms_ps) (rs := [(ty_0, false)]) (nx := 32) ⟨tyOf_ok tys_ok, gOf_ok ⟨cmp_Compare_int_K, cmp_Or_int_K k, trivial⟩⟩ rfl (by kernel_rfl) (by kernel_rfl) (by kernel_rfl) (by kernel_rfl) (by kernel_rfl) (by kernel_rfl) rfl (by kernel_rfl) (by kernel_rfl) (AnnOk_list [] (by kernel_rfl) trivial) mix_ok (impl_compareTerms_eq k)

noncomputable def impl_isPoly_V (k : Nat) : Variant := ⟨[.val ty_4 false], [(.bool, false)], fun x => impl_isPoly k x.1⟩
noncomputable def impl_isPoly_C (k : Nat) : Cfg := ⟨Try.prog, tyOf tys, 44, gOf [(57, [], impl_inside_V), (193, [], impl_hasDegree_V), (164, [], impl_compareTerms_V k)], false, [], []⟩
def impl_isPoly_i26 : List PE := [⟨0, 16, .val ty_4 false, false⟩, ⟨5, 32, .val ty_4 false, false⟩, ⟨6, 48, .val ty_0 false, false⟩, ⟨7, 64, .val ty_0 false, false⟩]
def impl_isPoly_o26 : List PE := [⟨0, 16, .val ty_4 false, false⟩]
noncomputable def impl_isPoly_f26 (k : Nat) (n : Nat) (x4 : PTe impl_isPoly_i26) : Option ((Bool) ⊕ PTe impl_isPoly_o26) := impl_isPoly_L26 k n x4.1 x4.2.1 x4.2.2.1 x4.2.2.2.1
def impl_isPoly_ps : List PE := [⟨0, 0, .val ty_4 false, false⟩]
noncomputable def impl_isPoly_F (k : Nat) : Fn (Bool) := ⟨impl_isPoly_C k, rdRes Try.prog impl_isPoly_ps [(.bool, false)] Try.f159.results.toList .ret, fun p => bif Nat.beq p 26 then some (.loop impl_isPoly_i26 impl_isPoly_o26 0 80 (impl_isPoly_f26 k k)) else none, 0, []⟩
theorem impl_isPoly_eq (k : Nat) (x : PTe impl_isPoly_ps) : evFn (impl_isPoly_F k) (codeOf Try.f159) impl_isPoly_ps 16 x = impl_isPoly k x.1 := by kernel_rfl
theorem impl_isPoly_ls : loopsOf (codeOf Try.f159) 1 = [(26, loopB (codeOf Try.f159) 26)] := by kernel_rfl
theorem impl_isPoly_l26 (k : Nat) : LoopOk (impl_isPoly_F k) (loopB (codeOf Try.f159) 26) 26 := LoopOk.mk (pin := impl_isPoly_i26) (pout := impl_isPoly_o26) (ex := 0) (nx := 80) (Lf := impl_isPoly_f26 k) (k := k) (by kernel_rfl) (fun _ => rfl) (by intro n x; kernel_rfl)
theorem impl_isPoly_K (k : Nat) : Contract Try.prog 159 (impl_isPoly_V k) :=
  contract (C := impl_isPoly_C k) (F := impl_isPoly_F k) (fn := Try.f159) (ps := impl_isPoly_ps) (rs := [(.bool, false)]) (nx := 16) ⟨tyOf_ok tys_ok, gOf_ok ⟨impl_inside_K, impl_hasDegree_K, impl_compareTerms_K k, trivial⟩⟩ rfl (by kernel_rfl) (by kernel_rfl) (by kernel_rfl) (by kernel_rfl) (by kernel_rfl) (by kernel_rfl) rfl (by kernel_rfl) (by kernel_rfl) (AnnOk_list [(26, loopB (codeOf Try.f159) 26)] impl_isPoly_ls ⟨impl_isPoly_l26 k, trivial⟩) mix_ok (impl_isPoly_eq k)

noncomputable def impl_Term_exponents_V : Variant := ⟨[.val ty_3 true], [(ty_2, true)], fun x => impl_Term_exponents x.1⟩
noncomputable def impl_Term_exponents_C : Cfg := ⟨Try.prog, tyOf tys, 10, gOf [], false, [], []⟩
def impl_Term_exponents_ps : List PE := [⟨0, 0, .val ty_3 true, false⟩]
noncomputable def impl_Term_exponents_F : Fn (Int × Int × Int) := ⟨impl_Term_exponents_C, rdRes Try.prog impl_Term_exponents_ps [(ty_2, true)] Try.f107.results.toList .ret, fun p => none, 0, []⟩
theorem impl_Term_exponents_eq (x : PTe impl_Term_exponents_ps) : evFn (impl_Term_exponents_F) (codeOf Try.f107) impl_Term_exponents_ps 16 x = impl_Term_exponents x.1 := by kernel_rfl
theorem impl_Term_exponents_K : Contract Try.prog 107 (impl_Term_exponents_V) :=
  contract (C := impl_Term_exponents_C) (F := impl_Term_exponents_F) (fn := Try.f107) (ps := impl_Term_exponents_ps) (rs := [(ty_2, true)]) (nx := 16) ⟨tyOf_ok tys_ok, gOf_ok trivial⟩ rfl (by kernel_rfl) (by kernel_rfl) (by kernel_rfl) (by kernel_rfl) (by kernel_rfl) (by kernel_rfl) rfl (by kernel_rfl) (by kernel_rfl) (AnnOk_list [] (by kernel_rfl) trivial) mix_ok (impl_Term_exponents_eq)

noncomputable def impl_needsAtMost_V (k : Nat) : Variant := ⟨[.val ty_4 false, .val ty_0 false], [(.bool, false)], fun x => impl_needsAtMost k x.1 x.2.1⟩
noncomputable def impl_needsAtMost_C (k : Nat) : Cfg := ⟨Try.prog, tyOf tys, 30, gOf [(107, [], impl_Term_exponents_V)], false, [], []⟩
def impl_needsAtMost_i6758 : List PE := [⟨1, 32, .val ty_0 false, false⟩, ⟨9, 48, .val ty_4 false, false⟩, ⟨10, 64, .val ty_0 false, false⟩, ⟨11, 80, .val ty_0 false, false⟩, ⟨16, 96, .val ty_2 true, false⟩, ⟨17, 112, .val ty_0 false, false⟩]
def impl_needsAtMost_o6758 : List PE := [⟨1, 32, .val ty_0 false, false⟩, ⟨9, 48, .val ty_4 false, false⟩, ⟨10, 64, .val ty_0 false, false⟩, ⟨11, 80, .val ty_0 false, false⟩]
noncomputable def impl_needsAtMost_f6758 (k : Nat) (n : Nat) (x2 : PTe impl_needsAtMost_i6758) : Option ((Bool) ⊕ PTe impl_needsAtMost_o6758) := impl_needsAtMost_L6758 k n x2.1 x2.2.1 x2.2.2.1 x2.2.2.2.1 x2.2.2.2.2.1 x2.2.2.2.2.2.1
def impl_needsAtMost_i26 : List PE := [⟨1, 32, .val ty_0 false, false⟩, ⟨9, 48, .val ty_4 false, false⟩, ⟨10, 64, .val ty_0 false, false⟩, ⟨11, 80, .val ty_0 false, false⟩]
def impl_needsAtMost_o26 : List PE := []
noncomputable def impl_needsAtMost_f26 (k : Nat) (n : Nat) (x5 : PTe impl_needsAtMost_i26) : Option ((Bool) ⊕ PTe impl_needsAtMost_o26) := impl_needsAtMost_L26 k n x5.1 x5.2.1 x5.2.2.1 x5.2.2.2.1
def impl_needsAtMost_ps : List PE := [⟨0, 0, .val ty_4 false, false⟩, ⟨1, 16, .val ty_0 false, false⟩]
noncomputable def impl_needsAtMost_F (k : Nat) : Fn (Bool) := ⟨impl_needsAtMost_C k, rdRes Try.prog impl_needsAtMost_ps [(.bool, false)] Try.f160.results.toList .ret, fun p => bif Nat.beq p 6758 then some (.loop impl_needsAtMost_i6758 impl_needsAtMost_o6758 2 128 (impl_needsAtMost_f6758 k k)) else bif Nat.beq p 26 then some (.loop impl_needsAtMost_i26 impl_needsAtMost_o26 0 96 (impl_needsAtMost_f26 k k)) else none, 0, []⟩
theorem impl_needsAtMost_eq (k : Nat) (x : PTe impl_needsAtMost_ps) : evFn (impl_needsAtMost_F k) (codeOf Try.f160) impl_needsAtMost_ps 32 x = impl_needsAtMost k x.1 x.2.1 := by kernel_rfl
theorem impl_needsAtMost_ls : loopsOf (codeOf Try.f160) 1 = [(26, loopB (codeOf Try.f160) 26), (6758, loopB (codeOf Try.f160) 6758)] := by kernel_rfl
theorem impl_needsAtMost_l6758 (k : Nat) : LoopOk (impl_needsAtMost_F k) (loopB (codeOf Try.f160) 6758) 6758 := LoopOk.mk (pin := impl_needsAtMost_i6758) (pout := impl_needsAtMost_o6758) (ex := 2) (nx := 128) (Lf := impl_needsAtMost_f6758 k) (k := k) (by kernel_rfl) (fun _ => rfl) (by intro n x; kernel_rfl)
theorem impl_needsAtMost_l26 (k : Nat) : LoopOk (impl_needsAtMost_F k) (loopB (codeOf Try.f160) 26) 26 := LoopOk.mk (pin := impl_needsAtMost_i26) (pout := impl_needsAtMost_o26) (ex := 0) (nx := 96) (Lf := impl_needsAtMost_f26 k) (k := k) (by kernel_rfl) (fun _ => rfl) (by intro n x; kernel_rfl)
theorem impl_needsAtMost_K (k : Nat) : Contract Try.prog 160 (impl_needsAtMost_V k) :=
  contract (C := impl_needsAtMost_C k) (F := impl_needsAtMost_F k) (fn := Try.f160) (ps := impl_needsAtMost_ps) (rs := [(.bool, false)]) (nx := 32) ⟨tyOf_ok tys_ok, gOf_ok ⟨impl_Term_exponents_K, trivial⟩⟩ rfl (by kernel_rfl) (by kernel_rfl) (by kernel_rfl) (by kernel_rfl) (by kernel_rfl) (by kernel_rfl) rfl (by kernel_rfl) (by kernel_rfl) (AnnOk_list [(26, loopB (codeOf Try.f160) 26), (6758, loopB (codeOf Try.f160) 6758)] impl_needsAtMost_ls ⟨impl_needsAtMost_l26 k, impl_needsAtMost_l6758 k, trivial⟩) mix_ok (impl_needsAtMost_eq k)

noncomputable def impl_isSystem_V (k : Nat) : Variant := ⟨[.val ty_5 false], [(.bool, false)], fun x => impl_isSystem k x.1⟩
noncomputable def impl_isSystem_C (k : Nat) : Cfg := ⟨Try.prog, tyOf tys, 25, gOf [(159, [], impl_isPoly_V k), (160, [], impl_needsAtMost_V k), (57, [], impl_inside_V)], false, [], []⟩
def impl_isSystem_i26 : List PE := [⟨0, 16, .val ty_5 false, false⟩, ⟨5, 32, .val ty_5 false, false⟩, ⟨6, 48, .val ty_0 false, false⟩, ⟨7, 64, .val ty_0 false, false⟩]
def impl_isSystem_o26 : List PE := [⟨0, 16, .val ty_5 false, false⟩]
noncomputable def impl_isSystem_f26 (k : Nat) (n : Nat) (x3 : PTe impl_isSystem_i26) : Option ((Bool) ⊕ PTe impl_isSystem_o26) := impl_isSystem_L26 k n x3.1 x3.2.1 x3.2.2.1 x3.2.2.2.1
def impl_isSystem_ps : List PE := [⟨0, 0, .val ty_5 false, false⟩]
noncomputable def impl_isSystem_F (k : Nat) : Fn (Bool) := ⟨impl_isSystem_C k, rdRes Try.prog impl_isSystem_ps [(.bool, false)] Try.f119.results.toList .ret, fun p => bif Nat.beq p 26 then some (.loop impl_isSystem_i26 impl_isSystem_o26 0 80 (impl_isSystem_f26 k k)) else none, 0, []⟩
theorem impl_isSystem_eq (k : Nat) (x : PTe impl_isSystem_ps) : evFn (impl_isSystem_F k) (codeOf Try.f119) impl_isSystem_ps 16 x = impl_isSystem k x.1 := by kernel_rfl
theorem impl_isSystem_ls : loopsOf (codeOf Try.f119) 1 = [(26, loopB (codeOf Try.f119) 26)] := by kernel_rfl
theorem impl_isSystem_l26 (k : Nat) : LoopOk (impl_isSystem_F k) (loopB (codeOf Try.f119) 26) 26 := LoopOk.mk (pin := impl_isSystem_i26) (pout := impl_isSystem_o26) (ex := 0) (nx := 80) (Lf := impl_isSystem_f26 k) (k := k) (by kernel_rfl) (fun _ => rfl) (by intro n x; kernel_rfl)
theorem impl_isSystem_K (k : Nat) : Contract Try.prog 119 (impl_isSystem_V k) :=
  contract (C := impl_isSystem_C k) (F := impl_isSystem_F k) (fn := Try.f119) (ps := impl_isSystem_ps) (rs := [(.bool, false)]) (nx := 16) ⟨tyOf_ok tys_ok, gOf_ok ⟨impl_isPoly_K k, impl_needsAtMost_K k, impl_inside_K, trivial⟩⟩ rfl (by kernel_rfl) (by kernel_rfl) (by kernel_rfl) (by kernel_rfl) (by kernel_rfl) (by kernel_rfl) rfl (by kernel_rfl) (by kernel_rfl) (AnnOk_list [(26, loopB (codeOf Try.f119) 26)] impl_isSystem_ls ⟨impl_isSystem_l26 k, trivial⟩) mix_ok (impl_isSystem_eq k)

noncomputable def impl_isTwo_V (k : Nat) : Variant := ⟨[.val ty_5 false], [(.bool, false)], fun x => impl_isTwo k x.1⟩
noncomputable def impl_isTwo_C (k : Nat) : Cfg := ⟨Try.prog, tyOf tys, 10, gOf [(119, [], impl_isSystem_V k)], false, [], []⟩
def impl_isTwo_ps : List PE := [⟨0, 0, .val ty_5 false, false⟩]
noncomputable def impl_isTwo_F (k : Nat) : Fn (Bool) := ⟨impl_isTwo_C k, rdRes Try.prog impl_isTwo_ps [(.bool, false)] Try.f71.results.toList .ret, fun p => none, 0, []⟩
theorem impl_isTwo_eq (k : Nat) (x : PTe impl_isTwo_ps) : evFn (impl_isTwo_F k) (codeOf Try.f71) impl_isTwo_ps 16 x = impl_isTwo k x.1 := by kernel_rfl
theorem impl_isTwo_K (k : Nat) : Contract Try.prog 71 (impl_isTwo_V k) :=
  contract (C := impl_isTwo_C k) (F := impl_isTwo_F k) (fn := Try.f71) (ps := impl_isTwo_ps) (rs := [(.bool, false)]) (nx := 16) ⟨tyOf_ok tys_ok, gOf_ok ⟨impl_isSystem_K k, trivial⟩⟩ rfl (by kernel_rfl) (by kernel_rfl) (by kernel_rfl) (by kernel_rfl) (by kernel_rfl) (by kernel_rfl) rfl (by kernel_rfl) (by kernel_rfl) (AnnOk_list [] (by kernel_rfl) trivial) mix_ok (impl_isTwo_eq k)

noncomputable def impl_isPlaces_V : Variant := ⟨[.val ty_0 false], [(.bool, false)], fun x => impl_isPlaces x.1⟩
noncomputable def impl_isPlaces_C : Cfg := ⟨Try.prog, tyOf tys, 5, gOf [(57, [], impl_inside_V)], false, [], []⟩
def impl_isPlaces_ps : List PE := [⟨0, 0, .val ty_0 false, false⟩]
noncomputable def impl_isPlaces_F : Fn (Bool) := ⟨impl_isPlaces_C, rdRes Try.prog impl_isPlaces_ps [(.bool, false)] Try.f81.results.toList .ret, fun p => none, 0, []⟩
theorem impl_isPlaces_eq (x : PTe impl_isPlaces_ps) : evFn (impl_isPlaces_F) (codeOf Try.f81) impl_isPlaces_ps 16 x = impl_isPlaces x.1 := by kernel_rfl
theorem impl_isPlaces_K : Contract Try.prog 81 (impl_isPlaces_V) :=
  contract (C := impl_isPlaces_C) (F := impl_isPlaces_F) (fn := Try.f81) (ps := impl_isPlaces_ps) (rs := [(.bool, false)]) (nx := 16) ⟨tyOf_ok tys_ok, gOf_ok ⟨impl_inside_K, trivial⟩⟩ rfl (by kernel_rfl) (by kernel_rfl) (by kernel_rfl) (by kernel_rfl) (by kernel_rfl) (by kernel_rfl) rfl (by kernel_rfl) (by kernel_rfl) (AnnOk_list [] (by kernel_rfl) trivial) mix_ok (impl_isPlaces_eq)

noncomputable def impl_isDyadic_V : Variant := ⟨[.val ty_1 true], [(.bool, false)], fun x => impl_isDyadic x.1⟩
noncomputable def impl_isDyadic_C : Cfg := ⟨Try.prog, tyOf tys, 22, gOf [(81, [], impl_isPlaces_V), (57, [], impl_inside_V)], false, [], []⟩
def impl_isDyadic_ps : List PE := [⟨0, 0, .val ty_1 true, false⟩]
noncomputable def impl_isDyadic_F : Fn (Bool) := ⟨impl_isDyadic_C, rdRes Try.prog impl_isDyadic_ps [(.bool, false)] Try.f135.results.toList .ret, fun p => none, 0, []⟩
theorem impl_isDyadic_eq (x : PTe impl_isDyadic_ps) : evFn (impl_isDyadic_F) (codeOf Try.f135) impl_isDyadic_ps 16 x = impl_isDyadic x.1 := by kernel_rfl
theorem impl_isDyadic_K : Contract Try.prog 135 (impl_isDyadic_V) :=
  contract (C := impl_isDyadic_C) (F := impl_isDyadic_F) (fn := Try.f135) (ps := impl_isDyadic_ps) (rs := [(.bool, false)]) (nx := 16) ⟨tyOf_ok tys_ok, gOf_ok ⟨impl_isPlaces_K, impl_inside_K, trivial⟩⟩ rfl (by kernel_rfl) (by kernel_rfl) (by kernel_rfl) (by kernel_rfl) (by kernel_rfl) (by kernel_rfl) rfl (by kernel_rfl) (by kernel_rfl) (AnnOk_list [] (by kernel_rfl) trivial) mix_ok (impl_isDyadic_eq)

noncomputable def impl_isBoxNumber_V : Variant := ⟨[.val ty_1 true], [(.bool, false)], fun x => impl_isBoxNumber x.1⟩
noncomputable def impl_isBoxNumber_C : Cfg := ⟨Try.prog, tyOf tys, 21, gOf [(135, [], impl_isDyadic_V), (57, [], impl_inside_V)], false, [], []⟩
def impl_isBoxNumber_ps : List PE := [⟨0, 0, .val ty_1 true, false⟩]
noncomputable def impl_isBoxNumber_F : Fn (Bool) := ⟨impl_isBoxNumber_C, rdRes Try.prog impl_isBoxNumber_ps [(.bool, false)] Try.f122.results.toList .ret, fun p => none, 0, []⟩
theorem impl_isBoxNumber_eq (x : PTe impl_isBoxNumber_ps) : evFn (impl_isBoxNumber_F) (codeOf Try.f122) impl_isBoxNumber_ps 16 x = impl_isBoxNumber x.1 := by kernel_rfl
theorem impl_isBoxNumber_K : Contract Try.prog 122 (impl_isBoxNumber_V) :=
  contract (C := impl_isBoxNumber_C) (F := impl_isBoxNumber_F) (fn := Try.f122) (ps := impl_isBoxNumber_ps) (rs := [(.bool, false)]) (nx := 16) ⟨tyOf_ok tys_ok, gOf_ok ⟨impl_isDyadic_K, impl_inside_K, trivial⟩⟩ rfl (by kernel_rfl) (by kernel_rfl) (by kernel_rfl) (by kernel_rfl) (by kernel_rfl) (by kernel_rfl) rfl (by kernel_rfl) (by kernel_rfl) (AnnOk_list [] (by kernel_rfl) trivial) mix_ok (impl_isBoxNumber_eq)

noncomputable def impl_isBoxPoint_1_V : Variant := ⟨[.val ty_1 true], [(.bool, false)], fun x => impl_isBoxPoint_1 x.1⟩
noncomputable def impl_isBoxPoint_1_C : Cfg := ⟨Try.prog, tyOf tys, 6, gOf [(122, [], impl_isBoxNumber_V)], false, [], []⟩
def impl_isBoxPoint_1_ps : List PE := [⟨0, 0, .val ty_1 true, false⟩]
noncomputable def impl_isBoxPoint_1_F : Fn (Bool) := ⟨impl_isBoxPoint_1_C, rdRes Try.prog impl_isBoxPoint_1_ps [(.bool, false)] Try.f121.results.toList .ret, fun p => none, 0, []⟩
theorem impl_isBoxPoint_1_eq (x : PTe impl_isBoxPoint_1_ps) : evFn (impl_isBoxPoint_1_F) (codeOf Try.f121) impl_isBoxPoint_1_ps 16 x = impl_isBoxPoint_1 x.1 := by kernel_rfl
theorem impl_isBoxPoint_1_K : Contract Try.prog 121 (impl_isBoxPoint_1_V) :=
  contract (C := impl_isBoxPoint_1_C) (F := impl_isBoxPoint_1_F) (fn := Try.f121) (ps := impl_isBoxPoint_1_ps) (rs := [(.bool, false)]) (nx := 16) ⟨tyOf_ok tys_ok, gOf_ok ⟨impl_isBoxNumber_K, trivial⟩⟩ rfl (by kernel_rfl) (by kernel_rfl) (by kernel_rfl) (by kernel_rfl) (by kernel_rfl) (by kernel_rfl) rfl (by kernel_rfl) (by kernel_rfl) (AnnOk_list [] (by kernel_rfl) trivial) mix_ok (impl_isBoxPoint_1_eq)

noncomputable def slices_IndexFunc_Dyadic_Dyadic_impl_isBoxPoint_1_V (k : Nat) : Variant := ⟨[.val ty_7 false, .fn 121 []], [(ty_0, false)], fun x => slices_IndexFunc_Dyadic_Dyadic_impl_isBoxPoint_1 k x.1 x.2.1⟩
noncomputable def slices_IndexFunc_Dyadic_Dyadic_impl_isBoxPoint_1_C (k : Nat) : Cfg := ⟨Try.prog, tyOf tys, 19, gOf [(121, [], impl_isBoxPoint_1_V)], false, [], []⟩
def slices_IndexFunc_Dyadic_Dyadic_impl_isBoxPoint_1_i26 : List PE := [⟨0, 32, .val ty_7 false, false⟩, ⟨1, 48, .fn 121 [], false⟩, ⟨7, 64, .val ty_0 false, false⟩, ⟨8, 80, .val ty_0 false, false⟩]
def slices_IndexFunc_Dyadic_Dyadic_impl_isBoxPoint_1_o26 : List PE := []
noncomputable def slices_IndexFunc_Dyadic_Dyadic_impl_isBoxPoint_1_f26 (k : Nat) (n : Nat) (x2 : PTe slices_IndexFunc_Dyadic_Dyadic_impl_isBoxPoint_1_i26) : Option ((Int) ⊕ PTe slices_IndexFunc_Dyadic_Dyadic_impl_isBoxPoint_1_o26) := slices_IndexFunc_Dyadic_Dyadic_impl_isBoxPoint_1_L26 k n x2.1 x2.2.1 x2.2.2.1 x2.2.2.2.1
def slices_IndexFunc_Dyadic_Dyadic_impl_isBoxPoint_1_ps : List PE := [⟨0, 0, .val ty_7 false, false⟩, ⟨1, 16, .fn 121 [], false⟩]
noncomputable def slices_IndexFunc_Dyadic_Dyadic_impl_isBoxPoint_1_F (k : Nat) : Fn (Int) := ⟨slices_IndexFunc_Dyadic_Dyadic_impl_isBoxPoint_1_C k, rdRes Try.prog slices_IndexFunc_Dyadic_Dyadic_impl_isBoxPoint_1_ps [(ty_0, false)] Try.f161.results.toList .ret, fun p => bif Nat.beq p 26 then some (.loop slices_IndexFunc_Dyadic_Dyadic_impl_isBoxPoint_1_i26 slices_IndexFunc_Dyadic_Dyadic_impl_isBoxPoint_1_o26 0 96 (slices_IndexFunc_Dyadic_Dyadic_impl_isBoxPoint_1_f26 k k)) else none, 0, []⟩
theorem slices_IndexFunc_Dyadic_Dyadic_impl_isBoxPoint_1_eq (k : Nat) (x : PTe slices_IndexFunc_Dyadic_Dyadic_impl_isBoxPoint_1_ps) : evFn (slices_IndexFunc_Dyadic_Dyadic_impl_isBoxPoint_1_F k) (codeOf Try.f161) slices_IndexFunc_Dyadic_Dyadic_impl_isBoxPoint_1_ps 32 x = slices_IndexFunc_Dyadic_Dyadic_impl_isBoxPoint_1 k x.1 x.2.1 := by kernel_rfl
theorem slices_IndexFunc_Dyadic_Dyadic_impl_isBoxPoint_1_ls : loopsOf (codeOf Try.f161) 1 = [(26, loopB (codeOf Try.f161) 26)] := by kernel_rfl
theorem slices_IndexFunc_Dyadic_Dyadic_impl_isBoxPoint_1_l26 (k : Nat) : LoopOk (slices_IndexFunc_Dyadic_Dyadic_impl_isBoxPoint_1_F k) (loopB (codeOf Try.f161) 26) 26 := LoopOk.mk (pin := slices_IndexFunc_Dyadic_Dyadic_impl_isBoxPoint_1_i26) (pout := slices_IndexFunc_Dyadic_Dyadic_impl_isBoxPoint_1_o26) (ex := 0) (nx := 96) (Lf := slices_IndexFunc_Dyadic_Dyadic_impl_isBoxPoint_1_f26 k) (k := k) (by kernel_rfl) (fun _ => rfl) (by intro n x; kernel_rfl)
theorem slices_IndexFunc_Dyadic_Dyadic_impl_isBoxPoint_1_K (k : Nat) : Contract Try.prog 161 (slices_IndexFunc_Dyadic_Dyadic_impl_isBoxPoint_1_V k) :=
  contract (C := slices_IndexFunc_Dyadic_Dyadic_impl_isBoxPoint_1_C k) (F := slices_IndexFunc_Dyadic_Dyadic_impl_isBoxPoint_1_F k) (fn := Try.f161) (ps := slices_IndexFunc_Dyadic_Dyadic_impl_isBoxPoint_1_ps) (rs := [(ty_0, false)]) (nx := 32) ⟨tyOf_ok tys_ok, gOf_ok ⟨impl_isBoxPoint_1_K, trivial⟩⟩ rfl (by kernel_rfl) (by kernel_rfl) (by kernel_rfl) (by kernel_rfl) (by kernel_rfl) (by kernel_rfl) rfl (by kernel_rfl) (by kernel_rfl) (AnnOk_list [(26, loopB (codeOf Try.f161) 26)] slices_IndexFunc_Dyadic_Dyadic_impl_isBoxPoint_1_ls ⟨slices_IndexFunc_Dyadic_Dyadic_impl_isBoxPoint_1_l26 k, trivial⟩) mix_ok (slices_IndexFunc_Dyadic_Dyadic_impl_isBoxPoint_1_eq k)

noncomputable def slices_ContainsFunc_Dyadic_Dyadic_impl_isBoxPoint_1_V (k : Nat) : Variant := ⟨[.val ty_7 false, .fn 121 []], [(.bool, false)], fun x => slices_ContainsFunc_Dyadic_Dyadic_impl_isBoxPoint_1 k x.1 x.2.1⟩
noncomputable def slices_ContainsFunc_Dyadic_Dyadic_impl_isBoxPoint_1_C (k : Nat) : Cfg := ⟨Try.prog, tyOf tys, 9, gOf [(161, [121], slices_IndexFunc_Dyadic_Dyadic_impl_isBoxPoint_1_V k)], false, [], []⟩
def slices_ContainsFunc_Dyadic_Dyadic_impl_isBoxPoint_1_ps : List PE := [⟨0, 0, .val ty_7 false, false⟩, ⟨1, 16, .fn 121 [], false⟩]
noncomputable def slices_ContainsFunc_Dyadic_Dyadic_impl_isBoxPoint_1_F (k : Nat) : Fn (Bool) := ⟨slices_ContainsFunc_Dyadic_Dyadic_impl_isBoxPoint_1_C k, rdRes Try.prog slices_ContainsFunc_Dyadic_Dyadic_impl_isBoxPoint_1_ps [(.bool, false)] Try.f120.results.toList .ret, fun p => none, 0, []⟩
theorem slices_ContainsFunc_Dyadic_Dyadic_impl_isBoxPoint_1_eq (k : Nat) (x : PTe slices_ContainsFunc_Dyadic_Dyadic_impl_isBoxPoint_1_ps) : evFn (slices_ContainsFunc_Dyadic_Dyadic_impl_isBoxPoint_1_F k) (codeOf Try.f120) slices_ContainsFunc_Dyadic_Dyadic_impl_isBoxPoint_1_ps 32 x = slices_ContainsFunc_Dyadic_Dyadic_impl_isBoxPoint_1 k x.1 x.2.1 := by kernel_rfl
theorem slices_ContainsFunc_Dyadic_Dyadic_impl_isBoxPoint_1_K (k : Nat) : Contract Try.prog 120 (slices_ContainsFunc_Dyadic_Dyadic_impl_isBoxPoint_1_V k) :=
  contract (C := slices_ContainsFunc_Dyadic_Dyadic_impl_isBoxPoint_1_C k) (F := slices_ContainsFunc_Dyadic_Dyadic_impl_isBoxPoint_1_F k) (fn := Try.f120) (ps := slices_ContainsFunc_Dyadic_Dyadic_impl_isBoxPoint_1_ps) (rs := [(.bool, false)]) (nx := 32) ⟨tyOf_ok tys_ok, gOf_ok ⟨slices_IndexFunc_Dyadic_Dyadic_impl_isBoxPoint_1_K k, trivial⟩⟩ rfl (by kernel_rfl) (by kernel_rfl) (by kernel_rfl) (by kernel_rfl) (by kernel_rfl) (by kernel_rfl) rfl (by kernel_rfl) (by kernel_rfl) (AnnOk_list [] (by kernel_rfl) trivial) mix_ok (slices_ContainsFunc_Dyadic_Dyadic_impl_isBoxPoint_1_eq k)

noncomputable def impl_isBoxPoint_V (k : Nat) : Variant := ⟨[.val ty_7 false], [(.bool, false)], fun x => impl_isBoxPoint k x.1⟩
noncomputable def impl_isBoxPoint_C (k : Nat) : Cfg := ⟨Try.prog, tyOf tys, 11, gOf [(57, [], impl_inside_V), (120, [121], slices_ContainsFunc_Dyadic_Dyadic_impl_isBoxPoint_1_V k)], false, [], []⟩
def impl_isBoxPoint_ps : List PE := [⟨0, 0, .val ty_7 false, false⟩]
noncomputable def impl_isBoxPoint_F (k : Nat) : Fn (Bool) := ⟨impl_isBoxPoint_C k, rdRes Try.prog impl_isBoxPoint_ps [(.bool, false)] Try.f72.results.toList .ret, fun p => none, 0, []⟩
theorem impl_isBoxPoint_eq (k : Nat) (x : PTe impl_isBoxPoint_ps) : evFn (impl_isBoxPoint_F k) (codeOf Try.f72) impl_isBoxPoint_ps 16 x = impl_isBoxPoint k x.1 := by kernel_rfl
theorem impl_isBoxPoint_K (k : Nat) : Contract Try.prog 72 (impl_isBoxPoint_V k) :=
  contract (C := impl_isBoxPoint_C k) (F := impl_isBoxPoint_F k) (fn := Try.f72) (ps := impl_isBoxPoint_ps) (rs := [(.bool, false)]) (nx := 16) ⟨tyOf_ok tys_ok, gOf_ok ⟨impl_inside_K, slices_ContainsFunc_Dyadic_Dyadic_impl_isBoxPoint_1_K k, trivial⟩⟩ rfl (by kernel_rfl) (by kernel_rfl) (by kernel_rfl) (by kernel_rfl) (by kernel_rfl) (by kernel_rfl) rfl (by kernel_rfl) (by kernel_rfl) (AnnOk_list [] (by kernel_rfl) trivial) mix_ok (impl_isBoxPoint_eq k)

noncomputable def impl_termOf_V : Variant := ⟨[.val ty_0 false, .val ty_2 true], [(ty_3, true)], fun x => impl_termOf x.1 x.2.1⟩
noncomputable def impl_termOf_C : Cfg := ⟨Try.prog, tyOf tys, 13, gOf [], false, [], []⟩
def impl_termOf_ps : List PE := [⟨0, 0, .val ty_0 false, false⟩, ⟨1, 16, .val ty_2 true, false⟩]
noncomputable def impl_termOf_F : Fn (Int × Int × Int × Int) := ⟨impl_termOf_C, rdRes Try.prog impl_termOf_ps [(ty_3, true)] Try.f123.results.toList .ret, fun p => none, 0, []⟩
theorem impl_termOf_eq (x : PTe impl_termOf_ps) : evFn (impl_termOf_F) (codeOf Try.f123) impl_termOf_ps 32 x = impl_termOf x.1 x.2.1 := by kernel_rfl
theorem impl_termOf_K : Contract Try.prog 123 (impl_termOf_V) :=
  contract (C := impl_termOf_C) (F := impl_termOf_F) (fn := Try.f123) (ps := impl_termOf_ps) (rs := [(ty_3, true)]) (nx := 32) ⟨tyOf_ok tys_ok, gOf_ok trivial⟩ rfl (by kernel_rfl) (by kernel_rfl) (by kernel_rfl) (by kernel_rfl) (by kernel_rfl) (by kernel_rfl) rfl (by kernel_rfl) (by kernel_rfl) (AnnOk_list [] (by kernel_rfl) trivial) mix_ok (impl_termOf_eq)

noncomputable def slices_Clone_Term_Term_V : Variant := ⟨[.val ty_4 false], [(ty_4, false)], fun x => slices_Clone_Term_Term x.1⟩
noncomputable def slices_Clone_Term_Term_C : Cfg := ⟨Try.prog, tyOf tys, 8, gOf [], false, [], []⟩
def slices_Clone_Term_Term_ps : List PE := [⟨0, 0, .val ty_4 false, false⟩]
noncomputable def slices_Clone_Term_Term_F : Fn (List (Int × Int × Int × Int)) := ⟨slices_Clone_Term_Term_C, rdRes Try.prog slices_Clone_Term_Term_ps [(ty_4, false)] Try.f162.results.toList .ret, fun p => none, 0, []⟩
theorem slices_Clone_Term_Term_eq (x : PTe slices_Clone_Term_Term_ps) : evFnN false (slices_Clone_Term_Term_F) (codeOf Try.f162) slices_Clone_Term_Term_ps 16 x = slices_Clone_Term_Term x.1 := by kernel_rfl
theorem slices_Clone_Term_Term_eq0 (x : (Unit)) : evFnN true (slices_Clone_Term_Term_F) (codeOf Try.f162) slices_Clone_Term_Term_ps 16 (([] : List (Int × Int × Int × Int)), x) = slices_Clone_Term_Term [] := by kernel_rfl
theorem slices_Clone_Term_Term_K : Contract Try.prog 162 (slices_Clone_Term_Term_V) :=
  contractN (C := slices_Clone_Term_Term_C) (F := slices_Clone_Term_Term_F) (fn := Try.f162) (ps := slices_Clone_Term_Term_ps) (rs := [(ty_4, false)]) (nx := 16) rfl ⟨tyOf_ok tys_ok, gOf_ok trivial⟩ rfl (by kernel_rfl) (by kernel_rfl) (by kernel_rfl) (by kernel_rfl) (by kernel_rfl) (by kernel_rfl) rfl (by kernel_rfl) (by kernel_rfl) (AnnOk_list [] (by kernel_rfl) trivial) mix_ok (slices_Clone_Term_Term_eq) (fun x h => by obtain ⟨x1, x2⟩ := x; have h : x1 = [] := h; subst h; exact slices_Clone_Term_Term_eq0 x2)

noncomputable def slices_insertionSortCmpFunc_Term_impl_compareTerms_V (k : Nat) : Variant := ⟨[.own ty_3, .val ty_0 false, .val ty_0 false, .fn 164 []], [], fun x => slices_insertionSortCmpFunc_Term_impl_compareTerms k x.1 x.2.1 x.2.2.1 x.2.2.2.1⟩
noncomputable def slices_insertionSortCmpFunc_Term_impl_compareTerms_C (k : Nat) : Cfg := ⟨Try.prog, tyOf tys, 53, gOf [(164, [], impl_compareTerms_V k)], false, [], []⟩
def slices_insertionSortCmpFunc_Term_impl_compareTerms_i402 : List PE := [⟨0, 0, .own ty_3, true⟩, ⟨1, 64, .val ty_0 false, false⟩, ⟨2, 80, .val ty_0 false, false⟩, ⟨3, 96, .fn 164 [], false⟩, ⟨8, 112, .val ty_0 false, false⟩, ⟨9, 128, .val ty_0 false, false⟩]
def slices_insertionSortCmpFunc_Term_impl_compareTerms_o402 : List PE := [⟨0, 0, .own ty_3, true⟩, ⟨1, 64, .val ty_0 false, false⟩, ⟨2, 80, .val ty_0 false, false⟩, ⟨3, 96, .fn 164 [], false⟩, ⟨8, 112, .val ty_0 false, false⟩]
noncomputable def slices_insertionSortCmpFunc_Term_impl_compareTerms_f402 (k : Nat) (n : Nat) (x2 : PTe slices_insertionSortCmpFunc_Term_impl_compareTerms_i402) : Option ((List (Int × Int × Int × Int)) ⊕ PTe slices_insertionSortCmpFunc_Term_impl_compareTerms_o402) := slices_insertionSortCmpFunc_Term_impl_compareTerms_L402 k n x2.1 x2.2.1 x2.2.2.1 x2.2.2.2.1 x2.2.2.2.2.1 x2.2.2.2.2.2.1
def slices_insertionSortCmpFunc_Term_impl_compareTerms_i6 : List PE := [⟨0, 0, .own ty_3, true⟩, ⟨1, 64, .val ty_0 false, false⟩, ⟨2, 80, .val ty_0 false, false⟩, ⟨3, 96, .fn 164 [], false⟩, ⟨8, 112, .val ty_0 false, false⟩]
def slices_insertionSortCmpFunc_Term_impl_compareTerms_o6 : List PE := [⟨0, 0, .own ty_3, true⟩]
noncomputable def slices_insertionSortCmpFunc_Term_impl_compareTerms_f6 (k : Nat) (n : Nat) (x5 : PTe slices_insertionSortCmpFunc_Term_impl_compareTerms_i6) : Option ((List (Int × Int × Int × Int)) ⊕ PTe slices_insertionSortCmpFunc_Term_impl_compareTerms_o6) := slices_insertionSortCmpFunc_Term_impl_compareTerms_L6 k n x5.1 x5.2.1 x5.2.2.1 x5.2.2.2.1 x5.2.2.2.2.1
def slices_insertionSortCmpFunc_Term_impl_compareTerms_ps : List PE := [⟨0, 0, .own ty_3, true⟩, ⟨1, 16, .val ty_0 false, false⟩, ⟨2, 32, .val ty_0 false, false⟩, ⟨3, 48, .fn 164 [], false⟩]
noncomputable def slices_insertionSortCmpFunc_Term_impl_compareTerms_F (k : Nat) : Fn (List (Int × Int × Int × Int)) := ⟨slices_insertionSortCmpFunc_Term_impl_compareTerms_C k, rdRes Try.prog slices_insertionSortCmpFunc_Term_impl_compareTerms_ps [] Try.f210.results.toList .ret, fun p => bif Nat.beq p 402 then some (.loop slices_insertionSortCmpFunc_Term_impl_compareTerms_i402 slices_insertionSortCmpFunc_Term_impl_compareTerms_o402 2 144 (slices_insertionSortCmpFunc_Term_impl_compareTerms_f402 k k)) else bif Nat.beq p 6 then some (.loop slices_insertionSortCmpFunc_Term_impl_compareTerms_i6 slices_insertionSortCmpFunc_Term_impl_compareTerms_o6 0 128 (slices_insertionSortCmpFunc_Term_impl_compareTerms_f6 k k)) else none, 0, [0]⟩
theorem slices_insertionSortCmpFunc_Term_impl_compareTerms_eq (k : Nat) (x : PTe slices_insertionSortCmpFunc_Term_impl_compareTerms_ps) : evFn (slices_insertionSortCmpFunc_Term_impl_compareTerms_F k) (codeOf Try.f210) slices_insertionSortCmpFunc_Term_impl_compareTerms_ps 64 x = slices_insertionSortCmpFunc_Term_impl_compareTerms k x.1 x.2.1 x.2.2.1 x.2.2.2.1 := by kernel_rfl
theorem slices_insertionSortCmpFunc_Term_impl_compareTerms_ls : loopsOf (codeOf Try.f210) 1 = [(6, loopB (codeOf Try.f210) 6), (402, loopB (codeOf Try.f210) 402)] := by kernel_rfl
theorem slices_insertionSortCmpFunc_Term_impl_compareTerms_l402 (k : Nat) : LoopOk (slices_insertionSortCmpFunc_Term_impl_compareTerms_F k) (loopB (codeOf Try.f210) 402) 402 := LoopOk.mk (pin := slices_insertionSortCmpFunc_Term_impl_compareTerms_i402) (pout := slices_insertionSortCmpFunc_Term_impl_compareTerms_o402) (ex := 2) (nx := 144) (Lf := slices_insertionSortCmpFunc_Term_impl_compareTerms_f402 k) (k := k) (by kernel_rfl) (fun _ => rfl) (by intro n x; kernel_rfl)
theorem slices_insertionSortCmpFunc_Term_impl_compareTerms_l6 (k : Nat) : LoopOk (slices_insertionSortCmpFunc_Term_impl_compareTerms_F k) (loopB (codeOf Try.f210) 6) 6 := LoopOk.mk (pin := slices_insertionSortCmpFunc_Term_impl_compareTerms_i6) (pout := slices_insertionSortCmpFunc_Term_impl_compareTerms_o6) (ex := 0) (nx := 128) (Lf := slices_insertionSortCmpFunc_Term_impl_compareTerms_f6 k) (k := k) (by kernel_rfl) (fun _ => rfl) (by intro n x; kernel_rfl)
theorem slices_insertionSortCmpFunc_Term_impl_compareTerms_K (k : Nat) : Contract Try.prog 210 (slices_insertionSortCmpFunc_Term_impl_compareTerms_V k) :=
  contract (C := slices_insertionSortCmpFunc_Term_impl_compareTerms_C k) (F := slices_insertionSortCmpFunc_Term_impl_compareTerms_F k) (fn := Try.f210) (ps := slices_insertionSortCmpFunc_Term_impl_compareTerms_ps) (rs := []) (nx := 64) ⟨tyOf_ok tys_ok, gOf_ok ⟨impl_compareTerms_K k, trivial⟩⟩ rfl (by kernel_rfl) (by kernel_rfl) (by kernel_rfl) (by kernel_rfl) (by kernel_rfl) (by kernel_rfl) rfl (by kernel_rfl) (by kernel_rfl) (AnnOk_list [(6, loopB (codeOf Try.f210) 6), (402, loopB (codeOf Try.f210) 402)] slices_insertionSortCmpFunc_Term_impl_compareTerms_ls ⟨slices_insertionSortCmpFunc_Term_impl_compareTerms_l6 k, slices_insertionSortCmpFunc_Term_impl_compareTerms_l402 k, trivial⟩) mix_ok (slices_insertionSortCmpFunc_Term_impl_compareTerms_eq k)

noncomputable def slices_stableCmpFunc_Term_impl_compareTerms_V (k : Nat) : Variant := ⟨[.own ty_3, .val ty_0 false, .fn 164 []], [], fun x => slices_stableCmpFunc_Term_impl_compareTerms k x.1 x.2.1 x.2.2.1⟩
noncomputable def slices_stableCmpFunc_Term_impl_compareTerms_C (k : Nat) : Cfg := ⟨Try.prog, tyOf tys, 63, gOf [(210, [164], slices_insertionSortCmpFunc_Term_impl_compareTerms_V k)], false, [], []⟩
def slices_stableCmpFunc_Term_impl_compareTerms_i28 : List PE := [⟨0, 0, .own ty_3, true⟩, ⟨1, 48, .val ty_0 false, false⟩, ⟨2, 64, .fn 164 [], false⟩, ⟨6, 80, .val ty_0 false, false⟩, ⟨7, 96, .val ty_0 false, false⟩, ⟨8, 112, .val ty_0 false, false⟩]
def slices_stableCmpFunc_Term_impl_compareTerms_o28 : List PE := [⟨0, 0, .own ty_3, true⟩, ⟨1, 48, .val ty_0 false, false⟩, ⟨2, 64, .fn 164 [], false⟩, ⟨6, 80, .val ty_0 false, false⟩, ⟨7, 96, .val ty_0 false, false⟩]
noncomputable def slices_stableCmpFunc_Term_impl_compareTerms_f28 (k : Nat) (n : Nat) (x2 : PTe slices_stableCmpFunc_Term_impl_compareTerms_i28) : Option ((List (Int × Int × Int × Int)) ⊕ PTe slices_stableCmpFunc_Term_impl_compareTerms_o28) := slices_stableCmpFunc_Term_impl_compareTerms_L28 k n x2.1 x2.2.1 x2.2.2.1 x2.2.2.2.1 x2.2.2.2.2.1 x2.2.2.2.2.2.1
def slices_stableCmpFunc_Term_impl_compareTerms_i3988 : List PE := [⟨0, 0, .own ty_3, true⟩, ⟨1, 48, .val ty_0 false, false⟩, ⟨2, 64, .fn 164 [], false⟩, ⟨6, 80, .val ty_0 false, false⟩, ⟨7, 96, .val ty_0 false, false⟩, ⟨8, 112, .val ty_0 false, false⟩]
def slices_stableCmpFunc_Term_impl_compareTerms_o3988 : List PE := [⟨0, 0, .own ty_3, true⟩, ⟨1, 48, .val ty_0 false, false⟩, ⟨2, 64, .fn 164 [], false⟩, ⟨6, 80, .val ty_0 false, false⟩, ⟨7, 96, .val ty_0 false, false⟩]
noncomputable def slices_stableCmpFunc_Term_impl_compareTerms_f3988 (k : Nat) (n : Nat) (x6 : PTe slices_stableCmpFunc_Term_impl_compareTerms_i3988) : Option ((List (Int × Int × Int × Int)) ⊕ PTe slices_stableCmpFunc_Term_impl_compareTerms_o3988) := slices_stableCmpFunc_Term_impl_compareTerms_L3988 k n x6.1 x6.2.1 x6.2.2.1 x6.2.2.2.1 x6.2.2.2.2.1 x6.2.2.2.2.2.1
def slices_stableCmpFunc_Term_impl_compareTerms_i62 : List PE := [⟨0, 0, .own ty_3, true⟩, ⟨1, 48, .val ty_0 false, false⟩, ⟨2, 64, .fn 164 [], false⟩, ⟨6, 80, .val ty_0 false, false⟩]
def slices_stableCmpFunc_Term_impl_compareTerms_o62 : List PE := [⟨0, 0, .own ty_3, true⟩]
noncomputable def slices_stableCmpFunc_Term_impl_compareTerms_f62 (k : Nat) (n : Nat) (x9 : PTe slices_stableCmpFunc_Term_impl_compareTerms_i62) : Option ((List (Int × Int × Int × Int)) ⊕ PTe slices_stableCmpFunc_Term_impl_compareTerms_o62) := slices_stableCmpFunc_Term_impl_compareTerms_L62 k n x9.1 x9.2.1 x9.2.2.1 x9.2.2.2.1
def slices_stableCmpFunc_Term_impl_compareTerms_ps : List PE := [⟨0, 0, .own ty_3, true⟩, ⟨1, 16, .val ty_0 false, false⟩, ⟨2, 32, .fn 164 [], false⟩]
noncomputable def slices_stableCmpFunc_Term_impl_compareTerms_F (k : Nat) : Fn (List (Int × Int × Int × Int)) := ⟨slices_stableCmpFunc_Term_impl_compareTerms_C k, rdRes Try.prog slices_stableCmpFunc_Term_impl_compareTerms_ps [] Try.f194.results.toList .ret, fun p => bif Nat.beq p 28 then some (.loop slices_stableCmpFunc_Term_impl_compareTerms_i28 slices_stableCmpFunc_Term_impl_compareTerms_o28 0 128 (slices_stableCmpFunc_Term_impl_compareTerms_f28 k k)) else bif Nat.beq p 3988 then some (.loop slices_stableCmpFunc_Term_impl_compareTerms_i3988 slices_stableCmpFunc_Term_impl_compareTerms_o3988 4 128 (slices_stableCmpFunc_Term_impl_compareTerms_f3988 k k)) else bif Nat.beq p 62 then some (.loop slices_stableCmpFunc_Term_impl_compareTerms_i62 slices_stableCmpFunc_Term_impl_compareTerms_o62 2 96 (slices_stableCmpFunc_Term_impl_compareTerms_f62 k k)) else none, 0, [0]⟩
theorem slices_stableCmpFunc_Term_impl_compareTerms_eq (k : Nat) (x : PTe slices_stableCmpFunc_Term_impl_compareTerms_ps) : evFn (slices_stableCmpFunc_Term_impl_compareTerms_F k) (codeOf Try.f194) slices_stableCmpFunc_Term_impl_compareTerms_ps 48 x = slices_stableCmpFunc_Term_impl_compareTerms k x.1 x.2.1 x.2.2.1 := by kernel_rfl
theorem slices_stableCmpFunc_Term_impl_compareTerms_ls : loopsOf (codeOf Try.f194) 1 = [(28, loopB (codeOf Try.f194) 28), (62, loopB (codeOf Try.f194) 62), (3988, loopB (codeOf Try.f194) 3988)] := by kernel_rfl
theorem slices_stableCmpFunc_Term_impl_compareTerms_l28 (k : Nat) : LoopOk (slices_stableCmpFunc_Term_impl_compareTerms_F k) (loopB (codeOf Try.f194) 28) 28 := LoopOk.mk (pin := slices_stableCmpFunc_Term_impl_compareTerms_i28) (pout := slices_stableCmpFunc_Term_impl_compareTerms_o28) (ex := 0) (nx := 128) (Lf := slices_stableCmpFunc_Term_impl_compareTerms_f28 k) (k := k) (by kernel_rfl) (fun _ => rfl) (by intro n x; kernel_rfl)
theorem slices_stableCmpFunc_Term_impl_compareTerms_l3988 (k : Nat) : LoopOk (slices_stableCmpFunc_Term_impl_compareTerms_F k) (loopB (codeOf Try.f194) 3988) 3988 := LoopOk.mk (pin := slices_stableCmpFunc_Term_impl_compareTerms_i3988) (pout := slices_stableCmpFunc_Term_impl_compareTerms_o3988) (ex := 4) (nx := 128) (Lf := slices_stableCmpFunc_Term_impl_compareTerms_f3988 k) (k := k) (by kernel_rfl) (fun _ => rfl) (by intro n x; kernel_rfl)
theorem slices_stableCmpFunc_Term_impl_compareTerms_l62 (k : Nat) : LoopOk (slices_stableCmpFunc_Term_impl_compareTerms_F k) (loopB (codeOf Try.f194) 62) 62 := LoopOk.mk (pin := slices_stableCmpFunc_Term_impl_compareTerms_i62) (pout := slices_stableCmpFunc_Term_impl_compareTerms_o62) (ex := 2) (nx := 96) (Lf := slices_stableCmpFunc_Term_impl_compareTerms_f62 k) (k := k) (by kernel_rfl) (fun _ => rfl) (by intro n x; kernel_rfl)
theorem slices_stableCmpFunc_Term_impl_compareTerms_K (k : Nat) : Contract Try.prog 194 (slices_stableCmpFunc_Term_impl_compareTerms_V k) :=
  contract (C := slices_stableCmpFunc_Term_impl_compareTerms_C k) (F := slices_stableCmpFunc_Term_impl_compareTerms_F k) (fn := Try.f194) (ps := slices_stableCmpFunc_Term_impl_compareTerms_ps) (rs := []) (nx := 48) ⟨tyOf_ok tys_ok, gOf_ok ⟨slices_insertionSortCmpFunc_Term_impl_compareTerms_K k, trivial⟩⟩ rfl (by kernel_rfl) (by kernel_rfl) (by kernel_rfl) (by kernel_rfl) (by kernel_rfl) (by kernel_rfl) rfl (by kernel_rfl) (by kernel_rfl) (AnnOk_list [(28, loopB (codeOf Try.f194) 28), (62, loopB (codeOf Try.f194) 62), (3988, loopB (codeOf Try.f194) 3988)] slices_stableCmpFunc_Term_impl_compareTerms_ls ⟨slices_stableCmpFunc_Term_impl_compareTerms_l28 k, slices_stableCmpFunc_Term_impl_compareTerms_l62 k, slices_stableCmpFunc_Term_impl_compareTerms_l3988 k, trivial⟩) mix_ok (slices_stableCmpFunc_Term_impl_compareTerms_eq k)

noncomputable def slices_SortStableFunc_Term_Term_impl_compareTerms_V (k : Nat) : Variant := ⟨[.own ty_3, .fn 164 []], [], fun x => slices_SortStableFunc_Term_Term_impl_compareTerms k x.1 x.2.1⟩
noncomputable def slices_SortStableFunc_Term_Term_impl_compareTerms_C (k : Nat) : Cfg := ⟨Try.prog, tyOf tys, 9, gOf [(194, [164], slices_stableCmpFunc_Term_impl_compareTerms_V k)], false, [], []⟩
def slices_SortStableFunc_Term_Term_impl_compareTerms_ps : List PE := [⟨0, 0, .own ty_3, true⟩, ⟨1, 16, .fn 164 [], false⟩]
noncomputable def slices_SortStableFunc_Term_Term_impl_compareTerms_F (k : Nat) : Fn (List (Int × Int × Int × Int)) := ⟨slices_SortStableFunc_Term_Term_impl_compareTerms_C k, rdRes Try.prog slices_SortStableFunc_Term_Term_impl_compareTerms_ps [] Try.f163.results.toList .ret, fun p => none, 0, [0]⟩
theorem slices_SortStableFunc_Term_Term_impl_compareTerms_eq (k : Nat) (x : PTe slices_SortStableFunc_Term_Term_impl_compareTerms_ps) : evFn (slices_SortStableFunc_Term_Term_impl_compareTerms_F k) (codeOf Try.f163) slices_SortStableFunc_Term_Term_impl_compareTerms_ps 32 x = slices_SortStableFunc_Term_Term_impl_compareTerms k x.1 x.2.1 := by kernel_rfl
theorem slices_SortStableFunc_Term_Term_impl_compareTerms_K (k : Nat) : Contract Try.prog 163 (slices_SortStableFunc_Term_Term_impl_compareTerms_V k) :=
  contract (C := slices_SortStableFunc_Term_Term_impl_compareTerms_C k) (F := slices_SortStableFunc_Term_Term_impl_compareTerms_F k) (fn := Try.f163) (ps := slices_SortStableFunc_Term_Term_impl_compareTerms_ps) (rs := []) (nx := 32) ⟨tyOf_ok tys_ok, gOf_ok ⟨slices_stableCmpFunc_Term_impl_compareTerms_K k, trivial⟩⟩ rfl (by kernel_rfl) (by kernel_rfl) (by kernel_rfl) (by kernel_rfl) (by kernel_rfl) (by kernel_rfl) rfl (by kernel_rfl) (by kernel_rfl) (AnnOk_list [] (by kernel_rfl) trivial) mix_ok (slices_SortStableFunc_Term_Term_impl_compareTerms_eq k)

noncomputable def impl_collect_1_V : Variant := ⟨[.val ty_3 true], [(.bool, false)], fun x => impl_collect_1 x.1⟩
noncomputable def impl_collect_1_C : Cfg := ⟨Try.prog, tyOf tys, 6, gOf [], false, [], []⟩
def impl_collect_1_ps : List PE := [⟨0, 0, .val ty_3 true, false⟩]
noncomputable def impl_collect_1_F : Fn (Bool) := ⟨impl_collect_1_C, rdRes Try.prog impl_collect_1_ps [(.bool, false)] Try.f166.results.toList .ret, fun p => none, 0, []⟩
theorem impl_collect_1_eq (x : PTe impl_collect_1_ps) : evFn (impl_collect_1_F) (codeOf Try.f166) impl_collect_1_ps 16 x = impl_collect_1 x.1 := by kernel_rfl
theorem impl_collect_1_K : Contract Try.prog 166 (impl_collect_1_V) :=
  contract (C := impl_collect_1_C) (F := impl_collect_1_F) (fn := Try.f166) (ps := impl_collect_1_ps) (rs := [(.bool, false)]) (nx := 16) ⟨tyOf_ok tys_ok, gOf_ok trivial⟩ rfl (by kernel_rfl) (by kernel_rfl) (by kernel_rfl) (by kernel_rfl) (by kernel_rfl) (by kernel_rfl) rfl (by kernel_rfl) (by kernel_rfl) (AnnOk_list [] (by kernel_rfl) trivial) mix_ok (impl_collect_1_eq)

noncomputable def slices_IndexFunc_Term_Term_impl_collect_1_V (k : Nat) : Variant := ⟨[.val ty_4 false, .fn 166 []], [(ty_0, false)], fun x => slices_IndexFunc_Term_Term_impl_collect_1 k x.1 x.2.1⟩
noncomputable def slices_IndexFunc_Term_Term_impl_collect_1_C (k : Nat) : Cfg := ⟨Try.prog, tyOf tys, 19, gOf [(166, [], impl_collect_1_V)], false, [], []⟩
def slices_IndexFunc_Term_Term_impl_collect_1_i26 : List PE := [⟨0, 32, .val ty_4 false, false⟩, ⟨1, 48, .fn 166 [], false⟩, ⟨7, 64, .val ty_0 false, false⟩, ⟨8, 80, .val ty_0 false, false⟩]
def slices_IndexFunc_Term_Term_impl_collect_1_o26 : List PE := []
noncomputable def slices_IndexFunc_Term_Term_impl_collect_1_f26 (k : Nat) (n : Nat) (x2 : PTe slices_IndexFunc_Term_Term_impl_collect_1_i26) : Option ((Int) ⊕ PTe slices_IndexFunc_Term_Term_impl_collect_1_o26) := slices_IndexFunc_Term_Term_impl_collect_1_L26 k n x2.1 x2.2.1 x2.2.2.1 x2.2.2.2.1
def slices_IndexFunc_Term_Term_impl_collect_1_ps : List PE := [⟨0, 0, .val ty_4 false, false⟩, ⟨1, 16, .fn 166 [], false⟩]
noncomputable def slices_IndexFunc_Term_Term_impl_collect_1_F (k : Nat) : Fn (Int) := ⟨slices_IndexFunc_Term_Term_impl_collect_1_C k, rdRes Try.prog slices_IndexFunc_Term_Term_impl_collect_1_ps [(ty_0, false)] Try.f196.results.toList .ret, fun p => bif Nat.beq p 26 then some (.loop slices_IndexFunc_Term_Term_impl_collect_1_i26 slices_IndexFunc_Term_Term_impl_collect_1_o26 0 96 (slices_IndexFunc_Term_Term_impl_collect_1_f26 k k)) else none, 0, []⟩
theorem slices_IndexFunc_Term_Term_impl_collect_1_eq (k : Nat) (x : PTe slices_IndexFunc_Term_Term_impl_collect_1_ps) : evFn (slices_IndexFunc_Term_Term_impl_collect_1_F k) (codeOf Try.f196) slices_IndexFunc_Term_Term_impl_collect_1_ps 32 x = slices_IndexFunc_Term_Term_impl_collect_1 k x.1 x.2.1 := by kernel_rfl
theorem slices_IndexFunc_Term_Term_impl_collect_1_ls : loopsOf (codeOf Try.f196) 1 = [(26, loopB (codeOf Try.f196) 26)] := by kernel_rfl
theorem slices_IndexFunc_Term_Term_impl_collect_1_l26 (k : Nat) : LoopOk (slices_IndexFunc_Term_Term_impl_collect_1_F k) (loopB (codeOf Try.f196) 26) 26 := LoopOk.mk (pin := slices_IndexFunc_Term_Term_impl_collect_1_i26) (pout := slices_IndexFunc_Term_Term_impl_collect_1_o26) (ex := 0) (nx := 96) (Lf := slices_IndexFunc_Term_Term_impl_collect_1_f26 k) (k := k) (by kernel_rfl) (fun _ => rfl) (by intro n x; kernel_rfl)
theorem slices_IndexFunc_Term_Term_impl_collect_1_K (k : Nat) : Contract Try.prog 196 (slices_IndexFunc_Term_Term_impl_collect_1_V k) :=
  contract (C := slices_IndexFunc_Term_Term_impl_collect_1_C k) (F := slices_IndexFunc_Term_Term_impl_collect_1_F k) (fn := Try.f196) (ps := slices_IndexFunc_Term_Term_impl_collect_1_ps) (rs := [(ty_0, false)]) (nx := 32) ⟨tyOf_ok tys_ok, gOf_ok ⟨impl_collect_1_K, trivial⟩⟩ rfl (by kernel_rfl) (by kernel_rfl) (by kernel_rfl) (by kernel_rfl) (by kernel_rfl) (by kernel_rfl) rfl (by kernel_rfl) (by kernel_rfl) (AnnOk_list [(26, loopB (codeOf Try.f196) 26)] slices_IndexFunc_Term_Term_impl_collect_1_ls ⟨slices_IndexFunc_Term_Term_impl_collect_1_l26 k, trivial⟩) mix_ok (slices_IndexFunc_Term_Term_impl_collect_1_eq k)

noncomputable def slices_DeleteFunc_Term_Term_impl_collect_1_V (k : Nat) : Variant := ⟨[.eat ty_3, .fn 166 []], [(ty_4, false)], fun x => slices_DeleteFunc_Term_Term_impl_collect_1 k x.1 x.2.1⟩
noncomputable def slices_DeleteFunc_Term_Term_impl_collect_1_C (k : Nat) : Cfg := ⟨Try.prog, tyOf tys, 42, gOf [(196, [166], slices_IndexFunc_Term_Term_impl_collect_1_V k), (166, [], impl_collect_1_V)], true, [], []⟩
def slices_DeleteFunc_Term_Term_impl_collect_1_i122 : List PE := [⟨0, 32, .eat ty_3, false⟩, ⟨1, 48, .fn 166 [], false⟩, ⟨5, 64, .val ty_0 false, false⟩, ⟨6, 80, .val ty_0 false, false⟩]
def slices_DeleteFunc_Term_Term_impl_collect_1_o122 : List PE := [⟨0, 32, .eat ty_3, false⟩, ⟨5, 48, .val ty_0 false, false⟩]
noncomputable def slices_DeleteFunc_Term_Term_impl_collect_1_f122 (k : Nat) (n : Nat) (x3 : PTe slices_DeleteFunc_Term_Term_impl_collect_1_i122) : Option ((List (Int × Int × Int × Int)) ⊕ PTe slices_DeleteFunc_Term_Term_impl_collect_1_o122) := slices_DeleteFunc_Term_Term_impl_collect_1_L122 k n x3.1 x3.2.1 x3.2.2.1 x3.2.2.2.1
def slices_DeleteFunc_Term_Term_impl_collect_1_ps : List PE := [⟨0, 0, .eat ty_3, false⟩, ⟨1, 16, .fn 166 [], false⟩]
noncomputable def slices_DeleteFunc_Term_Term_impl_collect_1_F (k : Nat) : Fn (List (Int × Int × Int × Int)) := ⟨slices_DeleteFunc_Term_Term_impl_collect_1_C k, rdRes Try.prog slices_DeleteFunc_Term_Term_impl_collect_1_ps [(ty_4, false)] Try.f165.results.toList .ret, fun p => bif Nat.beq p 122 then some (.loop slices_DeleteFunc_Term_Term_impl_collect_1_i122 slices_DeleteFunc_Term_Term_impl_collect_1_o122 0 96 (slices_DeleteFunc_Term_Term_impl_collect_1_f122 k k)) else none, 0, []⟩
theorem slices_DeleteFunc_Term_Term_impl_collect_1_eq (k : Nat) (x : PTe slices_DeleteFunc_Term_Term_impl_collect_1_ps) : evFn (slices_DeleteFunc_Term_Term_impl_collect_1_F k) (codeOf Try.f165) slices_DeleteFunc_Term_Term_impl_collect_1_ps 32 x = slices_DeleteFunc_Term_Term_impl_collect_1 k x.1 x.2.1 := by kernel_rfl
theorem slices_DeleteFunc_Term_Term_impl_collect_1_ls : loopsOf (codeOf Try.f165) 1 = [(122, loopB (codeOf Try.f165) 122)] := by kernel_rfl
theorem slices_DeleteFunc_Term_Term_impl_collect_1_l122 (k : Nat) : LoopOk (slices_DeleteFunc_Term_Term_impl_collect_1_F k) (loopB (codeOf Try.f165) 122) 122 := LoopOk.mk (pin := slices_DeleteFunc_Term_Term_impl_collect_1_i122) (pout := slices_DeleteFunc_Term_Term_impl_collect_1_o122) (ex := 0) (nx := 96) (Lf := slices_DeleteFunc_Term_Term_impl_collect_1_f122 k) (k := k) (by kernel_rfl) (fun _ => rfl) (by intro n x; kernel_rfl)
theorem slices_DeleteFunc_Term_Term_impl_collect_1_K (k : Nat) : Contract Try.prog 165 (slices_DeleteFunc_Term_Term_impl_collect_1_V k) :=
  contract (C := slices_DeleteFunc_Term_Term_impl_collect_1_C k) (F := slices_DeleteFunc_Term_Term_impl_collect_1_F k) (fn := Try.f165) (ps := slices_DeleteFunc_Term_Term_impl_collect_1_ps) (rs := [(ty_4, false)]) (nx := 32) ⟨tyOf_ok tys_ok, gOf_ok ⟨slices_IndexFunc_Term_Term_impl_collect_1_K k, impl_collect_1_K, trivial⟩⟩ rfl (by kernel_rfl) (by kernel_rfl) (by kernel_rfl) (by kernel_rfl) (by kernel_rfl) (by kernel_rfl) rfl (by kernel_rfl) (by kernel_rfl) (AnnOk_list [(122, loopB (codeOf Try.f165) 122)] slices_DeleteFunc_Term_Term_impl_collect_1_ls ⟨slices_DeleteFunc_Term_Term_impl_collect_1_l122 k, trivial⟩) mix_ok (slices_DeleteFunc_Term_Term_impl_collect_1_eq k)

noncomputable def impl_collect_V (k : Nat) : Variant := ⟨[.val ty_4 false], [(ty_4, false)], fun x => impl_collect k x.1⟩
noncomputable def impl_collect_C (k : Nat) : Cfg := ⟨Try.prog, tyOf tys, 50, gOf [(162, [], slices_Clone_Term_Term_V), (163, [164], slices_SortStableFunc_Term_Term_impl_compareTerms_V k), (164, [], impl_compareTerms_V k), (165, [166], slices_DeleteFunc_Term_Term_impl_collect_1_V k)], false, [], []⟩
def impl_collect_i250 : List PE := [⟨4, 16, .eat ty_3, false⟩, ⟨12, 32, .eat ty_3, false⟩, ⟨13, 48, .val ty_0 false, false⟩, ⟨14, 64, .val ty_0 false, false⟩]
def impl_collect_o250 : List PE := [⟨4, 16, .eat ty_3, false⟩]
noncomputable def impl_collect_f250 (k : Nat) (n : Nat) (x4 : PTe impl_collect_i250) : Option ((List (Int × Int × Int × Int)) ⊕ PTe impl_collect_o250) := impl_collect_L250 k n x4.1 x4.2.1 x4.2.2.1 x4.2.2.2.1
def impl_collect_ps : List PE := [⟨0, 0, .val ty_4 false, false⟩]
noncomputable def impl_collect_F (k : Nat) : Fn (List (Int × Int × Int × Int)) := ⟨impl_collect_C k, rdRes Try.prog impl_collect_ps [(ty_4, false)] Try.f124.results.toList .ret, fun p => bif Nat.beq p 250 then some (.loop impl_collect_i250 impl_collect_o250 0 80 (impl_collect_f250 k k)) else none, 0, []⟩
theorem impl_collect_eq (k : Nat) (x : PTe impl_collect_ps) : evFn (impl_collect_F k) (codeOf Try.f124) impl_collect_ps 16 x = impl_collect k x.1 := by kernel_rfl
theorem impl_collect_ls : loopsOf (codeOf Try.f124) 1 = [(250, loopB (codeOf Try.f124) 250)] := by kernel_rfl
theorem impl_collect_l250 (k : Nat) : LoopOk (impl_collect_F k) (loopB (codeOf Try.f124) 250) 250 := LoopOk.mk (pin := impl_collect_i250) (pout := impl_collect_o250) (ex := 0) (nx := 80) (Lf := impl_collect_f250 k) (k := k) (by kernel_rfl) (fun _ => rfl) (by intro n x; kernel_rfl)
theorem impl_collect_K (k : Nat) : Contract Try.prog 124 (impl_collect_V k) :=
  contract (C := impl_collect_C k) (F := impl_collect_F k) (fn := Try.f124) (ps := impl_collect_ps) (rs := [(ty_4, false)]) (nx := 16) ⟨tyOf_ok tys_ok, gOf_ok ⟨slices_Clone_Term_Term_K, slices_SortStableFunc_Term_Term_impl_compareTerms_K k, impl_compareTerms_K k, slices_DeleteFunc_Term_Term_impl_collect_1_K k, trivial⟩⟩ rfl (by kernel_rfl) (by kernel_rfl) (by kernel_rfl) (by kernel_rfl) (by kernel_rfl) (by kernel_rfl) rfl (by kernel_rfl) (by kernel_rfl) (AnnOk_list [(250, loopB (codeOf Try.f124) 250)] impl_collect_ls ⟨impl_collect_l250 k, trivial⟩) mix_ok (impl_collect_eq k)

noncomputable def impl_derive_V (k : Nat) : Variant := ⟨[.val ty_4 false, .val ty_0 false], [(ty_4, false)], fun x => impl_derive k x.1 x.2.1⟩
noncomputable def impl_derive_C (k : Nat) : Cfg := ⟨Try.prog, tyOf tys, 40, gOf [(107, [], impl_Term_exponents_V), (123, [], impl_termOf_V), (124, [], impl_collect_V k)], false, [], []⟩
def impl_derive_i58 : List PE := [⟨1, 32, .val ty_0 false, false⟩, ⟨5, 48, .eat ty_3, false⟩, ⟨10, 64, .val ty_4 false, false⟩, ⟨11, 80, .val ty_0 false, false⟩, ⟨12, 96, .val ty_0 false, false⟩]
def impl_derive_o58 : List PE := [⟨5, 32, .eat ty_3, false⟩]
noncomputable def impl_derive_f58 (k : Nat) (n : Nat) (x29 : PTe impl_derive_i58) : Option ((List (Int × Int × Int × Int)) ⊕ PTe impl_derive_o58) := impl_derive_L58 k n x29.1 x29.2.1 x29.2.2.1 x29.2.2.2.1 x29.2.2.2.2.1
def impl_derive_ps : List PE := [⟨0, 0, .val ty_4 false, false⟩, ⟨1, 16, .val ty_0 false, false⟩]
noncomputable def impl_derive_F (k : Nat) : Fn (List (Int × Int × Int × Int)) := ⟨impl_derive_C k, rdRes Try.prog impl_derive_ps [(ty_4, false)] Try.f73.results.toList .ret, fun p => bif Nat.beq p 58 then some (.loop impl_derive_i58 impl_derive_o58 0 112 (impl_derive_f58 k k)) else none, 0, []⟩
theorem impl_derive_eq (k : Nat) (x : PTe impl_derive_ps) : evFn (impl_derive_F k) (codeOf Try.f73) impl_derive_ps 32 x = impl_derive k x.1 x.2.1 := by kernel_rfl
theorem impl_derive_ls : loopsOf (codeOf Try.f73) 1 = [(58, loopB (codeOf Try.f73) 58)] := by kernel_rfl
theorem impl_derive_l58 (k : Nat) : LoopOk (impl_derive_F k) (loopB (codeOf Try.f73) 58) 58 := LoopOk.mk (pin := impl_derive_i58) (pout := impl_derive_o58) (ex := 0) (nx := 112) (Lf := impl_derive_f58 k) (k := k) (by kernel_rfl) (fun _ => rfl) (by intro n x; kernel_rfl)
theorem impl_derive_K (k : Nat) : Contract Try.prog 73 (impl_derive_V k) :=
  contract (C := impl_derive_C k) (F := impl_derive_F k) (fn := Try.f73) (ps := impl_derive_ps) (rs := [(ty_4, false)]) (nx := 32) ⟨tyOf_ok tys_ok, gOf_ok ⟨impl_Term_exponents_K, impl_termOf_K, impl_collect_K k, trivial⟩⟩ rfl (by kernel_rfl) (by kernel_rfl) (by kernel_rfl) (by kernel_rfl) (by kernel_rfl) (by kernel_rfl) rfl (by kernel_rfl) (by kernel_rfl) (AnnOk_list [(58, loopB (codeOf Try.f73) 58)] impl_derive_ls ⟨impl_derive_l58 k, trivial⟩) mix_ok (impl_derive_eq k)

noncomputable def impl_scaledAt_V (k : Nat) : Variant := ⟨[.val ty_4 false, .val ty_7 false], [(ty_0, false)], fun x => impl_scaledAt k x.1 x.2.1⟩
noncomputable def impl_scaledAt_C (k : Nat) : Cfg := ⟨Try.prog, tyOf tys, 54, gOf [(106, [], impl_Term_degree_V), (107, [], impl_Term_exponents_V)], false, [], []⟩
def impl_scaledAt_i15309414 : List PE := [⟨1, 32, .val ty_7 false, false⟩, ⟨5, 48, .val ty_0 false, false⟩, ⟨8, 64, .val ty_0 false, false⟩, ⟨9, 80, .val ty_0 false, false⟩, ⟨11, 96, .val ty_4 false, false⟩, ⟨12, 112, .val ty_0 false, false⟩, ⟨13, 128, .val ty_0 false, false⟩, ⟨25, 144, .val ty_2 true, false⟩, ⟨26, 160, .val ty_0 false, false⟩, ⟨30, 176, .val ty_0 false, false⟩, ⟨31, 192, .val ty_0 false, false⟩]
def impl_scaledAt_o15309414 : List PE := [⟨1, 32, .val ty_7 false, false⟩, ⟨5, 48, .val ty_0 false, false⟩, ⟨8, 64, .val ty_0 false, false⟩, ⟨11, 80, .val ty_4 false, false⟩, ⟨12, 96, .val ty_0 false, false⟩, ⟨13, 112, .val ty_0 false, false⟩, ⟨25, 128, .val ty_2 true, false⟩, ⟨26, 144, .val ty_0 false, false⟩]
noncomputable def impl_scaledAt_f15309414 (k : Nat) (n : Nat) (x3 : PTe impl_scaledAt_i15309414) : Option ((Int) ⊕ PTe impl_scaledAt_o15309414) := impl_scaledAt_L15309414 k n x3.1 x3.2.1 x3.2.2.1 x3.2.2.2.1 x3.2.2.2.2.1 x3.2.2.2.2.2.1 x3.2.2.2.2.2.2.1 x3.2.2.2.2.2.2.2.1 x3.2.2.2.2.2.2.2.2.1 x3.2.2.2.2.2.2.2.2.2.1 x3.2.2.2.2.2.2.2.2.2.2.1
def impl_scaledAt_i59802 : List PE := [⟨1, 32, .val ty_7 false, false⟩, ⟨5, 48, .val ty_0 false, false⟩, ⟨8, 64, .val ty_0 false, false⟩, ⟨11, 80, .val ty_4 false, false⟩, ⟨12, 96, .val ty_0 false, false⟩, ⟨13, 112, .val ty_0 false, false⟩, ⟨25, 128, .val ty_2 true, false⟩, ⟨26, 144, .val ty_0 false, false⟩]
def impl_scaledAt_o59802 : List PE := [⟨1, 32, .val ty_7 false, false⟩, ⟨5, 48, .val ty_0 false, false⟩, ⟨8, 64, .val ty_0 false, false⟩, ⟨11, 80, .val ty_4 false, false⟩, ⟨12, 96, .val ty_0 false, false⟩, ⟨13, 112, .val ty_0 false, false⟩]
noncomputable def impl_scaledAt_f59802 (k : Nat) (n : Nat) (x12 : PTe impl_scaledAt_i59802) : Option ((Int) ⊕ PTe impl_scaledAt_o59802) := impl_scaledAt_L59802 k n x12.1 x12.2.1 x12.2.2.1 x12.2.2.2.1 x12.2.2.2.2.1 x12.2.2.2.2.2.1 x12.2.2.2.2.2.2.1 x12.2.2.2.2.2.2.2.1
def impl_scaledAt_i58 : List PE := [⟨1, 32, .val ty_7 false, false⟩, ⟨5, 48, .val ty_0 false, false⟩, ⟨11, 64, .val ty_4 false, false⟩, ⟨12, 80, .val ty_0 false, false⟩, ⟨13, 96, .val ty_0 false, false⟩]
def impl_scaledAt_o58 : List PE := [⟨5, 32, .val ty_0 false, false⟩]
noncomputable def impl_scaledAt_f58 (k : Nat) (n : Nat) (x15 : PTe impl_scaledAt_i58) : Option ((Int) ⊕ PTe impl_scaledAt_o58) := impl_scaledAt_L58 k n x15.1 x15.2.1 x15.2.2.1 x15.2.2.2.1 x15.2.2.2.2.1
def impl_scaledAt_ps : List PE := [⟨0, 0, .val ty_4 false, false⟩, ⟨1, 16, .val ty_7 false, false⟩]
noncomputable def impl_scaledAt_F (k : Nat) : Fn (Int) := ⟨impl_scaledAt_C k, rdRes Try.prog impl_scaledAt_ps [(ty_0, false)] Try.f59.results.toList .ret, fun p => bif Nat.beq p 15309414 then some (.loop impl_scaledAt_i15309414 impl_scaledAt_o15309414 4 208 (impl_scaledAt_f15309414 k k)) else bif Nat.beq p 59802 then some (.loop impl_scaledAt_i59802 impl_scaledAt_o59802 2 160 (impl_scaledAt_f59802 k k)) else bif Nat.beq p 58 then some (.loop impl_scaledAt_i58 impl_scaledAt_o58 0 112 (impl_scaledAt_f58 k k)) else none, 0, []⟩
theorem impl_scaledAt_eq (k : Nat) (x : PTe impl_scaledAt_ps) : evFn (impl_scaledAt_F k) (codeOf Try.f59) impl_scaledAt_ps 32 x = impl_scaledAt k x.1 x.2.1 := by kernel_rfl
theorem impl_scaledAt_ls : loopsOf (codeOf Try.f59) 1 = [(58, loopB (codeOf Try.f59) 58), (59802, loopB (codeOf Try.f59) 59802), (15309414, loopB (codeOf Try.f59) 15309414)] := by kernel_rfl
theorem impl_scaledAt_l15309414 (k : Nat) : LoopOk (impl_scaledAt_F k) (loopB (codeOf Try.f59) 15309414) 15309414 := LoopOk.mk (pin := impl_scaledAt_i15309414) (pout := impl_scaledAt_o15309414) (ex := 4) (nx := 208) (Lf := impl_scaledAt_f15309414 k) (k := k) (by kernel_rfl) (fun _ => rfl) (by intro n x; kernel_rfl)
theorem impl_scaledAt_l59802 (k : Nat) : LoopOk (impl_scaledAt_F k) (loopB (codeOf Try.f59) 59802) 59802 := LoopOk.mk (pin := impl_scaledAt_i59802) (pout := impl_scaledAt_o59802) (ex := 2) (nx := 160) (Lf := impl_scaledAt_f59802 k) (k := k) (by kernel_rfl) (fun _ => rfl) (by intro n x; kernel_rfl)
theorem impl_scaledAt_l58 (k : Nat) : LoopOk (impl_scaledAt_F k) (loopB (codeOf Try.f59) 58) 58 := LoopOk.mk (pin := impl_scaledAt_i58) (pout := impl_scaledAt_o58) (ex := 0) (nx := 112) (Lf := impl_scaledAt_f58 k) (k := k) (by kernel_rfl) (fun _ => rfl) (by intro n x; kernel_rfl)
theorem impl_scaledAt_K (k : Nat) : Contract Try.prog 59 (impl_scaledAt_V k) :=
  contract (C := impl_scaledAt_C k) (F := impl_scaledAt_F k) (fn := Try.f59) (ps := impl_scaledAt_ps) (rs := [(ty_0, false)]) (nx := 32) ⟨tyOf_ok tys_ok, gOf_ok ⟨impl_Term_degree_K, impl_Term_exponents_K, trivial⟩⟩ rfl (by kernel_rfl) (by kernel_rfl) (by kernel_rfl) (by kernel_rfl) (by kernel_rfl) (by kernel_rfl) rfl (by kernel_rfl) (by kernel_rfl) (AnnOk_list [(58, loopB (codeOf Try.f59) 58), (59802, loopB (codeOf Try.f59) 59802), (15309414, loopB (codeOf Try.f59) 15309414)] impl_scaledAt_ls ⟨impl_scaledAt_l58 k, impl_scaledAt_l59802 k, impl_scaledAt_l15309414 k, trivial⟩) mix_ok (impl_scaledAt_eq k)

noncomputable def impl_size_V : Variant := ⟨[.val ty_0 false], [(ty_10, false)], fun x => impl_size x.1⟩
noncomputable def impl_size_C : Cfg := ⟨Try.prog, tyOf tys, 10, gOf [], false, [], []⟩
def impl_size_ps : List PE := [⟨0, 0, .val ty_0 false, false⟩]
noncomputable def impl_size_F : Fn (Int) := ⟨impl_size_C, rdRes Try.prog impl_size_ps [(ty_10, false)] Try.f128.results.toList .ret, fun p => none, 0, []⟩
theorem impl_size_eq (x : PTe impl_size_ps) : evFn (impl_size_F) (codeOf Try.f128) impl_size_ps 16 x = impl_size x.1 := by kernel_rfl
theorem impl_size_K : Contract Try.prog 128 (impl_size_V) :=
  contract (C := impl_size_C) (F := impl_size_F) (fn := Try.f128) (ps := impl_size_ps) (rs := [(ty_10, false)]) (nx := 16) ⟨tyOf_ok tys_ok, gOf_ok trivial⟩ rfl (by kernel_rfl) (by kernel_rfl) (by kernel_rfl) (by kernel_rfl) (by kernel_rfl) (by kernel_rfl) rfl (by kernel_rfl) (by kernel_rfl) (AnnOk_list [] (by kernel_rfl) trivial) mix_ok (impl_size_eq)

noncomputable def math_bits_Mul64_V : Variant := ⟨[.val ty_10 false, .val ty_10 false], [(ty_10, false), (ty_10, false)], fun x => math_bits_Mul64 x.1 x.2.1⟩
noncomputable def math_bits_Mul64_C : Cfg := ⟨Try.prog, tyOf tys, 51, gOf [], false, [], []⟩
def math_bits_Mul64_ps : List PE := [⟨0, 0, .val ty_10 false, false⟩, ⟨1, 16, .val ty_10 false, false⟩]
noncomputable def math_bits_Mul64_F : Fn (Int × Int) := ⟨math_bits_Mul64_C, rdRes Try.prog math_bits_Mul64_ps [(ty_10, false), (ty_10, false)] Try.f127.results.toList .ret, fun p => none, 0, []⟩
theorem math_bits_Mul64_eq (x : PTe math_bits_Mul64_ps) : evFn (math_bits_Mul64_F) (codeOf Try.f127) math_bits_Mul64_ps 32 x = math_bits_Mul64 x.1 x.2.1 := by kernel_rfl
theorem math_bits_Mul64_K : Contract Try.prog 127 (math_bits_Mul64_V) :=
  contract (C := math_bits_Mul64_C) (F := math_bits_Mul64_F) (fn := Try.f127) (ps := math_bits_Mul64_ps) (rs := [(ty_10, false), (ty_10, false)]) (nx := 32) ⟨tyOf_ok tys_ok, gOf_ok trivial⟩ rfl (by kernel_rfl) (by kernel_rfl) (by kernel_rfl) (by kernel_rfl) (by kernel_rfl) (by kernel_rfl) rfl (by kernel_rfl) (by kernel_rfl) (AnnOk_list [] (by kernel_rfl) trivial) mix_ok (math_bits_Mul64_eq)

noncomputable def impl_timesWide_V : Variant := ⟨[.val ty_0 false, .val ty_0 false], [(ty_12, true)], fun x => impl_timesWide x.1 x.2.1⟩
noncomputable def impl_timesWide_C : Cfg := ⟨Try.prog, tyOf tys, 23, gOf [(128, [], impl_size_V), (127, [], math_bits_Mul64_V)], false, [], []⟩
def impl_timesWide_ps : List PE := [⟨0, 0, .val ty_0 false, false⟩, ⟨1, 16, .val ty_0 false, false⟩]
noncomputable def impl_timesWide_F : Fn (Bool × Int × Int) := ⟨impl_timesWide_C, rdRes Try.prog impl_timesWide_ps [(ty_12, true)] Try.f75.results.toList .ret, fun p => none, 0, []⟩
theorem impl_timesWide_eq (x : PTe impl_timesWide_ps) : evFn (impl_timesWide_F) (codeOf Try.f75) impl_timesWide_ps 32 x = impl_timesWide x.1 x.2.1 := by kernel_rfl
theorem impl_timesWide_K : Contract Try.prog 75 (impl_timesWide_V) :=
  contract (C := impl_timesWide_C) (F := impl_timesWide_F) (fn := Try.f75) (ps := impl_timesWide_ps) (rs := [(ty_12, true)]) (nx := 32) ⟨tyOf_ok tys_ok, gOf_ok ⟨impl_size_K, math_bits_Mul64_K, trivial⟩⟩ rfl (by kernel_rfl) (by kernel_rfl) (by kernel_rfl) (by kernel_rfl) (by kernel_rfl) (by kernel_rfl) rfl (by kernel_rfl) (by kernel_rfl) (AnnOk_list [] (by kernel_rfl) trivial) mix_ok (impl_timesWide_eq)

noncomputable def impl_wide_isZero_V : Variant := ⟨[.val ty_12 true], [(.bool, false)], fun x => impl_wide_isZero x.1⟩
noncomputable def impl_wide_isZero_C : Cfg := ⟨Try.prog, tyOf tys, 11, gOf [], false, [], []⟩
def impl_wide_isZero_ps : List PE := [⟨0, 0, .val ty_12 true, false⟩]
noncomputable def impl_wide_isZero_F : Fn (Bool) := ⟨impl_wide_isZero_C, rdRes Try.prog impl_wide_isZero_ps [(.bool, false)] Try.f125.results.toList .ret, fun p => none, 0, []⟩
theorem impl_wide_isZero_eq (x : PTe impl_wide_isZero_ps) : evFn (impl_wide_isZero_F) (codeOf Try.f125) impl_wide_isZero_ps 16 x = impl_wide_isZero x.1 := by kernel_rfl
theorem impl_wide_isZero_K : Contract Try.prog 125 (impl_wide_isZero_V) :=
  contract (C := impl_wide_isZero_C) (F := impl_wide_isZero_F) (fn := Try.f125) (ps := impl_wide_isZero_ps) (rs := [(.bool, false)]) (nx := 16) ⟨tyOf_ok tys_ok, gOf_ok trivial⟩ rfl (by kernel_rfl) (by kernel_rfl) (by kernel_rfl) (by kernel_rfl) (by kernel_rfl) (by kernel_rfl) rfl (by kernel_rfl) (by kernel_rfl) (AnnOk_list [] (by kernel_rfl) trivial) mix_ok (impl_wide_isZero_eq)

noncomputable def cmp_isNaN_uint64_V : Variant := ⟨[.val ty_10 false], [(.bool, false)], fun x => cmp_isNaN_uint64 x.1⟩
noncomputable def cmp_isNaN_uint64_C : Cfg := ⟨Try.prog, tyOf tys, 6, gOf [], false, [], []⟩
def cmp_isNaN_uint64_ps : List PE := [⟨0, 0, .val ty_10 false, false⟩]
noncomputable def cmp_isNaN_uint64_F : Fn (Bool) := ⟨cmp_isNaN_uint64_C, rdRes Try.prog cmp_isNaN_uint64_ps [(.bool, false)] Try.f197.results.toList .ret, fun p => none, 0, []⟩
theorem cmp_isNaN_uint64_eq (x : PTe cmp_isNaN_uint64_ps) : evFn (cmp_isNaN_uint64_F) (codeOf Try.f197) cmp_isNaN_uint64_ps 16 x = cmp_isNaN_uint64 x.1 := by kernel_rfl
theorem cmp_isNaN_uint64_K : Contract Try.prog 197 (cmp_isNaN_uint64_V) :=
  contract (C := cmp_isNaN_uint64_C) (F := cmp_isNaN_uint64_F) (fn := Try.f197) (ps := cmp_isNaN_uint64_ps) (rs := [(.bool, false)]) (nx := 16) ⟨tyOf_ok tys_ok, gOf_ok trivial⟩ rfl (by kernel_rfl) (by kernel_rfl) (by kernel_rfl) (by kernel_rfl) (by kernel_rfl) (by kernel_rfl) rfl (by kernel_rfl) (by kernel_rfl) (AnnOk_list [] (by kernel_rfl) trivial) mix_ok (cmp_isNaN_uint64_eq)

noncomputable def cmp_Compare_uint64_V : Variant := ⟨[.val ty_10 false, .val ty_10 false], [(ty_0, false)], fun x => cmp_Compare_uint64 x.1 x.2.1⟩
noncomputable def cmp_Compare_uint64_C : Cfg := ⟨Try.prog, tyOf tys, 20, gOf [(197, [], cmp_isNaN_uint64_V)], false, [], []⟩
def cmp_Compare_uint64_ps : List PE := [⟨0, 0, .val ty_10 false, false⟩, ⟨1, 16, .val ty_10 false, false⟩]
noncomputable def cmp_Compare_uint64_F : Fn (Int) := ⟨cmp_Compare_uint64_C, rdRes Try.prog cmp_Compare_uint64_ps [(ty_0, false)] Try.f168.results.toList .ret, fun p => none, 0, []⟩
theorem cmp_Compare_uint64_eq (x : PTe cmp_Compare_uint64_ps) : evFn (cmp_Compare_uint64_F) (codeOf Try.f168) cmp_Compare_uint64_ps 32 x = cmp_Compare_uint64 x.1 x.2.1 := by kernel_rfl
theorem cmp_Compare_uint64_K : Contract Try.prog 168 (cmp_Compare_uint64_V) :=
  contract (C := cmp_Compare_uint64_C) (F := cmp_Compare_uint64_F) (fn := Try.f168) (ps := cmp_Compare_uint64_ps) (rs := [(ty_0, false)]) (nx := 32) ⟨tyOf_ok tys_ok, gOf_ok ⟨cmp_isNaN_uint64_K, trivial⟩⟩ rfl (by kernel_rfl) (by kernel_rfl) (by kernel_rfl) (by kernel_rfl) (by kernel_rfl) (by kernel_rfl) rfl (by kernel_rfl) (by kernel_rfl) (AnnOk_list [] (by kernel_rfl) trivial) mix_ok (cmp_Compare_uint64_eq)

noncomputable def impl_compareSizes_V (k : Nat) : Variant := ⟨[.val ty_12 true, .val ty_12 true], [(ty_0, false)], fun x => impl_compareSizes k x.1 x.2.1⟩
noncomputable def impl_compareSizes_C (k : Nat) : Cfg := ⟨Try.prog, tyOf tys, 17, gOf [(168, [], cmp_Compare_uint64_V), (167, [], cmp_Or_int_V k)], false, [], []⟩
def impl_compareSizes_ps : List PE := [⟨0, 0, .val ty_12 true, false⟩, ⟨1, 16, .val ty_12 true, false⟩]
noncomputable def impl_compareSizes_F (k : Nat) : Fn (Int) := ⟨impl_compareSizes_C k, rdRes Try.prog impl_compareSizes_ps [(ty_0, false)] Try.f126.results.toList .ret, fun p => none, 0, []⟩
theorem impl_compareSizes_eq (k : Nat) (x : PTe impl_compareSizes_ps) : evFn (impl_compareSizes_F k) (codeOf Try.f126) impl_compareSizes_ps 32 x = impl_compareSizes k x.1 x.2.1 := by kernel_rfl
theorem impl_compareSizes_K (k : Nat) : Contract Try.prog 126 (impl_compareSizes_V k) :=
  contract (C := impl_compareSizes_C k) (F := impl_compareSizes_F k) (fn := Try.f126) (ps := impl_compareSizes_ps) (rs := [(ty_0, false)]) (nx := 32) ⟨tyOf_ok tys_ok, gOf_ok ⟨cmp_Compare_uint64_K, cmp_Or_int_K k, trivial⟩⟩ rfl (by kernel_rfl) (by kernel_rfl) (by kernel_rfl) (by kernel_rfl) (by kernel_rfl) (by kernel_rfl) rfl (by kernel_rfl) (by kernel_rfl) (AnnOk_list [] (by kernel_rfl) trivial) mix_ok (impl_compareSizes_eq k)

noncomputable def impl_compareWide_V (k : Nat) : Variant := ⟨[.val ty_12 true, .val ty_12 true], [(ty_0, false)], fun x => impl_compareWide k x.1 x.2.1⟩
noncomputable def impl_compareWide_C (k : Nat) : Cfg := ⟨Try.prog, tyOf tys, 29, gOf [(125, [], impl_wide_isZero_V), (126, [], impl_compareSizes_V k)], false, [], []⟩
def impl_compareWide_ps : List PE := [⟨0, 0, .val ty_12 true, false⟩, ⟨1, 16, .val ty_12 true, false⟩]
noncomputable def impl_compareWide_F (k : Nat) : Fn (Int) := ⟨impl_compareWide_C k, rdRes Try.prog impl_compareWide_ps [(ty_0, false)] Try.f74.results.toList .ret, fun p => bif Nat.beq p 6 then some (.cut [⟨2, 32, .box ty_12 false, false⟩, ⟨3, 48, .box ty_12 false, false⟩] 64) else none, 0, []⟩
theorem impl_compareWide_eq (k : Nat) (x : PTe impl_compareWide_ps) : evFn (impl_compareWide_F k) (codeOf Try.f74) impl_compareWide_ps 32 x = impl_compareWide k x.1 x.2.1 := by kernel_rfl
theorem impl_compareWide_K (k : Nat) : Contract Try.prog 74 (impl_compareWide_V k) :=
  contract (C := impl_compareWide_C k) (F := impl_compareWide_F k) (fn := Try.f74) (ps := impl_compareWide_ps) (rs := [(ty_0, false)]) (nx := 32) ⟨tyOf_ok tys_ok, gOf_ok ⟨impl_wide_isZero_K, impl_compareSizes_K k, trivial⟩⟩ rfl (by kernel_rfl) (by kernel_rfl) (by kernel_rfl) (by kernel_rfl) (by kernel_rfl) (by kernel_rfl) rfl (by kernel_rfl) (by kernel_rfl) (AnnOk_list [] (by kernel_rfl) trivial) mix_ok (impl_compareWide_eq k)

noncomputable def impl_JacobianSign_V (k : Nat) : Variant := ⟨[.val ty_5 false, .val ty_7 false], [(ty_0, false), (.bool, false)], fun x => impl_JacobianSign k x.1 x.2.1⟩
noncomputable def impl_JacobianSign_C (k : Nat) : Cfg := ⟨Try.prog, tyOf tys, 74, gOf [(71, [], impl_isTwo_V k), (72, [], impl_isBoxPoint_V k), (73, [], impl_derive_V k), (59, [], impl_scaledAt_V k), (75, [], impl_timesWide_V), (74, [], impl_compareWide_V k)], false, [], []⟩
def impl_JacobianSign_i31334 : List PE := [⟨1, 32, .val ty_7 false, false⟩, ⟨6, 48, .box ty_9 false, false⟩, ⟨7, 64, .val ty_0 false, false⟩, ⟨8, 80, .val ty_4 false, false⟩, ⟨37, 96, .val ty_5 false, false⟩, ⟨38, 112, .val ty_0 false, false⟩, ⟨39, 128, .val ty_0 false, false⟩, ⟨44, 144, .val ty_0 false, false⟩]
def impl_JacobianSign_o31334 : List PE := [⟨1, 32, .val ty_7 false, false⟩, ⟨6, 48, .box ty_9 false, false⟩, ⟨37, 64, .val ty_5 false, false⟩, ⟨38, 80, .val ty_0 false, false⟩, ⟨39, 96, .val ty_0 false, false⟩]
noncomputable def impl_JacobianSign_f31334 (k : Nat) (n : Nat) (x5 : PTe impl_JacobianSign_i31334) : Option ((Int × Bool) ⊕ PTe impl_JacobianSign_o31334) := impl_JacobianSign_L31334 k n x5.1 x5.2.1 x5.2.2.1 x5.2.2.2.1 x5.2.2.2.2.1 x5.2.2.2.2.2.1 x5.2.2.2.2.2.2.1 x5.2.2.2.2.2.2.2.1
def impl_JacobianSign_i122 : List PE := [⟨1, 32, .val ty_7 false, false⟩, ⟨6, 48, .box ty_9 false, false⟩, ⟨37, 64, .val ty_5 false, false⟩, ⟨38, 80, .val ty_0 false, false⟩, ⟨39, 96, .val ty_0 false, false⟩]
def impl_JacobianSign_o122 : List PE := [⟨6, 32, .box ty_9 false, false⟩]
noncomputable def impl_JacobianSign_f122 (k : Nat) (n : Nat) (x8 : PTe impl_JacobianSign_i122) : Option ((Int × Bool) ⊕ PTe impl_JacobianSign_o122) := impl_JacobianSign_L122 k n x8.1 x8.2.1 x8.2.2.1 x8.2.2.2.1 x8.2.2.2.2.1
def impl_JacobianSign_ps : List PE := [⟨0, 0, .val ty_5 false, false⟩, ⟨1, 16, .val ty_7 false, false⟩]
noncomputable def impl_JacobianSign_F (k : Nat) : Fn (Int × Bool) := ⟨impl_JacobianSign_C k, rdRes Try.prog impl_JacobianSign_ps [(ty_0, false), (.bool, false)] Try.f25.results.toList .ret, fun p => bif Nat.beq p 31334 then some (.loop impl_JacobianSign_i31334 impl_JacobianSign_o31334 2 160 (impl_JacobianSign_f31334 k k)) else bif Nat.beq p 122 then some (.loop impl_JacobianSign_i122 impl_JacobianSign_o122 0 112 (impl_JacobianSign_f122 k k)) else none, 0, []⟩
theorem impl_JacobianSign_eq (k : Nat) (x : PTe impl_JacobianSign_ps) : evFn (impl_JacobianSign_F k) (codeOf Try.f25) impl_JacobianSign_ps 32 x = impl_JacobianSign k x.1 x.2.1 := by kernel_rfl
theorem impl_JacobianSign_ls : loopsOf (codeOf Try.f25) 1 = [(122, loopB (codeOf Try.f25) 122), (31334, loopB (codeOf Try.f25) 31334)] := by kernel_rfl
theorem impl_JacobianSign_l31334 (k : Nat) : LoopOk (impl_JacobianSign_F k) (loopB (codeOf Try.f25) 31334) 31334 := LoopOk.mk (pin := impl_JacobianSign_i31334) (pout := impl_JacobianSign_o31334) (ex := 2) (nx := 160) (Lf := impl_JacobianSign_f31334 k) (k := k) (by kernel_rfl) (fun _ => rfl) (by intro n x; kernel_rfl)
theorem impl_JacobianSign_l122 (k : Nat) : LoopOk (impl_JacobianSign_F k) (loopB (codeOf Try.f25) 122) 122 := LoopOk.mk (pin := impl_JacobianSign_i122) (pout := impl_JacobianSign_o122) (ex := 0) (nx := 112) (Lf := impl_JacobianSign_f122 k) (k := k) (by kernel_rfl) (fun _ => rfl) (by intro n x; kernel_rfl)
theorem impl_JacobianSign_K (k : Nat) : Contract Try.prog 25 (impl_JacobianSign_V k) :=
  contract (C := impl_JacobianSign_C k) (F := impl_JacobianSign_F k) (fn := Try.f25) (ps := impl_JacobianSign_ps) (rs := [(ty_0, false), (.bool, false)]) (nx := 32) ⟨tyOf_ok tys_ok, gOf_ok ⟨impl_isTwo_K k, impl_isBoxPoint_K k, impl_derive_K k, impl_scaledAt_K k, impl_timesWide_K, impl_compareWide_K k, trivial⟩⟩ rfl (by kernel_rfl) (by kernel_rfl) (by kernel_rfl) (by kernel_rfl) (by kernel_rfl) (by kernel_rfl) rfl (by kernel_rfl) (by kernel_rfl) (AnnOk_list [(122, loopB (codeOf Try.f25) 122), (31334, loopB (codeOf Try.f25) 31334)] impl_JacobianSign_ls ⟨impl_JacobianSign_l122 k, impl_JacobianSign_l31334 k, trivial⟩) mix_ok (impl_JacobianSign_eq k)

noncomputable def laws_eqTerm_V : Variant := ⟨[.val ty_3 true, .val ty_3 true], [(.bool, false)], fun x => laws_eqTerm x.1 x.2.1⟩
noncomputable def laws_eqTerm_C : Cfg := ⟨Try.prog, tyOf tys, 25, gOf [], false, [], []⟩
def laws_eqTerm_ps : List PE := [⟨0, 0, .val ty_3 true, false⟩, ⟨1, 16, .val ty_3 true, false⟩]
noncomputable def laws_eqTerm_F : Fn (Bool) := ⟨laws_eqTerm_C, rdRes Try.prog laws_eqTerm_ps [(.bool, false)] Try.f148.results.toList .ret, fun p => none, 0, []⟩
theorem laws_eqTerm_eq (x : PTe laws_eqTerm_ps) : evFn (laws_eqTerm_F) (codeOf Try.f148) laws_eqTerm_ps 32 x = laws_eqTerm x.1 x.2.1 := by kernel_rfl
theorem laws_eqTerm_K : Contract Try.prog 148 (laws_eqTerm_V) :=
  contract (C := laws_eqTerm_C) (F := laws_eqTerm_F) (fn := Try.f148) (ps := laws_eqTerm_ps) (rs := [(.bool, false)]) (nx := 32) ⟨tyOf_ok tys_ok, gOf_ok trivial⟩ rfl (by kernel_rfl) (by kernel_rfl) (by kernel_rfl) (by kernel_rfl) (by kernel_rfl) (by kernel_rfl) rfl (by kernel_rfl) (by kernel_rfl) (AnnOk_list [] (by kernel_rfl) trivial) mix_ok (laws_eqTerm_eq)

noncomputable def laws_eqTermS_V (k : Nat) : Variant := ⟨[.val ty_4 false, .val ty_4 false], [(.bool, false)], fun x => laws_eqTermS k x.1 x.2.1⟩
noncomputable def laws_eqTermS_C (k : Nat) : Cfg := ⟨Try.prog, tyOf tys, 27, gOf [(148, [], laws_eqTerm_V)], false, [], []⟩
def laws_eqTermS_i58 : List PE := [⟨0, 32, .val ty_4 false, false⟩, ⟨1, 48, .val ty_4 false, false⟩, ⟨5, 64, .val ty_0 false, false⟩]
def laws_eqTermS_o58 : List PE := []
noncomputable def laws_eqTermS_f58 (k : Nat) (n : Nat) (x2 : PTe laws_eqTermS_i58) : Option ((Bool) ⊕ PTe laws_eqTermS_o58) := laws_eqTermS_L58 k n x2.1 x2.2.1 x2.2.2.1
def laws_eqTermS_ps : List PE := [⟨0, 0, .val ty_4 false, false⟩, ⟨1, 16, .val ty_4 false, false⟩]
noncomputable def laws_eqTermS_F (k : Nat) : Fn (Bool) := ⟨laws_eqTermS_C k, rdRes Try.prog laws_eqTermS_ps [(.bool, false)] Try.f91.results.toList .ret, fun p => bif Nat.beq p 58 then some (.loop laws_eqTermS_i58 laws_eqTermS_o58 0 80 (laws_eqTermS_f58 k k)) else none, 0, []⟩
theorem laws_eqTermS_eq (k : Nat) (x : PTe laws_eqTermS_ps) : evFn (laws_eqTermS_F k) (codeOf Try.f91) laws_eqTermS_ps 32 x = laws_eqTermS k x.1 x.2.1 := by kernel_rfl
theorem laws_eqTermS_ls : loopsOf (codeOf Try.f91) 1 = [(58, loopB (codeOf Try.f91) 58)] := by kernel_rfl
theorem laws_eqTermS_l58 (k : Nat) : LoopOk (laws_eqTermS_F k) (loopB (codeOf Try.f91) 58) 58 := LoopOk.mk (pin := laws_eqTermS_i58) (pout := laws_eqTermS_o58) (ex := 0) (nx := 80) (Lf := laws_eqTermS_f58 k) (k := k) (by kernel_rfl) (fun _ => rfl) (by intro n x; kernel_rfl)
theorem laws_eqTermS_K (k : Nat) : Contract Try.prog 91 (laws_eqTermS_V k) :=
  contract (C := laws_eqTermS_C k) (F := laws_eqTermS_F k) (fn := Try.f91) (ps := laws_eqTermS_ps) (rs := [(.bool, false)]) (nx := 32) ⟨tyOf_ok tys_ok, gOf_ok ⟨laws_eqTerm_K, trivial⟩⟩ rfl (by kernel_rfl) (by kernel_rfl) (by kernel_rfl) (by kernel_rfl) (by kernel_rfl) (by kernel_rfl) rfl (by kernel_rfl) (by kernel_rfl) (AnnOk_list [(58, loopB (codeOf Try.f91) 58)] laws_eqTermS_ls ⟨laws_eqTermS_l58 k, trivial⟩) mix_ok (laws_eqTermS_eq k)

noncomputable def laws_intactTermS_V (k : Nat) : Variant := ⟨[.val ty_6 false, .val ty_6 false], [(.bool, false)], fun x => laws_intactTermS k x.1 x.2.1⟩
noncomputable def laws_intactTermS_C (k : Nat) : Cfg := ⟨Try.prog, tyOf tys, 26, gOf [(53, [], laws_roomBehind_V), (91, [], laws_eqTermS_V k)], false, [], []⟩
def laws_intactTermS_ps : List PE := [⟨0, 0, .val ty_6 false, false⟩, ⟨1, 16, .val ty_6 false, false⟩]
noncomputable def laws_intactTermS_F (k : Nat) : Fn (Bool) := ⟨laws_intactTermS_C k, rdRes Try.prog laws_intactTermS_ps [(.bool, false)] Try.f39.results.toList .ret, fun p => none, 0, []⟩
theorem laws_intactTermS_eq (k : Nat) (x : PTe laws_intactTermS_ps) : evFn (laws_intactTermS_F k) (codeOf Try.f39) laws_intactTermS_ps 32 x = laws_intactTermS k x.1 x.2.1 := by kernel_rfl
theorem laws_intactTermS_K (k : Nat) : Contract Try.prog 39 (laws_intactTermS_V k) :=
  contract (C := laws_intactTermS_C k) (F := laws_intactTermS_F k) (fn := Try.f39) (ps := laws_intactTermS_ps) (rs := [(.bool, false)]) (nx := 32) ⟨tyOf_ok tys_ok, gOf_ok ⟨laws_roomBehind_K, laws_eqTermS_K k, trivial⟩⟩ rfl (by kernel_rfl) (by kernel_rfl) (by kernel_rfl) (by kernel_rfl) (by kernel_rfl) (by kernel_rfl) rfl (by kernel_rfl) (by kernel_rfl) (AnnOk_list [] (by kernel_rfl) trivial) mix_ok (laws_intactTermS_eq k)

noncomputable def laws_eqTermSS_V (k : Nat) : Variant := ⟨[.val ty_5 false, .val ty_5 false], [(.bool, false)], fun x => laws_eqTermSS k x.1 x.2.1⟩
noncomputable def laws_eqTermSS_C (k : Nat) : Cfg := ⟨Try.prog, tyOf tys, 27, gOf [(91, [], laws_eqTermS_V k)], false, [], []⟩
def laws_eqTermSS_i58 : List PE := [⟨0, 32, .val ty_5 false, false⟩, ⟨1, 48, .val ty_5 false, false⟩, ⟨5, 64, .val ty_0 false, false⟩]
def laws_eqTermSS_o58 : List PE := []
noncomputable def laws_eqTermSS_f58 (k : Nat) (n : Nat) (x2 : PTe laws_eqTermSS_i58) : Option ((Bool) ⊕ PTe laws_eqTermSS_o58) := laws_eqTermSS_L58 k n x2.1 x2.2.1 x2.2.2.1
def laws_eqTermSS_ps : List PE := [⟨0, 0, .val ty_5 false, false⟩, ⟨1, 16, .val ty_5 false, false⟩]
noncomputable def laws_eqTermSS_F (k : Nat) : Fn (Bool) := ⟨laws_eqTermSS_C k, rdRes Try.prog laws_eqTermSS_ps [(.bool, false)] Try.f61.results.toList .ret, fun p => bif Nat.beq p 58 then some (.loop laws_eqTermSS_i58 laws_eqTermSS_o58 0 80 (laws_eqTermSS_f58 k k)) else none, 0, []⟩
theorem laws_eqTermSS_eq (k : Nat) (x : PTe laws_eqTermSS_ps) : evFn (laws_eqTermSS_F k) (codeOf Try.f61) laws_eqTermSS_ps 32 x = laws_eqTermSS k x.1 x.2.1 := by kernel_rfl
theorem laws_eqTermSS_ls : loopsOf (codeOf Try.f61) 1 = [(58, loopB (codeOf Try.f61) 58)] := by kernel_rfl
theorem laws_eqTermSS_l58 (k : Nat) : LoopOk (laws_eqTermSS_F k) (loopB (codeOf Try.f61) 58) 58 := LoopOk.mk (pin := laws_eqTermSS_i58) (pout := laws_eqTermSS_o58) (ex := 0) (nx := 80) (Lf := laws_eqTermSS_f58 k) (k := k) (by kernel_rfl) (fun _ => rfl) (by intro n x; kernel_rfl)
theorem laws_eqTermSS_K (k : Nat) : Contract Try.prog 61 (laws_eqTermSS_V k) :=
  contract (C := laws_eqTermSS_C k) (F := laws_eqTermSS_F k) (fn := Try.f61) (ps := laws_eqTermSS_ps) (rs := [(.bool, false)]) (nx := 32) ⟨tyOf_ok tys_ok, gOf_ok ⟨laws_eqTermS_K k, trivial⟩⟩ rfl (by kernel_rfl) (by kernel_rfl) (by kernel_rfl) (by kernel_rfl) (by kernel_rfl) (by kernel_rfl) rfl (by kernel_rfl) (by kernel_rfl) (AnnOk_list [(58, loopB (codeOf Try.f61) 58)] laws_eqTermSS_ls ⟨laws_eqTermSS_l58 k, trivial⟩) mix_ok (laws_eqTermSS_eq k)

noncomputable def laws_intactTermSS_V (k : Nat) : Variant := ⟨[.val ty_13 false, .val ty_13 false], [(.bool, false)], fun x => laws_intactTermSS k x.1 x.2.1⟩
noncomputable def laws_intactTermSS_C (k : Nat) : Cfg := ⟨Try.prog, tyOf tys, 45, gOf [(53, [], laws_roomBehind_V), (39, [], laws_intactTermS_V k), (61, [], laws_eqTermSS_V k)], false, [], []⟩
def laws_intactTermSS_i122 : List PE := [⟨0, 32, .val ty_13 false, false⟩, ⟨1, 48, .val ty_13 false, false⟩, ⟨5, 64, .val ty_0 false, false⟩, ⟨6, 80, .val ty_0 false, false⟩]
def laws_intactTermSS_o122 : List PE := [⟨0, 32, .val ty_13 false, false⟩, ⟨1, 48, .val ty_13 false, false⟩, ⟨5, 64, .val ty_0 false, false⟩]
noncomputable def laws_intactTermSS_f122 (k : Nat) (n : Nat) (x3 : PTe laws_intactTermSS_i122) : Option ((Bool) ⊕ PTe laws_intactTermSS_o122) := laws_intactTermSS_L122 k n x3.1 x3.2.1 x3.2.2.1 x3.2.2.2.1
def laws_intactTermSS_ps : List PE := [⟨0, 0, .val ty_13 false, false⟩, ⟨1, 16, .val ty_13 false, false⟩]
noncomputable def laws_intactTermSS_F (k : Nat) : Fn (Bool) := ⟨laws_intactTermSS_C k, rdRes Try.prog laws_intactTermSS_ps [(.bool, false)] Try.f16.results.toList .ret, fun p => bif Nat.beq p 122 then some (.loop laws_intactTermSS_i122 laws_intactTermSS_o122 0 96 (laws_intactTermSS_f122 k k)) else none, 0, []⟩
theorem laws_intactTermSS_eq (k : Nat) (x : PTe laws_intactTermSS_ps) : evFn (laws_intactTermSS_F k) (codeOf Try.f16) laws_intactTermSS_ps 32 x = laws_intactTermSS k x.1 x.2.1 := by kernel_rfl
theorem laws_intactTermSS_ls : loopsOf (codeOf Try.f16) 1 = [(122, loopB (codeOf Try.f16) 122)] := by kernel_rfl
theorem laws_intactTermSS_l122 (k : Nat) : LoopOk (laws_intactTermSS_F k) (loopB (codeOf Try.f16) 122) 122 := LoopOk.mk (pin := laws_intactTermSS_i122) (pout := laws_intactTermSS_o122) (ex := 0) (nx := 96) (Lf := laws_intactTermSS_f122 k) (k := k) (by kernel_rfl) (fun _ => rfl) (by intro n x; kernel_rfl)
theorem laws_intactTermSS_K (k : Nat) : Contract Try.prog 16 (laws_intactTermSS_V k) :=
  contract (C := laws_intactTermSS_C k) (F := laws_intactTermSS_F k) (fn := Try.f16) (ps := laws_intactTermSS_ps) (rs := [(.bool, false)]) (nx := 32) ⟨tyOf_ok tys_ok, gOf_ok ⟨laws_roomBehind_K, laws_intactTermS_K k, laws_eqTermSS_K k, trivial⟩⟩ rfl (by kernel_rfl) (by kernel_rfl) (by kernel_rfl) (by kernel_rfl) (by kernel_rfl) (by kernel_rfl) rfl (by kernel_rfl) (by kernel_rfl) (AnnOk_list [(122, loopB (codeOf Try.f16) 122)] laws_intactTermSS_ls ⟨laws_intactTermSS_l122 k, trivial⟩) mix_ok (laws_intactTermSS_eq k)

noncomputable def laws_eqDyadic_V : Variant := ⟨[.val ty_1 true, .val ty_1 true], [(.bool, false)], fun x => laws_eqDyadic x.1 x.2.1⟩
noncomputable def laws_eqDyadic_C : Cfg := ⟨Try.prog, tyOf tys, 15, gOf [], false, [], []⟩
def laws_eqDyadic_ps : List PE := [⟨0, 0, .val ty_1 true, false⟩, ⟨1, 16, .val ty_1 true, false⟩]
noncomputable def laws_eqDyadic_F : Fn (Bool) := ⟨laws_eqDyadic_C, rdRes Try.prog laws_eqDyadic_ps [(.bool, false)] Try.f129.results.toList .ret, fun p => none, 0, []⟩
theorem laws_eqDyadic_eq (x : PTe laws_eqDyadic_ps) : evFn (laws_eqDyadic_F) (codeOf Try.f129) laws_eqDyadic_ps 32 x = laws_eqDyadic x.1 x.2.1 := by kernel_rfl
theorem laws_eqDyadic_K : Contract Try.prog 129 (laws_eqDyadic_V) :=
  contract (C := laws_eqDyadic_C) (F := laws_eqDyadic_F) (fn := Try.f129) (ps := laws_eqDyadic_ps) (rs := [(.bool, false)]) (nx := 32) ⟨tyOf_ok tys_ok, gOf_ok trivial⟩ rfl (by kernel_rfl) (by kernel_rfl) (by kernel_rfl) (by kernel_rfl) (by kernel_rfl) (by kernel_rfl) rfl (by kernel_rfl) (by kernel_rfl) (AnnOk_list [] (by kernel_rfl) trivial) mix_ok (laws_eqDyadic_eq)

noncomputable def laws_eqDyadicS_V (k : Nat) : Variant := ⟨[.val ty_7 false, .val ty_7 false], [(.bool, false)], fun x => laws_eqDyadicS k x.1 x.2.1⟩
noncomputable def laws_eqDyadicS_C (k : Nat) : Cfg := ⟨Try.prog, tyOf tys, 27, gOf [(129, [], laws_eqDyadic_V)], false, [], []⟩
def laws_eqDyadicS_i58 : List PE := [⟨0, 32, .val ty_7 false, false⟩, ⟨1, 48, .val ty_7 false, false⟩, ⟨5, 64, .val ty_0 false, false⟩]
def laws_eqDyadicS_o58 : List PE := []
noncomputable def laws_eqDyadicS_f58 (k : Nat) (n : Nat) (x2 : PTe laws_eqDyadicS_i58) : Option ((Bool) ⊕ PTe laws_eqDyadicS_o58) := laws_eqDyadicS_L58 k n x2.1 x2.2.1 x2.2.2.1
def laws_eqDyadicS_ps : List PE := [⟨0, 0, .val ty_7 false, false⟩, ⟨1, 16, .val ty_7 false, false⟩]
noncomputable def laws_eqDyadicS_F (k : Nat) : Fn (Bool) := ⟨laws_eqDyadicS_C k, rdRes Try.prog laws_eqDyadicS_ps [(.bool, false)] Try.f76.results.toList .ret, fun p => bif Nat.beq p 58 then some (.loop laws_eqDyadicS_i58 laws_eqDyadicS_o58 0 80 (laws_eqDyadicS_f58 k k)) else none, 0, []⟩
theorem laws_eqDyadicS_eq (k : Nat) (x : PTe laws_eqDyadicS_ps) : evFn (laws_eqDyadicS_F k) (codeOf Try.f76) laws_eqDyadicS_ps 32 x = laws_eqDyadicS k x.1 x.2.1 := by kernel_rfl
theorem laws_eqDyadicS_ls : loopsOf (codeOf Try.f76) 1 = [(58, loopB (codeOf Try.f76) 58)] := by kernel_rfl
theorem laws_eqDyadicS_l58 (k : Nat) : LoopOk (laws_eqDyadicS_F k) (loopB (codeOf Try.f76) 58) 58 := LoopOk.mk (pin := laws_eqDyadicS_i58) (pout := laws_eqDyadicS_o58) (ex := 0) (nx := 80) (Lf := laws_eqDyadicS_f58 k) (k := k) (by kernel_rfl) (fun _ => rfl) (by intro n x; kernel_rfl)
theorem laws_eqDyadicS_K (k : Nat) : Contract Try.prog 76 (laws_eqDyadicS_V k) :=
  contract (C := laws_eqDyadicS_C k) (F := laws_eqDyadicS_F k) (fn := Try.f76) (ps := laws_eqDyadicS_ps) (rs := [(.bool, false)]) (nx := 32) ⟨tyOf_ok tys_ok, gOf_ok ⟨laws_eqDyadic_K, trivial⟩⟩ rfl (by kernel_rfl) (by kernel_rfl) (by kernel_rfl) (by kernel_rfl) (by kernel_rfl) (by kernel_rfl) rfl (by kernel_rfl) (by kernel_rfl) (AnnOk_list [(58, loopB (codeOf Try.f76) 58)] laws_eqDyadicS_ls ⟨laws_eqDyadicS_l58 k, trivial⟩) mix_ok (laws_eqDyadicS_eq k)

noncomputable def laws_intactDyadicS_V (k : Nat) : Variant := ⟨[.val ty_14 false, .val ty_14 false], [(.bool, false)], fun x => laws_intactDyadicS k x.1 x.2.1⟩
noncomputable def laws_intactDyadicS_C (k : Nat) : Cfg := ⟨Try.prog, tyOf tys, 26, gOf [(53, [], laws_roomBehind_V), (76, [], laws_eqDyadicS_V k)], false, [], []⟩
def laws_intactDyadicS_ps : List PE := [⟨0, 0, .val ty_14 false, false⟩, ⟨1, 16, .val ty_14 false, false⟩]
noncomputable def laws_intactDyadicS_F (k : Nat) : Fn (Bool) := ⟨laws_intactDyadicS_C k, rdRes Try.prog laws_intactDyadicS_ps [(.bool, false)] Try.f26.results.toList .ret, fun p => none, 0, []⟩
theorem laws_intactDyadicS_eq (k : Nat) (x : PTe laws_intactDyadicS_ps) : evFn (laws_intactDyadicS_F k) (codeOf Try.f26) laws_intactDyadicS_ps 32 x = laws_intactDyadicS k x.1 x.2.1 := by kernel_rfl
theorem laws_intactDyadicS_K (k : Nat) : Contract Try.prog 26 (laws_intactDyadicS_V k) :=
  contract (C := laws_intactDyadicS_C k) (F := laws_intactDyadicS_F k) (fn := Try.f26) (ps := laws_intactDyadicS_ps) (rs := [(.bool, false)]) (nx := 32) ⟨tyOf_ok tys_ok, gOf_ok ⟨laws_roomBehind_K, laws_eqDyadicS_K k, trivial⟩⟩ rfl (by kernel_rfl) (by kernel_rfl) (by kernel_rfl) (by kernel_rfl) (by kernel_rfl) (by kernel_rfl) rfl (by kernel_rfl) (by kernel_rfl) (AnnOk_list [] (by kernel_rfl) trivial) mix_ok (laws_intactDyadicS_eq k)

noncomputable def laws_FnExactJacobianSign_V (k : Nat) : Variant := ⟨[.val ty_5 false, .val ty_7 false], [(.bool, false)], fun x => laws_FnExactJacobianSign k x.1 x.2.1⟩
noncomputable def laws_FnExactJacobianSign_C (k : Nat) : Cfg := ⟨Try.prog, tyOf tys, 76, gOf [(9, [], laws_szTermSS_V k), (22, [], laws_szDyadicS_V), (12, [], laws_toTermSS_V k), (24, [], laws_toDyadicS_V k), (23, [], spec_JacobianSign_V k), (25, [], impl_JacobianSign_V k), (16, [], laws_intactTermSS_V k), (26, [], laws_intactDyadicS_V k)], false, [], []⟩
def laws_FnExactJacobianSign_ps : List PE := [⟨0, 0, .val ty_5 false, false⟩, ⟨1, 16, .val ty_7 false, false⟩]
noncomputable def laws_FnExactJacobianSign_F (k : Nat) : Fn (Bool) := ⟨laws_FnExactJacobianSign_C k, rdRes Try.prog laws_FnExactJacobianSign_ps [(.bool, false)] Try.f4.results.toList .ret, fun p => none, 0, []⟩
theorem laws_FnExactJacobianSign_eq (k : Nat) (x : PTe laws_FnExactJacobianSign_ps) : evFn (laws_FnExactJacobianSign_F k) (codeOf Try.f4) laws_FnExactJacobianSign_ps 32 x = laws_FnExactJacobianSign k x.1 x.2.1 := by kernel_rfl
theorem laws_FnExactJacobianSign_K (k : Nat) : Contract Try.prog 4 (laws_FnExactJacobianSign_V k) :=
  contract (C := laws_FnExactJacobianSign_C k) (F := laws_FnExactJacobianSign_F k) (fn := Try.f4) (ps := laws_FnExactJacobianSign_ps) (rs := [(.bool, false)]) (nx := 32) ⟨tyOf_ok tys_ok, gOf_ok ⟨laws_szTermSS_K k, laws_szDyadicS_K, laws_toTermSS_K k, laws_toDyadicS_K k, spec_JacobianSign_K k, impl_JacobianSign_K k, laws_intactTermSS_K k, laws_intactDyadicS_K k, trivial⟩⟩ rfl (by kernel_rfl) (by kernel_rfl) (by kernel_rfl) (by kernel_rfl) (by kernel_rfl) (by kernel_rfl) rfl (by kernel_rfl) (by kernel_rfl) (AnnOk_list [] (by kernel_rfl) trivial) mix_ok (laws_FnExactJacobianSign_eq k)
end Go.Ev.G
