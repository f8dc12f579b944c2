/- The contracts of the functions behind FnExactInverseJacobian: a call of each returns what its plain function computes; for all inputs within the sizes named. -/
import Derived.Test.YtndgjjaolajkjaaGreatPInverseJacobian1
import Derived.Test.YtndgjjaolajkjaaGreatProg
set_option linter.unusedVariables false
namespace Go.Ev.G
open Go Go.Ev Go.Proofs
set_option maxRecDepth 100000
abbrev ty_0 : Ty := (.int .i64)

abbrev ty_1 : Ty := (.pair ty_0 ty_0)

abbrev ty_2 : Ty := (.pair ty_0 ty_1)

abbrev ty_3 : Ty := (.pair ty_0 ty_2)

abbrev ty_4 : Ty := (.sl ty_3)

abbrev ty_5 : Ty := (.sl ty_4)

abbrev ty_6 : Ty := (.rm ty_3)

abbrev ty_7 : Ty := (.sl ty_0)

abbrev ty_8 : Ty := (.pair ty_7 ty_7)

abbrev ty_9 : Ty := (.pair ty_0 ty_8)

abbrev ty_10 : Ty := (.pair ty_1 ty_1)

abbrev ty_11 : Ty := (.sl ty_1)

abbrev ty_12 : Ty := (.sl ty_10)

abbrev ty_13 : Ty := (.sl ty_12)

abbrev ty_14 : Ty := (.sl ty_11)

abbrev ty_15 : Ty := (.int .u64)

abbrev ty_16 : Ty := (.pair ty_15 ty_15)

abbrev ty_17 : Ty := (.pair .bool ty_16)

abbrev ty_18 : Ty := (.rm ty_6)

abbrev ty_19 : Ty := (.rm ty_0)

abbrev ty_20 : Ty := (.pair ty_19 ty_19)

abbrev ty_21 : Ty := (.pair ty_0 ty_20)

def tys : List (TypeId × Ty) := [(3, ty_0), (69, ty_3), (82, ty_11), (85, ty_1), (87, ty_12), (90, ty_10)]

theorem tys_ok : AllT Tryz.prog tys := ⟨⟨_, _, rfl, rfl, rfl, rfl⟩, ⟨_, _, rfl, rfl, rfl, rfl⟩, ⟨_, _, rfl, rfl, rfl, rfl⟩, ⟨_, _, rfl, rfl, rfl, rfl⟩, ⟨_, _, rfl, rfl, rfl, rfl⟩, ⟨_, _, rfl, rfl, rfl, rfl⟩, trivial⟩

def tysR : List (TypeId × Ty) := [(3, ty_0), (66, ty_6), (69, ty_3)]

theorem tysR_ok : AllT Tryz.prog tysR := ⟨⟨_, _, rfl, rfl, rfl, rfl⟩, ⟨_, _, rfl, rfl, rfl, rfl⟩, ⟨_, _, rfl, rfl, rfl, rfl⟩, trivial⟩

theorem mix_ok : Tryz.prog.follows .mixedOrders = true := by kernel_rfl

noncomputable def laws_szTermS_V : Variant := ⟨[.val ty_4 false, .val ty_0 false], [(ty_0, false)], fun x => laws_szTermS x.1 x.2.1⟩
noncomputable def laws_szTermS_C : Cfg := ⟨Tryz.prog, tyOf tys, 12, gOf [], false, [], []⟩
def laws_szTermS_ps : List PE := [⟨0, 0, .val ty_4 false, false⟩, ⟨1, 16, .val ty_0 false, false⟩]
noncomputable def laws_szTermS_F : Fn (Int) := ⟨laws_szTermS_C, rdRes Tryz.prog laws_szTermS_ps [(ty_0, false)] Tryz.f44.results.toList .ret, fun p => none, 0, []⟩
theorem laws_szTermS_eq (x : PTe laws_szTermS_ps) : evFn (laws_szTermS_F) (codeOf Tryz.f44) laws_szTermS_ps 32 x = laws_szTermS x.1 x.2.1 := by kernel_rfl
theorem laws_szTermS_K : Contract Tryz.prog 44 (laws_szTermS_V) :=
  contract (C := laws_szTermS_C) (F := laws_szTermS_F) (fn := Tryz.f44) (ps := laws_szTermS_ps) (rs := [(ty_0, false)]) (nx := 32) ⟨tyOf_ok tys_ok, gOf_ok trivial⟩ rfl (by kernel_rfl) (by kernel_rfl) (by kernel_rfl) (by kernel_rfl) (by kernel_rfl) (by kernel_rfl) rfl (by kernel_rfl) (by kernel_rfl) (AnnOk_list [] (by kernel_rfl) trivial) mix_ok (laws_szTermS_eq)

noncomputable def laws_szTermSS_V (k : Nat) : Variant := ⟨[.val ty_5 false, .val ty_0 false], [(ty_0, false)], fun x => laws_szTermSS k x.1 x.2.1⟩
noncomputable def laws_szTermSS_C (k : Nat) : Cfg := ⟨Tryz.prog, tyOf tys, 27, gOf [(44, [], laws_szTermS_V)], false, [], []⟩
def laws_szTermSS_i122 : List PE := [⟨0, 32, .val ty_5 false, false⟩, ⟨1, 48, .val ty_0 false, false⟩, ⟨5, 64, .val ty_0 false, false⟩]
def laws_szTermSS_o122 : List PE := [⟨1, 32, .val ty_0 false, false⟩]
noncomputable def laws_szTermSS_f122 (k : Nat) (n : Nat) (x2 : PTe laws_szTermSS_i122) : Option ((Int) ⊕ PTe laws_szTermSS_o122) := laws_szTermSS_L122 k n x2.1 x2.2.1 x2.2.2.1
def laws_szTermSS_ps : List PE := [⟨0, 0, .val ty_5 false, false⟩, ⟨1, 16, .val ty_0 false, false⟩]
noncomputable def laws_szTermSS_F (k : Nat) : Fn (Int) := ⟨laws_szTermSS_C k, rdRes Tryz.prog laws_szTermSS_ps [(ty_0, false)] Tryz.f9.results.toList .ret, fun p => bif Nat.beq p 122 then some (.loop laws_szTermSS_i122 laws_szTermSS_o122 0 80 (laws_szTermSS_f122 k k)) else none, 0, []⟩
theorem laws_szTermSS_eq (k : Nat) (x : PTe laws_szTermSS_ps) : evFn (laws_szTermSS_F k) (codeOf Tryz.f9) laws_szTermSS_ps 32 x = laws_szTermSS k x.1 x.2.1 := by kernel_rfl
theorem laws_szTermSS_ls : loopsOf (codeOf Tryz.f9) 1 = [(122, loopB (codeOf Tryz.f9) 122)] := by kernel_rfl
theorem laws_szTermSS_l122 (k : Nat) : LoopOk (laws_szTermSS_F k) (loopB (codeOf Tryz.f9) 122) 122 := LoopOk.mk (pin := laws_szTermSS_i122) (pout := laws_szTermSS_o122) (ex := 0) (nx := 80) (Lf := laws_szTermSS_f122 k) (k := k) (by kernel_rfl) (fun _ => rfl) (by intro n x; kernel_rfl)
theorem laws_szTermSS_K (k : Nat) : Contract Tryz.prog 9 (laws_szTermSS_V k) :=
  contract (C := laws_szTermSS_C k) (F := laws_szTermSS_F k) (fn := Tryz.f9) (ps := laws_szTermSS_ps) (rs := [(ty_0, false)]) (nx := 32) ⟨tyOf_ok tys_ok, gOf_ok ⟨laws_szTermS_K, trivial⟩⟩ rfl (by kernel_rfl) (by kernel_rfl) (by kernel_rfl) (by kernel_rfl) (by kernel_rfl) (by kernel_rfl) rfl (by kernel_rfl) (by kernel_rfl) (AnnOk_list [(122, loopB (codeOf Tryz.f9) 122)] laws_szTermSS_ls ⟨laws_szTermSS_l122 k, trivial⟩) mix_ok (laws_szTermSS_eq k)

noncomputable def laws_szIntS_V : Variant := ⟨[.val ty_7 false, .val ty_0 false], [(ty_0, false)], fun x => laws_szIntS x.1 x.2.1⟩
noncomputable def laws_szIntS_C : Cfg := ⟨Tryz.prog, tyOf tys, 12, gOf [], false, [], []⟩
def laws_szIntS_ps : List PE := [⟨0, 0, .val ty_7 false, false⟩, ⟨1, 16, .val ty_0 false, false⟩]
noncomputable def laws_szIntS_F : Fn (Int) := ⟨laws_szIntS_C, rdRes Tryz.prog laws_szIntS_ps [(ty_0, false)] Tryz.f45.results.toList .ret, fun p => none, 0, []⟩
theorem laws_szIntS_eq (x : PTe laws_szIntS_ps) : evFn (laws_szIntS_F) (codeOf Tryz.f45) laws_szIntS_ps 32 x = laws_szIntS x.1 x.2.1 := by kernel_rfl
theorem laws_szIntS_K : Contract Tryz.prog 45 (laws_szIntS_V) :=
  contract (C := laws_szIntS_C) (F := laws_szIntS_F) (fn := Tryz.f45) (ps := laws_szIntS_ps) (rs := [(ty_0, false)]) (nx := 32) ⟨tyOf_ok tys_ok, gOf_ok trivial⟩ rfl (by kernel_rfl) (by kernel_rfl) (by kernel_rfl) (by kernel_rfl) (by kernel_rfl) (by kernel_rfl) rfl (by kernel_rfl) (by kernel_rfl) (AnnOk_list [] (by kernel_rfl) trivial) mix_ok (laws_szIntS_eq)

noncomputable def laws_szBox_V : Variant := ⟨[.val ty_9 true, .val ty_0 false], [(ty_0, false)], fun x => laws_szBox x.1 x.2.1⟩
noncomputable def laws_szBox_C : Cfg := ⟨Tryz.prog, tyOf tys, 18, gOf [(45, [], laws_szIntS_V)], false, [], []⟩
def laws_szBox_ps : List PE := [⟨0, 0, .val ty_9 true, false⟩, ⟨1, 16, .val ty_0 false, false⟩]
noncomputable def laws_szBox_F : Fn (Int) := ⟨laws_szBox_C, rdRes Tryz.prog laws_szBox_ps [(ty_0, false)] Tryz.f10.results.toList .ret, fun p => none, 0, []⟩
theorem laws_szBox_eq (x : PTe laws_szBox_ps) : evFn (laws_szBox_F) (codeOf Tryz.f10) laws_szBox_ps 32 x = laws_szBox x.1 x.2.1 := by kernel_rfl
theorem laws_szBox_K : Contract Tryz.prog 10 (laws_szBox_V) :=
  contract (C := laws_szBox_C) (F := laws_szBox_F) (fn := Tryz.f10) (ps := laws_szBox_ps) (rs := [(ty_0, false)]) (nx := 32) ⟨tyOf_ok tys_ok, gOf_ok ⟨laws_szIntS_K, trivial⟩⟩ rfl (by kernel_rfl) (by kernel_rfl) (by kernel_rfl) (by kernel_rfl) (by kernel_rfl) (by kernel_rfl) rfl (by kernel_rfl) (by kernel_rfl) (AnnOk_list [] (by kernel_rfl) trivial) mix_ok (laws_szBox_eq)

noncomputable def laws_roomBehind_V : Variant := ⟨[.val ty_0 false], [(ty_0, false)], fun x => laws_roomBehind x.1⟩
noncomputable def laws_roomBehind_C : Cfg := ⟨Tryz.prog, tyOf tys, 10, gOf [], false, [], []⟩
def laws_roomBehind_ps : List PE := [⟨0, 0, .val ty_0 false, false⟩]
noncomputable def laws_roomBehind_F : Fn (Int) := ⟨laws_roomBehind_C, rdRes Tryz.prog laws_roomBehind_ps [(ty_0, false)] Tryz.f48.results.toList .ret, fun p => none, 0, []⟩
theorem laws_roomBehind_eq (x : PTe laws_roomBehind_ps) : evFn (laws_roomBehind_F) (codeOf Tryz.f48) laws_roomBehind_ps 16 x = laws_roomBehind x.1 := by kernel_rfl
theorem laws_roomBehind_K : Contract Tryz.prog 48 (laws_roomBehind_V) :=
  contract (C := laws_roomBehind_C) (F := laws_roomBehind_F) (fn := Tryz.f48) (ps := laws_roomBehind_ps) (rs := [(ty_0, false)]) (nx := 16) ⟨tyOf_ok tys_ok, gOf_ok trivial⟩ rfl (by kernel_rfl) (by kernel_rfl) (by kernel_rfl) (by kernel_rfl) (by kernel_rfl) (by kernel_rfl) rfl (by kernel_rfl) (by kernel_rfl) (AnnOk_list [] (by kernel_rfl) trivial) mix_ok (laws_roomBehind_eq)

noncomputable def laws_toTerm_V : Variant := ⟨[.val ty_3 true], [(ty_3, true)], fun x => laws_toTerm x.1⟩
noncomputable def laws_toTerm_C : Cfg := ⟨Tryz.prog, tyOf tysR, 17, gOf [], true, [], []⟩
def laws_toTerm_ps : List PE := [⟨0, 0, .val ty_3 true, false⟩]
noncomputable def laws_toTerm_F : Fn (Int × Int × Int × Int) := ⟨laws_toTerm_C, rdRes Tryz.prog laws_toTerm_ps [(ty_3, true)] Tryz.f97.results.toList .ret, fun p => none, 0, []⟩
theorem laws_toTerm_eq (x : PTe laws_toTerm_ps) : evFn (laws_toTerm_F) (codeOf Tryz.f97) laws_toTerm_ps 16 x = laws_toTerm x.1 := by kernel_rfl
theorem laws_toTerm_K : Contract Tryz.prog 97 (laws_toTerm_V) :=
  contract (C := laws_toTerm_C) (F := laws_toTerm_F) (fn := Tryz.f97) (ps := laws_toTerm_ps) (rs := [(ty_3, true)]) (nx := 16) ⟨tyOf_ok tysR_ok, gOf_ok trivial⟩ rfl (by kernel_rfl) (by kernel_rfl) (by kernel_rfl) (by kernel_rfl) (by kernel_rfl) (by kernel_rfl) rfl (by kernel_rfl) (by kernel_rfl) (AnnOk_list [] (by kernel_rfl) trivial) mix_ok (laws_toTerm_eq)

noncomputable def laws_fillerTerm_V : Variant := ⟨[], [(ty_3, true)], fun x => laws_fillerTerm⟩
noncomputable def laws_fillerTerm_C : Cfg := ⟨Tryz.prog, tyOf tys, 2, gOf [], false, [], []⟩
def laws_fillerTerm_ps : List PE := []
noncomputable def laws_fillerTerm_F : Fn (Int × Int × Int × Int) := ⟨laws_fillerTerm_C, rdRes Tryz.prog laws_fillerTerm_ps [(ty_3, true)] Tryz.f50.results.toList .ret, fun p => none, 0, []⟩
theorem laws_fillerTerm_eq (x : PTe laws_fillerTerm_ps) : evFn (laws_fillerTerm_F) (codeOf Tryz.f50) laws_fillerTerm_ps 0 x = laws_fillerTerm := by kernel_rfl
theorem laws_fillerTerm_K : Contract Tryz.prog 50 (laws_fillerTerm_V) :=
  contract (C := laws_fillerTerm_C) (F := laws_fillerTerm_F) (fn := Tryz.f50) (ps := laws_fillerTerm_ps) (rs := [(ty_3, true)]) (nx := 0) ⟨tyOf_ok tys_ok, gOf_ok trivial⟩ rfl (by kernel_rfl) (by kernel_rfl) (by kernel_rfl) (by kernel_rfl) (by kernel_rfl) (by kernel_rfl) rfl (by kernel_rfl) (by kernel_rfl) (AnnOk_list [] (by kernel_rfl) trivial) mix_ok (laws_fillerTerm_eq)

noncomputable def laws_toTermS_V (k : Nat) : Variant := ⟨[.val ty_4 false, .val .bool false], [(ty_6, false)], fun x => laws_toTermS k x.1 x.2.1⟩
noncomputable def laws_toTermS_C (k : Nat) : Cfg := ⟨Tryz.prog, tyOf tysR, 51, gOf [(48, [], laws_roomBehind_V), (97, [], laws_toTerm_V), (50, [], laws_fillerTerm_V)], true, [], []⟩
def laws_toTermS_i122 : List PE := [⟨0, 32, .val ty_4 false, false⟩, ⟨5, 48, .eat ty_3, false⟩, ⟨6, 64, .val ty_0 false, false⟩]
def laws_toTermS_o122 : List PE := [⟨0, 32, .val ty_4 false, false⟩, ⟨5, 48, .eat ty_3, false⟩]
noncomputable def laws_toTermS_f122 (k : Nat) (n : Nat) (x4 : PTe laws_toTermS_i122) : Option ((List (Int × Int × Int × Int) × List (Int × Int × Int × Int)) ⊕ PTe laws_toTermS_o122) := laws_toTermS_L122 k n x4.1 x4.2.1 x4.2.2.1
def laws_toTermS_i250 : List PE := [⟨0, 32, .val ty_4 false, false⟩, ⟨5, 48, .eat ty_3, false⟩, ⟨7, 64, .val ty_0 false, false⟩]
def laws_toTermS_o250 : List PE := [⟨0, 32, .val ty_4 false, false⟩, ⟨5, 48, .eat ty_3, false⟩]
noncomputable def laws_toTermS_f250 (k : Nat) (n : Nat) (x8 : PTe laws_toTermS_i250) : Option ((List (Int × Int × Int × Int) × List (Int × Int × Int × Int)) ⊕ PTe laws_toTermS_o250) := laws_toTermS_L250 k n x8.1 x8.2.1 x8.2.2.1
def laws_toTermS_ps : List PE := [⟨0, 0, .val ty_4 false, false⟩, ⟨1, 16, .val .bool false, false⟩]
noncomputable def laws_toTermS_F (k : Nat) : Fn (List (Int × Int × Int × Int) × List (Int × Int × Int × Int)) := ⟨laws_toTermS_C k, rdRes Tryz.prog laws_toTermS_ps [(ty_6, false)] Tryz.f49.results.toList .ret, fun p => bif Nat.beq p 122 then some (.loop laws_toTermS_i122 laws_toTermS_o122 0 80 (laws_toTermS_f122 k k)) else bif Nat.beq p 250 then some (.loop laws_toTermS_i250 laws_toTermS_o250 2 80 (laws_toTermS_f250 k k)) else bif Nat.beq p 6 then some (.cut [⟨0, 32, .val ty_4 false, false⟩] 48) else none, 0, []⟩
theorem laws_toTermS_eq (k : Nat) (x : PTe laws_toTermS_ps) : evFn (laws_toTermS_F k) (codeOf Tryz.f49) laws_toTermS_ps 32 x = laws_toTermS k x.1 x.2.1 := by kernel_rfl
theorem laws_toTermS_ls : loopsOf (codeOf Tryz.f49) 1 = [(122, loopB (codeOf Tryz.f49) 122), (250, loopB (codeOf Tryz.f49) 250)] := by kernel_rfl
theorem laws_toTermS_l122 (k : Nat) : LoopOk (laws_toTermS_F k) (loopB (codeOf Tryz.f49) 122) 122 := LoopOk.mk (pin := laws_toTermS_i122) (pout := laws_toTermS_o122) (ex := 0) (nx := 80) (Lf := laws_toTermS_f122 k) (k := k) (by kernel_rfl) (fun _ => rfl) (by intro n x; kernel_rfl)
theorem laws_toTermS_l250 (k : Nat) : LoopOk (laws_toTermS_F k) (loopB (codeOf Tryz.f49) 250) 250 := LoopOk.mk (pin := laws_toTermS_i250) (pout := laws_toTermS_o250) (ex := 2) (nx := 80) (Lf := laws_toTermS_f250 k) (k := k) (by kernel_rfl) (fun _ => rfl) (by intro n x; kernel_rfl)
theorem laws_toTermS_K (k : Nat) : Contract Tryz.prog 49 (laws_toTermS_V k) :=
  contract (C := laws_toTermS_C k) (F := laws_toTermS_F k) (fn := Tryz.f49) (ps := laws_toTermS_ps) (rs := [(ty_6, false)]) (nx := 32) ⟨tyOf_ok tysR_ok, gOf_ok ⟨laws_roomBehind_K, laws_toTerm_K, laws_fillerTerm_K, trivial⟩⟩ rfl (by kernel_rfl) (by kernel_rfl) (by kernel_rfl) (by kernel_rfl) (by kernel_rfl) (by kernel_rfl) rfl (by kernel_rfl) (by kernel_rfl) (AnnOk_list [(122, loopB (codeOf Tryz.f49) 122), (250, loopB (codeOf Tryz.f49) 250)] laws_toTermS_ls ⟨laws_toTermS_l122 k, laws_toTermS_l250 k, trivial⟩) mix_ok (laws_toTermS_eq k)

noncomputable def laws_toTermSS_V (k : Nat) : Variant := ⟨[.val ty_5 false, .val .bool false], [(ty_18, false)], fun x => laws_toTermSS k x.1 x.2.1⟩
noncomputable def laws_toTermSS_C (k : Nat) : Cfg := ⟨Tryz.prog, tyOf tysR, 53, gOf [(48, [], laws_roomBehind_V), (49, [], laws_toTermS_V k), (50, [], laws_fillerTerm_V)], true, [5, 27, 39, 44], []⟩
def laws_toTermSS_i122 : List PE := [⟨0, 32, .val ty_5 false, false⟩, ⟨1, 48, .val .bool false, false⟩, ⟨5, 64, .eat ty_6, false⟩, ⟨6, 80, .val ty_0 false, false⟩]
def laws_toTermSS_o122 : List PE := [⟨0, 32, .val ty_5 false, false⟩, ⟨5, 48, .eat ty_6, false⟩]
noncomputable def laws_toTermSS_f122 (k : Nat) (n : Nat) (x4 : PTe laws_toTermSS_i122) : Option ((List (List (Int × Int × Int × Int) × List (Int × Int × Int × Int)) × List (List (Int × Int × Int × Int) × List (Int × Int × Int × Int))) ⊕ PTe laws_toTermSS_o122) := laws_toTermSS_L122 k n x4.1 x4.2.1 x4.2.2.1 x4.2.2.2.1
def laws_toTermSS_i250 : List PE := [⟨0, 32, .val ty_5 false, false⟩, ⟨5, 48, .eat ty_6, false⟩, ⟨7, 64, .val ty_0 false, false⟩]
def laws_toTermSS_o250 : List PE := [⟨0, 32, .val ty_5 false, false⟩, ⟨5, 48, .eat ty_6, false⟩]
noncomputable def laws_toTermSS_f250 (k : Nat) (n : Nat) (x8 : PTe laws_toTermSS_i250) : Option ((List (List (Int × Int × Int × Int) × List (Int × Int × Int × Int)) × List (List (Int × Int × Int × Int) × List (Int × Int × Int × Int))) ⊕ PTe laws_toTermSS_o250) := laws_toTermSS_L250 k n x8.1 x8.2.1 x8.2.2.1
def laws_toTermSS_ps : List PE := [⟨0, 0, .val ty_5 false, false⟩, ⟨1, 16, .val .bool false, false⟩]
noncomputable def laws_toTermSS_F (k : Nat) : Fn (List (List (Int × Int × Int × Int) × List (Int × Int × Int × Int)) × List (List (Int × Int × Int × Int) × List (Int × Int × Int × Int))) := ⟨laws_toTermSS_C k, rdRes Tryz.prog laws_toTermSS_ps [(ty_18, false)] Tryz.f12.results.toList .ret, fun p => bif Nat.beq p 122 then some (.loop laws_toTermSS_i122 laws_toTermSS_o122 0 96 (laws_toTermSS_f122 k k)) else bif Nat.beq p 250 then some (.loop laws_toTermSS_i250 laws_toTermSS_o250 2 80 (laws_toTermSS_f250 k k)) else bif Nat.beq p 6 then some (.cut [⟨0, 32, .val ty_5 false, false⟩, ⟨1, 48, .val .bool false, false⟩] 64) else none, 0, []⟩
theorem laws_toTermSS_eq (k : Nat) (x : PTe laws_toTermSS_ps) : evFn (laws_toTermSS_F k) (codeOf Tryz.f12) laws_toTermSS_ps 32 x = laws_toTermSS k x.1 x.2.1 := by kernel_rfl
theorem laws_toTermSS_ls : loopsOf (codeOf Tryz.f12) 1 = [(122, loopB (codeOf Tryz.f12) 122), (250, loopB (codeOf Tryz.f12) 250)] := by kernel_rfl
theorem laws_toTermSS_l122 (k : Nat) : LoopOk (laws_toTermSS_F k) (loopB (codeOf Tryz.f12) 122) 122 := LoopOk.mk (pin := laws_toTermSS_i122) (pout := laws_toTermSS_o122) (ex := 0) (nx := 96) (Lf := laws_toTermSS_f122 k) (k := k) (by kernel_rfl) (fun _ => rfl) (by intro n x; kernel_rfl)
theorem laws_toTermSS_l250 (k : Nat) : LoopOk (laws_toTermSS_F k) (loopB (codeOf Tryz.f12) 250) 250 := LoopOk.mk (pin := laws_toTermSS_i250) (pout := laws_toTermSS_o250) (ex := 2) (nx := 80) (Lf := laws_toTermSS_f250 k) (k := k) (by kernel_rfl) (fun _ => rfl) (by intro n x; kernel_rfl)
theorem laws_toTermSS_K (k : Nat) : Contract Tryz.prog 12 (laws_toTermSS_V k) :=
  contract (C := laws_toTermSS_C k) (F := laws_toTermSS_F k) (fn := Tryz.f12) (ps := laws_toTermSS_ps) (rs := [(ty_18, false)]) (nx := 32) ⟨tyOf_ok tysR_ok, gOf_ok ⟨laws_roomBehind_K, laws_toTermS_K k, laws_fillerTerm_K, trivial⟩⟩ rfl (by kernel_rfl) (by kernel_rfl) (by kernel_rfl) (by kernel_rfl) (by kernel_rfl) (by kernel_rfl) rfl (by kernel_rfl) (by kernel_rfl) (AnnOk_list [(122, loopB (codeOf Tryz.f12) 122), (250, loopB (codeOf Tryz.f12) 250)] laws_toTermSS_ls ⟨laws_toTermSS_l122 k, laws_toTermSS_l250 k, trivial⟩) mix_ok (laws_toTermSS_eq k)

noncomputable def laws_toIntS_V (k : Nat) : Variant := ⟨[.val ty_7 false, .val .bool false], [(ty_19, false)], fun x => laws_toIntS k x.1 x.2.1⟩
noncomputable def laws_toIntS_C (k : Nat) : Cfg := ⟨Tryz.prog, tyOf tysR, 49, gOf [(48, [], laws_roomBehind_V)], true, [], []⟩
def laws_toIntS_i122 : List PE := [⟨0, 32, .val ty_7 false, false⟩, ⟨5, 48, .eat ty_0, false⟩, ⟨6, 64, .val ty_0 false, false⟩]
def laws_toIntS_o122 : List PE := [⟨0, 32, .val ty_7 false, false⟩, ⟨5, 48, .eat ty_0, false⟩]
noncomputable def laws_toIntS_f122 (k : Nat) (n : Nat) (x3 : PTe laws_toIntS_i122) : Option ((List Int × List Int) ⊕ PTe laws_toIntS_o122) := laws_toIntS_L122 k n x3.1 x3.2.1 x3.2.2.1
def laws_toIntS_i250 : List PE := [⟨0, 32, .val ty_7 false, false⟩, ⟨5, 48, .eat ty_0, false⟩, ⟨7, 64, .val ty_0 false, false⟩]
def laws_toIntS_o250 : List PE := [⟨0, 32, .val ty_7 false, false⟩, ⟨5, 48, .eat ty_0, false⟩]
noncomputable def laws_toIntS_f250 (k : Nat) (n : Nat) (x6 : PTe laws_toIntS_i250) : Option ((List Int × List Int) ⊕ PTe laws_toIntS_o250) := laws_toIntS_L250 k n x6.1 x6.2.1 x6.2.2.1
def laws_toIntS_ps : List PE := [⟨0, 0, .val ty_7 false, false⟩, ⟨1, 16, .val .bool false, false⟩]
noncomputable def laws_toIntS_F (k : Nat) : Fn (List Int × List Int) := ⟨laws_toIntS_C k, rdRes Tryz.prog laws_toIntS_ps [(ty_19, false)] Tryz.f51.results.toList .ret, fun p => bif Nat.beq p 122 then some (.loop laws_toIntS_i122 laws_toIntS_o122 0 80 (laws_toIntS_f122 k k)) else bif Nat.beq p 250 then some (.loop laws_toIntS_i250 laws_toIntS_o250 2 80 (laws_toIntS_f250 k k)) else bif Nat.beq p 6 then some (.cut [⟨0, 32, .val ty_7 false, false⟩] 48) else none, 0, []⟩
theorem laws_toIntS_eq (k : Nat) (x : PTe laws_toIntS_ps) : evFn (laws_toIntS_F k) (codeOf Tryz.f51) laws_toIntS_ps 32 x = laws_toIntS k x.1 x.2.1 := by kernel_rfl
theorem laws_toIntS_ls : loopsOf (codeOf Tryz.f51) 1 = [(122, loopB (codeOf Tryz.f51) 122), (250, loopB (codeOf Tryz.f51) 250)] := by kernel_rfl
theorem laws_toIntS_l122 (k : Nat) : LoopOk (laws_toIntS_F k) (loopB (codeOf Tryz.f51) 122) 122 := LoopOk.mk (pin := laws_toIntS_i122) (pout := laws_toIntS_o122) (ex := 0) (nx := 80) (Lf := laws_toIntS_f122 k) (k := k) (by kernel_rfl) (fun _ => rfl) (by intro n x; kernel_rfl)
theorem laws_toIntS_l250 (k : Nat) : LoopOk (laws_toIntS_F k) (loopB (codeOf Tryz.f51) 250) 250 := LoopOk.mk (pin := laws_toIntS_i250) (pout := laws_toIntS_o250) (ex := 2) (nx := 80) (Lf := laws_toIntS_f250 k) (k := k) (by kernel_rfl) (fun _ => rfl) (by intro n x; kernel_rfl)
theorem laws_toIntS_K (k : Nat) : Contract Tryz.prog 51 (laws_toIntS_V k) :=
  contract (C := laws_toIntS_C k) (F := laws_toIntS_F k) (fn := Tryz.f51) (ps := laws_toIntS_ps) (rs := [(ty_19, false)]) (nx := 32) ⟨tyOf_ok tysR_ok, gOf_ok ⟨laws_roomBehind_K, trivial⟩⟩ rfl (by kernel_rfl) (by kernel_rfl) (by kernel_rfl) (by kernel_rfl) (by kernel_rfl) (by kernel_rfl) rfl (by kernel_rfl) (by kernel_rfl) (AnnOk_list [(122, loopB (codeOf Tryz.f51) 122), (250, loopB (codeOf Tryz.f51) 250)] laws_toIntS_ls ⟨laws_toIntS_l122 k, laws_toIntS_l250 k, trivial⟩) mix_ok (laws_toIntS_eq k)

noncomputable def laws_toBox_V (k : Nat) : Variant := ⟨[.val ty_9 true, .val .bool false], [(ty_21, true)], fun x => laws_toBox k x.1 x.2.1⟩
noncomputable def laws_toBox_C (k : Nat) : Cfg := ⟨Tryz.prog, tyOf tysR, 20, gOf [(51, [], laws_toIntS_V k)], true, [], []⟩
def laws_toBox_ps : List PE := [⟨0, 0, .val ty_9 true, false⟩, ⟨1, 16, .val .bool false, false⟩]
noncomputable def laws_toBox_F (k : Nat) : Fn (Int × (List Int × List Int) × List Int × List Int) := ⟨laws_toBox_C k, rdRes Tryz.prog laws_toBox_ps [(ty_21, true)] Tryz.f13.results.toList .ret, fun p => none, 0, []⟩
theorem laws_toBox_eq (k : Nat) (x : PTe laws_toBox_ps) : evFn (laws_toBox_F k) (codeOf Tryz.f13) laws_toBox_ps 32 x = laws_toBox k x.1 x.2.1 := by kernel_rfl
theorem laws_toBox_K (k : Nat) : Contract Tryz.prog 13 (laws_toBox_V k) :=
  contract (C := laws_toBox_C k) (F := laws_toBox_F k) (fn := Tryz.f13) (ps := laws_toBox_ps) (rs := [(ty_21, true)]) (nx := 32) ⟨tyOf_ok tysR_ok, gOf_ok ⟨laws_toIntS_K k, trivial⟩⟩ rfl (by kernel_rfl) (by kernel_rfl) (by kernel_rfl) (by kernel_rfl) (by kernel_rfl) (by kernel_rfl) rfl (by kernel_rfl) (by kernel_rfl) (AnnOk_list [] (by kernel_rfl) trivial) mix_ok (laws_toBox_eq k)

noncomputable def spec_l1In_V : Variant := ⟨[.val ty_0 false, .val ty_0 false, .val ty_0 false], [(.bool, false)], fun x => spec_l1In x.1 x.2.1 x.2.2.1⟩
noncomputable def spec_l1In_C : Cfg := ⟨Tryz.prog, tyOf tys, 15, gOf [], false, [], []⟩
def spec_l1In_ps : List PE := [⟨0, 0, .val ty_0 false, false⟩, ⟨1, 16, .val ty_0 false, false⟩, ⟨2, 32, .val ty_0 false, false⟩]
noncomputable def spec_l1In_F : Fn (Bool) := ⟨spec_l1In_C, rdRes Tryz.prog spec_l1In_ps [(.bool, false)] Tryz.f132.results.toList .ret, fun p => none, 0, []⟩
theorem spec_l1In_eq (x : PTe spec_l1In_ps) : evFn (spec_l1In_F) (codeOf Tryz.f132) spec_l1In_ps 48 x = spec_l1In x.1 x.2.1 x.2.2.1 := by kernel_rfl
theorem spec_l1In_K : Contract Tryz.prog 132 (spec_l1In_V) :=
  contract (C := spec_l1In_C) (F := spec_l1In_F) (fn := Tryz.f132) (ps := spec_l1In_ps) (rs := [(.bool, false)]) (nx := 48) ⟨tyOf_ok tys_ok, gOf_ok trivial⟩ rfl (by kernel_rfl) (by kernel_rfl) (by kernel_rfl) (by kernel_rfl) (by kernel_rfl) (by kernel_rfl) rfl (by kernel_rfl) (by kernel_rfl) (AnnOk_list [] (by kernel_rfl) trivial) mix_ok (spec_l1In_eq)

noncomputable def spec_poTerm_V : Variant := ⟨[.val ty_3 true], [(.bool, false)], fun x => spec_poTerm x.1⟩
noncomputable def spec_poTerm_C : Cfg := ⟨Tryz.prog, tyOf tys, 32, gOf [(132, [], spec_l1In_V)], false, [], []⟩
def spec_poTerm_ps : List PE := [⟨0, 0, .val ty_3 true, false⟩]
noncomputable def spec_poTerm_F : Fn (Bool) := ⟨spec_poTerm_C, rdRes Tryz.prog spec_poTerm_ps [(.bool, false)] Tryz.f217.results.toList .ret, fun p => none, 0, []⟩
theorem spec_poTerm_eq (x : PTe spec_poTerm_ps) : evFn (spec_poTerm_F) (codeOf Tryz.f217) spec_poTerm_ps 16 x = spec_poTerm x.1 := by kernel_rfl
theorem spec_poTerm_K : Contract Tryz.prog 217 (spec_poTerm_V) :=
  contract (C := spec_poTerm_C) (F := spec_poTerm_F) (fn := Tryz.f217) (ps := spec_poTerm_ps) (rs := [(.bool, false)]) (nx := 16) ⟨tyOf_ok tys_ok, gOf_ok ⟨spec_l1In_K, trivial⟩⟩ rfl (by kernel_rfl) (by kernel_rfl) (by kernel_rfl) (by kernel_rfl) (by kernel_rfl) (by kernel_rfl) rfl (by kernel_rfl) (by kernel_rfl) (AnnOk_list [] (by kernel_rfl) trivial) mix_ok (spec_poTerm_eq)

noncomputable def spec_l1Sign_V : Variant := ⟨[.val ty_0 false], [(ty_0, false)], fun x => spec_l1Sign x.1⟩
noncomputable def spec_l1Sign_C : Cfg := ⟨Tryz.prog, tyOf tys, 9, gOf [], false, [], []⟩
def spec_l1Sign_ps : List PE := [⟨0, 0, .val ty_0 false, false⟩]
noncomputable def spec_l1Sign_F : Fn (Int) := ⟨spec_l1Sign_C, rdRes Tryz.prog spec_l1Sign_ps [(ty_0, false)] Tryz.f225.results.toList .ret, fun p => none, 0, []⟩
theorem spec_l1Sign_eq (x : PTe spec_l1Sign_ps) : evFn (spec_l1Sign_F) (codeOf Tryz.f225) spec_l1Sign_ps 16 x = spec_l1Sign x.1 := by kernel_rfl
theorem spec_l1Sign_K : Contract Tryz.prog 225 (spec_l1Sign_V) :=
  contract (C := spec_l1Sign_C) (F := spec_l1Sign_F) (fn := Tryz.f225) (ps := spec_l1Sign_ps) (rs := [(ty_0, false)]) (nx := 16) ⟨tyOf_ok tys_ok, gOf_ok trivial⟩ rfl (by kernel_rfl) (by kernel_rfl) (by kernel_rfl) (by kernel_rfl) (by kernel_rfl) (by kernel_rfl) rfl (by kernel_rfl) (by kernel_rfl) (AnnOk_list [] (by kernel_rfl) trivial) mix_ok (spec_l1Sign_eq)

noncomputable def spec_poOrder_V : Variant := ⟨[.val ty_3 true, .val ty_3 true], [(ty_0, false)], fun x => spec_poOrder x.1 x.2.1⟩
noncomputable def spec_poOrder_C : Cfg := ⟨Tryz.prog, tyOf tys, 35, gOf [(225, [], spec_l1Sign_V)], false, [], []⟩
def spec_poOrder_ps : List PE := [⟨0, 0, .val ty_3 true, false⟩, ⟨1, 16, .val ty_3 true, false⟩]
noncomputable def spec_poOrder_F : Fn (Int) := ⟨spec_poOrder_C, rdRes Tryz.prog spec_poOrder_ps [(ty_0, false)] Tryz.f218.results.toList .ret, fun p => none, 0, []⟩
theorem spec_poOrder_eq (x : PTe spec_poOrder_ps) : evFn (spec_poOrder_F) (codeOf Tryz.f218) spec_poOrder_ps 32 x = spec_poOrder x.1 x.2.1 := by kernel_rfl
theorem spec_poOrder_K : Contract Tryz.prog 218 (spec_poOrder_V) :=
  contract (C := spec_poOrder_C) (F := spec_poOrder_F) (fn := Tryz.f218) (ps := spec_poOrder_ps) (rs := [(ty_0, false)]) (nx := 32) ⟨tyOf_ok tys_ok, gOf_ok ⟨spec_l1Sign_K, trivial⟩⟩ rfl (by kernel_rfl) (by kernel_rfl) (by kernel_rfl) (by kernel_rfl) (by kernel_rfl) (by kernel_rfl) rfl (by kernel_rfl) (by kernel_rfl) (AnnOk_list [] (by kernel_rfl) trivial) mix_ok (spec_poOrder_eq)

noncomputable def spec_poGood_V (k : Nat) : Variant := ⟨[.val ty_4 false], [(.bool, false)], fun x => spec_poGood k x.1⟩
noncomputable def spec_poGood_C (k : Nat) : Cfg := ⟨Tryz.prog, tyOf tys, 38, gOf [(217, [], spec_poTerm_V), (218, [], spec_poOrder_V)], false, [], []⟩
def spec_poGood_i26 : List PE := [⟨0, 16, .val ty_4 false, false⟩, ⟨5, 32, .val ty_4 false, false⟩, ⟨6, 48, .val ty_0 false, false⟩, ⟨7, 64, .val ty_0 false, false⟩]
def spec_poGood_o26 : List PE := [⟨0, 16, .val ty_4 false, false⟩]
noncomputable def spec_poGood_f26 (k : Nat) (n : Nat) (x3 : PTe spec_poGood_i26) : Option ((Bool) ⊕ PTe spec_poGood_o26) := spec_poGood_L26 k n x3.1 x3.2.1 x3.2.2.1 x3.2.2.2.1
def spec_poGood_ps : List PE := [⟨0, 0, .val ty_4 false, false⟩]
noncomputable def spec_poGood_F (k : Nat) : Fn (Bool) := ⟨spec_poGood_C k, rdRes Tryz.prog spec_poGood_ps [(.bool, false)] Tryz.f155.results.toList .ret, fun p => bif Nat.beq p 26 then some (.loop spec_poGood_i26 spec_poGood_o26 0 80 (spec_poGood_f26 k k)) else none, 0, []⟩
theorem spec_poGood_eq (k : Nat) (x : PTe spec_poGood_ps) : evFn (spec_poGood_F k) (codeOf Tryz.f155) spec_poGood_ps 16 x = spec_poGood k x.1 := by kernel_rfl
theorem spec_poGood_ls : loopsOf (codeOf Tryz.f155) 1 = [(26, loopB (codeOf Tryz.f155) 26)] := by kernel_rfl
theorem spec_poGood_l26 (k : Nat) : LoopOk (spec_poGood_F k) (loopB (codeOf Tryz.f155) 26) 26 := LoopOk.mk (pin := spec_poGood_i26) (pout := spec_poGood_o26) (ex := 0) (nx := 80) (Lf := spec_poGood_f26 k) (k := k) (by kernel_rfl) (fun _ => rfl) (by intro n x; kernel_rfl)
theorem spec_poGood_K (k : Nat) : Contract Tryz.prog 155 (spec_poGood_V k) :=
  contract (C := spec_poGood_C k) (F := spec_poGood_F k) (fn := Tryz.f155) (ps := spec_poGood_ps) (rs := [(.bool, false)]) (nx := 16) ⟨tyOf_ok tys_ok, gOf_ok ⟨spec_poTerm_K, spec_poOrder_K, trivial⟩⟩ rfl (by kernel_rfl) (by kernel_rfl) (by kernel_rfl) (by kernel_rfl) (by kernel_rfl) (by kernel_rfl) rfl (by kernel_rfl) (by kernel_rfl) (AnnOk_list [(26, loopB (codeOf Tryz.f155) 26)] spec_poGood_ls ⟨spec_poGood_l26 k, trivial⟩) mix_ok (spec_poGood_eq k)

noncomputable def spec_poPower_V : Variant := ⟨[.val ty_3 true, .val ty_0 false], [(ty_0, false)], fun x => spec_poPower x.1 x.2.1⟩
noncomputable def spec_poPower_C : Cfg := ⟨Tryz.prog, tyOf tys, 16, gOf [], false, [], []⟩
def spec_poPower_ps : List PE := [⟨0, 0, .val ty_3 true, false⟩, ⟨1, 16, .val ty_0 false, false⟩]
noncomputable def spec_poPower_F : Fn (Int) := ⟨spec_poPower_C, rdRes Tryz.prog spec_poPower_ps [(ty_0, false)] Tryz.f219.results.toList .ret, fun p => none, 0, []⟩
theorem spec_poPower_eq (x : PTe spec_poPower_ps) : evFn (spec_poPower_F) (codeOf Tryz.f219) spec_poPower_ps 32 x = spec_poPower x.1 x.2.1 := by kernel_rfl
theorem spec_poPower_K : Contract Tryz.prog 219 (spec_poPower_V) :=
  contract (C := spec_poPower_C) (F := spec_poPower_F) (fn := Tryz.f219) (ps := spec_poPower_ps) (rs := [(ty_0, false)]) (nx := 32) ⟨tyOf_ok tys_ok, gOf_ok trivial⟩ rfl (by kernel_rfl) (by kernel_rfl) (by kernel_rfl) (by kernel_rfl) (by kernel_rfl) (by kernel_rfl) rfl (by kernel_rfl) (by kernel_rfl) (AnnOk_list [] (by kernel_rfl) trivial) mix_ok (spec_poPower_eq)

noncomputable def spec_l1Most_V : Variant := ⟨[.val ty_0 false, .val ty_0 false], [(ty_0, false)], fun x => spec_l1Most x.1 x.2.1⟩
noncomputable def spec_l1Most_C : Cfg := ⟨Tryz.prog, tyOf tys, 10, gOf [], false, [], []⟩
def spec_l1Most_ps : List PE := [⟨0, 0, .val ty_0 false, false⟩, ⟨1, 16, .val ty_0 false, false⟩]
noncomputable def spec_l1Most_F : Fn (Int) := ⟨spec_l1Most_C, rdRes Tryz.prog spec_l1Most_ps [(ty_0, false)] Tryz.f183.results.toList .ret, fun p => none, 0, []⟩
theorem spec_l1Most_eq (x : PTe spec_l1Most_ps) : evFn (spec_l1Most_F) (codeOf Tryz.f183) spec_l1Most_ps 32 x = spec_l1Most x.1 x.2.1 := by kernel_rfl
theorem spec_l1Most_K : Contract Tryz.prog 183 (spec_l1Most_V) :=
  contract (C := spec_l1Most_C) (F := spec_l1Most_F) (fn := Tryz.f183) (ps := spec_l1Most_ps) (rs := [(ty_0, false)]) (nx := 32) ⟨tyOf_ok tys_ok, gOf_ok trivial⟩ rfl (by kernel_rfl) (by kernel_rfl) (by kernel_rfl) (by kernel_rfl) (by kernel_rfl) (by kernel_rfl) rfl (by kernel_rfl) (by kernel_rfl) (AnnOk_list [] (by kernel_rfl) trivial) mix_ok (spec_l1Most_eq)

noncomputable def spec_poDegreeIn_V (k : Nat) : Variant := ⟨[.val ty_4 false, .val ty_0 false], [(ty_0, false)], fun x => spec_poDegreeIn k x.1 x.2.1⟩
noncomputable def spec_poDegreeIn_C (k : Nat) : Cfg := ⟨Tryz.prog, tyOf tys, 21, gOf [(219, [], spec_poPower_V), (183, [], spec_l1Most_V)], false, [], []⟩
def spec_poDegreeIn_i58 : List PE := [⟨1, 32, .val ty_0 false, false⟩, ⟨5, 48, .val ty_0 false, false⟩, ⟨8, 64, .val ty_4 false, false⟩, ⟨9, 80, .val ty_0 false, false⟩, ⟨10, 96, .val ty_0 false, false⟩]
def spec_poDegreeIn_o58 : List PE := [⟨5, 32, .val ty_0 false, false⟩]
noncomputable def spec_poDegreeIn_f58 (k : Nat) (n : Nat) (x3 : PTe spec_poDegreeIn_i58) : Option ((Int) ⊕ PTe spec_poDegreeIn_o58) := spec_poDegreeIn_L58 k n x3.1 x3.2.1 x3.2.2.1 x3.2.2.2.1 x3.2.2.2.2.1
def spec_poDegreeIn_ps : List PE := [⟨0, 0, .val ty_4 false, false⟩, ⟨1, 16, .val ty_0 false, false⟩]
noncomputable def spec_poDegreeIn_F (k : Nat) : Fn (Int) := ⟨spec_poDegreeIn_C k, rdRes Tryz.prog spec_poDegreeIn_ps [(ty_0, false)] Tryz.f156.results.toList .ret, fun p => bif Nat.beq p 58 then some (.loop spec_poDegreeIn_i58 spec_poDegreeIn_o58 0 112 (spec_poDegreeIn_f58 k k)) else none, 0, []⟩
theorem spec_poDegreeIn_eq (k : Nat) (x : PTe spec_poDegreeIn_ps) : evFn (spec_poDegreeIn_F k) (codeOf Tryz.f156) spec_poDegreeIn_ps 32 x = spec_poDegreeIn k x.1 x.2.1 := by kernel_rfl
theorem spec_poDegreeIn_ls : loopsOf (codeOf Tryz.f156) 1 = [(58, loopB (codeOf Tryz.f156) 58)] := by kernel_rfl
theorem spec_poDegreeIn_l58 (k : Nat) : LoopOk (spec_poDegreeIn_F k) (loopB (codeOf Tryz.f156) 58) 58 := LoopOk.mk (pin := spec_poDegreeIn_i58) (pout := spec_poDegreeIn_o58) (ex := 0) (nx := 112) (Lf := spec_poDegreeIn_f58 k) (k := k) (by kernel_rfl) (fun _ => rfl) (by intro n x; kernel_rfl)
theorem spec_poDegreeIn_K (k : Nat) : Contract Tryz.prog 156 (spec_poDegreeIn_V k) :=
  contract (C := spec_poDegreeIn_C k) (F := spec_poDegreeIn_F k) (fn := Tryz.f156) (ps := spec_poDegreeIn_ps) (rs := [(ty_0, false)]) (nx := 32) ⟨tyOf_ok tys_ok, gOf_ok ⟨spec_poPower_K, spec_l1Most_K, trivial⟩⟩ rfl (by kernel_rfl) (by kernel_rfl) (by kernel_rfl) (by kernel_rfl) (by kernel_rfl) (by kernel_rfl) rfl (by kernel_rfl) (by kernel_rfl) (AnnOk_list [(58, loopB (codeOf Tryz.f156) 58)] spec_poDegreeIn_ls ⟨spec_poDegreeIn_l58 k, trivial⟩) mix_ok (spec_poDegreeIn_eq k)

noncomputable def spec_poSystem_V (k : Nat) : Variant := ⟨[.val ty_5 false], [(.bool, false)], fun x => spec_poSystem k x.1⟩
noncomputable def spec_poSystem_C (k : Nat) : Cfg := ⟨Tryz.prog, tyOf tys, 29, gOf [(155, [], spec_poGood_V k), (156, [], spec_poDegreeIn_V k), (132, [], spec_l1In_V)], false, [], []⟩
def spec_poSystem_i13518 : List PE := [⟨0, 16, .val ty_5 false, false⟩, ⟨4, 32, .val ty_4 false, false⟩, ⟨5, 48, .val ty_0 false, false⟩, ⟨6, 64, .val ty_5 false, false⟩, ⟨7, 80, .val ty_0 false, false⟩, ⟨8, 96, .val ty_0 false, false⟩]
def spec_poSystem_o13518 : List PE := [⟨0, 16, .val ty_5 false, false⟩, ⟨6, 32, .val ty_5 false, false⟩, ⟨7, 48, .val ty_0 false, false⟩, ⟨8, 64, .val ty_0 false, false⟩]
noncomputable def spec_poSystem_f13518 (k : Nat) (n : Nat) (x3 : PTe spec_poSystem_i13518) : Option ((Bool) ⊕ PTe spec_poSystem_o13518) := spec_poSystem_L13518 k n x3.1 x3.2.1 x3.2.2.1 x3.2.2.2.1 x3.2.2.2.2.1 x3.2.2.2.2.2.1
def spec_poSystem_i26 : List PE := [⟨0, 16, .val ty_5 false, false⟩, ⟨6, 32, .val ty_5 false, false⟩, ⟨7, 48, .val ty_0 false, false⟩, ⟨8, 64, .val ty_0 false, false⟩]
def spec_poSystem_o26 : List PE := [⟨0, 16, .val ty_5 false, false⟩]
noncomputable def spec_poSystem_f26 (k : Nat) (n : Nat) (x6 : PTe spec_poSystem_i26) : Option ((Bool) ⊕ PTe spec_poSystem_o26) := spec_poSystem_L26 k n x6.1 x6.2.1 x6.2.2.1 x6.2.2.2.1
def spec_poSystem_ps : List PE := [⟨0, 0, .val ty_5 false, false⟩]
noncomputable def spec_poSystem_F (k : Nat) : Fn (Bool) := ⟨spec_poSystem_C k, rdRes Tryz.prog spec_poSystem_ps [(.bool, false)] Tryz.f93.results.toList .ret, fun p => bif Nat.beq p 13518 then some (.loop spec_poSystem_i13518 spec_poSystem_o13518 2 112 (spec_poSystem_f13518 k k)) else bif Nat.beq p 26 then some (.loop spec_poSystem_i26 spec_poSystem_o26 0 80 (spec_poSystem_f26 k k)) else none, 0, []⟩
theorem spec_poSystem_eq (k : Nat) (x : PTe spec_poSystem_ps) : evFn (spec_poSystem_F k) (codeOf Tryz.f93) spec_poSystem_ps 16 x = spec_poSystem k x.1 := by kernel_rfl
theorem spec_poSystem_ls : loopsOf (codeOf Tryz.f93) 1 = [(26, loopB (codeOf Tryz.f93) 26), (13518, loopB (codeOf Tryz.f93) 13518)] := by kernel_rfl
theorem spec_poSystem_l13518 (k : Nat) : LoopOk (spec_poSystem_F k) (loopB (codeOf Tryz.f93) 13518) 13518 := LoopOk.mk (pin := spec_poSystem_i13518) (pout := spec_poSystem_o13518) (ex := 2) (nx := 112) (Lf := spec_poSystem_f13518 k) (k := k) (by kernel_rfl) (fun _ => rfl) (by intro n x; kernel_rfl)
theorem spec_poSystem_l26 (k : Nat) : LoopOk (spec_poSystem_F k) (loopB (codeOf Tryz.f93) 26) 26 := LoopOk.mk (pin := spec_poSystem_i26) (pout := spec_poSystem_o26) (ex := 0) (nx := 80) (Lf := spec_poSystem_f26 k) (k := k) (by kernel_rfl) (fun _ => rfl) (by intro n x; kernel_rfl)
theorem spec_poSystem_K (k : Nat) : Contract Tryz.prog 93 (spec_poSystem_V k) :=
  contract (C := spec_poSystem_C k) (F := spec_poSystem_F k) (fn := Tryz.f93) (ps := spec_poSystem_ps) (rs := [(.bool, false)]) (nx := 16) ⟨tyOf_ok tys_ok, gOf_ok ⟨spec_poGood_K k, spec_poDegreeIn_K k, spec_l1In_K, trivial⟩⟩ rfl (by kernel_rfl) (by kernel_rfl) (by kernel_rfl) (by kernel_rfl) (by kernel_rfl) (by kernel_rfl) rfl (by kernel_rfl) (by kernel_rfl) (AnnOk_list [(26, loopB (codeOf Tryz.f93) 26), (13518, loopB (codeOf Tryz.f93) 13518)] spec_poSystem_ls ⟨spec_poSystem_l26 k, spec_poSystem_l13518 k, trivial⟩) mix_ok (spec_poSystem_eq k)

noncomputable def spec_dyPower_V : Variant := ⟨[.val ty_0 false], [(ty_0, false)], fun x => spec_dyPower x.1⟩
noncomputable def spec_dyPower_C : Cfg := ⟨Tryz.prog, tyOf tys, 6, gOf [], false, [], []⟩
def spec_dyPower_ps : List PE := [⟨0, 0, .val ty_0 false, false⟩]
noncomputable def spec_dyPower_F : Fn (Int) := ⟨spec_dyPower_C, rdRes Tryz.prog spec_dyPower_ps [(ty_0, false)] Tryz.f143.results.toList .ret, fun p => none, 0, []⟩
theorem spec_dyPower_eq (x : PTe spec_dyPower_ps) : evFn (spec_dyPower_F) (codeOf Tryz.f143) spec_dyPower_ps 16 x = spec_dyPower x.1 := by kernel_rfl
theorem spec_dyPower_K : Contract Tryz.prog 143 (spec_dyPower_V) :=
  contract (C := spec_dyPower_C) (F := spec_dyPower_F) (fn := Tryz.f143) (ps := spec_dyPower_ps) (rs := [(ty_0, false)]) (nx := 16) ⟨tyOf_ok tys_ok, gOf_ok trivial⟩ rfl (by kernel_rfl) (by kernel_rfl) (by kernel_rfl) (by kernel_rfl) (by kernel_rfl) (by kernel_rfl) rfl (by kernel_rfl) (by kernel_rfl) (AnnOk_list [] (by kernel_rfl) trivial) mix_ok (spec_dyPower_eq)

noncomputable def spec_bxGood_V (k : Nat) : Variant := ⟨[.val ty_9 true], [(.bool, false)], fun x => spec_bxGood k x.1⟩
noncomputable def spec_bxGood_C (k : Nat) : Cfg := ⟨Tryz.prog, tyOf tys, 80, gOf [(132, [], spec_l1In_V), (143, [], spec_dyPower_V)], false, [], []⟩
def spec_bxGood_i250 : List PE := [⟨1, 16, .box ty_9 false, false⟩, ⟨3, 32, .val ty_0 false, false⟩, ⟨4, 48, .val .bool false, false⟩, ⟨36, 64, .val ty_7 false, false⟩, ⟨37, 80, .val ty_0 false, false⟩, ⟨38, 96, .val ty_0 false, false⟩]
def spec_bxGood_o250 : List PE := [⟨4, 16, .val .bool false, false⟩]
noncomputable def spec_bxGood_f250 (k : Nat) (n : Nat) (x6 : PTe spec_bxGood_i250) : Option ((Bool) ⊕ PTe spec_bxGood_o250) := spec_bxGood_L250 k n x6.1 x6.2.1 x6.2.2.1 x6.2.2.2.1 x6.2.2.2.2.1 x6.2.2.2.2.2.1
def spec_bxGood_ps : List PE := [⟨0, 0, .val ty_9 true, false⟩]
noncomputable def spec_bxGood_F (k : Nat) : Fn (Bool) := ⟨spec_bxGood_C k, rdRes Tryz.prog spec_bxGood_ps [(.bool, false)] Tryz.f131.results.toList .ret, fun p => bif Nat.beq p 250 then some (.loop spec_bxGood_i250 spec_bxGood_o250 0 112 (spec_bxGood_f250 k k)) else none, 0, []⟩
theorem spec_bxGood_eq (k : Nat) (x : PTe spec_bxGood_ps) : evFn (spec_bxGood_F k) (codeOf Tryz.f131) spec_bxGood_ps 16 x = spec_bxGood k x.1 := by kernel_rfl
theorem spec_bxGood_ls : loopsOf (codeOf Tryz.f131) 1 = [(250, loopB (codeOf Tryz.f131) 250)] := by kernel_rfl
theorem spec_bxGood_l250 (k : Nat) : LoopOk (spec_bxGood_F k) (loopB (codeOf Tryz.f131) 250) 250 := LoopOk.mk (pin := spec_bxGood_i250) (pout := spec_bxGood_o250) (ex := 0) (nx := 112) (Lf := spec_bxGood_f250 k) (k := k) (by kernel_rfl) (fun _ => rfl) (by intro n x; kernel_rfl)
theorem spec_bxGood_K (k : Nat) : Contract Tryz.prog 131 (spec_bxGood_V k) :=
  contract (C := spec_bxGood_C k) (F := spec_bxGood_F k) (fn := Tryz.f131) (ps := spec_bxGood_ps) (rs := [(.bool, false)]) (nx := 16) ⟨tyOf_ok tys_ok, gOf_ok ⟨spec_l1In_K, spec_dyPower_K, trivial⟩⟩ rfl (by kernel_rfl) (by kernel_rfl) (by kernel_rfl) (by kernel_rfl) (by kernel_rfl) (by kernel_rfl) rfl (by kernel_rfl) (by kernel_rfl) (AnnOk_list [(250, loopB (codeOf Tryz.f131) 250)] spec_bxGood_ls ⟨spec_bxGood_l250 k, trivial⟩) mix_ok (spec_bxGood_eq k)

noncomputable def spec_vaBoth_V (k : Nat) : Variant := ⟨[.val ty_5 false, .val ty_9 true], [(.bool, false)], fun x => spec_vaBoth k x.1 x.2.1⟩
noncomputable def spec_vaBoth_C (k : Nat) : Cfg := ⟨Tryz.prog, tyOf tys, 19, gOf [(93, [], spec_poSystem_V k), (131, [], spec_bxGood_V k)], false, [], []⟩
def spec_vaBoth_ps : List PE := [⟨0, 0, .val ty_5 false, false⟩, ⟨1, 16, .val ty_9 true, false⟩]
noncomputable def spec_vaBoth_F (k : Nat) : Fn (Bool) := ⟨spec_vaBoth_C k, rdRes Tryz.prog spec_vaBoth_ps [(.bool, false)] Tryz.f120.results.toList .ret, fun p => none, 0, []⟩
theorem spec_vaBoth_eq (k : Nat) (x : PTe spec_vaBoth_ps) : evFn (spec_vaBoth_F k) (codeOf Tryz.f120) spec_vaBoth_ps 32 x = spec_vaBoth k x.1 x.2.1 := by kernel_rfl
theorem spec_vaBoth_K (k : Nat) : Contract Tryz.prog 120 (spec_vaBoth_V k) :=
  contract (C := spec_vaBoth_C k) (F := spec_vaBoth_F k) (fn := Tryz.f120) (ps := spec_vaBoth_ps) (rs := [(.bool, false)]) (nx := 32) ⟨tyOf_ok tys_ok, gOf_ok ⟨spec_poSystem_K k, spec_bxGood_K k, trivial⟩⟩ rfl (by kernel_rfl) (by kernel_rfl) (by kernel_rfl) (by kernel_rfl) (by kernel_rfl) (by kernel_rfl) rfl (by kernel_rfl) (by kernel_rfl) (AnnOk_list [] (by kernel_rfl) trivial) mix_ok (spec_vaBoth_eq k)

noncomputable def spec_nwGood_V (k : Nat) : Variant := ⟨[.val ty_5 false, .val ty_9 true], [(.bool, false)], fun x => spec_nwGood k x.1 x.2.1⟩
noncomputable def spec_nwGood_C (k : Nat) : Cfg := ⟨Tryz.prog, tyOf tys, 13, gOf [(120, [], spec_vaBoth_V k)], false, [], []⟩
def spec_nwGood_ps : List PE := [⟨0, 0, .val ty_5 false, false⟩, ⟨1, 16, .val ty_9 true, false⟩]
noncomputable def spec_nwGood_F (k : Nat) : Fn (Bool) := ⟨spec_nwGood_C k, rdRes Tryz.prog spec_nwGood_ps [(.bool, false)] Tryz.f75.results.toList .ret, fun p => none, 0, []⟩
theorem spec_nwGood_eq (k : Nat) (x : PTe spec_nwGood_ps) : evFn (spec_nwGood_F k) (codeOf Tryz.f75) spec_nwGood_ps 32 x = spec_nwGood k x.1 x.2.1 := by kernel_rfl
theorem spec_nwGood_K (k : Nat) : Contract Tryz.prog 75 (spec_nwGood_V k) :=
  contract (C := spec_nwGood_C k) (F := spec_nwGood_F k) (fn := Tryz.f75) (ps := spec_nwGood_ps) (rs := [(.bool, false)]) (nx := 32) ⟨tyOf_ok tys_ok, gOf_ok ⟨spec_vaBoth_K k, trivial⟩⟩ rfl (by kernel_rfl) (by kernel_rfl) (by kernel_rfl) (by kernel_rfl) (by kernel_rfl) (by kernel_rfl) rfl (by kernel_rfl) (by kernel_rfl) (AnnOk_list [] (by kernel_rfl) trivial) mix_ok (spec_nwGood_eq k)

noncomputable def spec_dyGood_V : Variant := ⟨[.val ty_1 true], [(.bool, false)], fun x => spec_dyGood x.1⟩
noncomputable def spec_dyGood_C : Cfg := ⟨Tryz.prog, tyOf tys, 22, gOf [(132, [], spec_l1In_V)], false, [], []⟩
def spec_dyGood_ps : List PE := [⟨0, 0, .val ty_1 true, false⟩]
noncomputable def spec_dyGood_F : Fn (Bool) := ⟨spec_dyGood_C, rdRes Tryz.prog spec_dyGood_ps [(.bool, false)] Tryz.f103.results.toList .ret, fun p => none, 0, []⟩
theorem spec_dyGood_eq (x : PTe spec_dyGood_ps) : evFn (spec_dyGood_F) (codeOf Tryz.f103) spec_dyGood_ps 16 x = spec_dyGood x.1 := by kernel_rfl
theorem spec_dyGood_K : Contract Tryz.prog 103 (spec_dyGood_V) :=
  contract (C := spec_dyGood_C) (F := spec_dyGood_F) (fn := Tryz.f103) (ps := spec_dyGood_ps) (rs := [(.bool, false)]) (nx := 16) ⟨tyOf_ok tys_ok, gOf_ok ⟨spec_l1In_K, trivial⟩⟩ rfl (by kernel_rfl) (by kernel_rfl) (by kernel_rfl) (by kernel_rfl) (by kernel_rfl) (by kernel_rfl) rfl (by kernel_rfl) (by kernel_rfl) (AnnOk_list [] (by kernel_rfl) trivial) mix_ok (spec_dyGood_eq)

noncomputable def spec_dyMake_V (k : Nat) : Variant := ⟨[.val ty_0 false, .val ty_0 false], [(ty_1, true), (.bool, false)], fun x => spec_dyMake k x.1 x.2.1⟩
noncomputable def spec_dyMake_C (k : Nat) : Cfg := ⟨Tryz.prog, tyOf tys, 32, gOf [(103, [], spec_dyGood_V)], false, [], []⟩
def spec_dyMake_i28 : List PE := [⟨0, 32, .val ty_0 false, false⟩, ⟨1, 48, .val ty_0 false, false⟩, ⟨4, 64, .box ty_1 false, false⟩]
def spec_dyMake_o28 : List PE := [⟨0, 32, .val ty_0 false, false⟩, ⟨1, 48, .val ty_0 false, false⟩, ⟨4, 64, .box ty_1 false, false⟩]
noncomputable def spec_dyMake_f28 (k : Nat) (n : Nat) (x2 : PTe spec_dyMake_i28) : Option (((Int × Int) × Bool) ⊕ PTe spec_dyMake_o28) := spec_dyMake_L28 k n x2.1 x2.2.1 x2.2.2.1
def spec_dyMake_ps : List PE := [⟨0, 0, .val ty_0 false, false⟩, ⟨1, 16, .val ty_0 false, false⟩]
noncomputable def spec_dyMake_F (k : Nat) : Fn ((Int × Int) × Bool) := ⟨spec_dyMake_C k, rdRes Tryz.prog spec_dyMake_ps [(ty_1, true), (.bool, false)] Tryz.f185.results.toList .ret, fun p => bif Nat.beq p 28 then some (.loop spec_dyMake_i28 spec_dyMake_o28 0 80 (spec_dyMake_f28 k k)) else bif Nat.beq p 6 then some (.cut [⟨0, 32, .val ty_0 false, false⟩, ⟨1, 48, .val ty_0 false, false⟩, ⟨4, 64, .box ty_1 false, false⟩] 80) else none, 0, []⟩
theorem spec_dyMake_eq (k : Nat) (x : PTe spec_dyMake_ps) : evFn (spec_dyMake_F k) (codeOf Tryz.f185) spec_dyMake_ps 32 x = spec_dyMake k x.1 x.2.1 := by kernel_rfl
theorem spec_dyMake_ls : loopsOf (codeOf Tryz.f185) 1 = [(28, loopB (codeOf Tryz.f185) 28)] := by kernel_rfl
theorem spec_dyMake_l28 (k : Nat) : LoopOk (spec_dyMake_F k) (loopB (codeOf Tryz.f185) 28) 28 := LoopOk.mk (pin := spec_dyMake_i28) (pout := spec_dyMake_o28) (ex := 0) (nx := 80) (Lf := spec_dyMake_f28 k) (k := k) (by kernel_rfl) (fun _ => rfl) (by intro n x; kernel_rfl)
theorem spec_dyMake_K (k : Nat) : Contract Tryz.prog 185 (spec_dyMake_V k) :=
  contract (C := spec_dyMake_C k) (F := spec_dyMake_F k) (fn := Tryz.f185) (ps := spec_dyMake_ps) (rs := [(ty_1, true), (.bool, false)]) (nx := 32) ⟨tyOf_ok tys_ok, gOf_ok ⟨spec_dyGood_K, trivial⟩⟩ rfl (by kernel_rfl) (by kernel_rfl) (by kernel_rfl) (by kernel_rfl) (by kernel_rfl) (by kernel_rfl) rfl (by kernel_rfl) (by kernel_rfl) (AnnOk_list [(28, loopB (codeOf Tryz.f185) 28)] spec_dyMake_ls ⟨spec_dyMake_l28 k, trivial⟩) mix_ok (spec_dyMake_eq k)

noncomputable def spec_bxNumber_V (k : Nat) : Variant := ⟨[.val ty_0 false, .val ty_0 false], [(ty_1, true)], fun x => spec_bxNumber k x.1 x.2.1⟩
noncomputable def spec_bxNumber_C (k : Nat) : Cfg := ⟨Tryz.prog, tyOf tys, 14, gOf [(185, [], spec_dyMake_V k)], false, [], []⟩
def spec_bxNumber_ps : List PE := [⟨0, 0, .val ty_0 false, false⟩, ⟨1, 16, .val ty_0 false, false⟩]
noncomputable def spec_bxNumber_F (k : Nat) : Fn (Int × Int) := ⟨spec_bxNumber_C k, rdRes Tryz.prog spec_bxNumber_ps [(ty_1, true)] Tryz.f182.results.toList .ret, fun p => none, 0, []⟩
theorem spec_bxNumber_eq (k : Nat) (x : PTe spec_bxNumber_ps) : evFn (spec_bxNumber_F k) (codeOf Tryz.f182) spec_bxNumber_ps 32 x = spec_bxNumber k x.1 x.2.1 := by kernel_rfl
theorem spec_bxNumber_K (k : Nat) : Contract Tryz.prog 182 (spec_bxNumber_V k) :=
  contract (C := spec_bxNumber_C k) (F := spec_bxNumber_F k) (fn := Tryz.f182) (ps := spec_bxNumber_ps) (rs := [(ty_1, true)]) (nx := 32) ⟨tyOf_ok tys_ok, gOf_ok ⟨spec_dyMake_K k, trivial⟩⟩ rfl (by kernel_rfl) (by kernel_rfl) (by kernel_rfl) (by kernel_rfl) (by kernel_rfl) (by kernel_rfl) rfl (by kernel_rfl) (by kernel_rfl) (AnnOk_list [] (by kernel_rfl) trivial) mix_ok (spec_bxNumber_eq k)

noncomputable def spec_vaSides_V (k : Nat) : Variant := ⟨[.val ty_9 true], [(ty_12, false)], fun x => spec_vaSides k x.1⟩
noncomputable def spec_vaSides_C (k : Nat) : Cfg := ⟨Tryz.prog, tyOf tys, 32, gOf [(182, [], spec_bxNumber_V k)], false, [], []⟩
def spec_vaSides_i58 : List PE := [⟨1, 16, .box ty_9 false, false⟩, ⟨3, 32, .eat ty_10, false⟩, ⟨7, 48, .val ty_7 false, false⟩, ⟨8, 64, .val ty_0 false, false⟩, ⟨9, 80, .val ty_0 false, false⟩]
def spec_vaSides_o58 : List PE := [⟨3, 16, .eat ty_10, false⟩]
noncomputable def spec_vaSides_f58 (k : Nat) (n : Nat) (x3 : PTe spec_vaSides_i58) : Option ((List ((Int × Int) × Int × Int)) ⊕ PTe spec_vaSides_o58) := spec_vaSides_L58 k n x3.1 x3.2.1 x3.2.2.1 x3.2.2.2.1 x3.2.2.2.2.1
def spec_vaSides_ps : List PE := [⟨0, 0, .val ty_9 true, false⟩]
noncomputable def spec_vaSides_F (k : Nat) : Fn (List ((Int × Int) × Int × Int)) := ⟨spec_vaSides_C k, rdRes Tryz.prog spec_vaSides_ps [(ty_12, false)] Tryz.f122.results.toList .ret, fun p => bif Nat.beq p 58 then some (.loop spec_vaSides_i58 spec_vaSides_o58 0 96 (spec_vaSides_f58 k k)) else none, 0, []⟩
theorem spec_vaSides_eq (k : Nat) (x : PTe spec_vaSides_ps) : evFn (spec_vaSides_F k) (codeOf Tryz.f122) spec_vaSides_ps 16 x = spec_vaSides k x.1 := by kernel_rfl
theorem spec_vaSides_ls : loopsOf (codeOf Tryz.f122) 1 = [(58, loopB (codeOf Tryz.f122) 58)] := by kernel_rfl
theorem spec_vaSides_l58 (k : Nat) : LoopOk (spec_vaSides_F k) (loopB (codeOf Tryz.f122) 58) 58 := LoopOk.mk (pin := spec_vaSides_i58) (pout := spec_vaSides_o58) (ex := 0) (nx := 96) (Lf := spec_vaSides_f58 k) (k := k) (by kernel_rfl) (fun _ => rfl) (by intro n x; kernel_rfl)
theorem spec_vaSides_K (k : Nat) : Contract Tryz.prog 122 (spec_vaSides_V k) :=
  contract (C := spec_vaSides_C k) (F := spec_vaSides_F k) (fn := Tryz.f122) (ps := spec_vaSides_ps) (rs := [(ty_12, false)]) (nx := 16) ⟨tyOf_ok tys_ok, gOf_ok ⟨spec_bxNumber_K k, trivial⟩⟩ rfl (by kernel_rfl) (by kernel_rfl) (by kernel_rfl) (by kernel_rfl) (by kernel_rfl) (by kernel_rfl) rfl (by kernel_rfl) (by kernel_rfl) (AnnOk_list [(58, loopB (codeOf Tryz.f122) 58)] spec_vaSides_ls ⟨spec_vaSides_l58 k, trivial⟩) mix_ok (spec_vaSides_eq k)

noncomputable def spec_poWith_V : Variant := ⟨[.val ty_3 true, .val ty_0 false, .val ty_0 false], [(ty_3, true)], fun x => spec_poWith x.1 x.2.1 x.2.2.1⟩
noncomputable def spec_poWith_C : Cfg := ⟨Tryz.prog, tyOf tys, 19, gOf [], false, [], []⟩
def spec_poWith_ps : List PE := [⟨0, 0, .val ty_3 true, false⟩, ⟨1, 16, .val ty_0 false, false⟩, ⟨2, 32, .val ty_0 false, false⟩]
noncomputable def spec_poWith_F : Fn (Int × Int × Int × Int) := ⟨spec_poWith_C, rdRes Tryz.prog spec_poWith_ps [(ty_3, true)] Tryz.f237.results.toList .ret, fun p => none, 0, []⟩
theorem spec_poWith_eq (x : PTe spec_poWith_ps) : evFn (spec_poWith_F) (codeOf Tryz.f237) spec_poWith_ps 48 x = spec_poWith x.1 x.2.1 x.2.2.1 := by kernel_rfl
theorem spec_poWith_K : Contract Tryz.prog 237 (spec_poWith_V) :=
  contract (C := spec_poWith_C) (F := spec_poWith_F) (fn := Tryz.f237) (ps := spec_poWith_ps) (rs := [(ty_3, true)]) (nx := 48) ⟨tyOf_ok tys_ok, gOf_ok trivial⟩ rfl (by kernel_rfl) (by kernel_rfl) (by kernel_rfl) (by kernel_rfl) (by kernel_rfl) (by kernel_rfl) rfl (by kernel_rfl) (by kernel_rfl) (AnnOk_list [] (by kernel_rfl) trivial) mix_ok (spec_poWith_eq)

noncomputable def spec_poDerive_V (k : Nat) : Variant := ⟨[.val ty_4 false, .val ty_0 false], [(ty_4, false)], fun x => spec_poDerive k x.1 x.2.1⟩
noncomputable def spec_poDerive_C (k : Nat) : Cfg := ⟨Tryz.prog, tyOf tys, 37, gOf [(219, [], spec_poPower_V), (237, [], spec_poWith_V)], false, [], []⟩
def spec_poDerive_i58 : List PE := [⟨1, 32, .val ty_0 false, false⟩, ⟨5, 48, .eat ty_3, false⟩, ⟨10, 64, .val ty_4 false, false⟩, ⟨11, 80, .val ty_0 false, false⟩, ⟨12, 96, .val ty_0 false, false⟩]
def spec_poDerive_o58 : List PE := [⟨5, 32, .eat ty_3, false⟩]
noncomputable def spec_poDerive_f58 (k : Nat) (n : Nat) (x3 : PTe spec_poDerive_i58) : Option ((List (Int × Int × Int × Int)) ⊕ PTe spec_poDerive_o58) := spec_poDerive_L58 k n x3.1 x3.2.1 x3.2.2.1 x3.2.2.2.1 x3.2.2.2.2.1
def spec_poDerive_ps : List PE := [⟨0, 0, .val ty_4 false, false⟩, ⟨1, 16, .val ty_0 false, false⟩]
noncomputable def spec_poDerive_F (k : Nat) : Fn (List (Int × Int × Int × Int)) := ⟨spec_poDerive_C k, rdRes Tryz.prog spec_poDerive_ps [(ty_4, false)] Tryz.f181.results.toList .ret, fun p => bif Nat.beq p 58 then some (.loop spec_poDerive_i58 spec_poDerive_o58 0 112 (spec_poDerive_f58 k k)) else none, 0, []⟩
theorem spec_poDerive_eq (k : Nat) (x : PTe spec_poDerive_ps) : evFn (spec_poDerive_F k) (codeOf Tryz.f181) spec_poDerive_ps 32 x = spec_poDerive k x.1 x.2.1 := by kernel_rfl
theorem spec_poDerive_ls : loopsOf (codeOf Tryz.f181) 1 = [(58, loopB (codeOf Tryz.f181) 58)] := by kernel_rfl
theorem spec_poDerive_l58 (k : Nat) : LoopOk (spec_poDerive_F k) (loopB (codeOf Tryz.f181) 58) 58 := LoopOk.mk (pin := spec_poDerive_i58) (pout := spec_poDerive_o58) (ex := 0) (nx := 112) (Lf := spec_poDerive_f58 k) (k := k) (by kernel_rfl) (fun _ => rfl) (by intro n x; kernel_rfl)
theorem spec_poDerive_K (k : Nat) : Contract Tryz.prog 181 (spec_poDerive_V k) :=
  contract (C := spec_poDerive_C k) (F := spec_poDerive_F k) (fn := Tryz.f181) (ps := spec_poDerive_ps) (rs := [(ty_4, false)]) (nx := 32) ⟨tyOf_ok tys_ok, gOf_ok ⟨spec_poPower_K, spec_poWith_K, trivial⟩⟩ rfl (by kernel_rfl) (by kernel_rfl) (by kernel_rfl) (by kernel_rfl) (by kernel_rfl) (by kernel_rfl) rfl (by kernel_rfl) (by kernel_rfl) (AnnOk_list [(58, loopB (codeOf Tryz.f181) 58)] spec_poDerive_ls ⟨spec_poDerive_l58 k, trivial⟩) mix_ok (spec_poDerive_eq k)

noncomputable def spec_dyInt_V : Variant := ⟨[.val ty_0 false], [(ty_1, true)], fun x => spec_dyInt x.1⟩
noncomputable def spec_dyInt_C : Cfg := ⟨Tryz.prog, tyOf tys, 5, gOf [], false, [], []⟩
def spec_dyInt_ps : List PE := [⟨0, 0, .val ty_0 false, false⟩]
noncomputable def spec_dyInt_F : Fn (Int × Int) := ⟨spec_dyInt_C, rdRes Tryz.prog spec_dyInt_ps [(ty_1, true)] Tryz.f235.results.toList .ret, fun p => none, 0, []⟩
theorem spec_dyInt_eq (x : PTe spec_dyInt_ps) : evFn (spec_dyInt_F) (codeOf Tryz.f235) spec_dyInt_ps 16 x = spec_dyInt x.1 := by kernel_rfl
theorem spec_dyInt_K : Contract Tryz.prog 235 (spec_dyInt_V) :=
  contract (C := spec_dyInt_C) (F := spec_dyInt_F) (fn := Tryz.f235) (ps := spec_dyInt_ps) (rs := [(ty_1, true)]) (nx := 16) ⟨tyOf_ok tys_ok, gOf_ok trivial⟩ rfl (by kernel_rfl) (by kernel_rfl) (by kernel_rfl) (by kernel_rfl) (by kernel_rfl) (by kernel_rfl) rfl (by kernel_rfl) (by kernel_rfl) (AnnOk_list [] (by kernel_rfl) trivial) mix_ok (spec_dyInt_eq)

noncomputable def spec_vaPure_V : Variant := ⟨[.val ty_1 true], [(ty_10, true)], fun x => spec_vaPure x.1⟩
noncomputable def spec_vaPure_C : Cfg := ⟨Tryz.prog, tyOf tys, 6, gOf [], false, [], []⟩
def spec_vaPure_ps : List PE := [⟨0, 0, .val ty_1 true, false⟩]
noncomputable def spec_vaPure_F : Fn ((Int × Int) × Int × Int) := ⟨spec_vaPure_C, rdRes Tryz.prog spec_vaPure_ps [(ty_10, true)] Tryz.f234.results.toList .ret, fun p => none, 0, []⟩
theorem spec_vaPure_eq (x : PTe spec_vaPure_ps) : evFn (spec_vaPure_F) (codeOf Tryz.f234) spec_vaPure_ps 16 x = spec_vaPure x.1 := by kernel_rfl
theorem spec_vaPure_K : Contract Tryz.prog 234 (spec_vaPure_V) :=
  contract (C := spec_vaPure_C) (F := spec_vaPure_F) (fn := Tryz.f234) (ps := spec_vaPure_ps) (rs := [(ty_10, true)]) (nx := 16) ⟨tyOf_ok tys_ok, gOf_ok trivial⟩ rfl (by kernel_rfl) (by kernel_rfl) (by kernel_rfl) (by kernel_rfl) (by kernel_rfl) (by kernel_rfl) rfl (by kernel_rfl) (by kernel_rfl) (AnnOk_list [] (by kernel_rfl) trivial) mix_ok (spec_vaPure_eq)

noncomputable def spec_l1Abs_V : Variant := ⟨[.val ty_0 false], [(ty_0, false)], fun x => spec_l1Abs x.1⟩
noncomputable def spec_l1Abs_C : Cfg := ⟨Tryz.prog, tyOf tys, 7, gOf [(183, [], spec_l1Most_V)], false, [], []⟩
def spec_l1Abs_ps : List PE := [⟨0, 0, .val ty_0 false, false⟩]
noncomputable def spec_l1Abs_F : Fn (Int) := ⟨spec_l1Abs_C, rdRes Tryz.prog spec_l1Abs_ps [(ty_0, false)] Tryz.f226.results.toList .ret, fun p => none, 0, []⟩
theorem spec_l1Abs_eq (x : PTe spec_l1Abs_ps) : evFn (spec_l1Abs_F) (codeOf Tryz.f226) spec_l1Abs_ps 16 x = spec_l1Abs x.1 := by kernel_rfl
theorem spec_l1Abs_K : Contract Tryz.prog 226 (spec_l1Abs_V) :=
  contract (C := spec_l1Abs_C) (F := spec_l1Abs_F) (fn := Tryz.f226) (ps := spec_l1Abs_ps) (rs := [(ty_0, false)]) (nx := 16) ⟨tyOf_ok tys_ok, gOf_ok ⟨spec_l1Most_K, trivial⟩⟩ rfl (by kernel_rfl) (by kernel_rfl) (by kernel_rfl) (by kernel_rfl) (by kernel_rfl) (by kernel_rfl) rfl (by kernel_rfl) (by kernel_rfl) (AnnOk_list [] (by kernel_rfl) trivial) mix_ok (spec_l1Abs_eq)

noncomputable def spec_dyMul_V (k : Nat) : Variant := ⟨[.val ty_1 true, .val ty_1 true], [(ty_1, true), (.bool, false)], fun x => spec_dyMul k x.1 x.2.1⟩
noncomputable def spec_dyMul_C (k : Nat) : Cfg := ⟨Tryz.prog, tyOf tys, 67, gOf [(226, [], spec_l1Abs_V), (185, [], spec_dyMake_V k)], false, [], []⟩
def spec_dyMul_i60 : List PE := [⟨2, 32, .box ty_1 false, false⟩, ⟨3, 48, .box ty_1 false, false⟩, ⟨4, 64, .box ty_1 false, false⟩, ⟨6, 80, .val ty_0 false, false⟩]
def spec_dyMul_o60 : List PE := [⟨2, 32, .box ty_1 false, false⟩, ⟨3, 48, .box ty_1 false, false⟩, ⟨4, 64, .box ty_1 false, false⟩, ⟨6, 80, .val ty_0 false, false⟩]
noncomputable def spec_dyMul_f60 (k : Nat) (n : Nat) (x1 : PTe spec_dyMul_i60) : Option (((Int × Int) × Bool) ⊕ PTe spec_dyMul_o60) := spec_dyMul_L60 k n x1.1 x1.2.1 x1.2.2.1 x1.2.2.2.1
def spec_dyMul_i124 : List PE := [⟨2, 32, .box ty_1 false, false⟩, ⟨3, 48, .box ty_1 false, false⟩, ⟨4, 64, .box ty_1 false, false⟩, ⟨6, 80, .val ty_0 false, false⟩]
def spec_dyMul_o124 : List PE := [⟨2, 32, .box ty_1 false, false⟩, ⟨3, 48, .box ty_1 false, false⟩, ⟨4, 64, .box ty_1 false, false⟩, ⟨6, 80, .val ty_0 false, false⟩]
noncomputable def spec_dyMul_f124 (k : Nat) (n : Nat) (x4 : PTe spec_dyMul_i124) : Option (((Int × Int) × Bool) ⊕ PTe spec_dyMul_o124) := spec_dyMul_L124 k n x4.1 x4.2.1 x4.2.2.1 x4.2.2.2.1
def spec_dyMul_ps : List PE := [⟨0, 0, .val ty_1 true, false⟩, ⟨1, 16, .val ty_1 true, false⟩]
noncomputable def spec_dyMul_F (k : Nat) : Fn ((Int × Int) × Bool) := ⟨spec_dyMul_C k, rdRes Tryz.prog spec_dyMul_ps [(ty_1, true), (.bool, false)] Tryz.f166.results.toList .ret, fun p => bif Nat.beq p 60 then some (.loop spec_dyMul_i60 spec_dyMul_o60 0 96 (spec_dyMul_f60 k k)) else bif Nat.beq p 124 then some (.loop spec_dyMul_i124 spec_dyMul_o124 2 96 (spec_dyMul_f124 k k)) else none, 0, []⟩
theorem spec_dyMul_eq (k : Nat) (x : PTe spec_dyMul_ps) : evFn (spec_dyMul_F k) (codeOf Tryz.f166) spec_dyMul_ps 32 x = spec_dyMul k x.1 x.2.1 := by kernel_rfl
theorem spec_dyMul_ls : loopsOf (codeOf Tryz.f166) 1 = [(60, loopB (codeOf Tryz.f166) 60), (124, loopB (codeOf Tryz.f166) 124)] := by kernel_rfl
theorem spec_dyMul_l60 (k : Nat) : LoopOk (spec_dyMul_F k) (loopB (codeOf Tryz.f166) 60) 60 := LoopOk.mk (pin := spec_dyMul_i60) (pout := spec_dyMul_o60) (ex := 0) (nx := 96) (Lf := spec_dyMul_f60 k) (k := k) (by kernel_rfl) (fun _ => rfl) (by intro n x; kernel_rfl)
theorem spec_dyMul_l124 (k : Nat) : LoopOk (spec_dyMul_F k) (loopB (codeOf Tryz.f166) 124) 124 := LoopOk.mk (pin := spec_dyMul_i124) (pout := spec_dyMul_o124) (ex := 2) (nx := 96) (Lf := spec_dyMul_f124 k) (k := k) (by kernel_rfl) (fun _ => rfl) (by intro n x; kernel_rfl)
theorem spec_dyMul_K (k : Nat) : Contract Tryz.prog 166 (spec_dyMul_V k) :=
  contract (C := spec_dyMul_C k) (F := spec_dyMul_F k) (fn := Tryz.f166) (ps := spec_dyMul_ps) (rs := [(ty_1, true), (.bool, false)]) (nx := 32) ⟨tyOf_ok tys_ok, gOf_ok ⟨spec_l1Abs_K, spec_dyMake_K k, trivial⟩⟩ rfl (by kernel_rfl) (by kernel_rfl) (by kernel_rfl) (by kernel_rfl) (by kernel_rfl) (by kernel_rfl) rfl (by kernel_rfl) (by kernel_rfl) (AnnOk_list [(60, loopB (codeOf Tryz.f166) 60), (124, loopB (codeOf Tryz.f166) 124)] spec_dyMul_ls ⟨spec_dyMul_l60 k, spec_dyMul_l124 k, trivial⟩) mix_ok (spec_dyMul_eq k)

noncomputable def spec_ivRaise_V (k : Nat) : Variant := ⟨[.val ty_1 true, .val ty_0 false], [(ty_1, true), (.bool, false)], fun x => spec_ivRaise k x.1 x.2.1⟩
noncomputable def spec_ivRaise_C (k : Nat) : Cfg := ⟨Tryz.prog, tyOf tys, 25, gOf [(235, [], spec_dyInt_V), (166, [], spec_dyMul_V k)], false, [], []⟩
def spec_ivRaise_i28 : List PE := [⟨1, 32, .val ty_0 false, false⟩, ⟨2, 48, .box ty_1 false, false⟩, ⟨4, 64, .box ty_1 false, false⟩, ⟨6, 80, .box ty_1 false, false⟩]
def spec_ivRaise_o28 : List PE := [⟨4, 32, .box ty_1 false, false⟩, ⟨6, 48, .box ty_1 false, false⟩]
noncomputable def spec_ivRaise_f28 (k : Nat) (n : Nat) (x3 : PTe spec_ivRaise_i28) : Option (((Int × Int) × Bool) ⊕ PTe spec_ivRaise_o28) := spec_ivRaise_L28 k n x3.1 x3.2.1 x3.2.2.1 x3.2.2.2.1
def spec_ivRaise_ps : List PE := [⟨0, 0, .val ty_1 true, false⟩, ⟨1, 16, .val ty_0 false, false⟩]
noncomputable def spec_ivRaise_F (k : Nat) : Fn ((Int × Int) × Bool) := ⟨spec_ivRaise_C k, rdRes Tryz.prog spec_ivRaise_ps [(ty_1, true), (.bool, false)] Tryz.f271.results.toList .ret, fun p => bif Nat.beq p 28 then some (.loop spec_ivRaise_i28 spec_ivRaise_o28 0 96 (spec_ivRaise_f28 k k)) else none, 0, []⟩
theorem spec_ivRaise_eq (k : Nat) (x : PTe spec_ivRaise_ps) : evFn (spec_ivRaise_F k) (codeOf Tryz.f271) spec_ivRaise_ps 32 x = spec_ivRaise k x.1 x.2.1 := by kernel_rfl
theorem spec_ivRaise_ls : loopsOf (codeOf Tryz.f271) 1 = [(28, loopB (codeOf Tryz.f271) 28)] := by kernel_rfl
theorem spec_ivRaise_l28 (k : Nat) : LoopOk (spec_ivRaise_F k) (loopB (codeOf Tryz.f271) 28) 28 := LoopOk.mk (pin := spec_ivRaise_i28) (pout := spec_ivRaise_o28) (ex := 0) (nx := 96) (Lf := spec_ivRaise_f28 k) (k := k) (by kernel_rfl) (fun _ => rfl) (by intro n x; kernel_rfl)
theorem spec_ivRaise_K (k : Nat) : Contract Tryz.prog 271 (spec_ivRaise_V k) :=
  contract (C := spec_ivRaise_C k) (F := spec_ivRaise_F k) (fn := Tryz.f271) (ps := spec_ivRaise_ps) (rs := [(ty_1, true), (.bool, false)]) (nx := 32) ⟨tyOf_ok tys_ok, gOf_ok ⟨spec_dyInt_K, spec_dyMul_K k, trivial⟩⟩ rfl (by kernel_rfl) (by kernel_rfl) (by kernel_rfl) (by kernel_rfl) (by kernel_rfl) (by kernel_rfl) rfl (by kernel_rfl) (by kernel_rfl) (AnnOk_list [(28, loopB (codeOf Tryz.f271) 28)] spec_ivRaise_ls ⟨spec_ivRaise_l28 k, trivial⟩) mix_ok (spec_ivRaise_eq k)

noncomputable def spec_ivZero_V : Variant := ⟨[.val ty_10 true], [(.bool, false)], fun x => spec_ivZero x.1⟩
noncomputable def spec_ivZero_C : Cfg := ⟨Tryz.prog, tyOf tys, 13, gOf [], false, [], []⟩
def spec_ivZero_ps : List PE := [⟨0, 0, .val ty_10 true, false⟩]
noncomputable def spec_ivZero_F : Fn (Bool) := ⟨spec_ivZero_C, rdRes Tryz.prog spec_ivZero_ps [(.bool, false)] Tryz.f272.results.toList .ret, fun p => none, 0, []⟩
theorem spec_ivZero_eq (x : PTe spec_ivZero_ps) : evFn (spec_ivZero_F) (codeOf Tryz.f272) spec_ivZero_ps 16 x = spec_ivZero x.1 := by kernel_rfl
theorem spec_ivZero_K : Contract Tryz.prog 272 (spec_ivZero_V) :=
  contract (C := spec_ivZero_C) (F := spec_ivZero_F) (fn := Tryz.f272) (ps := spec_ivZero_ps) (rs := [(.bool, false)]) (nx := 16) ⟨tyOf_ok tys_ok, gOf_ok trivial⟩ rfl (by kernel_rfl) (by kernel_rfl) (by kernel_rfl) (by kernel_rfl) (by kernel_rfl) (by kernel_rfl) rfl (by kernel_rfl) (by kernel_rfl) (AnnOk_list [] (by kernel_rfl) trivial) mix_ok (spec_ivZero_eq)

noncomputable def spec_dyDown_V : Variant := ⟨[.val ty_0 false, .val ty_0 false], [(ty_0, false)], fun x => spec_dyDown x.1 x.2.1⟩
noncomputable def spec_dyDown_C : Cfg := ⟨Tryz.prog, tyOf tys, 16, gOf [], false, [], []⟩
def spec_dyDown_ps : List PE := [⟨0, 0, .val ty_0 false, false⟩, ⟨1, 16, .val ty_0 false, false⟩]
noncomputable def spec_dyDown_F : Fn (Int) := ⟨spec_dyDown_C, rdRes Tryz.prog spec_dyDown_ps [(ty_0, false)] Tryz.f248.results.toList .ret, fun p => none, 0, []⟩
theorem spec_dyDown_eq (x : PTe spec_dyDown_ps) : evFn (spec_dyDown_F) (codeOf Tryz.f248) spec_dyDown_ps 32 x = spec_dyDown x.1 x.2.1 := by kernel_rfl
theorem spec_dyDown_K : Contract Tryz.prog 248 (spec_dyDown_V) :=
  contract (C := spec_dyDown_C) (F := spec_dyDown_F) (fn := Tryz.f248) (ps := spec_dyDown_ps) (rs := [(ty_0, false)]) (nx := 32) ⟨tyOf_ok tys_ok, gOf_ok trivial⟩ rfl (by kernel_rfl) (by kernel_rfl) (by kernel_rfl) (by kernel_rfl) (by kernel_rfl) (by kernel_rfl) rfl (by kernel_rfl) (by kernel_rfl) (AnnOk_list [] (by kernel_rfl) trivial) mix_ok (spec_dyDown_eq)

noncomputable def spec_dyFloor_V : Variant := ⟨[.val ty_1 true], [(ty_0, false)], fun x => spec_dyFloor x.1⟩
noncomputable def spec_dyFloor_C : Cfg := ⟨Tryz.prog, tyOf tys, 9, gOf [(143, [], spec_dyPower_V), (248, [], spec_dyDown_V)], false, [], []⟩
def spec_dyFloor_ps : List PE := [⟨0, 0, .val ty_1 true, false⟩]
noncomputable def spec_dyFloor_F : Fn (Int) := ⟨spec_dyFloor_C, rdRes Tryz.prog spec_dyFloor_ps [(ty_0, false)] Tryz.f224.results.toList .ret, fun p => none, 0, []⟩
theorem spec_dyFloor_eq (x : PTe spec_dyFloor_ps) : evFn (spec_dyFloor_F) (codeOf Tryz.f224) spec_dyFloor_ps 16 x = spec_dyFloor x.1 := by kernel_rfl
theorem spec_dyFloor_K : Contract Tryz.prog 224 (spec_dyFloor_V) :=
  contract (C := spec_dyFloor_C) (F := spec_dyFloor_F) (fn := Tryz.f224) (ps := spec_dyFloor_ps) (rs := [(ty_0, false)]) (nx := 16) ⟨tyOf_ok tys_ok, gOf_ok ⟨spec_dyPower_K, spec_dyDown_K, trivial⟩⟩ rfl (by kernel_rfl) (by kernel_rfl) (by kernel_rfl) (by kernel_rfl) (by kernel_rfl) (by kernel_rfl) rfl (by kernel_rfl) (by kernel_rfl) (AnnOk_list [] (by kernel_rfl) trivial) mix_ok (spec_dyFloor_eq)

noncomputable def spec_dyAt_V (k : Nat) : Variant := ⟨[.val ty_1 true, .val ty_0 false], [(ty_0, false), (.bool, false)], fun x => spec_dyAt k x.1 x.2.1⟩
noncomputable def spec_dyAt_C (k : Nat) : Cfg := ⟨Tryz.prog, tyOf tys, 30, gOf [(143, [], spec_dyPower_V), (132, [], spec_l1In_V)], false, [], []⟩
def spec_dyAt_i58 : List PE := [⟨1, 32, .val ty_0 false, false⟩, ⟨2, 48, .box ty_1 false, false⟩, ⟨6, 64, .val ty_0 false, false⟩]
def spec_dyAt_o58 : List PE := [⟨2, 32, .box ty_1 false, false⟩]
noncomputable def spec_dyAt_f58 (k : Nat) (n : Nat) (x4 : PTe spec_dyAt_i58) : Option ((Int × Bool) ⊕ PTe spec_dyAt_o58) := spec_dyAt_L58 k n x4.1 x4.2.1 x4.2.2.1
def spec_dyAt_ps : List PE := [⟨0, 0, .val ty_1 true, false⟩, ⟨1, 16, .val ty_0 false, false⟩]
noncomputable def spec_dyAt_F (k : Nat) : Fn (Int × Bool) := ⟨spec_dyAt_C k, rdRes Tryz.prog spec_dyAt_ps [(ty_0, false), (.bool, false)] Tryz.f184.results.toList .ret, fun p => bif Nat.beq p 58 then some (.loop spec_dyAt_i58 spec_dyAt_o58 0 80 (spec_dyAt_f58 k k)) else none, 0, []⟩
theorem spec_dyAt_eq (k : Nat) (x : PTe spec_dyAt_ps) : evFn (spec_dyAt_F k) (codeOf Tryz.f184) spec_dyAt_ps 32 x = spec_dyAt k x.1 x.2.1 := by kernel_rfl
theorem spec_dyAt_ls : loopsOf (codeOf Tryz.f184) 1 = [(58, loopB (codeOf Tryz.f184) 58)] := by kernel_rfl
theorem spec_dyAt_l58 (k : Nat) : LoopOk (spec_dyAt_F k) (loopB (codeOf Tryz.f184) 58) 58 := LoopOk.mk (pin := spec_dyAt_i58) (pout := spec_dyAt_o58) (ex := 0) (nx := 80) (Lf := spec_dyAt_f58 k) (k := k) (by kernel_rfl) (fun _ => rfl) (by intro n x; kernel_rfl)
theorem spec_dyAt_K (k : Nat) : Contract Tryz.prog 184 (spec_dyAt_V k) :=
  contract (C := spec_dyAt_C k) (F := spec_dyAt_F k) (fn := Tryz.f184) (ps := spec_dyAt_ps) (rs := [(ty_0, false), (.bool, false)]) (nx := 32) ⟨tyOf_ok tys_ok, gOf_ok ⟨spec_dyPower_K, spec_l1In_K, trivial⟩⟩ rfl (by kernel_rfl) (by kernel_rfl) (by kernel_rfl) (by kernel_rfl) (by kernel_rfl) (by kernel_rfl) rfl (by kernel_rfl) (by kernel_rfl) (AnnOk_list [(58, loopB (codeOf Tryz.f184) 58)] spec_dyAt_ls ⟨spec_dyAt_l58 k, trivial⟩) mix_ok (spec_dyAt_eq k)

noncomputable def spec_dyCmp_V (k : Nat) : Variant := ⟨[.val ty_1 true, .val ty_1 true], [(ty_0, false)], fun x => spec_dyCmp k x.1 x.2.1⟩
noncomputable def spec_dyCmp_C (k : Nat) : Cfg := ⟨Tryz.prog, tyOf tys, 56, gOf [(224, [], spec_dyFloor_V), (225, [], spec_l1Sign_V), (143, [], spec_dyPower_V), (184, [], spec_dyAt_V k)], false, [], []⟩
def spec_dyCmp_ps : List PE := [⟨0, 0, .val ty_1 true, false⟩, ⟨1, 16, .val ty_1 true, false⟩]
noncomputable def spec_dyCmp_F (k : Nat) : Fn (Int) := ⟨spec_dyCmp_C k, rdRes Tryz.prog spec_dyCmp_ps [(ty_0, false)] Tryz.f165.results.toList .ret, fun p => none, 0, []⟩
theorem spec_dyCmp_eq (k : Nat) (x : PTe spec_dyCmp_ps) : evFn (spec_dyCmp_F k) (codeOf Tryz.f165) spec_dyCmp_ps 32 x = spec_dyCmp k x.1 x.2.1 := by kernel_rfl
theorem spec_dyCmp_K (k : Nat) : Contract Tryz.prog 165 (spec_dyCmp_V k) :=
  contract (C := spec_dyCmp_C k) (F := spec_dyCmp_F k) (fn := Tryz.f165) (ps := spec_dyCmp_ps) (rs := [(ty_0, false)]) (nx := 32) ⟨tyOf_ok tys_ok, gOf_ok ⟨spec_dyFloor_K, spec_l1Sign_K, spec_dyPower_K, spec_dyAt_K k, trivial⟩⟩ rfl (by kernel_rfl) (by kernel_rfl) (by kernel_rfl) (by kernel_rfl) (by kernel_rfl) (by kernel_rfl) rfl (by kernel_rfl) (by kernel_rfl) (AnnOk_list [] (by kernel_rfl) trivial) mix_ok (spec_dyCmp_eq k)

noncomputable def spec_ivEnds_V (k : Nat) : Variant := ⟨[.val ty_11 false], [(ty_10, true)], fun x => spec_ivEnds k x.1⟩
noncomputable def spec_ivEnds_C (k : Nat) : Cfg := ⟨Tryz.prog, tyOf tys, 35, gOf [(165, [], spec_dyCmp_V k)], false, [], []⟩
def spec_ivEnds_i58 : List PE := [⟨2, 16, .box ty_10 false, false⟩, ⟨3, 32, .box ty_10 false, false⟩, ⟨13, 48, .val ty_11 false, false⟩, ⟨14, 64, .val ty_0 false, false⟩, ⟨15, 80, .val ty_0 false, false⟩]
def spec_ivEnds_o58 : List PE := [⟨2, 16, .box ty_10 false, false⟩, ⟨3, 32, .box ty_10 false, false⟩]
noncomputable def spec_ivEnds_f58 (k : Nat) (n : Nat) (x5 : PTe spec_ivEnds_i58) : Option (((Int × Int) × Int × Int) ⊕ PTe spec_ivEnds_o58) := spec_ivEnds_L58 k n x5.1 x5.2.1 x5.2.2.1 x5.2.2.2.1 x5.2.2.2.2.1
def spec_ivEnds_ps : List PE := [⟨0, 0, .val ty_11 false, false⟩]
noncomputable def spec_ivEnds_F (k : Nat) : Fn ((Int × Int) × Int × Int) := ⟨spec_ivEnds_C k, rdRes Tryz.prog spec_ivEnds_ps [(ty_10, true)] Tryz.f168.results.toList .ret, fun p => bif Nat.beq p 7474 then some (.cut [⟨2, 16, .box ty_10 false, false⟩, ⟨3, 32, .box ty_10 false, false⟩, ⟨5, 48, .box ty_1 false, false⟩, ⟨13, 64, .val ty_11 false, false⟩, ⟨14, 80, .val ty_0 false, false⟩, ⟨15, 96, .val ty_0 false, false⟩] 112) else bif Nat.beq p 58 then some (.loop spec_ivEnds_i58 spec_ivEnds_o58 0 96 (spec_ivEnds_f58 k k)) else none, 0, []⟩
theorem spec_ivEnds_eq (k : Nat) (x : PTe spec_ivEnds_ps) : evFn (spec_ivEnds_F k) (codeOf Tryz.f168) spec_ivEnds_ps 16 x = spec_ivEnds k x.1 := by kernel_rfl
theorem spec_ivEnds_ls : loopsOf (codeOf Tryz.f168) 1 = [(58, loopB (codeOf Tryz.f168) 58)] := by kernel_rfl
theorem spec_ivEnds_l58 (k : Nat) : LoopOk (spec_ivEnds_F k) (loopB (codeOf Tryz.f168) 58) 58 := LoopOk.mk (pin := spec_ivEnds_i58) (pout := spec_ivEnds_o58) (ex := 0) (nx := 96) (Lf := spec_ivEnds_f58 k) (k := k) (by kernel_rfl) (fun _ => rfl) (by intro n x; kernel_rfl)
theorem spec_ivEnds_K (k : Nat) : Contract Tryz.prog 168 (spec_ivEnds_V k) :=
  contract (C := spec_ivEnds_C k) (F := spec_ivEnds_F k) (fn := Tryz.f168) (ps := spec_ivEnds_ps) (rs := [(ty_10, true)]) (nx := 16) ⟨tyOf_ok tys_ok, gOf_ok ⟨spec_dyCmp_K k, trivial⟩⟩ rfl (by kernel_rfl) (by kernel_rfl) (by kernel_rfl) (by kernel_rfl) (by kernel_rfl) (by kernel_rfl) rfl (by kernel_rfl) (by kernel_rfl) (AnnOk_list [(58, loopB (codeOf Tryz.f168) 58)] spec_ivEnds_ls ⟨spec_ivEnds_l58 k, trivial⟩) mix_ok (spec_ivEnds_eq k)

noncomputable def spec_dyRound_V (k : Nat) : Variant := ⟨[.val ty_1 true, .val ty_0 false], [(ty_1, true)], fun x => spec_dyRound k x.1 x.2.1⟩
noncomputable def spec_dyRound_C (k : Nat) : Cfg := ⟨Tryz.prog, tyOf tys, 26, gOf [(143, [], spec_dyPower_V), (248, [], spec_dyDown_V), (185, [], spec_dyMake_V k)], false, [], []⟩
def spec_dyRound_ps : List PE := [⟨0, 0, .val ty_1 true, false⟩, ⟨1, 16, .val ty_0 false, false⟩]
noncomputable def spec_dyRound_F (k : Nat) : Fn (Int × Int) := ⟨spec_dyRound_C k, rdRes Tryz.prog spec_dyRound_ps [(ty_1, true)] Tryz.f227.results.toList .ret, fun p => none, 0, []⟩
theorem spec_dyRound_eq (k : Nat) (x : PTe spec_dyRound_ps) : evFn (spec_dyRound_F k) (codeOf Tryz.f227) spec_dyRound_ps 32 x = spec_dyRound k x.1 x.2.1 := by kernel_rfl
theorem spec_dyRound_K (k : Nat) : Contract Tryz.prog 227 (spec_dyRound_V k) :=
  contract (C := spec_dyRound_C k) (F := spec_dyRound_F k) (fn := Tryz.f227) (ps := spec_dyRound_ps) (rs := [(ty_1, true)]) (nx := 32) ⟨tyOf_ok tys_ok, gOf_ok ⟨spec_dyPower_K, spec_dyDown_K, spec_dyMake_K k, trivial⟩⟩ rfl (by kernel_rfl) (by kernel_rfl) (by kernel_rfl) (by kernel_rfl) (by kernel_rfl) (by kernel_rfl) rfl (by kernel_rfl) (by kernel_rfl) (AnnOk_list [] (by kernel_rfl) trivial) mix_ok (spec_dyRound_eq k)

noncomputable def spec_dyMinus_V : Variant := ⟨[.val ty_1 true], [(ty_1, true)], fun x => spec_dyMinus x.1⟩
noncomputable def spec_dyMinus_C : Cfg := ⟨Tryz.prog, tyOf tys, 9, gOf [], false, [], []⟩
def spec_dyMinus_ps : List PE := [⟨0, 0, .val ty_1 true, false⟩]
noncomputable def spec_dyMinus_F : Fn (Int × Int) := ⟨spec_dyMinus_C, rdRes Tryz.prog spec_dyMinus_ps [(ty_1, true)] Tryz.f247.results.toList .ret, fun p => none, 0, []⟩
theorem spec_dyMinus_eq (x : PTe spec_dyMinus_ps) : evFn (spec_dyMinus_F) (codeOf Tryz.f247) spec_dyMinus_ps 16 x = spec_dyMinus x.1 := by kernel_rfl
theorem spec_dyMinus_K : Contract Tryz.prog 247 (spec_dyMinus_V) :=
  contract (C := spec_dyMinus_C) (F := spec_dyMinus_F) (fn := Tryz.f247) (ps := spec_dyMinus_ps) (rs := [(ty_1, true)]) (nx := 16) ⟨tyOf_ok tys_ok, gOf_ok trivial⟩ rfl (by kernel_rfl) (by kernel_rfl) (by kernel_rfl) (by kernel_rfl) (by kernel_rfl) (by kernel_rfl) rfl (by kernel_rfl) (by kernel_rfl) (AnnOk_list [] (by kernel_rfl) trivial) mix_ok (spec_dyMinus_eq)

noncomputable def spec_ivUp_V (k : Nat) : Variant := ⟨[.val ty_1 true, .val ty_0 false], [(ty_1, true)], fun x => spec_ivUp k x.1 x.2.1⟩
noncomputable def spec_ivUp_C (k : Nat) : Cfg := ⟨Tryz.prog, tyOf tys, 10, gOf [(247, [], spec_dyMinus_V), (227, [], spec_dyRound_V k)], false, [], []⟩
def spec_ivUp_ps : List PE := [⟨0, 0, .val ty_1 true, false⟩, ⟨1, 16, .val ty_0 false, false⟩]
noncomputable def spec_ivUp_F (k : Nat) : Fn (Int × Int) := ⟨spec_ivUp_C k, rdRes Tryz.prog spec_ivUp_ps [(ty_1, true)] Tryz.f228.results.toList .ret, fun p => none, 0, []⟩
theorem spec_ivUp_eq (k : Nat) (x : PTe spec_ivUp_ps) : evFn (spec_ivUp_F k) (codeOf Tryz.f228) spec_ivUp_ps 32 x = spec_ivUp k x.1 x.2.1 := by kernel_rfl
theorem spec_ivUp_K (k : Nat) : Contract Tryz.prog 228 (spec_ivUp_V k) :=
  contract (C := spec_ivUp_C k) (F := spec_ivUp_F k) (fn := Tryz.f228) (ps := spec_ivUp_ps) (rs := [(ty_1, true)]) (nx := 32) ⟨tyOf_ok tys_ok, gOf_ok ⟨spec_dyMinus_K, spec_dyRound_K k, trivial⟩⟩ rfl (by kernel_rfl) (by kernel_rfl) (by kernel_rfl) (by kernel_rfl) (by kernel_rfl) (by kernel_rfl) rfl (by kernel_rfl) (by kernel_rfl) (AnnOk_list [] (by kernel_rfl) trivial) mix_ok (spec_ivUp_eq k)

noncomputable def spec_ivRound_V (k : Nat) : Variant := ⟨[.val ty_10 true, .val ty_0 false], [(ty_10, true)], fun x => spec_ivRound k x.1 x.2.1⟩
noncomputable def spec_ivRound_C (k : Nat) : Cfg := ⟨Tryz.prog, tyOf tys, 14, gOf [(227, [], spec_dyRound_V k), (228, [], spec_ivUp_V k)], false, [], []⟩
def spec_ivRound_ps : List PE := [⟨0, 0, .val ty_10 true, false⟩, ⟨1, 16, .val ty_0 false, false⟩]
noncomputable def spec_ivRound_F (k : Nat) : Fn ((Int × Int) × Int × Int) := ⟨spec_ivRound_C k, rdRes Tryz.prog spec_ivRound_ps [(ty_10, true)] Tryz.f167.results.toList .ret, fun p => none, 0, []⟩
theorem spec_ivRound_eq (k : Nat) (x : PTe spec_ivRound_ps) : evFn (spec_ivRound_F k) (codeOf Tryz.f167) spec_ivRound_ps 32 x = spec_ivRound k x.1 x.2.1 := by kernel_rfl
theorem spec_ivRound_K (k : Nat) : Contract Tryz.prog 167 (spec_ivRound_V k) :=
  contract (C := spec_ivRound_C k) (F := spec_ivRound_F k) (fn := Tryz.f167) (ps := spec_ivRound_ps) (rs := [(ty_10, true)]) (nx := 32) ⟨tyOf_ok tys_ok, gOf_ok ⟨spec_dyRound_K k, spec_ivUp_K k, trivial⟩⟩ rfl (by kernel_rfl) (by kernel_rfl) (by kernel_rfl) (by kernel_rfl) (by kernel_rfl) (by kernel_rfl) rfl (by kernel_rfl) (by kernel_rfl) (AnnOk_list [] (by kernel_rfl) trivial) mix_ok (spec_ivRound_eq k)

noncomputable def spec_ivPower_V (k : Nat) : Variant := ⟨[.val ty_10 true, .val ty_0 false], [(ty_10, true), (.bool, false)], fun x => spec_ivPower k x.1 x.2.1⟩
noncomputable def spec_ivPower_C (k : Nat) : Cfg := ⟨Tryz.prog, tyOf tys, 53, gOf [(271, [], spec_ivRaise_V k), (272, [], spec_ivZero_V), (235, [], spec_dyInt_V), (168, [], spec_ivEnds_V k), (167, [], spec_ivRound_V k)], false, [], []⟩
def spec_ivPower_ps : List PE := [⟨0, 0, .val ty_10 true, false⟩, ⟨1, 16, .val ty_0 false, false⟩]
noncomputable def spec_ivPower_F (k : Nat) : Fn (((Int × Int) × Int × Int) × Bool) := ⟨spec_ivPower_C k, rdRes Tryz.prog spec_ivPower_ps [(ty_10, true), (.bool, false)] Tryz.f236.results.toList .ret, fun p => bif Nat.beq p 126 then some (.cut [⟨4, 32, .box ty_10 false, false⟩, ⟨10, 48, .eat ty_1, false⟩] 64) else none, 0, []⟩
theorem spec_ivPower_eq (k : Nat) (x : PTe spec_ivPower_ps) : evFn (spec_ivPower_F k) (codeOf Tryz.f236) spec_ivPower_ps 32 x = spec_ivPower k x.1 x.2.1 := by kernel_rfl
theorem spec_ivPower_K (k : Nat) : Contract Tryz.prog 236 (spec_ivPower_V k) :=
  contract (C := spec_ivPower_C k) (F := spec_ivPower_F k) (fn := Tryz.f236) (ps := spec_ivPower_ps) (rs := [(ty_10, true), (.bool, false)]) (nx := 32) ⟨tyOf_ok tys_ok, gOf_ok ⟨spec_ivRaise_K k, spec_ivZero_K, spec_dyInt_K, spec_ivEnds_K k, spec_ivRound_K k, trivial⟩⟩ rfl (by kernel_rfl) (by kernel_rfl) (by kernel_rfl) (by kernel_rfl) (by kernel_rfl) (by kernel_rfl) rfl (by kernel_rfl) (by kernel_rfl) (AnnOk_list [] (by kernel_rfl) trivial) mix_ok (spec_ivPower_eq k)

noncomputable def spec_ivMul_V (k : Nat) : Variant := ⟨[.val ty_10 true, .val ty_10 true], [(ty_10, true), (.bool, false)], fun x => spec_ivMul k x.1 x.2.1⟩
noncomputable def spec_ivMul_C (k : Nat) : Cfg := ⟨Tryz.prog, tyOf tys, 51, gOf [(166, [], spec_dyMul_V k), (168, [], spec_ivEnds_V k), (167, [], spec_ivRound_V k)], false, [], []⟩
def spec_ivMul_i14950 : List PE := [⟨3, 32, .box ty_10 false, false⟩, ⟨4, 48, .box ty_10 false, false⟩, ⟨6, 64, .eat ty_1, false⟩, ⟨8, 80, .box ty_1 false, false⟩, ⟨17, 96, .eat ty_1, false⟩, ⟨18, 112, .val ty_0 false, false⟩, ⟨19, 128, .val ty_0 false, false⟩, ⟨27, 144, .eat ty_1, false⟩, ⟨28, 160, .val ty_0 false, false⟩, ⟨29, 176, .val ty_0 false, false⟩]
def spec_ivMul_o14950 : List PE := [⟨3, 32, .box ty_10 false, false⟩, ⟨4, 48, .box ty_10 false, false⟩, ⟨6, 64, .eat ty_1, false⟩, ⟨17, 80, .eat ty_1, false⟩, ⟨18, 96, .val ty_0 false, false⟩, ⟨19, 112, .val ty_0 false, false⟩]
noncomputable def spec_ivMul_f14950 (k : Nat) (n : Nat) (x2 : PTe spec_ivMul_i14950) : Option ((((Int × Int) × Int × Int) × Bool) ⊕ PTe spec_ivMul_o14950) := spec_ivMul_L14950 k n x2.1 x2.2.1 x2.2.2.1 x2.2.2.2.1 x2.2.2.2.2.1 x2.2.2.2.2.2.1 x2.2.2.2.2.2.2.1 x2.2.2.2.2.2.2.2.1 x2.2.2.2.2.2.2.2.2.1 x2.2.2.2.2.2.2.2.2.2.1
def spec_ivMul_i58 : List PE := [⟨3, 32, .box ty_10 false, false⟩, ⟨4, 48, .box ty_10 false, false⟩, ⟨6, 64, .eat ty_1, false⟩, ⟨17, 80, .eat ty_1, false⟩, ⟨18, 96, .val ty_0 false, false⟩, ⟨19, 112, .val ty_0 false, false⟩]
def spec_ivMul_o58 : List PE := [⟨4, 32, .box ty_10 false, false⟩, ⟨6, 48, .eat ty_1, false⟩]
noncomputable def spec_ivMul_f58 (k : Nat) (n : Nat) (x5 : PTe spec_ivMul_i58) : Option ((((Int × Int) × Int × Int) × Bool) ⊕ PTe spec_ivMul_o58) := spec_ivMul_L58 k n x5.1 x5.2.1 x5.2.2.1 x5.2.2.2.1 x5.2.2.2.2.1 x5.2.2.2.2.2.1
def spec_ivMul_ps : List PE := [⟨0, 0, .val ty_10 true, false⟩, ⟨1, 16, .val ty_10 true, false⟩]
noncomputable def spec_ivMul_F (k : Nat) : Fn (((Int × Int) × Int × Int) × Bool) := ⟨spec_ivMul_C k, rdRes Tryz.prog spec_ivMul_ps [(ty_10, true), (.bool, false)] Tryz.f106.results.toList .ret, fun p => bif Nat.beq p 14950 then some (.loop spec_ivMul_i14950 spec_ivMul_o14950 2 192 (spec_ivMul_f14950 k k)) else bif Nat.beq p 58 then some (.loop spec_ivMul_i58 spec_ivMul_o58 0 128 (spec_ivMul_f58 k k)) else none, 0, []⟩
theorem spec_ivMul_eq (k : Nat) (x : PTe spec_ivMul_ps) : evFn (spec_ivMul_F k) (codeOf Tryz.f106) spec_ivMul_ps 32 x = spec_ivMul k x.1 x.2.1 := by kernel_rfl
theorem spec_ivMul_ls : loopsOf (codeOf Tryz.f106) 1 = [(58, loopB (codeOf Tryz.f106) 58), (14950, loopB (codeOf Tryz.f106) 14950)] := by kernel_rfl
theorem spec_ivMul_l14950 (k : Nat) : LoopOk (spec_ivMul_F k) (loopB (codeOf Tryz.f106) 14950) 14950 := LoopOk.mk (pin := spec_ivMul_i14950) (pout := spec_ivMul_o14950) (ex := 2) (nx := 192) (Lf := spec_ivMul_f14950 k) (k := k) (by kernel_rfl) (fun _ => rfl) (by intro n x; kernel_rfl)
theorem spec_ivMul_l58 (k : Nat) : LoopOk (spec_ivMul_F k) (loopB (codeOf Tryz.f106) 58) 58 := LoopOk.mk (pin := spec_ivMul_i58) (pout := spec_ivMul_o58) (ex := 0) (nx := 128) (Lf := spec_ivMul_f58 k) (k := k) (by kernel_rfl) (fun _ => rfl) (by intro n x; kernel_rfl)
theorem spec_ivMul_K (k : Nat) : Contract Tryz.prog 106 (spec_ivMul_V k) :=
  contract (C := spec_ivMul_C k) (F := spec_ivMul_F k) (fn := Tryz.f106) (ps := spec_ivMul_ps) (rs := [(ty_10, true), (.bool, false)]) (nx := 32) ⟨tyOf_ok tys_ok, gOf_ok ⟨spec_dyMul_K k, spec_ivEnds_K k, spec_ivRound_K k, trivial⟩⟩ rfl (by kernel_rfl) (by kernel_rfl) (by kernel_rfl) (by kernel_rfl) (by kernel_rfl) (by kernel_rfl) rfl (by kernel_rfl) (by kernel_rfl) (AnnOk_list [(58, loopB (codeOf Tryz.f106) 58), (14950, loopB (codeOf Tryz.f106) 14950)] spec_ivMul_ls ⟨spec_ivMul_l58 k, spec_ivMul_l14950 k, trivial⟩) mix_ok (spec_ivMul_eq k)

noncomputable def spec_dyAdd_V (k : Nat) : Variant := ⟨[.val ty_1 true, .val ty_1 true], [(ty_1, true), (.bool, false)], fun x => spec_dyAdd k x.1 x.2.1⟩
noncomputable def spec_dyAdd_C (k : Nat) : Cfg := ⟨Tryz.prog, tyOf tys, 42, gOf [(183, [], spec_l1Most_V), (184, [], spec_dyAt_V k), (185, [], spec_dyMake_V k)], false, [], []⟩
def spec_dyAdd_ps : List PE := [⟨0, 0, .val ty_1 true, false⟩, ⟨1, 16, .val ty_1 true, false⟩]
noncomputable def spec_dyAdd_F (k : Nat) : Fn ((Int × Int) × Bool) := ⟨spec_dyAdd_C k, rdRes Tryz.prog spec_dyAdd_ps [(ty_1, true), (.bool, false)] Tryz.f169.results.toList .ret, fun p => none, 0, []⟩
theorem spec_dyAdd_eq (k : Nat) (x : PTe spec_dyAdd_ps) : evFn (spec_dyAdd_F k) (codeOf Tryz.f169) spec_dyAdd_ps 32 x = spec_dyAdd k x.1 x.2.1 := by kernel_rfl
theorem spec_dyAdd_K (k : Nat) : Contract Tryz.prog 169 (spec_dyAdd_V k) :=
  contract (C := spec_dyAdd_C k) (F := spec_dyAdd_F k) (fn := Tryz.f169) (ps := spec_dyAdd_ps) (rs := [(ty_1, true), (.bool, false)]) (nx := 32) ⟨tyOf_ok tys_ok, gOf_ok ⟨spec_l1Most_K, spec_dyAt_K k, spec_dyMake_K k, trivial⟩⟩ rfl (by kernel_rfl) (by kernel_rfl) (by kernel_rfl) (by kernel_rfl) (by kernel_rfl) (by kernel_rfl) rfl (by kernel_rfl) (by kernel_rfl) (AnnOk_list [] (by kernel_rfl) trivial) mix_ok (spec_dyAdd_eq k)

noncomputable def spec_ivBoth_V : Variant := ⟨[.val ty_1 true, .val .bool false, .val ty_1 true, .val .bool false], [(ty_10, true), (.bool, false)], fun x => spec_ivBoth x.1 x.2.1 x.2.2.1 x.2.2.2.1⟩
noncomputable def spec_ivBoth_C : Cfg := ⟨Tryz.prog, tyOf tys, 20, gOf [], false, [], []⟩
def spec_ivBoth_ps : List PE := [⟨0, 0, .val ty_1 true, false⟩, ⟨1, 16, .val .bool false, false⟩, ⟨2, 32, .val ty_1 true, false⟩, ⟨3, 48, .val .bool false, false⟩]
noncomputable def spec_ivBoth_F : Fn (((Int × Int) × Int × Int) × Bool) := ⟨spec_ivBoth_C, rdRes Tryz.prog spec_ivBoth_ps [(ty_10, true), (.bool, false)] Tryz.f170.results.toList .ret, fun p => none, 0, []⟩
theorem spec_ivBoth_eq (x : PTe spec_ivBoth_ps) : evFn (spec_ivBoth_F) (codeOf Tryz.f170) spec_ivBoth_ps 64 x = spec_ivBoth x.1 x.2.1 x.2.2.1 x.2.2.2.1 := by kernel_rfl
theorem spec_ivBoth_K : Contract Tryz.prog 170 (spec_ivBoth_V) :=
  contract (C := spec_ivBoth_C) (F := spec_ivBoth_F) (fn := Tryz.f170) (ps := spec_ivBoth_ps) (rs := [(ty_10, true), (.bool, false)]) (nx := 64) ⟨tyOf_ok tys_ok, gOf_ok trivial⟩ rfl (by kernel_rfl) (by kernel_rfl) (by kernel_rfl) (by kernel_rfl) (by kernel_rfl) (by kernel_rfl) rfl (by kernel_rfl) (by kernel_rfl) (AnnOk_list [] (by kernel_rfl) trivial) mix_ok (spec_ivBoth_eq)

noncomputable def spec_ivAdd_V (k : Nat) : Variant := ⟨[.val ty_10 true, .val ty_10 true], [(ty_10, true), (.bool, false)], fun x => spec_ivAdd k x.1 x.2.1⟩
noncomputable def spec_ivAdd_C (k : Nat) : Cfg := ⟨Tryz.prog, tyOf tys, 33, gOf [(169, [], spec_dyAdd_V k), (170, [], spec_ivBoth_V)], false, [], []⟩
def spec_ivAdd_ps : List PE := [⟨0, 0, .val ty_10 true, false⟩, ⟨1, 16, .val ty_10 true, false⟩]
noncomputable def spec_ivAdd_F (k : Nat) : Fn (((Int × Int) × Int × Int) × Bool) := ⟨spec_ivAdd_C k, rdRes Tryz.prog spec_ivAdd_ps [(ty_10, true), (.bool, false)] Tryz.f107.results.toList .ret, fun p => none, 0, []⟩
theorem spec_ivAdd_eq (k : Nat) (x : PTe spec_ivAdd_ps) : evFn (spec_ivAdd_F k) (codeOf Tryz.f107) spec_ivAdd_ps 32 x = spec_ivAdd k x.1 x.2.1 := by kernel_rfl
theorem spec_ivAdd_K (k : Nat) : Contract Tryz.prog 107 (spec_ivAdd_V k) :=
  contract (C := spec_ivAdd_C k) (F := spec_ivAdd_F k) (fn := Tryz.f107) (ps := spec_ivAdd_ps) (rs := [(ty_10, true), (.bool, false)]) (nx := 32) ⟨tyOf_ok tys_ok, gOf_ok ⟨spec_dyAdd_K k, spec_ivBoth_K, trivial⟩⟩ rfl (by kernel_rfl) (by kernel_rfl) (by kernel_rfl) (by kernel_rfl) (by kernel_rfl) (by kernel_rfl) rfl (by kernel_rfl) (by kernel_rfl) (AnnOk_list [] (by kernel_rfl) trivial) mix_ok (spec_ivAdd_eq k)

noncomputable def spec_vaOver_V (k : Nat) : Variant := ⟨[.val ty_4 false, .val ty_12 false], [(ty_10, true), (.bool, false)], fun x => spec_vaOver k x.1 x.2.1⟩
noncomputable def spec_vaOver_C (k : Nat) : Cfg := ⟨Tryz.prog, tyOf tys, 71, gOf [(235, [], spec_dyInt_V), (234, [], spec_vaPure_V), (219, [], spec_poPower_V), (236, [], spec_ivPower_V k), (106, [], spec_ivMul_V k), (107, [], spec_ivAdd_V k)], false, [], []⟩
def spec_vaOver_i59802 : List PE := [⟨1, 32, .val ty_12 false, false⟩, ⟨4, 48, .box ty_10 false, false⟩, ⟨6, 64, .box ty_10 false, false⟩, ⟨8, 80, .box ty_3 false, false⟩, ⟨9, 96, .box ty_10 false, false⟩, ⟨20, 112, .val ty_4 false, false⟩, ⟨21, 128, .val ty_0 false, false⟩, ⟨22, 144, .val ty_0 false, false⟩, ⟨30, 160, .val ty_12 false, false⟩, ⟨31, 176, .val ty_0 false, false⟩, ⟨32, 192, .val ty_0 false, false⟩]
def spec_vaOver_o59802 : List PE := [⟨1, 32, .val ty_12 false, false⟩, ⟨4, 48, .box ty_10 false, false⟩, ⟨6, 64, .box ty_10 false, false⟩, ⟨9, 80, .box ty_10 false, false⟩, ⟨20, 96, .val ty_4 false, false⟩, ⟨21, 112, .val ty_0 false, false⟩, ⟨22, 128, .val ty_0 false, false⟩]
noncomputable def spec_vaOver_f59802 (k : Nat) (n : Nat) (x8 : PTe spec_vaOver_i59802) : Option ((((Int × Int) × Int × Int) × Bool) ⊕ PTe spec_vaOver_o59802) := spec_vaOver_L59802 k n x8.1 x8.2.1 x8.2.2.1 x8.2.2.2.1 x8.2.2.2.2.1 x8.2.2.2.2.2.1 x8.2.2.2.2.2.2.1 x8.2.2.2.2.2.2.2.1 x8.2.2.2.2.2.2.2.2.1 x8.2.2.2.2.2.2.2.2.2.1 x8.2.2.2.2.2.2.2.2.2.2.1
def spec_vaOver_i58 : List PE := [⟨1, 32, .val ty_12 false, false⟩, ⟨4, 48, .box ty_10 false, false⟩, ⟨6, 64, .box ty_10 false, false⟩, ⟨20, 80, .val ty_4 false, false⟩, ⟨21, 96, .val ty_0 false, false⟩, ⟨22, 112, .val ty_0 false, false⟩]
def spec_vaOver_o58 : List PE := [⟨4, 32, .box ty_10 false, false⟩, ⟨6, 48, .box ty_10 false, false⟩]
noncomputable def spec_vaOver_f58 (k : Nat) (n : Nat) (x12 : PTe spec_vaOver_i58) : Option ((((Int × Int) × Int × Int) × Bool) ⊕ PTe spec_vaOver_o58) := spec_vaOver_L58 k n x12.1 x12.2.1 x12.2.2.1 x12.2.2.2.1 x12.2.2.2.2.1 x12.2.2.2.2.2.1
def spec_vaOver_ps : List PE := [⟨0, 0, .val ty_4 false, false⟩, ⟨1, 16, .val ty_12 false, false⟩]
noncomputable def spec_vaOver_F (k : Nat) : Fn (((Int × Int) × Int × Int) × Bool) := ⟨spec_vaOver_C k, rdRes Tryz.prog spec_vaOver_ps [(ty_10, true), (.bool, false)] Tryz.f180.results.toList .ret, fun p => bif Nat.beq p 59802 then some (.loop spec_vaOver_i59802 spec_vaOver_o59802 2 208 (spec_vaOver_f59802 k k)) else bif Nat.beq p 58 then some (.loop spec_vaOver_i58 spec_vaOver_o58 0 128 (spec_vaOver_f58 k k)) else none, 0, []⟩
theorem spec_vaOver_eq (k : Nat) (x : PTe spec_vaOver_ps) : evFn (spec_vaOver_F k) (codeOf Tryz.f180) spec_vaOver_ps 32 x = spec_vaOver k x.1 x.2.1 := by kernel_rfl
theorem spec_vaOver_ls : loopsOf (codeOf Tryz.f180) 1 = [(58, loopB (codeOf Tryz.f180) 58), (59802, loopB (codeOf Tryz.f180) 59802)] := by kernel_rfl
theorem spec_vaOver_l59802 (k : Nat) : LoopOk (spec_vaOver_F k) (loopB (codeOf Tryz.f180) 59802) 59802 := LoopOk.mk (pin := spec_vaOver_i59802) (pout := spec_vaOver_o59802) (ex := 2) (nx := 208) (Lf := spec_vaOver_f59802 k) (k := k) (by kernel_rfl) (fun _ => rfl) (by intro n x; kernel_rfl)
theorem spec_vaOver_l58 (k : Nat) : LoopOk (spec_vaOver_F k) (loopB (codeOf Tryz.f180) 58) 58 := LoopOk.mk (pin := spec_vaOver_i58) (pout := spec_vaOver_o58) (ex := 0) (nx := 128) (Lf := spec_vaOver_f58 k) (k := k) (by kernel_rfl) (fun _ => rfl) (by intro n x; kernel_rfl)
theorem spec_vaOver_K (k : Nat) : Contract Tryz.prog 180 (spec_vaOver_V k) :=
  contract (C := spec_vaOver_C k) (F := spec_vaOver_F k) (fn := Tryz.f180) (ps := spec_vaOver_ps) (rs := [(ty_10, true), (.bool, false)]) (nx := 32) ⟨tyOf_ok tys_ok, gOf_ok ⟨spec_dyInt_K, spec_vaPure_K, spec_poPower_K, spec_ivPower_K k, spec_ivMul_K k, spec_ivAdd_K k, trivial⟩⟩ rfl (by kernel_rfl) (by kernel_rfl) (by kernel_rfl) (by kernel_rfl) (by kernel_rfl) (by kernel_rfl) rfl (by kernel_rfl) (by kernel_rfl) (AnnOk_list [(58, loopB (codeOf Tryz.f180) 58), (59802, loopB (codeOf Tryz.f180) 59802)] spec_vaOver_ls ⟨spec_vaOver_l58 k, spec_vaOver_l59802 k, trivial⟩) mix_ok (spec_vaOver_eq k)

noncomputable def spec_vaGradient_V (k : Nat) : Variant := ⟨[.val ty_4 false, .val ty_12 false], [(ty_12, false), (.bool, false)], fun x => spec_vaGradient k x.1 x.2.1⟩
noncomputable def spec_vaGradient_C (k : Nat) : Cfg := ⟨Tryz.prog, tyOf tys, 31, gOf [(181, [], spec_poDerive_V k), (180, [], spec_vaOver_V k)], false, [], []⟩
def spec_vaGradient_i58 : List PE := [⟨0, 32, .val ty_4 false, false⟩, ⟨1, 48, .val ty_12 false, false⟩, ⟨6, 64, .eat ty_10, false⟩, ⟨11, 80, .val ty_0 false, false⟩, ⟨12, 96, .val ty_0 false, false⟩]
def spec_vaGradient_o58 : List PE := [⟨6, 32, .eat ty_10, false⟩]
noncomputable def spec_vaGradient_f58 (k : Nat) (n : Nat) (x3 : PTe spec_vaGradient_i58) : Option (((List ((Int × Int) × Int × Int)) × Bool) ⊕ PTe spec_vaGradient_o58) := spec_vaGradient_L58 k n x3.1 x3.2.1 x3.2.2.1 x3.2.2.2.1 x3.2.2.2.2.1
def spec_vaGradient_ps : List PE := [⟨0, 0, .val ty_4 false, false⟩, ⟨1, 16, .val ty_12 false, false⟩]
noncomputable def spec_vaGradient_F (k : Nat) : Fn ((List ((Int × Int) × Int × Int)) × Bool) := ⟨spec_vaGradient_C k, rdRes Tryz.prog spec_vaGradient_ps [(ty_12, false), (.bool, false)] Tryz.f121.results.toList .ret, fun p => bif Nat.beq p 58 then some (.loop spec_vaGradient_i58 spec_vaGradient_o58 0 112 (spec_vaGradient_f58 k k)) else none, 0, []⟩
theorem spec_vaGradient_eq (k : Nat) (x : PTe spec_vaGradient_ps) : evFn (spec_vaGradient_F k) (codeOf Tryz.f121) spec_vaGradient_ps 32 x = spec_vaGradient k x.1 x.2.1 := by kernel_rfl
theorem spec_vaGradient_ls : loopsOf (codeOf Tryz.f121) 1 = [(58, loopB (codeOf Tryz.f121) 58)] := by kernel_rfl
theorem spec_vaGradient_l58 (k : Nat) : LoopOk (spec_vaGradient_F k) (loopB (codeOf Tryz.f121) 58) 58 := LoopOk.mk (pin := spec_vaGradient_i58) (pout := spec_vaGradient_o58) (ex := 0) (nx := 112) (Lf := spec_vaGradient_f58 k) (k := k) (by kernel_rfl) (fun _ => rfl) (by intro n x; kernel_rfl)
theorem spec_vaGradient_K (k : Nat) : Contract Tryz.prog 121 (spec_vaGradient_V k) :=
  contract (C := spec_vaGradient_C k) (F := spec_vaGradient_F k) (fn := Tryz.f121) (ps := spec_vaGradient_ps) (rs := [(ty_12, false), (.bool, false)]) (nx := 32) ⟨tyOf_ok tys_ok, gOf_ok ⟨spec_poDerive_K k, spec_vaOver_K k, trivial⟩⟩ rfl (by kernel_rfl) (by kernel_rfl) (by kernel_rfl) (by kernel_rfl) (by kernel_rfl) (by kernel_rfl) rfl (by kernel_rfl) (by kernel_rfl) (AnnOk_list [(58, loopB (codeOf Tryz.f121) 58)] spec_vaGradient_ls ⟨spec_vaGradient_l58 k, trivial⟩) mix_ok (spec_vaGradient_eq k)

noncomputable def spec_vaJacobian_V (k : Nat) : Variant := ⟨[.val ty_5 false, .val ty_9 true], [(ty_13, false), (.bool, false)], fun x => spec_vaJacobian k x.1 x.2.1⟩
noncomputable def spec_vaJacobian_C (k : Nat) : Cfg := ⟨Tryz.prog, tyOf tys, 32, gOf [(122, [], spec_vaSides_V k), (121, [], spec_vaGradient_V k)], false, [], []⟩
def spec_vaJacobian_i58 : List PE := [⟨3, 32, .box ty_9 false, false⟩, ⟨6, 48, .eat ty_12, false⟩, ⟨11, 64, .val ty_5 false, false⟩, ⟨12, 80, .val ty_0 false, false⟩, ⟨13, 96, .val ty_0 false, false⟩]
def spec_vaJacobian_o58 : List PE := [⟨6, 32, .eat ty_12, false⟩]
noncomputable def spec_vaJacobian_f58 (k : Nat) (n : Nat) (x3 : PTe spec_vaJacobian_i58) : Option (((List (List ((Int × Int) × Int × Int))) × Bool) ⊕ PTe spec_vaJacobian_o58) := spec_vaJacobian_L58 k n x3.1 x3.2.1 x3.2.2.1 x3.2.2.2.1 x3.2.2.2.2.1
def spec_vaJacobian_ps : List PE := [⟨0, 0, .val ty_5 false, false⟩, ⟨1, 16, .val ty_9 true, false⟩]
noncomputable def spec_vaJacobian_F (k : Nat) : Fn ((List (List ((Int × Int) × Int × Int))) × Bool) := ⟨spec_vaJacobian_C k, rdRes Tryz.prog spec_vaJacobian_ps [(ty_13, false), (.bool, false)] Tryz.f76.results.toList .ret, fun p => bif Nat.beq p 58 then some (.loop spec_vaJacobian_i58 spec_vaJacobian_o58 0 112 (spec_vaJacobian_f58 k k)) else none, 0, []⟩
theorem spec_vaJacobian_eq (k : Nat) (x : PTe spec_vaJacobian_ps) : evFn (spec_vaJacobian_F k) (codeOf Tryz.f76) spec_vaJacobian_ps 32 x = spec_vaJacobian k x.1 x.2.1 := by kernel_rfl
theorem spec_vaJacobian_ls : loopsOf (codeOf Tryz.f76) 1 = [(58, loopB (codeOf Tryz.f76) 58)] := by kernel_rfl
theorem spec_vaJacobian_l58 (k : Nat) : LoopOk (spec_vaJacobian_F k) (loopB (codeOf Tryz.f76) 58) 58 := LoopOk.mk (pin := spec_vaJacobian_i58) (pout := spec_vaJacobian_o58) (ex := 0) (nx := 112) (Lf := spec_vaJacobian_f58 k) (k := k) (by kernel_rfl) (fun _ => rfl) (by intro n x; kernel_rfl)
theorem spec_vaJacobian_K (k : Nat) : Contract Tryz.prog 76 (spec_vaJacobian_V k) :=
  contract (C := spec_vaJacobian_C k) (F := spec_vaJacobian_F k) (fn := Tryz.f76) (ps := spec_vaJacobian_ps) (rs := [(ty_13, false), (.bool, false)]) (nx := 32) ⟨tyOf_ok tys_ok, gOf_ok ⟨spec_vaSides_K k, spec_vaGradient_K k, trivial⟩⟩ rfl (by kernel_rfl) (by kernel_rfl) (by kernel_rfl) (by kernel_rfl) (by kernel_rfl) (by kernel_rfl) rfl (by kernel_rfl) (by kernel_rfl) (AnnOk_list [(58, loopB (codeOf Tryz.f76) 58)] spec_vaJacobian_ls ⟨spec_vaJacobian_l58 k, trivial⟩) mix_ok (spec_vaJacobian_eq k)

noncomputable def spec_dyHalf_V (k : Nat) : Variant := ⟨[.val ty_1 true, .val ty_1 true], [(ty_1, true), (.bool, false)], fun x => spec_dyHalf k x.1 x.2.1⟩
noncomputable def spec_dyHalf_C (k : Nat) : Cfg := ⟨Tryz.prog, tyOf tys, 43, gOf [(183, [], spec_l1Most_V), (184, [], spec_dyAt_V k), (185, [], spec_dyMake_V k)], false, [], []⟩
def spec_dyHalf_ps : List PE := [⟨0, 0, .val ty_1 true, false⟩, ⟨1, 16, .val ty_1 true, false⟩]
noncomputable def spec_dyHalf_F (k : Nat) : Fn ((Int × Int) × Bool) := ⟨spec_dyHalf_C k, rdRes Tryz.prog spec_dyHalf_ps [(ty_1, true), (.bool, false)] Tryz.f123.results.toList .ret, fun p => none, 0, []⟩
theorem spec_dyHalf_eq (k : Nat) (x : PTe spec_dyHalf_ps) : evFn (spec_dyHalf_F k) (codeOf Tryz.f123) spec_dyHalf_ps 32 x = spec_dyHalf k x.1 x.2.1 := by kernel_rfl
theorem spec_dyHalf_K (k : Nat) : Contract Tryz.prog 123 (spec_dyHalf_V k) :=
  contract (C := spec_dyHalf_C k) (F := spec_dyHalf_F k) (fn := Tryz.f123) (ps := spec_dyHalf_ps) (rs := [(ty_1, true), (.bool, false)]) (nx := 32) ⟨tyOf_ok tys_ok, gOf_ok ⟨spec_l1Most_K, spec_dyAt_K k, spec_dyMake_K k, trivial⟩⟩ rfl (by kernel_rfl) (by kernel_rfl) (by kernel_rfl) (by kernel_rfl) (by kernel_rfl) (by kernel_rfl) rfl (by kernel_rfl) (by kernel_rfl) (AnnOk_list [] (by kernel_rfl) trivial) mix_ok (spec_dyHalf_eq k)

noncomputable def spec_nwMiddle_V (k : Nat) : Variant := ⟨[.val ty_13 false], [(ty_14, false), (.bool, false)], fun x => spec_nwMiddle k x.1⟩
noncomputable def spec_nwMiddle_C (k : Nat) : Cfg := ⟨Tryz.prog, tyOf tys, 45, gOf [(123, [], spec_dyHalf_V k)], false, [], []⟩
def spec_nwMiddle_i59802 : List PE := [⟨4, 16, .eat ty_11, false⟩, ⟨7, 32, .eat ty_1, false⟩, ⟨12, 48, .val ty_13 false, false⟩, ⟨13, 64, .val ty_0 false, false⟩, ⟨14, 80, .val ty_0 false, false⟩, ⟨18, 96, .val ty_12 false, false⟩, ⟨19, 112, .val ty_0 false, false⟩, ⟨20, 128, .val ty_0 false, false⟩]
def spec_nwMiddle_o59802 : List PE := [⟨4, 16, .eat ty_11, false⟩, ⟨7, 32, .eat ty_1, false⟩, ⟨12, 48, .val ty_13 false, false⟩, ⟨13, 64, .val ty_0 false, false⟩, ⟨14, 80, .val ty_0 false, false⟩]
noncomputable def spec_nwMiddle_f59802 (k : Nat) (n : Nat) (x2 : PTe spec_nwMiddle_i59802) : Option (((List (List (Int × Int))) × Bool) ⊕ PTe spec_nwMiddle_o59802) := spec_nwMiddle_L59802 k n x2.1 x2.2.1 x2.2.2.1 x2.2.2.2.1 x2.2.2.2.2.1 x2.2.2.2.2.2.1 x2.2.2.2.2.2.2.1 x2.2.2.2.2.2.2.2.1
def spec_nwMiddle_i58 : List PE := [⟨4, 16, .eat ty_11, false⟩, ⟨12, 32, .val ty_13 false, false⟩, ⟨13, 48, .val ty_0 false, false⟩, ⟨14, 64, .val ty_0 false, false⟩]
def spec_nwMiddle_o58 : List PE := [⟨4, 16, .eat ty_11, false⟩]
noncomputable def spec_nwMiddle_f58 (k : Nat) (n : Nat) (x5 : PTe spec_nwMiddle_i58) : Option (((List (List (Int × Int))) × Bool) ⊕ PTe spec_nwMiddle_o58) := spec_nwMiddle_L58 k n x5.1 x5.2.1 x5.2.2.1 x5.2.2.2.1
def spec_nwMiddle_ps : List PE := [⟨0, 0, .val ty_13 false, false⟩]
noncomputable def spec_nwMiddle_F (k : Nat) : Fn ((List (List (Int × Int))) × Bool) := ⟨spec_nwMiddle_C k, rdRes Tryz.prog spec_nwMiddle_ps [(ty_14, false), (.bool, false)] Tryz.f77.results.toList .ret, fun p => bif Nat.beq p 59802 then some (.loop spec_nwMiddle_i59802 spec_nwMiddle_o59802 2 144 (spec_nwMiddle_f59802 k k)) else bif Nat.beq p 58 then some (.loop spec_nwMiddle_i58 spec_nwMiddle_o58 0 80 (spec_nwMiddle_f58 k k)) else none, 0, []⟩
theorem spec_nwMiddle_eq (k : Nat) (x : PTe spec_nwMiddle_ps) : evFn (spec_nwMiddle_F k) (codeOf Tryz.f77) spec_nwMiddle_ps 16 x = spec_nwMiddle k x.1 := by kernel_rfl
theorem spec_nwMiddle_ls : loopsOf (codeOf Tryz.f77) 1 = [(58, loopB (codeOf Tryz.f77) 58), (59802, loopB (codeOf Tryz.f77) 59802)] := by kernel_rfl
theorem spec_nwMiddle_l59802 (k : Nat) : LoopOk (spec_nwMiddle_F k) (loopB (codeOf Tryz.f77) 59802) 59802 := LoopOk.mk (pin := spec_nwMiddle_i59802) (pout := spec_nwMiddle_o59802) (ex := 2) (nx := 144) (Lf := spec_nwMiddle_f59802 k) (k := k) (by kernel_rfl) (fun _ => rfl) (by intro n x; kernel_rfl)
theorem spec_nwMiddle_l58 (k : Nat) : LoopOk (spec_nwMiddle_F k) (loopB (codeOf Tryz.f77) 58) 58 := LoopOk.mk (pin := spec_nwMiddle_i58) (pout := spec_nwMiddle_o58) (ex := 0) (nx := 80) (Lf := spec_nwMiddle_f58 k) (k := k) (by kernel_rfl) (fun _ => rfl) (by intro n x; kernel_rfl)
theorem spec_nwMiddle_K (k : Nat) : Contract Tryz.prog 77 (spec_nwMiddle_V k) :=
  contract (C := spec_nwMiddle_C k) (F := spec_nwMiddle_F k) (fn := Tryz.f77) (ps := spec_nwMiddle_ps) (rs := [(ty_14, false), (.bool, false)]) (nx := 16) ⟨tyOf_ok tys_ok, gOf_ok ⟨spec_dyHalf_K k, trivial⟩⟩ rfl (by kernel_rfl) (by kernel_rfl) (by kernel_rfl) (by kernel_rfl) (by kernel_rfl) (by kernel_rfl) rfl (by kernel_rfl) (by kernel_rfl) (AnnOk_list [(58, loopB (codeOf Tryz.f77) 58), (59802, loopB (codeOf Tryz.f77) 59802)] spec_nwMiddle_ls ⟨spec_nwMiddle_l58 k, spec_nwMiddle_l59802 k, trivial⟩) mix_ok (spec_nwMiddle_eq k)

noncomputable def spec_mxPart_V (k : Nat) : Variant := ⟨[.val ty_14 false, .val ty_0 false, .val ty_0 false], [(ty_14, false)], fun x => spec_mxPart k x.1 x.2.1 x.2.2.1⟩
noncomputable def spec_mxPart_C (k : Nat) : Cfg := ⟨Tryz.prog, tyOf tys, 35, gOf [], false, [], []⟩
def spec_mxPart_i58 : List PE := [⟨1, 48, .val ty_0 false, false⟩, ⟨2, 64, .val ty_0 false, false⟩, ⟨7, 80, .eat ty_11, false⟩, ⟨10, 96, .val ty_14 false, false⟩, ⟨11, 112, .val ty_0 false, false⟩, ⟨12, 128, .val ty_0 false, false⟩]
def spec_mxPart_o58 : List PE := [⟨7, 48, .eat ty_11, false⟩]
noncomputable def spec_mxPart_f58 (k : Nat) (n : Nat) (x1 : PTe spec_mxPart_i58) : Option ((List (List (Int × Int))) ⊕ PTe spec_mxPart_o58) := spec_mxPart_L58 k n x1.1 x1.2.1 x1.2.2.1 x1.2.2.2.1 x1.2.2.2.2.1 x1.2.2.2.2.2.1
def spec_mxPart_ps : List PE := [⟨0, 0, .val ty_14 false, false⟩, ⟨1, 16, .val ty_0 false, false⟩, ⟨2, 32, .val ty_0 false, false⟩]
noncomputable def spec_mxPart_F (k : Nat) : Fn (List (List (Int × Int))) := ⟨spec_mxPart_C k, rdRes Tryz.prog spec_mxPart_ps [(ty_14, false)] Tryz.f246.results.toList .ret, fun p => bif Nat.beq p 58 then some (.loop spec_mxPart_i58 spec_mxPart_o58 0 144 (spec_mxPart_f58 k k)) else none, 0, []⟩
theorem spec_mxPart_eq (k : Nat) (x : PTe spec_mxPart_ps) : evFn (spec_mxPart_F k) (codeOf Tryz.f246) spec_mxPart_ps 48 x = spec_mxPart k x.1 x.2.1 x.2.2.1 := by kernel_rfl
theorem spec_mxPart_ls : loopsOf (codeOf Tryz.f246) 1 = [(58, loopB (codeOf Tryz.f246) 58)] := by kernel_rfl
theorem spec_mxPart_l58 (k : Nat) : LoopOk (spec_mxPart_F k) (loopB (codeOf Tryz.f246) 58) 58 := LoopOk.mk (pin := spec_mxPart_i58) (pout := spec_mxPart_o58) (ex := 0) (nx := 144) (Lf := spec_mxPart_f58 k) (k := k) (by kernel_rfl) (fun _ => rfl) (by intro n x; kernel_rfl)
theorem spec_mxPart_K (k : Nat) : Contract Tryz.prog 246 (spec_mxPart_V k) :=
  contract (C := spec_mxPart_C k) (F := spec_mxPart_F k) (fn := Tryz.f246) (ps := spec_mxPart_ps) (rs := [(ty_14, false)]) (nx := 48) ⟨tyOf_ok tys_ok, gOf_ok trivial⟩ rfl (by kernel_rfl) (by kernel_rfl) (by kernel_rfl) (by kernel_rfl) (by kernel_rfl) (by kernel_rfl) rfl (by kernel_rfl) (by kernel_rfl) (AnnOk_list [(58, loopB (codeOf Tryz.f246) 58)] spec_mxPart_ls ⟨spec_mxPart_l58 k, trivial⟩) mix_ok (spec_mxPart_eq k)

noncomputable def spec_mxDet_V (k : Nat) : Variant := ⟨[.val ty_14 false], [(ty_1, true), (.bool, false)], fun x => spec_mxDet k x.1⟩
noncomputable def spec_mxDet_W (rc : (List (List (Int × Int))) → Option ((Int × Int) × Bool)) : Variant := ⟨[.val ty_14 false], [(ty_1, true), (.bool, false)], fun x => rc x.1⟩
noncomputable def spec_mxDet_C (k : Nat) (rc : (List (List (Int × Int))) → Option ((Int × Int) × Bool)) : Cfg := ⟨Tryz.prog, tyOf tys, 68, gOf [(246, [], spec_mxPart_V k), (191, [], spec_mxDet_W rc), (166, [], spec_dyMul_V k), (247, [], spec_dyMinus_V), (169, [], spec_dyAdd_V k)], false, [], []⟩
def spec_mxDet_i122 : List PE := [⟨0, 16, .val ty_14 false, false⟩, ⟨2, 32, .box ty_1 false, false⟩, ⟨4, 48, .box ty_1 false, false⟩, ⟨24, 64, .val ty_11 false, false⟩, ⟨25, 80, .val ty_0 false, false⟩, ⟨26, 96, .val ty_0 false, false⟩]
def spec_mxDet_o122 : List PE := [⟨2, 16, .box ty_1 false, false⟩, ⟨4, 32, .box ty_1 false, false⟩]
noncomputable def spec_mxDet_f122 (k : Nat) (rc : (List (List (Int × Int))) → Option ((Int × Int) × Bool)) (n : Nat) (x8 : PTe spec_mxDet_i122) : Option (((Int × Int) × Bool) ⊕ PTe spec_mxDet_o122) := spec_mxDet_L122 k rc n x8.1 x8.2.1 x8.2.2.1 x8.2.2.2.1 x8.2.2.2.2.1 x8.2.2.2.2.2.1
def spec_mxDet_ps : List PE := [⟨0, 0, .val ty_14 false, false⟩]
noncomputable def spec_mxDet_F (k : Nat) (rc : (List (List (Int × Int))) → Option ((Int × Int) × Bool)) : Fn ((Int × Int) × Bool) := ⟨spec_mxDet_C k rc, rdRes Tryz.prog spec_mxDet_ps [(ty_1, true), (.bool, false)] Tryz.f191.results.toList .ret, fun p => bif Nat.beq p 125342 then some (.cut [⟨0, 16, .val ty_14 false, false⟩, ⟨2, 32, .box ty_1 false, false⟩, ⟨4, 48, .box ty_1 false, false⟩, ⟨9, 64, .box ty_1 false, false⟩, ⟨10, 80, .val .bool false, false⟩, ⟨24, 96, .val ty_11 false, false⟩, ⟨25, 112, .val ty_0 false, false⟩, ⟨26, 128, .val ty_0 false, false⟩] 144) else bif Nat.beq p 122 then some (.loop spec_mxDet_i122 spec_mxDet_o122 0 112 (spec_mxDet_f122 k rc k)) else none, 0, []⟩
theorem spec_mxDet_eq (k : Nat) (rc : (List (List (Int × Int))) → Option ((Int × Int) × Bool)) (x : PTe spec_mxDet_ps) : evFn (spec_mxDet_F k rc) (codeOf Tryz.f191) spec_mxDet_ps 16 x = spec_mxDet_B k rc x.1 := by kernel_rfl
theorem spec_mxDet_ls : loopsOf (codeOf Tryz.f191) 1 = [(122, loopB (codeOf Tryz.f191) 122)] := by kernel_rfl
theorem spec_mxDet_l122 (k : Nat) (rc : (List (List (Int × Int))) → Option ((Int × Int) × Bool)) : LoopOk (spec_mxDet_F k rc) (loopB (codeOf Tryz.f191) 122) 122 := LoopOk.mk (pin := spec_mxDet_i122) (pout := spec_mxDet_o122) (ex := 0) (nx := 112) (Lf := spec_mxDet_f122 k rc) (k := k) (by kernel_rfl) (fun _ => rfl) (by intro n x; kernel_rfl)
theorem spec_mxDet_KB (k : Nat) (rc : (List (List (Int × Int))) → Option ((Int × Int) × Bool)) (hrc : Contract Tryz.prog 191 (spec_mxDet_W rc)) : Contract Tryz.prog 191 (spec_mxDet_W (spec_mxDet_B k rc)) :=
  contract (C := spec_mxDet_C k rc) (F := spec_mxDet_F k rc) (fn := Tryz.f191) (ps := spec_mxDet_ps) (rs := [(ty_1, true), (.bool, false)]) (nx := 16) ⟨tyOf_ok tys_ok, gOf_ok ⟨spec_mxPart_K k, hrc, spec_dyMul_K k, spec_dyMinus_K, spec_dyAdd_K k, trivial⟩⟩ rfl (by kernel_rfl) (by kernel_rfl) (by kernel_rfl) (by kernel_rfl) (by kernel_rfl) (by kernel_rfl) rfl (by kernel_rfl) (by kernel_rfl) (AnnOk_list [(122, loopB (codeOf Tryz.f191) 122)] spec_mxDet_ls ⟨spec_mxDet_l122 k rc, trivial⟩) mix_ok (spec_mxDet_eq k rc)
theorem spec_mxDet_KR (k : Nat) : ∀ n, Contract Tryz.prog 191 (spec_mxDet_W (spec_mxDet_R k n))
  | 0 => contract_none fun _ => rfl
  | n + 1 => spec_mxDet_KB k _ (spec_mxDet_KR k n)
theorem spec_mxDet_K (k : Nat) : Contract Tryz.prog 191 (spec_mxDet_V k) := spec_mxDet_KR k k

noncomputable def spec_mxAdjoint_V (k : Nat) : Variant := ⟨[.val ty_14 false], [(ty_14, false), (.bool, false)], fun x => spec_mxAdjoint k x.1⟩
noncomputable def spec_mxAdjoint_C (k : Nat) : Cfg := ⟨Tryz.prog, tyOf tys, 54, gOf [(235, [], spec_dyInt_V), (246, [], spec_mxPart_V k), (191, [], spec_mxDet_V k), (247, [], spec_dyMinus_V)], false, [], []⟩
def spec_mxAdjoint_i125338 : List PE := [⟨0, 16, .val ty_14 false, false⟩, ⟨4, 32, .eat ty_11, false⟩, ⟨5, 48, .val ty_0 false, false⟩, ⟨6, 64, .eat ty_1, false⟩, ⟨17, 80, .val ty_0 false, false⟩, ⟨18, 96, .val ty_0 false, false⟩, ⟨22, 112, .val ty_0 false, false⟩, ⟨23, 128, .val ty_0 false, false⟩]
def spec_mxAdjoint_o125338 : List PE := [⟨0, 16, .val ty_14 false, false⟩, ⟨4, 32, .eat ty_11, false⟩, ⟨6, 48, .eat ty_1, false⟩, ⟨17, 64, .val ty_0 false, false⟩, ⟨18, 80, .val ty_0 false, false⟩]
noncomputable def spec_mxAdjoint_f125338 (k : Nat) (n : Nat) (x7 : PTe spec_mxAdjoint_i125338) : Option (((List (List (Int × Int))) × Bool) ⊕ PTe spec_mxAdjoint_o125338) := spec_mxAdjoint_L125338 k n x7.1 x7.2.1 x7.2.2.1 x7.2.2.2.1 x7.2.2.2.2.1 x7.2.2.2.2.2.1 x7.2.2.2.2.2.2.1 x7.2.2.2.2.2.2.2.1
def spec_mxAdjoint_i122 : List PE := [⟨0, 16, .val ty_14 false, false⟩, ⟨4, 32, .eat ty_11, false⟩, ⟨17, 48, .val ty_0 false, false⟩, ⟨18, 64, .val ty_0 false, false⟩]
def spec_mxAdjoint_o122 : List PE := [⟨4, 16, .eat ty_11, false⟩]
noncomputable def spec_mxAdjoint_f122 (k : Nat) (n : Nat) (x10 : PTe spec_mxAdjoint_i122) : Option (((List (List (Int × Int))) × Bool) ⊕ PTe spec_mxAdjoint_o122) := spec_mxAdjoint_L122 k n x10.1 x10.2.1 x10.2.2.1 x10.2.2.2.1
def spec_mxAdjoint_ps : List PE := [⟨0, 0, .val ty_14 false, false⟩]
noncomputable def spec_mxAdjoint_F (k : Nat) : Fn ((List (List (Int × Int))) × Bool) := ⟨spec_mxAdjoint_C k, rdRes Tryz.prog spec_mxAdjoint_ps [(ty_14, false), (.bool, false)] Tryz.f192.results.toList .ret, fun p => bif Nat.beq p 64173262 then some (.cut [⟨0, 16, .val ty_14 false, false⟩, ⟨4, 32, .eat ty_11, false⟩, ⟨5, 48, .val ty_0 false, false⟩, ⟨6, 64, .eat ty_1, false⟩, ⟨8, 80, .box ty_1 false, false⟩, ⟨17, 96, .val ty_0 false, false⟩, ⟨18, 112, .val ty_0 false, false⟩, ⟨22, 128, .val ty_0 false, false⟩, ⟨23, 144, .val ty_0 false, false⟩] 160) else bif Nat.beq p 125338 then some (.loop spec_mxAdjoint_i125338 spec_mxAdjoint_o125338 2 144 (spec_mxAdjoint_f125338 k k)) else bif Nat.beq p 122 then some (.loop spec_mxAdjoint_i122 spec_mxAdjoint_o122 0 80 (spec_mxAdjoint_f122 k k)) else none, 0, []⟩
theorem spec_mxAdjoint_eq (k : Nat) (x : PTe spec_mxAdjoint_ps) : evFn (spec_mxAdjoint_F k) (codeOf Tryz.f192) spec_mxAdjoint_ps 16 x = spec_mxAdjoint k x.1 := by kernel_rfl
theorem spec_mxAdjoint_ls : loopsOf (codeOf Tryz.f192) 1 = [(122, loopB (codeOf Tryz.f192) 122), (125338, loopB (codeOf Tryz.f192) 125338)] := by kernel_rfl
theorem spec_mxAdjoint_l125338 (k : Nat) : LoopOk (spec_mxAdjoint_F k) (loopB (codeOf Tryz.f192) 125338) 125338 := LoopOk.mk (pin := spec_mxAdjoint_i125338) (pout := spec_mxAdjoint_o125338) (ex := 2) (nx := 144) (Lf := spec_mxAdjoint_f125338 k) (k := k) (by kernel_rfl) (fun _ => rfl) (by intro n x; kernel_rfl)
theorem spec_mxAdjoint_l122 (k : Nat) : LoopOk (spec_mxAdjoint_F k) (loopB (codeOf Tryz.f192) 122) 122 := LoopOk.mk (pin := spec_mxAdjoint_i122) (pout := spec_mxAdjoint_o122) (ex := 0) (nx := 80) (Lf := spec_mxAdjoint_f122 k) (k := k) (by kernel_rfl) (fun _ => rfl) (by intro n x; kernel_rfl)
theorem spec_mxAdjoint_K (k : Nat) : Contract Tryz.prog 192 (spec_mxAdjoint_V k) :=
  contract (C := spec_mxAdjoint_C k) (F := spec_mxAdjoint_F k) (fn := Tryz.f192) (ps := spec_mxAdjoint_ps) (rs := [(ty_14, false), (.bool, false)]) (nx := 16) ⟨tyOf_ok tys_ok, gOf_ok ⟨spec_dyInt_K, spec_mxPart_K k, spec_mxDet_K k, spec_dyMinus_K, trivial⟩⟩ rfl (by kernel_rfl) (by kernel_rfl) (by kernel_rfl) (by kernel_rfl) (by kernel_rfl) (by kernel_rfl) rfl (by kernel_rfl) (by kernel_rfl) (AnnOk_list [(122, loopB (codeOf Tryz.f192) 122), (125338, loopB (codeOf Tryz.f192) 125338)] spec_mxAdjoint_ls ⟨spec_mxAdjoint_l122 k, spec_mxAdjoint_l125338 k, trivial⟩) mix_ok (spec_mxAdjoint_eq k)

noncomputable def spec_dyDigits_V (k : Nat) : Variant := ⟨[.val ty_0 false, .val ty_0 false, .val ty_0 false, .val ty_0 false, .val ty_0 false], [(ty_1, true), (.bool, false)], fun x => spec_dyDigits k x.1 x.2.1 x.2.2.1 x.2.2.2.1 x.2.2.2.2.1⟩
noncomputable def spec_dyDigits_C (k : Nat) : Cfg := ⟨Tryz.prog, tyOf tys, 65, gOf [(226, [], spec_l1Abs_V), (143, [], spec_dyPower_V), (185, [], spec_dyMake_V k)], false, [], []⟩
def spec_dyDigits_i58 : List PE := [⟨0, 80, .val ty_0 false, false⟩, ⟨1, 96, .val ty_0 false, false⟩, ⟨2, 112, .val ty_0 false, false⟩, ⟨3, 128, .val ty_0 false, false⟩, ⟨4, 144, .val ty_0 false, false⟩, ⟨10, 160, .box ty_1 false, false⟩, ⟨12, 176, .val ty_0 false, false⟩, ⟨13, 192, .val ty_0 false, false⟩]
def spec_dyDigits_o58 : List PE := [⟨0, 80, .val ty_0 false, false⟩, ⟨3, 96, .val ty_0 false, false⟩, ⟨4, 112, .val ty_0 false, false⟩, ⟨10, 128, .box ty_1 false, false⟩, ⟨12, 144, .val ty_0 false, false⟩]
noncomputable def spec_dyDigits_f58 (k : Nat) (n : Nat) (x1 : PTe spec_dyDigits_i58) : Option (((Int × Int) × Bool) ⊕ PTe spec_dyDigits_o58) := spec_dyDigits_L58 k n x1.1 x1.2.1 x1.2.2.1 x1.2.2.2.1 x1.2.2.2.2.1 x1.2.2.2.2.2.1 x1.2.2.2.2.2.2.1 x1.2.2.2.2.2.2.2.1
def spec_dyDigits_i60 : List PE := [⟨0, 80, .val ty_0 false, false⟩, ⟨3, 96, .val ty_0 false, false⟩, ⟨4, 112, .val ty_0 false, false⟩, ⟨10, 128, .box ty_1 false, false⟩, ⟨12, 144, .val ty_0 false, false⟩]
def spec_dyDigits_o60 : List PE := [⟨0, 80, .val ty_0 false, false⟩, ⟨3, 96, .val ty_0 false, false⟩, ⟨4, 112, .val ty_0 false, false⟩, ⟨10, 128, .box ty_1 false, false⟩, ⟨12, 144, .val ty_0 false, false⟩]
noncomputable def spec_dyDigits_f60 (k : Nat) (n : Nat) (x4 : PTe spec_dyDigits_i60) : Option (((Int × Int) × Bool) ⊕ PTe spec_dyDigits_o60) := spec_dyDigits_L60 k n x4.1 x4.2.1 x4.2.2.1 x4.2.2.2.1 x4.2.2.2.2.1
def spec_dyDigits_ps : List PE := [⟨0, 0, .val ty_0 false, false⟩, ⟨1, 16, .val ty_0 false, false⟩, ⟨2, 32, .val ty_0 false, false⟩, ⟨3, 48, .val ty_0 false, false⟩, ⟨4, 64, .val ty_0 false, false⟩]
noncomputable def spec_dyDigits_F (k : Nat) : Fn ((Int × Int) × Bool) := ⟨spec_dyDigits_C k, rdRes Tryz.prog spec_dyDigits_ps [(ty_1, true), (.bool, false)] Tryz.f249.results.toList .ret, fun p => bif Nat.beq p 58 then some (.loop spec_dyDigits_i58 spec_dyDigits_o58 0 208 (spec_dyDigits_f58 k k)) else bif Nat.beq p 60 then some (.loop spec_dyDigits_i60 spec_dyDigits_o60 2 160 (spec_dyDigits_f60 k k)) else none, 0, []⟩
theorem spec_dyDigits_eq (k : Nat) (x : PTe spec_dyDigits_ps) : evFn (spec_dyDigits_F k) (codeOf Tryz.f249) spec_dyDigits_ps 80 x = spec_dyDigits k x.1 x.2.1 x.2.2.1 x.2.2.2.1 x.2.2.2.2.1 := by kernel_rfl
theorem spec_dyDigits_ls : loopsOf (codeOf Tryz.f249) 1 = [(58, loopB (codeOf Tryz.f249) 58), (60, loopB (codeOf Tryz.f249) 60)] := by kernel_rfl
theorem spec_dyDigits_l58 (k : Nat) : LoopOk (spec_dyDigits_F k) (loopB (codeOf Tryz.f249) 58) 58 := LoopOk.mk (pin := spec_dyDigits_i58) (pout := spec_dyDigits_o58) (ex := 0) (nx := 208) (Lf := spec_dyDigits_f58 k) (k := k) (by kernel_rfl) (fun _ => rfl) (by intro n x; kernel_rfl)
theorem spec_dyDigits_l60 (k : Nat) : LoopOk (spec_dyDigits_F k) (loopB (codeOf Tryz.f249) 60) 60 := LoopOk.mk (pin := spec_dyDigits_i60) (pout := spec_dyDigits_o60) (ex := 2) (nx := 160) (Lf := spec_dyDigits_f60 k) (k := k) (by kernel_rfl) (fun _ => rfl) (by intro n x; kernel_rfl)
theorem spec_dyDigits_K (k : Nat) : Contract Tryz.prog 249 (spec_dyDigits_V k) :=
  contract (C := spec_dyDigits_C k) (F := spec_dyDigits_F k) (fn := Tryz.f249) (ps := spec_dyDigits_ps) (rs := [(ty_1, true), (.bool, false)]) (nx := 80) ⟨tyOf_ok tys_ok, gOf_ok ⟨spec_l1Abs_K, spec_dyPower_K, spec_dyMake_K k, trivial⟩⟩ rfl (by kernel_rfl) (by kernel_rfl) (by kernel_rfl) (by kernel_rfl) (by kernel_rfl) (by kernel_rfl) rfl (by kernel_rfl) (by kernel_rfl) (AnnOk_list [(58, loopB (codeOf Tryz.f249) 58), (60, loopB (codeOf Tryz.f249) 60)] spec_dyDigits_ls ⟨spec_dyDigits_l58 k, spec_dyDigits_l60 k, trivial⟩) mix_ok (spec_dyDigits_eq k)

noncomputable def spec_dyDivide_V (k : Nat) : Variant := ⟨[.val ty_1 true, .val ty_1 true, .val ty_0 false], [(ty_1, true), (.bool, false)], fun x => spec_dyDivide k x.1 x.2.1 x.2.2.1⟩
noncomputable def spec_dyDivide_C (k : Nat) : Cfg := ⟨Tryz.prog, tyOf tys, 59, gOf [(247, [], spec_dyMinus_V), (248, [], spec_dyDown_V), (143, [], spec_dyPower_V), (185, [], spec_dyMake_V k), (249, [], spec_dyDigits_V k)], false, [], []⟩
def spec_dyDivide_ps : List PE := [⟨0, 0, .val ty_1 true, false⟩, ⟨1, 16, .val ty_1 true, false⟩, ⟨2, 32, .val ty_0 false, false⟩]
noncomputable def spec_dyDivide_F (k : Nat) : Fn ((Int × Int) × Bool) := ⟨spec_dyDivide_C k, rdRes Tryz.prog spec_dyDivide_ps [(ty_1, true), (.bool, false)] Tryz.f193.results.toList .ret, fun p => bif Nat.beq p 14 then some (.cut [⟨2, 48, .val ty_0 false, false⟩, ⟨3, 64, .box ty_1 false, false⟩, ⟨4, 80, .box ty_1 false, false⟩, ⟨6, 96, .box ty_1 false, false⟩] 112) else none, 0, []⟩
theorem spec_dyDivide_eq (k : Nat) (x : PTe spec_dyDivide_ps) : evFn (spec_dyDivide_F k) (codeOf Tryz.f193) spec_dyDivide_ps 48 x = spec_dyDivide k x.1 x.2.1 x.2.2.1 := by kernel_rfl
theorem spec_dyDivide_K (k : Nat) : Contract Tryz.prog 193 (spec_dyDivide_V k) :=
  contract (C := spec_dyDivide_C k) (F := spec_dyDivide_F k) (fn := Tryz.f193) (ps := spec_dyDivide_ps) (rs := [(ty_1, true), (.bool, false)]) (nx := 48) ⟨tyOf_ok tys_ok, gOf_ok ⟨spec_dyMinus_K, spec_dyDown_K, spec_dyPower_K, spec_dyMake_K k, spec_dyDigits_K k, trivial⟩⟩ rfl (by kernel_rfl) (by kernel_rfl) (by kernel_rfl) (by kernel_rfl) (by kernel_rfl) (by kernel_rfl) rfl (by kernel_rfl) (by kernel_rfl) (AnnOk_list [] (by kernel_rfl) trivial) mix_ok (spec_dyDivide_eq k)

noncomputable def spec_mxInverse_V (k : Nat) : Variant := ⟨[.val ty_14 false, .val ty_0 false], [(ty_14, false), (.bool, false)], fun x => spec_mxInverse k x.1 x.2.1⟩
noncomputable def spec_mxInverse_C (k : Nat) : Cfg := ⟨Tryz.prog, tyOf tys, 71, gOf [(191, [], spec_mxDet_V k), (192, [], spec_mxAdjoint_V k), (193, [], spec_dyDivide_V k)], false, [], []⟩
def spec_mxInverse_i518554 : List PE := [⟨1, 32, .val ty_0 false, false⟩, ⟨6, 48, .box ty_1 false, false⟩, ⟨10, 64, .eat ty_11, false⟩, ⟨13, 80, .eat ty_1, false⟩, ⟨39, 96, .val ty_14 false, false⟩, ⟨40, 112, .val ty_0 false, false⟩, ⟨41, 128, .val ty_0 false, false⟩, ⟨45, 144, .val ty_11 false, false⟩, ⟨46, 160, .val ty_0 false, false⟩, ⟨47, 176, .val ty_0 false, false⟩]
def spec_mxInverse_o518554 : List PE := [⟨1, 32, .val ty_0 false, false⟩, ⟨6, 48, .box ty_1 false, false⟩, ⟨10, 64, .eat ty_11, false⟩, ⟨13, 80, .eat ty_1, false⟩, ⟨39, 96, .val ty_14 false, false⟩, ⟨40, 112, .val ty_0 false, false⟩, ⟨41, 128, .val ty_0 false, false⟩]
noncomputable def spec_mxInverse_f518554 (k : Nat) (n : Nat) (x4 : PTe spec_mxInverse_i518554) : Option (((List (List (Int × Int))) × Bool) ⊕ PTe spec_mxInverse_o518554) := spec_mxInverse_L518554 k n x4.1 x4.2.1 x4.2.2.1 x4.2.2.2.1 x4.2.2.2.2.1 x4.2.2.2.2.2.1 x4.2.2.2.2.2.2.1 x4.2.2.2.2.2.2.2.1 x4.2.2.2.2.2.2.2.2.1 x4.2.2.2.2.2.2.2.2.2.1
def spec_mxInverse_i506 : List PE := [⟨1, 32, .val ty_0 false, false⟩, ⟨6, 48, .box ty_1 false, false⟩, ⟨10, 64, .eat ty_11, false⟩, ⟨39, 80, .val ty_14 false, false⟩, ⟨40, 96, .val ty_0 false, false⟩, ⟨41, 112, .val ty_0 false, false⟩]
def spec_mxInverse_o506 : List PE := [⟨10, 32, .eat ty_11, false⟩]
noncomputable def spec_mxInverse_f506 (k : Nat) (n : Nat) (x7 : PTe spec_mxInverse_i506) : Option (((List (List (Int × Int))) × Bool) ⊕ PTe spec_mxInverse_o506) := spec_mxInverse_L506 k n x7.1 x7.2.1 x7.2.2.1 x7.2.2.2.1 x7.2.2.2.2.1 x7.2.2.2.2.2.1
def spec_mxInverse_ps : List PE := [⟨0, 0, .val ty_14 false, false⟩, ⟨1, 16, .val ty_0 false, false⟩]
noncomputable def spec_mxInverse_F (k : Nat) : Fn ((List (List (Int × Int))) × Bool) := ⟨spec_mxInverse_C k, rdRes Tryz.prog spec_mxInverse_ps [(ty_14, false), (.bool, false)] Tryz.f129.results.toList .ret, fun p => bif Nat.beq p 518554 then some (.loop spec_mxInverse_i518554 spec_mxInverse_o518554 2 192 (spec_mxInverse_f518554 k k)) else bif Nat.beq p 506 then some (.loop spec_mxInverse_i506 spec_mxInverse_o506 0 128 (spec_mxInverse_f506 k k)) else none, 0, []⟩
theorem spec_mxInverse_eq (k : Nat) (x : PTe spec_mxInverse_ps) : evFn (spec_mxInverse_F k) (codeOf Tryz.f129) spec_mxInverse_ps 32 x = spec_mxInverse k x.1 x.2.1 := by kernel_rfl
theorem spec_mxInverse_ls : loopsOf (codeOf Tryz.f129) 1 = [(506, loopB (codeOf Tryz.f129) 506), (518554, loopB (codeOf Tryz.f129) 518554)] := by kernel_rfl
theorem spec_mxInverse_l518554 (k : Nat) : LoopOk (spec_mxInverse_F k) (loopB (codeOf Tryz.f129) 518554) 518554 := LoopOk.mk (pin := spec_mxInverse_i518554) (pout := spec_mxInverse_o518554) (ex := 2) (nx := 192) (Lf := spec_mxInverse_f518554 k) (k := k) (by kernel_rfl) (fun _ => rfl) (by intro n x; kernel_rfl)
theorem spec_mxInverse_l506 (k : Nat) : LoopOk (spec_mxInverse_F k) (loopB (codeOf Tryz.f129) 506) 506 := LoopOk.mk (pin := spec_mxInverse_i506) (pout := spec_mxInverse_o506) (ex := 0) (nx := 128) (Lf := spec_mxInverse_f506 k) (k := k) (by kernel_rfl) (fun _ => rfl) (by intro n x; kernel_rfl)
theorem spec_mxInverse_K (k : Nat) : Contract Tryz.prog 129 (spec_mxInverse_V k) :=
  contract (C := spec_mxInverse_C k) (F := spec_mxInverse_F k) (fn := Tryz.f129) (ps := spec_mxInverse_ps) (rs := [(ty_14, false), (.bool, false)]) (nx := 32) ⟨tyOf_ok tys_ok, gOf_ok ⟨spec_mxDet_K k, spec_mxAdjoint_K k, spec_dyDivide_K k, trivial⟩⟩ rfl (by kernel_rfl) (by kernel_rfl) (by kernel_rfl) (by kernel_rfl) (by kernel_rfl) (by kernel_rfl) rfl (by kernel_rfl) (by kernel_rfl) (AnnOk_list [(506, loopB (codeOf Tryz.f129) 506), (518554, loopB (codeOf Tryz.f129) 518554)] spec_mxInverse_ls ⟨spec_mxInverse_l506 k, spec_mxInverse_l518554 k, trivial⟩) mix_ok (spec_mxInverse_eq k)

noncomputable def spec_nwInverse_V (k : Nat) : Variant := ⟨[.val ty_5 false, .val ty_9 true], [(ty_13, false), (ty_14, false), (.bool, false)], fun x => spec_nwInverse k x.1 x.2.1⟩
noncomputable def spec_nwInverse_C (k : Nat) : Cfg := ⟨Tryz.prog, tyOf tys, 36, gOf [(76, [], spec_vaJacobian_V k), (77, [], spec_nwMiddle_V k), (129, [], spec_mxInverse_V k)], false, [], []⟩
def spec_nwInverse_ps : List PE := [⟨0, 0, .val ty_5 false, false⟩, ⟨1, 16, .val ty_9 true, false⟩]
noncomputable def spec_nwInverse_F (k : Nat) : Fn ((List (List ((Int × Int) × Int × Int))) × (List (List (Int × Int))) × Bool) := ⟨spec_nwInverse_C k, rdRes Tryz.prog spec_nwInverse_ps [(ty_13, false), (ty_14, false), (.bool, false)] Tryz.f83.results.toList .ret, fun p => none, 0, []⟩
theorem spec_nwInverse_eq (k : Nat) (x : PTe spec_nwInverse_ps) : evFn (spec_nwInverse_F k) (codeOf Tryz.f83) spec_nwInverse_ps 32 x = spec_nwInverse k x.1 x.2.1 := by kernel_rfl
theorem spec_nwInverse_K (k : Nat) : Contract Tryz.prog 83 (spec_nwInverse_V k) :=
  contract (C := spec_nwInverse_C k) (F := spec_nwInverse_F k) (fn := Tryz.f83) (ps := spec_nwInverse_ps) (rs := [(ty_13, false), (ty_14, false), (.bool, false)]) (nx := 32) ⟨tyOf_ok tys_ok, gOf_ok ⟨spec_vaJacobian_K k, spec_nwMiddle_K k, spec_mxInverse_K k, trivial⟩⟩ rfl (by kernel_rfl) (by kernel_rfl) (by kernel_rfl) (by kernel_rfl) (by kernel_rfl) (by kernel_rfl) rfl (by kernel_rfl) (by kernel_rfl) (AnnOk_list [] (by kernel_rfl) trivial) mix_ok (spec_nwInverse_eq k)

noncomputable def spec_InverseJacobian_V (k : Nat) : Variant := ⟨[.val ty_5 false, .val ty_9 true], [(ty_14, false), (.bool, false)], fun x => spec_InverseJacobian k x.1 x.2.1⟩
noncomputable def spec_InverseJacobian_C (k : Nat) : Cfg := ⟨Tryz.prog, tyOf tys, 22, gOf [(75, [], spec_nwGood_V k), (83, [], spec_nwInverse_V k)], false, [], []⟩
def spec_InverseJacobian_ps : List PE := [⟨0, 0, .val ty_5 false, false⟩, ⟨1, 16, .val ty_9 true, false⟩]
noncomputable def spec_InverseJacobian_F (k : Nat) : Fn ((List (List (Int × Int))) × Bool) := ⟨spec_InverseJacobian_C k, rdRes Tryz.prog spec_InverseJacobian_ps [(ty_14, false), (.bool, false)] Tryz.f35.results.toList .ret, fun p => none, 0, []⟩
theorem spec_InverseJacobian_eq (k : Nat) (x : PTe spec_InverseJacobian_ps) : evFn (spec_InverseJacobian_F k) (codeOf Tryz.f35) spec_InverseJacobian_ps 32 x = spec_InverseJacobian k x.1 x.2.1 := by kernel_rfl
theorem spec_InverseJacobian_K (k : Nat) : Contract Tryz.prog 35 (spec_InverseJacobian_V k) :=
  contract (C := spec_InverseJacobian_C k) (F := spec_InverseJacobian_F k) (fn := Tryz.f35) (ps := spec_InverseJacobian_ps) (rs := [(ty_14, false), (.bool, false)]) (nx := 32) ⟨tyOf_ok tys_ok, gOf_ok ⟨spec_nwGood_K k, spec_nwInverse_K k, trivial⟩⟩ rfl (by kernel_rfl) (by kernel_rfl) (by kernel_rfl) (by kernel_rfl) (by kernel_rfl) (by kernel_rfl) rfl (by kernel_rfl) (by kernel_rfl) (AnnOk_list [] (by kernel_rfl) trivial) mix_ok (spec_InverseJacobian_eq k)

noncomputable def impl_inside_V : Variant := ⟨[.val ty_0 false, .val ty_0 false, .val ty_0 false], [(.bool, false)], fun x => impl_inside x.1 x.2.1 x.2.2.1⟩
noncomputable def impl_inside_C : Cfg := ⟨Tryz.prog, tyOf tys, 15, gOf [], false, [], []⟩
def impl_inside_ps : List PE := [⟨0, 0, .val ty_0 false, false⟩, ⟨1, 16, .val ty_0 false, false⟩, ⟨2, 32, .val ty_0 false, false⟩]
noncomputable def impl_inside_F : Fn (Bool) := ⟨impl_inside_C, rdRes Tryz.prog impl_inside_ps [(.bool, false)] Tryz.f86.results.toList .ret, fun p => none, 0, []⟩
theorem impl_inside_eq (x : PTe impl_inside_ps) : evFn (impl_inside_F) (codeOf Tryz.f86) impl_inside_ps 48 x = impl_inside x.1 x.2.1 x.2.2.1 := by kernel_rfl
theorem impl_inside_K : Contract Tryz.prog 86 (impl_inside_V) :=
  contract (C := impl_inside_C) (F := impl_inside_F) (fn := Tryz.f86) (ps := impl_inside_ps) (rs := [(.bool, false)]) (nx := 48) ⟨tyOf_ok tys_ok, gOf_ok trivial⟩ rfl (by kernel_rfl) (by kernel_rfl) (by kernel_rfl) (by kernel_rfl) (by kernel_rfl) (by kernel_rfl) rfl (by kernel_rfl) (by kernel_rfl) (AnnOk_list [] (by kernel_rfl) trivial) mix_ok (impl_inside_eq)

noncomputable def impl_Term_degree_V : Variant := ⟨[.val ty_3 true], [(ty_0, false)], fun x => impl_Term_degree x.1⟩
noncomputable def impl_Term_degree_C : Cfg := ⟨Tryz.prog, tyOf tys, 11, gOf [], false, [], []⟩
def impl_Term_degree_ps : List PE := [⟨0, 0, .val ty_3 true, false⟩]
noncomputable def impl_Term_degree_F : Fn (Int) := ⟨impl_Term_degree_C, rdRes Tryz.prog impl_Term_degree_ps [(ty_0, false)] Tryz.f284.results.toList .ret, fun p => none, 0, []⟩
theorem impl_Term_degree_eq (x : PTe impl_Term_degree_ps) : evFn (impl_Term_degree_F) (codeOf Tryz.f284) impl_Term_degree_ps 16 x = impl_Term_degree x.1 := by kernel_rfl
theorem impl_Term_degree_K : Contract Tryz.prog 284 (impl_Term_degree_V) :=
  contract (C := impl_Term_degree_C) (F := impl_Term_degree_F) (fn := Tryz.f284) (ps := impl_Term_degree_ps) (rs := [(ty_0, false)]) (nx := 16) ⟨tyOf_ok tys_ok, gOf_ok trivial⟩ rfl (by kernel_rfl) (by kernel_rfl) (by kernel_rfl) (by kernel_rfl) (by kernel_rfl) (by kernel_rfl) rfl (by kernel_rfl) (by kernel_rfl) (AnnOk_list [] (by kernel_rfl) trivial) mix_ok (impl_Term_degree_eq)

noncomputable def impl_hasDegree_V : Variant := ⟨[.val ty_3 true], [(.bool, false)], fun x => impl_hasDegree x.1⟩
noncomputable def impl_hasDegree_C : Cfg := ⟨Tryz.prog, tyOf tys, 21, gOf [(86, [], impl_inside_V), (284, [], impl_Term_degree_V)], false, [], []⟩
def impl_hasDegree_ps : List PE := [⟨0, 0, .val ty_3 true, false⟩]
noncomputable def impl_hasDegree_F : Fn (Bool) := ⟨impl_hasDegree_C, rdRes Tryz.prog impl_hasDegree_ps [(.bool, false)] Tryz.f260.results.toList .ret, fun p => none, 0, []⟩
theorem impl_hasDegree_eq (x : PTe impl_hasDegree_ps) : evFn (impl_hasDegree_F) (codeOf Tryz.f260) impl_hasDegree_ps 16 x = impl_hasDegree x.1 := by kernel_rfl
theorem impl_hasDegree_K : Contract Tryz.prog 260 (impl_hasDegree_V) :=
  contract (C := impl_hasDegree_C) (F := impl_hasDegree_F) (fn := Tryz.f260) (ps := impl_hasDegree_ps) (rs := [(.bool, false)]) (nx := 16) ⟨tyOf_ok tys_ok, gOf_ok ⟨impl_inside_K, impl_Term_degree_K, trivial⟩⟩ rfl (by kernel_rfl) (by kernel_rfl) (by kernel_rfl) (by kernel_rfl) (by kernel_rfl) (by kernel_rfl) rfl (by kernel_rfl) (by kernel_rfl) (AnnOk_list [] (by kernel_rfl) trivial) mix_ok (impl_hasDegree_eq)

noncomputable def cmp_isNaN_int_V : Variant := ⟨[.val ty_0 false], [(.bool, false)], fun x => cmp_isNaN_int x.1⟩
noncomputable def cmp_isNaN_int_C : Cfg := ⟨Tryz.prog, tyOf tys, 6, gOf [], false, [], []⟩
def cmp_isNaN_int_ps : List PE := [⟨0, 0, .val ty_0 false, false⟩]
noncomputable def cmp_isNaN_int_F : Fn (Bool) := ⟨cmp_isNaN_int_C, rdRes Tryz.prog cmp_isNaN_int_ps [(.bool, false)] Tryz.f297.results.toList .ret, fun p => none, 0, []⟩
theorem cmp_isNaN_int_eq (x : PTe cmp_isNaN_int_ps) : evFn (cmp_isNaN_int_F) (codeOf Tryz.f297) cmp_isNaN_int_ps 16 x = cmp_isNaN_int x.1 := by kernel_rfl
theorem cmp_isNaN_int_K : Contract Tryz.prog 297 (cmp_isNaN_int_V) :=
  contract (C := cmp_isNaN_int_C) (F := cmp_isNaN_int_F) (fn := Tryz.f297) (ps := cmp_isNaN_int_ps) (rs := [(.bool, false)]) (nx := 16) ⟨tyOf_ok tys_ok, gOf_ok trivial⟩ rfl (by kernel_rfl) (by kernel_rfl) (by kernel_rfl) (by kernel_rfl) (by kernel_rfl) (by kernel_rfl) rfl (by kernel_rfl) (by kernel_rfl) (AnnOk_list [] (by kernel_rfl) trivial) mix_ok (cmp_isNaN_int_eq)

noncomputable def cmp_Compare_int_V : Variant := ⟨[.val ty_0 false, .val ty_0 false], [(ty_0, false)], fun x => cmp_Compare_int x.1 x.2.1⟩
noncomputable def cmp_Compare_int_C : Cfg := ⟨Tryz.prog, tyOf tys, 20, gOf [(297, [], cmp_isNaN_int_V)], false, [], []⟩
def cmp_Compare_int_ps : List PE := [⟨0, 0, .val ty_0 false, false⟩, ⟨1, 16, .val ty_0 false, false⟩]
noncomputable def cmp_Compare_int_F : Fn (Int) := ⟨cmp_Compare_int_C, rdRes Tryz.prog cmp_Compare_int_ps [(ty_0, false)] Tryz.f285.results.toList .ret, fun p => none, 0, []⟩
theorem cmp_Compare_int_eq (x : PTe cmp_Compare_int_ps) : evFn (cmp_Compare_int_F) (codeOf Tryz.f285) cmp_Compare_int_ps 32 x = cmp_Compare_int x.1 x.2.1 := by kernel_rfl
theorem cmp_Compare_int_K : Contract Tryz.prog 285 (cmp_Compare_int_V) :=
  contract (C := cmp_Compare_int_C) (F := cmp_Compare_int_F) (fn := Tryz.f285) (ps := cmp_Compare_int_ps) (rs := [(ty_0, false)]) (nx := 32) ⟨tyOf_ok tys_ok, gOf_ok ⟨cmp_isNaN_int_K, trivial⟩⟩ rfl (by kernel_rfl) (by kernel_rfl) (by kernel_rfl) (by kernel_rfl) (by kernel_rfl) (by kernel_rfl) rfl (by kernel_rfl) (by kernel_rfl) (AnnOk_list [] (by kernel_rfl) trivial) mix_ok (cmp_Compare_int_eq)

noncomputable def cmp_Or_int_V (k : Nat) : Variant := ⟨[.val ty_7 false], [(ty_0, false)], fun x => cmp_Or_int k x.1⟩
noncomputable def cmp_Or_int_C (k : Nat) : Cfg := ⟨Tryz.prog, tyOf tys, 18, gOf [], false, [], []⟩
def cmp_Or_int_i58 : List PE := [⟨3, 16, .val ty_0 false, false⟩, ⟨6, 32, .val ty_7 false, false⟩, ⟨7, 48, .val ty_0 false, false⟩, ⟨8, 64, .val ty_0 false, false⟩]
def cmp_Or_int_o58 : List PE := [⟨3, 16, .val ty_0 false, false⟩]
noncomputable def cmp_Or_int_f58 (k : Nat) (n : Nat) (x1 : PTe cmp_Or_int_i58) : Option ((Int) ⊕ PTe cmp_Or_int_o58) := cmp_Or_int_L58 k n x1.1 x1.2.1 x1.2.2.1 x1.2.2.2.1
def cmp_Or_int_ps : List PE := [⟨0, 0, .val ty_7 false, false⟩]
noncomputable def cmp_Or_int_F (k : Nat) : Fn (Int) := ⟨cmp_Or_int_C k, rdRes Tryz.prog cmp_Or_int_ps [(ty_0, false)] Tryz.f278.results.toList .ret, fun p => bif Nat.beq p 58 then some (.loop cmp_Or_int_i58 cmp_Or_int_o58 0 80 (cmp_Or_int_f58 k k)) else none, 0, []⟩
theorem cmp_Or_int_eq (k : Nat) (x : PTe cmp_Or_int_ps) : evFn (cmp_Or_int_F k) (codeOf Tryz.f278) cmp_Or_int_ps 16 x = cmp_Or_int k x.1 := by kernel_rfl
theorem cmp_Or_int_ls : loopsOf (codeOf Tryz.f278) 1 = [(58, loopB (codeOf Tryz.f278) 58)] := by kernel_rfl
theorem cmp_Or_int_l58 (k : Nat) : LoopOk (cmp_Or_int_F k) (loopB (codeOf Tryz.f278) 58) 58 := LoopOk.mk (pin := cmp_Or_int_i58) (pout := cmp_Or_int_o58) (ex := 0) (nx := 80) (Lf := cmp_Or_int_f58 k) (k := k) (by kernel_rfl) (fun _ => rfl) (by intro n x; kernel_rfl)
theorem cmp_Or_int_K (k : Nat) : Contract Tryz.prog 278 (cmp_Or_int_V k) :=
  contract (C := cmp_Or_int_C k) (F := cmp_Or_int_F k) (fn := Tryz.f278) (ps := cmp_Or_int_ps) (rs := [(ty_0, false)]) (nx := 16) ⟨tyOf_ok tys_ok, gOf_ok trivial⟩ rfl (by kernel_rfl) (by kernel_rfl) (by kernel_rfl) (by kernel_rfl) (by kernel_rfl) (by kernel_rfl) rfl (by kernel_rfl) (by kernel_rfl) (AnnOk_list [(58, loopB (codeOf Tryz.f278) 58)] cmp_Or_int_ls ⟨cmp_Or_int_l58 k, trivial⟩) mix_ok (cmp_Or_int_eq k)

noncomputable def impl_compareTerms_V (k : Nat) : Variant := ⟨[.val ty_3 true, .val ty_3 true], [(ty_0, false)], fun x => impl_compareTerms k x.1 x.2.1⟩
noncomputable def impl_compareTerms_C (k : Nat) : Cfg := ⟨Tryz.prog, tyOf tys, 22, gOf [(285, [], cmp_Compare_int_V), (278, [], cmp_Or_int_V k)], false, [], []⟩
def impl_compareTerms_ps : List PE := [⟨0, 0, .val ty_3 true, false⟩, ⟨1, 16, .val ty_3 true, false⟩]
noncomputable def impl_compareTerms_F (k : Nat) : Fn (Int) := ⟨impl_compareTerms_C k, rdRes Tryz.prog impl_compareTerms_ps [(ty_0, false)] Tryz.f261.results.toList .ret, fun p => none, 0, []⟩
theorem impl_compareTerms_eq (k : Nat) (x : PTe impl_compareTerms_ps) : evFn (impl_compareTerms_F k) (codeOf Tryz.f261) impl_compareTerms_ps 32 x = impl_compareTerms k x.1 x.2.1 := by kernel_rfl
theorem impl_compareTerms_K (k : Nat) : Contract Tryz.prog 261 (impl_compareTerms_V k) :=
  contract (C := impl_compareTerms_C k) (F := impl_compareTerms_F k) (fn := Tryz.f261) (ps := impl_compareTerms_ps) (rs := [(ty_0, false)]) (nx := 32) ⟨tyOf_ok tys_ok, gOf_ok ⟨cmp_Compare_int_K, cmp_Or_int_K k, trivial⟩⟩ rfl (by kernel_rfl) (by kernel_rfl) (by kernel_rfl) (by kernel_rfl) (by kernel_rfl) (by kernel_rfl) rfl (by kernel_rfl) (by kernel_rfl) (AnnOk_list [] (by kernel_rfl) trivial) mix_ok (impl_compareTerms_eq k)

noncomputable def impl_isPoly_V (k : Nat) : Variant := ⟨[.val ty_4 false], [(.bool, false)], fun x => impl_isPoly k x.1⟩
noncomputable def impl_isPoly_C (k : Nat) : Cfg := ⟨Tryz.prog, tyOf tys, 44, gOf [(86, [], impl_inside_V), (260, [], impl_hasDegree_V), (261, [], impl_compareTerms_V k)], false, [], []⟩
def impl_isPoly_i26 : List PE := [⟨0, 16, .val ty_4 false, false⟩, ⟨5, 32, .val ty_4 false, false⟩, ⟨6, 48, .val ty_0 false, false⟩, ⟨7, 64, .val ty_0 false, false⟩]
def impl_isPoly_o26 : List PE := [⟨0, 16, .val ty_4 false, false⟩]
noncomputable def impl_isPoly_f26 (k : Nat) (n : Nat) (x4 : PTe impl_isPoly_i26) : Option ((Bool) ⊕ PTe impl_isPoly_o26) := impl_isPoly_L26 k n x4.1 x4.2.1 x4.2.2.1 x4.2.2.2.1
def impl_isPoly_ps : List PE := [⟨0, 0, .val ty_4 false, false⟩]
noncomputable def impl_isPoly_F (k : Nat) : Fn (Bool) := ⟨impl_isPoly_C k, rdRes Tryz.prog impl_isPoly_ps [(.bool, false)] Tryz.f207.results.toList .ret, fun p => bif Nat.beq p 26 then some (.loop impl_isPoly_i26 impl_isPoly_o26 0 80 (impl_isPoly_f26 k k)) else none, 0, []⟩
theorem impl_isPoly_eq (k : Nat) (x : PTe impl_isPoly_ps) : evFn (impl_isPoly_F k) (codeOf Tryz.f207) impl_isPoly_ps 16 x = impl_isPoly k x.1 := by kernel_rfl
theorem impl_isPoly_ls : loopsOf (codeOf Tryz.f207) 1 = [(26, loopB (codeOf Tryz.f207) 26)] := by kernel_rfl
theorem impl_isPoly_l26 (k : Nat) : LoopOk (impl_isPoly_F k) (loopB (codeOf Tryz.f207) 26) 26 := LoopOk.mk (pin := impl_isPoly_i26) (pout := impl_isPoly_o26) (ex := 0) (nx := 80) (Lf := impl_isPoly_f26 k) (k := k) (by kernel_rfl) (fun _ => rfl) (by intro n x; kernel_rfl)
theorem impl_isPoly_K (k : Nat) : Contract Tryz.prog 207 (impl_isPoly_V k) :=
  contract (C := impl_isPoly_C k) (F := impl_isPoly_F k) (fn := Tryz.f207) (ps := impl_isPoly_ps) (rs := [(.bool, false)]) (nx := 16) ⟨tyOf_ok tys_ok, gOf_ok ⟨impl_inside_K, impl_hasDegree_K, impl_compareTerms_K k, trivial⟩⟩ rfl (by kernel_rfl) (by kernel_rfl) (by kernel_rfl) (by kernel_rfl) (by kernel_rfl) (by kernel_rfl) rfl (by kernel_rfl) (by kernel_rfl) (AnnOk_list [(26, loopB (codeOf Tryz.f207) 26)] impl_isPoly_ls ⟨impl_isPoly_l26 k, trivial⟩) mix_ok (impl_isPoly_eq k)

noncomputable def impl_Term_exponents_V : Variant := ⟨[.val ty_3 true], [(ty_2, true)], fun x => impl_Term_exponents x.1⟩
noncomputable def impl_Term_exponents_C : Cfg := ⟨Tryz.prog, tyOf tys, 10, gOf [], false, [], []⟩
def impl_Term_exponents_ps : List PE := [⟨0, 0, .val ty_3 true, false⟩]
noncomputable def impl_Term_exponents_F : Fn (Int × Int × Int) := ⟨impl_Term_exponents_C, rdRes Tryz.prog impl_Term_exponents_ps [(ty_2, true)] Tryz.f262.results.toList .ret, fun p => none, 0, []⟩
theorem impl_Term_exponents_eq (x : PTe impl_Term_exponents_ps) : evFn (impl_Term_exponents_F) (codeOf Tryz.f262) impl_Term_exponents_ps 16 x = impl_Term_exponents x.1 := by kernel_rfl
theorem impl_Term_exponents_K : Contract Tryz.prog 262 (impl_Term_exponents_V) :=
  contract (C := impl_Term_exponents_C) (F := impl_Term_exponents_F) (fn := Tryz.f262) (ps := impl_Term_exponents_ps) (rs := [(ty_2, true)]) (nx := 16) ⟨tyOf_ok tys_ok, gOf_ok trivial⟩ rfl (by kernel_rfl) (by kernel_rfl) (by kernel_rfl) (by kernel_rfl) (by kernel_rfl) (by kernel_rfl) rfl (by kernel_rfl) (by kernel_rfl) (AnnOk_list [] (by kernel_rfl) trivial) mix_ok (impl_Term_exponents_eq)

noncomputable def impl_needsAtMost_V (k : Nat) : Variant := ⟨[.val ty_4 false, .val ty_0 false], [(.bool, false)], fun x => impl_needsAtMost k x.1 x.2.1⟩
noncomputable def impl_needsAtMost_C (k : Nat) : Cfg := ⟨Tryz.prog, tyOf tys, 30, gOf [(262, [], impl_Term_exponents_V)], false, [], []⟩
def impl_needsAtMost_i6758 : List PE := [⟨1, 32, .val ty_0 false, false⟩, ⟨9, 48, .val ty_4 false, false⟩, ⟨10, 64, .val ty_0 false, false⟩, ⟨11, 80, .val ty_0 false, false⟩, ⟨16, 96, .val ty_2 true, false⟩, ⟨17, 112, .val ty_0 false, false⟩]
def impl_needsAtMost_o6758 : List PE := [⟨1, 32, .val ty_0 false, false⟩, ⟨9, 48, .val ty_4 false, false⟩, ⟨10, 64, .val ty_0 false, false⟩, ⟨11, 80, .val ty_0 false, false⟩]
noncomputable def impl_needsAtMost_f6758 (k : Nat) (n : Nat) (x2 : PTe impl_needsAtMost_i6758) : Option ((Bool) ⊕ PTe impl_needsAtMost_o6758) := impl_needsAtMost_L6758 k n x2.1 x2.2.1 x2.2.2.1 x2.2.2.2.1 x2.2.2.2.2.1 x2.2.2.2.2.2.1
def impl_needsAtMost_i26 : List PE := [⟨1, 32, .val ty_0 false, false⟩, ⟨9, 48, .val ty_4 false, false⟩, ⟨10, 64, .val ty_0 false, false⟩, ⟨11, 80, .val ty_0 false, false⟩]
def impl_needsAtMost_o26 : List PE := []
noncomputable def impl_needsAtMost_f26 (k : Nat) (n : Nat) (x5 : PTe impl_needsAtMost_i26) : Option ((Bool) ⊕ PTe impl_needsAtMost_o26) := impl_needsAtMost_L26 k n x5.1 x5.2.1 x5.2.2.1 x5.2.2.2.1
def impl_needsAtMost_ps : List PE := [⟨0, 0, .val ty_4 false, false⟩, ⟨1, 16, .val ty_0 false, false⟩]
noncomputable def impl_needsAtMost_F (k : Nat) : Fn (Bool) := ⟨impl_needsAtMost_C k, rdRes Tryz.prog impl_needsAtMost_ps [(.bool, false)] Tryz.f208.results.toList .ret, fun p => bif Nat.beq p 6758 then some (.loop impl_needsAtMost_i6758 impl_needsAtMost_o6758 2 128 (impl_needsAtMost_f6758 k k)) else bif Nat.beq p 26 then some (.loop impl_needsAtMost_i26 impl_needsAtMost_o26 0 96 (impl_needsAtMost_f26 k k)) else none, 0, []⟩
theorem impl_needsAtMost_eq (k : Nat) (x : PTe impl_needsAtMost_ps) : evFn (impl_needsAtMost_F k) (codeOf Tryz.f208) impl_needsAtMost_ps 32 x = impl_needsAtMost k x.1 x.2.1 := by kernel_rfl
theorem impl_needsAtMost_ls : loopsOf (codeOf Tryz.f208) 1 = [(26, loopB (codeOf Tryz.f208) 26), (6758, loopB (codeOf Tryz.f208) 6758)] := by kernel_rfl
theorem impl_needsAtMost_l6758 (k : Nat) : LoopOk (impl_needsAtMost_F k) (loopB (codeOf Tryz.f208) 6758) 6758 := LoopOk.mk (pin := impl_needsAtMost_i6758) (pout := impl_needsAtMost_o6758) (ex := 2) (nx := 128) (Lf := impl_needsAtMost_f6758 k) (k := k) (by kernel_rfl) (fun _ => rfl) (by intro n x; kernel_rfl)
theorem impl_needsAtMost_l26 (k : Nat) : LoopOk (impl_needsAtMost_F k) (loopB (codeOf Tryz.f208) 26) 26 := LoopOk.mk (pin := impl_needsAtMost_i26) (pout := impl_needsAtMost_o26) (ex := 0) (nx := 96) (Lf := impl_needsAtMost_f26 k) (k := k) (by kernel_rfl) (fun _ => rfl) (by intro n x; kernel_rfl)
theorem impl_needsAtMost_K (k : Nat) : Contract Tryz.prog 208 (impl_needsAtMost_V k) :=
  contract (C := impl_needsAtMost_C k) (F := impl_needsAtMost_F k) (fn := Tryz.f208) (ps := impl_needsAtMost_ps) (rs := [(.bool, false)]) (nx := 32) ⟨tyOf_ok tys_ok, gOf_ok ⟨impl_Term_exponents_K, trivial⟩⟩ rfl (by kernel_rfl) (by kernel_rfl) (by kernel_rfl) (by kernel_rfl) (by kernel_rfl) (by kernel_rfl) rfl (by kernel_rfl) (by kernel_rfl) (AnnOk_list [(26, loopB (codeOf Tryz.f208) 26), (6758, loopB (codeOf Tryz.f208) 6758)] impl_needsAtMost_ls ⟨impl_needsAtMost_l26 k, impl_needsAtMost_l6758 k, trivial⟩) mix_ok (impl_needsAtMost_eq k)

noncomputable def impl_isSystem_V (k : Nat) : Variant := ⟨[.val ty_5 false], [(.bool, false)], fun x => impl_isSystem k x.1⟩
noncomputable def impl_isSystem_C (k : Nat) : Cfg := ⟨Tryz.prog, tyOf tys, 25, gOf [(207, [], impl_isPoly_V k), (208, [], impl_needsAtMost_V k), (86, [], impl_inside_V)], false, [], []⟩
def impl_isSystem_i26 : List PE := [⟨0, 16, .val ty_5 false, false⟩, ⟨5, 32, .val ty_5 false, false⟩, ⟨6, 48, .val ty_0 false, false⟩, ⟨7, 64, .val ty_0 false, false⟩]
def impl_isSystem_o26 : List PE := [⟨0, 16, .val ty_5 false, false⟩]
noncomputable def impl_isSystem_f26 (k : Nat) (n : Nat) (x3 : PTe impl_isSystem_i26) : Option ((Bool) ⊕ PTe impl_isSystem_o26) := impl_isSystem_L26 k n x3.1 x3.2.1 x3.2.2.1 x3.2.2.2.1
def impl_isSystem_ps : List PE := [⟨0, 0, .val ty_5 false, false⟩]
noncomputable def impl_isSystem_F (k : Nat) : Fn (Bool) := ⟨impl_isSystem_C k, rdRes Tryz.prog impl_isSystem_ps [(.bool, false)] Tryz.f148.results.toList .ret, fun p => bif Nat.beq p 26 then some (.loop impl_isSystem_i26 impl_isSystem_o26 0 80 (impl_isSystem_f26 k k)) else none, 0, []⟩
theorem impl_isSystem_eq (k : Nat) (x : PTe impl_isSystem_ps) : evFn (impl_isSystem_F k) (codeOf Tryz.f148) impl_isSystem_ps 16 x = impl_isSystem k x.1 := by kernel_rfl
theorem impl_isSystem_ls : loopsOf (codeOf Tryz.f148) 1 = [(26, loopB (codeOf Tryz.f148) 26)] := by kernel_rfl
theorem impl_isSystem_l26 (k : Nat) : LoopOk (impl_isSystem_F k) (loopB (codeOf Tryz.f148) 26) 26 := LoopOk.mk (pin := impl_isSystem_i26) (pout := impl_isSystem_o26) (ex := 0) (nx := 80) (Lf := impl_isSystem_f26 k) (k := k) (by kernel_rfl) (fun _ => rfl) (by intro n x; kernel_rfl)
theorem impl_isSystem_K (k : Nat) : Contract Tryz.prog 148 (impl_isSystem_V k) :=
  contract (C := impl_isSystem_C k) (F := impl_isSystem_F k) (fn := Tryz.f148) (ps := impl_isSystem_ps) (rs := [(.bool, false)]) (nx := 16) ⟨tyOf_ok tys_ok, gOf_ok ⟨impl_isPoly_K k, impl_needsAtMost_K k, impl_inside_K, trivial⟩⟩ rfl (by kernel_rfl) (by kernel_rfl) (by kernel_rfl) (by kernel_rfl) (by kernel_rfl) (by kernel_rfl) rfl (by kernel_rfl) (by kernel_rfl) (AnnOk_list [(26, loopB (codeOf Tryz.f148) 26)] impl_isSystem_ls ⟨impl_isSystem_l26 k, trivial⟩) mix_ok (impl_isSystem_eq k)

noncomputable def impl_isBox_V (k : Nat) : Variant := ⟨[.ptr ty_9 false], [(.bool, false)], fun x => impl_isBox k x.1⟩
noncomputable def impl_isBox_C (k : Nat) : Cfg := ⟨Tryz.prog, tyOf tys, 94, gOf [(86, [], impl_inside_V)], false, [], []⟩
def impl_isBox_i122 : List PE := [⟨0, 16, .ptr ty_9 false, false⟩, ⟨3, 32, .val ty_0 false, false⟩, ⟨4, 48, .val .bool false, false⟩, ⟨48, 64, .val ty_7 false, false⟩, ⟨49, 80, .val ty_0 false, false⟩, ⟨50, 96, .val ty_0 false, false⟩]
def impl_isBox_o122 : List PE := [⟨4, 16, .val .bool false, false⟩]
noncomputable def impl_isBox_f122 (k : Nat) (n : Nat) (x5 : PTe impl_isBox_i122) : Option ((Bool) ⊕ PTe impl_isBox_o122) := impl_isBox_L122 k n x5.1 x5.2.1 x5.2.2.1 x5.2.2.2.1 x5.2.2.2.2.1 x5.2.2.2.2.2.1
def impl_isBox_ps : List PE := [⟨0, 0, .ptr ty_9 false, false⟩]
noncomputable def impl_isBox_F (k : Nat) : Fn (Bool) := ⟨impl_isBox_C k, rdRes Tryz.prog impl_isBox_ps [(.bool, false)] Tryz.f160.results.toList .ret, fun p => bif Nat.beq p 122 then some (.loop impl_isBox_i122 impl_isBox_o122 0 112 (impl_isBox_f122 k k)) else none, 0, []⟩
theorem impl_isBox_eq (k : Nat) (x : PTe impl_isBox_ps) : evFn (impl_isBox_F k) (codeOf Tryz.f160) impl_isBox_ps 16 x = impl_isBox k x.1 := by kernel_rfl
theorem impl_isBox_ls : loopsOf (codeOf Tryz.f160) 1 = [(122, loopB (codeOf Tryz.f160) 122)] := by kernel_rfl
theorem impl_isBox_l122 (k : Nat) : LoopOk (impl_isBox_F k) (loopB (codeOf Tryz.f160) 122) 122 := LoopOk.mk (pin := impl_isBox_i122) (pout := impl_isBox_o122) (ex := 0) (nx := 112) (Lf := impl_isBox_f122 k) (k := k) (by kernel_rfl) (fun _ => rfl) (by intro n x; kernel_rfl)
theorem impl_isBox_K (k : Nat) : Contract Tryz.prog 160 (impl_isBox_V k) :=
  contract (C := impl_isBox_C k) (F := impl_isBox_F k) (fn := Tryz.f160) (ps := impl_isBox_ps) (rs := [(.bool, false)]) (nx := 16) ⟨tyOf_ok tys_ok, gOf_ok ⟨impl_inside_K, trivial⟩⟩ rfl (by kernel_rfl) (by kernel_rfl) (by kernel_rfl) (by kernel_rfl) (by kernel_rfl) (by kernel_rfl) rfl (by kernel_rfl) (by kernel_rfl) (AnnOk_list [(122, loopB (codeOf Tryz.f160) 122)] impl_isBox_ls ⟨impl_isBox_l122 k, trivial⟩) mix_ok (impl_isBox_eq k)

noncomputable def impl_systemOver_V (k : Nat) : Variant := ⟨[.val ty_5 false, .ptr ty_9 false], [(.bool, false)], fun x => impl_systemOver k x.1 x.2.1⟩
noncomputable def impl_systemOver_C (k : Nat) : Cfg := ⟨Tryz.prog, tyOf tys, 21, gOf [(148, [], impl_isSystem_V k), (160, [], impl_isBox_V k)], false, [], []⟩
def impl_systemOver_ps : List PE := [⟨0, 0, .val ty_5 false, false⟩, ⟨1, 16, .ptr ty_9 false, false⟩]
noncomputable def impl_systemOver_F (k : Nat) : Fn (Bool) := ⟨impl_systemOver_C k, rdRes Tryz.prog impl_systemOver_ps [(.bool, false)] Tryz.f124.results.toList .ret, fun p => none, 0, []⟩
theorem impl_systemOver_eq (k : Nat) (x : PTe impl_systemOver_ps) : evFn (impl_systemOver_F k) (codeOf Tryz.f124) impl_systemOver_ps 32 x = impl_systemOver k x.1 x.2.1 := by kernel_rfl
theorem impl_systemOver_K (k : Nat) : Contract Tryz.prog 124 (impl_systemOver_V k) :=
  contract (C := impl_systemOver_C k) (F := impl_systemOver_F k) (fn := Tryz.f124) (ps := impl_systemOver_ps) (rs := [(.bool, false)]) (nx := 32) ⟨tyOf_ok tys_ok, gOf_ok ⟨impl_isSystem_K k, impl_isBox_K k, trivial⟩⟩ rfl (by kernel_rfl) (by kernel_rfl) (by kernel_rfl) (by kernel_rfl) (by kernel_rfl) (by kernel_rfl) rfl (by kernel_rfl) (by kernel_rfl) (AnnOk_list [] (by kernel_rfl) trivial) mix_ok (impl_systemOver_eq k)

noncomputable def impl_newtonFits_V (k : Nat) : Variant := ⟨[.val ty_5 false, .ptr ty_9 false], [(.bool, false)], fun x => impl_newtonFits k x.1 x.2.1⟩
noncomputable def impl_newtonFits_C (k : Nat) : Cfg := ⟨Tryz.prog, tyOf tys, 15, gOf [(124, [], impl_systemOver_V k)], false, [], []⟩
def impl_newtonFits_ps : List PE := [⟨0, 0, .val ty_5 false, false⟩, ⟨1, 16, .ptr ty_9 false, false⟩]
noncomputable def impl_newtonFits_F (k : Nat) : Fn (Bool) := ⟨impl_newtonFits_C k, rdRes Tryz.prog impl_newtonFits_ps [(.bool, false)] Tryz.f78.results.toList .ret, fun p => none, 0, []⟩
theorem impl_newtonFits_eq (k : Nat) (x : PTe impl_newtonFits_ps) : evFn (impl_newtonFits_F k) (codeOf Tryz.f78) impl_newtonFits_ps 32 x = impl_newtonFits k x.1 x.2.1 := by kernel_rfl
theorem impl_newtonFits_K (k : Nat) : Contract Tryz.prog 78 (impl_newtonFits_V k) :=
  contract (C := impl_newtonFits_C k) (F := impl_newtonFits_F k) (fn := Tryz.f78) (ps := impl_newtonFits_ps) (rs := [(.bool, false)]) (nx := 32) ⟨tyOf_ok tys_ok, gOf_ok ⟨impl_systemOver_K k, trivial⟩⟩ rfl (by kernel_rfl) (by kernel_rfl) (by kernel_rfl) (by kernel_rfl) (by kernel_rfl) (by kernel_rfl) rfl (by kernel_rfl) (by kernel_rfl) (AnnOk_list [] (by kernel_rfl) trivial) mix_ok (impl_newtonFits_eq k)

noncomputable def impl_termOf_V : Variant := ⟨[.val ty_0 false, .val ty_2 true], [(ty_3, true)], fun x => impl_termOf x.1 x.2.1⟩
noncomputable def impl_termOf_C : Cfg := ⟨Tryz.prog, tyOf tys, 13, gOf [], false, [], []⟩
def impl_termOf_ps : List PE := [⟨0, 0, .val ty_0 false, false⟩, ⟨1, 16, .val ty_2 true, false⟩]
noncomputable def impl_termOf_F : Fn (Int × Int × Int × Int) := ⟨impl_termOf_C, rdRes Tryz.prog impl_termOf_ps [(ty_3, true)] Tryz.f275.results.toList .ret, fun p => none, 0, []⟩
theorem impl_termOf_eq (x : PTe impl_termOf_ps) : evFn (impl_termOf_F) (codeOf Tryz.f275) impl_termOf_ps 32 x = impl_termOf x.1 x.2.1 := by kernel_rfl
theorem impl_termOf_K : Contract Tryz.prog 275 (impl_termOf_V) :=
  contract (C := impl_termOf_C) (F := impl_termOf_F) (fn := Tryz.f275) (ps := impl_termOf_ps) (rs := [(ty_3, true)]) (nx := 32) ⟨tyOf_ok tys_ok, gOf_ok trivial⟩ rfl (by kernel_rfl) (by kernel_rfl) (by kernel_rfl) (by kernel_rfl) (by kernel_rfl) (by kernel_rfl) rfl (by kernel_rfl) (by kernel_rfl) (AnnOk_list [] (by kernel_rfl) trivial) mix_ok (impl_termOf_eq)

noncomputable def slices_Clone_Term_Term_V : Variant := ⟨[.val ty_4 false], [(ty_4, false)], fun x => slices_Clone_Term_Term x.1⟩
noncomputable def slices_Clone_Term_Term_C : Cfg := ⟨Tryz.prog, tyOf tys, 8, gOf [], false, [], []⟩
def slices_Clone_Term_Term_ps : List PE := [⟨0, 0, .val ty_4 false, false⟩]
noncomputable def slices_Clone_Term_Term_F : Fn (List (Int × Int × Int × Int)) := ⟨slices_Clone_Term_Term_C, rdRes Tryz.prog slices_Clone_Term_Term_ps [(ty_4, false)] Tryz.f289.results.toList .ret, fun p => none, 0, []⟩
theorem slices_Clone_Term_Term_eq (x : PTe slices_Clone_Term_Term_ps) : evFnN false (slices_Clone_Term_Term_F) (codeOf Tryz.f289) slices_Clone_Term_Term_ps 16 x = slices_Clone_Term_Term x.1 := by kernel_rfl
theorem slices_Clone_Term_Term_eq0 (x : (Unit)) : evFnN true (slices_Clone_Term_Term_F) (codeOf Tryz.f289) slices_Clone_Term_Term_ps 16 (([] : List (Int × Int × Int × Int)), x) = slices_Clone_Term_Term [] := by kernel_rfl
theorem slices_Clone_Term_Term_K : Contract Tryz.prog 289 (slices_Clone_Term_Term_V) :=
  contractN (C := slices_Clone_Term_Term_C) (F := slices_Clone_Term_Term_F) (fn := Tryz.f289) (ps := slices_Clone_Term_Term_ps) (rs := [(ty_4, false)]) (nx := 16) rfl ⟨tyOf_ok tys_ok, gOf_ok trivial⟩ rfl (by kernel_rfl) (by kernel_rfl) (by kernel_rfl) (by kernel_rfl) (by kernel_rfl) (by kernel_rfl) rfl (by kernel_rfl) (by kernel_rfl) (AnnOk_list [] (by kernel_rfl) trivial) mix_ok (slices_Clone_Term_Term_eq) (fun x h => by obtain ⟨x1, x2⟩ := x; have h : x1 = [] := h; subst h; exact slices_Clone_Term_Term_eq0 x2)

noncomputable def slices_insertionSortCmpFunc_Term_impl_compareTerms_V (k : Nat) : Variant := ⟨[.own ty_3, .val ty_0 false, .val ty_0 false, .fn 261 []], [], fun x => slices_insertionSortCmpFunc_Term_impl_compareTerms k x.1 x.2.1 x.2.2.1 x.2.2.2.1⟩
noncomputable def slices_insertionSortCmpFunc_Term_impl_compareTerms_C (k : Nat) : Cfg := ⟨Tryz.prog, tyOf tys, 53, gOf [(261, [], impl_compareTerms_V k)], false, [], []⟩
def slices_insertionSortCmpFunc_Term_impl_compareTerms_i402 : List PE := [⟨0, 0, .own ty_3, true⟩, ⟨1, 64, .val ty_0 false, false⟩, ⟨2, 80, .val ty_0 false, false⟩, ⟨3, 96, .fn 261 [], false⟩, ⟨8, 112, .val ty_0 false, false⟩, ⟨9, 128, .val ty_0 false, false⟩]
def slices_insertionSortCmpFunc_Term_impl_compareTerms_o402 : List PE := [⟨0, 0, .own ty_3, true⟩, ⟨1, 64, .val ty_0 false, false⟩, ⟨2, 80, .val ty_0 false, false⟩, ⟨3, 96, .fn 261 [], false⟩, ⟨8, 112, .val ty_0 false, false⟩]
noncomputable def slices_insertionSortCmpFunc_Term_impl_compareTerms_f402 (k : Nat) (n : Nat) (x2 : PTe slices_insertionSortCmpFunc_Term_impl_compareTerms_i402) : Option ((List (Int × Int × Int × Int)) ⊕ PTe slices_insertionSortCmpFunc_Term_impl_compareTerms_o402) := slices_insertionSortCmpFunc_Term_impl_compareTerms_L402 k n x2.1 x2.2.1 x2.2.2.1 x2.2.2.2.1 x2.2.2.2.2.1 x2.2.2.2.2.2.1
def slices_insertionSortCmpFunc_Term_impl_compareTerms_i6 : List PE := [⟨0, 0, .own ty_3, true⟩, ⟨1, 64, .val ty_0 false, false⟩, ⟨2, 80, .val ty_0 false, false⟩, ⟨3, 96, .fn 261 [], false⟩, ⟨8, 112, .val ty_0 false, false⟩]
def slices_insertionSortCmpFunc_Term_impl_compareTerms_o6 : List PE := [⟨0, 0, .own ty_3, true⟩]
noncomputable def slices_insertionSortCmpFunc_Term_impl_compareTerms_f6 (k : Nat) (n : Nat) (x5 : PTe slices_insertionSortCmpFunc_Term_impl_compareTerms_i6) : Option ((List (Int × Int × Int × Int)) ⊕ PTe slices_insertionSortCmpFunc_Term_impl_compareTerms_o6) := slices_insertionSortCmpFunc_Term_impl_compareTerms_L6 k n x5.1 x5.2.1 x5.2.2.1 x5.2.2.2.1 x5.2.2.2.2.1
def slices_insertionSortCmpFunc_Term_impl_compareTerms_ps : List PE := [⟨0, 0, .own ty_3, true⟩, ⟨1, 16, .val ty_0 false, false⟩, ⟨2, 32, .val ty_0 false, false⟩, ⟨3, 48, .fn 261 [], false⟩]
noncomputable def slices_insertionSortCmpFunc_Term_impl_compareTerms_F (k : Nat) : Fn (List (Int × Int × Int × Int)) := ⟨slices_insertionSortCmpFunc_Term_impl_compareTerms_C k, rdRes Tryz.prog slices_insertionSortCmpFunc_Term_impl_compareTerms_ps [] Tryz.f300.results.toList .ret, fun p => bif Nat.beq p 402 then some (.loop slices_insertionSortCmpFunc_Term_impl_compareTerms_i402 slices_insertionSortCmpFunc_Term_impl_compareTerms_o402 2 144 (slices_insertionSortCmpFunc_Term_impl_compareTerms_f402 k k)) else bif Nat.beq p 6 then some (.loop slices_insertionSortCmpFunc_Term_impl_compareTerms_i6 slices_insertionSortCmpFunc_Term_impl_compareTerms_o6 0 128 (slices_insertionSortCmpFunc_Term_impl_compareTerms_f6 k k)) else none, 0, [0]⟩
theorem slices_insertionSortCmpFunc_Term_impl_compareTerms_eq (k : Nat) (x : PTe slices_insertionSortCmpFunc_Term_impl_compareTerms_ps) : evFn (slices_insertionSortCmpFunc_Term_impl_compareTerms_F k) (codeOf Tryz.f300) slices_insertionSortCmpFunc_Term_impl_compareTerms_ps 64 x = slices_insertionSortCmpFunc_Term_impl_compareTerms k x.1 x.2.1 x.2.2.1 x.2.2.2.1 := by kernel_rfl
theorem slices_insertionSortCmpFunc_Term_impl_compareTerms_ls : loopsOf (codeOf Tryz.f300) 1 = [(6, loopB (codeOf Tryz.f300) 6), (402, loopB (codeOf Tryz.f300) 402)] := by kernel_rfl
theorem slices_insertionSortCmpFunc_Term_impl_compareTerms_l402 (k : Nat) : LoopOk (slices_insertionSortCmpFunc_Term_impl_compareTerms_F k) (loopB (codeOf Tryz.f300) 402) 402 := LoopOk.mk (pin := slices_insertionSortCmpFunc_Term_impl_compareTerms_i402) (pout := slices_insertionSortCmpFunc_Term_impl_compareTerms_o402) (ex := 2) (nx := 144) (Lf := slices_insertionSortCmpFunc_Term_impl_compareTerms_f402 k) (k := k) (by kernel_rfl) (fun _ => rfl) (by intro n x; kernel_rfl)
theorem slices_insertionSortCmpFunc_Term_impl_compareTerms_l6 (k : Nat) : LoopOk (slices_insertionSortCmpFunc_Term_impl_compareTerms_F k) (loopB (codeOf Tryz.f300) 6) 6 := LoopOk.mk (pin := slices_insertionSortCmpFunc_Term_impl_compareTerms_i6) (pout := slices_insertionSortCmpFunc_Term_impl_compareTerms_o6) (ex := 0) (nx := 128) (Lf := slices_insertionSortCmpFunc_Term_impl_compareTerms_f6 k) (k := k) (by kernel_rfl) (fun _ => rfl) (by intro n x; kernel_rfl)
theorem slices_insertionSortCmpFunc_Term_impl_compareTerms_K (k : Nat) : Contract Tryz.prog 300 (slices_insertionSortCmpFunc_Term_impl_compareTerms_V k) :=
  contract (C := slices_insertionSortCmpFunc_Term_impl_compareTerms_C k) (F := slices_insertionSortCmpFunc_Term_impl_compareTerms_F k) (fn := Tryz.f300) (ps := slices_insertionSortCmpFunc_Term_impl_compareTerms_ps) (rs := []) (nx := 64) ⟨tyOf_ok tys_ok, gOf_ok ⟨impl_compareTerms_K k, trivial⟩⟩ rfl (by kernel_rfl) (by kernel_rfl) (by kernel_rfl) (by kernel_rfl) (by kernel_rfl) (by kernel_rfl) rfl (by kernel_rfl) (by kernel_rfl) (AnnOk_list [(6, loopB (codeOf Tryz.f300) 6), (402, loopB (codeOf Tryz.f300) 402)] slices_insertionSortCmpFunc_Term_impl_compareTerms_ls ⟨slices_insertionSortCmpFunc_Term_impl_compareTerms_l6 k, slices_insertionSortCmpFunc_Term_impl_compareTerms_l402 k, trivial⟩) mix_ok (slices_insertionSortCmpFunc_Term_impl_compareTerms_eq k)

noncomputable def slices_stableCmpFunc_Term_impl_compareTerms_V (k : Nat) : Variant := ⟨[.own ty_3, .val ty_0 false, .fn 261 []], [], fun x => slices_stableCmpFunc_Term_impl_compareTerms k x.1 x.2.1 x.2.2.1⟩
noncomputable def slices_stableCmpFunc_Term_impl_compareTerms_C (k : Nat) : Cfg := ⟨Tryz.prog, tyOf tys, 63, gOf [(300, [261], slices_insertionSortCmpFunc_Term_impl_compareTerms_V k)], false, [], []⟩
def slices_stableCmpFunc_Term_impl_compareTerms_i28 : List PE := [⟨0, 0, .own ty_3, true⟩, ⟨1, 48, .val ty_0 false, false⟩, ⟨2, 64, .fn 261 [], false⟩, ⟨6, 80, .val ty_0 false, false⟩, ⟨7, 96, .val ty_0 false, false⟩, ⟨8, 112, .val ty_0 false, false⟩]
def slices_stableCmpFunc_Term_impl_compareTerms_o28 : List PE := [⟨0, 0, .own ty_3, true⟩, ⟨1, 48, .val ty_0 false, false⟩, ⟨2, 64, .fn 261 [], false⟩, ⟨6, 80, .val ty_0 false, false⟩, ⟨7, 96, .val ty_0 false, false⟩]
noncomputable def slices_stableCmpFunc_Term_impl_compareTerms_f28 (k : Nat) (n : Nat) (x2 : PTe slices_stableCmpFunc_Term_impl_compareTerms_i28) : Option ((List (Int × Int × Int × Int)) ⊕ PTe slices_stableCmpFunc_Term_impl_compareTerms_o28) := slices_stableCmpFunc_Term_impl_compareTerms_L28 k n x2.1 x2.2.1 x2.2.2.1 x2.2.2.2.1 x2.2.2.2.2.1 x2.2.2.2.2.2.1
def slices_stableCmpFunc_Term_impl_compareTerms_i3988 : List PE := [⟨0, 0, .own ty_3, true⟩, ⟨1, 48, .val ty_0 false, false⟩, ⟨2, 64, .fn 261 [], false⟩, ⟨6, 80, .val ty_0 false, false⟩, ⟨7, 96, .val ty_0 false, false⟩, ⟨8, 112, .val ty_0 false, false⟩]
def slices_stableCmpFunc_Term_impl_compareTerms_o3988 : List PE := [⟨0, 0, .own ty_3, true⟩, ⟨1, 48, .val ty_0 false, false⟩, ⟨2, 64, .fn 261 [], false⟩, ⟨6, 80, .val ty_0 false, false⟩, ⟨7, 96, .val ty_0 false, false⟩]
noncomputable def slices_stableCmpFunc_Term_impl_compareTerms_f3988 (k : Nat) (n : Nat) (x6 : PTe slices_stableCmpFunc_Term_impl_compareTerms_i3988) : Option ((List (Int × Int × Int × Int)) ⊕ PTe slices_stableCmpFunc_Term_impl_compareTerms_o3988) := slices_stableCmpFunc_Term_impl_compareTerms_L3988 k n x6.1 x6.2.1 x6.2.2.1 x6.2.2.2.1 x6.2.2.2.2.1 x6.2.2.2.2.2.1
def slices_stableCmpFunc_Term_impl_compareTerms_i62 : List PE := [⟨0, 0, .own ty_3, true⟩, ⟨1, 48, .val ty_0 false, false⟩, ⟨2, 64, .fn 261 [], false⟩, ⟨6, 80, .val ty_0 false, false⟩]
def slices_stableCmpFunc_Term_impl_compareTerms_o62 : List PE := [⟨0, 0, .own ty_3, true⟩]
noncomputable def slices_stableCmpFunc_Term_impl_compareTerms_f62 (k : Nat) (n : Nat) (x9 : PTe slices_stableCmpFunc_Term_impl_compareTerms_i62) : Option ((List (Int × Int × Int × Int)) ⊕ PTe slices_stableCmpFunc_Term_impl_compareTerms_o62) := slices_stableCmpFunc_Term_impl_compareTerms_L62 k n x9.1 x9.2.1 x9.2.2.1 x9.2.2.2.1
def slices_stableCmpFunc_Term_impl_compareTerms_ps : List PE := [⟨0, 0, .own ty_3, true⟩, ⟨1, 16, .val ty_0 false, false⟩, ⟨2, 32, .fn 261 [], false⟩]
noncomputable def slices_stableCmpFunc_Term_impl_compareTerms_F (k : Nat) : Fn (List (Int × Int × Int × Int)) := ⟨slices_stableCmpFunc_Term_impl_compareTerms_C k, rdRes Tryz.prog slices_stableCmpFunc_Term_impl_compareTerms_ps [] Tryz.f298.results.toList .ret, fun p => bif Nat.beq p 28 then some (.loop slices_stableCmpFunc_Term_impl_compareTerms_i28 slices_stableCmpFunc_Term_impl_compareTerms_o28 0 128 (slices_stableCmpFunc_Term_impl_compareTerms_f28 k k)) else bif Nat.beq p 3988 then some (.loop slices_stableCmpFunc_Term_impl_compareTerms_i3988 slices_stableCmpFunc_Term_impl_compareTerms_o3988 4 128 (slices_stableCmpFunc_Term_impl_compareTerms_f3988 k k)) else bif Nat.beq p 62 then some (.loop slices_stableCmpFunc_Term_impl_compareTerms_i62 slices_stableCmpFunc_Term_impl_compareTerms_o62 2 96 (slices_stableCmpFunc_Term_impl_compareTerms_f62 k k)) else none, 0, [0]⟩
theorem slices_stableCmpFunc_Term_impl_compareTerms_eq (k : Nat) (x : PTe slices_stableCmpFunc_Term_impl_compareTerms_ps) : evFn (slices_stableCmpFunc_Term_impl_compareTerms_F k) (codeOf Tryz.f298) slices_stableCmpFunc_Term_impl_compareTerms_ps 48 x = slices_stableCmpFunc_Term_impl_compareTerms k x.1 x.2.1 x.2.2.1 := by kernel_rfl
theorem slices_stableCmpFunc_Term_impl_compareTerms_ls : loopsOf (codeOf Tryz.f298) 1 = [(28, loopB (codeOf Tryz.f298) 28), (62, loopB (codeOf Tryz.f298) 62), (3988, loopB (codeOf Tryz.f298) 3988)] := by kernel_rfl
theorem slices_stableCmpFunc_Term_impl_compareTerms_l28 (k : Nat) : LoopOk (slices_stableCmpFunc_Term_impl_compareTerms_F k) (loopB (codeOf Tryz.f298) 28) 28 := LoopOk.mk (pin := slices_stableCmpFunc_Term_impl_compareTerms_i28) (pout := slices_stableCmpFunc_Term_impl_compareTerms_o28) (ex := 0) (nx := 128) (Lf := slices_stableCmpFunc_Term_impl_compareTerms_f28 k) (k := k) (by kernel_rfl) (fun _ => rfl) (by intro n x; kernel_rfl)
theorem slices_stableCmpFunc_Term_impl_compareTerms_l3988 (k : Nat) : LoopOk (slices_stableCmpFunc_Term_impl_compareTerms_F k) (loopB (codeOf Tryz.f298) 3988) 3988 := LoopOk.mk (pin := slices_stableCmpFunc_Term_impl_compareTerms_i3988) (pout := slices_stableCmpFunc_Term_impl_compareTerms_o3988) (ex := 4) (nx := 128) (Lf := slices_stableCmpFunc_Term_impl_compareTerms_f3988 k) (k := k) (by kernel_rfl) (fun _ => rfl) (by intro n x; kernel_rfl)
theorem slices_stableCmpFunc_Term_impl_compareTerms_l62 (k : Nat) : LoopOk (slices_stableCmpFunc_Term_impl_compareTerms_F k) (loopB (codeOf Tryz.f298) 62) 62 := LoopOk.mk (pin := slices_stableCmpFunc_Term_impl_compareTerms_i62) (pout := slices_stableCmpFunc_Term_impl_compareTerms_o62) (ex := 2) (nx := 96) (Lf := slices_stableCmpFunc_Term_impl_compareTerms_f62 k) (k := k) (by kernel_rfl) (fun _ => rfl) (by intro n x; kernel_rfl)
theorem slices_stableCmpFunc_Term_impl_compareTerms_K (k : Nat) : Contract Tryz.prog 298 (slices_stableCmpFunc_Term_impl_compareTerms_V k) :=
  contract (C := slices_stableCmpFunc_Term_impl_compareTerms_C k) (F := slices_stableCmpFunc_Term_impl_compareTerms_F k) (fn := Tryz.f298) (ps := slices_stableCmpFunc_Term_impl_compareTerms_ps) (rs := []) (nx := 48) ⟨tyOf_ok tys_ok, gOf_ok ⟨slices_insertionSortCmpFunc_Term_impl_compareTerms_K k, trivial⟩⟩ rfl (by kernel_rfl) (by kernel_rfl) (by kernel_rfl) (by kernel_rfl) (by kernel_rfl) (by kernel_rfl) rfl (by kernel_rfl) (by kernel_rfl) (AnnOk_list [(28, loopB (codeOf Tryz.f298) 28), (62, loopB (codeOf Tryz.f298) 62), (3988, loopB (codeOf Tryz.f298) 3988)] slices_stableCmpFunc_Term_impl_compareTerms_ls ⟨slices_stableCmpFunc_Term_impl_compareTerms_l28 k, slices_stableCmpFunc_Term_impl_compareTerms_l62 k, slices_stableCmpFunc_Term_impl_compareTerms_l3988 k, trivial⟩) mix_ok (slices_stableCmpFunc_Term_impl_compareTerms_eq k)

noncomputable def slices_SortStableFunc_Term_Term_impl_compareTerms_V (k : Nat) : Variant := ⟨[.own ty_3, .fn 261 []], [], fun x => slices_SortStableFunc_Term_Term_impl_compareTerms k x.1 x.2.1⟩
noncomputable def slices_SortStableFunc_Term_Term_impl_compareTerms_C (k : Nat) : Cfg := ⟨Tryz.prog, tyOf tys, 9, gOf [(298, [261], slices_stableCmpFunc_Term_impl_compareTerms_V k)], false, [], []⟩
def slices_SortStableFunc_Term_Term_impl_compareTerms_ps : List PE := [⟨0, 0, .own ty_3, true⟩, ⟨1, 16, .fn 261 [], false⟩]
noncomputable def slices_SortStableFunc_Term_Term_impl_compareTerms_F (k : Nat) : Fn (List (Int × Int × Int × Int)) := ⟨slices_SortStableFunc_Term_Term_impl_compareTerms_C k, rdRes Tryz.prog slices_SortStableFunc_Term_Term_impl_compareTerms_ps [] Tryz.f290.results.toList .ret, fun p => none, 0, [0]⟩
theorem slices_SortStableFunc_Term_Term_impl_compareTerms_eq (k : Nat) (x : PTe slices_SortStableFunc_Term_Term_impl_compareTerms_ps) : evFn (slices_SortStableFunc_Term_Term_impl_compareTerms_F k) (codeOf Tryz.f290) slices_SortStableFunc_Term_Term_impl_compareTerms_ps 32 x = slices_SortStableFunc_Term_Term_impl_compareTerms k x.1 x.2.1 := by kernel_rfl
theorem slices_SortStableFunc_Term_Term_impl_compareTerms_K (k : Nat) : Contract Tryz.prog 290 (slices_SortStableFunc_Term_Term_impl_compareTerms_V k) :=
  contract (C := slices_SortStableFunc_Term_Term_impl_compareTerms_C k) (F := slices_SortStableFunc_Term_Term_impl_compareTerms_F k) (fn := Tryz.f290) (ps := slices_SortStableFunc_Term_Term_impl_compareTerms_ps) (rs := []) (nx := 32) ⟨tyOf_ok tys_ok, gOf_ok ⟨slices_stableCmpFunc_Term_impl_compareTerms_K k, trivial⟩⟩ rfl (by kernel_rfl) (by kernel_rfl) (by kernel_rfl) (by kernel_rfl) (by kernel_rfl) (by kernel_rfl) rfl (by kernel_rfl) (by kernel_rfl) (AnnOk_list [] (by kernel_rfl) trivial) mix_ok (slices_SortStableFunc_Term_Term_impl_compareTerms_eq k)

noncomputable def impl_collect_1_V : Variant := ⟨[.val ty_3 true], [(.bool, false)], fun x => impl_collect_1 x.1⟩
noncomputable def impl_collect_1_C : Cfg := ⟨Tryz.prog, tyOf tys, 6, gOf [], false, [], []⟩
def impl_collect_1_ps : List PE := [⟨0, 0, .val ty_3 true, false⟩]
noncomputable def impl_collect_1_F : Fn (Bool) := ⟨impl_collect_1_C, rdRes Tryz.prog impl_collect_1_ps [(.bool, false)] Tryz.f292.results.toList .ret, fun p => none, 0, []⟩
theorem impl_collect_1_eq (x : PTe impl_collect_1_ps) : evFn (impl_collect_1_F) (codeOf Tryz.f292) impl_collect_1_ps 16 x = impl_collect_1 x.1 := by kernel_rfl
theorem impl_collect_1_K : Contract Tryz.prog 292 (impl_collect_1_V) :=
  contract (C := impl_collect_1_C) (F := impl_collect_1_F) (fn := Tryz.f292) (ps := impl_collect_1_ps) (rs := [(.bool, false)]) (nx := 16) ⟨tyOf_ok tys_ok, gOf_ok trivial⟩ rfl (by kernel_rfl) (by kernel_rfl) (by kernel_rfl) (by kernel_rfl) (by kernel_rfl) (by kernel_rfl) rfl (by kernel_rfl) (by kernel_rfl) (AnnOk_list [] (by kernel_rfl) trivial) mix_ok (impl_collect_1_eq)

noncomputable def slices_IndexFunc_Term_Term_impl_collect_1_V (k : Nat) : Variant := ⟨[.val ty_4 false, .fn 292 []], [(ty_0, false)], fun x => slices_IndexFunc_Term_Term_impl_collect_1 k x.1 x.2.1⟩
noncomputable def slices_IndexFunc_Term_Term_impl_collect_1_C (k : Nat) : Cfg := ⟨Tryz.prog, tyOf tys, 19, gOf [(292, [], impl_collect_1_V)], false, [], []⟩
def slices_IndexFunc_Term_Term_impl_collect_1_i26 : List PE := [⟨0, 32, .val ty_4 false, false⟩, ⟨1, 48, .fn 292 [], false⟩, ⟨7, 64, .val ty_0 false, false⟩, ⟨8, 80, .val ty_0 false, false⟩]
def slices_IndexFunc_Term_Term_impl_collect_1_o26 : List PE := []
noncomputable def slices_IndexFunc_Term_Term_impl_collect_1_f26 (k : Nat) (n : Nat) (x2 : PTe slices_IndexFunc_Term_Term_impl_collect_1_i26) : Option ((Int) ⊕ PTe slices_IndexFunc_Term_Term_impl_collect_1_o26) := slices_IndexFunc_Term_Term_impl_collect_1_L26 k n x2.1 x2.2.1 x2.2.2.1 x2.2.2.2.1
def slices_IndexFunc_Term_Term_impl_collect_1_ps : List PE := [⟨0, 0, .val ty_4 false, false⟩, ⟨1, 16, .fn 292 [], false⟩]
noncomputable def slices_IndexFunc_Term_Term_impl_collect_1_F (k : Nat) : Fn (Int) := ⟨slices_IndexFunc_Term_Term_impl_collect_1_C k, rdRes Tryz.prog slices_IndexFunc_Term_Term_impl_collect_1_ps [(ty_0, false)] Tryz.f299.results.toList .ret, fun p => bif Nat.beq p 26 then some (.loop slices_IndexFunc_Term_Term_impl_collect_1_i26 slices_IndexFunc_Term_Term_impl_collect_1_o26 0 96 (slices_IndexFunc_Term_Term_impl_collect_1_f26 k k)) else none, 0, []⟩
theorem slices_IndexFunc_Term_Term_impl_collect_1_eq (k : Nat) (x : PTe slices_IndexFunc_Term_Term_impl_collect_1_ps) : evFn (slices_IndexFunc_Term_Term_impl_collect_1_F k) (codeOf Tryz.f299) slices_IndexFunc_Term_Term_impl_collect_1_ps 32 x = slices_IndexFunc_Term_Term_impl_collect_1 k x.1 x.2.1 := by kernel_rfl
theorem slices_IndexFunc_Term_Term_impl_collect_1_ls : loopsOf (codeOf Tryz.f299) 1 = [(26, loopB (codeOf Tryz.f299) 26)] := by kernel_rfl
theorem slices_IndexFunc_Term_Term_impl_collect_1_l26 (k : Nat) : LoopOk (slices_IndexFunc_Term_Term_impl_collect_1_F k) (loopB (codeOf Tryz.f299) 26) 26 := LoopOk.mk (pin := slices_IndexFunc_Term_Term_impl_collect_1_i26) (pout := slices_IndexFunc_Term_Term_impl_collect_1_o26) (ex := 0) (nx := 96) (Lf := slices_IndexFunc_Term_Term_impl_collect_1_f26 k) (k := k) (by kernel_rfl) (fun _ => rfl) (by intro n x; kernel_rfl)
theorem slices_IndexFunc_Term_Term_impl_collect_1_K (k : Nat) : Contract Tryz.prog 299 (slices_IndexFunc_Term_Term_impl_collect_1_V k) :=
  contract (C := slices_IndexFunc_Term_Term_impl_collect_1_C k) (F := slices_IndexFunc_Term_Term_impl_collect_1_F k) (fn := Tryz.f299) (ps := slices_IndexFunc_Term_Term_impl_collect_1_ps) (rs := [(ty_0, false)]) (nx := 32) ⟨tyOf_ok tys_ok, gOf_ok ⟨impl_collect_1_K, trivial⟩⟩ rfl (by kernel_rfl) (by kernel_rfl) (by kernel_rfl) (by kernel_rfl) (by kernel_rfl) (by kernel_rfl) rfl (by kernel_rfl) (by kernel_rfl) (AnnOk_list [(26, loopB (codeOf Tryz.f299) 26)] slices_IndexFunc_Term_Term_impl_collect_1_ls ⟨slices_IndexFunc_Term_Term_impl_collect_1_l26 k, trivial⟩) mix_ok (slices_IndexFunc_Term_Term_impl_collect_1_eq k)

noncomputable def slices_DeleteFunc_Term_Term_impl_collect_1_V (k : Nat) : Variant := ⟨[.eat ty_3, .fn 292 []], [(ty_4, false)], fun x => slices_DeleteFunc_Term_Term_impl_collect_1 k x.1 x.2.1⟩
noncomputable def slices_DeleteFunc_Term_Term_impl_collect_1_C (k : Nat) : Cfg := ⟨Tryz.prog, tyOf tys, 42, gOf [(299, [292], slices_IndexFunc_Term_Term_impl_collect_1_V k), (292, [], impl_collect_1_V)], true, [], []⟩
def slices_DeleteFunc_Term_Term_impl_collect_1_i122 : List PE := [⟨0, 32, .eat ty_3, false⟩, ⟨1, 48, .fn 292 [], false⟩, ⟨5, 64, .val ty_0 false, false⟩, ⟨6, 80, .val ty_0 false, false⟩]
def slices_DeleteFunc_Term_Term_impl_collect_1_o122 : List PE := [⟨0, 32, .eat ty_3, false⟩, ⟨5, 48, .val ty_0 false, false⟩]
noncomputable def slices_DeleteFunc_Term_Term_impl_collect_1_f122 (k : Nat) (n : Nat) (x3 : PTe slices_DeleteFunc_Term_Term_impl_collect_1_i122) : Option ((List (Int × Int × Int × Int)) ⊕ PTe slices_DeleteFunc_Term_Term_impl_collect_1_o122) := slices_DeleteFunc_Term_Term_impl_collect_1_L122 k n x3.1 x3.2.1 x3.2.2.1 x3.2.2.2.1
def slices_DeleteFunc_Term_Term_impl_collect_1_ps : List PE := [⟨0, 0, .eat ty_3, false⟩, ⟨1, 16, .fn 292 [], false⟩]
noncomputable def slices_DeleteFunc_Term_Term_impl_collect_1_F (k : Nat) : Fn (List (Int × Int × Int × Int)) := ⟨slices_DeleteFunc_Term_Term_impl_collect_1_C k, rdRes Tryz.prog slices_DeleteFunc_Term_Term_impl_collect_1_ps [(ty_4, false)] Tryz.f291.results.toList .ret, fun p => bif Nat.beq p 122 then some (.loop slices_DeleteFunc_Term_Term_impl_collect_1_i122 slices_DeleteFunc_Term_Term_impl_collect_1_o122 0 96 (slices_DeleteFunc_Term_Term_impl_collect_1_f122 k k)) else none, 0, []⟩
theorem slices_DeleteFunc_Term_Term_impl_collect_1_eq (k : Nat) (x : PTe slices_DeleteFunc_Term_Term_impl_collect_1_ps) : evFn (slices_DeleteFunc_Term_Term_impl_collect_1_F k) (codeOf Tryz.f291) slices_DeleteFunc_Term_Term_impl_collect_1_ps 32 x = slices_DeleteFunc_Term_Term_impl_collect_1 k x.1 x.2.1 := by kernel_rfl
theorem slices_DeleteFunc_Term_Term_impl_collect_1_ls : loopsOf (codeOf Tryz.f291) 1 = [(122, loopB (codeOf Tryz.f291) 122)] := by kernel_rfl
theorem slices_DeleteFunc_Term_Term_impl_collect_1_l122 (k : Nat) : LoopOk (slices_DeleteFunc_Term_Term_impl_collect_1_F k) (loopB (codeOf Tryz.f291) 122) 122 := LoopOk.mk (pin := slices_DeleteFunc_Term_Term_impl_collect_1_i122) (pout := slices_DeleteFunc_Term_Term_impl_collect_1_o122) (ex := 0) (nx := 96) (Lf := slices_DeleteFunc_Term_Term_impl_collect_1_f122 k) (k := k) (by kernel_rfl) (fun _ => rfl) (by intro n x; kernel_rfl)
theorem slices_DeleteFunc_Term_Term_impl_collect_1_K (k : Nat) : Contract Tryz.prog 291 (slices_DeleteFunc_Term_Term_impl_collect_1_V k) :=
  contract (C := slices_DeleteFunc_Term_Term_impl_collect_1_C k) (F := slices_DeleteFunc_Term_Term_impl_collect_1_F k) (fn := Tryz.f291) (ps := slices_DeleteFunc_Term_Term_impl_collect_1_ps) (rs := [(ty_4, false)]) (nx := 32) ⟨tyOf_ok tys_ok, gOf_ok ⟨slices_IndexFunc_Term_Term_impl_collect_1_K k, impl_collect_1_K, trivial⟩⟩ rfl (by kernel_rfl) (by kernel_rfl) (by kernel_rfl) (by kernel_rfl) (by kernel_rfl) (by kernel_rfl) rfl (by kernel_rfl) (by kernel_rfl) (AnnOk_list [(122, loopB (codeOf Tryz.f291) 122)] slices_DeleteFunc_Term_Term_impl_collect_1_ls ⟨slices_DeleteFunc_Term_Term_impl_collect_1_l122 k, trivial⟩) mix_ok (slices_DeleteFunc_Term_Term_impl_collect_1_eq k)

noncomputable def impl_collect_V (k : Nat) : Variant := ⟨[.val ty_4 false], [(ty_4, false)], fun x => impl_collect k x.1⟩
noncomputable def impl_collect_C (k : Nat) : Cfg := ⟨Tryz.prog, tyOf tys, 50, gOf [(289, [], slices_Clone_Term_Term_V), (290, [261], slices_SortStableFunc_Term_Term_impl_compareTerms_V k), (261, [], impl_compareTerms_V k), (291, [292], slices_DeleteFunc_Term_Term_impl_collect_1_V k)], false, [], []⟩
def impl_collect_i250 : List PE := [⟨4, 16, .eat ty_3, false⟩, ⟨12, 32, .eat ty_3, false⟩, ⟨13, 48, .val ty_0 false, false⟩, ⟨14, 64, .val ty_0 false, false⟩]
def impl_collect_o250 : List PE := [⟨4, 16, .eat ty_3, false⟩]
noncomputable def impl_collect_f250 (k : Nat) (n : Nat) (x4 : PTe impl_collect_i250) : Option ((List (Int × Int × Int × Int)) ⊕ PTe impl_collect_o250) := impl_collect_L250 k n x4.1 x4.2.1 x4.2.2.1 x4.2.2.2.1
def impl_collect_ps : List PE := [⟨0, 0, .val ty_4 false, false⟩]
noncomputable def impl_collect_F (k : Nat) : Fn (List (Int × Int × Int × Int)) := ⟨impl_collect_C k, rdRes Tryz.prog impl_collect_ps [(ty_4, false)] Tryz.f276.results.toList .ret, fun p => bif Nat.beq p 250 then some (.loop impl_collect_i250 impl_collect_o250 0 80 (impl_collect_f250 k k)) else none, 0, []⟩
theorem impl_collect_eq (k : Nat) (x : PTe impl_collect_ps) : evFn (impl_collect_F k) (codeOf Tryz.f276) impl_collect_ps 16 x = impl_collect k x.1 := by kernel_rfl
theorem impl_collect_ls : loopsOf (codeOf Tryz.f276) 1 = [(250, loopB (codeOf Tryz.f276) 250)] := by kernel_rfl
theorem impl_collect_l250 (k : Nat) : LoopOk (impl_collect_F k) (loopB (codeOf Tryz.f276) 250) 250 := LoopOk.mk (pin := impl_collect_i250) (pout := impl_collect_o250) (ex := 0) (nx := 80) (Lf := impl_collect_f250 k) (k := k) (by kernel_rfl) (fun _ => rfl) (by intro n x; kernel_rfl)
theorem impl_collect_K (k : Nat) : Contract Tryz.prog 276 (impl_collect_V k) :=
  contract (C := impl_collect_C k) (F := impl_collect_F k) (fn := Tryz.f276) (ps := impl_collect_ps) (rs := [(ty_4, false)]) (nx := 16) ⟨tyOf_ok tys_ok, gOf_ok ⟨slices_Clone_Term_Term_K, slices_SortStableFunc_Term_Term_impl_compareTerms_K k, impl_compareTerms_K k, slices_DeleteFunc_Term_Term_impl_collect_1_K k, trivial⟩⟩ rfl (by kernel_rfl) (by kernel_rfl) (by kernel_rfl) (by kernel_rfl) (by kernel_rfl) (by kernel_rfl) rfl (by kernel_rfl) (by kernel_rfl) (AnnOk_list [(250, loopB (codeOf Tryz.f276) 250)] impl_collect_ls ⟨impl_collect_l250 k, trivial⟩) mix_ok (impl_collect_eq k)

noncomputable def impl_derive_V (k : Nat) : Variant := ⟨[.val ty_4 false, .val ty_0 false], [(ty_4, false)], fun x => impl_derive k x.1 x.2.1⟩
noncomputable def impl_derive_C (k : Nat) : Cfg := ⟨Tryz.prog, tyOf tys, 40, gOf [(262, [], impl_Term_exponents_V), (275, [], impl_termOf_V), (276, [], impl_collect_V k)], false, [], []⟩
def impl_derive_i58 : List PE := [⟨1, 32, .val ty_0 false, false⟩, ⟨5, 48, .eat ty_3, false⟩, ⟨10, 64, .val ty_4 false, false⟩, ⟨11, 80, .val ty_0 false, false⟩, ⟨12, 96, .val ty_0 false, false⟩]
def impl_derive_o58 : List PE := [⟨5, 32, .eat ty_3, false⟩]
noncomputable def impl_derive_f58 (k : Nat) (n : Nat) (x29 : PTe impl_derive_i58) : Option ((List (Int × Int × Int × Int)) ⊕ PTe impl_derive_o58) := impl_derive_L58 k n x29.1 x29.2.1 x29.2.2.1 x29.2.2.2.1 x29.2.2.2.2.1
def impl_derive_ps : List PE := [⟨0, 0, .val ty_4 false, false⟩, ⟨1, 16, .val ty_0 false, false⟩]
noncomputable def impl_derive_F (k : Nat) : Fn (List (Int × Int × Int × Int)) := ⟨impl_derive_C k, rdRes Tryz.prog impl_derive_ps [(ty_4, false)] Tryz.f239.results.toList .ret, fun p => bif Nat.beq p 58 then some (.loop impl_derive_i58 impl_derive_o58 0 112 (impl_derive_f58 k k)) else none, 0, []⟩
theorem impl_derive_eq (k : Nat) (x : PTe impl_derive_ps) : evFn (impl_derive_F k) (codeOf Tryz.f239) impl_derive_ps 32 x = impl_derive k x.1 x.2.1 := by kernel_rfl
theorem impl_derive_ls : loopsOf (codeOf Tryz.f239) 1 = [(58, loopB (codeOf Tryz.f239) 58)] := by kernel_rfl
theorem impl_derive_l58 (k : Nat) : LoopOk (impl_derive_F k) (loopB (codeOf Tryz.f239) 58) 58 := LoopOk.mk (pin := impl_derive_i58) (pout := impl_derive_o58) (ex := 0) (nx := 112) (Lf := impl_derive_f58 k) (k := k) (by kernel_rfl) (fun _ => rfl) (by intro n x; kernel_rfl)
theorem impl_derive_K (k : Nat) : Contract Tryz.prog 239 (impl_derive_V k) :=
  contract (C := impl_derive_C k) (F := impl_derive_F k) (fn := Tryz.f239) (ps := impl_derive_ps) (rs := [(ty_4, false)]) (nx := 32) ⟨tyOf_ok tys_ok, gOf_ok ⟨impl_Term_exponents_K, impl_termOf_K, impl_collect_K k, trivial⟩⟩ rfl (by kernel_rfl) (by kernel_rfl) (by kernel_rfl) (by kernel_rfl) (by kernel_rfl) (by kernel_rfl) rfl (by kernel_rfl) (by kernel_rfl) (AnnOk_list [(58, loopB (codeOf Tryz.f239) 58)] impl_derive_ls ⟨impl_derive_l58 k, trivial⟩) mix_ok (impl_derive_eq k)

noncomputable def impl_size_V : Variant := ⟨[.val ty_0 false], [(ty_15, false)], fun x => impl_size x.1⟩
noncomputable def impl_size_C : Cfg := ⟨Tryz.prog, tyOf tys, 10, gOf [], false, [], []⟩
def impl_size_ps : List PE := [⟨0, 0, .val ty_0 false, false⟩]
noncomputable def impl_size_F : Fn (Int) := ⟨impl_size_C, rdRes Tryz.prog impl_size_ps [(ty_15, false)] Tryz.f241.results.toList .ret, fun p => none, 0, []⟩
theorem impl_size_eq (x : PTe impl_size_ps) : evFn (impl_size_F) (codeOf Tryz.f241) impl_size_ps 16 x = impl_size x.1 := by kernel_rfl
theorem impl_size_K : Contract Tryz.prog 241 (impl_size_V) :=
  contract (C := impl_size_C) (F := impl_size_F) (fn := Tryz.f241) (ps := impl_size_ps) (rs := [(ty_15, false)]) (nx := 16) ⟨tyOf_ok tys_ok, gOf_ok trivial⟩ rfl (by kernel_rfl) (by kernel_rfl) (by kernel_rfl) (by kernel_rfl) (by kernel_rfl) (by kernel_rfl) rfl (by kernel_rfl) (by kernel_rfl) (AnnOk_list [] (by kernel_rfl) trivial) mix_ok (impl_size_eq)

noncomputable def impl_wideOf_V : Variant := ⟨[.val ty_0 false], [(ty_17, true)], fun x => impl_wideOf x.1⟩
noncomputable def impl_wideOf_C : Cfg := ⟨Tryz.prog, tyOf tys, 8, gOf [(241, [], impl_size_V)], false, [], []⟩
def impl_wideOf_ps : List PE := [⟨0, 0, .val ty_0 false, false⟩]
noncomputable def impl_wideOf_F : Fn (Bool × Int × Int) := ⟨impl_wideOf_C, rdRes Tryz.prog impl_wideOf_ps [(ty_17, true)] Tryz.f187.results.toList .ret, fun p => none, 0, []⟩
theorem impl_wideOf_eq (x : PTe impl_wideOf_ps) : evFn (impl_wideOf_F) (codeOf Tryz.f187) impl_wideOf_ps 16 x = impl_wideOf x.1 := by kernel_rfl
theorem impl_wideOf_K : Contract Tryz.prog 187 (impl_wideOf_V) :=
  contract (C := impl_wideOf_C) (F := impl_wideOf_F) (fn := Tryz.f187) (ps := impl_wideOf_ps) (rs := [(ty_17, true)]) (nx := 16) ⟨tyOf_ok tys_ok, gOf_ok ⟨impl_size_K, trivial⟩⟩ rfl (by kernel_rfl) (by kernel_rfl) (by kernel_rfl) (by kernel_rfl) (by kernel_rfl) (by kernel_rfl) rfl (by kernel_rfl) (by kernel_rfl) (AnnOk_list [] (by kernel_rfl) trivial) mix_ok (impl_wideOf_eq)

noncomputable def impl_wide_isZero_V : Variant := ⟨[.val ty_17 true], [(.bool, false)], fun x => impl_wide_isZero x.1⟩
noncomputable def impl_wide_isZero_C : Cfg := ⟨Tryz.prog, tyOf tys, 11, gOf [], false, [], []⟩
def impl_wide_isZero_ps : List PE := [⟨0, 0, .val ty_17 true, false⟩]
noncomputable def impl_wide_isZero_F : Fn (Bool) := ⟨impl_wide_isZero_C, rdRes Tryz.prog impl_wide_isZero_ps [(.bool, false)] Tryz.f245.results.toList .ret, fun p => none, 0, []⟩
theorem impl_wide_isZero_eq (x : PTe impl_wide_isZero_ps) : evFn (impl_wide_isZero_F) (codeOf Tryz.f245) impl_wide_isZero_ps 16 x = impl_wide_isZero x.1 := by kernel_rfl
theorem impl_wide_isZero_K : Contract Tryz.prog 245 (impl_wide_isZero_V) :=
  contract (C := impl_wide_isZero_C) (F := impl_wide_isZero_F) (fn := Tryz.f245) (ps := impl_wide_isZero_ps) (rs := [(.bool, false)]) (nx := 16) ⟨tyOf_ok tys_ok, gOf_ok trivial⟩ rfl (by kernel_rfl) (by kernel_rfl) (by kernel_rfl) (by kernel_rfl) (by kernel_rfl) (by kernel_rfl) rfl (by kernel_rfl) (by kernel_rfl) (AnnOk_list [] (by kernel_rfl) trivial) mix_ok (impl_wide_isZero_eq)

noncomputable def impl_wide_shift_V : Variant := ⟨[.val ty_17 true, .val ty_0 false], [(ty_17, true)], fun x => impl_wide_shift x.1 x.2.1⟩
noncomputable def impl_wide_shift_C : Cfg := ⟨Tryz.prog, tyOf tys, 63, gOf [], false, [], []⟩
def impl_wide_shift_ps : List PE := [⟨0, 0, .val ty_17 true, false⟩, ⟨1, 16, .val ty_0 false, false⟩]
noncomputable def impl_wide_shift_F : Fn (Bool × Int × Int) := ⟨impl_wide_shift_C, rdRes Tryz.prog impl_wide_shift_ps [(ty_17, true)] Tryz.f188.results.toList .ret, fun p => none, 0, []⟩
theorem impl_wide_shift_eq (x : PTe impl_wide_shift_ps) : evFn (impl_wide_shift_F) (codeOf Tryz.f188) impl_wide_shift_ps 32 x = impl_wide_shift x.1 x.2.1 := by kernel_rfl
theorem impl_wide_shift_K : Contract Tryz.prog 188 (impl_wide_shift_V) :=
  contract (C := impl_wide_shift_C) (F := impl_wide_shift_F) (fn := Tryz.f188) (ps := impl_wide_shift_ps) (rs := [(ty_17, true)]) (nx := 32) ⟨tyOf_ok tys_ok, gOf_ok trivial⟩ rfl (by kernel_rfl) (by kernel_rfl) (by kernel_rfl) (by kernel_rfl) (by kernel_rfl) (by kernel_rfl) rfl (by kernel_rfl) (by kernel_rfl) (AnnOk_list [] (by kernel_rfl) trivial) mix_ok (impl_wide_shift_eq)

noncomputable def impl_wide_fit_V (k : Nat) : Variant := ⟨[.val ty_17 true, .val ty_0 false], [(ty_1, true), (.bool, false)], fun x => impl_wide_fit k x.1 x.2.1⟩
noncomputable def impl_wide_fit_C (k : Nat) : Cfg := ⟨Tryz.prog, tyOf tys, 45, gOf [(245, [], impl_wide_isZero_V), (188, [], impl_wide_shift_V)], false, [], []⟩
def impl_wide_fit_i28 : List PE := [⟨1, 32, .val ty_0 false, false⟩, ⟨2, 48, .box ty_17 false, false⟩, ⟨4, 64, .box ty_1 false, false⟩]
def impl_wide_fit_o28 : List PE := [⟨1, 32, .val ty_0 false, false⟩, ⟨2, 48, .box ty_17 false, false⟩, ⟨4, 64, .box ty_1 false, false⟩]
noncomputable def impl_wide_fit_f28 (k : Nat) (n : Nat) (x3 : PTe impl_wide_fit_i28) : Option (((Int × Int) × Bool) ⊕ PTe impl_wide_fit_o28) := impl_wide_fit_L28 k n x3.1 x3.2.1 x3.2.2.1
def impl_wide_fit_ps : List PE := [⟨0, 0, .val ty_17 true, false⟩, ⟨1, 16, .val ty_0 false, false⟩]
noncomputable def impl_wide_fit_F (k : Nat) : Fn ((Int × Int) × Bool) := ⟨impl_wide_fit_C k, rdRes Tryz.prog impl_wide_fit_ps [(ty_1, true), (.bool, false)] Tryz.f190.results.toList .ret, fun p => bif Nat.beq p 28 then some (.loop impl_wide_fit_i28 impl_wide_fit_o28 0 80 (impl_wide_fit_f28 k k)) else none, 0, []⟩
theorem impl_wide_fit_eq (k : Nat) (x : PTe impl_wide_fit_ps) : evFn (impl_wide_fit_F k) (codeOf Tryz.f190) impl_wide_fit_ps 32 x = impl_wide_fit k x.1 x.2.1 := by kernel_rfl
theorem impl_wide_fit_ls : loopsOf (codeOf Tryz.f190) 1 = [(28, loopB (codeOf Tryz.f190) 28)] := by kernel_rfl
theorem impl_wide_fit_l28 (k : Nat) : LoopOk (impl_wide_fit_F k) (loopB (codeOf Tryz.f190) 28) 28 := LoopOk.mk (pin := impl_wide_fit_i28) (pout := impl_wide_fit_o28) (ex := 0) (nx := 80) (Lf := impl_wide_fit_f28 k) (k := k) (by kernel_rfl) (fun _ => rfl) (by intro n x; kernel_rfl)
theorem impl_wide_fit_K (k : Nat) : Contract Tryz.prog 190 (impl_wide_fit_V k) :=
  contract (C := impl_wide_fit_C k) (F := impl_wide_fit_F k) (fn := Tryz.f190) (ps := impl_wide_fit_ps) (rs := [(ty_1, true), (.bool, false)]) (nx := 32) ⟨tyOf_ok tys_ok, gOf_ok ⟨impl_wide_isZero_K, impl_wide_shift_K, trivial⟩⟩ rfl (by kernel_rfl) (by kernel_rfl) (by kernel_rfl) (by kernel_rfl) (by kernel_rfl) (by kernel_rfl) rfl (by kernel_rfl) (by kernel_rfl) (AnnOk_list [(28, loopB (codeOf Tryz.f190) 28)] impl_wide_fit_ls ⟨impl_wide_fit_l28 k, trivial⟩) mix_ok (impl_wide_fit_eq k)

noncomputable def impl_Box_dyadic_V (k : Nat) : Variant := ⟨[.ptr ty_9 false, .val ty_0 false], [(ty_1, true)], fun x => impl_Box_dyadic k x.1 x.2.1⟩
noncomputable def impl_Box_dyadic_C (k : Nat) : Cfg := ⟨Tryz.prog, tyOf tys, 18, gOf [(187, [], impl_wideOf_V), (190, [], impl_wide_fit_V k)], false, [], []⟩
def impl_Box_dyadic_ps : List PE := [⟨0, 0, .ptr ty_9 false, false⟩, ⟨1, 16, .val ty_0 false, false⟩]
noncomputable def impl_Box_dyadic_F (k : Nat) : Fn (Int × Int) := ⟨impl_Box_dyadic_C k, rdRes Tryz.prog impl_Box_dyadic_ps [(ty_1, true)] Tryz.f293.results.toList .ret, fun p => none, 0, []⟩
theorem impl_Box_dyadic_eq (k : Nat) (x : PTe impl_Box_dyadic_ps) : evFn (impl_Box_dyadic_F k) (codeOf Tryz.f293) impl_Box_dyadic_ps 32 x = impl_Box_dyadic k x.1 x.2.1 := by kernel_rfl
theorem impl_Box_dyadic_K (k : Nat) : Contract Tryz.prog 293 (impl_Box_dyadic_V k) :=
  contract (C := impl_Box_dyadic_C k) (F := impl_Box_dyadic_F k) (fn := Tryz.f293) (ps := impl_Box_dyadic_ps) (rs := [(ty_1, true)]) (nx := 32) ⟨tyOf_ok tys_ok, gOf_ok ⟨impl_wideOf_K, impl_wide_fit_K k, trivial⟩⟩ rfl (by kernel_rfl) (by kernel_rfl) (by kernel_rfl) (by kernel_rfl) (by kernel_rfl) (by kernel_rfl) rfl (by kernel_rfl) (by kernel_rfl) (AnnOk_list [] (by kernel_rfl) trivial) mix_ok (impl_Box_dyadic_eq k)

noncomputable def impl_Box_side_V (k : Nat) : Variant := ⟨[.ptr ty_9 false, .val ty_0 false], [(ty_1, true), (ty_1, true)], fun x => impl_Box_side k x.1 x.2.1⟩
noncomputable def impl_Box_side_C (k : Nat) : Cfg := ⟨Tryz.prog, tyOf tys, 24, gOf [(293, [], impl_Box_dyadic_V k)], false, [], []⟩
def impl_Box_side_ps : List PE := [⟨0, 0, .ptr ty_9 false, false⟩, ⟨1, 16, .val ty_0 false, false⟩]
noncomputable def impl_Box_side_F (k : Nat) : Fn ((Int × Int) × Int × Int) := ⟨impl_Box_side_C k, rdRes Tryz.prog impl_Box_side_ps [(ty_1, true), (ty_1, true)] Tryz.f277.results.toList .ret, fun p => none, 0, []⟩
theorem impl_Box_side_eq (k : Nat) (x : PTe impl_Box_side_ps) : evFn (impl_Box_side_F k) (codeOf Tryz.f277) impl_Box_side_ps 32 x = impl_Box_side k x.1 x.2.1 := by kernel_rfl
theorem impl_Box_side_K (k : Nat) : Contract Tryz.prog 277 (impl_Box_side_V k) :=
  contract (C := impl_Box_side_C k) (F := impl_Box_side_F k) (fn := Tryz.f277) (ps := impl_Box_side_ps) (rs := [(ty_1, true), (ty_1, true)]) (nx := 32) ⟨tyOf_ok tys_ok, gOf_ok ⟨impl_Box_dyadic_K k, trivial⟩⟩ rfl (by kernel_rfl) (by kernel_rfl) (by kernel_rfl) (by kernel_rfl) (by kernel_rfl) (by kernel_rfl) rfl (by kernel_rfl) (by kernel_rfl) (AnnOk_list [] (by kernel_rfl) trivial) mix_ok (impl_Box_side_eq k)

noncomputable def impl_Box_sides_V (k : Nat) : Variant := ⟨[.ptr ty_9 false], [(ty_12, false)], fun x => impl_Box_sides k x.1⟩
noncomputable def impl_Box_sides_C (k : Nat) : Cfg := ⟨Tryz.prog, tyOf tys, 29, gOf [(277, [], impl_Box_side_V k)], false, [], []⟩
def impl_Box_sides_i58 : List PE := [⟨0, 16, .ptr ty_9 false, false⟩, ⟨3, 32, .eat ty_10, false⟩, ⟨11, 48, .val ty_0 false, false⟩, ⟨12, 64, .val ty_0 false, false⟩]
def impl_Box_sides_o58 : List PE := [⟨3, 16, .eat ty_10, false⟩]
noncomputable def impl_Box_sides_f58 (k : Nat) (n : Nat) (x2 : PTe impl_Box_sides_i58) : Option ((List ((Int × Int) × Int × Int)) ⊕ PTe impl_Box_sides_o58) := impl_Box_sides_L58 k n x2.1 x2.2.1 x2.2.2.1 x2.2.2.2.1
def impl_Box_sides_ps : List PE := [⟨0, 0, .ptr ty_9 false, false⟩]
noncomputable def impl_Box_sides_F (k : Nat) : Fn (List ((Int × Int) × Int × Int)) := ⟨impl_Box_sides_C k, rdRes Tryz.prog impl_Box_sides_ps [(ty_12, false)] Tryz.f240.results.toList .ret, fun p => bif Nat.beq p 58 then some (.loop impl_Box_sides_i58 impl_Box_sides_o58 0 80 (impl_Box_sides_f58 k k)) else none, 0, []⟩
theorem impl_Box_sides_eq (k : Nat) (x : PTe impl_Box_sides_ps) : evFn (impl_Box_sides_F k) (codeOf Tryz.f240) impl_Box_sides_ps 16 x = impl_Box_sides k x.1 := by kernel_rfl
theorem impl_Box_sides_ls : loopsOf (codeOf Tryz.f240) 1 = [(58, loopB (codeOf Tryz.f240) 58)] := by kernel_rfl
theorem impl_Box_sides_l58 (k : Nat) : LoopOk (impl_Box_sides_F k) (loopB (codeOf Tryz.f240) 58) 58 := LoopOk.mk (pin := impl_Box_sides_i58) (pout := impl_Box_sides_o58) (ex := 0) (nx := 80) (Lf := impl_Box_sides_f58 k) (k := k) (by kernel_rfl) (fun _ => rfl) (by intro n x; kernel_rfl)
theorem impl_Box_sides_K (k : Nat) : Contract Tryz.prog 240 (impl_Box_sides_V k) :=
  contract (C := impl_Box_sides_C k) (F := impl_Box_sides_F k) (fn := Tryz.f240) (ps := impl_Box_sides_ps) (rs := [(ty_12, false)]) (nx := 16) ⟨tyOf_ok tys_ok, gOf_ok ⟨impl_Box_side_K k, trivial⟩⟩ rfl (by kernel_rfl) (by kernel_rfl) (by kernel_rfl) (by kernel_rfl) (by kernel_rfl) (by kernel_rfl) rfl (by kernel_rfl) (by kernel_rfl) (AnnOk_list [(58, loopB (codeOf Tryz.f240) 58)] impl_Box_sides_ls ⟨impl_Box_sides_l58 k, trivial⟩) mix_ok (impl_Box_sides_eq k)

noncomputable def impl_integer_V : Variant := ⟨[.val ty_0 false], [(ty_1, true)], fun x => impl_integer x.1⟩
noncomputable def impl_integer_C : Cfg := ⟨Tryz.prog, tyOf tys, 5, gOf [], false, [], []⟩
def impl_integer_ps : List PE := [⟨0, 0, .val ty_0 false, false⟩]
noncomputable def impl_integer_F : Fn (Int × Int) := ⟨impl_integer_C, rdRes Tryz.prog impl_integer_ps [(ty_1, true)] Tryz.f252.results.toList .ret, fun p => none, 0, []⟩
theorem impl_integer_eq (x : PTe impl_integer_ps) : evFn (impl_integer_F) (codeOf Tryz.f252) impl_integer_ps 16 x = impl_integer x.1 := by kernel_rfl
theorem impl_integer_K : Contract Tryz.prog 252 (impl_integer_V) :=
  contract (C := impl_integer_C) (F := impl_integer_F) (fn := Tryz.f252) (ps := impl_integer_ps) (rs := [(ty_1, true)]) (nx := 16) ⟨tyOf_ok tys_ok, gOf_ok trivial⟩ rfl (by kernel_rfl) (by kernel_rfl) (by kernel_rfl) (by kernel_rfl) (by kernel_rfl) (by kernel_rfl) rfl (by kernel_rfl) (by kernel_rfl) (AnnOk_list [] (by kernel_rfl) trivial) mix_ok (impl_integer_eq)

noncomputable def impl_single_V : Variant := ⟨[.val ty_1 true], [(ty_10, true)], fun x => impl_single x.1⟩
noncomputable def impl_single_C : Cfg := ⟨Tryz.prog, tyOf tys, 6, gOf [], false, [], []⟩
def impl_single_ps : List PE := [⟨0, 0, .val ty_1 true, false⟩]
noncomputable def impl_single_F : Fn ((Int × Int) × Int × Int) := ⟨impl_single_C, rdRes Tryz.prog impl_single_ps [(ty_10, true)] Tryz.f117.results.toList .ret, fun p => none, 0, []⟩
theorem impl_single_eq (x : PTe impl_single_ps) : evFn (impl_single_F) (codeOf Tryz.f117) impl_single_ps 16 x = impl_single x.1 := by kernel_rfl
theorem impl_single_K : Contract Tryz.prog 117 (impl_single_V) :=
  contract (C := impl_single_C) (F := impl_single_F) (fn := Tryz.f117) (ps := impl_single_ps) (rs := [(ty_10, true)]) (nx := 16) ⟨tyOf_ok tys_ok, gOf_ok trivial⟩ rfl (by kernel_rfl) (by kernel_rfl) (by kernel_rfl) (by kernel_rfl) (by kernel_rfl) (by kernel_rfl) rfl (by kernel_rfl) (by kernel_rfl) (AnnOk_list [] (by kernel_rfl) trivial) mix_ok (impl_single_eq)

noncomputable def math_bits_Mul64_V : Variant := ⟨[.val ty_15 false, .val ty_15 false], [(ty_15, false), (ty_15, false)], fun x => math_bits_Mul64 x.1 x.2.1⟩
noncomputable def math_bits_Mul64_C : Cfg := ⟨Tryz.prog, tyOf tys, 51, gOf [], false, [], []⟩
def math_bits_Mul64_ps : List PE := [⟨0, 0, .val ty_15 false, false⟩, ⟨1, 16, .val ty_15 false, false⟩]
noncomputable def math_bits_Mul64_F : Fn (Int × Int) := ⟨math_bits_Mul64_C, rdRes Tryz.prog math_bits_Mul64_ps [(ty_15, false), (ty_15, false)] Tryz.f288.results.toList .ret, fun p => none, 0, []⟩
theorem math_bits_Mul64_eq (x : PTe math_bits_Mul64_ps) : evFn (math_bits_Mul64_F) (codeOf Tryz.f288) math_bits_Mul64_ps 32 x = math_bits_Mul64 x.1 x.2.1 := by kernel_rfl
theorem math_bits_Mul64_K : Contract Tryz.prog 288 (math_bits_Mul64_V) :=
  contract (C := math_bits_Mul64_C) (F := math_bits_Mul64_F) (fn := Tryz.f288) (ps := math_bits_Mul64_ps) (rs := [(ty_15, false), (ty_15, false)]) (nx := 32) ⟨tyOf_ok tys_ok, gOf_ok trivial⟩ rfl (by kernel_rfl) (by kernel_rfl) (by kernel_rfl) (by kernel_rfl) (by kernel_rfl) (by kernel_rfl) rfl (by kernel_rfl) (by kernel_rfl) (AnnOk_list [] (by kernel_rfl) trivial) mix_ok (math_bits_Mul64_eq)

noncomputable def impl_timesWide_V : Variant := ⟨[.val ty_0 false, .val ty_0 false], [(ty_17, true)], fun x => impl_timesWide x.1 x.2.1⟩
noncomputable def impl_timesWide_C : Cfg := ⟨Tryz.prog, tyOf tys, 23, gOf [(241, [], impl_size_V), (288, [], math_bits_Mul64_V)], false, [], []⟩
def impl_timesWide_ps : List PE := [⟨0, 0, .val ty_0 false, false⟩, ⟨1, 16, .val ty_0 false, false⟩]
noncomputable def impl_timesWide_F : Fn (Bool × Int × Int) := ⟨impl_timesWide_C, rdRes Tryz.prog impl_timesWide_ps [(ty_17, true)] Tryz.f270.results.toList .ret, fun p => none, 0, []⟩
theorem impl_timesWide_eq (x : PTe impl_timesWide_ps) : evFn (impl_timesWide_F) (codeOf Tryz.f270) impl_timesWide_ps 32 x = impl_timesWide x.1 x.2.1 := by kernel_rfl
theorem impl_timesWide_K : Contract Tryz.prog 270 (impl_timesWide_V) :=
  contract (C := impl_timesWide_C) (F := impl_timesWide_F) (fn := Tryz.f270) (ps := impl_timesWide_ps) (rs := [(ty_17, true)]) (nx := 32) ⟨tyOf_ok tys_ok, gOf_ok ⟨impl_size_K, math_bits_Mul64_K, trivial⟩⟩ rfl (by kernel_rfl) (by kernel_rfl) (by kernel_rfl) (by kernel_rfl) (by kernel_rfl) (by kernel_rfl) rfl (by kernel_rfl) (by kernel_rfl) (AnnOk_list [] (by kernel_rfl) trivial) mix_ok (impl_timesWide_eq)

noncomputable def impl_productOf_V (k : Nat) : Variant := ⟨[.val ty_1 true, .val ty_1 true], [(ty_1, true), (.bool, false)], fun x => impl_productOf k x.1 x.2.1⟩
noncomputable def impl_productOf_C (k : Nat) : Cfg := ⟨Tryz.prog, tyOf tys, 19, gOf [(270, [], impl_timesWide_V), (190, [], impl_wide_fit_V k)], false, [], []⟩
def impl_productOf_ps : List PE := [⟨0, 0, .val ty_1 true, false⟩, ⟨1, 16, .val ty_1 true, false⟩]
noncomputable def impl_productOf_F (k : Nat) : Fn ((Int × Int) × Bool) := ⟨impl_productOf_C k, rdRes Tryz.prog impl_productOf_ps [(ty_1, true), (.bool, false)] Tryz.f230.results.toList .ret, fun p => none, 0, []⟩
theorem impl_productOf_eq (k : Nat) (x : PTe impl_productOf_ps) : evFn (impl_productOf_F k) (codeOf Tryz.f230) impl_productOf_ps 32 x = impl_productOf k x.1 x.2.1 := by kernel_rfl
theorem impl_productOf_K (k : Nat) : Contract Tryz.prog 230 (impl_productOf_V k) :=
  contract (C := impl_productOf_C k) (F := impl_productOf_F k) (fn := Tryz.f230) (ps := impl_productOf_ps) (rs := [(ty_1, true), (.bool, false)]) (nx := 32) ⟨tyOf_ok tys_ok, gOf_ok ⟨impl_timesWide_K, impl_wide_fit_K k, trivial⟩⟩ rfl (by kernel_rfl) (by kernel_rfl) (by kernel_rfl) (by kernel_rfl) (by kernel_rfl) (by kernel_rfl) rfl (by kernel_rfl) (by kernel_rfl) (AnnOk_list [] (by kernel_rfl) trivial) mix_ok (impl_productOf_eq k)

noncomputable def impl_reckoner_keep_V : Variant := ⟨[.ptr .bool true, .val ty_1 true, .val .bool false], [(ty_1, true)], fun x => impl_reckoner_keep x.1 x.2.1 x.2.2.1⟩
noncomputable def impl_reckoner_keep_C : Cfg := ⟨Tryz.prog, tyOf tys, 24, gOf [], false, [], []⟩
def impl_reckoner_keep_ps : List PE := [⟨0, 0, .ptr .bool true, true⟩, ⟨1, 16, .val ty_1 true, false⟩, ⟨2, 32, .val .bool false, false⟩]
noncomputable def impl_reckoner_keep_F : Fn ((Int × Int) × Bool) := ⟨impl_reckoner_keep_C, rdRes Tryz.prog impl_reckoner_keep_ps [(ty_1, true)] Tryz.f126.results.toList .ret, fun p => none, 0, [0]⟩
theorem impl_reckoner_keep_eq (x : PTe impl_reckoner_keep_ps) : evFn (impl_reckoner_keep_F) (codeOf Tryz.f126) impl_reckoner_keep_ps 48 x = impl_reckoner_keep x.1 x.2.1 x.2.2.1 := by kernel_rfl
theorem impl_reckoner_keep_K : Contract Tryz.prog 126 (impl_reckoner_keep_V) :=
  contract (C := impl_reckoner_keep_C) (F := impl_reckoner_keep_F) (fn := Tryz.f126) (ps := impl_reckoner_keep_ps) (rs := [(ty_1, true)]) (nx := 48) ⟨tyOf_ok tys_ok, gOf_ok trivial⟩ rfl (by kernel_rfl) (by kernel_rfl) (by kernel_rfl) (by kernel_rfl) (by kernel_rfl) (by kernel_rfl) rfl (by kernel_rfl) (by kernel_rfl) (AnnOk_list [] (by kernel_rfl) trivial) mix_ok (impl_reckoner_keep_eq)

noncomputable def impl_reckoner_product_V (k : Nat) : Variant := ⟨[.ptr .bool true, .val ty_1 true, .val ty_1 true], [(ty_1, true)], fun x => impl_reckoner_product k x.1 x.2.1 x.2.2.1⟩
noncomputable def impl_reckoner_product_C (k : Nat) : Cfg := ⟨Tryz.prog, tyOf tys, 14, gOf [(230, [], impl_productOf_V k), (126, [], impl_reckoner_keep_V)], false, [], []⟩
def impl_reckoner_product_ps : List PE := [⟨0, 0, .ptr .bool true, true⟩, ⟨1, 16, .val ty_1 true, false⟩, ⟨2, 32, .val ty_1 true, false⟩]
noncomputable def impl_reckoner_product_F (k : Nat) : Fn ((Int × Int) × Bool) := ⟨impl_reckoner_product_C k, rdRes Tryz.prog impl_reckoner_product_ps [(ty_1, true)] Tryz.f175.results.toList .ret, fun p => none, 0, [0]⟩
theorem impl_reckoner_product_eq (k : Nat) (x : PTe impl_reckoner_product_ps) : evFn (impl_reckoner_product_F k) (codeOf Tryz.f175) impl_reckoner_product_ps 48 x = impl_reckoner_product k x.1 x.2.1 x.2.2.1 := by kernel_rfl
theorem impl_reckoner_product_K (k : Nat) : Contract Tryz.prog 175 (impl_reckoner_product_V k) :=
  contract (C := impl_reckoner_product_C k) (F := impl_reckoner_product_F k) (fn := Tryz.f175) (ps := impl_reckoner_product_ps) (rs := [(ty_1, true)]) (nx := 48) ⟨tyOf_ok tys_ok, gOf_ok ⟨impl_productOf_K k, impl_reckoner_keep_K, trivial⟩⟩ rfl (by kernel_rfl) (by kernel_rfl) (by kernel_rfl) (by kernel_rfl) (by kernel_rfl) (by kernel_rfl) rfl (by kernel_rfl) (by kernel_rfl) (AnnOk_list [] (by kernel_rfl) trivial) mix_ok (impl_reckoner_product_eq k)

noncomputable def cmp_isNaN_uint64_V : Variant := ⟨[.val ty_15 false], [(.bool, false)], fun x => cmp_isNaN_uint64 x.1⟩
noncomputable def cmp_isNaN_uint64_C : Cfg := ⟨Tryz.prog, tyOf tys, 6, gOf [], false, [], []⟩
def cmp_isNaN_uint64_ps : List PE := [⟨0, 0, .val ty_15 false, false⟩]
noncomputable def cmp_isNaN_uint64_F : Fn (Bool) := ⟨cmp_isNaN_uint64_C, rdRes Tryz.prog cmp_isNaN_uint64_ps [(.bool, false)] Tryz.f294.results.toList .ret, fun p => none, 0, []⟩
theorem cmp_isNaN_uint64_eq (x : PTe cmp_isNaN_uint64_ps) : evFn (cmp_isNaN_uint64_F) (codeOf Tryz.f294) cmp_isNaN_uint64_ps 16 x = cmp_isNaN_uint64 x.1 := by kernel_rfl
theorem cmp_isNaN_uint64_K : Contract Tryz.prog 294 (cmp_isNaN_uint64_V) :=
  contract (C := cmp_isNaN_uint64_C) (F := cmp_isNaN_uint64_F) (fn := Tryz.f294) (ps := cmp_isNaN_uint64_ps) (rs := [(.bool, false)]) (nx := 16) ⟨tyOf_ok tys_ok, gOf_ok trivial⟩ rfl (by kernel_rfl) (by kernel_rfl) (by kernel_rfl) (by kernel_rfl) (by kernel_rfl) (by kernel_rfl) rfl (by kernel_rfl) (by kernel_rfl) (AnnOk_list [] (by kernel_rfl) trivial) mix_ok (cmp_isNaN_uint64_eq)

noncomputable def cmp_Compare_uint64_V : Variant := ⟨[.val ty_15 false, .val ty_15 false], [(ty_0, false)], fun x => cmp_Compare_uint64 x.1 x.2.1⟩
noncomputable def cmp_Compare_uint64_C : Cfg := ⟨Tryz.prog, tyOf tys, 20, gOf [(294, [], cmp_isNaN_uint64_V)], false, [], []⟩
def cmp_Compare_uint64_ps : List PE := [⟨0, 0, .val ty_15 false, false⟩, ⟨1, 16, .val ty_15 false, false⟩]
noncomputable def cmp_Compare_uint64_F : Fn (Int) := ⟨cmp_Compare_uint64_C, rdRes Tryz.prog cmp_Compare_uint64_ps [(ty_0, false)] Tryz.f279.results.toList .ret, fun p => none, 0, []⟩
theorem cmp_Compare_uint64_eq (x : PTe cmp_Compare_uint64_ps) : evFn (cmp_Compare_uint64_F) (codeOf Tryz.f279) cmp_Compare_uint64_ps 32 x = cmp_Compare_uint64 x.1 x.2.1 := by kernel_rfl
theorem cmp_Compare_uint64_K : Contract Tryz.prog 279 (cmp_Compare_uint64_V) :=
  contract (C := cmp_Compare_uint64_C) (F := cmp_Compare_uint64_F) (fn := Tryz.f279) (ps := cmp_Compare_uint64_ps) (rs := [(ty_0, false)]) (nx := 32) ⟨tyOf_ok tys_ok, gOf_ok ⟨cmp_isNaN_uint64_K, trivial⟩⟩ rfl (by kernel_rfl) (by kernel_rfl) (by kernel_rfl) (by kernel_rfl) (by kernel_rfl) (by kernel_rfl) rfl (by kernel_rfl) (by kernel_rfl) (AnnOk_list [] (by kernel_rfl) trivial) mix_ok (cmp_Compare_uint64_eq)

noncomputable def impl_compareSizes_V (k : Nat) : Variant := ⟨[.val ty_17 true, .val ty_17 true], [(ty_0, false)], fun x => impl_compareSizes k x.1 x.2.1⟩
noncomputable def impl_compareSizes_C (k : Nat) : Cfg := ⟨Tryz.prog, tyOf tys, 17, gOf [(279, [], cmp_Compare_uint64_V), (278, [], cmp_Or_int_V k)], false, [], []⟩
def impl_compareSizes_ps : List PE := [⟨0, 0, .val ty_17 true, false⟩, ⟨1, 16, .val ty_17 true, false⟩]
noncomputable def impl_compareSizes_F (k : Nat) : Fn (Int) := ⟨impl_compareSizes_C k, rdRes Tryz.prog impl_compareSizes_ps [(ty_0, false)] Tryz.f243.results.toList .ret, fun p => none, 0, []⟩
theorem impl_compareSizes_eq (k : Nat) (x : PTe impl_compareSizes_ps) : evFn (impl_compareSizes_F k) (codeOf Tryz.f243) impl_compareSizes_ps 32 x = impl_compareSizes k x.1 x.2.1 := by kernel_rfl
theorem impl_compareSizes_K (k : Nat) : Contract Tryz.prog 243 (impl_compareSizes_V k) :=
  contract (C := impl_compareSizes_C k) (F := impl_compareSizes_F k) (fn := Tryz.f243) (ps := impl_compareSizes_ps) (rs := [(ty_0, false)]) (nx := 32) ⟨tyOf_ok tys_ok, gOf_ok ⟨cmp_Compare_uint64_K, cmp_Or_int_K k, trivial⟩⟩ rfl (by kernel_rfl) (by kernel_rfl) (by kernel_rfl) (by kernel_rfl) (by kernel_rfl) (by kernel_rfl) rfl (by kernel_rfl) (by kernel_rfl) (AnnOk_list [] (by kernel_rfl) trivial) mix_ok (impl_compareSizes_eq k)

noncomputable def impl_compareWide_V (k : Nat) : Variant := ⟨[.val ty_17 true, .val ty_17 true], [(ty_0, false)], fun x => impl_compareWide k x.1 x.2.1⟩
noncomputable def impl_compareWide_C (k : Nat) : Cfg := ⟨Tryz.prog, tyOf tys, 29, gOf [(245, [], impl_wide_isZero_V), (243, [], impl_compareSizes_V k)], false, [], []⟩
def impl_compareWide_ps : List PE := [⟨0, 0, .val ty_17 true, false⟩, ⟨1, 16, .val ty_17 true, false⟩]
noncomputable def impl_compareWide_F (k : Nat) : Fn (Int) := ⟨impl_compareWide_C k, rdRes Tryz.prog impl_compareWide_ps [(ty_0, false)] Tryz.f229.results.toList .ret, fun p => bif Nat.beq p 6 then some (.cut [⟨2, 32, .box ty_17 false, false⟩, ⟨3, 48, .box ty_17 false, false⟩] 64) else none, 0, []⟩
theorem impl_compareWide_eq (k : Nat) (x : PTe impl_compareWide_ps) : evFn (impl_compareWide_F k) (codeOf Tryz.f229) impl_compareWide_ps 32 x = impl_compareWide k x.1 x.2.1 := by kernel_rfl
theorem impl_compareWide_K (k : Nat) : Contract Tryz.prog 229 (impl_compareWide_V k) :=
  contract (C := impl_compareWide_C k) (F := impl_compareWide_F k) (fn := Tryz.f229) (ps := impl_compareWide_ps) (rs := [(ty_0, false)]) (nx := 32) ⟨tyOf_ok tys_ok, gOf_ok ⟨impl_wide_isZero_K, impl_compareSizes_K k, trivial⟩⟩ rfl (by kernel_rfl) (by kernel_rfl) (by kernel_rfl) (by kernel_rfl) (by kernel_rfl) (by kernel_rfl) rfl (by kernel_rfl) (by kernel_rfl) (AnnOk_list [] (by kernel_rfl) trivial) mix_ok (impl_compareWide_eq k)

noncomputable def impl_compareD_V (k : Nat) : Variant := ⟨[.val ty_1 true, .val ty_1 true], [(ty_0, false)], fun x => impl_compareD k x.1 x.2.1⟩
noncomputable def impl_compareD_C (k : Nat) : Cfg := ⟨Tryz.prog, tyOf tys, 28, gOf [(187, [], impl_wideOf_V), (188, [], impl_wide_shift_V), (229, [], impl_compareWide_V k)], false, [], []⟩
def impl_compareD_ps : List PE := [⟨0, 0, .val ty_1 true, false⟩, ⟨1, 16, .val ty_1 true, false⟩]
noncomputable def impl_compareD_F (k : Nat) : Fn (Int) := ⟨impl_compareD_C k, rdRes Tryz.prog impl_compareD_ps [(ty_0, false)] Tryz.f174.results.toList .ret, fun p => none, 0, []⟩
theorem impl_compareD_eq (k : Nat) (x : PTe impl_compareD_ps) : evFn (impl_compareD_F k) (codeOf Tryz.f174) impl_compareD_ps 32 x = impl_compareD k x.1 x.2.1 := by kernel_rfl
theorem impl_compareD_K (k : Nat) : Contract Tryz.prog 174 (impl_compareD_V k) :=
  contract (C := impl_compareD_C k) (F := impl_compareD_F k) (fn := Tryz.f174) (ps := impl_compareD_ps) (rs := [(ty_0, false)]) (nx := 32) ⟨tyOf_ok tys_ok, gOf_ok ⟨impl_wideOf_K, impl_wide_shift_K, impl_compareWide_K k, trivial⟩⟩ rfl (by kernel_rfl) (by kernel_rfl) (by kernel_rfl) (by kernel_rfl) (by kernel_rfl) (by kernel_rfl) rfl (by kernel_rfl) (by kernel_rfl) (AnnOk_list [] (by kernel_rfl) trivial) mix_ok (impl_compareD_eq k)

noncomputable def impl_lesser_V (k : Nat) : Variant := ⟨[.val ty_1 true, .val ty_1 true], [(ty_1, true)], fun x => impl_lesser k x.1 x.2.1⟩
noncomputable def impl_lesser_C (k : Nat) : Cfg := ⟨Tryz.prog, tyOf tys, 11, gOf [(174, [], impl_compareD_V k)], false, [], []⟩
def impl_lesser_ps : List PE := [⟨0, 0, .val ty_1 true, false⟩, ⟨1, 16, .val ty_1 true, false⟩]
noncomputable def impl_lesser_F (k : Nat) : Fn (Int × Int) := ⟨impl_lesser_C k, rdRes Tryz.prog impl_lesser_ps [(ty_1, true)] Tryz.f177.results.toList .ret, fun p => none, 0, []⟩
theorem impl_lesser_eq (k : Nat) (x : PTe impl_lesser_ps) : evFn (impl_lesser_F k) (codeOf Tryz.f177) impl_lesser_ps 32 x = impl_lesser k x.1 x.2.1 := by kernel_rfl
theorem impl_lesser_K (k : Nat) : Contract Tryz.prog 177 (impl_lesser_V k) :=
  contract (C := impl_lesser_C k) (F := impl_lesser_F k) (fn := Tryz.f177) (ps := impl_lesser_ps) (rs := [(ty_1, true)]) (nx := 32) ⟨tyOf_ok tys_ok, gOf_ok ⟨impl_compareD_K k, trivial⟩⟩ rfl (by kernel_rfl) (by kernel_rfl) (by kernel_rfl) (by kernel_rfl) (by kernel_rfl) (by kernel_rfl) rfl (by kernel_rfl) (by kernel_rfl) (AnnOk_list [] (by kernel_rfl) trivial) mix_ok (impl_lesser_eq k)

noncomputable def impl_greater_V (k : Nat) : Variant := ⟨[.val ty_1 true, .val ty_1 true], [(ty_1, true)], fun x => impl_greater k x.1 x.2.1⟩
noncomputable def impl_greater_C (k : Nat) : Cfg := ⟨Tryz.prog, tyOf tys, 11, gOf [(174, [], impl_compareD_V k)], false, [], []⟩
def impl_greater_ps : List PE := [⟨0, 0, .val ty_1 true, false⟩, ⟨1, 16, .val ty_1 true, false⟩]
noncomputable def impl_greater_F (k : Nat) : Fn (Int × Int) := ⟨impl_greater_C k, rdRes Tryz.prog impl_greater_ps [(ty_1, true)] Tryz.f178.results.toList .ret, fun p => none, 0, []⟩
theorem impl_greater_eq (k : Nat) (x : PTe impl_greater_ps) : evFn (impl_greater_F k) (codeOf Tryz.f178) impl_greater_ps 32 x = impl_greater k x.1 x.2.1 := by kernel_rfl
theorem impl_greater_K (k : Nat) : Contract Tryz.prog 178 (impl_greater_V k) :=
  contract (C := impl_greater_C k) (F := impl_greater_F k) (fn := Tryz.f178) (ps := impl_greater_ps) (rs := [(ty_1, true)]) (nx := 32) ⟨tyOf_ok tys_ok, gOf_ok ⟨impl_compareD_K k, trivial⟩⟩ rfl (by kernel_rfl) (by kernel_rfl) (by kernel_rfl) (by kernel_rfl) (by kernel_rfl) (by kernel_rfl) rfl (by kernel_rfl) (by kernel_rfl) (AnnOk_list [] (by kernel_rfl) trivial) mix_ok (impl_greater_eq k)

noncomputable def impl_signOf_V : Variant := ⟨[.val ty_10 true], [(ty_0, false)], fun x => impl_signOf x.1⟩
noncomputable def impl_signOf_C : Cfg := ⟨Tryz.prog, tyOf tys, 13, gOf [], false, [], []⟩
def impl_signOf_ps : List PE := [⟨0, 0, .val ty_10 true, false⟩]
noncomputable def impl_signOf_F : Fn (Int) := ⟨impl_signOf_C, rdRes Tryz.prog impl_signOf_ps [(ty_0, false)] Tryz.f264.results.toList .ret, fun p => none, 0, []⟩
theorem impl_signOf_eq (x : PTe impl_signOf_ps) : evFn (impl_signOf_F) (codeOf Tryz.f264) impl_signOf_ps 16 x = impl_signOf x.1 := by kernel_rfl
theorem impl_signOf_K : Contract Tryz.prog 264 (impl_signOf_V) :=
  contract (C := impl_signOf_C) (F := impl_signOf_F) (fn := Tryz.f264) (ps := impl_signOf_ps) (rs := [(ty_0, false)]) (nx := 16) ⟨tyOf_ok tys_ok, gOf_ok trivial⟩ rfl (by kernel_rfl) (by kernel_rfl) (by kernel_rfl) (by kernel_rfl) (by kernel_rfl) (by kernel_rfl) rfl (by kernel_rfl) (by kernel_rfl) (AnnOk_list [] (by kernel_rfl) trivial) mix_ok (impl_signOf_eq)

noncomputable def impl_roundDown_V (k : Nat) : Variant := ⟨[.val ty_1 true, .val ty_0 false], [(ty_1, true)], fun x => impl_roundDown k x.1 x.2.1⟩
noncomputable def impl_roundDown_C (k : Nat) : Cfg := ⟨Tryz.prog, tyOf tys, 26, gOf [(187, [], impl_wideOf_V), (190, [], impl_wide_fit_V k)], false, [], []⟩
def impl_roundDown_ps : List PE := [⟨0, 0, .val ty_1 true, false⟩, ⟨1, 16, .val ty_0 false, false⟩]
noncomputable def impl_roundDown_F (k : Nat) : Fn (Int × Int) := ⟨impl_roundDown_C k, rdRes Tryz.prog impl_roundDown_ps [(ty_1, true)] Tryz.f231.results.toList .ret, fun p => none, 0, []⟩
theorem impl_roundDown_eq (k : Nat) (x : PTe impl_roundDown_ps) : evFn (impl_roundDown_F k) (codeOf Tryz.f231) impl_roundDown_ps 32 x = impl_roundDown k x.1 x.2.1 := by kernel_rfl
theorem impl_roundDown_K (k : Nat) : Contract Tryz.prog 231 (impl_roundDown_V k) :=
  contract (C := impl_roundDown_C k) (F := impl_roundDown_F k) (fn := Tryz.f231) (ps := impl_roundDown_ps) (rs := [(ty_1, true)]) (nx := 32) ⟨tyOf_ok tys_ok, gOf_ok ⟨impl_wideOf_K, impl_wide_fit_K k, trivial⟩⟩ rfl (by kernel_rfl) (by kernel_rfl) (by kernel_rfl) (by kernel_rfl) (by kernel_rfl) (by kernel_rfl) rfl (by kernel_rfl) (by kernel_rfl) (AnnOk_list [] (by kernel_rfl) trivial) mix_ok (impl_roundDown_eq k)

noncomputable def impl_minus_V : Variant := ⟨[.val ty_1 true], [(ty_1, true)], fun x => impl_minus x.1⟩
noncomputable def impl_minus_C : Cfg := ⟨Tryz.prog, tyOf tys, 9, gOf [], false, [], []⟩
def impl_minus_ps : List PE := [⟨0, 0, .val ty_1 true, false⟩]
noncomputable def impl_minus_F : Fn (Int × Int) := ⟨impl_minus_C, rdRes Tryz.prog impl_minus_ps [(ty_1, true)] Tryz.f232.results.toList .ret, fun p => none, 0, []⟩
theorem impl_minus_eq (x : PTe impl_minus_ps) : evFn (impl_minus_F) (codeOf Tryz.f232) impl_minus_ps 16 x = impl_minus x.1 := by kernel_rfl
theorem impl_minus_K : Contract Tryz.prog 232 (impl_minus_V) :=
  contract (C := impl_minus_C) (F := impl_minus_F) (fn := Tryz.f232) (ps := impl_minus_ps) (rs := [(ty_1, true)]) (nx := 16) ⟨tyOf_ok tys_ok, gOf_ok trivial⟩ rfl (by kernel_rfl) (by kernel_rfl) (by kernel_rfl) (by kernel_rfl) (by kernel_rfl) (by kernel_rfl) rfl (by kernel_rfl) (by kernel_rfl) (AnnOk_list [] (by kernel_rfl) trivial) mix_ok (impl_minus_eq)

noncomputable def impl_roundOut_V (k : Nat) : Variant := ⟨[.val ty_10 true, .val ty_0 false], [(ty_10, true)], fun x => impl_roundOut k x.1 x.2.1⟩
noncomputable def impl_roundOut_C (k : Nat) : Cfg := ⟨Tryz.prog, tyOf tys, 16, gOf [(231, [], impl_roundDown_V k), (232, [], impl_minus_V)], false, [], []⟩
def impl_roundOut_ps : List PE := [⟨0, 0, .val ty_10 true, false⟩, ⟨1, 16, .val ty_0 false, false⟩]
noncomputable def impl_roundOut_F (k : Nat) : Fn ((Int × Int) × Int × Int) := ⟨impl_roundOut_C k, rdRes Tryz.prog impl_roundOut_ps [(ty_10, true)] Tryz.f176.results.toList .ret, fun p => none, 0, []⟩
theorem impl_roundOut_eq (k : Nat) (x : PTe impl_roundOut_ps) : evFn (impl_roundOut_F k) (codeOf Tryz.f176) impl_roundOut_ps 32 x = impl_roundOut k x.1 x.2.1 := by kernel_rfl
theorem impl_roundOut_K (k : Nat) : Contract Tryz.prog 176 (impl_roundOut_V k) :=
  contract (C := impl_roundOut_C k) (F := impl_roundOut_F k) (fn := Tryz.f176) (ps := impl_roundOut_ps) (rs := [(ty_10, true)]) (nx := 32) ⟨tyOf_ok tys_ok, gOf_ok ⟨impl_roundDown_K k, impl_minus_K, trivial⟩⟩ rfl (by kernel_rfl) (by kernel_rfl) (by kernel_rfl) (by kernel_rfl) (by kernel_rfl) (by kernel_rfl) rfl (by kernel_rfl) (by kernel_rfl) (AnnOk_list [] (by kernel_rfl) trivial) mix_ok (impl_roundOut_eq k)

noncomputable def impl_reckoner_power_V (k : Nat) : Variant := ⟨[.ptr .bool true, .val ty_10 true, .val ty_0 false], [(ty_10, true)], fun x => impl_reckoner_power k x.1 x.2.1 x.2.2.1⟩
noncomputable def impl_reckoner_power_C (k : Nat) : Cfg := ⟨Tryz.prog, tyOf tys, 49, gOf [(252, [], impl_integer_V), (117, [], impl_single_V), (175, [], impl_reckoner_product_V k), (177, [], impl_lesser_V k), (178, [], impl_greater_V k), (264, [], impl_signOf_V), (176, [], impl_roundOut_V k)], false, [], []⟩
def impl_reckoner_power_i122 : List PE := [⟨0, 0, .ptr .bool true, true⟩, ⟨2, 48, .val ty_0 false, false⟩, ⟨4, 64, .box ty_10 false, false⟩, ⟨6, 80, .box ty_10 false, false⟩, ⟨7, 96, .box ty_1 false, false⟩, ⟨8, 112, .box ty_1 false, false⟩, ⟨18, 128, .val ty_0 false, false⟩, ⟨19, 144, .val ty_0 false, false⟩]
def impl_reckoner_power_o122 : List PE := [⟨2, 48, .val ty_0 false, false⟩, ⟨4, 64, .box ty_10 false, false⟩, ⟨6, 80, .box ty_10 false, false⟩, ⟨7, 96, .box ty_1 false, false⟩, ⟨8, 112, .box ty_1 false, false⟩, ⟨0, 0, .ptr .bool true, true⟩]
noncomputable def impl_reckoner_power_f122 (k : Nat) (n : Nat) (x5 : PTe impl_reckoner_power_i122) : Option ((((Int × Int) × Int × Int) × Bool) ⊕ PTe impl_reckoner_power_o122) := impl_reckoner_power_L122 k n x5.1 x5.2.1 x5.2.2.1 x5.2.2.2.1 x5.2.2.2.2.1 x5.2.2.2.2.2.1 x5.2.2.2.2.2.2.1 x5.2.2.2.2.2.2.2.1
def impl_reckoner_power_ps : List PE := [⟨0, 0, .ptr .bool true, true⟩, ⟨1, 16, .val ty_10 true, false⟩, ⟨2, 32, .val ty_0 false, false⟩]
noncomputable def impl_reckoner_power_F (k : Nat) : Fn (((Int × Int) × Int × Int) × Bool) := ⟨impl_reckoner_power_C k, rdRes Tryz.prog impl_reckoner_power_ps [(ty_10, true)] Tryz.f273.results.toList .ret, fun p => bif Nat.beq p 122 then some (.loop impl_reckoner_power_i122 impl_reckoner_power_o122 0 160 (impl_reckoner_power_f122 k k)) else bif Nat.beq p 62 then some (.cut [⟨6, 48, .box ty_10 false, false⟩, ⟨7, 64, .box ty_1 false, false⟩, ⟨8, 80, .box ty_1 false, false⟩, ⟨0, 0, .ptr .bool true, true⟩] 96) else none, 0, [0]⟩
theorem impl_reckoner_power_eq (k : Nat) (x : PTe impl_reckoner_power_ps) : evFn (impl_reckoner_power_F k) (codeOf Tryz.f273) impl_reckoner_power_ps 48 x = impl_reckoner_power k x.1 x.2.1 x.2.2.1 := by kernel_rfl
theorem impl_reckoner_power_ls : loopsOf (codeOf Tryz.f273) 1 = [(122, loopB (codeOf Tryz.f273) 122)] := by kernel_rfl
theorem impl_reckoner_power_l122 (k : Nat) : LoopOk (impl_reckoner_power_F k) (loopB (codeOf Tryz.f273) 122) 122 := LoopOk.mk (pin := impl_reckoner_power_i122) (pout := impl_reckoner_power_o122) (ex := 0) (nx := 160) (Lf := impl_reckoner_power_f122 k) (k := k) (by kernel_rfl) (fun _ => rfl) (by intro n x; kernel_rfl)
theorem impl_reckoner_power_K (k : Nat) : Contract Tryz.prog 273 (impl_reckoner_power_V k) :=
  contract (C := impl_reckoner_power_C k) (F := impl_reckoner_power_F k) (fn := Tryz.f273) (ps := impl_reckoner_power_ps) (rs := [(ty_10, true)]) (nx := 48) ⟨tyOf_ok tys_ok, gOf_ok ⟨impl_integer_K, impl_single_K, impl_reckoner_product_K k, impl_lesser_K k, impl_greater_K k, impl_signOf_K, impl_roundOut_K k, trivial⟩⟩ rfl (by kernel_rfl) (by kernel_rfl) (by kernel_rfl) (by kernel_rfl) (by kernel_rfl) (by kernel_rfl) rfl (by kernel_rfl) (by kernel_rfl) (AnnOk_list [(122, loopB (codeOf Tryz.f273) 122)] impl_reckoner_power_ls ⟨impl_reckoner_power_l122 k, trivial⟩) mix_ok (impl_reckoner_power_eq k)

noncomputable def impl_reckoner_multiply_V (k : Nat) : Variant := ⟨[.ptr .bool true, .val ty_10 true, .val ty_10 true], [(ty_10, true)], fun x => impl_reckoner_multiply k x.1 x.2.1 x.2.2.1⟩
noncomputable def impl_reckoner_multiply_C (k : Nat) : Cfg := ⟨Tryz.prog, tyOf tys, 51, gOf [(175, [], impl_reckoner_product_V k), (177, [], impl_lesser_V k), (178, [], impl_greater_V k), (176, [], impl_roundOut_V k)], false, [], []⟩
def impl_reckoner_multiply_ps : List PE := [⟨0, 0, .ptr .bool true, true⟩, ⟨1, 16, .val ty_10 true, false⟩, ⟨2, 32, .val ty_10 true, false⟩]
noncomputable def impl_reckoner_multiply_F (k : Nat) : Fn (((Int × Int) × Int × Int) × Bool) := ⟨impl_reckoner_multiply_C k, rdRes Tryz.prog impl_reckoner_multiply_ps [(ty_10, true)] Tryz.f116.results.toList .ret, fun p => none, 0, [0]⟩
theorem impl_reckoner_multiply_eq (k : Nat) (x : PTe impl_reckoner_multiply_ps) : evFn (impl_reckoner_multiply_F k) (codeOf Tryz.f116) impl_reckoner_multiply_ps 48 x = impl_reckoner_multiply k x.1 x.2.1 x.2.2.1 := by kernel_rfl
theorem impl_reckoner_multiply_K (k : Nat) : Contract Tryz.prog 116 (impl_reckoner_multiply_V k) :=
  contract (C := impl_reckoner_multiply_C k) (F := impl_reckoner_multiply_F k) (fn := Tryz.f116) (ps := impl_reckoner_multiply_ps) (rs := [(ty_10, true)]) (nx := 48) ⟨tyOf_ok tys_ok, gOf_ok ⟨impl_reckoner_product_K k, impl_lesser_K k, impl_greater_K k, impl_roundOut_K k, trivial⟩⟩ rfl (by kernel_rfl) (by kernel_rfl) (by kernel_rfl) (by kernel_rfl) (by kernel_rfl) (by kernel_rfl) rfl (by kernel_rfl) (by kernel_rfl) (AnnOk_list [] (by kernel_rfl) trivial) mix_ok (impl_reckoner_multiply_eq k)

noncomputable def math_bits_Add64_V : Variant := V64 math_bits_Add64
theorem math_bits_Add64_K : Contract Tryz.prog 242 math_bits_Add64_V := contractAdd64 (fn := Tryz.f242) (by kernel_rfl) (by kernel_rfl) (by kernel_rfl) (by kernel_rfl) (by kernel_rfl)

noncomputable def math_bits_Sub64_V : Variant := V64 math_bits_Sub64
theorem math_bits_Sub64_K : Contract Tryz.prog 244 math_bits_Sub64_V := contractSub64 (fn := Tryz.f244) (by kernel_rfl) (by kernel_rfl) (by kernel_rfl) (by kernel_rfl) (by kernel_rfl)

noncomputable def impl_wide_add_V (k : Nat) : Variant := ⟨[.val ty_17 true, .val ty_17 true], [(ty_17, true)], fun x => impl_wide_add k x.1 x.2.1⟩
noncomputable def impl_wide_add_C (k : Nat) : Cfg := ⟨Tryz.prog, tyOf tys, 68, gOf [(242, [], math_bits_Add64_V), (243, [], impl_compareSizes_V k), (244, [], math_bits_Sub64_V)], false, [], []⟩
def impl_wide_add_ps : List PE := [⟨0, 0, .val ty_17 true, false⟩, ⟨1, 16, .val ty_17 true, false⟩]
noncomputable def impl_wide_add_F (k : Nat) : Fn (Bool × Int × Int) := ⟨impl_wide_add_C k, rdRes Tryz.prog impl_wide_add_ps [(ty_17, true)] Tryz.f189.results.toList .ret, fun p => bif Nat.beq p 14 then some (.cut [⟨2, 32, .box ty_17 false, false⟩, ⟨3, 48, .box ty_17 false, false⟩, ⟨4, 64, .box ty_17 false, false⟩] 80) else none, 0, []⟩
theorem impl_wide_add_eq (k : Nat) (x : PTe impl_wide_add_ps) : evFn (impl_wide_add_F k) (codeOf Tryz.f189) impl_wide_add_ps 32 x = impl_wide_add k x.1 x.2.1 := by kernel_rfl
theorem impl_wide_add_K (k : Nat) : Contract Tryz.prog 189 (impl_wide_add_V k) :=
  contract (C := impl_wide_add_C k) (F := impl_wide_add_F k) (fn := Tryz.f189) (ps := impl_wide_add_ps) (rs := [(ty_17, true)]) (nx := 32) ⟨tyOf_ok tys_ok, gOf_ok ⟨math_bits_Add64_K, impl_compareSizes_K k, math_bits_Sub64_K, trivial⟩⟩ rfl (by kernel_rfl) (by kernel_rfl) (by kernel_rfl) (by kernel_rfl) (by kernel_rfl) (by kernel_rfl) rfl (by kernel_rfl) (by kernel_rfl) (AnnOk_list [] (by kernel_rfl) trivial) mix_ok (impl_wide_add_eq k)

noncomputable def impl_sumOf_V (k : Nat) : Variant := ⟨[.val ty_1 true, .val ty_1 true], [(ty_1, true), (.bool, false)], fun x => impl_sumOf k x.1 x.2.1⟩
noncomputable def impl_sumOf_C (k : Nat) : Cfg := ⟨Tryz.prog, tyOf tys, 33, gOf [(187, [], impl_wideOf_V), (188, [], impl_wide_shift_V), (189, [], impl_wide_add_V k), (190, [], impl_wide_fit_V k)], false, [], []⟩
def impl_sumOf_ps : List PE := [⟨0, 0, .val ty_1 true, false⟩, ⟨1, 16, .val ty_1 true, false⟩]
noncomputable def impl_sumOf_F (k : Nat) : Fn ((Int × Int) × Bool) := ⟨impl_sumOf_C k, rdRes Tryz.prog impl_sumOf_ps [(ty_1, true), (.bool, false)] Tryz.f233.results.toList .ret, fun p => none, 0, []⟩
theorem impl_sumOf_eq (k : Nat) (x : PTe impl_sumOf_ps) : evFn (impl_sumOf_F k) (codeOf Tryz.f233) impl_sumOf_ps 32 x = impl_sumOf k x.1 x.2.1 := by kernel_rfl
theorem impl_sumOf_K (k : Nat) : Contract Tryz.prog 233 (impl_sumOf_V k) :=
  contract (C := impl_sumOf_C k) (F := impl_sumOf_F k) (fn := Tryz.f233) (ps := impl_sumOf_ps) (rs := [(ty_1, true), (.bool, false)]) (nx := 32) ⟨tyOf_ok tys_ok, gOf_ok ⟨impl_wideOf_K, impl_wide_shift_K, impl_wide_add_K k, impl_wide_fit_K k, trivial⟩⟩ rfl (by kernel_rfl) (by kernel_rfl) (by kernel_rfl) (by kernel_rfl) (by kernel_rfl) (by kernel_rfl) rfl (by kernel_rfl) (by kernel_rfl) (AnnOk_list [] (by kernel_rfl) trivial) mix_ok (impl_sumOf_eq k)

noncomputable def impl_reckoner_sum_V (k : Nat) : Variant := ⟨[.ptr .bool true, .val ty_1 true, .val ty_1 true], [(ty_1, true)], fun x => impl_reckoner_sum k x.1 x.2.1 x.2.2.1⟩
noncomputable def impl_reckoner_sum_C (k : Nat) : Cfg := ⟨Tryz.prog, tyOf tys, 14, gOf [(233, [], impl_sumOf_V k), (126, [], impl_reckoner_keep_V)], false, [], []⟩
def impl_reckoner_sum_ps : List PE := [⟨0, 0, .ptr .bool true, true⟩, ⟨1, 16, .val ty_1 true, false⟩, ⟨2, 32, .val ty_1 true, false⟩]
noncomputable def impl_reckoner_sum_F (k : Nat) : Fn ((Int × Int) × Bool) := ⟨impl_reckoner_sum_C k, rdRes Tryz.prog impl_reckoner_sum_ps [(ty_1, true)] Tryz.f179.results.toList .ret, fun p => none, 0, [0]⟩
theorem impl_reckoner_sum_eq (k : Nat) (x : PTe impl_reckoner_sum_ps) : evFn (impl_reckoner_sum_F k) (codeOf Tryz.f179) impl_reckoner_sum_ps 48 x = impl_reckoner_sum k x.1 x.2.1 x.2.2.1 := by kernel_rfl
theorem impl_reckoner_sum_K (k : Nat) : Contract Tryz.prog 179 (impl_reckoner_sum_V k) :=
  contract (C := impl_reckoner_sum_C k) (F := impl_reckoner_sum_F k) (fn := Tryz.f179) (ps := impl_reckoner_sum_ps) (rs := [(ty_1, true)]) (nx := 48) ⟨tyOf_ok tys_ok, gOf_ok ⟨impl_sumOf_K k, impl_reckoner_keep_K, trivial⟩⟩ rfl (by kernel_rfl) (by kernel_rfl) (by kernel_rfl) (by kernel_rfl) (by kernel_rfl) (by kernel_rfl) rfl (by kernel_rfl) (by kernel_rfl) (AnnOk_list [] (by kernel_rfl) trivial) mix_ok (impl_reckoner_sum_eq k)

noncomputable def impl_reckoner_add_V (k : Nat) : Variant := ⟨[.ptr .bool true, .val ty_10 true, .val ty_10 true], [(ty_10, true)], fun x => impl_reckoner_add k x.1 x.2.1 x.2.2.1⟩
noncomputable def impl_reckoner_add_C (k : Nat) : Cfg := ⟨Tryz.prog, tyOf tys, 20, gOf [(179, [], impl_reckoner_sum_V k)], false, [], []⟩
def impl_reckoner_add_ps : List PE := [⟨0, 0, .ptr .bool true, true⟩, ⟨1, 16, .val ty_10 true, false⟩, ⟨2, 32, .val ty_10 true, false⟩]
noncomputable def impl_reckoner_add_F (k : Nat) : Fn (((Int × Int) × Int × Int) × Bool) := ⟨impl_reckoner_add_C k, rdRes Tryz.prog impl_reckoner_add_ps [(ty_10, true)] Tryz.f118.results.toList .ret, fun p => none, 0, [0]⟩
theorem impl_reckoner_add_eq (k : Nat) (x : PTe impl_reckoner_add_ps) : evFn (impl_reckoner_add_F k) (codeOf Tryz.f118) impl_reckoner_add_ps 48 x = impl_reckoner_add k x.1 x.2.1 x.2.2.1 := by kernel_rfl
theorem impl_reckoner_add_K (k : Nat) : Contract Tryz.prog 118 (impl_reckoner_add_V k) :=
  contract (C := impl_reckoner_add_C k) (F := impl_reckoner_add_F k) (fn := Tryz.f118) (ps := impl_reckoner_add_ps) (rs := [(ty_10, true)]) (nx := 48) ⟨tyOf_ok tys_ok, gOf_ok ⟨impl_reckoner_sum_K k, trivial⟩⟩ rfl (by kernel_rfl) (by kernel_rfl) (by kernel_rfl) (by kernel_rfl) (by kernel_rfl) (by kernel_rfl) rfl (by kernel_rfl) (by kernel_rfl) (AnnOk_list [] (by kernel_rfl) trivial) mix_ok (impl_reckoner_add_eq k)

noncomputable def impl_reckoner_result_V : Variant := ⟨[.ptr .bool true, .val ty_10 true], [(ty_10, true), (.bool, false)], fun x => impl_reckoner_result x.1 x.2.1⟩
noncomputable def impl_reckoner_result_C : Cfg := ⟨Tryz.prog, tyOf tys, 13, gOf [], false, [], []⟩
def impl_reckoner_result_ps : List PE := [⟨0, 0, .ptr .bool true, true⟩, ⟨1, 16, .val ty_10 true, false⟩]
noncomputable def impl_reckoner_result_F : Fn (((Int × Int) × Int × Int) × Bool × Bool) := ⟨impl_reckoner_result_C, rdRes Tryz.prog impl_reckoner_result_ps [(ty_10, true), (.bool, false)] Tryz.f274.results.toList .ret, fun p => none, 0, [0]⟩
theorem impl_reckoner_result_eq (x : PTe impl_reckoner_result_ps) : evFn (impl_reckoner_result_F) (codeOf Tryz.f274) impl_reckoner_result_ps 32 x = impl_reckoner_result x.1 x.2.1 := by kernel_rfl
theorem impl_reckoner_result_K : Contract Tryz.prog 274 (impl_reckoner_result_V) :=
  contract (C := impl_reckoner_result_C) (F := impl_reckoner_result_F) (fn := Tryz.f274) (ps := impl_reckoner_result_ps) (rs := [(ty_10, true), (.bool, false)]) (nx := 32) ⟨tyOf_ok tys_ok, gOf_ok trivial⟩ rfl (by kernel_rfl) (by kernel_rfl) (by kernel_rfl) (by kernel_rfl) (by kernel_rfl) (by kernel_rfl) rfl (by kernel_rfl) (by kernel_rfl) (AnnOk_list [] (by kernel_rfl) trivial) mix_ok (impl_reckoner_result_eq)

noncomputable def impl_valueOver_V (k : Nat) : Variant := ⟨[.val ty_4 false, .val ty_12 false], [(ty_10, true), (.bool, false)], fun x => impl_valueOver k x.1 x.2.1⟩
noncomputable def impl_valueOver_C (k : Nat) : Cfg := ⟨Tryz.prog, tyOf tys, 54, gOf [(252, [], impl_integer_V), (117, [], impl_single_V), (262, [], impl_Term_exponents_V), (273, [], impl_reckoner_power_V k), (116, [], impl_reckoner_multiply_V k), (118, [], impl_reckoner_add_V k), (274, [], impl_reckoner_result_V)], false, [], []⟩
def impl_valueOver_i125338 : List PE := [⟨1, 32, .val ty_12 false, false⟩, ⟨4, 48, .box ty_10 false, false⟩, ⟨6, 64, .box .bool false, false⟩, ⟨7, 80, .box ty_10 false, false⟩, ⟨9, 96, .box ty_3 false, false⟩, ⟨10, 112, .box ty_10 false, false⟩, ⟨16, 128, .val ty_4 false, false⟩, ⟨17, 144, .val ty_0 false, false⟩, ⟨18, 160, .val ty_0 false, false⟩, ⟨26, 176, .val ty_12 false, false⟩, ⟨27, 192, .val ty_0 false, false⟩, ⟨28, 208, .val ty_0 false, false⟩]
def impl_valueOver_o125338 : List PE := [⟨1, 32, .val ty_12 false, false⟩, ⟨4, 48, .box ty_10 false, false⟩, ⟨6, 64, .box .bool false, false⟩, ⟨7, 80, .box ty_10 false, false⟩, ⟨10, 96, .box ty_10 false, false⟩, ⟨16, 112, .val ty_4 false, false⟩, ⟨17, 128, .val ty_0 false, false⟩, ⟨18, 144, .val ty_0 false, false⟩]
noncomputable def impl_valueOver_f125338 (k : Nat) (n : Nat) (x10 : PTe impl_valueOver_i125338) : Option ((((Int × Int) × Int × Int) × Bool) ⊕ PTe impl_valueOver_o125338) := impl_valueOver_L125338 k n x10.1 x10.2.1 x10.2.2.1 x10.2.2.2.1 x10.2.2.2.2.1 x10.2.2.2.2.2.1 x10.2.2.2.2.2.2.1 x10.2.2.2.2.2.2.2.1 x10.2.2.2.2.2.2.2.2.1 x10.2.2.2.2.2.2.2.2.2.1 x10.2.2.2.2.2.2.2.2.2.2.1 x10.2.2.2.2.2.2.2.2.2.2.2.1
def impl_valueOver_i122 : List PE := [⟨1, 32, .val ty_12 false, false⟩, ⟨4, 48, .box ty_10 false, false⟩, ⟨6, 64, .box .bool false, false⟩, ⟨7, 80, .box ty_10 false, false⟩, ⟨16, 96, .val ty_4 false, false⟩, ⟨17, 112, .val ty_0 false, false⟩, ⟨18, 128, .val ty_0 false, false⟩]
def impl_valueOver_o122 : List PE := [⟨4, 32, .box ty_10 false, false⟩, ⟨6, 48, .box .bool false, false⟩, ⟨7, 64, .box ty_10 false, false⟩]
noncomputable def impl_valueOver_f122 (k : Nat) (n : Nat) (x14 : PTe impl_valueOver_i122) : Option ((((Int × Int) × Int × Int) × Bool) ⊕ PTe impl_valueOver_o122) := impl_valueOver_L122 k n x14.1 x14.2.1 x14.2.2.1 x14.2.2.2.1 x14.2.2.2.2.1 x14.2.2.2.2.2.1 x14.2.2.2.2.2.2.1
def impl_valueOver_ps : List PE := [⟨0, 0, .val ty_4 false, false⟩, ⟨1, 16, .val ty_12 false, false⟩]
noncomputable def impl_valueOver_F (k : Nat) : Fn (((Int × Int) × Int × Int) × Bool) := ⟨impl_valueOver_C k, rdRes Tryz.prog impl_valueOver_ps [(ty_10, true), (.bool, false)] Tryz.f238.results.toList .ret, fun p => bif Nat.beq p 125338 then some (.loop impl_valueOver_i125338 impl_valueOver_o125338 2 224 (impl_valueOver_f125338 k k)) else bif Nat.beq p 122 then some (.loop impl_valueOver_i122 impl_valueOver_o122 0 144 (impl_valueOver_f122 k k)) else none, 0, []⟩
theorem impl_valueOver_eq (k : Nat) (x : PTe impl_valueOver_ps) : evFn (impl_valueOver_F k) (codeOf Tryz.f238) impl_valueOver_ps 32 x = impl_valueOver k x.1 x.2.1 := by kernel_rfl
theorem impl_valueOver_ls : loopsOf (codeOf Tryz.f238) 1 = [(122, loopB (codeOf Tryz.f238) 122), (125338, loopB (codeOf Tryz.f238) 125338)] := by kernel_rfl
theorem impl_valueOver_l125338 (k : Nat) : LoopOk (impl_valueOver_F k) (loopB (codeOf Tryz.f238) 125338) 125338 := LoopOk.mk (pin := impl_valueOver_i125338) (pout := impl_valueOver_o125338) (ex := 2) (nx := 224) (Lf := impl_valueOver_f125338 k) (k := k) (by kernel_rfl) (fun _ => rfl) (by intro n x; kernel_rfl)
theorem impl_valueOver_l122 (k : Nat) : LoopOk (impl_valueOver_F k) (loopB (codeOf Tryz.f238) 122) 122 := LoopOk.mk (pin := impl_valueOver_i122) (pout := impl_valueOver_o122) (ex := 0) (nx := 144) (Lf := impl_valueOver_f122 k) (k := k) (by kernel_rfl) (fun _ => rfl) (by intro n x; kernel_rfl)
theorem impl_valueOver_K (k : Nat) : Contract Tryz.prog 238 (impl_valueOver_V k) :=
  contract (C := impl_valueOver_C k) (F := impl_valueOver_F k) (fn := Tryz.f238) (ps := impl_valueOver_ps) (rs := [(ty_10, true), (.bool, false)]) (nx := 32) ⟨tyOf_ok tys_ok, gOf_ok ⟨impl_integer_K, impl_single_K, impl_Term_exponents_K, impl_reckoner_power_K k, impl_reckoner_multiply_K k, impl_reckoner_add_K k, impl_reckoner_result_K, trivial⟩⟩ rfl (by kernel_rfl) (by kernel_rfl) (by kernel_rfl) (by kernel_rfl) (by kernel_rfl) (by kernel_rfl) rfl (by kernel_rfl) (by kernel_rfl) (AnnOk_list [(122, loopB (codeOf Tryz.f238) 122), (125338, loopB (codeOf Tryz.f238) 125338)] impl_valueOver_ls ⟨impl_valueOver_l122 k, impl_valueOver_l125338 k, trivial⟩) mix_ok (impl_valueOver_eq k)

noncomputable def impl_gradientOver_V (k : Nat) : Variant := ⟨[.val ty_4 false, .ptr ty_9 false], [(ty_12, false), (.bool, false)], fun x => impl_gradientOver k x.1 x.2.1⟩
noncomputable def impl_gradientOver_C (k : Nat) : Cfg := ⟨Tryz.prog, tyOf tys, 35, gOf [(239, [], impl_derive_V k), (240, [], impl_Box_sides_V k), (238, [], impl_valueOver_V k)], false, [], []⟩
def impl_gradientOver_i58 : List PE := [⟨0, 32, .val ty_4 false, false⟩, ⟨1, 48, .ptr ty_9 false, false⟩, ⟨6, 64, .eat ty_10, false⟩, ⟨14, 80, .val ty_0 false, false⟩, ⟨15, 96, .val ty_0 false, false⟩]
def impl_gradientOver_o58 : List PE := [⟨6, 32, .eat ty_10, false⟩]
noncomputable def impl_gradientOver_f58 (k : Nat) (n : Nat) (x4 : PTe impl_gradientOver_i58) : Option (((List ((Int × Int) × Int × Int)) × Bool) ⊕ PTe impl_gradientOver_o58) := impl_gradientOver_L58 k n x4.1 x4.2.1 x4.2.2.1 x4.2.2.2.1 x4.2.2.2.2.1
def impl_gradientOver_ps : List PE := [⟨0, 0, .val ty_4 false, false⟩, ⟨1, 16, .ptr ty_9 false, false⟩]
noncomputable def impl_gradientOver_F (k : Nat) : Fn ((List ((Int × Int) × Int × Int)) × Bool) := ⟨impl_gradientOver_C k, rdRes Tryz.prog impl_gradientOver_ps [(ty_12, false), (.bool, false)] Tryz.f186.results.toList .ret, fun p => bif Nat.beq p 58 then some (.loop impl_gradientOver_i58 impl_gradientOver_o58 0 112 (impl_gradientOver_f58 k k)) else none, 0, []⟩
theorem impl_gradientOver_eq (k : Nat) (x : PTe impl_gradientOver_ps) : evFn (impl_gradientOver_F k) (codeOf Tryz.f186) impl_gradientOver_ps 32 x = impl_gradientOver k x.1 x.2.1 := by kernel_rfl
theorem impl_gradientOver_ls : loopsOf (codeOf Tryz.f186) 1 = [(58, loopB (codeOf Tryz.f186) 58)] := by kernel_rfl
theorem impl_gradientOver_l58 (k : Nat) : LoopOk (impl_gradientOver_F k) (loopB (codeOf Tryz.f186) 58) 58 := LoopOk.mk (pin := impl_gradientOver_i58) (pout := impl_gradientOver_o58) (ex := 0) (nx := 112) (Lf := impl_gradientOver_f58 k) (k := k) (by kernel_rfl) (fun _ => rfl) (by intro n x; kernel_rfl)
theorem impl_gradientOver_K (k : Nat) : Contract Tryz.prog 186 (impl_gradientOver_V k) :=
  contract (C := impl_gradientOver_C k) (F := impl_gradientOver_F k) (fn := Tryz.f186) (ps := impl_gradientOver_ps) (rs := [(ty_12, false), (.bool, false)]) (nx := 32) ⟨tyOf_ok tys_ok, gOf_ok ⟨impl_derive_K k, impl_Box_sides_K k, impl_valueOver_K k, trivial⟩⟩ rfl (by kernel_rfl) (by kernel_rfl) (by kernel_rfl) (by kernel_rfl) (by kernel_rfl) (by kernel_rfl) rfl (by kernel_rfl) (by kernel_rfl) (AnnOk_list [(58, loopB (codeOf Tryz.f186) 58)] impl_gradientOver_ls ⟨impl_gradientOver_l58 k, trivial⟩) mix_ok (impl_gradientOver_eq k)

noncomputable def impl_jacobianOver_V (k : Nat) : Variant := ⟨[.val ty_5 false, .ptr ty_9 false], [(ty_13, false), (.bool, false)], fun x => impl_jacobianOver k x.1 x.2.1⟩
noncomputable def impl_jacobianOver_C (k : Nat) : Cfg := ⟨Tryz.prog, tyOf tys, 31, gOf [(186, [], impl_gradientOver_V k)], false, [], []⟩
def impl_jacobianOver_i58 : List PE := [⟨1, 32, .ptr ty_9 false, false⟩, ⟨6, 48, .eat ty_12, false⟩, ⟨11, 64, .val ty_5 false, false⟩, ⟨12, 80, .val ty_0 false, false⟩, ⟨13, 96, .val ty_0 false, false⟩]
def impl_jacobianOver_o58 : List PE := [⟨6, 32, .eat ty_12, false⟩]
noncomputable def impl_jacobianOver_f58 (k : Nat) (n : Nat) (x2 : PTe impl_jacobianOver_i58) : Option (((List (List ((Int × Int) × Int × Int))) × Bool) ⊕ PTe impl_jacobianOver_o58) := impl_jacobianOver_L58 k n x2.1 x2.2.1 x2.2.2.1 x2.2.2.2.1 x2.2.2.2.2.1
def impl_jacobianOver_ps : List PE := [⟨0, 0, .val ty_5 false, false⟩, ⟨1, 16, .ptr ty_9 false, false⟩]
noncomputable def impl_jacobianOver_F (k : Nat) : Fn ((List (List ((Int × Int) × Int × Int))) × Bool) := ⟨impl_jacobianOver_C k, rdRes Tryz.prog impl_jacobianOver_ps [(ty_13, false), (.bool, false)] Tryz.f125.results.toList .ret, fun p => bif Nat.beq p 58 then some (.loop impl_jacobianOver_i58 impl_jacobianOver_o58 0 112 (impl_jacobianOver_f58 k k)) else none, 0, []⟩
theorem impl_jacobianOver_eq (k : Nat) (x : PTe impl_jacobianOver_ps) : evFn (impl_jacobianOver_F k) (codeOf Tryz.f125) impl_jacobianOver_ps 32 x = impl_jacobianOver k x.1 x.2.1 := by kernel_rfl
theorem impl_jacobianOver_ls : loopsOf (codeOf Tryz.f125) 1 = [(58, loopB (codeOf Tryz.f125) 58)] := by kernel_rfl
theorem impl_jacobianOver_l58 (k : Nat) : LoopOk (impl_jacobianOver_F k) (loopB (codeOf Tryz.f125) 58) 58 := LoopOk.mk (pin := impl_jacobianOver_i58) (pout := impl_jacobianOver_o58) (ex := 0) (nx := 112) (Lf := impl_jacobianOver_f58 k) (k := k) (by kernel_rfl) (fun _ => rfl) (by intro n x; kernel_rfl)
theorem impl_jacobianOver_K (k : Nat) : Contract Tryz.prog 125 (impl_jacobianOver_V k) :=
  contract (C := impl_jacobianOver_C k) (F := impl_jacobianOver_F k) (fn := Tryz.f125) (ps := impl_jacobianOver_ps) (rs := [(ty_13, false), (.bool, false)]) (nx := 32) ⟨tyOf_ok tys_ok, gOf_ok ⟨impl_gradientOver_K k, trivial⟩⟩ rfl (by kernel_rfl) (by kernel_rfl) (by kernel_rfl) (by kernel_rfl) (by kernel_rfl) (by kernel_rfl) rfl (by kernel_rfl) (by kernel_rfl) (AnnOk_list [(58, loopB (codeOf Tryz.f125) 58)] impl_jacobianOver_ls ⟨impl_jacobianOver_l58 k, trivial⟩) mix_ok (impl_jacobianOver_eq k)

noncomputable def impl_middleOf_V (k : Nat) : Variant := ⟨[.val ty_1 true, .val ty_1 true], [(ty_1, true), (.bool, false)], fun x => impl_middleOf k x.1 x.2.1⟩
noncomputable def impl_middleOf_C (k : Nat) : Cfg := ⟨Tryz.prog, tyOf tys, 34, gOf [(187, [], impl_wideOf_V), (188, [], impl_wide_shift_V), (189, [], impl_wide_add_V k), (190, [], impl_wide_fit_V k)], false, [], []⟩
def impl_middleOf_ps : List PE := [⟨0, 0, .val ty_1 true, false⟩, ⟨1, 16, .val ty_1 true, false⟩]
noncomputable def impl_middleOf_F (k : Nat) : Fn ((Int × Int) × Bool) := ⟨impl_middleOf_C k, rdRes Tryz.prog impl_middleOf_ps [(ty_1, true), (.bool, false)] Tryz.f127.results.toList .ret, fun p => none, 0, []⟩
theorem impl_middleOf_eq (k : Nat) (x : PTe impl_middleOf_ps) : evFn (impl_middleOf_F k) (codeOf Tryz.f127) impl_middleOf_ps 32 x = impl_middleOf k x.1 x.2.1 := by kernel_rfl
theorem impl_middleOf_K (k : Nat) : Contract Tryz.prog 127 (impl_middleOf_V k) :=
  contract (C := impl_middleOf_C k) (F := impl_middleOf_F k) (fn := Tryz.f127) (ps := impl_middleOf_ps) (rs := [(ty_1, true), (.bool, false)]) (nx := 32) ⟨tyOf_ok tys_ok, gOf_ok ⟨impl_wideOf_K, impl_wide_shift_K, impl_wide_add_K k, impl_wide_fit_K k, trivial⟩⟩ rfl (by kernel_rfl) (by kernel_rfl) (by kernel_rfl) (by kernel_rfl) (by kernel_rfl) (by kernel_rfl) rfl (by kernel_rfl) (by kernel_rfl) (AnnOk_list [] (by kernel_rfl) trivial) mix_ok (impl_middleOf_eq k)

noncomputable def impl_middleJacobian_V (k : Nat) : Variant := ⟨[.val ty_5 false, .ptr ty_9 false], [(ty_14, false), (.bool, false)], fun x => impl_middleJacobian k x.1 x.2.1⟩
noncomputable def impl_middleJacobian_C (k : Nat) : Cfg := ⟨Tryz.prog, tyOf tys, 61, gOf [(125, [], impl_jacobianOver_V k), (127, [], impl_middleOf_V k), (126, [], impl_reckoner_keep_V)], false, [], []⟩
def impl_middleJacobian_i518554 : List PE := [⟨8, 32, .box .bool false, false⟩, ⟨9, 48, .eat ty_11, false⟩, ⟨12, 64, .eat ty_1, false⟩, ⟨25, 80, .val ty_13 false, false⟩, ⟨26, 96, .val ty_0 false, false⟩, ⟨27, 112, .val ty_0 false, false⟩, ⟨31, 128, .val ty_12 false, false⟩, ⟨32, 144, .val ty_0 false, false⟩, ⟨33, 160, .val ty_0 false, false⟩]
def impl_middleJacobian_o518554 : List PE := [⟨8, 32, .box .bool false, false⟩, ⟨9, 48, .eat ty_11, false⟩, ⟨12, 64, .eat ty_1, false⟩, ⟨25, 80, .val ty_13 false, false⟩, ⟨26, 96, .val ty_0 false, false⟩, ⟨27, 112, .val ty_0 false, false⟩]
noncomputable def impl_middleJacobian_f518554 (k : Nat) (n : Nat) (x4 : PTe impl_middleJacobian_i518554) : Option (((List (List (Int × Int))) × Bool) ⊕ PTe impl_middleJacobian_o518554) := impl_middleJacobian_L518554 k n x4.1 x4.2.1 x4.2.2.1 x4.2.2.2.1 x4.2.2.2.2.1 x4.2.2.2.2.2.1 x4.2.2.2.2.2.2.1 x4.2.2.2.2.2.2.2.1 x4.2.2.2.2.2.2.2.2.1
def impl_middleJacobian_i506 : List PE := [⟨8, 32, .box .bool false, false⟩, ⟨9, 48, .eat ty_11, false⟩, ⟨25, 64, .val ty_13 false, false⟩, ⟨26, 80, .val ty_0 false, false⟩, ⟨27, 96, .val ty_0 false, false⟩]
def impl_middleJacobian_o506 : List PE := [⟨8, 32, .box .bool false, false⟩, ⟨9, 48, .eat ty_11, false⟩]
noncomputable def impl_middleJacobian_f506 (k : Nat) (n : Nat) (x7 : PTe impl_middleJacobian_i506) : Option (((List (List (Int × Int))) × Bool) ⊕ PTe impl_middleJacobian_o506) := impl_middleJacobian_L506 k n x7.1 x7.2.1 x7.2.2.1 x7.2.2.2.1 x7.2.2.2.2.1
def impl_middleJacobian_ps : List PE := [⟨0, 0, .val ty_5 false, false⟩, ⟨1, 16, .ptr ty_9 false, false⟩]
noncomputable def impl_middleJacobian_F (k : Nat) : Fn ((List (List (Int × Int))) × Bool) := ⟨impl_middleJacobian_C k, rdRes Tryz.prog impl_middleJacobian_ps [(ty_14, false), (.bool, false)] Tryz.f79.results.toList .ret, fun p => bif Nat.beq p 518554 then some (.loop impl_middleJacobian_i518554 impl_middleJacobian_o518554 2 176 (impl_middleJacobian_f518554 k k)) else bif Nat.beq p 506 then some (.loop impl_middleJacobian_i506 impl_middleJacobian_o506 0 112 (impl_middleJacobian_f506 k k)) else none, 0, []⟩
theorem impl_middleJacobian_eq (k : Nat) (x : PTe impl_middleJacobian_ps) : evFn (impl_middleJacobian_F k) (codeOf Tryz.f79) impl_middleJacobian_ps 32 x = impl_middleJacobian k x.1 x.2.1 := by kernel_rfl
theorem impl_middleJacobian_ls : loopsOf (codeOf Tryz.f79) 1 = [(506, loopB (codeOf Tryz.f79) 506), (518554, loopB (codeOf Tryz.f79) 518554)] := by kernel_rfl
theorem impl_middleJacobian_l518554 (k : Nat) : LoopOk (impl_middleJacobian_F k) (loopB (codeOf Tryz.f79) 518554) 518554 := LoopOk.mk (pin := impl_middleJacobian_i518554) (pout := impl_middleJacobian_o518554) (ex := 2) (nx := 176) (Lf := impl_middleJacobian_f518554 k) (k := k) (by kernel_rfl) (fun _ => rfl) (by intro n x; kernel_rfl)
theorem impl_middleJacobian_l506 (k : Nat) : LoopOk (impl_middleJacobian_F k) (loopB (codeOf Tryz.f79) 506) 506 := LoopOk.mk (pin := impl_middleJacobian_i506) (pout := impl_middleJacobian_o506) (ex := 0) (nx := 112) (Lf := impl_middleJacobian_f506 k) (k := k) (by kernel_rfl) (fun _ => rfl) (by intro n x; kernel_rfl)
theorem impl_middleJacobian_K (k : Nat) : Contract Tryz.prog 79 (impl_middleJacobian_V k) :=
  contract (C := impl_middleJacobian_C k) (F := impl_middleJacobian_F k) (fn := Tryz.f79) (ps := impl_middleJacobian_ps) (rs := [(ty_14, false), (.bool, false)]) (nx := 32) ⟨tyOf_ok tys_ok, gOf_ok ⟨impl_jacobianOver_K k, impl_middleOf_K k, impl_reckoner_keep_K, trivial⟩⟩ rfl (by kernel_rfl) (by kernel_rfl) (by kernel_rfl) (by kernel_rfl) (by kernel_rfl) (by kernel_rfl) rfl (by kernel_rfl) (by kernel_rfl) (AnnOk_list [(506, loopB (codeOf Tryz.f79) 506), (518554, loopB (codeOf Tryz.f79) 518554)] impl_middleJacobian_ls ⟨impl_middleJacobian_l506 k, impl_middleJacobian_l518554 k, trivial⟩) mix_ok (impl_middleJacobian_eq k)

noncomputable def slices_Grow_Dyadic_Dyadic_V : Variant := ⟨[.lit (.slice none 0 0), .val ty_0 false], [(ty_11, false)], fun x => slices_Grow_Dyadic_Dyadic x.1 x.2.1⟩
noncomputable def slices_Grow_Dyadic_Dyadic_C : Cfg := ⟨Tryz.prog, tyOf tys, 27, gOf [], true, [], []⟩
def slices_Grow_Dyadic_Dyadic_ps : List PE := [⟨0, 0, .lit (.slice none 0 0), false⟩, ⟨1, 16, .val ty_0 false, false⟩]
noncomputable def slices_Grow_Dyadic_Dyadic_F : Fn (List (Int × Int)) := ⟨slices_Grow_Dyadic_Dyadic_C, rdRes Tryz.prog slices_Grow_Dyadic_Dyadic_ps [(ty_11, false)] Tryz.f295.results.toList .ret, fun p => none, 0, []⟩
theorem slices_Grow_Dyadic_Dyadic_eq (x : PTe slices_Grow_Dyadic_Dyadic_ps) : evFn (slices_Grow_Dyadic_Dyadic_F) (codeOf Tryz.f295) slices_Grow_Dyadic_Dyadic_ps 32 x = slices_Grow_Dyadic_Dyadic x.1 x.2.1 := by kernel_rfl
theorem slices_Grow_Dyadic_Dyadic_K : Contract Tryz.prog 295 (slices_Grow_Dyadic_Dyadic_V) :=
  contract (C := slices_Grow_Dyadic_Dyadic_C) (F := slices_Grow_Dyadic_Dyadic_F) (fn := Tryz.f295) (ps := slices_Grow_Dyadic_Dyadic_ps) (rs := [(ty_11, false)]) (nx := 32) ⟨tyOf_ok tys_ok, gOf_ok trivial⟩ rfl (by kernel_rfl) (by kernel_rfl) (by kernel_rfl) (by kernel_rfl) (by kernel_rfl) (by kernel_rfl) rfl (by kernel_rfl) (by kernel_rfl) (AnnOk_list [] (by kernel_rfl) trivial) mix_ok (slices_Grow_Dyadic_Dyadic_eq)
end Go.Ev.G
