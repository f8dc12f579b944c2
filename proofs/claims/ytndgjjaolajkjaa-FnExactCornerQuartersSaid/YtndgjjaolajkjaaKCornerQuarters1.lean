/- The contracts of the functions behind FnExactCornerQuarters: a call of each returns what its plain function computes; for all inputs within the sizes named. -/
import Derived.Test.YtndgjjaolajkjaaPCornerQuarters1
import Derived.Test.YtndgjjaolajkjaaProg
set_option linter.unusedVariables false
namespace Go.Ev.G
open Go Go.Ev Go.Proofs
set_option maxRecDepth 100000
abbrev ty_0 : Ty := (.int .i64)

abbrev ty_1 : Ty := (.pair ty_0 ty_0)

abbrev ty_2 : Ty := (.pair ty_0 ty_1)

abbrev ty_3 : Ty := (.pair ty_0 ty_2)

abbrev ty_4 : Ty := (.sl ty_3)

abbrev ty_5 : Ty := (.sl ty_4)

abbrev ty_6 : Ty := (.rm ty_3)

abbrev ty_7 : Ty := (.sl ty_0)

abbrev ty_8 : Ty := (.pair ty_7 ty_7)

abbrev ty_9 : Ty := (.pair ty_0 ty_8)

abbrev ty_10 : Ty := (.pair ty_1 ty_1)

abbrev ty_11 : Ty := (.pair ty_1 ty_10)

abbrev ty_12 : Ty := (.pair ty_0 ty_11)

abbrev ty_13 : Ty := (.sl ty_1)

abbrev ty_14 : Ty := (.int .u64)

abbrev ty_15 : Ty := (.pair ty_14 ty_14)

abbrev ty_16 : Ty := (.pair .bool ty_15)

abbrev ty_17 : Ty := (.rm ty_6)

abbrev ty_18 : Ty := (.rm ty_0)

abbrev ty_19 : Ty := (.pair ty_18 ty_18)

abbrev ty_20 : Ty := (.pair ty_0 ty_19)

abbrev ty_21 : Ty := (.sl ty_12)

def tys : List (TypeId × Ty) := [(3, ty_0), (78, ty_1), (80, ty_12)]

theorem tys_ok : AllT Try.prog tys := ⟨⟨_, _, rfl, rfl, rfl, rfl⟩, ⟨_, _, rfl, rfl, rfl, rfl⟩, ⟨_, _, rfl, rfl, rfl, rfl⟩, trivial⟩

def tysR : List (TypeId × Ty) := [(3, ty_0), (61, ty_6), (85, ty_3)]

theorem tysR_ok : AllT Try.prog tysR := ⟨⟨_, _, rfl, rfl, rfl, rfl⟩, ⟨_, _, rfl, rfl, rfl, rfl⟩, ⟨_, _, rfl, rfl, rfl, rfl⟩, trivial⟩

theorem mix_ok : Try.prog.follows .mixedOrders = true := by kernel_rfl

noncomputable def laws_szTermS_V : Variant := ⟨[.val ty_4 false, .val ty_0 false], [(ty_0, false)], fun x => laws_szTermS x.1 x.2.1⟩
noncomputable def laws_szTermS_C : Cfg := ⟨Try.prog, tyOf tys, 12, gOf [], false, [], []⟩
def laws_szTermS_ps : List PE := [⟨0, 0, .val ty_4 false, false⟩, ⟨1, 16, .val ty_0 false, false⟩]
noncomputable def laws_szTermS_F : Fn (Int) := ⟨laws_szTermS_C, rdRes Try.prog laws_szTermS_ps [(ty_0, false)] Try.f35.results.toList .ret, fun p => none, 0, []⟩
theorem laws_szTermS_eq (x : PTe laws_szTermS_ps) : evFn (laws_szTermS_F) (codeOf Try.f35) laws_szTermS_ps 32 x = laws_szTermS x.1 x.2.1 := by kernel_rfl
theorem laws_szTermS_K : Contract Try.prog 35 (laws_szTermS_V) :=
  contract (C := laws_szTermS_C) (F := laws_szTermS_F) (fn := Try.f35) (ps := laws_szTermS_ps) (rs := [(ty_0, false)]) (nx := 32) ⟨tyOf_ok tys_ok, gOf_ok trivial⟩ rfl (by kernel_rfl) (by kernel_rfl) (by kernel_rfl) (by kernel_rfl) (by kernel_rfl) (by kernel_rfl) rfl (by kernel_rfl) (by kernel_rfl) (AnnOk_list [] (by kernel_rfl) trivial) mix_ok (laws_szTermS_eq)

noncomputable def laws_szTermSS_V (k : Nat) : Variant := ⟨[.val ty_5 false, .val ty_0 false], [(ty_0, false)], fun x => laws_szTermSS k x.1 x.2.1⟩
noncomputable def laws_szTermSS_C (k : Nat) : Cfg := ⟨Try.prog, tyOf tys, 27, gOf [(35, [], laws_szTermS_V)], false, [], []⟩
def laws_szTermSS_i122 : List PE := [⟨0, 32, .val ty_5 false, false⟩, ⟨1, 48, .val ty_0 false, false⟩, ⟨5, 64, .val ty_0 false, false⟩]
def laws_szTermSS_o122 : List PE := [⟨1, 32, .val ty_0 false, false⟩]
noncomputable def laws_szTermSS_f122 (k : Nat) (n : Nat) (x2 : PTe laws_szTermSS_i122) : Option ((Int) ⊕ PTe laws_szTermSS_o122) := laws_szTermSS_L122 k n x2.1 x2.2.1 x2.2.2.1
def laws_szTermSS_ps : List PE := [⟨0, 0, .val ty_5 false, false⟩, ⟨1, 16, .val ty_0 false, false⟩]
noncomputable def laws_szTermSS_F (k : Nat) : Fn (Int) := ⟨laws_szTermSS_C k, rdRes Try.prog laws_szTermSS_ps [(ty_0, false)] Try.f9.results.toList .ret, fun p => bif Nat.beq p 122 then some (.loop laws_szTermSS_i122 laws_szTermSS_o122 0 80 (laws_szTermSS_f122 k k)) else none, 0, []⟩
theorem laws_szTermSS_eq (k : Nat) (x : PTe laws_szTermSS_ps) : evFn (laws_szTermSS_F k) (codeOf Try.f9) laws_szTermSS_ps 32 x = laws_szTermSS k x.1 x.2.1 := by kernel_rfl
theorem laws_szTermSS_ls : loopsOf (codeOf Try.f9) 1 = [(122, loopB (codeOf Try.f9) 122)] := by kernel_rfl
theorem laws_szTermSS_l122 (k : Nat) : LoopOk (laws_szTermSS_F k) (loopB (codeOf Try.f9) 122) 122 := LoopOk.mk (pin := laws_szTermSS_i122) (pout := laws_szTermSS_o122) (ex := 0) (nx := 80) (Lf := laws_szTermSS_f122 k) (k := k) (by kernel_rfl) (fun _ => rfl) (by intro n x; kernel_rfl)
theorem laws_szTermSS_K (k : Nat) : Contract Try.prog 9 (laws_szTermSS_V k) :=
  contract (C := laws_szTermSS_C k) (F := laws_szTermSS_F k) (fn := Try.f9) (ps := laws_szTermSS_ps) (rs := [(ty_0, false)]) (nx := 32) ⟨tyOf_ok tys_ok, gOf_ok ⟨laws_szTermS_K, trivial⟩⟩ rfl (by kernel_rfl) (by kernel_rfl) (by kernel_rfl) (by kernel_rfl) (by kernel_rfl) (by kernel_rfl) rfl (by kernel_rfl) (by kernel_rfl) (AnnOk_list [(122, loopB (codeOf Try.f9) 122)] laws_szTermSS_ls ⟨laws_szTermSS_l122 k, trivial⟩) mix_ok (laws_szTermSS_eq k)

noncomputable def laws_szIntS_V : Variant := ⟨[.val ty_7 false, .val ty_0 false], [(ty_0, false)], fun x => laws_szIntS x.1 x.2.1⟩
noncomputable def laws_szIntS_C : Cfg := ⟨Try.prog, tyOf tys, 12, gOf [], false, [], []⟩
def laws_szIntS_ps : List PE := [⟨0, 0, .val ty_7 false, false⟩, ⟨1, 16, .val ty_0 false, false⟩]
noncomputable def laws_szIntS_F : Fn (Int) := ⟨laws_szIntS_C, rdRes Try.prog laws_szIntS_ps [(ty_0, false)] Try.f48.results.toList .ret, fun p => none, 0, []⟩
theorem laws_szIntS_eq (x : PTe laws_szIntS_ps) : evFn (laws_szIntS_F) (codeOf Try.f48) laws_szIntS_ps 32 x = laws_szIntS x.1 x.2.1 := by kernel_rfl
theorem laws_szIntS_K : Contract Try.prog 48 (laws_szIntS_V) :=
  contract (C := laws_szIntS_C) (F := laws_szIntS_F) (fn := Try.f48) (ps := laws_szIntS_ps) (rs := [(ty_0, false)]) (nx := 32) ⟨tyOf_ok tys_ok, gOf_ok trivial⟩ rfl (by kernel_rfl) (by kernel_rfl) (by kernel_rfl) (by kernel_rfl) (by kernel_rfl) (by kernel_rfl) rfl (by kernel_rfl) (by kernel_rfl) (AnnOk_list [] (by kernel_rfl) trivial) mix_ok (laws_szIntS_eq)

noncomputable def laws_szBox_V : Variant := ⟨[.val ty_9 true, .val ty_0 false], [(ty_0, false)], fun x => laws_szBox x.1 x.2.1⟩
noncomputable def laws_szBox_C : Cfg := ⟨Try.prog, tyOf tys, 18, gOf [(48, [], laws_szIntS_V)], false, [], []⟩
def laws_szBox_ps : List PE := [⟨0, 0, .val ty_9 true, false⟩, ⟨1, 16, .val ty_0 false, false⟩]
noncomputable def laws_szBox_F : Fn (Int) := ⟨laws_szBox_C, rdRes Try.prog laws_szBox_ps [(ty_0, false)] Try.f10.results.toList .ret, fun p => none, 0, []⟩
theorem laws_szBox_eq (x : PTe laws_szBox_ps) : evFn (laws_szBox_F) (codeOf Try.f10) laws_szBox_ps 32 x = laws_szBox x.1 x.2.1 := by kernel_rfl
theorem laws_szBox_K : Contract Try.prog 10 (laws_szBox_V) :=
  contract (C := laws_szBox_C) (F := laws_szBox_F) (fn := Try.f10) (ps := laws_szBox_ps) (rs := [(ty_0, false)]) (nx := 32) ⟨tyOf_ok tys_ok, gOf_ok ⟨laws_szIntS_K, trivial⟩⟩ rfl (by kernel_rfl) (by kernel_rfl) (by kernel_rfl) (by kernel_rfl) (by kernel_rfl) (by kernel_rfl) rfl (by kernel_rfl) (by kernel_rfl) (AnnOk_list [] (by kernel_rfl) trivial) mix_ok (laws_szBox_eq)

noncomputable def laws_roomBehind_V : Variant := ⟨[.val ty_0 false], [(ty_0, false)], fun x => laws_roomBehind x.1⟩
noncomputable def laws_roomBehind_C : Cfg := ⟨Try.prog, tyOf tys, 10, gOf [], false, [], []⟩
def laws_roomBehind_ps : List PE := [⟨0, 0, .val ty_0 false, false⟩]
noncomputable def laws_roomBehind_F : Fn (Int) := ⟨laws_roomBehind_C, rdRes Try.prog laws_roomBehind_ps [(ty_0, false)] Try.f53.results.toList .ret, fun p => none, 0, []⟩
theorem laws_roomBehind_eq (x : PTe laws_roomBehind_ps) : evFn (laws_roomBehind_F) (codeOf Try.f53) laws_roomBehind_ps 16 x = laws_roomBehind x.1 := by kernel_rfl
theorem laws_roomBehind_K : Contract Try.prog 53 (laws_roomBehind_V) :=
  contract (C := laws_roomBehind_C) (F := laws_roomBehind_F) (fn := Try.f53) (ps := laws_roomBehind_ps) (rs := [(ty_0, false)]) (nx := 16) ⟨tyOf_ok tys_ok, gOf_ok trivial⟩ rfl (by kernel_rfl) (by kernel_rfl) (by kernel_rfl) (by kernel_rfl) (by kernel_rfl) (by kernel_rfl) rfl (by kernel_rfl) (by kernel_rfl) (AnnOk_list [] (by kernel_rfl) trivial) mix_ok (laws_roomBehind_eq)

noncomputable def laws_toTerm_V : Variant := ⟨[.val ty_3 true], [(ty_3, true)], fun x => laws_toTerm x.1⟩
noncomputable def laws_toTerm_C : Cfg := ⟨Try.prog, tyOf tysR, 17, gOf [], true, [], []⟩
def laws_toTerm_ps : List PE := [⟨0, 0, .val ty_3 true, false⟩]
noncomputable def laws_toTerm_F : Fn (Int × Int × Int × Int) := ⟨laws_toTerm_C, rdRes Try.prog laws_toTerm_ps [(ty_3, true)] Try.f87.results.toList .ret, fun p => none, 0, []⟩
theorem laws_toTerm_eq (x : PTe laws_toTerm_ps) : evFn (laws_toTerm_F) (codeOf Try.f87) laws_toTerm_ps 16 x = laws_toTerm x.1 := by kernel_rfl
theorem laws_toTerm_K : Contract Try.prog 87 (laws_toTerm_V) :=
  contract (C := laws_toTerm_C) (F := laws_toTerm_F) (fn := Try.f87) (ps := laws_toTerm_ps) (rs := [(ty_3, true)]) (nx := 16) ⟨tyOf_ok tysR_ok, gOf_ok trivial⟩ rfl (by kernel_rfl) (by kernel_rfl) (by kernel_rfl) (by kernel_rfl) (by kernel_rfl) (by kernel_rfl) rfl (by kernel_rfl) (by kernel_rfl) (AnnOk_list [] (by kernel_rfl) trivial) mix_ok (laws_toTerm_eq)

noncomputable def laws_fillerTerm_V : Variant := ⟨[], [(ty_3, true)], fun x => laws_fillerTerm⟩
noncomputable def laws_fillerTerm_C : Cfg := ⟨Try.prog, tyOf tys, 2, gOf [], false, [], []⟩
def laws_fillerTerm_ps : List PE := []
noncomputable def laws_fillerTerm_F : Fn (Int × Int × Int × Int) := ⟨laws_fillerTerm_C, rdRes Try.prog laws_fillerTerm_ps [(ty_3, true)] Try.f54.results.toList .ret, fun p => none, 0, []⟩
theorem laws_fillerTerm_eq (x : PTe laws_fillerTerm_ps) : evFn (laws_fillerTerm_F) (codeOf Try.f54) laws_fillerTerm_ps 0 x = laws_fillerTerm := by kernel_rfl
theorem laws_fillerTerm_K : Contract Try.prog 54 (laws_fillerTerm_V) :=
  contract (C := laws_fillerTerm_C) (F := laws_fillerTerm_F) (fn := Try.f54) (ps := laws_fillerTerm_ps) (rs := [(ty_3, true)]) (nx := 0) ⟨tyOf_ok tys_ok, gOf_ok trivial⟩ rfl (by kernel_rfl) (by kernel_rfl) (by kernel_rfl) (by kernel_rfl) (by kernel_rfl) (by kernel_rfl) rfl (by kernel_rfl) (by kernel_rfl) (AnnOk_list [] (by kernel_rfl) trivial) mix_ok (laws_fillerTerm_eq)

noncomputable def laws_toTermS_V (k : Nat) : Variant := ⟨[.val ty_4 false, .val .bool false], [(ty_6, false)], fun x => laws_toTermS k x.1 x.2.1⟩
noncomputable def laws_toTermS_C (k : Nat) : Cfg := ⟨Try.prog, tyOf tysR, 51, gOf [(53, [], laws_roomBehind_V), (87, [], laws_toTerm_V), (54, [], laws_fillerTerm_V)], true, [], []⟩
def laws_toTermS_i122 : List PE := [⟨0, 32, .val ty_4 false, false⟩, ⟨5, 48, .eat ty_3, false⟩, ⟨6, 64, .val ty_0 false, false⟩]
def laws_toTermS_o122 : List PE := [⟨0, 32, .val ty_4 false, false⟩, ⟨5, 48, .eat ty_3, false⟩]
noncomputable def laws_toTermS_f122 (k : Nat) (n : Nat) (x4 : PTe laws_toTermS_i122) : Option ((List (Int × Int × Int × Int) × List (Int × Int × Int × Int)) ⊕ PTe laws_toTermS_o122) := laws_toTermS_L122 k n x4.1 x4.2.1 x4.2.2.1
def laws_toTermS_i250 : List PE := [⟨0, 32, .val ty_4 false, false⟩, ⟨5, 48, .eat ty_3, false⟩, ⟨7, 64, .val ty_0 false, false⟩]
def laws_toTermS_o250 : List PE := [⟨0, 32, .val ty_4 false, false⟩, ⟨5, 48, .eat ty_3, false⟩]
noncomputable def laws_toTermS_f250 (k : Nat) (n : Nat) (x8 : PTe laws_toTermS_i250) : Option ((List (Int × Int × Int × Int) × List (Int × Int × Int × Int)) ⊕ PTe laws_toTermS_o250) := laws_toTermS_L250 k n x8.1 x8.2.1 x8.2.2.1
def laws_toTermS_ps : List PE := [⟨0, 0, .val ty_4 false, false⟩, ⟨1, 16, .val .bool false, false⟩]
noncomputable def laws_toTermS_F (k : Nat) : Fn (List (Int × Int × Int × Int) × List (Int × Int × Int × Int)) := ⟨laws_toTermS_C k, rdRes Try.prog laws_toTermS_ps [(ty_6, false)] Try.f37.results.toList .ret, fun p => bif Nat.beq p 122 then some (.loop laws_toTermS_i122 laws_toTermS_o122 0 80 (laws_toTermS_f122 k k)) else bif Nat.beq p 250 then some (.loop laws_toTermS_i250 laws_toTermS_o250 2 80 (laws_toTermS_f250 k k)) else bif Nat.beq p 6 then some (.cut [⟨0, 32, .val ty_4 false, false⟩] 48) else none, 0, []⟩
theorem laws_toTermS_eq (k : Nat) (x : PTe laws_toTermS_ps) : evFn (laws_toTermS_F k) (codeOf Try.f37) laws_toTermS_ps 32 x = laws_toTermS k x.1 x.2.1 := by kernel_rfl
theorem laws_toTermS_ls : loopsOf (codeOf Try.f37) 1 = [(122, loopB (codeOf Try.f37) 122), (250, loopB (codeOf Try.f37) 250)] := by kernel_rfl
theorem laws_toTermS_l122 (k : Nat) : LoopOk (laws_toTermS_F k) (loopB (codeOf Try.f37) 122) 122 := LoopOk.mk (pin := laws_toTermS_i122) (pout := laws_toTermS_o122) (ex := 0) (nx := 80) (Lf := laws_toTermS_f122 k) (k := k) (by kernel_rfl) (fun _ => rfl) (by intro n x; kernel_rfl)
theorem laws_toTermS_l250 (k : Nat) : LoopOk (laws_toTermS_F k) (loopB (codeOf Try.f37) 250) 250 := LoopOk.mk (pin := laws_toTermS_i250) (pout := laws_toTermS_o250) (ex := 2) (nx := 80) (Lf := laws_toTermS_f250 k) (k := k) (by kernel_rfl) (fun _ => rfl) (by intro n x; kernel_rfl)
theorem laws_toTermS_K (k : Nat) : Contract Try.prog 37 (laws_toTermS_V k) :=
  contract (C := laws_toTermS_C k) (F := laws_toTermS_F k) (fn := Try.f37) (ps := laws_toTermS_ps) (rs := [(ty_6, false)]) (nx := 32) ⟨tyOf_ok tysR_ok, gOf_ok ⟨laws_roomBehind_K, laws_toTerm_K, laws_fillerTerm_K, trivial⟩⟩ rfl (by kernel_rfl) (by kernel_rfl) (by kernel_rfl) (by kernel_rfl) (by kernel_rfl) (by kernel_rfl) rfl (by kernel_rfl) (by kernel_rfl) (AnnOk_list [(122, loopB (codeOf Try.f37) 122), (250, loopB (codeOf Try.f37) 250)] laws_toTermS_ls ⟨laws_toTermS_l122 k, laws_toTermS_l250 k, trivial⟩) mix_ok (laws_toTermS_eq k)

noncomputable def laws_toTermSS_V (k : Nat) : Variant := ⟨[.val ty_5 false, .val .bool false], [(ty_17, false)], fun x => laws_toTermSS k x.1 x.2.1⟩
noncomputable def laws_toTermSS_C (k : Nat) : Cfg := ⟨Try.prog, tyOf tysR, 53, gOf [(53, [], laws_roomBehind_V), (37, [], laws_toTermS_V k), (54, [], laws_fillerTerm_V)], true, [5, 27, 39, 44], []⟩
def laws_toTermSS_i122 : List PE := [⟨0, 32, .val ty_5 false, false⟩, ⟨1, 48, .val .bool false, false⟩, ⟨5, 64, .eat ty_6, false⟩, ⟨6, 80, .val ty_0 false, false⟩]
def laws_toTermSS_o122 : List PE := [⟨0, 32, .val ty_5 false, false⟩, ⟨5, 48, .eat ty_6, false⟩]
noncomputable def laws_toTermSS_f122 (k : Nat) (n : Nat) (x4 : PTe laws_toTermSS_i122) : Option ((List (List (Int × Int × Int × Int) × List (Int × Int × Int × Int)) × List (List (Int × Int × Int × Int) × List (Int × Int × Int × Int))) ⊕ PTe laws_toTermSS_o122) := laws_toTermSS_L122 k n x4.1 x4.2.1 x4.2.2.1 x4.2.2.2.1
def laws_toTermSS_i250 : List PE := [⟨0, 32, .val ty_5 false, false⟩, ⟨5, 48, .eat ty_6, false⟩, ⟨7, 64, .val ty_0 false, false⟩]
def laws_toTermSS_o250 : List PE := [⟨0, 32, .val ty_5 false, false⟩, ⟨5, 48, .eat ty_6, false⟩]
noncomputable def laws_toTermSS_f250 (k : Nat) (n : Nat) (x8 : PTe laws_toTermSS_i250) : Option ((List (List (Int × Int × Int × Int) × List (Int × Int × Int × Int)) × List (List (Int × Int × Int × Int) × List (Int × Int × Int × Int))) ⊕ PTe laws_toTermSS_o250) := laws_toTermSS_L250 k n x8.1 x8.2.1 x8.2.2.1
def laws_toTermSS_ps : List PE := [⟨0, 0, .val ty_5 false, false⟩, ⟨1, 16, .val .bool false, false⟩]
noncomputable def laws_toTermSS_F (k : Nat) : Fn (List (List (Int × Int × Int × Int) × List (Int × Int × Int × Int)) × List (List (Int × Int × Int × Int) × List (Int × Int × Int × Int))) := ⟨laws_toTermSS_C k, rdRes Try.prog laws_toTermSS_ps [(ty_17, false)] Try.f12.results.toList .ret, fun p => bif Nat.beq p 122 then some (.loop laws_toTermSS_i122 laws_toTermSS_o122 0 96 (laws_toTermSS_f122 k k)) else bif Nat.beq p 250 then some (.loop laws_toTermSS_i250 laws_toTermSS_o250 2 80 (laws_toTermSS_f250 k k)) else bif Nat.beq p 6 then some (.cut [⟨0, 32, .val ty_5 false, false⟩, ⟨1, 48, .val .bool false, false⟩] 64) else none, 0, []⟩
theorem laws_toTermSS_eq (k : Nat) (x : PTe laws_toTermSS_ps) : evFn (laws_toTermSS_F k) (codeOf Try.f12) laws_toTermSS_ps 32 x = laws_toTermSS k x.1 x.2.1 := by kernel_rfl
theorem laws_toTermSS_ls : loopsOf (codeOf Try.f12) 1 = [(122, loopB (codeOf Try.f12) 122), (250, loopB (codeOf Try.f12) 250)] := by kernel_rfl
theorem laws_toTermSS_l122 (k : Nat) : LoopOk (laws_toTermSS_F k) (loopB (codeOf Try.f12) 122) 122 := LoopOk.mk (pin := laws_toTermSS_i122) (pout := laws_toTermSS_o122) (ex := 0) (nx := 96) (Lf := laws_toTermSS_f122 k) (k := k) (by kernel_rfl) (fun _ => rfl) (by intro n x; kernel_rfl)
theorem laws_toTermSS_l250 (k : Nat) : LoopOk (laws_toTermSS_F k) (loopB (codeOf Try.f12) 250) 250 := LoopOk.mk (pin := laws_toTermSS_i250) (pout := laws_toTermSS_o250) (ex := 2) (nx := 80) (Lf := laws_toTermSS_f250 k) (k := k) (by kernel_rfl) (fun _ => rfl) (by intro n x; kernel_rfl)
theorem laws_toTermSS_K (k : Nat) : Contract Try.prog 12 (laws_toTermSS_V k) :=
  contract (C := laws_toTermSS_C k) (F := laws_toTermSS_F k) (fn := Try.f12) (ps := laws_toTermSS_ps) (rs := [(ty_17, false)]) (nx := 32) ⟨tyOf_ok tysR_ok, gOf_ok ⟨laws_roomBehind_K, laws_toTermS_K k, laws_fillerTerm_K, trivial⟩⟩ rfl (by kernel_rfl) (by kernel_rfl) (by kernel_rfl) (by kernel_rfl) (by kernel_rfl) (by kernel_rfl) rfl (by kernel_rfl) (by kernel_rfl) (AnnOk_list [(122, loopB (codeOf Try.f12) 122), (250, loopB (codeOf Try.f12) 250)] laws_toTermSS_ls ⟨laws_toTermSS_l122 k, laws_toTermSS_l250 k, trivial⟩) mix_ok (laws_toTermSS_eq k)

noncomputable def laws_toIntS_V (k : Nat) : Variant := ⟨[.val ty_7 false, .val .bool false], [(ty_18, false)], fun x => laws_toIntS k x.1 x.2.1⟩
noncomputable def laws_toIntS_C (k : Nat) : Cfg := ⟨Try.prog, tyOf tysR, 49, gOf [(53, [], laws_roomBehind_V)], true, [], []⟩
def laws_toIntS_i122 : List PE := [⟨0, 32, .val ty_7 false, false⟩, ⟨5, 48, .eat ty_0, false⟩, ⟨6, 64, .val ty_0 false, false⟩]
def laws_toIntS_o122 : List PE := [⟨0, 32, .val ty_7 false, false⟩, ⟨5, 48, .eat ty_0, false⟩]
noncomputable def laws_toIntS_f122 (k : Nat) (n : Nat) (x3 : PTe laws_toIntS_i122) : Option ((List Int × List Int) ⊕ PTe laws_toIntS_o122) := laws_toIntS_L122 k n x3.1 x3.2.1 x3.2.2.1
def laws_toIntS_i250 : List PE := [⟨0, 32, .val ty_7 false, false⟩, ⟨5, 48, .eat ty_0, false⟩, ⟨7, 64, .val ty_0 false, false⟩]
def laws_toIntS_o250 : List PE := [⟨0, 32, .val ty_7 false, false⟩, ⟨5, 48, .eat ty_0, false⟩]
noncomputable def laws_toIntS_f250 (k : Nat) (n : Nat) (x6 : PTe laws_toIntS_i250) : Option ((List Int × List Int) ⊕ PTe laws_toIntS_o250) := laws_toIntS_L250 k n x6.1 x6.2.1 x6.2.2.1
def laws_toIntS_ps : List PE := [⟨0, 0, .val ty_7 false, false⟩, ⟨1, 16, .val .bool false, false⟩]
noncomputable def laws_toIntS_F (k : Nat) : Fn (List Int × List Int) := ⟨laws_toIntS_C k, rdRes Try.prog laws_toIntS_ps [(ty_18, false)] Try.f55.results.toList .ret, fun p => bif Nat.beq p 122 then some (.loop laws_toIntS_i122 laws_toIntS_o122 0 80 (laws_toIntS_f122 k k)) else bif Nat.beq p 250 then some (.loop laws_toIntS_i250 laws_toIntS_o250 2 80 (laws_toIntS_f250 k k)) else bif Nat.beq p 6 then some (.cut [⟨0, 32, .val ty_7 false, false⟩] 48) else none, 0, []⟩
theorem laws_toIntS_eq (k : Nat) (x : PTe laws_toIntS_ps) : evFn (laws_toIntS_F k) (codeOf Try.f55) laws_toIntS_ps 32 x = laws_toIntS k x.1 x.2.1 := by kernel_rfl
theorem laws_toIntS_ls : loopsOf (codeOf Try.f55) 1 = [(122, loopB (codeOf Try.f55) 122), (250, loopB (codeOf Try.f55) 250)] := by kernel_rfl
theorem laws_toIntS_l122 (k : Nat) : LoopOk (laws_toIntS_F k) (loopB (codeOf Try.f55) 122) 122 := LoopOk.mk (pin := laws_toIntS_i122) (pout := laws_toIntS_o122) (ex := 0) (nx := 80) (Lf := laws_toIntS_f122 k) (k := k) (by kernel_rfl) (fun _ => rfl) (by intro n x; kernel_rfl)
theorem laws_toIntS_l250 (k : Nat) : LoopOk (laws_toIntS_F k) (loopB (codeOf Try.f55) 250) 250 := LoopOk.mk (pin := laws_toIntS_i250) (pout := laws_toIntS_o250) (ex := 2) (nx := 80) (Lf := laws_toIntS_f250 k) (k := k) (by kernel_rfl) (fun _ => rfl) (by intro n x; kernel_rfl)
theorem laws_toIntS_K (k : Nat) : Contract Try.prog 55 (laws_toIntS_V k) :=
  contract (C := laws_toIntS_C k) (F := laws_toIntS_F k) (fn := Try.f55) (ps := laws_toIntS_ps) (rs := [(ty_18, false)]) (nx := 32) ⟨tyOf_ok tysR_ok, gOf_ok ⟨laws_roomBehind_K, trivial⟩⟩ rfl (by kernel_rfl) (by kernel_rfl) (by kernel_rfl) (by kernel_rfl) (by kernel_rfl) (by kernel_rfl) rfl (by kernel_rfl) (by kernel_rfl) (AnnOk_list [(122, loopB (codeOf Try.f55) 122), (250, loopB (codeOf Try.f55) 250)] laws_toIntS_ls ⟨laws_toIntS_l122 k, laws_toIntS_l250 k, trivial⟩) mix_ok (laws_toIntS_eq k)

noncomputable def laws_toBox_V (k : Nat) : Variant := ⟨[.val ty_9 true, .val .bool false], [(ty_20, true)], fun x => laws_toBox k x.1 x.2.1⟩
noncomputable def laws_toBox_C (k : Nat) : Cfg := ⟨Try.prog, tyOf tysR, 20, gOf [(55, [], laws_toIntS_V k)], true, [], []⟩
def laws_toBox_ps : List PE := [⟨0, 0, .val ty_9 true, false⟩, ⟨1, 16, .val .bool false, false⟩]
noncomputable def laws_toBox_F (k : Nat) : Fn (Int × (List Int × List Int) × List Int × List Int) := ⟨laws_toBox_C k, rdRes Try.prog laws_toBox_ps [(ty_20, true)] Try.f13.results.toList .ret, fun p => none, 0, []⟩
theorem laws_toBox_eq (k : Nat) (x : PTe laws_toBox_ps) : evFn (laws_toBox_F k) (codeOf Try.f13) laws_toBox_ps 32 x = laws_toBox k x.1 x.2.1 := by kernel_rfl
theorem laws_toBox_K (k : Nat) : Contract Try.prog 13 (laws_toBox_V k) :=
  contract (C := laws_toBox_C k) (F := laws_toBox_F k) (fn := Try.f13) (ps := laws_toBox_ps) (rs := [(ty_20, true)]) (nx := 32) ⟨tyOf_ok tysR_ok, gOf_ok ⟨laws_toIntS_K k, trivial⟩⟩ rfl (by kernel_rfl) (by kernel_rfl) (by kernel_rfl) (by kernel_rfl) (by kernel_rfl) (by kernel_rfl) rfl (by kernel_rfl) (by kernel_rfl) (AnnOk_list [] (by kernel_rfl) trivial) mix_ok (laws_toBox_eq k)

noncomputable def spec_l1In_V : Variant := ⟨[.val ty_0 false, .val ty_0 false, .val ty_0 false], [(.bool, false)], fun x => spec_l1In x.1 x.2.1 x.2.2.1⟩
noncomputable def spec_l1In_C : Cfg := ⟨Try.prog, tyOf tys, 15, gOf [], false, [], []⟩
def spec_l1In_ps : List PE := [⟨0, 0, .val ty_0 false, false⟩, ⟨1, 16, .val ty_0 false, false⟩, ⟨2, 32, .val ty_0 false, false⟩]
noncomputable def spec_l1In_F : Fn (Bool) := ⟨spec_l1In_C, rdRes Try.prog spec_l1In_ps [(.bool, false)] Try.f78.results.toList .ret, fun p => none, 0, []⟩
theorem spec_l1In_eq (x : PTe spec_l1In_ps) : evFn (spec_l1In_F) (codeOf Try.f78) spec_l1In_ps 48 x = spec_l1In x.1 x.2.1 x.2.2.1 := by kernel_rfl
theorem spec_l1In_K : Contract Try.prog 78 (spec_l1In_V) :=
  contract (C := spec_l1In_C) (F := spec_l1In_F) (fn := Try.f78) (ps := spec_l1In_ps) (rs := [(.bool, false)]) (nx := 48) ⟨tyOf_ok tys_ok, gOf_ok trivial⟩ rfl (by kernel_rfl) (by kernel_rfl) (by kernel_rfl) (by kernel_rfl) (by kernel_rfl) (by kernel_rfl) rfl (by kernel_rfl) (by kernel_rfl) (AnnOk_list [] (by kernel_rfl) trivial) mix_ok (spec_l1In_eq)

noncomputable def spec_poTerm_V : Variant := ⟨[.val ty_3 true], [(.bool, false)], fun x => spec_poTerm x.1⟩
noncomputable def spec_poTerm_C : Cfg := ⟨Try.prog, tyOf tys, 32, gOf [(78, [], spec_l1In_V)], false, [], []⟩
def spec_poTerm_ps : List PE := [⟨0, 0, .val ty_3 true, false⟩]
noncomputable def spec_poTerm_F : Fn (Bool) := ⟨spec_poTerm_C, rdRes Try.prog spec_poTerm_ps [(.bool, false)] Try.f155.results.toList .ret, fun p => none, 0, []⟩
theorem spec_poTerm_eq (x : PTe spec_poTerm_ps) : evFn (spec_poTerm_F) (codeOf Try.f155) spec_poTerm_ps 16 x = spec_poTerm x.1 := by kernel_rfl
theorem spec_poTerm_K : Contract Try.prog 155 (spec_poTerm_V) :=
  contract (C := spec_poTerm_C) (F := spec_poTerm_F) (fn := Try.f155) (ps := spec_poTerm_ps) (rs := [(.bool, false)]) (nx := 16) ⟨tyOf_ok tys_ok, gOf_ok ⟨spec_l1In_K, trivial⟩⟩ rfl (by kernel_rfl) (by kernel_rfl) (by kernel_rfl) (by kernel_rfl) (by kernel_rfl) (by kernel_rfl) rfl (by kernel_rfl) (by kernel_rfl) (AnnOk_list [] (by kernel_rfl) trivial) mix_ok (spec_poTerm_eq)

noncomputable def spec_l1Sign_V : Variant := ⟨[.val ty_0 false], [(ty_0, false)], fun x => spec_l1Sign x.1⟩
noncomputable def spec_l1Sign_C : Cfg := ⟨Try.prog, tyOf tys, 9, gOf [], false, [], []⟩
def spec_l1Sign_ps : List PE := [⟨0, 0, .val ty_0 false, false⟩]
noncomputable def spec_l1Sign_F : Fn (Int) := ⟨spec_l1Sign_C, rdRes Try.prog spec_l1Sign_ps [(ty_0, false)] Try.f67.results.toList .ret, fun p => none, 0, []⟩
theorem spec_l1Sign_eq (x : PTe spec_l1Sign_ps) : evFn (spec_l1Sign_F) (codeOf Try.f67) spec_l1Sign_ps 16 x = spec_l1Sign x.1 := by kernel_rfl
theorem spec_l1Sign_K : Contract Try.prog 67 (spec_l1Sign_V) :=
  contract (C := spec_l1Sign_C) (F := spec_l1Sign_F) (fn := Try.f67) (ps := spec_l1Sign_ps) (rs := [(ty_0, false)]) (nx := 16) ⟨tyOf_ok tys_ok, gOf_ok trivial⟩ rfl (by kernel_rfl) (by kernel_rfl) (by kernel_rfl) (by kernel_rfl) (by kernel_rfl) (by kernel_rfl) rfl (by kernel_rfl) (by kernel_rfl) (AnnOk_list [] (by kernel_rfl) trivial) mix_ok (spec_l1Sign_eq)

noncomputable def spec_poOrder_V : Variant := ⟨[.val ty_3 true, .val ty_3 true], [(ty_0, false)], fun x => spec_poOrder x.1 x.2.1⟩
noncomputable def spec_poOrder_C : Cfg := ⟨Try.prog, tyOf tys, 35, gOf [(67, [], spec_l1Sign_V)], false, [], []⟩
def spec_poOrder_ps : List PE := [⟨0, 0, .val ty_3 true, false⟩, ⟨1, 16, .val ty_3 true, false⟩]
noncomputable def spec_poOrder_F : Fn (Int) := ⟨spec_poOrder_C, rdRes Try.prog spec_poOrder_ps [(ty_0, false)] Try.f156.results.toList .ret, fun p => none, 0, []⟩
theorem spec_poOrder_eq (x : PTe spec_poOrder_ps) : evFn (spec_poOrder_F) (codeOf Try.f156) spec_poOrder_ps 32 x = spec_poOrder x.1 x.2.1 := by kernel_rfl
theorem spec_poOrder_K : Contract Try.prog 156 (spec_poOrder_V) :=
  contract (C := spec_poOrder_C) (F := spec_poOrder_F) (fn := Try.f156) (ps := spec_poOrder_ps) (rs := [(ty_0, false)]) (nx := 32) ⟨tyOf_ok tys_ok, gOf_ok ⟨spec_l1Sign_K, trivial⟩⟩ rfl (by kernel_rfl) (by kernel_rfl) (by kernel_rfl) (by kernel_rfl) (by kernel_rfl) (by kernel_rfl) rfl (by kernel_rfl) (by kernel_rfl) (AnnOk_list [] (by kernel_rfl) trivial) mix_ok (spec_poOrder_eq)

noncomputable def spec_poGood_V (k : Nat) : Variant := ⟨[.val ty_4 false], [(.bool, false)], fun x => spec_poGood k x.1⟩
noncomputable def spec_poGood_C (k : Nat) : Cfg := ⟨Try.prog, tyOf tys, 38, gOf [(155, [], spec_poTerm_V), (156, [], spec_poOrder_V)], false, [], []⟩
def spec_poGood_i26 : List PE := [⟨0, 16, .val ty_4 false, false⟩, ⟨5, 32, .val ty_4 false, false⟩, ⟨6, 48, .val ty_0 false, false⟩, ⟨7, 64, .val ty_0 false, false⟩]
def spec_poGood_o26 : List PE := [⟨0, 16, .val ty_4 false, false⟩]
noncomputable def spec_poGood_f26 (k : Nat) (n : Nat) (x3 : PTe spec_poGood_i26) : Option ((Bool) ⊕ PTe spec_poGood_o26) := spec_poGood_L26 k n x3.1 x3.2.1 x3.2.2.1 x3.2.2.2.1
def spec_poGood_ps : List PE := [⟨0, 0, .val ty_4 false, false⟩]
noncomputable def spec_poGood_F (k : Nat) : Fn (Bool) := ⟨spec_poGood_C k, rdRes Try.prog spec_poGood_ps [(.bool, false)] Try.f108.results.toList .ret, fun p => bif Nat.beq p 26 then some (.loop spec_poGood_i26 spec_poGood_o26 0 80 (spec_poGood_f26 k k)) else none, 0, []⟩
theorem spec_poGood_eq (k : Nat) (x : PTe spec_poGood_ps) : evFn (spec_poGood_F k) (codeOf Try.f108) spec_poGood_ps 16 x = spec_poGood k x.1 := by kernel_rfl
theorem spec_poGood_ls : loopsOf (codeOf Try.f108) 1 = [(26, loopB (codeOf Try.f108) 26)] := by kernel_rfl
theorem spec_poGood_l26 (k : Nat) : LoopOk (spec_poGood_F k) (loopB (codeOf Try.f108) 26) 26 := LoopOk.mk (pin := spec_poGood_i26) (pout := spec_poGood_o26) (ex := 0) (nx := 80) (Lf := spec_poGood_f26 k) (k := k) (by kernel_rfl) (fun _ => rfl) (by intro n x; kernel_rfl)
theorem spec_poGood_K (k : Nat) : Contract Try.prog 108 (spec_poGood_V k) :=
  contract (C := spec_poGood_C k) (F := spec_poGood_F k) (fn := Try.f108) (ps := spec_poGood_ps) (rs := [(.bool, false)]) (nx := 16) ⟨tyOf_ok tys_ok, gOf_ok ⟨spec_poTerm_K, spec_poOrder_K, trivial⟩⟩ rfl (by kernel_rfl) (by kernel_rfl) (by kernel_rfl) (by kernel_rfl) (by kernel_rfl) (by kernel_rfl) rfl (by kernel_rfl) (by kernel_rfl) (AnnOk_list [(26, loopB (codeOf Try.f108) 26)] spec_poGood_ls ⟨spec_poGood_l26 k, trivial⟩) mix_ok (spec_poGood_eq k)

noncomputable def spec_poPower_V : Variant := ⟨[.val ty_3 true, .val ty_0 false], [(ty_0, false)], fun x => spec_poPower x.1 x.2.1⟩
noncomputable def spec_poPower_C : Cfg := ⟨Try.prog, tyOf tys, 16, gOf [], false, [], []⟩
def spec_poPower_ps : List PE := [⟨0, 0, .val ty_3 true, false⟩, ⟨1, 16, .val ty_0 false, false⟩]
noncomputable def spec_poPower_F : Fn (Int) := ⟨spec_poPower_C, rdRes Try.prog spec_poPower_ps [(ty_0, false)] Try.f115.results.toList .ret, fun p => none, 0, []⟩
theorem spec_poPower_eq (x : PTe spec_poPower_ps) : evFn (spec_poPower_F) (codeOf Try.f115) spec_poPower_ps 32 x = spec_poPower x.1 x.2.1 := by kernel_rfl
theorem spec_poPower_K : Contract Try.prog 115 (spec_poPower_V) :=
  contract (C := spec_poPower_C) (F := spec_poPower_F) (fn := Try.f115) (ps := spec_poPower_ps) (rs := [(ty_0, false)]) (nx := 32) ⟨tyOf_ok tys_ok, gOf_ok trivial⟩ rfl (by kernel_rfl) (by kernel_rfl) (by kernel_rfl) (by kernel_rfl) (by kernel_rfl) (by kernel_rfl) rfl (by kernel_rfl) (by kernel_rfl) (AnnOk_list [] (by kernel_rfl) trivial) mix_ok (spec_poPower_eq)

noncomputable def spec_l1Most_V : Variant := ⟨[.val ty_0 false, .val ty_0 false], [(ty_0, false)], fun x => spec_l1Most x.1 x.2.1⟩
noncomputable def spec_l1Most_C : Cfg := ⟨Try.prog, tyOf tys, 10, gOf [], false, [], []⟩
def spec_l1Most_ps : List PE := [⟨0, 0, .val ty_0 false, false⟩, ⟨1, 16, .val ty_0 false, false⟩]
noncomputable def spec_l1Most_F : Fn (Int) := ⟨spec_l1Most_C, rdRes Try.prog spec_l1Most_ps [(ty_0, false)] Try.f153.results.toList .ret, fun p => none, 0, []⟩
theorem spec_l1Most_eq (x : PTe spec_l1Most_ps) : evFn (spec_l1Most_F) (codeOf Try.f153) spec_l1Most_ps 32 x = spec_l1Most x.1 x.2.1 := by kernel_rfl
theorem spec_l1Most_K : Contract Try.prog 153 (spec_l1Most_V) :=
  contract (C := spec_l1Most_C) (F := spec_l1Most_F) (fn := Try.f153) (ps := spec_l1Most_ps) (rs := [(ty_0, false)]) (nx := 32) ⟨tyOf_ok tys_ok, gOf_ok trivial⟩ rfl (by kernel_rfl) (by kernel_rfl) (by kernel_rfl) (by kernel_rfl) (by kernel_rfl) (by kernel_rfl) rfl (by kernel_rfl) (by kernel_rfl) (AnnOk_list [] (by kernel_rfl) trivial) mix_ok (spec_l1Most_eq)

noncomputable def spec_poDegreeIn_V (k : Nat) : Variant := ⟨[.val ty_4 false, .val ty_0 false], [(ty_0, false)], fun x => spec_poDegreeIn k x.1 x.2.1⟩
noncomputable def spec_poDegreeIn_C (k : Nat) : Cfg := ⟨Try.prog, tyOf tys, 21, gOf [(115, [], spec_poPower_V), (153, [], spec_l1Most_V)], false, [], []⟩
def spec_poDegreeIn_i58 : List PE := [⟨1, 32, .val ty_0 false, false⟩, ⟨5, 48, .val ty_0 false, false⟩, ⟨8, 64, .val ty_4 false, false⟩, ⟨9, 80, .val ty_0 false, false⟩, ⟨10, 96, .val ty_0 false, false⟩]
def spec_poDegreeIn_o58 : List PE := [⟨5, 32, .val ty_0 false, false⟩]
noncomputable def spec_poDegreeIn_f58 (k : Nat) (n : Nat) (x3 : PTe spec_poDegreeIn_i58) : Option ((Int) ⊕ PTe spec_poDegreeIn_o58) := spec_poDegreeIn_L58 k n x3.1 x3.2.1 x3.2.2.1 x3.2.2.2.1 x3.2.2.2.2.1
def spec_poDegreeIn_ps : List PE := [⟨0, 0, .val ty_4 false, false⟩, ⟨1, 16, .val ty_0 false, false⟩]
noncomputable def spec_poDegreeIn_F (k : Nat) : Fn (Int) := ⟨spec_poDegreeIn_C k, rdRes Try.prog spec_poDegreeIn_ps [(ty_0, false)] Try.f109.results.toList .ret, fun p => bif Nat.beq p 58 then some (.loop spec_poDegreeIn_i58 spec_poDegreeIn_o58 0 112 (spec_poDegreeIn_f58 k k)) else none, 0, []⟩
theorem spec_poDegreeIn_eq (k : Nat) (x : PTe spec_poDegreeIn_ps) : evFn (spec_poDegreeIn_F k) (codeOf Try.f109) spec_poDegreeIn_ps 32 x = spec_poDegreeIn k x.1 x.2.1 := by kernel_rfl
theorem spec_poDegreeIn_ls : loopsOf (codeOf Try.f109) 1 = [(58, loopB (codeOf Try.f109) 58)] := by kernel_rfl
theorem spec_poDegreeIn_l58 (k : Nat) : LoopOk (spec_poDegreeIn_F k) (loopB (codeOf Try.f109) 58) 58 := LoopOk.mk (pin := spec_poDegreeIn_i58) (pout := spec_poDegreeIn_o58) (ex := 0) (nx := 112) (Lf := spec_poDegreeIn_f58 k) (k := k) (by kernel_rfl) (fun _ => rfl) (by intro n x; kernel_rfl)
theorem spec_poDegreeIn_K (k : Nat) : Contract Try.prog 109 (spec_poDegreeIn_V k) :=
  contract (C := spec_poDegreeIn_C k) (F := spec_poDegreeIn_F k) (fn := Try.f109) (ps := spec_poDegreeIn_ps) (rs := [(ty_0, false)]) (nx := 32) ⟨tyOf_ok tys_ok, gOf_ok ⟨spec_poPower_K, spec_l1Most_K, trivial⟩⟩ rfl (by kernel_rfl) (by kernel_rfl) (by kernel_rfl) (by kernel_rfl) (by kernel_rfl) (by kernel_rfl) rfl (by kernel_rfl) (by kernel_rfl) (AnnOk_list [(58, loopB (codeOf Try.f109) 58)] spec_poDegreeIn_ls ⟨spec_poDegreeIn_l58 k, trivial⟩) mix_ok (spec_poDegreeIn_eq k)

noncomputable def spec_poSystem_V (k : Nat) : Variant := ⟨[.val ty_5 false], [(.bool, false)], fun x => spec_poSystem k x.1⟩
noncomputable def spec_poSystem_C (k : Nat) : Cfg := ⟨Try.prog, tyOf tys, 29, gOf [(108, [], spec_poGood_V k), (109, [], spec_poDegreeIn_V k), (78, [], spec_l1In_V)], false, [], []⟩
def spec_poSystem_i13518 : List PE := [⟨0, 16, .val ty_5 false, false⟩, ⟨4, 32, .val ty_4 false, false⟩, ⟨5, 48, .val ty_0 false, false⟩, ⟨6, 64, .val ty_5 false, false⟩, ⟨7, 80, .val ty_0 false, false⟩, ⟨8, 96, .val ty_0 false, false⟩]
def spec_poSystem_o13518 : List PE := [⟨0, 16, .val ty_5 false, false⟩, ⟨6, 32, .val ty_5 false, false⟩, ⟨7, 48, .val ty_0 false, false⟩, ⟨8, 64, .val ty_0 false, false⟩]
noncomputable def spec_poSystem_f13518 (k : Nat) (n : Nat) (x3 : PTe spec_poSystem_i13518) : Option ((Bool) ⊕ PTe spec_poSystem_o13518) := spec_poSystem_L13518 k n x3.1 x3.2.1 x3.2.2.1 x3.2.2.2.1 x3.2.2.2.2.1 x3.2.2.2.2.2.1
def spec_poSystem_i26 : List PE := [⟨0, 16, .val ty_5 false, false⟩, ⟨6, 32, .val ty_5 false, false⟩, ⟨7, 48, .val ty_0 false, false⟩, ⟨8, 64, .val ty_0 false, false⟩]
def spec_poSystem_o26 : List PE := [⟨0, 16, .val ty_5 false, false⟩]
noncomputable def spec_poSystem_f26 (k : Nat) (n : Nat) (x6 : PTe spec_poSystem_i26) : Option ((Bool) ⊕ PTe spec_poSystem_o26) := spec_poSystem_L26 k n x6.1 x6.2.1 x6.2.2.1 x6.2.2.2.1
def spec_poSystem_ps : List PE := [⟨0, 0, .val ty_5 false, false⟩]
noncomputable def spec_poSystem_F (k : Nat) : Fn (Bool) := ⟨spec_poSystem_C k, rdRes Try.prog spec_poSystem_ps [(.bool, false)] Try.f63.results.toList .ret, fun p => bif Nat.beq p 13518 then some (.loop spec_poSystem_i13518 spec_poSystem_o13518 2 112 (spec_poSystem_f13518 k k)) else bif Nat.beq p 26 then some (.loop spec_poSystem_i26 spec_poSystem_o26 0 80 (spec_poSystem_f26 k k)) else none, 0, []⟩
theorem spec_poSystem_eq (k : Nat) (x : PTe spec_poSystem_ps) : evFn (spec_poSystem_F k) (codeOf Try.f63) spec_poSystem_ps 16 x = spec_poSystem k x.1 := by kernel_rfl
theorem spec_poSystem_ls : loopsOf (codeOf Try.f63) 1 = [(26, loopB (codeOf Try.f63) 26), (13518, loopB (codeOf Try.f63) 13518)] := by kernel_rfl
theorem spec_poSystem_l13518 (k : Nat) : LoopOk (spec_poSystem_F k) (loopB (codeOf Try.f63) 13518) 13518 := LoopOk.mk (pin := spec_poSystem_i13518) (pout := spec_poSystem_o13518) (ex := 2) (nx := 112) (Lf := spec_poSystem_f13518 k) (k := k) (by kernel_rfl) (fun _ => rfl) (by intro n x; kernel_rfl)
theorem spec_poSystem_l26 (k : Nat) : LoopOk (spec_poSystem_F k) (loopB (codeOf Try.f63) 26) 26 := LoopOk.mk (pin := spec_poSystem_i26) (pout := spec_poSystem_o26) (ex := 0) (nx := 80) (Lf := spec_poSystem_f26 k) (k := k) (by kernel_rfl) (fun _ => rfl) (by intro n x; kernel_rfl)
theorem spec_poSystem_K (k : Nat) : Contract Try.prog 63 (spec_poSystem_V k) :=
  contract (C := spec_poSystem_C k) (F := spec_poSystem_F k) (fn := Try.f63) (ps := spec_poSystem_ps) (rs := [(.bool, false)]) (nx := 16) ⟨tyOf_ok tys_ok, gOf_ok ⟨spec_poGood_K k, spec_poDegreeIn_K k, spec_l1In_K, trivial⟩⟩ rfl (by kernel_rfl) (by kernel_rfl) (by kernel_rfl) (by kernel_rfl) (by kernel_rfl) (by kernel_rfl) rfl (by kernel_rfl) (by kernel_rfl) (AnnOk_list [(26, loopB (codeOf Try.f63) 26), (13518, loopB (codeOf Try.f63) 13518)] spec_poSystem_ls ⟨spec_poSystem_l26 k, spec_poSystem_l13518 k, trivial⟩) mix_ok (spec_poSystem_eq k)

noncomputable def spec_dyPower_V : Variant := ⟨[.val ty_0 false], [(ty_0, false)], fun x => spec_dyPower x.1⟩
noncomputable def spec_dyPower_C : Cfg := ⟨Try.prog, tyOf tys, 6, gOf [], false, [], []⟩
def spec_dyPower_ps : List PE := [⟨0, 0, .val ty_0 false, false⟩]
noncomputable def spec_dyPower_F : Fn (Int) := ⟨spec_dyPower_C, rdRes Try.prog spec_dyPower_ps [(ty_0, false)] Try.f151.results.toList .ret, fun p => none, 0, []⟩
theorem spec_dyPower_eq (x : PTe spec_dyPower_ps) : evFn (spec_dyPower_F) (codeOf Try.f151) spec_dyPower_ps 16 x = spec_dyPower x.1 := by kernel_rfl
theorem spec_dyPower_K : Contract Try.prog 151 (spec_dyPower_V) :=
  contract (C := spec_dyPower_C) (F := spec_dyPower_F) (fn := Try.f151) (ps := spec_dyPower_ps) (rs := [(ty_0, false)]) (nx := 16) ⟨tyOf_ok tys_ok, gOf_ok trivial⟩ rfl (by kernel_rfl) (by kernel_rfl) (by kernel_rfl) (by kernel_rfl) (by kernel_rfl) (by kernel_rfl) rfl (by kernel_rfl) (by kernel_rfl) (AnnOk_list [] (by kernel_rfl) trivial) mix_ok (spec_dyPower_eq)

noncomputable def spec_bxGood_V (k : Nat) : Variant := ⟨[.val ty_9 true], [(.bool, false)], fun x => spec_bxGood k x.1⟩
noncomputable def spec_bxGood_C (k : Nat) : Cfg := ⟨Try.prog, tyOf tys, 80, gOf [(78, [], spec_l1In_V), (151, [], spec_dyPower_V)], false, [], []⟩
def spec_bxGood_i250 : List PE := [⟨1, 16, .box ty_9 false, false⟩, ⟨3, 32, .val ty_0 false, false⟩, ⟨4, 48, .val .bool false, false⟩, ⟨36, 64, .val ty_7 false, false⟩, ⟨37, 80, .val ty_0 false, false⟩, ⟨38, 96, .val ty_0 false, false⟩]
def spec_bxGood_o250 : List PE := [⟨4, 16, .val .bool false, false⟩]
noncomputable def spec_bxGood_f250 (k : Nat) (n : Nat) (x6 : PTe spec_bxGood_i250) : Option ((Bool) ⊕ PTe spec_bxGood_o250) := spec_bxGood_L250 k n x6.1 x6.2.1 x6.2.2.1 x6.2.2.2.1 x6.2.2.2.2.1 x6.2.2.2.2.2.1
def spec_bxGood_ps : List PE := [⟨0, 0, .val ty_9 true, false⟩]
noncomputable def spec_bxGood_F (k : Nat) : Fn (Bool) := ⟨spec_bxGood_C k, rdRes Try.prog spec_bxGood_ps [(.bool, false)] Try.f140.results.toList .ret, fun p => bif Nat.beq p 250 then some (.loop spec_bxGood_i250 spec_bxGood_o250 0 112 (spec_bxGood_f250 k k)) else none, 0, []⟩
theorem spec_bxGood_eq (k : Nat) (x : PTe spec_bxGood_ps) : evFn (spec_bxGood_F k) (codeOf Try.f140) spec_bxGood_ps 16 x = spec_bxGood k x.1 := by kernel_rfl
theorem spec_bxGood_ls : loopsOf (codeOf Try.f140) 1 = [(250, loopB (codeOf Try.f140) 250)] := by kernel_rfl
theorem spec_bxGood_l250 (k : Nat) : LoopOk (spec_bxGood_F k) (loopB (codeOf Try.f140) 250) 250 := LoopOk.mk (pin := spec_bxGood_i250) (pout := spec_bxGood_o250) (ex := 0) (nx := 112) (Lf := spec_bxGood_f250 k) (k := k) (by kernel_rfl) (fun _ => rfl) (by intro n x; kernel_rfl)
theorem spec_bxGood_K (k : Nat) : Contract Try.prog 140 (spec_bxGood_V k) :=
  contract (C := spec_bxGood_C k) (F := spec_bxGood_F k) (fn := Try.f140) (ps := spec_bxGood_ps) (rs := [(.bool, false)]) (nx := 16) ⟨tyOf_ok tys_ok, gOf_ok ⟨spec_l1In_K, spec_dyPower_K, trivial⟩⟩ rfl (by kernel_rfl) (by kernel_rfl) (by kernel_rfl) (by kernel_rfl) (by kernel_rfl) (by kernel_rfl) rfl (by kernel_rfl) (by kernel_rfl) (AnnOk_list [(250, loopB (codeOf Try.f140) 250)] spec_bxGood_ls ⟨spec_bxGood_l250 k, trivial⟩) mix_ok (spec_bxGood_eq k)

noncomputable def spec_imBox_V (k : Nat) : Variant := ⟨[.val ty_9 true], [(.bool, false)], fun x => spec_imBox k x.1⟩
noncomputable def spec_imBox_C (k : Nat) : Cfg := ⟨Try.prog, tyOf tys, 16, gOf [(140, [], spec_bxGood_V k)], false, [], []⟩
def spec_imBox_ps : List PE := [⟨0, 0, .val ty_9 true, false⟩]
noncomputable def spec_imBox_F (k : Nat) : Fn (Bool) := ⟨spec_imBox_C k, rdRes Try.prog spec_imBox_ps [(.bool, false)] Try.f150.results.toList .ret, fun p => none, 0, []⟩
theorem spec_imBox_eq (k : Nat) (x : PTe spec_imBox_ps) : evFn (spec_imBox_F k) (codeOf Try.f150) spec_imBox_ps 16 x = spec_imBox k x.1 := by kernel_rfl
theorem spec_imBox_K (k : Nat) : Contract Try.prog 150 (spec_imBox_V k) :=
  contract (C := spec_imBox_C k) (F := spec_imBox_F k) (fn := Try.f150) (ps := spec_imBox_ps) (rs := [(.bool, false)]) (nx := 16) ⟨tyOf_ok tys_ok, gOf_ok ⟨spec_bxGood_K k, trivial⟩⟩ rfl (by kernel_rfl) (by kernel_rfl) (by kernel_rfl) (by kernel_rfl) (by kernel_rfl) (by kernel_rfl) rfl (by kernel_rfl) (by kernel_rfl) (AnnOk_list [] (by kernel_rfl) trivial) mix_ok (spec_imBox_eq k)

noncomputable def spec_imGood_V (k : Nat) : Variant := ⟨[.val ty_5 false, .val ty_9 true], [(.bool, false)], fun x => spec_imGood k x.1 x.2.1⟩
noncomputable def spec_imGood_C (k : Nat) : Cfg := ⟨Try.prog, tyOf tys, 16, gOf [(63, [], spec_poSystem_V k), (150, [], spec_imBox_V k)], false, [], []⟩
def spec_imGood_ps : List PE := [⟨0, 0, .val ty_5 false, false⟩, ⟨1, 16, .val ty_9 true, false⟩]
noncomputable def spec_imGood_F (k : Nat) : Fn (Bool) := ⟨spec_imGood_C k, rdRes Try.prog spec_imGood_ps [(.bool, false)] Try.f96.results.toList .ret, fun p => none, 0, []⟩
theorem spec_imGood_eq (k : Nat) (x : PTe spec_imGood_ps) : evFn (spec_imGood_F k) (codeOf Try.f96) spec_imGood_ps 32 x = spec_imGood k x.1 x.2.1 := by kernel_rfl
theorem spec_imGood_K (k : Nat) : Contract Try.prog 96 (spec_imGood_V k) :=
  contract (C := spec_imGood_C k) (F := spec_imGood_F k) (fn := Try.f96) (ps := spec_imGood_ps) (rs := [(.bool, false)]) (nx := 32) ⟨tyOf_ok tys_ok, gOf_ok ⟨spec_poSystem_K k, spec_imBox_K k, trivial⟩⟩ rfl (by kernel_rfl) (by kernel_rfl) (by kernel_rfl) (by kernel_rfl) (by kernel_rfl) (by kernel_rfl) rfl (by kernel_rfl) (by kernel_rfl) (AnnOk_list [] (by kernel_rfl) trivial) mix_ok (spec_imGood_eq k)

noncomputable def spec_imDepth_V : Variant := ⟨[.val ty_0 false], [(.bool, false)], fun x => spec_imDepth x.1⟩
noncomputable def spec_imDepth_C : Cfg := ⟨Try.prog, tyOf tys, 5, gOf [(78, [], spec_l1In_V)], false, [], []⟩
def spec_imDepth_ps : List PE := [⟨0, 0, .val ty_0 false, false⟩]
noncomputable def spec_imDepth_F : Fn (Bool) := ⟨spec_imDepth_C, rdRes Try.prog spec_imDepth_ps [(.bool, false)] Try.f97.results.toList .ret, fun p => none, 0, []⟩
theorem spec_imDepth_eq (x : PTe spec_imDepth_ps) : evFn (spec_imDepth_F) (codeOf Try.f97) spec_imDepth_ps 16 x = spec_imDepth x.1 := by kernel_rfl
theorem spec_imDepth_K : Contract Try.prog 97 (spec_imDepth_V) :=
  contract (C := spec_imDepth_C) (F := spec_imDepth_F) (fn := Try.f97) (ps := spec_imDepth_ps) (rs := [(.bool, false)]) (nx := 16) ⟨tyOf_ok tys_ok, gOf_ok ⟨spec_l1In_K, trivial⟩⟩ rfl (by kernel_rfl) (by kernel_rfl) (by kernel_rfl) (by kernel_rfl) (by kernel_rfl) (by kernel_rfl) rfl (by kernel_rfl) (by kernel_rfl) (AnnOk_list [] (by kernel_rfl) trivial) mix_ok (spec_imDepth_eq)

noncomputable def spec_imAsked_V (k : Nat) : Variant := ⟨[.val ty_5 false, .val ty_9 true, .val ty_0 false], [(.bool, false)], fun x => spec_imAsked k x.1 x.2.1 x.2.2.1⟩
noncomputable def spec_imAsked_C (k : Nat) : Cfg := ⟨Try.prog, tyOf tys, 14, gOf [(96, [], spec_imGood_V k), (97, [], spec_imDepth_V)], false, [], []⟩
def spec_imAsked_ps : List PE := [⟨0, 0, .val ty_5 false, false⟩, ⟨1, 16, .val ty_9 true, false⟩, ⟨2, 32, .val ty_0 false, false⟩]
noncomputable def spec_imAsked_F (k : Nat) : Fn (Bool) := ⟨spec_imAsked_C k, rdRes Try.prog spec_imAsked_ps [(.bool, false)] Try.f49.results.toList .ret, fun p => none, 0, []⟩
theorem spec_imAsked_eq (k : Nat) (x : PTe spec_imAsked_ps) : evFn (spec_imAsked_F k) (codeOf Try.f49) spec_imAsked_ps 48 x = spec_imAsked k x.1 x.2.1 x.2.2.1 := by kernel_rfl
theorem spec_imAsked_K (k : Nat) : Contract Try.prog 49 (spec_imAsked_V k) :=
  contract (C := spec_imAsked_C k) (F := spec_imAsked_F k) (fn := Try.f49) (ps := spec_imAsked_ps) (rs := [(.bool, false)]) (nx := 48) ⟨tyOf_ok tys_ok, gOf_ok ⟨spec_imGood_K k, spec_imDepth_K, trivial⟩⟩ rfl (by kernel_rfl) (by kernel_rfl) (by kernel_rfl) (by kernel_rfl) (by kernel_rfl) (by kernel_rfl) rfl (by kernel_rfl) (by kernel_rfl) (AnnOk_list [] (by kernel_rfl) trivial) mix_ok (spec_imAsked_eq k)

noncomputable def spec_dyGood_V : Variant := ⟨[.val ty_1 true], [(.bool, false)], fun x => spec_dyGood x.1⟩
noncomputable def spec_dyGood_C : Cfg := ⟨Try.prog, tyOf tys, 22, gOf [(78, [], spec_l1In_V)], false, [], []⟩
def spec_dyGood_ps : List PE := [⟨0, 0, .val ty_1 true, false⟩]
noncomputable def spec_dyGood_F : Fn (Bool) := ⟨spec_dyGood_C, rdRes Try.prog spec_dyGood_ps [(.bool, false)] Try.f110.results.toList .ret, fun p => none, 0, []⟩
theorem spec_dyGood_eq (x : PTe spec_dyGood_ps) : evFn (spec_dyGood_F) (codeOf Try.f110) spec_dyGood_ps 16 x = spec_dyGood x.1 := by kernel_rfl
theorem spec_dyGood_K : Contract Try.prog 110 (spec_dyGood_V) :=
  contract (C := spec_dyGood_C) (F := spec_dyGood_F) (fn := Try.f110) (ps := spec_dyGood_ps) (rs := [(.bool, false)]) (nx := 16) ⟨tyOf_ok tys_ok, gOf_ok ⟨spec_l1In_K, trivial⟩⟩ rfl (by kernel_rfl) (by kernel_rfl) (by kernel_rfl) (by kernel_rfl) (by kernel_rfl) (by kernel_rfl) rfl (by kernel_rfl) (by kernel_rfl) (AnnOk_list [] (by kernel_rfl) trivial) mix_ok (spec_dyGood_eq)

noncomputable def spec_dyMake_V (k : Nat) : Variant := ⟨[.val ty_0 false, .val ty_0 false], [(ty_1, true), (.bool, false)], fun x => spec_dyMake k x.1 x.2.1⟩
noncomputable def spec_dyMake_C (k : Nat) : Cfg := ⟨Try.prog, tyOf tys, 32, gOf [(110, [], spec_dyGood_V)], false, [], []⟩
def spec_dyMake_i28 : List PE := [⟨0, 32, .val ty_0 false, false⟩, ⟨1, 48, .val ty_0 false, false⟩, ⟨4, 64, .box ty_1 false, false⟩]
def spec_dyMake_o28 : List PE := [⟨0, 32, .val ty_0 false, false⟩, ⟨1, 48, .val ty_0 false, false⟩, ⟨4, 64, .box ty_1 false, false⟩]
noncomputable def spec_dyMake_f28 (k : Nat) (n : Nat) (x2 : PTe spec_dyMake_i28) : Option (((Int × Int) × Bool) ⊕ PTe spec_dyMake_o28) := spec_dyMake_L28 k n x2.1 x2.2.1 x2.2.2.1
def spec_dyMake_ps : List PE := [⟨0, 0, .val ty_0 false, false⟩, ⟨1, 16, .val ty_0 false, false⟩]
noncomputable def spec_dyMake_F (k : Nat) : Fn ((Int × Int) × Bool) := ⟨spec_dyMake_C k, rdRes Try.prog spec_dyMake_ps [(ty_1, true), (.bool, false)] Try.f152.results.toList .ret, fun p => bif Nat.beq p 28 then some (.loop spec_dyMake_i28 spec_dyMake_o28 0 80 (spec_dyMake_f28 k k)) else bif Nat.beq p 6 then some (.cut [⟨0, 32, .val ty_0 false, false⟩, ⟨1, 48, .val ty_0 false, false⟩, ⟨4, 64, .box ty_1 false, false⟩] 80) else none, 0, []⟩
theorem spec_dyMake_eq (k : Nat) (x : PTe spec_dyMake_ps) : evFn (spec_dyMake_F k) (codeOf Try.f152) spec_dyMake_ps 32 x = spec_dyMake k x.1 x.2.1 := by kernel_rfl
theorem spec_dyMake_ls : loopsOf (codeOf Try.f152) 1 = [(28, loopB (codeOf Try.f152) 28)] := by kernel_rfl
theorem spec_dyMake_l28 (k : Nat) : LoopOk (spec_dyMake_F k) (loopB (codeOf Try.f152) 28) 28 := LoopOk.mk (pin := spec_dyMake_i28) (pout := spec_dyMake_o28) (ex := 0) (nx := 80) (Lf := spec_dyMake_f28 k) (k := k) (by kernel_rfl) (fun _ => rfl) (by intro n x; kernel_rfl)
theorem spec_dyMake_K (k : Nat) : Contract Try.prog 152 (spec_dyMake_V k) :=
  contract (C := spec_dyMake_C k) (F := spec_dyMake_F k) (fn := Try.f152) (ps := spec_dyMake_ps) (rs := [(ty_1, true), (.bool, false)]) (nx := 32) ⟨tyOf_ok tys_ok, gOf_ok ⟨spec_dyGood_K, trivial⟩⟩ rfl (by kernel_rfl) (by kernel_rfl) (by kernel_rfl) (by kernel_rfl) (by kernel_rfl) (by kernel_rfl) rfl (by kernel_rfl) (by kernel_rfl) (AnnOk_list [(28, loopB (codeOf Try.f152) 28)] spec_dyMake_ls ⟨spec_dyMake_l28 k, trivial⟩) mix_ok (spec_dyMake_eq k)

noncomputable def spec_bxNumber_V (k : Nat) : Variant := ⟨[.val ty_0 false, .val ty_0 false], [(ty_1, true)], fun x => spec_bxNumber k x.1 x.2.1⟩
noncomputable def spec_bxNumber_C (k : Nat) : Cfg := ⟨Try.prog, tyOf tys, 14, gOf [(152, [], spec_dyMake_V k)], false, [], []⟩
def spec_bxNumber_ps : List PE := [⟨0, 0, .val ty_0 false, false⟩, ⟨1, 16, .val ty_0 false, false⟩]
noncomputable def spec_bxNumber_F (k : Nat) : Fn (Int × Int) := ⟨spec_bxNumber_C k, rdRes Try.prog spec_bxNumber_ps [(ty_1, true)] Try.f99.results.toList .ret, fun p => none, 0, []⟩
theorem spec_bxNumber_eq (k : Nat) (x : PTe spec_bxNumber_ps) : evFn (spec_bxNumber_F k) (codeOf Try.f99) spec_bxNumber_ps 32 x = spec_bxNumber k x.1 x.2.1 := by kernel_rfl
theorem spec_bxNumber_K (k : Nat) : Contract Try.prog 99 (spec_bxNumber_V k) :=
  contract (C := spec_bxNumber_C k) (F := spec_bxNumber_F k) (fn := Try.f99) (ps := spec_bxNumber_ps) (rs := [(ty_1, true)]) (nx := 32) ⟨tyOf_ok tys_ok, gOf_ok ⟨spec_dyMake_K k, trivial⟩⟩ rfl (by kernel_rfl) (by kernel_rfl) (by kernel_rfl) (by kernel_rfl) (by kernel_rfl) (by kernel_rfl) rfl (by kernel_rfl) (by kernel_rfl) (AnnOk_list [] (by kernel_rfl) trivial) mix_ok (spec_bxNumber_eq k)

noncomputable def spec_imWay_V (k : Nat) : Variant := ⟨[.val ty_0 false, .val ty_1 true, .val ty_0 false, .val ty_0 false, .val ty_0 false, .val ty_0 false], [(ty_21, false)], fun x => spec_imWay k x.1 x.2.1 x.2.2.1 x.2.2.2.1 x.2.2.2.2.1 x.2.2.2.2.2.1⟩
noncomputable def spec_imWay_C (k : Nat) : Cfg := ⟨Try.prog, tyOf tys, 61, gOf [(151, [], spec_dyPower_V), (99, [], spec_bxNumber_V k)], false, [], []⟩
def spec_imWay_i122 : List PE := [⟨0, 96, .val ty_0 false, false⟩, ⟨2, 112, .val ty_0 false, false⟩, ⟨3, 128, .val ty_0 false, false⟩, ⟨4, 144, .val ty_0 false, false⟩, ⟨5, 160, .val ty_0 false, false⟩, ⟨7, 176, .box ty_1 false, false⟩, ⟨13, 192, .eat ty_12, false⟩, ⟨14, 208, .val ty_0 false, false⟩, ⟨15, 224, .val ty_0 false, false⟩]
def spec_imWay_o122 : List PE := [⟨13, 96, .eat ty_12, false⟩]
noncomputable def spec_imWay_f122 (k : Nat) (n : Nat) (x4 : PTe spec_imWay_i122) : Option ((List (Int × (Int × Int) × (Int × Int) × Int × Int)) ⊕ PTe spec_imWay_o122) := spec_imWay_L122 k n x4.1 x4.2.1 x4.2.2.1 x4.2.2.2.1 x4.2.2.2.2.1 x4.2.2.2.2.2.1 x4.2.2.2.2.2.2.1 x4.2.2.2.2.2.2.2.1 x4.2.2.2.2.2.2.2.2.1
def spec_imWay_ps : List PE := [⟨0, 0, .val ty_0 false, false⟩, ⟨1, 16, .val ty_1 true, false⟩, ⟨2, 32, .val ty_0 false, false⟩, ⟨3, 48, .val ty_0 false, false⟩, ⟨4, 64, .val ty_0 false, false⟩, ⟨5, 80, .val ty_0 false, false⟩]
noncomputable def spec_imWay_F (k : Nat) : Fn (List (Int × (Int × Int) × (Int × Int) × Int × Int)) := ⟨spec_imWay_C k, rdRes Try.prog spec_imWay_ps [(ty_21, false)] Try.f98.results.toList .ret, fun p => bif Nat.beq p 122 then some (.loop spec_imWay_i122 spec_imWay_o122 0 240 (spec_imWay_f122 k k)) else none, 0, []⟩
theorem spec_imWay_eq (k : Nat) (x : PTe spec_imWay_ps) : evFn (spec_imWay_F k) (codeOf Try.f98) spec_imWay_ps 96 x = spec_imWay k x.1 x.2.1 x.2.2.1 x.2.2.2.1 x.2.2.2.2.1 x.2.2.2.2.2.1 := by kernel_rfl
theorem spec_imWay_ls : loopsOf (codeOf Try.f98) 1 = [(122, loopB (codeOf Try.f98) 122)] := by kernel_rfl
theorem spec_imWay_l122 (k : Nat) : LoopOk (spec_imWay_F k) (loopB (codeOf Try.f98) 122) 122 := LoopOk.mk (pin := spec_imWay_i122) (pout := spec_imWay_o122) (ex := 0) (nx := 240) (Lf := spec_imWay_f122 k) (k := k) (by kernel_rfl) (fun _ => rfl) (by intro n x; kernel_rfl)
theorem spec_imWay_K (k : Nat) : Contract Try.prog 98 (spec_imWay_V k) :=
  contract (C := spec_imWay_C k) (F := spec_imWay_F k) (fn := Try.f98) (ps := spec_imWay_ps) (rs := [(ty_21, false)]) (nx := 96) ⟨tyOf_ok tys_ok, gOf_ok ⟨spec_dyPower_K, spec_bxNumber_K k, trivial⟩⟩ rfl (by kernel_rfl) (by kernel_rfl) (by kernel_rfl) (by kernel_rfl) (by kernel_rfl) (by kernel_rfl) rfl (by kernel_rfl) (by kernel_rfl) (AnnOk_list [(122, loopB (codeOf Try.f98) 122)] spec_imWay_ls ⟨spec_imWay_l122 k, trivial⟩) mix_ok (spec_imWay_eq k)

noncomputable def spec_imEdges_V (k : Nat) : Variant := ⟨[.val ty_9 true, .val ty_0 false], [(ty_21, false)], fun x => spec_imEdges k x.1 x.2.1⟩
noncomputable def spec_imEdges_C (k : Nat) : Cfg := ⟨Try.prog, tyOf tys, 72, gOf [(99, [], spec_bxNumber_V k), (98, [], spec_imWay_V k)], false, [], []⟩
def spec_imEdges_ps : List PE := [⟨0, 0, .val ty_9 true, false⟩, ⟨1, 16, .val ty_0 false, false⟩]
noncomputable def spec_imEdges_F (k : Nat) : Fn (List (Int × (Int × Int) × (Int × Int) × Int × Int)) := ⟨spec_imEdges_C k, rdRes Try.prog spec_imEdges_ps [(ty_21, false)] Try.f50.results.toList .ret, fun p => none, 0, []⟩
theorem spec_imEdges_eq (k : Nat) (x : PTe spec_imEdges_ps) : evFn (spec_imEdges_F k) (codeOf Try.f50) spec_imEdges_ps 32 x = spec_imEdges k x.1 x.2.1 := by kernel_rfl
theorem spec_imEdges_K (k : Nat) : Contract Try.prog 50 (spec_imEdges_V k) :=
  contract (C := spec_imEdges_C k) (F := spec_imEdges_F k) (fn := Try.f50) (ps := spec_imEdges_ps) (rs := [(ty_21, false)]) (nx := 32) ⟨tyOf_ok tys_ok, gOf_ok ⟨spec_bxNumber_K k, spec_imWay_K k, trivial⟩⟩ rfl (by kernel_rfl) (by kernel_rfl) (by kernel_rfl) (by kernel_rfl) (by kernel_rfl) (by kernel_rfl) rfl (by kernel_rfl) (by kernel_rfl) (AnnOk_list [] (by kernel_rfl) trivial) mix_ok (spec_imEdges_eq k)

noncomputable def spec_dyAt_V (k : Nat) : Variant := ⟨[.val ty_1 true, .val ty_0 false], [(ty_0, false), (.bool, false)], fun x => spec_dyAt k x.1 x.2.1⟩
noncomputable def spec_dyAt_C (k : Nat) : Cfg := ⟨Try.prog, tyOf tys, 30, gOf [(151, [], spec_dyPower_V), (78, [], spec_l1In_V)], false, [], []⟩
def spec_dyAt_i58 : List PE := [⟨1, 32, .val ty_0 false, false⟩, ⟨2, 48, .box ty_1 false, false⟩, ⟨6, 64, .val ty_0 false, false⟩]
def spec_dyAt_o58 : List PE := [⟨2, 32, .box ty_1 false, false⟩]
noncomputable def spec_dyAt_f58 (k : Nat) (n : Nat) (x4 : PTe spec_dyAt_i58) : Option ((Int × Bool) ⊕ PTe spec_dyAt_o58) := spec_dyAt_L58 k n x4.1 x4.2.1 x4.2.2.1
def spec_dyAt_ps : List PE := [⟨0, 0, .val ty_1 true, false⟩, ⟨1, 16, .val ty_0 false, false⟩]
noncomputable def spec_dyAt_F (k : Nat) : Fn (Int × Bool) := ⟨spec_dyAt_C k, rdRes Try.prog spec_dyAt_ps [(ty_0, false), (.bool, false)] Try.f113.results.toList .ret, fun p => bif Nat.beq p 58 then some (.loop spec_dyAt_i58 spec_dyAt_o58 0 80 (spec_dyAt_f58 k k)) else none, 0, []⟩
theorem spec_dyAt_eq (k : Nat) (x : PTe spec_dyAt_ps) : evFn (spec_dyAt_F k) (codeOf Try.f113) spec_dyAt_ps 32 x = spec_dyAt k x.1 x.2.1 := by kernel_rfl
theorem spec_dyAt_ls : loopsOf (codeOf Try.f113) 1 = [(58, loopB (codeOf Try.f113) 58)] := by kernel_rfl
theorem spec_dyAt_l58 (k : Nat) : LoopOk (spec_dyAt_F k) (loopB (codeOf Try.f113) 58) 58 := LoopOk.mk (pin := spec_dyAt_i58) (pout := spec_dyAt_o58) (ex := 0) (nx := 80) (Lf := spec_dyAt_f58 k) (k := k) (by kernel_rfl) (fun _ => rfl) (by intro n x; kernel_rfl)
theorem spec_dyAt_K (k : Nat) : Contract Try.prog 113 (spec_dyAt_V k) :=
  contract (C := spec_dyAt_C k) (F := spec_dyAt_F k) (fn := Try.f113) (ps := spec_dyAt_ps) (rs := [(ty_0, false), (.bool, false)]) (nx := 32) ⟨tyOf_ok tys_ok, gOf_ok ⟨spec_dyPower_K, spec_l1In_K, trivial⟩⟩ rfl (by kernel_rfl) (by kernel_rfl) (by kernel_rfl) (by kernel_rfl) (by kernel_rfl) (by kernel_rfl) rfl (by kernel_rfl) (by kernel_rfl) (AnnOk_list [(58, loopB (codeOf Try.f113) 58)] spec_dyAt_ls ⟨spec_dyAt_l58 k, trivial⟩) mix_ok (spec_dyAt_eq k)

noncomputable def spec_vaSum_V (k : Nat) : Variant := ⟨[.val ty_4 false, .val ty_13 false], [(ty_0, false), (ty_0, false)], fun x => spec_vaSum k x.1 x.2.1⟩
noncomputable def spec_vaSum_C (k : Nat) : Cfg := ⟨Try.prog, tyOf tys, 85, gOf [(153, [], spec_l1Most_V), (113, [], spec_dyAt_V k), (115, [], spec_poPower_V), (151, [], spec_dyPower_V)], false, [], []⟩
def spec_vaSum_i58 : List PE := [⟨0, 32, .val ty_4 false, false⟩, ⟨1, 48, .val ty_13 false, false⟩, ⟨6, 64, .val ty_0 false, false⟩, ⟨19, 80, .val ty_13 false, false⟩, ⟨20, 96, .val ty_0 false, false⟩, ⟨21, 112, .val ty_0 false, false⟩]
def spec_vaSum_o58 : List PE := [⟨0, 32, .val ty_4 false, false⟩, ⟨1, 48, .val ty_13 false, false⟩, ⟨6, 64, .val ty_0 false, false⟩]
noncomputable def spec_vaSum_f58 (k : Nat) (n : Nat) (x2 : PTe spec_vaSum_i58) : Option ((Int × Int) ⊕ PTe spec_vaSum_o58) := spec_vaSum_L58 k n x2.1 x2.2.1 x2.2.2.1 x2.2.2.2.1 x2.2.2.2.2.1 x2.2.2.2.2.2.1
def spec_vaSum_i131282126 : List PE := [⟨1, 32, .val ty_13 false, false⟩, ⟨6, 48, .val ty_0 false, false⟩, ⟨9, 64, .val ty_0 false, false⟩, ⟨11, 80, .box ty_3 false, false⟩, ⟨12, 96, .val ty_0 false, false⟩, ⟨15, 112, .val ty_0 false, false⟩, ⟨17, 128, .val ty_0 false, false⟩, ⟨30, 144, .val ty_4 false, false⟩, ⟨31, 160, .val ty_0 false, false⟩, ⟨32, 176, .val ty_0 false, false⟩, ⟨38, 192, .val ty_13 false, false⟩, ⟨39, 208, .val ty_0 false, false⟩, ⟨40, 224, .val ty_0 false, false⟩]
def spec_vaSum_o131282126 : List PE := [⟨1, 32, .val ty_13 false, false⟩, ⟨6, 48, .val ty_0 false, false⟩, ⟨9, 64, .val ty_0 false, false⟩, ⟨11, 80, .box ty_3 false, false⟩, ⟨12, 96, .val ty_0 false, false⟩, ⟨30, 112, .val ty_4 false, false⟩, ⟨31, 128, .val ty_0 false, false⟩, ⟨32, 144, .val ty_0 false, false⟩, ⟨38, 160, .val ty_13 false, false⟩, ⟨39, 176, .val ty_0 false, false⟩, ⟨40, 192, .val ty_0 false, false⟩]
noncomputable def spec_vaSum_f131282126 (k : Nat) (n : Nat) (x7 : PTe spec_vaSum_i131282126) : Option ((Int × Int) ⊕ PTe spec_vaSum_o131282126) := spec_vaSum_L131282126 k n x7.1 x7.2.1 x7.2.2.1 x7.2.2.2.1 x7.2.2.2.2.1 x7.2.2.2.2.2.1 x7.2.2.2.2.2.2.1 x7.2.2.2.2.2.2.2.1 x7.2.2.2.2.2.2.2.2.1 x7.2.2.2.2.2.2.2.2.2.1 x7.2.2.2.2.2.2.2.2.2.2.1 x7.2.2.2.2.2.2.2.2.2.2.2.1 x7.2.2.2.2.2.2.2.2.2.2.2.2.1
def spec_vaSum_i256410 : List PE := [⟨1, 32, .val ty_13 false, false⟩, ⟨6, 48, .val ty_0 false, false⟩, ⟨9, 64, .val ty_0 false, false⟩, ⟨11, 80, .box ty_3 false, false⟩, ⟨12, 96, .val ty_0 false, false⟩, ⟨30, 112, .val ty_4 false, false⟩, ⟨31, 128, .val ty_0 false, false⟩, ⟨32, 144, .val ty_0 false, false⟩, ⟨38, 160, .val ty_13 false, false⟩, ⟨39, 176, .val ty_0 false, false⟩, ⟨40, 192, .val ty_0 false, false⟩]
def spec_vaSum_o256410 : List PE := [⟨1, 32, .val ty_13 false, false⟩, ⟨6, 48, .val ty_0 false, false⟩, ⟨9, 64, .val ty_0 false, false⟩, ⟨11, 80, .box ty_3 false, false⟩, ⟨12, 96, .val ty_0 false, false⟩, ⟨30, 112, .val ty_4 false, false⟩, ⟨31, 128, .val ty_0 false, false⟩, ⟨32, 144, .val ty_0 false, false⟩]
noncomputable def spec_vaSum_f256410 (k : Nat) (n : Nat) (x10 : PTe spec_vaSum_i256410) : Option ((Int × Int) ⊕ PTe spec_vaSum_o256410) := spec_vaSum_L256410 k n x10.1 x10.2.1 x10.2.2.1 x10.2.2.2.1 x10.2.2.2.2.1 x10.2.2.2.2.2.1 x10.2.2.2.2.2.2.1 x10.2.2.2.2.2.2.2.1 x10.2.2.2.2.2.2.2.2.1 x10.2.2.2.2.2.2.2.2.2.1 x10.2.2.2.2.2.2.2.2.2.2.1
def spec_vaSum_i512826 : List PE := [⟨1, 32, .val ty_13 false, false⟩, ⟨6, 48, .val ty_0 false, false⟩, ⟨9, 64, .val ty_0 false, false⟩, ⟨12, 80, .val ty_0 false, false⟩, ⟨18, 96, .val ty_0 false, false⟩, ⟨30, 112, .val ty_4 false, false⟩, ⟨31, 128, .val ty_0 false, false⟩, ⟨32, 144, .val ty_0 false, false⟩]
def spec_vaSum_o512826 : List PE := [⟨1, 32, .val ty_13 false, false⟩, ⟨6, 48, .val ty_0 false, false⟩, ⟨9, 64, .val ty_0 false, false⟩, ⟨12, 80, .val ty_0 false, false⟩, ⟨30, 96, .val ty_4 false, false⟩, ⟨31, 112, .val ty_0 false, false⟩, ⟨32, 128, .val ty_0 false, false⟩]
noncomputable def spec_vaSum_f512826 (k : Nat) (n : Nat) (x14 : PTe spec_vaSum_i512826) : Option ((Int × Int) ⊕ PTe spec_vaSum_o512826) := spec_vaSum_L512826 k n x14.1 x14.2.1 x14.2.2.1 x14.2.2.2.1 x14.2.2.2.2.1 x14.2.2.2.2.2.1 x14.2.2.2.2.2.2.1 x14.2.2.2.2.2.2.2.1
def spec_vaSum_i250 : List PE := [⟨1, 32, .val ty_13 false, false⟩, ⟨6, 48, .val ty_0 false, false⟩, ⟨9, 64, .val ty_0 false, false⟩, ⟨30, 80, .val ty_4 false, false⟩, ⟨31, 96, .val ty_0 false, false⟩, ⟨32, 112, .val ty_0 false, false⟩]
def spec_vaSum_o250 : List PE := [⟨6, 32, .val ty_0 false, false⟩, ⟨9, 48, .val ty_0 false, false⟩]
noncomputable def spec_vaSum_f250 (k : Nat) (n : Nat) (x17 : PTe spec_vaSum_i250) : Option ((Int × Int) ⊕ PTe spec_vaSum_o250) := spec_vaSum_L250 k n x17.1 x17.2.1 x17.2.2.1 x17.2.2.2.1 x17.2.2.2.2.1 x17.2.2.2.2.2.1
def spec_vaSum_ps : List PE := [⟨0, 0, .val ty_4 false, false⟩, ⟨1, 16, .val ty_13 false, false⟩]
noncomputable def spec_vaSum_F (k : Nat) : Fn (Int × Int) := ⟨spec_vaSum_C k, rdRes Try.prog spec_vaSum_ps [(ty_0, false), (ty_0, false)] Try.f100.results.toList .ret, fun p => bif Nat.beq p 58 then some (.loop spec_vaSum_i58 spec_vaSum_o58 0 128 (spec_vaSum_f58 k k)) else bif Nat.beq p 131282126 then some (.loop spec_vaSum_i131282126 spec_vaSum_o131282126 6 240 (spec_vaSum_f131282126 k k)) else bif Nat.beq p 256410 then some (.loop spec_vaSum_i256410 spec_vaSum_o256410 4 208 (spec_vaSum_f256410 k k)) else bif Nat.beq p 512826 then some (.loop spec_vaSum_i512826 spec_vaSum_o512826 8 160 (spec_vaSum_f512826 k k)) else bif Nat.beq p 250 then some (.loop spec_vaSum_i250 spec_vaSum_o250 2 128 (spec_vaSum_f250 k k)) else none, 0, []⟩
theorem spec_vaSum_eq (k : Nat) (x : PTe spec_vaSum_ps) : evFn (spec_vaSum_F k) (codeOf Try.f100) spec_vaSum_ps 32 x = spec_vaSum k x.1 x.2.1 := by kernel_rfl
theorem spec_vaSum_ls : loopsOf (codeOf Try.f100) 1 = [(58, loopB (codeOf Try.f100) 58), (250, loopB (codeOf Try.f100) 250), (256410, loopB (codeOf Try.f100) 256410), (131282126, loopB (codeOf Try.f100) 131282126), (512826, loopB (codeOf Try.f100) 512826)] := by kernel_rfl
theorem spec_vaSum_l58 (k : Nat) : LoopOk (spec_vaSum_F k) (loopB (codeOf Try.f100) 58) 58 := LoopOk.mk (pin := spec_vaSum_i58) (pout := spec_vaSum_o58) (ex := 0) (nx := 128) (Lf := spec_vaSum_f58 k) (k := k) (by kernel_rfl) (fun _ => rfl) (by intro n x; kernel_rfl)
theorem spec_vaSum_l131282126 (k : Nat) : LoopOk (spec_vaSum_F k) (loopB (codeOf Try.f100) 131282126) 131282126 := LoopOk.mk (pin := spec_vaSum_i131282126) (pout := spec_vaSum_o131282126) (ex := 6) (nx := 240) (Lf := spec_vaSum_f131282126 k) (k := k) (by kernel_rfl) (fun _ => rfl) (by intro n x; kernel_rfl)
theorem spec_vaSum_l256410 (k : Nat) : LoopOk (spec_vaSum_F k) (loopB (codeOf Try.f100) 256410) 256410 := LoopOk.mk (pin := spec_vaSum_i256410) (pout := spec_vaSum_o256410) (ex := 4) (nx := 208) (Lf := spec_vaSum_f256410 k) (k := k) (by kernel_rfl) (fun _ => rfl) (by intro n x; kernel_rfl)
theorem spec_vaSum_l512826 (k : Nat) : LoopOk (spec_vaSum_F k) (loopB (codeOf Try.f100) 512826) 512826 := LoopOk.mk (pin := spec_vaSum_i512826) (pout := spec_vaSum_o512826) (ex := 8) (nx := 160) (Lf := spec_vaSum_f512826 k) (k := k) (by kernel_rfl) (fun _ => rfl) (by intro n x; kernel_rfl)
theorem spec_vaSum_l250 (k : Nat) : LoopOk (spec_vaSum_F k) (loopB (codeOf Try.f100) 250) 250 := LoopOk.mk (pin := spec_vaSum_i250) (pout := spec_vaSum_o250) (ex := 2) (nx := 128) (Lf := spec_vaSum_f250 k) (k := k) (by kernel_rfl) (fun _ => rfl) (by intro n x; kernel_rfl)
theorem spec_vaSum_K (k : Nat) : Contract Try.prog 100 (spec_vaSum_V k) :=
  contract (C := spec_vaSum_C k) (F := spec_vaSum_F k) (fn := Try.f100) (ps := spec_vaSum_ps) (rs := [(ty_0, false), (ty_0, false)]) (nx := 32) ⟨tyOf_ok tys_ok, gOf_ok ⟨spec_l1Most_K, spec_dyAt_K k, spec_poPower_K, spec_dyPower_K, trivial⟩⟩ rfl (by kernel_rfl) (by kernel_rfl) (by kernel_rfl) (by kernel_rfl) (by kernel_rfl) (by kernel_rfl) rfl (by kernel_rfl) (by kernel_rfl) (AnnOk_list [(58, loopB (codeOf Try.f100) 58), (250, loopB (codeOf Try.f100) 250), (256410, loopB (codeOf Try.f100) 256410), (131282126, loopB (codeOf Try.f100) 131282126), (512826, loopB (codeOf Try.f100) 512826)] spec_vaSum_ls ⟨spec_vaSum_l58 k, spec_vaSum_l250 k, spec_vaSum_l256410 k, spec_vaSum_l131282126 k, spec_vaSum_l512826 k, trivial⟩) mix_ok (spec_vaSum_eq k)

noncomputable def spec_vaSigns_V (k : Nat) : Variant := ⟨[.val ty_5 false, .val ty_13 false], [(ty_7, false)], fun x => spec_vaSigns k x.1 x.2.1⟩
noncomputable def spec_vaSigns_C (k : Nat) : Cfg := ⟨Try.prog, tyOf tys, 29, gOf [(100, [], spec_vaSum_V k), (67, [], spec_l1Sign_V)], false, [], []⟩
def spec_vaSigns_i58 : List PE := [⟨1, 32, .val ty_13 false, false⟩, ⟨5, 48, .eat ty_0, false⟩, ⟨10, 64, .val ty_5 false, false⟩, ⟨11, 80, .val ty_0 false, false⟩, ⟨12, 96, .val ty_0 false, false⟩]
def spec_vaSigns_o58 : List PE := [⟨5, 32, .eat ty_0, false⟩]
noncomputable def spec_vaSigns_f58 (k : Nat) (n : Nat) (x3 : PTe spec_vaSigns_i58) : Option ((List Int) ⊕ PTe spec_vaSigns_o58) := spec_vaSigns_L58 k n x3.1 x3.2.1 x3.2.2.1 x3.2.2.2.1 x3.2.2.2.2.1
def spec_vaSigns_ps : List PE := [⟨0, 0, .val ty_5 false, false⟩, ⟨1, 16, .val ty_13 false, false⟩]
noncomputable def spec_vaSigns_F (k : Nat) : Fn (List Int) := ⟨spec_vaSigns_C k, rdRes Try.prog spec_vaSigns_ps [(ty_7, false)] Try.f51.results.toList .ret, fun p => bif Nat.beq p 58 then some (.loop spec_vaSigns_i58 spec_vaSigns_o58 0 112 (spec_vaSigns_f58 k k)) else none, 0, []⟩
theorem spec_vaSigns_eq (k : Nat) (x : PTe spec_vaSigns_ps) : evFn (spec_vaSigns_F k) (codeOf Try.f51) spec_vaSigns_ps 32 x = spec_vaSigns k x.1 x.2.1 := by kernel_rfl
theorem spec_vaSigns_ls : loopsOf (codeOf Try.f51) 1 = [(58, loopB (codeOf Try.f51) 58)] := by kernel_rfl
theorem spec_vaSigns_l58 (k : Nat) : LoopOk (spec_vaSigns_F k) (loopB (codeOf Try.f51) 58) 58 := LoopOk.mk (pin := spec_vaSigns_i58) (pout := spec_vaSigns_o58) (ex := 0) (nx := 112) (Lf := spec_vaSigns_f58 k) (k := k) (by kernel_rfl) (fun _ => rfl) (by intro n x; kernel_rfl)
theorem spec_vaSigns_K (k : Nat) : Contract Try.prog 51 (spec_vaSigns_V k) :=
  contract (C := spec_vaSigns_C k) (F := spec_vaSigns_F k) (fn := Try.f51) (ps := spec_vaSigns_ps) (rs := [(ty_7, false)]) (nx := 32) ⟨tyOf_ok tys_ok, gOf_ok ⟨spec_vaSum_K k, spec_l1Sign_K, trivial⟩⟩ rfl (by kernel_rfl) (by kernel_rfl) (by kernel_rfl) (by kernel_rfl) (by kernel_rfl) (by kernel_rfl) rfl (by kernel_rfl) (by kernel_rfl) (AnnOk_list [(58, loopB (codeOf Try.f51) 58)] spec_vaSigns_ls ⟨spec_vaSigns_l58 k, trivial⟩) mix_ok (spec_vaSigns_eq k)

noncomputable def spec_imQuarter_V : Variant := ⟨[.val ty_0 false, .val ty_0 false], [(ty_0, false), (.bool, false)], fun x => spec_imQuarter x.1 x.2.1⟩
noncomputable def spec_imQuarter_C : Cfg := ⟨Try.prog, tyOf tys, 25, gOf [], false, [], []⟩
def spec_imQuarter_ps : List PE := [⟨0, 0, .val ty_0 false, false⟩, ⟨1, 16, .val ty_0 false, false⟩]
noncomputable def spec_imQuarter_F : Fn (Int × Bool) := ⟨spec_imQuarter_C, rdRes Try.prog spec_imQuarter_ps [(ty_0, false), (.bool, false)] Try.f52.results.toList .ret, fun p => none, 0, []⟩
theorem spec_imQuarter_eq (x : PTe spec_imQuarter_ps) : evFn (spec_imQuarter_F) (codeOf Try.f52) spec_imQuarter_ps 32 x = spec_imQuarter x.1 x.2.1 := by kernel_rfl
theorem spec_imQuarter_K : Contract Try.prog 52 (spec_imQuarter_V) :=
  contract (C := spec_imQuarter_C) (F := spec_imQuarter_F) (fn := Try.f52) (ps := spec_imQuarter_ps) (rs := [(ty_0, false), (.bool, false)]) (nx := 32) ⟨tyOf_ok tys_ok, gOf_ok trivial⟩ rfl (by kernel_rfl) (by kernel_rfl) (by kernel_rfl) (by kernel_rfl) (by kernel_rfl) (by kernel_rfl) rfl (by kernel_rfl) (by kernel_rfl) (AnnOk_list [] (by kernel_rfl) trivial) mix_ok (spec_imQuarter_eq)

noncomputable def spec_CornerQuarters_V (k : Nat) : Variant := ⟨[.val ty_5 false, .val ty_9 true, .val ty_0 false], [(ty_7, false), (.bool, false)], fun x => spec_CornerQuarters k x.1 x.2.1 x.2.2.1⟩
noncomputable def spec_CornerQuarters_C (k : Nat) : Cfg := ⟨Try.prog, tyOf tys, 62, gOf [(49, [], spec_imAsked_V k), (50, [], spec_imEdges_V k), (51, [], spec_vaSigns_V k), (52, [], spec_imQuarter_V)], false, [], []⟩
def spec_CornerQuarters_i122 : List PE := [⟨0, 48, .val ty_5 false, false⟩, ⟨8, 64, .eat ty_0, false⟩, ⟨22, 80, .eat ty_12, false⟩, ⟨23, 96, .val ty_0 false, false⟩, ⟨24, 112, .val ty_0 false, false⟩]
def spec_CornerQuarters_o122 : List PE := [⟨8, 48, .eat ty_0, false⟩]
noncomputable def spec_CornerQuarters_f122 (k : Nat) (n : Nat) (x7 : PTe spec_CornerQuarters_i122) : Option (((List Int) × Bool) ⊕ PTe spec_CornerQuarters_o122) := spec_CornerQuarters_L122 k n x7.1 x7.2.1 x7.2.2.1 x7.2.2.2.1 x7.2.2.2.2.1
def spec_CornerQuarters_ps : List PE := [⟨0, 0, .val ty_5 false, false⟩, ⟨1, 16, .val ty_9 true, false⟩, ⟨2, 32, .val ty_0 false, false⟩]
noncomputable def spec_CornerQuarters_F (k : Nat) : Fn ((List Int) × Bool) := ⟨spec_CornerQuarters_C k, rdRes Try.prog spec_CornerQuarters_ps [(ty_7, false), (.bool, false)] Try.f11.results.toList .ret, fun p => bif Nat.beq p 31334 then some (.cut [⟨0, 48, .val ty_5 false, false⟩, ⟨8, 64, .eat ty_0, false⟩, ⟨11, 80, .eat ty_1, false⟩, ⟨22, 96, .eat ty_12, false⟩, ⟨23, 112, .val ty_0 false, false⟩, ⟨24, 128, .val ty_0 false, false⟩] 144) else bif Nat.beq p 122 then some (.loop spec_CornerQuarters_i122 spec_CornerQuarters_o122 0 128 (spec_CornerQuarters_f122 k k)) else none, 0, []⟩
theorem spec_CornerQuarters_eq (k : Nat) (x : PTe spec_CornerQuarters_ps) : evFn (spec_CornerQuarters_F k) (codeOf Try.f11) spec_CornerQuarters_ps 48 x = spec_CornerQuarters k x.1 x.2.1 x.2.2.1 := by kernel_rfl
theorem spec_CornerQuarters_ls : loopsOf (codeOf Try.f11) 1 = [(122, loopB (codeOf Try.f11) 122)] := by kernel_rfl
theorem spec_CornerQuarters_l122 (k : Nat) : LoopOk (spec_CornerQuarters_F k) (loopB (codeOf Try.f11) 122) 122 := LoopOk.mk (pin := spec_CornerQuarters_i122) (pout := spec_CornerQuarters_o122) (ex := 0) (nx := 128) (Lf := spec_CornerQuarters_f122 k) (k := k) (by kernel_rfl) (fun _ => rfl) (by intro n x; kernel_rfl)
theorem spec_CornerQuarters_K (k : Nat) : Contract Try.prog 11 (spec_CornerQuarters_V k) :=
  contract (C := spec_CornerQuarters_C k) (F := spec_CornerQuarters_F k) (fn := Try.f11) (ps := spec_CornerQuarters_ps) (rs := [(ty_7, false), (.bool, false)]) (nx := 48) ⟨tyOf_ok tys_ok, gOf_ok ⟨spec_imAsked_K k, spec_imEdges_K k, spec_vaSigns_K k, spec_imQuarter_K, trivial⟩⟩ rfl (by kernel_rfl) (by kernel_rfl) (by kernel_rfl) (by kernel_rfl) (by kernel_rfl) (by kernel_rfl) rfl (by kernel_rfl) (by kernel_rfl) (AnnOk_list [(122, loopB (codeOf Try.f11) 122)] spec_CornerQuarters_ls ⟨spec_CornerQuarters_l122 k, trivial⟩) mix_ok (spec_CornerQuarters_eq k)

noncomputable def impl_inside_V : Variant := ⟨[.val ty_0 false, .val ty_0 false, .val ty_0 false], [(.bool, false)], fun x => impl_inside x.1 x.2.1 x.2.2.1⟩
noncomputable def impl_inside_C : Cfg := ⟨Try.prog, tyOf tys, 15, gOf [], false, [], []⟩
def impl_inside_ps : List PE := [⟨0, 0, .val ty_0 false, false⟩, ⟨1, 16, .val ty_0 false, false⟩, ⟨2, 32, .val ty_0 false, false⟩]
noncomputable def impl_inside_F : Fn (Bool) := ⟨impl_inside_C, rdRes Try.prog impl_inside_ps [(.bool, false)] Try.f57.results.toList .ret, fun p => none, 0, []⟩
theorem impl_inside_eq (x : PTe impl_inside_ps) : evFn (impl_inside_F) (codeOf Try.f57) impl_inside_ps 48 x = impl_inside x.1 x.2.1 x.2.2.1 := by kernel_rfl
theorem impl_inside_K : Contract Try.prog 57 (impl_inside_V) :=
  contract (C := impl_inside_C) (F := impl_inside_F) (fn := Try.f57) (ps := impl_inside_ps) (rs := [(.bool, false)]) (nx := 48) ⟨tyOf_ok tys_ok, gOf_ok trivial⟩ rfl (by kernel_rfl) (by kernel_rfl) (by kernel_rfl) (by kernel_rfl) (by kernel_rfl) (by kernel_rfl) rfl (by kernel_rfl) (by kernel_rfl) (AnnOk_list [] (by kernel_rfl) trivial) mix_ok (impl_inside_eq)

noncomputable def impl_Term_degree_V : Variant := ⟨[.val ty_3 true], [(ty_0, false)], fun x => impl_Term_degree x.1⟩
noncomputable def impl_Term_degree_C : Cfg := ⟨Try.prog, tyOf tys, 11, gOf [], false, [], []⟩
def impl_Term_degree_ps : List PE := [⟨0, 0, .val ty_3 true, false⟩]
noncomputable def impl_Term_degree_F : Fn (Int) := ⟨impl_Term_degree_C, rdRes Try.prog impl_Term_degree_ps [(ty_0, false)] Try.f106.results.toList .ret, fun p => none, 0, []⟩
theorem impl_Term_degree_eq (x : PTe impl_Term_degree_ps) : evFn (impl_Term_degree_F) (codeOf Try.f106) impl_Term_degree_ps 16 x = impl_Term_degree x.1 := by kernel_rfl
theorem impl_Term_degree_K : Contract Try.prog 106 (impl_Term_degree_V) :=
  contract (C := impl_Term_degree_C) (F := impl_Term_degree_F) (fn := Try.f106) (ps := impl_Term_degree_ps) (rs := [(ty_0, false)]) (nx := 16) ⟨tyOf_ok tys_ok, gOf_ok trivial⟩ rfl (by kernel_rfl) (by kernel_rfl) (by kernel_rfl) (by kernel_rfl) (by kernel_rfl) (by kernel_rfl) rfl (by kernel_rfl) (by kernel_rfl) (AnnOk_list [] (by kernel_rfl) trivial) mix_ok (impl_Term_degree_eq)

noncomputable def impl_hasDegree_V : Variant := ⟨[.val ty_3 true], [(.bool, false)], fun x => impl_hasDegree x.1⟩
noncomputable def impl_hasDegree_C : Cfg := ⟨Try.prog, tyOf tys, 21, gOf [(57, [], impl_inside_V), (106, [], impl_Term_degree_V)], false, [], []⟩
def impl_hasDegree_ps : List PE := [⟨0, 0, .val ty_3 true, false⟩]
noncomputable def impl_hasDegree_F : Fn (Bool) := ⟨impl_hasDegree_C, rdRes Try.prog impl_hasDegree_ps [(.bool, false)] Try.f193.results.toList .ret, fun p => none, 0, []⟩
theorem impl_hasDegree_eq (x : PTe impl_hasDegree_ps) : evFn (impl_hasDegree_F) (codeOf Try.f193) impl_hasDegree_ps 16 x = impl_hasDegree x.1 := by kernel_rfl
theorem impl_hasDegree_K : Contract Try.prog 193 (impl_hasDegree_V) :=
  contract (C := impl_hasDegree_C) (F := impl_hasDegree_F) (fn := Try.f193) (ps := impl_hasDegree_ps) (rs := [(.bool, false)]) (nx := 16) ⟨tyOf_ok tys_ok, gOf_ok ⟨impl_inside_K, impl_Term_degree_K, trivial⟩⟩ rfl (by kernel_rfl) (by kernel_rfl) (by kernel_rfl) (by kernel_rfl) (by kernel_rfl) (by kernel_rfl) rfl (by kernel_rfl) (by kernel_rfl) (AnnOk_list [] (by kernel_rfl) trivial) mix_ok (impl_hasDegree_eq)

noncomputable def cmp_isNaN_int_V : Variant := ⟨[.val ty_0 false], [(.bool, false)], fun x => cmp_isNaN_int x.1⟩
noncomputable def cmp_isNaN_int_C : Cfg := ⟨Try.prog, tyOf tys, 6, gOf [], false, [], []⟩
def cmp_isNaN_int_ps : List PE := [⟨0, 0, .val ty_0 false, false⟩]
noncomputable def cmp_isNaN_int_F : Fn (Bool) := ⟨cmp_isNaN_int_C, rdRes Try.prog cmp_isNaN_int_ps [(.bool, false)] Try.f212.results.toList .ret, fun p => none, 0, []⟩
theorem cmp_isNaN_int_eq (x : PTe cmp_isNaN_int_ps) : evFn (cmp_isNaN_int_F) (codeOf Try.f212) cmp_isNaN_int_ps 16 x = cmp_isNaN_int x.1 := by kernel_rfl
theorem cmp_isNaN_int_K : Contract Try.prog 212 (cmp_isNaN_int_V) :=
  contract (C := cmp_isNaN_int_C) (F := cmp_isNaN_int_F) (fn := Try.f212) (ps := cmp_isNaN_int_ps) (rs := [(.bool, false)]) (nx := 16) ⟨tyOf_ok tys_ok, gOf_ok trivial⟩ rfl (by kernel_rfl) (by kernel_rfl) (by kernel_rfl) (by kernel_rfl) (by kernel_rfl) (by kernel_rfl) rfl (by kernel_rfl) (by kernel_rfl) (AnnOk_list [] (by kernel_rfl) trivial) mix_ok (cmp_isNaN_int_eq)

noncomputable def cmp_Compare_int_V : Variant := ⟨[.val ty_0 false, .val ty_0 false], [(ty_0, false)], fun x => cmp_Compare_int x.1 x.2.1⟩
noncomputable def cmp_Compare_int_C : Cfg := ⟨Try.prog, tyOf tys, 20, gOf [(212, [], cmp_isNaN_int_V)], false, [], []⟩
def cmp_Compare_int_ps : List PE := [⟨0, 0, .val ty_0 false, false⟩, ⟨1, 16, .val ty_0 false, false⟩]
noncomputable def cmp_Compare_int_F : Fn (Int) := ⟨cmp_Compare_int_C, rdRes Try.prog cmp_Compare_int_ps [(ty_0, false)] Try.f195.results.toList .ret, fun p => none, 0, []⟩
theorem cmp_Compare_int_eq (x : PTe cmp_Compare_int_ps) : evFn (cmp_Compare_int_F) (codeOf Try.f195) cmp_Compare_int_ps 32 x = cmp_Compare_int x.1 x.2.1 := by kernel_rfl
theorem cmp_Compare_int_K : Contract Try.prog 195 (cmp_Compare_int_V) :=
  contract (C := cmp_Compare_int_C) (F := cmp_Compare_int_F) (fn := Try.f195) (ps := cmp_Compare_int_ps) (rs := [(ty_0, false)]) (nx := 32) ⟨tyOf_ok tys_ok, gOf_ok ⟨cmp_isNaN_int_K, trivial⟩⟩ rfl (by kernel_rfl) (by kernel_rfl) (by kernel_rfl) (by kernel_rfl) (by kernel_rfl) (by kernel_rfl) rfl (by kernel_rfl) (by kernel_rfl) (AnnOk_list [] (by kernel_rfl) trivial) mix_ok (cmp_Compare_int_eq)

noncomputable def cmp_Or_int_V (k : Nat) : Variant := ⟨[.val ty_7 false], [(ty_0, false)], fun x => cmp_Or_int k x.1⟩
noncomputable def cmp_Or_int_C (k : Nat) : Cfg := ⟨Try.prog, tyOf tys, 18, gOf [], false, [], []⟩
def cmp_Or_int_i58 : List PE := [⟨3, 16, .val ty_0 false, false⟩, ⟨6, 32, .val ty_7 false, false⟩, ⟨7, 48, .val ty_0 false, false⟩, ⟨8, 64, .val ty_0 false, false⟩]
def cmp_Or_int_o58 : List PE := [⟨3, 16, .val ty_0 false, false⟩]
noncomputable def cmp_Or_int_f58 (k : Nat) (n : Nat) (x1 : PTe cmp_Or_int_i58) : Option ((Int) ⊕ PTe cmp_Or_int_o58) := cmp_Or_int_L58 k n x1.1 x1.2.1 x1.2.2.1 x1.2.2.2.1
def cmp_Or_int_ps : List PE := [⟨0, 0, .val ty_7 false, false⟩]
noncomputable def cmp_Or_int_F (k : Nat) : Fn (Int) := ⟨cmp_Or_int_C k, rdRes Try.prog cmp_Or_int_ps [(ty_0, false)] Try.f167.results.toList .ret, fun p => bif Nat.beq p 58 then some (.loop cmp_Or_int_i58 cmp_Or_int_o58 0 80 (cmp_Or_int_f58 k k)) else none, 0, []⟩
theorem cmp_Or_int_eq (k : Nat) (x : PTe cmp_Or_int_ps) : evFn (cmp_Or_int_F k) (codeOf Try.f167) cmp_Or_int_ps 16 x = cmp_Or_int k x.1 := by kernel_rfl
theorem cmp_Or_int_ls : loopsOf (codeOf Try.f167) 1 = [(58, loopB (codeOf Try.f167) 58)] := by kernel_rfl
theorem cmp_Or_int_l58 (k : Nat) : LoopOk (cmp_Or_int_F k) (loopB (codeOf Try.f167) 58) 58 := LoopOk.mk (pin := cmp_Or_int_i58) (pout := cmp_Or_int_o58) (ex := 0) (nx := 80) (Lf := cmp_Or_int_f58 k) (k := k) (by kernel_rfl) (fun _ => rfl) (by intro n x; kernel_rfl)
theorem cmp_Or_int_K (k : Nat) : Contract Try.prog 167 (cmp_Or_int_V k) :=
  contract (C := cmp_Or_int_C k) (F := cmp_Or_int_F k) (fn := Try.f167) (ps := cmp_Or_int_ps) (rs := [(ty_0, false)]) (nx := 16) ⟨tyOf_ok tys_ok, gOf_ok trivial⟩ rfl (by kernel_rfl) (by kernel_rfl) (by kernel_rfl) (by kernel_rfl) (by kernel_rfl) (by kernel_rfl) rfl (by kernel_rfl) (by kernel_rfl) (AnnOk_list [(58, loopB (codeOf Try.f167) 58)] cmp_Or_int_ls ⟨cmp_Or_int_l58 k, trivial⟩) mix_ok (cmp_Or_int_eq k)

noncomputable def impl_compareTerms_V (k : Nat) : Variant := ⟨[.val ty_3 true, .val ty_3 true], [(ty_0, false)], fun x => impl_compareTerms k x.1 x.2.1⟩
noncomputable def impl_compareTerms_C (k : Nat) : Cfg := ⟨Try.prog, tyOf tys, 22, gOf [(195, [], cmp_Compare_int_V), (167, [], cmp_Or_int_V k)], false, [], []⟩
def impl_compareTerms_ps : List PE := [⟨0, 0, .val ty_3 true, false⟩, ⟨1, 16, .val ty_3 true, false⟩]
noncomputable def impl_compareTerms_F (k : Nat) : Fn (Int) := ⟨impl_compareTerms_C k, rdRes Try.prog impl_compareTerms_ps [(ty_0, false)] Try.f164.results.toList .ret, fun p => none, 0, []⟩
theorem impl_compareTerms_eq (k : Nat) (x : PTe impl_compareTerms_ps) : evFn (impl_compareTerms_F k) (codeOf Try.f164) impl_compareTerms_ps 32 x = impl_compareTerms k x.1 x.2.1 := by kernel_rfl
theorem impl_compareTerms_K (k : Nat) : Contract Try.prog 164 (impl_compareTerms_V k) :=
  contract (C := impl_compareTerms_C k) (F := impl_compareTerms_F k) (fn := Try.f164) (ps := impl_compareTerms_ps) (rs := [(ty_0, false)]) (nx := 32) ⟨tyOf_ok tys_ok, gOf_ok ⟨cmp_Compare_int_K, cmp_Or_int_K k, trivial⟩⟩ rfl (by kernel_rfl) (by kernel_rfl) (by kernel_rfl) (by kernel_rfl) (by kernel_rfl) (by kernel_rfl) rfl (by kernel_rfl) (by kernel_rfl) (AnnOk_list [] (by kernel_rfl) trivial) mix_ok (impl_compareTerms_eq k)

noncomputable def impl_isPoly_V (k : Nat) : Variant := ⟨[.val ty_4 false], [(.bool, false)], fun x => impl_isPoly k x.1⟩
noncomputable def impl_isPoly_C (k : Nat) : Cfg := ⟨Try.prog, tyOf tys, 44, gOf [(57, [], impl_inside_V), (193, [], impl_hasDegree_V), (164, [], impl_compareTerms_V k)], false, [], []⟩
def impl_isPoly_i26 : List PE := [⟨0, 16, .val ty_4 false, false⟩, ⟨5, 32, .val ty_4 false, false⟩, ⟨6, 48, .val ty_0 false, false⟩, ⟨7, 64, .val ty_0 false, false⟩]
def impl_isPoly_o26 : List PE := [⟨0, 16, .val ty_4 false, false⟩]
noncomputable def impl_isPoly_f26 (k : Nat) (n : Nat) (x4 : PTe impl_isPoly_i26) : Option ((Bool) ⊕ PTe impl_isPoly_o26) := impl_isPoly_L26 k n x4.1 x4.2.1 x4.2.2.1 x4.2.2.2.1
def impl_isPoly_ps : List PE := [⟨0, 0, .val ty_4 false, false⟩]
noncomputable def impl_isPoly_F (k : Nat) : Fn (Bool) := ⟨impl_isPoly_C k, rdRes Try.prog impl_isPoly_ps [(.bool, false)] Try.f159.results.toList .ret, fun p => bif Nat.beq p 26 then some (.loop impl_isPoly_i26 impl_isPoly_o26 0 80 (impl_isPoly_f26 k k)) else none, 0, []⟩
theorem impl_isPoly_eq (k : Nat) (x : PTe impl_isPoly_ps) : evFn (impl_isPoly_F k) (codeOf Try.f159) impl_isPoly_ps 16 x = impl_isPoly k x.1 := by kernel_rfl
theorem impl_isPoly_ls : loopsOf (codeOf Try.f159) 1 = [(26, loopB (codeOf Try.f159) 26)] := by kernel_rfl
theorem impl_isPoly_l26 (k : Nat) : LoopOk (impl_isPoly_F k) (loopB (codeOf Try.f159) 26) 26 := LoopOk.mk (pin := impl_isPoly_i26) (pout := impl_isPoly_o26) (ex := 0) (nx := 80) (Lf := impl_isPoly_f26 k) (k := k) (by kernel_rfl) (fun _ => rfl) (by intro n x; kernel_rfl)
theorem impl_isPoly_K (k : Nat) : Contract Try.prog 159 (impl_isPoly_V k) :=
  contract (C := impl_isPoly_C k) (F := impl_isPoly_F k) (fn := Try.f159) (ps := impl_isPoly_ps) (rs := [(.bool, false)]) (nx := 16) ⟨tyOf_ok tys_ok, gOf_ok ⟨impl_inside_K, impl_hasDegree_K, impl_compareTerms_K k, trivial⟩⟩ rfl (by kernel_rfl) (by kernel_rfl) (by kernel_rfl) (by kernel_rfl) (by kernel_rfl) (by kernel_rfl) rfl (by kernel_rfl) (by kernel_rfl) (AnnOk_list [(26, loopB (codeOf Try.f159) 26)] impl_isPoly_ls ⟨impl_isPoly_l26 k, trivial⟩) mix_ok (impl_isPoly_eq k)

noncomputable def impl_Term_exponents_V : Variant := ⟨[.val ty_3 true], [(ty_2, true)], fun x => impl_Term_exponents x.1⟩
noncomputable def impl_Term_exponents_C : Cfg := ⟨Try.prog, tyOf tys, 10, gOf [], false, [], []⟩
def impl_Term_exponents_ps : List PE := [⟨0, 0, .val ty_3 true, false⟩]
noncomputable def impl_Term_exponents_F : Fn (Int × Int × Int) := ⟨impl_Term_exponents_C, rdRes Try.prog impl_Term_exponents_ps [(ty_2, true)] Try.f107.results.toList .ret, fun p => none, 0, []⟩
theorem impl_Term_exponents_eq (x : PTe impl_Term_exponents_ps) : evFn (impl_Term_exponents_F) (codeOf Try.f107) impl_Term_exponents_ps 16 x = impl_Term_exponents x.1 := by kernel_rfl
theorem impl_Term_exponents_K : Contract Try.prog 107 (impl_Term_exponents_V) :=
  contract (C := impl_Term_exponents_C) (F := impl_Term_exponents_F) (fn := Try.f107) (ps := impl_Term_exponents_ps) (rs := [(ty_2, true)]) (nx := 16) ⟨tyOf_ok tys_ok, gOf_ok trivial⟩ rfl (by kernel_rfl) (by kernel_rfl) (by kernel_rfl) (by kernel_rfl) (by kernel_rfl) (by kernel_rfl) rfl (by kernel_rfl) (by kernel_rfl) (AnnOk_list [] (by kernel_rfl) trivial) mix_ok (impl_Term_exponents_eq)

noncomputable def impl_needsAtMost_V (k : Nat) : Variant := ⟨[.val ty_4 false, .val ty_0 false], [(.bool, false)], fun x => impl_needsAtMost k x.1 x.2.1⟩
noncomputable def impl_needsAtMost_C (k : Nat) : Cfg := ⟨Try.prog, tyOf tys, 30, gOf [(107, [], impl_Term_exponents_V)], false, [], []⟩
def impl_needsAtMost_i6758 : List PE := [⟨1, 32, .val ty_0 false, false⟩, ⟨9, 48, .val ty_4 false, false⟩, ⟨10, 64, .val ty_0 false, false⟩, ⟨11, 80, .val ty_0 false, false⟩, ⟨16, 96, .val ty_2 true, false⟩, ⟨17, 112, .val ty_0 false, false⟩]
def impl_needsAtMost_o6758 : List PE := [⟨1, 32, .val ty_0 false, false⟩, ⟨9, 48, .val ty_4 false, false⟩, ⟨10, 64, .val ty_0 false, false⟩, ⟨11, 80, .val ty_0 false, false⟩]
noncomputable def impl_needsAtMost_f6758 (k : Nat) (n : Nat) (x2 : PTe impl_needsAtMost_i6758) : Option ((Bool) ⊕ PTe impl_needsAtMost_o6758) := impl_needsAtMost_L6758 k n x2.1 x2.2.1 x2.2.2.1 x2.2.2.2.1 x2.2.2.2.2.1 x2.2.2.2.2.2.1
def impl_needsAtMost_i26 : List PE := [⟨1, 32, .val ty_0 false, false⟩, ⟨9, 48, .val ty_4 false, false⟩, ⟨10, 64, .val ty_0 false, false⟩, ⟨11, 80, .val ty_0 false, false⟩]
def impl_needsAtMost_o26 : List PE := []
noncomputable def impl_needsAtMost_f26 (k : Nat) (n : Nat) (x5 : PTe impl_needsAtMost_i26) : Option ((Bool) ⊕ PTe impl_needsAtMost_o26) := impl_needsAtMost_L26 k n x5.1 x5.2.1 x5.2.2.1 x5.2.2.2.1
def impl_needsAtMost_ps : List PE := [⟨0, 0, .val ty_4 false, false⟩, ⟨1, 16, .val ty_0 false, false⟩]
noncomputable def impl_needsAtMost_F (k : Nat) : Fn (Bool) := ⟨impl_needsAtMost_C k, rdRes Try.prog impl_needsAtMost_ps [(.bool, false)] Try.f160.results.toList .ret, fun p => bif Nat.beq p 6758 then some (.loop impl_needsAtMost_i6758 impl_needsAtMost_o6758 2 128 (impl_needsAtMost_f6758 k k)) else bif Nat.beq p 26 then some (.loop impl_needsAtMost_i26 impl_needsAtMost_o26 0 96 (impl_needsAtMost_f26 k k)) else none, 0, []⟩
theorem impl_needsAtMost_eq (k : Nat) (x : PTe impl_needsAtMost_ps) : evFn (impl_needsAtMost_F k) (codeOf Try.f160) impl_needsAtMost_ps 32 x = impl_needsAtMost k x.1 x.2.1 := by kernel_rfl
theorem impl_needsAtMost_ls : loopsOf (codeOf Try.f160) 1 = [(26, loopB (codeOf Try.f160) 26), (6758, loopB (codeOf Try.f160) 6758)] := by kernel_rfl
theorem impl_needsAtMost_l6758 (k : Nat) : LoopOk (impl_needsAtMost_F k) (loopB (codeOf Try.f160) 6758) 6758 := LoopOk.mk (pin := impl_needsAtMost_i6758) (pout := impl_needsAtMost_o6758) (ex := 2) (nx := 128) (Lf := impl_needsAtMost_f6758 k) (k := k) (by kernel_rfl) (fun _ => rfl) (by intro n x; kernel_rfl)
theorem impl_needsAtMost_l26 (k : Nat) : LoopOk (impl_needsAtMost_F k) (loopB (codeOf Try.f160) 26) 26 := LoopOk.mk (pin := impl_needsAtMost_i26) (pout := impl_needsAtMost_o26) (ex := 0) (nx := 96) (Lf := impl_needsAtMost_f26 k) (k := k) (by kernel_rfl) (fun _ => rfl) (by intro n x; kernel_rfl)
theorem impl_needsAtMost_K (k : Nat) : Contract Try.prog 160 (impl_needsAtMost_V k) :=
  contract (C := impl_needsAtMost_C k) (F := impl_needsAtMost_F k) (fn := Try.f160) (ps := impl_needsAtMost_ps) (rs := [(.bool, false)]) (nx := 32) ⟨tyOf_ok tys_ok, gOf_ok ⟨impl_Term_exponents_K, trivial⟩⟩ rfl (by kernel_rfl) (by kernel_rfl) (by kernel_rfl) (by kernel_rfl) (by kernel_rfl) (by kernel_rfl) rfl (by kernel_rfl) (by kernel_rfl) (AnnOk_list [(26, loopB (codeOf Try.f160) 26), (6758, loopB (codeOf Try.f160) 6758)] impl_needsAtMost_ls ⟨impl_needsAtMost_l26 k, impl_needsAtMost_l6758 k, trivial⟩) mix_ok (impl_needsAtMost_eq k)

noncomputable def impl_isSystem_V (k : Nat) : Variant := ⟨[.val ty_5 false], [(.bool, false)], fun x => impl_isSystem k x.1⟩
noncomputable def impl_isSystem_C (k : Nat) : Cfg := ⟨Try.prog, tyOf tys, 25, gOf [(159, [], impl_isPoly_V k), (160, [], impl_needsAtMost_V k), (57, [], impl_inside_V)], false, [], []⟩
def impl_isSystem_i26 : List PE := [⟨0, 16, .val ty_5 false, false⟩, ⟨5, 32, .val ty_5 false, false⟩, ⟨6, 48, .val ty_0 false, false⟩, ⟨7, 64, .val ty_0 false, false⟩]
def impl_isSystem_o26 : List PE := [⟨0, 16, .val ty_5 false, false⟩]
noncomputable def impl_isSystem_f26 (k : Nat) (n : Nat) (x3 : PTe impl_isSystem_i26) : Option ((Bool) ⊕ PTe impl_isSystem_o26) := impl_isSystem_L26 k n x3.1 x3.2.1 x3.2.2.1 x3.2.2.2.1
def impl_isSystem_ps : List PE := [⟨0, 0, .val ty_5 false, false⟩]
noncomputable def impl_isSystem_F (k : Nat) : Fn (Bool) := ⟨impl_isSystem_C k, rdRes Try.prog impl_isSystem_ps [(.bool, false)] Try.f119.results.toList .ret, fun p => bif Nat.beq p 26 then some (.loop impl_isSystem_i26 impl_isSystem_o26 0 80 (impl_isSystem_f26 k k)) else none, 0, []⟩
theorem impl_isSystem_eq (k : Nat) (x : PTe impl_isSystem_ps) : evFn (impl_isSystem_F k) (codeOf Try.f119) impl_isSystem_ps 16 x = impl_isSystem k x.1 := by kernel_rfl
theorem impl_isSystem_ls : loopsOf (codeOf Try.f119) 1 = [(26, loopB (codeOf Try.f119) 26)] := by kernel_rfl
theorem impl_isSystem_l26 (k : Nat) : LoopOk (impl_isSystem_F k) (loopB (codeOf Try.f119) 26) 26 := LoopOk.mk (pin := impl_isSystem_i26) (pout := impl_isSystem_o26) (ex := 0) (nx := 80) (Lf := impl_isSystem_f26 k) (k := k) (by kernel_rfl) (fun _ => rfl) (by intro n x; kernel_rfl)
theorem impl_isSystem_K (k : Nat) : Contract Try.prog 119 (impl_isSystem_V k) :=
  contract (C := impl_isSystem_C k) (F := impl_isSystem_F k) (fn := Try.f119) (ps := impl_isSystem_ps) (rs := [(.bool, false)]) (nx := 16) ⟨tyOf_ok tys_ok, gOf_ok ⟨impl_isPoly_K k, impl_needsAtMost_K k, impl_inside_K, trivial⟩⟩ rfl (by kernel_rfl) (by kernel_rfl) (by kernel_rfl) (by kernel_rfl) (by kernel_rfl) (by kernel_rfl) rfl (by kernel_rfl) (by kernel_rfl) (AnnOk_list [(26, loopB (codeOf Try.f119) 26)] impl_isSystem_ls ⟨impl_isSystem_l26 k, trivial⟩) mix_ok (impl_isSystem_eq k)

noncomputable def impl_isTwo_V (k : Nat) : Variant := ⟨[.val ty_5 false], [(.bool, false)], fun x => impl_isTwo k x.1⟩
noncomputable def impl_isTwo_C (k : Nat) : Cfg := ⟨Try.prog, tyOf tys, 10, gOf [(119, [], impl_isSystem_V k)], false, [], []⟩
def impl_isTwo_ps : List PE := [⟨0, 0, .val ty_5 false, false⟩]
noncomputable def impl_isTwo_F (k : Nat) : Fn (Bool) := ⟨impl_isTwo_C k, rdRes Try.prog impl_isTwo_ps [(.bool, false)] Try.f71.results.toList .ret, fun p => none, 0, []⟩
theorem impl_isTwo_eq (k : Nat) (x : PTe impl_isTwo_ps) : evFn (impl_isTwo_F k) (codeOf Try.f71) impl_isTwo_ps 16 x = impl_isTwo k x.1 := by kernel_rfl
theorem impl_isTwo_K (k : Nat) : Contract Try.prog 71 (impl_isTwo_V k) :=
  contract (C := impl_isTwo_C k) (F := impl_isTwo_F k) (fn := Try.f71) (ps := impl_isTwo_ps) (rs := [(.bool, false)]) (nx := 16) ⟨tyOf_ok tys_ok, gOf_ok ⟨impl_isSystem_K k, trivial⟩⟩ rfl (by kernel_rfl) (by kernel_rfl) (by kernel_rfl) (by kernel_rfl) (by kernel_rfl) (by kernel_rfl) rfl (by kernel_rfl) (by kernel_rfl) (AnnOk_list [] (by kernel_rfl) trivial) mix_ok (impl_isTwo_eq k)

noncomputable def impl_isBox_V (k : Nat) : Variant := ⟨[.ptr ty_9 false], [(.bool, false)], fun x => impl_isBox k x.1⟩
noncomputable def impl_isBox_C (k : Nat) : Cfg := ⟨Try.prog, tyOf tys, 94, gOf [(57, [], impl_inside_V)], false, [], []⟩
def impl_isBox_i122 : List PE := [⟨0, 16, .ptr ty_9 false, false⟩, ⟨3, 32, .val ty_0 false, false⟩, ⟨4, 48, .val .bool false, false⟩, ⟨48, 64, .val ty_7 false, false⟩, ⟨49, 80, .val ty_0 false, false⟩, ⟨50, 96, .val ty_0 false, false⟩]
def impl_isBox_o122 : List PE := [⟨4, 16, .val .bool false, false⟩]
noncomputable def impl_isBox_f122 (k : Nat) (n : Nat) (x5 : PTe impl_isBox_i122) : Option ((Bool) ⊕ PTe impl_isBox_o122) := impl_isBox_L122 k n x5.1 x5.2.1 x5.2.2.1 x5.2.2.2.1 x5.2.2.2.2.1 x5.2.2.2.2.2.1
def impl_isBox_ps : List PE := [⟨0, 0, .ptr ty_9 false, false⟩]
noncomputable def impl_isBox_F (k : Nat) : Fn (Bool) := ⟨impl_isBox_C k, rdRes Try.prog impl_isBox_ps [(.bool, false)] Try.f149.results.toList .ret, fun p => bif Nat.beq p 122 then some (.loop impl_isBox_i122 impl_isBox_o122 0 112 (impl_isBox_f122 k k)) else none, 0, []⟩
theorem impl_isBox_eq (k : Nat) (x : PTe impl_isBox_ps) : evFn (impl_isBox_F k) (codeOf Try.f149) impl_isBox_ps 16 x = impl_isBox k x.1 := by kernel_rfl
theorem impl_isBox_ls : loopsOf (codeOf Try.f149) 1 = [(122, loopB (codeOf Try.f149) 122)] := by kernel_rfl
theorem impl_isBox_l122 (k : Nat) : LoopOk (impl_isBox_F k) (loopB (codeOf Try.f149) 122) 122 := LoopOk.mk (pin := impl_isBox_i122) (pout := impl_isBox_o122) (ex := 0) (nx := 112) (Lf := impl_isBox_f122 k) (k := k) (by kernel_rfl) (fun _ => rfl) (by intro n x; kernel_rfl)
theorem impl_isBox_K (k : Nat) : Contract Try.prog 149 (impl_isBox_V k) :=
  contract (C := impl_isBox_C k) (F := impl_isBox_F k) (fn := Try.f149) (ps := impl_isBox_ps) (rs := [(.bool, false)]) (nx := 16) ⟨tyOf_ok tys_ok, gOf_ok ⟨impl_inside_K, trivial⟩⟩ rfl (by kernel_rfl) (by kernel_rfl) (by kernel_rfl) (by kernel_rfl) (by kernel_rfl) (by kernel_rfl) rfl (by kernel_rfl) (by kernel_rfl) (AnnOk_list [(122, loopB (codeOf Try.f149) 122)] impl_isBox_ls ⟨impl_isBox_l122 k, trivial⟩) mix_ok (impl_isBox_eq k)

noncomputable def impl_isPlaneBox_V (k : Nat) : Variant := ⟨[.ptr ty_9 false], [(.bool, false)], fun x => impl_isPlaneBox k x.1⟩
noncomputable def impl_isPlaneBox_C (k : Nat) : Cfg := ⟨Try.prog, tyOf tys, 20, gOf [(149, [], impl_isBox_V k)], false, [], []⟩
def impl_isPlaneBox_ps : List PE := [⟨0, 0, .ptr ty_9 false, false⟩]
noncomputable def impl_isPlaneBox_F (k : Nat) : Fn (Bool) := ⟨impl_isPlaneBox_C k, rdRes Try.prog impl_isPlaneBox_ps [(.bool, false)] Try.f101.results.toList .ret, fun p => none, 0, []⟩
theorem impl_isPlaneBox_eq (k : Nat) (x : PTe impl_isPlaneBox_ps) : evFn (impl_isPlaneBox_F k) (codeOf Try.f101) impl_isPlaneBox_ps 16 x = impl_isPlaneBox k x.1 := by kernel_rfl
theorem impl_isPlaneBox_K (k : Nat) : Contract Try.prog 101 (impl_isPlaneBox_V k) :=
  contract (C := impl_isPlaneBox_C k) (F := impl_isPlaneBox_F k) (fn := Try.f101) (ps := impl_isPlaneBox_ps) (rs := [(.bool, false)]) (nx := 16) ⟨tyOf_ok tys_ok, gOf_ok ⟨impl_isBox_K k, trivial⟩⟩ rfl (by kernel_rfl) (by kernel_rfl) (by kernel_rfl) (by kernel_rfl) (by kernel_rfl) (by kernel_rfl) rfl (by kernel_rfl) (by kernel_rfl) (AnnOk_list [] (by kernel_rfl) trivial) mix_ok (impl_isPlaneBox_eq k)

noncomputable def impl_isPlane_V (k : Nat) : Variant := ⟨[.val ty_5 false, .ptr ty_9 false], [(.bool, false)], fun x => impl_isPlane k x.1 x.2.1⟩
noncomputable def impl_isPlane_C (k : Nat) : Cfg := ⟨Try.prog, tyOf tys, 11, gOf [(71, [], impl_isTwo_V k), (101, [], impl_isPlaneBox_V k)], false, [], []⟩
def impl_isPlane_ps : List PE := [⟨0, 0, .val ty_5 false, false⟩, ⟨1, 16, .ptr ty_9 false, false⟩]
noncomputable def impl_isPlane_F (k : Nat) : Fn (Bool) := ⟨impl_isPlane_C k, rdRes Try.prog impl_isPlane_ps [(.bool, false)] Try.f56.results.toList .ret, fun p => none, 0, []⟩
theorem impl_isPlane_eq (k : Nat) (x : PTe impl_isPlane_ps) : evFn (impl_isPlane_F k) (codeOf Try.f56) impl_isPlane_ps 32 x = impl_isPlane k x.1 x.2.1 := by kernel_rfl
theorem impl_isPlane_K (k : Nat) : Contract Try.prog 56 (impl_isPlane_V k) :=
  contract (C := impl_isPlane_C k) (F := impl_isPlane_F k) (fn := Try.f56) (ps := impl_isPlane_ps) (rs := [(.bool, false)]) (nx := 32) ⟨tyOf_ok tys_ok, gOf_ok ⟨impl_isTwo_K k, impl_isPlaneBox_K k, trivial⟩⟩ rfl (by kernel_rfl) (by kernel_rfl) (by kernel_rfl) (by kernel_rfl) (by kernel_rfl) (by kernel_rfl) rfl (by kernel_rfl) (by kernel_rfl) (AnnOk_list [] (by kernel_rfl) trivial) mix_ok (impl_isPlane_eq k)

noncomputable def impl_Box_length_V : Variant := ⟨[.ptr ty_9 false, .val ty_0 false], [(ty_0, false)], fun x => impl_Box_length x.1 x.2.1⟩
noncomputable def impl_Box_length_C : Cfg := ⟨Try.prog, tyOf tys, 20, gOf [], false, [], []⟩
def impl_Box_length_ps : List PE := [⟨0, 0, .ptr ty_9 false, false⟩, ⟨1, 16, .val ty_0 false, false⟩]
noncomputable def impl_Box_length_F : Fn (Int) := ⟨impl_Box_length_C, rdRes Try.prog impl_Box_length_ps [(ty_0, false)] Try.f104.results.toList .ret, fun p => none, 0, []⟩
theorem impl_Box_length_eq (x : PTe impl_Box_length_ps) : evFn (impl_Box_length_F) (codeOf Try.f104) impl_Box_length_ps 32 x = impl_Box_length x.1 x.2.1 := by kernel_rfl
theorem impl_Box_length_K : Contract Try.prog 104 (impl_Box_length_V) :=
  contract (C := impl_Box_length_C) (F := impl_Box_length_F) (fn := Try.f104) (ps := impl_Box_length_ps) (rs := [(ty_0, false)]) (nx := 32) ⟨tyOf_ok tys_ok, gOf_ok trivial⟩ rfl (by kernel_rfl) (by kernel_rfl) (by kernel_rfl) (by kernel_rfl) (by kernel_rfl) (by kernel_rfl) rfl (by kernel_rfl) (by kernel_rfl) (AnnOk_list [] (by kernel_rfl) trivial) mix_ok (impl_Box_length_eq)

noncomputable def impl_size_V : Variant := ⟨[.val ty_0 false], [(ty_14, false)], fun x => impl_size x.1⟩
noncomputable def impl_size_C : Cfg := ⟨Try.prog, tyOf tys, 10, gOf [], false, [], []⟩
def impl_size_ps : List PE := [⟨0, 0, .val ty_0 false, false⟩]
noncomputable def impl_size_F : Fn (Int) := ⟨impl_size_C, rdRes Try.prog impl_size_ps [(ty_14, false)] Try.f128.results.toList .ret, fun p => none, 0, []⟩
theorem impl_size_eq (x : PTe impl_size_ps) : evFn (impl_size_F) (codeOf Try.f128) impl_size_ps 16 x = impl_size x.1 := by kernel_rfl
theorem impl_size_K : Contract Try.prog 128 (impl_size_V) :=
  contract (C := impl_size_C) (F := impl_size_F) (fn := Try.f128) (ps := impl_size_ps) (rs := [(ty_14, false)]) (nx := 16) ⟨tyOf_ok tys_ok, gOf_ok trivial⟩ rfl (by kernel_rfl) (by kernel_rfl) (by kernel_rfl) (by kernel_rfl) (by kernel_rfl) (by kernel_rfl) rfl (by kernel_rfl) (by kernel_rfl) (AnnOk_list [] (by kernel_rfl) trivial) mix_ok (impl_size_eq)

noncomputable def impl_wideOf_V : Variant := ⟨[.val ty_0 false], [(ty_16, true)], fun x => impl_wideOf x.1⟩
noncomputable def impl_wideOf_C : Cfg := ⟨Try.prog, tyOf tys, 8, gOf [(128, [], impl_size_V)], false, [], []⟩
def impl_wideOf_ps : List PE := [⟨0, 0, .val ty_0 false, false⟩]
noncomputable def impl_wideOf_F : Fn (Bool × Int × Int) := ⟨impl_wideOf_C, rdRes Try.prog impl_wideOf_ps [(ty_16, true)] Try.f103.results.toList .ret, fun p => none, 0, []⟩
theorem impl_wideOf_eq (x : PTe impl_wideOf_ps) : evFn (impl_wideOf_F) (codeOf Try.f103) impl_wideOf_ps 16 x = impl_wideOf x.1 := by kernel_rfl
theorem impl_wideOf_K : Contract Try.prog 103 (impl_wideOf_V) :=
  contract (C := impl_wideOf_C) (F := impl_wideOf_F) (fn := Try.f103) (ps := impl_wideOf_ps) (rs := [(ty_16, true)]) (nx := 16) ⟨tyOf_ok tys_ok, gOf_ok ⟨impl_size_K, trivial⟩⟩ rfl (by kernel_rfl) (by kernel_rfl) (by kernel_rfl) (by kernel_rfl) (by kernel_rfl) (by kernel_rfl) rfl (by kernel_rfl) (by kernel_rfl) (AnnOk_list [] (by kernel_rfl) trivial) mix_ok (impl_wideOf_eq)

noncomputable def impl_wide_isZero_V : Variant := ⟨[.val ty_16 true], [(.bool, false)], fun x => impl_wide_isZero x.1⟩
noncomputable def impl_wide_isZero_C : Cfg := ⟨Try.prog, tyOf tys, 11, gOf [], false, [], []⟩
def impl_wide_isZero_ps : List PE := [⟨0, 0, .val ty_16 true, false⟩]
noncomputable def impl_wide_isZero_F : Fn (Bool) := ⟨impl_wide_isZero_C, rdRes Try.prog impl_wide_isZero_ps [(.bool, false)] Try.f125.results.toList .ret, fun p => none, 0, []⟩
theorem impl_wide_isZero_eq (x : PTe impl_wide_isZero_ps) : evFn (impl_wide_isZero_F) (codeOf Try.f125) impl_wide_isZero_ps 16 x = impl_wide_isZero x.1 := by kernel_rfl
theorem impl_wide_isZero_K : Contract Try.prog 125 (impl_wide_isZero_V) :=
  contract (C := impl_wide_isZero_C) (F := impl_wide_isZero_F) (fn := Try.f125) (ps := impl_wide_isZero_ps) (rs := [(.bool, false)]) (nx := 16) ⟨tyOf_ok tys_ok, gOf_ok trivial⟩ rfl (by kernel_rfl) (by kernel_rfl) (by kernel_rfl) (by kernel_rfl) (by kernel_rfl) (by kernel_rfl) rfl (by kernel_rfl) (by kernel_rfl) (AnnOk_list [] (by kernel_rfl) trivial) mix_ok (impl_wide_isZero_eq)

noncomputable def impl_wide_shift_V : Variant := ⟨[.val ty_16 true, .val ty_0 false], [(ty_16, true)], fun x => impl_wide_shift x.1 x.2.1⟩
noncomputable def impl_wide_shift_C : Cfg := ⟨Try.prog, tyOf tys, 63, gOf [], false, [], []⟩
def impl_wide_shift_ps : List PE := [⟨0, 0, .val ty_16 true, false⟩, ⟨1, 16, .val ty_0 false, false⟩]
noncomputable def impl_wide_shift_F : Fn (Bool × Int × Int) := ⟨impl_wide_shift_C, rdRes Try.prog impl_wide_shift_ps [(ty_16, true)] Try.f154.results.toList .ret, fun p => none, 0, []⟩
theorem impl_wide_shift_eq (x : PTe impl_wide_shift_ps) : evFn (impl_wide_shift_F) (codeOf Try.f154) impl_wide_shift_ps 32 x = impl_wide_shift x.1 x.2.1 := by kernel_rfl
theorem impl_wide_shift_K : Contract Try.prog 154 (impl_wide_shift_V) :=
  contract (C := impl_wide_shift_C) (F := impl_wide_shift_F) (fn := Try.f154) (ps := impl_wide_shift_ps) (rs := [(ty_16, true)]) (nx := 32) ⟨tyOf_ok tys_ok, gOf_ok trivial⟩ rfl (by kernel_rfl) (by kernel_rfl) (by kernel_rfl) (by kernel_rfl) (by kernel_rfl) (by kernel_rfl) rfl (by kernel_rfl) (by kernel_rfl) (AnnOk_list [] (by kernel_rfl) trivial) mix_ok (impl_wide_shift_eq)

noncomputable def impl_wide_fit_V (k : Nat) : Variant := ⟨[.val ty_16 true, .val ty_0 false], [(ty_1, true), (.bool, false)], fun x => impl_wide_fit k x.1 x.2.1⟩
noncomputable def impl_wide_fit_C (k : Nat) : Cfg := ⟨Try.prog, tyOf tys, 45, gOf [(125, [], impl_wide_isZero_V), (154, [], impl_wide_shift_V)], false, [], []⟩
def impl_wide_fit_i28 : List PE := [⟨1, 32, .val ty_0 false, false⟩, ⟨2, 48, .box ty_16 false, false⟩, ⟨4, 64, .box ty_1 false, false⟩]
def impl_wide_fit_o28 : List PE := [⟨1, 32, .val ty_0 false, false⟩, ⟨2, 48, .box ty_16 false, false⟩, ⟨4, 64, .box ty_1 false, false⟩]
noncomputable def impl_wide_fit_f28 (k : Nat) (n : Nat) (x3 : PTe impl_wide_fit_i28) : Option (((Int × Int) × Bool) ⊕ PTe impl_wide_fit_o28) := impl_wide_fit_L28 k n x3.1 x3.2.1 x3.2.2.1
def impl_wide_fit_ps : List PE := [⟨0, 0, .val ty_16 true, false⟩, ⟨1, 16, .val ty_0 false, false⟩]
noncomputable def impl_wide_fit_F (k : Nat) : Fn ((Int × Int) × Bool) := ⟨impl_wide_fit_C k, rdRes Try.prog impl_wide_fit_ps [(ty_1, true), (.bool, false)] Try.f105.results.toList .ret, fun p => bif Nat.beq p 28 then some (.loop impl_wide_fit_i28 impl_wide_fit_o28 0 80 (impl_wide_fit_f28 k k)) else none, 0, []⟩
theorem impl_wide_fit_eq (k : Nat) (x : PTe impl_wide_fit_ps) : evFn (impl_wide_fit_F k) (codeOf Try.f105) impl_wide_fit_ps 32 x = impl_wide_fit k x.1 x.2.1 := by kernel_rfl
theorem impl_wide_fit_ls : loopsOf (codeOf Try.f105) 1 = [(28, loopB (codeOf Try.f105) 28)] := by kernel_rfl
theorem impl_wide_fit_l28 (k : Nat) : LoopOk (impl_wide_fit_F k) (loopB (codeOf Try.f105) 28) 28 := LoopOk.mk (pin := impl_wide_fit_i28) (pout := impl_wide_fit_o28) (ex := 0) (nx := 80) (Lf := impl_wide_fit_f28 k) (k := k) (by kernel_rfl) (fun _ => rfl) (by intro n x; kernel_rfl)
theorem impl_wide_fit_K (k : Nat) : Contract Try.prog 105 (impl_wide_fit_V k) :=
  contract (C := impl_wide_fit_C k) (F := impl_wide_fit_F k) (fn := Try.f105) (ps := impl_wide_fit_ps) (rs := [(ty_1, true), (.bool, false)]) (nx := 32) ⟨tyOf_ok tys_ok, gOf_ok ⟨impl_wide_isZero_K, impl_wide_shift_K, trivial⟩⟩ rfl (by kernel_rfl) (by kernel_rfl) (by kernel_rfl) (by kernel_rfl) (by kernel_rfl) (by kernel_rfl) rfl (by kernel_rfl) (by kernel_rfl) (AnnOk_list [(28, loopB (codeOf Try.f105) 28)] impl_wide_fit_ls ⟨impl_wide_fit_l28 k, trivial⟩) mix_ok (impl_wide_fit_eq k)

noncomputable def impl_boundaryEdges_1_V (k : Nat) : Variant := ⟨[.val ty_0 false, .val ty_0 false, .pp ty_9, .ptr ty_0 false, .ptr ty_0 false], [(ty_1, true)], fun x => impl_boundaryEdges_1 k x.1 x.2.1 x.2.2.1 x.2.2.2.1 x.2.2.2.2.1⟩
noncomputable def impl_boundaryEdges_1_C (k : Nat) : Cfg := ⟨Try.prog, tyOf tys, 37, gOf [(104, [], impl_Box_length_V), (103, [], impl_wideOf_V), (105, [], impl_wide_fit_V k)], false, [], []⟩
def impl_boundaryEdges_1_ps : List PE := [⟨0, 0, .val ty_0 false, false⟩, ⟨1, 16, .val ty_0 false, false⟩, ⟨2, 32, .pp ty_9, false⟩, ⟨3, 48, .ptr ty_0 false, false⟩, ⟨4, 64, .ptr ty_0 false, false⟩]
noncomputable def impl_boundaryEdges_1_F (k : Nat) : Fn (Int × Int) := ⟨impl_boundaryEdges_1_C k, rdRes Try.prog impl_boundaryEdges_1_ps [(ty_1, true)] Try.f102.results.toList .ret, fun p => none, 0, []⟩
theorem impl_boundaryEdges_1_eq (k : Nat) (x : PTe impl_boundaryEdges_1_ps) : evFn (impl_boundaryEdges_1_F k) (codeOf Try.f102) impl_boundaryEdges_1_ps 80 x = impl_boundaryEdges_1 k x.1 x.2.1 x.2.2.1 x.2.2.2.1 x.2.2.2.2.1 := by kernel_rfl
theorem impl_boundaryEdges_1_K (k : Nat) : Contract Try.prog 102 (impl_boundaryEdges_1_V k) :=
  contract (C := impl_boundaryEdges_1_C k) (F := impl_boundaryEdges_1_F k) (fn := Try.f102) (ps := impl_boundaryEdges_1_ps) (rs := [(ty_1, true)]) (nx := 80) ⟨tyOf_ok tys_ok, gOf_ok ⟨impl_Box_length_K, impl_wideOf_K, impl_wide_fit_K k, trivial⟩⟩ rfl (by kernel_rfl) (by kernel_rfl) (by kernel_rfl) (by kernel_rfl) (by kernel_rfl) (by kernel_rfl) rfl (by kernel_rfl) (by kernel_rfl) (AnnOk_list [] (by kernel_rfl) trivial) mix_ok (impl_boundaryEdges_1_eq k)

noncomputable def impl_boundaryEdges_V (k : Nat) : Variant := ⟨[.ptr ty_9 false, .val ty_0 false], [(ty_21, false)], fun x => impl_boundaryEdges k x.1 x.2.1⟩
noncomputable def impl_boundaryEdges_C (k : Nat) : Cfg := ⟨Try.prog, tyOf tys, 71, gOf [(102, [], impl_boundaryEdges_1_V k)], false, [], []⟩
def impl_boundaryEdges_i512830 : List PE := [⟨5, 32, .ptr ty_0 false, false⟩, ⟨6, 48, .fn 102 [(ty_9, .pp), (ty_0, .pr), (ty_0, .pr)], false⟩, ⟨7, 64, .eat ty_12, false⟩, ⟨8, 80, .val ty_0 false, false⟩, ⟨9, 96, .val ty_0 false, false⟩, ⟨10, 112, .box ty_1 false, false⟩, ⟨17, 128, .val ty_0 false, false⟩, ⟨36, 144, .val ty_0 false, false⟩, ⟨37, 160, .val ty_0 false, false⟩]
def impl_boundaryEdges_o512830 : List PE := [⟨5, 32, .ptr ty_0 false, false⟩, ⟨6, 48, .fn 102 [(ty_9, .pp), (ty_0, .pr), (ty_0, .pr)], false⟩, ⟨7, 64, .eat ty_12, false⟩, ⟨17, 80, .val ty_0 false, false⟩]
noncomputable def impl_boundaryEdges_f512830 (k : Nat) (n : Nat) (x9 : PTe impl_boundaryEdges_i512830) : Option ((List (Int × (Int × Int) × (Int × Int) × Int × Int)) ⊕ PTe impl_boundaryEdges_o512830) := impl_boundaryEdges_L512830 k n x9.1 x9.2.1 x9.2.2.1 x9.2.2.2.1 x9.2.2.2.2.1 x9.2.2.2.2.2.1 x9.2.2.2.2.2.2.1 x9.2.2.2.2.2.2.2.1 x9.2.2.2.2.2.2.2.2.1
def impl_boundaryEdges_i250 : List PE := [⟨5, 32, .ptr ty_0 false, false⟩, ⟨6, 48, .fn 102 [(ty_9, .pp), (ty_0, .pr), (ty_0, .pr)], false⟩, ⟨7, 64, .eat ty_12, false⟩, ⟨17, 80, .val ty_0 false, false⟩]
def impl_boundaryEdges_o250 : List PE := [⟨7, 32, .eat ty_12, false⟩]
noncomputable def impl_boundaryEdges_f250 (k : Nat) (n : Nat) (x13 : PTe impl_boundaryEdges_i250) : Option ((List (Int × (Int × Int) × (Int × Int) × Int × Int)) ⊕ PTe impl_boundaryEdges_o250) := impl_boundaryEdges_L250 k n x13.1 x13.2.1 x13.2.2.1 x13.2.2.2.1
def impl_boundaryEdges_ps : List PE := [⟨0, 0, .ptr ty_9 false, false⟩, ⟨1, 16, .val ty_0 false, false⟩]
noncomputable def impl_boundaryEdges_F (k : Nat) : Fn (List (Int × (Int × Int) × (Int × Int) × Int × Int)) := ⟨impl_boundaryEdges_C k, rdRes Try.prog impl_boundaryEdges_ps [(ty_21, false)] Try.f58.results.toList .ret, fun p => bif Nat.beq p 131284582 then some (.cut [⟨5, 32, .ptr ty_0 false, false⟩, ⟨6, 48, .fn 102 [(ty_9, .pp), (ty_0, .pr), (ty_0, .pr)], false⟩, ⟨7, 64, .eat ty_12, false⟩, ⟨8, 80, .val ty_0 false, false⟩, ⟨9, 96, .val ty_0 false, false⟩, ⟨10, 112, .box ty_1 false, false⟩, ⟨12, 128, .val ty_0 false, false⟩, ⟨13, 144, .val ty_0 false, false⟩, ⟨17, 160, .val ty_0 false, false⟩, ⟨36, 176, .val ty_0 false, false⟩, ⟨37, 192, .val ty_0 false, false⟩] 208) else bif Nat.beq p 512830 then some (.loop impl_boundaryEdges_i512830 impl_boundaryEdges_o512830 2 176 (impl_boundaryEdges_f512830 k k)) else bif Nat.beq p 128206 then some (.cut [⟨5, 32, .ptr ty_0 false, false⟩, ⟨6, 48, .fn 102 [(ty_9, .pp), (ty_0, .pr), (ty_0, .pr)], false⟩, ⟨7, 64, .eat ty_12, false⟩, ⟨8, 80, .val ty_0 false, false⟩, ⟨9, 96, .val ty_0 false, false⟩, ⟨10, 112, .box ty_1 false, false⟩, ⟨17, 128, .val ty_0 false, false⟩] 144) else bif Nat.beq p 250 then some (.loop impl_boundaryEdges_i250 impl_boundaryEdges_o250 0 96 (impl_boundaryEdges_f250 k k)) else none, 0, []⟩
theorem impl_boundaryEdges_eq (k : Nat) (x : PTe impl_boundaryEdges_ps) : evFn (impl_boundaryEdges_F k) (codeOf Try.f58) impl_boundaryEdges_ps 32 x = impl_boundaryEdges k x.1 x.2.1 := by kernel_rfl
theorem impl_boundaryEdges_ls : loopsOf (codeOf Try.f58) 1 = [(250, loopB (codeOf Try.f58) 250), (512830, loopB (codeOf Try.f58) 512830)] := by kernel_rfl
theorem impl_boundaryEdges_l512830 (k : Nat) : LoopOk (impl_boundaryEdges_F k) (loopB (codeOf Try.f58) 512830) 512830 := LoopOk.mk (pin := impl_boundaryEdges_i512830) (pout := impl_boundaryEdges_o512830) (ex := 2) (nx := 176) (Lf := impl_boundaryEdges_f512830 k) (k := k) (by kernel_rfl) (fun _ => rfl) (by intro n x; kernel_rfl)
theorem impl_boundaryEdges_l250 (k : Nat) : LoopOk (impl_boundaryEdges_F k) (loopB (codeOf Try.f58) 250) 250 := LoopOk.mk (pin := impl_boundaryEdges_i250) (pout := impl_boundaryEdges_o250) (ex := 0) (nx := 96) (Lf := impl_boundaryEdges_f250 k) (k := k) (by kernel_rfl) (fun _ => rfl) (by intro n x; kernel_rfl)
theorem impl_boundaryEdges_K (k : Nat) : Contract Try.prog 58 (impl_boundaryEdges_V k) :=
  contract (C := impl_boundaryEdges_C k) (F := impl_boundaryEdges_F k) (fn := Try.f58) (ps := impl_boundaryEdges_ps) (rs := [(ty_21, false)]) (nx := 32) ⟨tyOf_ok tys_ok, gOf_ok ⟨impl_boundaryEdges_1_K k, trivial⟩⟩ rfl (by kernel_rfl) (by kernel_rfl) (by kernel_rfl) (by kernel_rfl) (by kernel_rfl) (by kernel_rfl) rfl (by kernel_rfl) (by kernel_rfl) (AnnOk_list [(250, loopB (codeOf Try.f58) 250), (512830, loopB (codeOf Try.f58) 512830)] impl_boundaryEdges_ls ⟨impl_boundaryEdges_l250 k, impl_boundaryEdges_l512830 k, trivial⟩) mix_ok (impl_boundaryEdges_eq k)

noncomputable def impl_scaledAt_V (k : Nat) : Variant := ⟨[.val ty_4 false, .val ty_13 false], [(ty_0, false)], fun x => impl_scaledAt k x.1 x.2.1⟩
noncomputable def impl_scaledAt_C (k : Nat) : Cfg := ⟨Try.prog, tyOf tys, 54, gOf [(106, [], impl_Term_degree_V), (107, [], impl_Term_exponents_V)], false, [], []⟩
def impl_scaledAt_i15309414 : List PE := [⟨1, 32, .val ty_13 false, false⟩, ⟨5, 48, .val ty_0 false, false⟩, ⟨8, 64, .val ty_0 false, false⟩, ⟨9, 80, .val ty_0 false, false⟩, ⟨11, 96, .val ty_4 false, false⟩, ⟨12, 112, .val ty_0 false, false⟩, ⟨13, 128, .val ty_0 false, false⟩, ⟨25, 144, .val ty_2 true, false⟩, ⟨26, 160, .val ty_0 false, false⟩, ⟨30, 176, .val ty_0 false, false⟩, ⟨31, 192, .val ty_0 false, false⟩]
def impl_scaledAt_o15309414 : List PE := [⟨1, 32, .val ty_13 false, false⟩, ⟨5, 48, .val ty_0 false, false⟩, ⟨8, 64, .val ty_0 false, false⟩, ⟨11, 80, .val ty_4 false, false⟩, ⟨12, 96, .val ty_0 false, false⟩, ⟨13, 112, .val ty_0 false, false⟩, ⟨25, 128, .val ty_2 true, false⟩, ⟨26, 144, .val ty_0 false, false⟩]
noncomputable def impl_scaledAt_f15309414 (k : Nat) (n : Nat) (x3 : PTe impl_scaledAt_i15309414) : Option ((Int) ⊕ PTe impl_scaledAt_o15309414) := impl_scaledAt_L15309414 k n x3.1 x3.2.1 x3.2.2.1 x3.2.2.2.1 x3.2.2.2.2.1 x3.2.2.2.2.2.1 x3.2.2.2.2.2.2.1 x3.2.2.2.2.2.2.2.1 x3.2.2.2.2.2.2.2.2.1 x3.2.2.2.2.2.2.2.2.2.1 x3.2.2.2.2.2.2.2.2.2.2.1
def impl_scaledAt_i59802 : List PE := [⟨1, 32, .val ty_13 false, false⟩, ⟨5, 48, .val ty_0 false, false⟩, ⟨8, 64, .val ty_0 false, false⟩, ⟨11, 80, .val ty_4 false, false⟩, ⟨12, 96, .val ty_0 false, false⟩, ⟨13, 112, .val ty_0 false, false⟩, ⟨25, 128, .val ty_2 true, false⟩, ⟨26, 144, .val ty_0 false, false⟩]
def impl_scaledAt_o59802 : List PE := [⟨1, 32, .val ty_13 false, false⟩, ⟨5, 48, .val ty_0 false, false⟩, ⟨8, 64, .val ty_0 false, false⟩, ⟨11, 80, .val ty_4 false, false⟩, ⟨12, 96, .val ty_0 false, false⟩, ⟨13, 112, .val ty_0 false, false⟩]
noncomputable def impl_scaledAt_f59802 (k : Nat) (n : Nat) (x12 : PTe impl_scaledAt_i59802) : Option ((Int) ⊕ PTe impl_scaledAt_o59802) := impl_scaledAt_L59802 k n x12.1 x12.2.1 x12.2.2.1 x12.2.2.2.1 x12.2.2.2.2.1 x12.2.2.2.2.2.1 x12.2.2.2.2.2.2.1 x12.2.2.2.2.2.2.2.1
def impl_scaledAt_i58 : List PE := [⟨1, 32, .val ty_13 false, false⟩, ⟨5, 48, .val ty_0 false, false⟩, ⟨11, 64, .val ty_4 false, false⟩, ⟨12, 80, .val ty_0 false, false⟩, ⟨13, 96, .val ty_0 false, false⟩]
def impl_scaledAt_o58 : List PE := [⟨5, 32, .val ty_0 false, false⟩]
noncomputable def impl_scaledAt_f58 (k : Nat) (n : Nat) (x15 : PTe impl_scaledAt_i58) : Option ((Int) ⊕ PTe impl_scaledAt_o58) := impl_scaledAt_L58 k n x15.1 x15.2.1 x15.2.2.1 x15.2.2.2.1 x15.2.2.2.2.1
def impl_scaledAt_ps : List PE := [⟨0, 0, .val ty_4 false, false⟩, ⟨1, 16, .val ty_13 false, false⟩]
noncomputable def impl_scaledAt_F (k : Nat) : Fn (Int) := ⟨impl_scaledAt_C k, rdRes Try.prog impl_scaledAt_ps [(ty_0, false)] Try.f59.results.toList .ret, fun p => bif Nat.beq p 15309414 then some (.loop impl_scaledAt_i15309414 impl_scaledAt_o15309414 4 208 (impl_scaledAt_f15309414 k k)) else bif Nat.beq p 59802 then some (.loop impl_scaledAt_i59802 impl_scaledAt_o59802 2 160 (impl_scaledAt_f59802 k k)) else bif Nat.beq p 58 then some (.loop impl_scaledAt_i58 impl_scaledAt_o58 0 112 (impl_scaledAt_f58 k k)) else none, 0, []⟩
theorem impl_scaledAt_eq (k : Nat) (x : PTe impl_scaledAt_ps) : evFn (impl_scaledAt_F k) (codeOf Try.f59) impl_scaledAt_ps 32 x = impl_scaledAt k x.1 x.2.1 := by kernel_rfl
theorem impl_scaledAt_ls : loopsOf (codeOf Try.f59) 1 = [(58, loopB (codeOf Try.f59) 58), (59802, loopB (codeOf Try.f59) 59802), (15309414, loopB (codeOf Try.f59) 15309414)] := by kernel_rfl
theorem impl_scaledAt_l15309414 (k : Nat) : LoopOk (impl_scaledAt_F k) (loopB (codeOf Try.f59) 15309414) 15309414 := LoopOk.mk (pin := impl_scaledAt_i15309414) (pout := impl_scaledAt_o15309414) (ex := 4) (nx := 208) (Lf := impl_scaledAt_f15309414 k) (k := k) (by kernel_rfl) (fun _ => rfl) (by intro n x; kernel_rfl)
theorem impl_scaledAt_l59802 (k : Nat) : LoopOk (impl_scaledAt_F k) (loopB (codeOf Try.f59) 59802) 59802 := LoopOk.mk (pin := impl_scaledAt_i59802) (pout := impl_scaledAt_o59802) (ex := 2) (nx := 160) (Lf := impl_scaledAt_f59802 k) (k := k) (by kernel_rfl) (fun _ => rfl) (by intro n x; kernel_rfl)
theorem impl_scaledAt_l58 (k : Nat) : LoopOk (impl_scaledAt_F k) (loopB (codeOf Try.f59) 58) 58 := LoopOk.mk (pin := impl_scaledAt_i58) (pout := impl_scaledAt_o58) (ex := 0) (nx := 112) (Lf := impl_scaledAt_f58 k) (k := k) (by kernel_rfl) (fun _ => rfl) (by intro n x; kernel_rfl)
theorem impl_scaledAt_K (k : Nat) : Contract Try.prog 59 (impl_scaledAt_V k) :=
  contract (C := impl_scaledAt_C k) (F := impl_scaledAt_F k) (fn := Try.f59) (ps := impl_scaledAt_ps) (rs := [(ty_0, false)]) (nx := 32) ⟨tyOf_ok tys_ok, gOf_ok ⟨impl_Term_degree_K, impl_Term_exponents_K, trivial⟩⟩ rfl (by kernel_rfl) (by kernel_rfl) (by kernel_rfl) (by kernel_rfl) (by kernel_rfl) (by kernel_rfl) rfl (by kernel_rfl) (by kernel_rfl) (AnnOk_list [(58, loopB (codeOf Try.f59) 58), (59802, loopB (codeOf Try.f59) 59802), (15309414, loopB (codeOf Try.f59) 15309414)] impl_scaledAt_ls ⟨impl_scaledAt_l58 k, impl_scaledAt_l59802 k, impl_scaledAt_l15309414 k, trivial⟩) mix_ok (impl_scaledAt_eq k)

noncomputable def impl_quarter_V : Variant := ⟨[.val ty_0 false, .val ty_0 false], [(ty_0, false)], fun x => impl_quarter x.1 x.2.1⟩
noncomputable def impl_quarter_C : Cfg := ⟨Try.prog, tyOf tys, 22, gOf [], false, [], []⟩
def impl_quarter_ps : List PE := [⟨0, 0, .val ty_0 false, false⟩, ⟨1, 16, .val ty_0 false, false⟩]
noncomputable def impl_quarter_F : Fn (Int) := ⟨impl_quarter_C, rdRes Try.prog impl_quarter_ps [(ty_0, false)] Try.f60.results.toList .ret, fun p => none, 0, []⟩
theorem impl_quarter_eq (x : PTe impl_quarter_ps) : evFn (impl_quarter_F) (codeOf Try.f60) impl_quarter_ps 32 x = impl_quarter x.1 x.2.1 := by kernel_rfl
theorem impl_quarter_K : Contract Try.prog 60 (impl_quarter_V) :=
  contract (C := impl_quarter_C) (F := impl_quarter_F) (fn := Try.f60) (ps := impl_quarter_ps) (rs := [(ty_0, false)]) (nx := 32) ⟨tyOf_ok tys_ok, gOf_ok trivial⟩ rfl (by kernel_rfl) (by kernel_rfl) (by kernel_rfl) (by kernel_rfl) (by kernel_rfl) (by kernel_rfl) rfl (by kernel_rfl) (by kernel_rfl) (AnnOk_list [] (by kernel_rfl) trivial) mix_ok (impl_quarter_eq)

noncomputable def impl_CornerQuarters_V (k : Nat) : Variant := ⟨[.val ty_5 false, .val ty_9 true, .val ty_0 false], [(ty_7, false), (.bool, false)], fun x => impl_CornerQuarters k x.1 x.2.1 x.2.2.1⟩
noncomputable def impl_CornerQuarters_C (k : Nat) : Cfg := ⟨Try.prog, tyOf tys, 66, gOf [(56, [], impl_isPlane_V k), (57, [], impl_inside_V), (58, [], impl_boundaryEdges_V k), (59, [], impl_scaledAt_V k), (60, [], impl_quarter_V)], false, [], []⟩
def impl_CornerQuarters_i122 : List PE := [⟨0, 48, .val ty_5 false, false⟩, ⟨8, 64, .eat ty_0, false⟩, ⟨23, 80, .eat ty_12, false⟩, ⟨24, 96, .val ty_0 false, false⟩, ⟨25, 112, .val ty_0 false, false⟩]
def impl_CornerQuarters_o122 : List PE := [⟨8, 48, .eat ty_0, false⟩]
noncomputable def impl_CornerQuarters_f122 (k : Nat) (n : Nat) (x11 : PTe impl_CornerQuarters_i122) : Option (((List Int) × Bool) ⊕ PTe impl_CornerQuarters_o122) := impl_CornerQuarters_L122 k n x11.1 x11.2.1 x11.2.2.1 x11.2.2.2.1 x11.2.2.2.2.1
def impl_CornerQuarters_ps : List PE := [⟨0, 0, .val ty_5 false, false⟩, ⟨1, 16, .val ty_9 true, false⟩, ⟨2, 32, .val ty_0 false, false⟩]
noncomputable def impl_CornerQuarters_F (k : Nat) : Fn ((List Int) × Bool) := ⟨impl_CornerQuarters_C k, rdRes Try.prog impl_CornerQuarters_ps [(ty_7, false), (.bool, false)] Try.f14.results.toList .ret, fun p => bif Nat.beq p 125342 then some (.cut [⟨0, 48, .val ty_5 false, false⟩, ⟨8, 64, .eat ty_0, false⟩, ⟨12, 80, .val ty_0 false, false⟩, ⟨13, 96, .val ty_0 false, false⟩, ⟨23, 112, .eat ty_12, false⟩, ⟨24, 128, .val ty_0 false, false⟩, ⟨25, 144, .val ty_0 false, false⟩] 160) else bif Nat.beq p 31334 then some (.cut [⟨0, 48, .val ty_5 false, false⟩, ⟨8, 64, .eat ty_0, false⟩, ⟨11, 80, .eat ty_1, false⟩, ⟨23, 96, .eat ty_12, false⟩, ⟨24, 112, .val ty_0 false, false⟩, ⟨25, 128, .val ty_0 false, false⟩] 144) else bif Nat.beq p 122 then some (.loop impl_CornerQuarters_i122 impl_CornerQuarters_o122 0 128 (impl_CornerQuarters_f122 k k)) else none, 0, []⟩
theorem impl_CornerQuarters_eq (k : Nat) (x : PTe impl_CornerQuarters_ps) : evFn (impl_CornerQuarters_F k) (codeOf Try.f14) impl_CornerQuarters_ps 48 x = impl_CornerQuarters k x.1 x.2.1 x.2.2.1 := by kernel_rfl
theorem impl_CornerQuarters_ls : loopsOf (codeOf Try.f14) 1 = [(122, loopB (codeOf Try.f14) 122)] := by kernel_rfl
theorem impl_CornerQuarters_l122 (k : Nat) : LoopOk (impl_CornerQuarters_F k) (loopB (codeOf Try.f14) 122) 122 := LoopOk.mk (pin := impl_CornerQuarters_i122) (pout := impl_CornerQuarters_o122) (ex := 0) (nx := 128) (Lf := impl_CornerQuarters_f122 k) (k := k) (by kernel_rfl) (fun _ => rfl) (by intro n x; kernel_rfl)
theorem impl_CornerQuarters_K (k : Nat) : Contract Try.prog 14 (impl_CornerQuarters_V k) :=
  contract (C := impl_CornerQuarters_C k) (F := impl_CornerQuarters_F k) (fn := Try.f14) (ps := impl_CornerQuarters_ps) (rs := [(ty_7, false), (.bool, false)]) (nx := 48) ⟨tyOf_ok tys_ok, gOf_ok ⟨impl_isPlane_K k, impl_inside_K, impl_boundaryEdges_K k, impl_scaledAt_K k, impl_quarter_K, trivial⟩⟩ rfl (by kernel_rfl) (by kernel_rfl) (by kernel_rfl) (by kernel_rfl) (by kernel_rfl) (by kernel_rfl) rfl (by kernel_rfl) (by kernel_rfl) (AnnOk_list [(122, loopB (codeOf Try.f14) 122)] impl_CornerQuarters_ls ⟨impl_CornerQuarters_l122 k, trivial⟩) mix_ok (impl_CornerQuarters_eq k)

noncomputable def laws_eqIntS_V (k : Nat) : Variant := ⟨[.val ty_7 false, .val ty_7 false], [(.bool, false)], fun x => laws_eqIntS k x.1 x.2.1⟩
noncomputable def laws_eqIntS_C (k : Nat) : Cfg := ⟨Try.prog, tyOf tys, 26, gOf [], false, [], []⟩
def laws_eqIntS_i58 : List PE := [⟨0, 32, .val ty_7 false, false⟩, ⟨1, 48, .val ty_7 false, false⟩, ⟨5, 64, .val ty_0 false, false⟩]
def laws_eqIntS_o58 : List PE := []
noncomputable def laws_eqIntS_f58 (k : Nat) (n : Nat) (x1 : PTe laws_eqIntS_i58) : Option ((Bool) ⊕ PTe laws_eqIntS_o58) := laws_eqIntS_L58 k n x1.1 x1.2.1 x1.2.2.1
def laws_eqIntS_ps : List PE := [⟨0, 0, .val ty_7 false, false⟩, ⟨1, 16, .val ty_7 false, false⟩]
noncomputable def laws_eqIntS_F (k : Nat) : Fn (Bool) := ⟨laws_eqIntS_C k, rdRes Try.prog laws_eqIntS_ps [(.bool, false)] Try.f15.results.toList .ret, fun p => bif Nat.beq p 58 then some (.loop laws_eqIntS_i58 laws_eqIntS_o58 0 80 (laws_eqIntS_f58 k k)) else none, 0, []⟩
theorem laws_eqIntS_eq (k : Nat) (x : PTe laws_eqIntS_ps) : evFn (laws_eqIntS_F k) (codeOf Try.f15) laws_eqIntS_ps 32 x = laws_eqIntS k x.1 x.2.1 := by kernel_rfl
theorem laws_eqIntS_ls : loopsOf (codeOf Try.f15) 1 = [(58, loopB (codeOf Try.f15) 58)] := by kernel_rfl
theorem laws_eqIntS_l58 (k : Nat) : LoopOk (laws_eqIntS_F k) (loopB (codeOf Try.f15) 58) 58 := LoopOk.mk (pin := laws_eqIntS_i58) (pout := laws_eqIntS_o58) (ex := 0) (nx := 80) (Lf := laws_eqIntS_f58 k) (k := k) (by kernel_rfl) (fun _ => rfl) (by intro n x; kernel_rfl)
theorem laws_eqIntS_K (k : Nat) : Contract Try.prog 15 (laws_eqIntS_V k) :=
  contract (C := laws_eqIntS_C k) (F := laws_eqIntS_F k) (fn := Try.f15) (ps := laws_eqIntS_ps) (rs := [(.bool, false)]) (nx := 32) ⟨tyOf_ok tys_ok, gOf_ok trivial⟩ rfl (by kernel_rfl) (by kernel_rfl) (by kernel_rfl) (by kernel_rfl) (by kernel_rfl) (by kernel_rfl) rfl (by kernel_rfl) (by kernel_rfl) (AnnOk_list [(58, loopB (codeOf Try.f15) 58)] laws_eqIntS_ls ⟨laws_eqIntS_l58 k, trivial⟩) mix_ok (laws_eqIntS_eq k)

noncomputable def laws_eqTerm_V : Variant := ⟨[.val ty_3 true, .val ty_3 true], [(.bool, false)], fun x => laws_eqTerm x.1 x.2.1⟩
noncomputable def laws_eqTerm_C : Cfg := ⟨Try.prog, tyOf tys, 25, gOf [], false, [], []⟩
def laws_eqTerm_ps : List PE := [⟨0, 0, .val ty_3 true, false⟩, ⟨1, 16, .val ty_3 true, false⟩]
noncomputable def laws_eqTerm_F : Fn (Bool) := ⟨laws_eqTerm_C, rdRes Try.prog laws_eqTerm_ps [(.bool, false)] Try.f148.results.toList .ret, fun p => none, 0, []⟩
theorem laws_eqTerm_eq (x : PTe laws_eqTerm_ps) : evFn (laws_eqTerm_F) (codeOf Try.f148) laws_eqTerm_ps 32 x = laws_eqTerm x.1 x.2.1 := by kernel_rfl
theorem laws_eqTerm_K : Contract Try.prog 148 (laws_eqTerm_V) :=
  contract (C := laws_eqTerm_C) (F := laws_eqTerm_F) (fn := Try.f148) (ps := laws_eqTerm_ps) (rs := [(.bool, false)]) (nx := 32) ⟨tyOf_ok tys_ok, gOf_ok trivial⟩ rfl (by kernel_rfl) (by kernel_rfl) (by kernel_rfl) (by kernel_rfl) (by kernel_rfl) (by kernel_rfl) rfl (by kernel_rfl) (by kernel_rfl) (AnnOk_list [] (by kernel_rfl) trivial) mix_ok (laws_eqTerm_eq)

noncomputable def laws_eqTermS_V (k : Nat) : Variant := ⟨[.val ty_4 false, .val ty_4 false], [(.bool, false)], fun x => laws_eqTermS k x.1 x.2.1⟩
noncomputable def laws_eqTermS_C (k : Nat) : Cfg := ⟨Try.prog, tyOf tys, 27, gOf [(148, [], laws_eqTerm_V)], false, [], []⟩
def laws_eqTermS_i58 : List PE := [⟨0, 32, .val ty_4 false, false⟩, ⟨1, 48, .val ty_4 false, false⟩, ⟨5, 64, .val ty_0 false, false⟩]
def laws_eqTermS_o58 : List PE := []
noncomputable def laws_eqTermS_f58 (k : Nat) (n : Nat) (x2 : PTe laws_eqTermS_i58) : Option ((Bool) ⊕ PTe laws_eqTermS_o58) := laws_eqTermS_L58 k n x2.1 x2.2.1 x2.2.2.1
def laws_eqTermS_ps : List PE := [⟨0, 0, .val ty_4 false, false⟩, ⟨1, 16, .val ty_4 false, false⟩]
noncomputable def laws_eqTermS_F (k : Nat) : Fn (Bool) := ⟨laws_eqTermS_C k, rdRes Try.prog laws_eqTermS_ps [(.bool, false)] Try.f91.results.toList .ret, fun p => bif Nat.beq p 58 then some (.loop laws_eqTermS_i58 laws_eqTermS_o58 0 80 (laws_eqTermS_f58 k k)) else none, 0, []⟩
theorem laws_eqTermS_eq (k : Nat) (x : PTe laws_eqTermS_ps) : evFn (laws_eqTermS_F k) (codeOf Try.f91) laws_eqTermS_ps 32 x = laws_eqTermS k x.1 x.2.1 := by kernel_rfl
theorem laws_eqTermS_ls : loopsOf (codeOf Try.f91) 1 = [(58, loopB (codeOf Try.f91) 58)] := by kernel_rfl
theorem laws_eqTermS_l58 (k : Nat) : LoopOk (laws_eqTermS_F k) (loopB (codeOf Try.f91) 58) 58 := LoopOk.mk (pin := laws_eqTermS_i58) (pout := laws_eqTermS_o58) (ex := 0) (nx := 80) (Lf := laws_eqTermS_f58 k) (k := k) (by kernel_rfl) (fun _ => rfl) (by intro n x; kernel_rfl)
theorem laws_eqTermS_K (k : Nat) : Contract Try.prog 91 (laws_eqTermS_V k) :=
  contract (C := laws_eqTermS_C k) (F := laws_eqTermS_F k) (fn := Try.f91) (ps := laws_eqTermS_ps) (rs := [(.bool, false)]) (nx := 32) ⟨tyOf_ok tys_ok, gOf_ok ⟨laws_eqTerm_K, trivial⟩⟩ rfl (by kernel_rfl) (by kernel_rfl) (by kernel_rfl) (by kernel_rfl) (by kernel_rfl) (by kernel_rfl) rfl (by kernel_rfl) (by kernel_rfl) (AnnOk_list [(58, loopB (codeOf Try.f91) 58)] laws_eqTermS_ls ⟨laws_eqTermS_l58 k, trivial⟩) mix_ok (laws_eqTermS_eq k)

noncomputable def laws_intactTermS_V (k : Nat) : Variant := ⟨[.val ty_6 false, .val ty_6 false], [(.bool, false)], fun x => laws_intactTermS k x.1 x.2.1⟩
noncomputable def laws_intactTermS_C (k : Nat) : Cfg := ⟨Try.prog, tyOf tys, 26, gOf [(53, [], laws_roomBehind_V), (91, [], laws_eqTermS_V k)], false, [], []⟩
def laws_intactTermS_ps : List PE := [⟨0, 0, .val ty_6 false, false⟩, ⟨1, 16, .val ty_6 false, false⟩]
noncomputable def laws_intactTermS_F (k : Nat) : Fn (Bool) := ⟨laws_intactTermS_C k, rdRes Try.prog laws_intactTermS_ps [(.bool, false)] Try.f39.results.toList .ret, fun p => none, 0, []⟩
theorem laws_intactTermS_eq (k : Nat) (x : PTe laws_intactTermS_ps) : evFn (laws_intactTermS_F k) (codeOf Try.f39) laws_intactTermS_ps 32 x = laws_intactTermS k x.1 x.2.1 := by kernel_rfl
theorem laws_intactTermS_K (k : Nat) : Contract Try.prog 39 (laws_intactTermS_V k) :=
  contract (C := laws_intactTermS_C k) (F := laws_intactTermS_F k) (fn := Try.f39) (ps := laws_intactTermS_ps) (rs := [(.bool, false)]) (nx := 32) ⟨tyOf_ok tys_ok, gOf_ok ⟨laws_roomBehind_K, laws_eqTermS_K k, trivial⟩⟩ rfl (by kernel_rfl) (by kernel_rfl) (by kernel_rfl) (by kernel_rfl) (by kernel_rfl) (by kernel_rfl) rfl (by kernel_rfl) (by kernel_rfl) (AnnOk_list [] (by kernel_rfl) trivial) mix_ok (laws_intactTermS_eq k)

noncomputable def laws_eqTermSS_V (k : Nat) : Variant := ⟨[.val ty_5 false, .val ty_5 false], [(.bool, false)], fun x => laws_eqTermSS k x.1 x.2.1⟩
noncomputable def laws_eqTermSS_C (k : Nat) : Cfg := ⟨Try.prog, tyOf tys, 27, gOf [(91, [], laws_eqTermS_V k)], false, [], []⟩
def laws_eqTermSS_i58 : List PE := [⟨0, 32, .val ty_5 false, false⟩, ⟨1, 48, .val ty_5 false, false⟩, ⟨5, 64, .val ty_0 false, false⟩]
def laws_eqTermSS_o58 : List PE := []
noncomputable def laws_eqTermSS_f58 (k : Nat) (n : Nat) (x2 : PTe laws_eqTermSS_i58) : Option ((Bool) ⊕ PTe laws_eqTermSS_o58) := laws_eqTermSS_L58 k n x2.1 x2.2.1 x2.2.2.1
def laws_eqTermSS_ps : List PE := [⟨0, 0, .val ty_5 false, false⟩, ⟨1, 16, .val ty_5 false, false⟩]
noncomputable def laws_eqTermSS_F (k : Nat) : Fn (Bool) := ⟨laws_eqTermSS_C k, rdRes Try.prog laws_eqTermSS_ps [(.bool, false)] Try.f61.results.toList .ret, fun p => bif Nat.beq p 58 then some (.loop laws_eqTermSS_i58 laws_eqTermSS_o58 0 80 (laws_eqTermSS_f58 k k)) else none, 0, []⟩
theorem laws_eqTermSS_eq (k : Nat) (x : PTe laws_eqTermSS_ps) : evFn (laws_eqTermSS_F k) (codeOf Try.f61) laws_eqTermSS_ps 32 x = laws_eqTermSS k x.1 x.2.1 := by kernel_rfl
theorem laws_eqTermSS_ls : loopsOf (codeOf Try.f61) 1 = [(58, loopB (codeOf Try.f61) 58)] := by kernel_rfl
theorem laws_eqTermSS_l58 (k : Nat) : LoopOk (laws_eqTermSS_F k) (loopB (codeOf Try.f61) 58) 58 := LoopOk.mk (pin := laws_eqTermSS_i58) (pout := laws_eqTermSS_o58) (ex := 0) (nx := 80) (Lf := laws_eqTermSS_f58 k) (k := k) (by kernel_rfl) (fun _ => rfl) (by intro n x; kernel_rfl)
theorem laws_eqTermSS_K (k : Nat) : Contract Try.prog 61 (laws_eqTermSS_V k) :=
  contract (C := laws_eqTermSS_C k) (F := laws_eqTermSS_F k) (fn := Try.f61) (ps := laws_eqTermSS_ps) (rs := [(.bool, false)]) (nx := 32) ⟨tyOf_ok tys_ok, gOf_ok ⟨laws_eqTermS_K k, trivial⟩⟩ rfl (by kernel_rfl) (by kernel_rfl) (by kernel_rfl) (by kernel_rfl) (by kernel_rfl) (by kernel_rfl) rfl (by kernel_rfl) (by kernel_rfl) (AnnOk_list [(58, loopB (codeOf Try.f61) 58)] laws_eqTermSS_ls ⟨laws_eqTermSS_l58 k, trivial⟩) mix_ok (laws_eqTermSS_eq k)

noncomputable def laws_intactTermSS_V (k : Nat) : Variant := ⟨[.val ty_17 false, .val ty_17 false], [(.bool, false)], fun x => laws_intactTermSS k x.1 x.2.1⟩
noncomputable def laws_intactTermSS_C (k : Nat) : Cfg := ⟨Try.prog, tyOf tys, 45, gOf [(53, [], laws_roomBehind_V), (39, [], laws_intactTermS_V k), (61, [], laws_eqTermSS_V k)], false, [], []⟩
def laws_intactTermSS_i122 : List PE := [⟨0, 32, .val ty_17 false, false⟩, ⟨1, 48, .val ty_17 false, false⟩, ⟨5, 64, .val ty_0 false, false⟩, ⟨6, 80, .val ty_0 false, false⟩]
def laws_intactTermSS_o122 : List PE := [⟨0, 32, .val ty_17 false, false⟩, ⟨1, 48, .val ty_17 false, false⟩, ⟨5, 64, .val ty_0 false, false⟩]
noncomputable def laws_intactTermSS_f122 (k : Nat) (n : Nat) (x3 : PTe laws_intactTermSS_i122) : Option ((Bool) ⊕ PTe laws_intactTermSS_o122) := laws_intactTermSS_L122 k n x3.1 x3.2.1 x3.2.2.1 x3.2.2.2.1
def laws_intactTermSS_ps : List PE := [⟨0, 0, .val ty_17 false, false⟩, ⟨1, 16, .val ty_17 false, false⟩]
noncomputable def laws_intactTermSS_F (k : Nat) : Fn (Bool) := ⟨laws_intactTermSS_C k, rdRes Try.prog laws_intactTermSS_ps [(.bool, false)] Try.f16.results.toList .ret, fun p => bif Nat.beq p 122 then some (.loop laws_intactTermSS_i122 laws_intactTermSS_o122 0 96 (laws_intactTermSS_f122 k k)) else none, 0, []⟩
theorem laws_intactTermSS_eq (k : Nat) (x : PTe laws_intactTermSS_ps) : evFn (laws_intactTermSS_F k) (codeOf Try.f16) laws_intactTermSS_ps 32 x = laws_intactTermSS k x.1 x.2.1 := by kernel_rfl
theorem laws_intactTermSS_ls : loopsOf (codeOf Try.f16) 1 = [(122, loopB (codeOf Try.f16) 122)] := by kernel_rfl
theorem laws_intactTermSS_l122 (k : Nat) : LoopOk (laws_intactTermSS_F k) (loopB (codeOf Try.f16) 122) 122 := LoopOk.mk (pin := laws_intactTermSS_i122) (pout := laws_intactTermSS_o122) (ex := 0) (nx := 96) (Lf := laws_intactTermSS_f122 k) (k := k) (by kernel_rfl) (fun _ => rfl) (by intro n x; kernel_rfl)
theorem laws_intactTermSS_K (k : Nat) : Contract Try.prog 16 (laws_intactTermSS_V k) :=
  contract (C := laws_intactTermSS_C k) (F := laws_intactTermSS_F k) (fn := Try.f16) (ps := laws_intactTermSS_ps) (rs := [(.bool, false)]) (nx := 32) ⟨tyOf_ok tys_ok, gOf_ok ⟨laws_roomBehind_K, laws_intactTermS_K k, laws_eqTermSS_K k, trivial⟩⟩ rfl (by kernel_rfl) (by kernel_rfl) (by kernel_rfl) (by kernel_rfl) (by kernel_rfl) (by kernel_rfl) rfl (by kernel_rfl) (by kernel_rfl) (AnnOk_list [(122, loopB (codeOf Try.f16) 122)] laws_intactTermSS_ls ⟨laws_intactTermSS_l122 k, trivial⟩) mix_ok (laws_intactTermSS_eq k)

noncomputable def laws_intactIntS_V (k : Nat) : Variant := ⟨[.val ty_18 false, .val ty_18 false], [(.bool, false)], fun x => laws_intactIntS k x.1 x.2.1⟩
noncomputable def laws_intactIntS_C (k : Nat) : Cfg := ⟨Try.prog, tyOf tys, 26, gOf [(53, [], laws_roomBehind_V), (15, [], laws_eqIntS_V k)], false, [], []⟩
def laws_intactIntS_ps : List PE := [⟨0, 0, .val ty_18 false, false⟩, ⟨1, 16, .val ty_18 false, false⟩]
noncomputable def laws_intactIntS_F (k : Nat) : Fn (Bool) := ⟨laws_intactIntS_C k, rdRes Try.prog laws_intactIntS_ps [(.bool, false)] Try.f62.results.toList .ret, fun p => none, 0, []⟩
theorem laws_intactIntS_eq (k : Nat) (x : PTe laws_intactIntS_ps) : evFn (laws_intactIntS_F k) (codeOf Try.f62) laws_intactIntS_ps 32 x = laws_intactIntS k x.1 x.2.1 := by kernel_rfl
theorem laws_intactIntS_K (k : Nat) : Contract Try.prog 62 (laws_intactIntS_V k) :=
  contract (C := laws_intactIntS_C k) (F := laws_intactIntS_F k) (fn := Try.f62) (ps := laws_intactIntS_ps) (rs := [(.bool, false)]) (nx := 32) ⟨tyOf_ok tys_ok, gOf_ok ⟨laws_roomBehind_K, laws_eqIntS_K k, trivial⟩⟩ rfl (by kernel_rfl) (by kernel_rfl) (by kernel_rfl) (by kernel_rfl) (by kernel_rfl) (by kernel_rfl) rfl (by kernel_rfl) (by kernel_rfl) (AnnOk_list [] (by kernel_rfl) trivial) mix_ok (laws_intactIntS_eq k)

noncomputable def laws_intactBox_V (k : Nat) : Variant := ⟨[.val ty_20 true, .val ty_20 true], [(.bool, false)], fun x => laws_intactBox k x.1 x.2.1⟩
noncomputable def laws_intactBox_C (k : Nat) : Cfg := ⟨Try.prog, tyOf tys, 22, gOf [(62, [], laws_intactIntS_V k)], false, [], []⟩
def laws_intactBox_ps : List PE := [⟨0, 0, .val ty_20 true, false⟩, ⟨1, 16, .val ty_20 true, false⟩]
noncomputable def laws_intactBox_F (k : Nat) : Fn (Bool) := ⟨laws_intactBox_C k, rdRes Try.prog laws_intactBox_ps [(.bool, false)] Try.f17.results.toList .ret, fun p => none, 0, []⟩
theorem laws_intactBox_eq (k : Nat) (x : PTe laws_intactBox_ps) : evFn (laws_intactBox_F k) (codeOf Try.f17) laws_intactBox_ps 32 x = laws_intactBox k x.1 x.2.1 := by kernel_rfl
theorem laws_intactBox_K (k : Nat) : Contract Try.prog 17 (laws_intactBox_V k) :=
  contract (C := laws_intactBox_C k) (F := laws_intactBox_F k) (fn := Try.f17) (ps := laws_intactBox_ps) (rs := [(.bool, false)]) (nx := 32) ⟨tyOf_ok tys_ok, gOf_ok ⟨laws_intactIntS_K k, trivial⟩⟩ rfl (by kernel_rfl) (by kernel_rfl) (by kernel_rfl) (by kernel_rfl) (by kernel_rfl) (by kernel_rfl) rfl (by kernel_rfl) (by kernel_rfl) (AnnOk_list [] (by kernel_rfl) trivial) mix_ok (laws_intactBox_eq k)

noncomputable def laws_markTermS_V (k : Nat) : Variant := ⟨[.own ty_3, .val ty_0 false], [(ty_0, false)], fun x => laws_markTermS k x.1 x.2.1⟩
noncomputable def laws_markTermS_C (k : Nat) : Cfg := ⟨Try.prog, tyOf tys, 41, gOf [], false, [], []⟩
def laws_markTermS_i26 : List PE := [⟨0, 0, .own ty_3, true⟩, ⟨1, 32, .val ty_0 false, false⟩, ⟨5, 48, .val ty_0 false, false⟩]
def laws_markTermS_o26 : List PE := [⟨1, 32, .val ty_0 false, false⟩, ⟨0, 0, .own ty_3, true⟩]
noncomputable def laws_markTermS_f26 (k : Nat) (n : Nat) (x1 : PTe laws_markTermS_i26) : Option ((Int × List (Int × Int × Int × Int)) ⊕ PTe laws_markTermS_o26) := laws_markTermS_L26 k n x1.1 x1.2.1 x1.2.2.1
def laws_markTermS_ps : List PE := [⟨0, 0, .own ty_3, true⟩, ⟨1, 16, .val ty_0 false, false⟩]
noncomputable def laws_markTermS_F (k : Nat) : Fn (Int × List (Int × Int × Int × Int)) := ⟨laws_markTermS_C k, rdRes Try.prog laws_markTermS_ps [(ty_0, false)] Try.f42.results.toList .ret, fun p => bif Nat.beq p 26 then some (.loop laws_markTermS_i26 laws_markTermS_o26 0 64 (laws_markTermS_f26 k k)) else none, 0, [0]⟩
theorem laws_markTermS_eq (k : Nat) (x : PTe laws_markTermS_ps) : evFn (laws_markTermS_F k) (codeOf Try.f42) laws_markTermS_ps 32 x = laws_markTermS k x.1 x.2.1 := by kernel_rfl
theorem laws_markTermS_ls : loopsOf (codeOf Try.f42) 1 = [(26, loopB (codeOf Try.f42) 26)] := by kernel_rfl
theorem laws_markTermS_l26 (k : Nat) : LoopOk (laws_markTermS_F k) (loopB (codeOf Try.f42) 26) 26 := LoopOk.mk (pin := laws_markTermS_i26) (pout := laws_markTermS_o26) (ex := 0) (nx := 64) (Lf := laws_markTermS_f26 k) (k := k) (by kernel_rfl) (fun _ => rfl) (by intro n x; kernel_rfl)
theorem laws_markTermS_K (k : Nat) : Contract Try.prog 42 (laws_markTermS_V k) :=
  contract (C := laws_markTermS_C k) (F := laws_markTermS_F k) (fn := Try.f42) (ps := laws_markTermS_ps) (rs := [(ty_0, false)]) (nx := 32) ⟨tyOf_ok tys_ok, gOf_ok trivial⟩ rfl (by kernel_rfl) (by kernel_rfl) (by kernel_rfl) (by kernel_rfl) (by kernel_rfl) (by kernel_rfl) rfl (by kernel_rfl) (by kernel_rfl) (AnnOk_list [(26, loopB (codeOf Try.f42) 26)] laws_markTermS_ls ⟨laws_markTermS_l26 k, trivial⟩) mix_ok (laws_markTermS_eq k)

noncomputable def laws_markTermSS_V (k : Nat) : Variant := ⟨[.own ty_4, .val ty_0 false], [(ty_0, false)], fun x => laws_markTermSS k x.1 x.2.1⟩
noncomputable def laws_markTermSS_C (k : Nat) : Cfg := ⟨Try.prog, tyOf tys, 19, gOf [(42, [], laws_markTermS_V k)], false, [], []⟩
def laws_markTermSS_i26 : List PE := [⟨0, 0, .own ty_4, true⟩, ⟨1, 32, .val ty_0 false, false⟩, ⟨5, 48, .val ty_0 false, false⟩]
def laws_markTermSS_o26 : List PE := [⟨1, 32, .val ty_0 false, false⟩, ⟨0, 0, .own ty_4, true⟩]
noncomputable def laws_markTermSS_f26 (k : Nat) (n : Nat) (x2 : PTe laws_markTermSS_i26) : Option ((Int × List (List (Int × Int × Int × Int))) ⊕ PTe laws_markTermSS_o26) := laws_markTermSS_L26 k n x2.1 x2.2.1 x2.2.2.1
def laws_markTermSS_ps : List PE := [⟨0, 0, .own ty_4, true⟩, ⟨1, 16, .val ty_0 false, false⟩]
noncomputable def laws_markTermSS_F (k : Nat) : Fn (Int × List (List (Int × Int × Int × Int))) := ⟨laws_markTermSS_C k, rdRes Try.prog laws_markTermSS_ps [(ty_0, false)] Try.f18.results.toList .ret, fun p => bif Nat.beq p 26 then some (.loop laws_markTermSS_i26 laws_markTermSS_o26 0 64 (laws_markTermSS_f26 k k)) else none, 0, [0]⟩
theorem laws_markTermSS_eq (k : Nat) (x : PTe laws_markTermSS_ps) : evFn (laws_markTermSS_F k) (codeOf Try.f18) laws_markTermSS_ps 32 x = laws_markTermSS k x.1 x.2.1 := by kernel_rfl
theorem laws_markTermSS_ls : loopsOf (codeOf Try.f18) 1 = [(26, loopB (codeOf Try.f18) 26)] := by kernel_rfl
theorem laws_markTermSS_l26 (k : Nat) : LoopOk (laws_markTermSS_F k) (loopB (codeOf Try.f18) 26) 26 := LoopOk.mk (pin := laws_markTermSS_i26) (pout := laws_markTermSS_o26) (ex := 0) (nx := 64) (Lf := laws_markTermSS_f26 k) (k := k) (by kernel_rfl) (fun _ => rfl) (by intro n x; kernel_rfl)
theorem laws_markTermSS_K (k : Nat) : Contract Try.prog 18 (laws_markTermSS_V k) :=
  contract (C := laws_markTermSS_C k) (F := laws_markTermSS_F k) (fn := Try.f18) (ps := laws_markTermSS_ps) (rs := [(ty_0, false)]) (nx := 32) ⟨tyOf_ok tys_ok, gOf_ok ⟨laws_markTermS_K k, trivial⟩⟩ rfl (by kernel_rfl) (by kernel_rfl) (by kernel_rfl) (by kernel_rfl) (by kernel_rfl) (by kernel_rfl) rfl (by kernel_rfl) (by kernel_rfl) (AnnOk_list [(26, loopB (codeOf Try.f18) 26)] laws_markTermSS_ls ⟨laws_markTermSS_l26 k, trivial⟩) mix_ok (laws_markTermSS_eq k)

noncomputable def laws_markIntS_V (k : Nat) : Variant := ⟨[.own ty_0, .val ty_0 false], [(ty_0, false)], fun x => laws_markIntS k x.1 x.2.1⟩
noncomputable def laws_markIntS_C (k : Nat) : Cfg := ⟨Try.prog, tyOf tys, 19, gOf [], false, [], []⟩
def laws_markIntS_i26 : List PE := [⟨0, 0, .own ty_0, true⟩, ⟨1, 32, .val ty_0 false, false⟩, ⟨5, 48, .val ty_0 false, false⟩]
def laws_markIntS_o26 : List PE := [⟨1, 32, .val ty_0 false, false⟩, ⟨0, 0, .own ty_0, true⟩]
noncomputable def laws_markIntS_f26 (k : Nat) (n : Nat) (x1 : PTe laws_markIntS_i26) : Option ((Int × List Int) ⊕ PTe laws_markIntS_o26) := laws_markIntS_L26 k n x1.1 x1.2.1 x1.2.2.1
def laws_markIntS_ps : List PE := [⟨0, 0, .own ty_0, true⟩, ⟨1, 16, .val ty_0 false, false⟩]
noncomputable def laws_markIntS_F (k : Nat) : Fn (Int × List Int) := ⟨laws_markIntS_C k, rdRes Try.prog laws_markIntS_ps [(ty_0, false)] Try.f20.results.toList .ret, fun p => bif Nat.beq p 26 then some (.loop laws_markIntS_i26 laws_markIntS_o26 0 64 (laws_markIntS_f26 k k)) else none, 0, [0]⟩
theorem laws_markIntS_eq (k : Nat) (x : PTe laws_markIntS_ps) : evFn (laws_markIntS_F k) (codeOf Try.f20) laws_markIntS_ps 32 x = laws_markIntS k x.1 x.2.1 := by kernel_rfl
theorem laws_markIntS_ls : loopsOf (codeOf Try.f20) 1 = [(26, loopB (codeOf Try.f20) 26)] := by kernel_rfl
theorem laws_markIntS_l26 (k : Nat) : LoopOk (laws_markIntS_F k) (loopB (codeOf Try.f20) 26) 26 := LoopOk.mk (pin := laws_markIntS_i26) (pout := laws_markIntS_o26) (ex := 0) (nx := 64) (Lf := laws_markIntS_f26 k) (k := k) (by kernel_rfl) (fun _ => rfl) (by intro n x; kernel_rfl)
theorem laws_markIntS_K (k : Nat) : Contract Try.prog 20 (laws_markIntS_V k) :=
  contract (C := laws_markIntS_C k) (F := laws_markIntS_F k) (fn := Try.f20) (ps := laws_markIntS_ps) (rs := [(ty_0, false)]) (nx := 32) ⟨tyOf_ok tys_ok, gOf_ok trivial⟩ rfl (by kernel_rfl) (by kernel_rfl) (by kernel_rfl) (by kernel_rfl) (by kernel_rfl) (by kernel_rfl) rfl (by kernel_rfl) (by kernel_rfl) (AnnOk_list [(26, loopB (codeOf Try.f20) 26)] laws_markIntS_ls ⟨laws_markIntS_l26 k, trivial⟩) mix_ok (laws_markIntS_eq k)

noncomputable def laws_markBox_V (k : Nat) : Variant := ⟨[.gob ty_9 true, .val ty_0 false], [(ty_0, false)], fun x => laws_markBox k x.1 x.2.1⟩
noncomputable def laws_markBox_C (k : Nat) : Cfg := ⟨Try.prog, tyOf tys, 14, gOf [(20, [], laws_markIntS_V k)], false, [], []⟩
def laws_markBox_ps : List PE := [⟨0, 0, .gob ty_9 true, false⟩, ⟨1, 16, .val ty_0 false, false⟩]
noncomputable def laws_markBox_F (k : Nat) : Fn (Int) := ⟨laws_markBox_C k, rdRes Try.prog laws_markBox_ps [(ty_0, false)] Try.f19.results.toList .ret, fun p => none, 0, []⟩
theorem laws_markBox_eq (k : Nat) (x : PTe laws_markBox_ps) : evFn (laws_markBox_F k) (codeOf Try.f19) laws_markBox_ps 32 x = laws_markBox k x.1 x.2.1 := by kernel_rfl
theorem laws_markBox_K (k : Nat) : Contract Try.prog 19 (laws_markBox_V k) :=
  contract (C := laws_markBox_C k) (F := laws_markBox_F k) (fn := Try.f19) (ps := laws_markBox_ps) (rs := [(ty_0, false)]) (nx := 32) ⟨tyOf_ok tys_ok, gOf_ok ⟨laws_markIntS_K k, trivial⟩⟩ rfl (by kernel_rfl) (by kernel_rfl) (by kernel_rfl) (by kernel_rfl) (by kernel_rfl) (by kernel_rfl) rfl (by kernel_rfl) (by kernel_rfl) (AnnOk_list [] (by kernel_rfl) trivial) mix_ok (laws_markBox_eq k)

noncomputable def laws_heldIntS_V (k : Nat) : Variant := ⟨[.val ty_7 false, .val ty_0 false], [(ty_0, false)], fun x => laws_heldIntS k x.1 x.2.1⟩
noncomputable def laws_heldIntS_C (k : Nat) : Cfg := ⟨Try.prog, tyOf tys, 21, gOf [], false, [], []⟩
def laws_heldIntS_i26 : List PE := [⟨0, 32, .val ty_7 false, false⟩, ⟨1, 48, .val ty_0 false, false⟩, ⟨5, 64, .val ty_0 false, false⟩]
def laws_heldIntS_o26 : List PE := [⟨1, 32, .val ty_0 false, false⟩]
noncomputable def laws_heldIntS_f26 (k : Nat) (n : Nat) (x1 : PTe laws_heldIntS_i26) : Option ((Int) ⊕ PTe laws_heldIntS_o26) := laws_heldIntS_L26 k n x1.1 x1.2.1 x1.2.2.1
def laws_heldIntS_ps : List PE := [⟨0, 0, .val ty_7 false, false⟩, ⟨1, 16, .val ty_0 false, false⟩]
noncomputable def laws_heldIntS_F (k : Nat) : Fn (Int) := ⟨laws_heldIntS_C k, rdRes Try.prog laws_heldIntS_ps [(ty_0, false)] Try.f21.results.toList .ret, fun p => bif Nat.beq p 26 then some (.loop laws_heldIntS_i26 laws_heldIntS_o26 0 80 (laws_heldIntS_f26 k k)) else none, 0, []⟩
theorem laws_heldIntS_eq (k : Nat) (x : PTe laws_heldIntS_ps) : evFn (laws_heldIntS_F k) (codeOf Try.f21) laws_heldIntS_ps 32 x = laws_heldIntS k x.1 x.2.1 := by kernel_rfl
theorem laws_heldIntS_ls : loopsOf (codeOf Try.f21) 1 = [(26, loopB (codeOf Try.f21) 26)] := by kernel_rfl
theorem laws_heldIntS_l26 (k : Nat) : LoopOk (laws_heldIntS_F k) (loopB (codeOf Try.f21) 26) 26 := LoopOk.mk (pin := laws_heldIntS_i26) (pout := laws_heldIntS_o26) (ex := 0) (nx := 80) (Lf := laws_heldIntS_f26 k) (k := k) (by kernel_rfl) (fun _ => rfl) (by intro n x; kernel_rfl)
theorem laws_heldIntS_K (k : Nat) : Contract Try.prog 21 (laws_heldIntS_V k) :=
  contract (C := laws_heldIntS_C k) (F := laws_heldIntS_F k) (fn := Try.f21) (ps := laws_heldIntS_ps) (rs := [(ty_0, false)]) (nx := 32) ⟨tyOf_ok tys_ok, gOf_ok trivial⟩ rfl (by kernel_rfl) (by kernel_rfl) (by kernel_rfl) (by kernel_rfl) (by kernel_rfl) (by kernel_rfl) rfl (by kernel_rfl) (by kernel_rfl) (AnnOk_list [(26, loopB (codeOf Try.f21) 26)] laws_heldIntS_ls ⟨laws_heldIntS_l26 k, trivial⟩) mix_ok (laws_heldIntS_eq k)

noncomputable def laws_FnExactCornerQuarters_V (k : Nat) : Variant := ⟨[.val ty_5 false, .val ty_9 true, .val ty_0 false], [(.bool, false)], fun x => laws_FnExactCornerQuarters k x.1 x.2.1 x.2.2.1⟩
noncomputable def laws_FnExactCornerQuarters_C (k : Nat) : Cfg := ⟨Try.prog, tyOf tys, 124, gOf [(9, [], laws_szTermSS_V k), (10, [], laws_szBox_V), (12, [], laws_toTermSS_V k), (13, [], laws_toBox_V k), (11, [], spec_CornerQuarters_V k), (14, [], impl_CornerQuarters_V k), (15, [], laws_eqIntS_V k), (16, [], laws_intactTermSS_V k), (17, [], laws_intactBox_V k), (18, [], laws_markTermSS_V k), (19, [], laws_markBox_V k), (20, [], laws_markIntS_V k), (21, [], laws_heldIntS_V k)], false, [], []⟩
def laws_FnExactCornerQuarters_ps : List PE := [⟨0, 0, .val ty_5 false, false⟩, ⟨1, 16, .val ty_9 true, false⟩, ⟨2, 32, .val ty_0 false, false⟩]
noncomputable def laws_FnExactCornerQuarters_F (k : Nat) : Fn (Bool) := ⟨laws_FnExactCornerQuarters_C k, rdRes Try.prog laws_FnExactCornerQuarters_ps [(.bool, false)] Try.f3.results.toList .ret, fun p => none, 0, []⟩
theorem laws_FnExactCornerQuarters_eq (k : Nat) (x : PTe laws_FnExactCornerQuarters_ps) : evFn (laws_FnExactCornerQuarters_F k) (codeOf Try.f3) laws_FnExactCornerQuarters_ps 48 x = laws_FnExactCornerQuarters k x.1 x.2.1 x.2.2.1 := by kernel_rfl
theorem laws_FnExactCornerQuarters_K (k : Nat) : Contract Try.prog 3 (laws_FnExactCornerQuarters_V k) :=
  contract (C := laws_FnExactCornerQuarters_C k) (F := laws_FnExactCornerQuarters_F k) (fn := Try.f3) (ps := laws_FnExactCornerQuarters_ps) (rs := [(.bool, false)]) (nx := 48) ⟨tyOf_ok tys_ok, gOf_ok ⟨laws_szTermSS_K k, laws_szBox_K, laws_toTermSS_K k, laws_toBox_K k, spec_CornerQuarters_K k, impl_CornerQuarters_K k, laws_eqIntS_K k, laws_intactTermSS_K k, laws_intactBox_K k, laws_markTermSS_K k, laws_markBox_K k, laws_markIntS_K k, laws_heldIntS_K k, trivial⟩⟩ rfl (by kernel_rfl) (by kernel_rfl) (by kernel_rfl) (by kernel_rfl) (by kernel_rfl) (by kernel_rfl) rfl (by kernel_rfl) (by kernel_rfl) (AnnOk_list [] (by kernel_rfl) trivial) mix_ok (laws_FnExactCornerQuarters_eq k)
end Go.Ev.G
