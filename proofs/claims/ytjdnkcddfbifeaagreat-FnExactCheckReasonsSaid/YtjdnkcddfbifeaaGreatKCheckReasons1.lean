/- The contracts of the functions behind FnExactCheckReasons: a call of each returns what its plain function computes; for all inputs within the sizes named. -/
import Derived.Test.YtjdnkcddfbifeaaGreatPCheckReasons1
import Derived.Test.YtjdnkcddfbifeaaGreatProg
set_option linter.unusedVariables false
namespace Go.Ev.G
open Go Go.Ev Go.Proofs
set_option maxRecDepth 100000
abbrev ty_0 : Ty := (.int .i64)

abbrev ty_1 : Ty := (.pair ty_0 ty_0)

abbrev ty_2 : Ty := (.pair ty_0 ty_1)

abbrev ty_3 : Ty := (.pair ty_0 ty_2)

abbrev ty_4 : Ty := (.sl ty_3)

abbrev ty_5 : Ty := (.sl ty_4)

abbrev ty_6 : Ty := (.rm ty_3)

abbrev ty_7 : Ty := (.sl ty_0)

abbrev ty_8 : Ty := (.pair ty_7 ty_7)

abbrev ty_9 : Ty := (.pair ty_0 ty_8)

abbrev ty_10 : Ty := (.pair ty_1 ty_1)

abbrev ty_11 : Ty := (.pair ty_1 ty_10)

abbrev ty_12 : Ty := (.pair ty_0 ty_11)

abbrev ty_13 : Ty := (.sl ty_1)

abbrev ty_14 : Ty := (.sl ty_10)

abbrev ty_15 : Ty := (.int .u64)

abbrev ty_16 : Ty := (.pair ty_15 ty_15)

abbrev ty_17 : Ty := (.pair .bool ty_16)

abbrev ty_18 : Ty := (.rm ty_6)

abbrev ty_19 : Ty := (.rm ty_0)

abbrev ty_20 : Ty := (.pair ty_19 ty_19)

abbrev ty_21 : Ty := (.pair ty_0 ty_20)

abbrev ty_22 : Ty := (.sl ty_12)

def tys : List (TypeId × Ty) := [(3, ty_0), (32, ty_1), (34, ty_12), (119, ty_10)]

theorem tys_ok : AllT Tryz.prog tys := ⟨⟨_, _, rfl, rfl, rfl, rfl⟩, ⟨_, _, rfl, rfl, rfl, rfl⟩, ⟨_, _, rfl, rfl, rfl, rfl⟩, ⟨_, _, rfl, rfl, rfl, rfl⟩, trivial⟩

def tysR : List (TypeId × Ty) := [(3, ty_0), (79, ty_6), (82, ty_3)]

theorem tysR_ok : AllT Tryz.prog tysR := ⟨⟨_, _, rfl, rfl, rfl, rfl⟩, ⟨_, _, rfl, rfl, rfl, rfl⟩, ⟨_, _, rfl, rfl, rfl, rfl⟩, trivial⟩

theorem mix_ok : Tryz.prog.follows .mixedOrders = true := by kernel_rfl

noncomputable def laws_szTermS_V : Variant := ⟨[.val ty_4 false, .val ty_0 false], [(ty_0, false)], fun x => laws_szTermS x.1 x.2.1⟩
noncomputable def laws_szTermS_C : Cfg := ⟨Tryz.prog, tyOf tys, 12, gOf [], false, [], []⟩
def laws_szTermS_ps : List PE := [⟨0, 0, .val ty_4 false, false⟩, ⟨1, 16, .val ty_0 false, false⟩]
noncomputable def laws_szTermS_F : Fn (Int) := ⟨laws_szTermS_C, rdRes Tryz.prog laws_szTermS_ps [(ty_0, false)] Tryz.f54.results.toList .ret, fun p => none, 0, []⟩
theorem laws_szTermS_eq (x : PTe laws_szTermS_ps) : evFn (laws_szTermS_F) (codeOf Tryz.f54) laws_szTermS_ps 32 x = laws_szTermS x.1 x.2.1 := by kernel_rfl
theorem laws_szTermS_K : Contract Tryz.prog 54 (laws_szTermS_V) :=
  contract (C := laws_szTermS_C) (F := laws_szTermS_F) (fn := Tryz.f54) (c := codeOf Tryz.f54) (ps := laws_szTermS_ps) (rs := [(ty_0, false)]) (nx := 32) ⟨tyOf_ok tys_ok, gOf_ok trivial⟩ rfl (by kernel_rfl) (by kernel_rfl) (by kernel_rfl) (by kernel_rfl) (by kernel_rfl) (by kernel_rfl) rfl (by kernel_rfl) (by kernel_rfl) (AnnOk_list [] (by kernel_rfl) trivial) mix_ok (laws_szTermS_eq)

noncomputable def laws_szTermSS_V (k : Nat) : Variant := ⟨[.val ty_5 false, .val ty_0 false], [(ty_0, false)], fun x => laws_szTermSS k x.1 x.2.1⟩
noncomputable def laws_szTermSS_C (k : Nat) : Cfg := ⟨Tryz.prog, tyOf tys, 27, gOf [(54, [], laws_szTermS_V)], false, [], []⟩
def laws_szTermSS_i122 : List PE := [⟨0, 32, .val ty_5 false, false⟩, ⟨1, 48, .val ty_0 false, false⟩, ⟨5, 64, .val ty_0 false, false⟩]
def laws_szTermSS_o122 : List PE := [⟨1, 32, .val ty_0 false, false⟩]
noncomputable def laws_szTermSS_f122 (k : Nat) (n : Nat) (x2 : PTe laws_szTermSS_i122) : Option ((Int) ⊕ PTe laws_szTermSS_o122) := laws_szTermSS_L122 k n x2.1 x2.2.1 x2.2.2.1
def laws_szTermSS_ps : List PE := [⟨0, 0, .val ty_5 false, false⟩, ⟨1, 16, .val ty_0 false, false⟩]
noncomputable def laws_szTermSS_F (k : Nat) : Fn (Int) := ⟨laws_szTermSS_C k, rdRes Tryz.prog laws_szTermSS_ps [(ty_0, false)] Tryz.f15.results.toList .ret, fun p => bif Nat.beq p 122 then some (.loop laws_szTermSS_i122 laws_szTermSS_o122 0 80 (laws_szTermSS_f122 k k)) else none, 0, []⟩
theorem laws_szTermSS_eq (k : Nat) (x : PTe laws_szTermSS_ps) : evFn (laws_szTermSS_F k) (codeOf Tryz.f15) laws_szTermSS_ps 32 x = laws_szTermSS k x.1 x.2.1 := by kernel_rfl
theorem laws_szTermSS_ls : loopsOf (codeOf Tryz.f15) 1 = [(122, loopB (codeOf Tryz.f15) 122)] := by kernel_rfl
theorem laws_szTermSS_l122 (k : Nat) : LoopOk (laws_szTermSS_F k) (loopB (codeOf Tryz.f15) 122) 122 := LoopOk.mk (pin := laws_szTermSS_i122) (pout := laws_szTermSS_o122) (ex := 0) (nx := 80) (Lf := laws_szTermSS_f122 k) (k := k) (by kernel_rfl) (fun _ => rfl) (by intro n x; kernel_rfl)
theorem laws_szTermSS_K (k : Nat) : Contract Tryz.prog 15 (laws_szTermSS_V k) :=
  contract (C := laws_szTermSS_C k) (F := laws_szTermSS_F k) (fn := Tryz.f15) (c := codeOf Tryz.f15) (ps := laws_szTermSS_ps) (rs := [(ty_0, false)]) (nx := 32) ⟨tyOf_ok tys_ok, gOf_ok ⟨laws_szTermS_K, trivial⟩⟩ rfl (by kernel_rfl) (by kernel_rfl) (by kernel_rfl) (by kernel_rfl) (by kernel_rfl) (by kernel_rfl) rfl (by kernel_rfl) (by kernel_rfl) (AnnOk_list [(122, loopB (codeOf Tryz.f15) 122)] laws_szTermSS_ls ⟨laws_szTermSS_l122 k, trivial⟩) mix_ok (laws_szTermSS_eq k)

noncomputable def laws_szIntS_V : Variant := ⟨[.val ty_7 false, .val ty_0 false], [(ty_0, false)], fun x => laws_szIntS x.1 x.2.1⟩
noncomputable def laws_szIntS_C : Cfg := ⟨Tryz.prog, tyOf tys, 12, gOf [], false, [], []⟩
def laws_szIntS_ps : List PE := [⟨0, 0, .val ty_7 false, false⟩, ⟨1, 16, .val ty_0 false, false⟩]
noncomputable def laws_szIntS_F : Fn (Int) := ⟨laws_szIntS_C, rdRes Tryz.prog laws_szIntS_ps [(ty_0, false)] Tryz.f68.results.toList .ret, fun p => none, 0, []⟩
theorem laws_szIntS_eq (x : PTe laws_szIntS_ps) : evFn (laws_szIntS_F) (codeOf Tryz.f68) laws_szIntS_ps 32 x = laws_szIntS x.1 x.2.1 := by kernel_rfl
theorem laws_szIntS_K : Contract Tryz.prog 68 (laws_szIntS_V) :=
  contract (C := laws_szIntS_C) (F := laws_szIntS_F) (fn := Tryz.f68) (c := codeOf Tryz.f68) (ps := laws_szIntS_ps) (rs := [(ty_0, false)]) (nx := 32) ⟨tyOf_ok tys_ok, gOf_ok trivial⟩ rfl (by kernel_rfl) (by kernel_rfl) (by kernel_rfl) (by kernel_rfl) (by kernel_rfl) (by kernel_rfl) rfl (by kernel_rfl) (by kernel_rfl) (AnnOk_list [] (by kernel_rfl) trivial) mix_ok (laws_szIntS_eq)

noncomputable def laws_szBox_V : Variant := ⟨[.val ty_9 true, .val ty_0 false], [(ty_0, false)], fun x => laws_szBox x.1 x.2.1⟩
noncomputable def laws_szBox_C : Cfg := ⟨Tryz.prog, tyOf tys, 18, gOf [(68, [], laws_szIntS_V)], false, [], []⟩
def laws_szBox_ps : List PE := [⟨0, 0, .val ty_9 true, false⟩, ⟨1, 16, .val ty_0 false, false⟩]
noncomputable def laws_szBox_F : Fn (Int) := ⟨laws_szBox_C, rdRes Tryz.prog laws_szBox_ps [(ty_0, false)] Tryz.f21.results.toList .ret, fun p => none, 0, []⟩
theorem laws_szBox_eq (x : PTe laws_szBox_ps) : evFn (laws_szBox_F) (codeOf Tryz.f21) laws_szBox_ps 32 x = laws_szBox x.1 x.2.1 := by kernel_rfl
theorem laws_szBox_K : Contract Tryz.prog 21 (laws_szBox_V) :=
  contract (C := laws_szBox_C) (F := laws_szBox_F) (fn := Tryz.f21) (c := codeOf Tryz.f21) (ps := laws_szBox_ps) (rs := [(ty_0, false)]) (nx := 32) ⟨tyOf_ok tys_ok, gOf_ok ⟨laws_szIntS_K, trivial⟩⟩ rfl (by kernel_rfl) (by kernel_rfl) (by kernel_rfl) (by kernel_rfl) (by kernel_rfl) (by kernel_rfl) rfl (by kernel_rfl) (by kernel_rfl) (AnnOk_list [] (by kernel_rfl) trivial) mix_ok (laws_szBox_eq)

noncomputable def laws_roomBehind_V : Variant := ⟨[.val ty_0 false], [(ty_0, false)], fun x => laws_roomBehind x.1⟩
noncomputable def laws_roomBehind_C : Cfg := ⟨Tryz.prog, tyOf tys, 10, gOf [], false, [], []⟩
def laws_roomBehind_ps : List PE := [⟨0, 0, .val ty_0 false, false⟩]
noncomputable def laws_roomBehind_F : Fn (Int) := ⟨laws_roomBehind_C, rdRes Tryz.prog laws_roomBehind_ps [(ty_0, false)] Tryz.f59.results.toList .ret, fun p => none, 0, []⟩
theorem laws_roomBehind_eq (x : PTe laws_roomBehind_ps) : evFn (laws_roomBehind_F) (codeOf Tryz.f59) laws_roomBehind_ps 16 x = laws_roomBehind x.1 := by kernel_rfl
theorem laws_roomBehind_K : Contract Tryz.prog 59 (laws_roomBehind_V) :=
  contract (C := laws_roomBehind_C) (F := laws_roomBehind_F) (fn := Tryz.f59) (c := codeOf Tryz.f59) (ps := laws_roomBehind_ps) (rs := [(ty_0, false)]) (nx := 16) ⟨tyOf_ok tys_ok, gOf_ok trivial⟩ rfl (by kernel_rfl) (by kernel_rfl) (by kernel_rfl) (by kernel_rfl) (by kernel_rfl) (by kernel_rfl) rfl (by kernel_rfl) (by kernel_rfl) (AnnOk_list [] (by kernel_rfl) trivial) mix_ok (laws_roomBehind_eq)

noncomputable def laws_toTerm_V : Variant := ⟨[.val ty_3 true], [(ty_3, true)], fun x => laws_toTerm x.1⟩
noncomputable def laws_toTerm_C : Cfg := ⟨Tryz.prog, tyOf tysR, 17, gOf [], true, [], []⟩
def laws_toTerm_ps : List PE := [⟨0, 0, .val ty_3 true, false⟩]
noncomputable def laws_toTerm_F : Fn (Int × Int × Int × Int) := ⟨laws_toTerm_C, rdRes Tryz.prog laws_toTerm_ps [(ty_3, true)] Tryz.f113.results.toList .ret, fun p => none, 0, []⟩
theorem laws_toTerm_eq (x : PTe laws_toTerm_ps) : evFn (laws_toTerm_F) (codeOf Tryz.f113) laws_toTerm_ps 16 x = laws_toTerm x.1 := by kernel_rfl
theorem laws_toTerm_K : Contract Tryz.prog 113 (laws_toTerm_V) :=
  contract (C := laws_toTerm_C) (F := laws_toTerm_F) (fn := Tryz.f113) (c := codeOf Tryz.f113) (ps := laws_toTerm_ps) (rs := [(ty_3, true)]) (nx := 16) ⟨tyOf_ok tysR_ok, gOf_ok trivial⟩ rfl (by kernel_rfl) (by kernel_rfl) (by kernel_rfl) (by kernel_rfl) (by kernel_rfl) (by kernel_rfl) rfl (by kernel_rfl) (by kernel_rfl) (AnnOk_list [] (by kernel_rfl) trivial) mix_ok (laws_toTerm_eq)

noncomputable def laws_fillerTerm_V : Variant := ⟨[], [(ty_3, true)], fun x => laws_fillerTerm⟩
noncomputable def laws_fillerTerm_C : Cfg := ⟨Tryz.prog, tyOf tys, 2, gOf [], false, [], []⟩
def laws_fillerTerm_ps : List PE := []
noncomputable def laws_fillerTerm_F : Fn (Int × Int × Int × Int) := ⟨laws_fillerTerm_C, rdRes Tryz.prog laws_fillerTerm_ps [(ty_3, true)] Tryz.f61.results.toList .ret, fun p => none, 0, []⟩
theorem laws_fillerTerm_eq (x : PTe laws_fillerTerm_ps) : evFn (laws_fillerTerm_F) (codeOf Tryz.f61) laws_fillerTerm_ps 0 x = laws_fillerTerm := by kernel_rfl
theorem laws_fillerTerm_K : Contract Tryz.prog 61 (laws_fillerTerm_V) :=
  contract (C := laws_fillerTerm_C) (F := laws_fillerTerm_F) (fn := Tryz.f61) (c := codeOf Tryz.f61) (ps := laws_fillerTerm_ps) (rs := [(ty_3, true)]) (nx := 0) ⟨tyOf_ok tys_ok, gOf_ok trivial⟩ rfl (by kernel_rfl) (by kernel_rfl) (by kernel_rfl) (by kernel_rfl) (by kernel_rfl) (by kernel_rfl) rfl (by kernel_rfl) (by kernel_rfl) (AnnOk_list [] (by kernel_rfl) trivial) mix_ok (laws_fillerTerm_eq)

noncomputable def laws_toTermS_V (k : Nat) : Variant := ⟨[.val ty_4 false, .val .bool false], [(ty_6, false)], fun x => laws_toTermS k x.1 x.2.1⟩
noncomputable def laws_toTermS_C (k : Nat) : Cfg := ⟨Tryz.prog, tyOf tysR, 51, gOf [(59, [], laws_roomBehind_V), (113, [], laws_toTerm_V), (61, [], laws_fillerTerm_V)], true, [], []⟩
def laws_toTermS_i122 : List PE := [⟨0, 32, .val ty_4 false, false⟩, ⟨5, 48, .eat ty_3, false⟩, ⟨6, 64, .val ty_0 false, false⟩]
def laws_toTermS_o122 : List PE := [⟨0, 32, .val ty_4 false, false⟩, ⟨5, 48, .eat ty_3, false⟩]
noncomputable def laws_toTermS_f122 (k : Nat) (n : Nat) (x4 : PTe laws_toTermS_i122) : Option ((List (Int × Int × Int × Int) × List (Int × Int × Int × Int)) ⊕ PTe laws_toTermS_o122) := laws_toTermS_L122 k n x4.1 x4.2.1 x4.2.2.1
def laws_toTermS_i250 : List PE := [⟨0, 32, .val ty_4 false, false⟩, ⟨5, 48, .eat ty_3, false⟩, ⟨7, 64, .val ty_0 false, false⟩]
def laws_toTermS_o250 : List PE := [⟨0, 32, .val ty_4 false, false⟩, ⟨5, 48, .eat ty_3, false⟩]
noncomputable def laws_toTermS_f250 (k : Nat) (n : Nat) (x8 : PTe laws_toTermS_i250) : Option ((List (Int × Int × Int × Int) × List (Int × Int × Int × Int)) ⊕ PTe laws_toTermS_o250) := laws_toTermS_L250 k n x8.1 x8.2.1 x8.2.2.1
def laws_toTermS_ps : List PE := [⟨0, 0, .val ty_4 false, false⟩, ⟨1, 16, .val .bool false, false⟩]
noncomputable def laws_toTermS_F (k : Nat) : Fn (List (Int × Int × Int × Int) × List (Int × Int × Int × Int)) := ⟨laws_toTermS_C k, rdRes Tryz.prog laws_toTermS_ps [(ty_6, false)] Tryz.f60.results.toList .ret, fun p => bif Nat.beq p 122 then some (.loop laws_toTermS_i122 laws_toTermS_o122 0 80 (laws_toTermS_f122 k k)) else bif Nat.beq p 250 then some (.loop laws_toTermS_i250 laws_toTermS_o250 2 80 (laws_toTermS_f250 k k)) else bif Nat.beq p 6 then some (.cut [⟨0, 32, .val ty_4 false, false⟩] 48) else none, 0, []⟩
theorem laws_toTermS_eq (k : Nat) (x : PTe laws_toTermS_ps) : evFn (laws_toTermS_F k) (codeOf Tryz.f60) laws_toTermS_ps 32 x = laws_toTermS k x.1 x.2.1 := by kernel_rfl
theorem laws_toTermS_ls : loopsOf (codeOf Tryz.f60) 1 = [(122, loopB (codeOf Tryz.f60) 122), (250, loopB (codeOf Tryz.f60) 250)] := by kernel_rfl
theorem laws_toTermS_l122 (k : Nat) : LoopOk (laws_toTermS_F k) (loopB (codeOf Tryz.f60) 122) 122 := LoopOk.mk (pin := laws_toTermS_i122) (pout := laws_toTermS_o122) (ex := 0) (nx := 80) (Lf := laws_toTermS_f122 k) (k := k) (by kernel_rfl) (fun _ => rfl) (by intro n x; kernel_rfl)
theorem laws_toTermS_l250 (k : Nat) : LoopOk (laws_toTermS_F k) (loopB (codeOf Tryz.f60) 250) 250 := LoopOk.mk (pin := laws_toTermS_i250) (pout := laws_toTermS_o250) (ex := 2) (nx := 80) (Lf := laws_toTermS_f250 k) (k := k) (by kernel_rfl) (fun _ => rfl) (by intro n x; kernel_rfl)
theorem laws_toTermS_K (k : Nat) : Contract Tryz.prog 60 (laws_toTermS_V k) :=
  contract (C := laws_toTermS_C k) (F := laws_toTermS_F k) (fn := Tryz.f60) (c := codeOf Tryz.f60) (ps := laws_toTermS_ps) (rs := [(ty_6, false)]) (nx := 32) ⟨tyOf_ok tysR_ok, gOf_ok ⟨laws_roomBehind_K, laws_toTerm_K, laws_fillerTerm_K, trivial⟩⟩ rfl (by kernel_rfl) (by kernel_rfl) (by kernel_rfl) (by kernel_rfl) (by kernel_rfl) (by kernel_rfl) rfl (by kernel_rfl) (by kernel_rfl) (AnnOk_list [(122, loopB (codeOf Tryz.f60) 122), (250, loopB (codeOf Tryz.f60) 250)] laws_toTermS_ls ⟨laws_toTermS_l122 k, laws_toTermS_l250 k, trivial⟩) mix_ok (laws_toTermS_eq k)

noncomputable def laws_toTermSS_V (k : Nat) : Variant := ⟨[.val ty_5 false, .val .bool false], [(ty_18, false)], fun x => laws_toTermSS k x.1 x.2.1⟩
noncomputable def laws_toTermSS_C (k : Nat) : Cfg := ⟨Tryz.prog, tyOf tysR, 53, gOf [(59, [], laws_roomBehind_V), (60, [], laws_toTermS_V k), (61, [], laws_fillerTerm_V)], true, [5, 27, 39, 44], []⟩
def laws_toTermSS_i122 : List PE := [⟨0, 32, .val ty_5 false, false⟩, ⟨1, 48, .val .bool false, false⟩, ⟨5, 64, .eat ty_6, false⟩, ⟨6, 80, .val ty_0 false, false⟩]
def laws_toTermSS_o122 : List PE := [⟨0, 32, .val ty_5 false, false⟩, ⟨5, 48, .eat ty_6, false⟩]
noncomputable def laws_toTermSS_f122 (k : Nat) (n : Nat) (x4 : PTe laws_toTermSS_i122) : Option ((List (List (Int × Int × Int × Int) × List (Int × Int × Int × Int)) × List (List (Int × Int × Int × Int) × List (Int × Int × Int × Int))) ⊕ PTe laws_toTermSS_o122) := laws_toTermSS_L122 k n x4.1 x4.2.1 x4.2.2.1 x4.2.2.2.1
def laws_toTermSS_i250 : List PE := [⟨0, 32, .val ty_5 false, false⟩, ⟨5, 48, .eat ty_6, false⟩, ⟨7, 64, .val ty_0 false, false⟩]
def laws_toTermSS_o250 : List PE := [⟨0, 32, .val ty_5 false, false⟩, ⟨5, 48, .eat ty_6, false⟩]
noncomputable def laws_toTermSS_f250 (k : Nat) (n : Nat) (x8 : PTe laws_toTermSS_i250) : Option ((List (List (Int × Int × Int × Int) × List (Int × Int × Int × Int)) × List (List (Int × Int × Int × Int) × List (Int × Int × Int × Int))) ⊕ PTe laws_toTermSS_o250) := laws_toTermSS_L250 k n x8.1 x8.2.1 x8.2.2.1
def laws_toTermSS_ps : List PE := [⟨0, 0, .val ty_5 false, false⟩, ⟨1, 16, .val .bool false, false⟩]
noncomputable def laws_toTermSS_F (k : Nat) : Fn (List (List (Int × Int × Int × Int) × List (Int × Int × Int × Int)) × List (List (Int × Int × Int × Int) × List (Int × Int × Int × Int))) := ⟨laws_toTermSS_C k, rdRes Tryz.prog laws_toTermSS_ps [(ty_18, false)] Tryz.f17.results.toList .ret, fun p => bif Nat.beq p 122 then some (.loop laws_toTermSS_i122 laws_toTermSS_o122 0 96 (laws_toTermSS_f122 k k)) else bif Nat.beq p 250 then some (.loop laws_toTermSS_i250 laws_toTermSS_o250 2 80 (laws_toTermSS_f250 k k)) else bif Nat.beq p 6 then some (.cut [⟨0, 32, .val ty_5 false, false⟩, ⟨1, 48, .val .bool false, false⟩] 64) else none, 0, []⟩
theorem laws_toTermSS_eq (k : Nat) (x : PTe laws_toTermSS_ps) : evFn (laws_toTermSS_F k) (codeOf Tryz.f17) laws_toTermSS_ps 32 x = laws_toTermSS k x.1 x.2.1 := by kernel_rfl
theorem laws_toTermSS_ls : loopsOf (codeOf Tryz.f17) 1 = [(122, loopB (codeOf Tryz.f17) 122), (250, loopB (codeOf Tryz.f17) 250)] := by kernel_rfl
theorem laws_toTermSS_l122 (k : Nat) : LoopOk (laws_toTermSS_F k) (loopB (codeOf Tryz.f17) 122) 122 := LoopOk.mk (pin := laws_toTermSS_i122) (pout := laws_toTermSS_o122) (ex := 0) (nx := 96) (Lf := laws_toTermSS_f122 k) (k := k) (by kernel_rfl) (fun _ => rfl) (by intro n x; kernel_rfl)
theorem laws_toTermSS_l250 (k : Nat) : LoopOk (laws_toTermSS_F k) (loopB (codeOf Tryz.f17) 250) 250 := LoopOk.mk (pin := laws_toTermSS_i250) (pout := laws_toTermSS_o250) (ex := 2) (nx := 80) (Lf := laws_toTermSS_f250 k) (k := k) (by kernel_rfl) (fun _ => rfl) (by intro n x; kernel_rfl)
theorem laws_toTermSS_K (k : Nat) : Contract Tryz.prog 17 (laws_toTermSS_V k) :=
  contract (C := laws_toTermSS_C k) (F := laws_toTermSS_F k) (fn := Tryz.f17) (c := codeOf Tryz.f17) (ps := laws_toTermSS_ps) (rs := [(ty_18, false)]) (nx := 32) ⟨tyOf_ok tysR_ok, gOf_ok ⟨laws_roomBehind_K, laws_toTermS_K k, laws_fillerTerm_K, trivial⟩⟩ rfl (by kernel_rfl) (by kernel_rfl) (by kernel_rfl) (by kernel_rfl) (by kernel_rfl) (by kernel_rfl) rfl (by kernel_rfl) (by kernel_rfl) (AnnOk_list [(122, loopB (codeOf Tryz.f17) 122), (250, loopB (codeOf Tryz.f17) 250)] laws_toTermSS_ls ⟨laws_toTermSS_l122 k, laws_toTermSS_l250 k, trivial⟩) mix_ok (laws_toTermSS_eq k)

noncomputable def laws_toIntS_V (k : Nat) : Variant := ⟨[.val ty_7 false, .val .bool false], [(ty_19, false)], fun x => laws_toIntS k x.1 x.2.1⟩
noncomputable def laws_toIntS_C (k : Nat) : Cfg := ⟨Tryz.prog, tyOf tysR, 49, gOf [(59, [], laws_roomBehind_V)], true, [], []⟩
def laws_toIntS_i122 : List PE := [⟨0, 32, .val ty_7 false, false⟩, ⟨5, 48, .eat ty_0, false⟩, ⟨6, 64, .val ty_0 false, false⟩]
def laws_toIntS_o122 : List PE := [⟨0, 32, .val ty_7 false, false⟩, ⟨5, 48, .eat ty_0, false⟩]
noncomputable def laws_toIntS_f122 (k : Nat) (n : Nat) (x3 : PTe laws_toIntS_i122) : Option ((List Int × List Int) ⊕ PTe laws_toIntS_o122) := laws_toIntS_L122 k n x3.1 x3.2.1 x3.2.2.1
def laws_toIntS_i250 : List PE := [⟨0, 32, .val ty_7 false, false⟩, ⟨5, 48, .eat ty_0, false⟩, ⟨7, 64, .val ty_0 false, false⟩]
def laws_toIntS_o250 : List PE := [⟨0, 32, .val ty_7 false, false⟩, ⟨5, 48, .eat ty_0, false⟩]
noncomputable def laws_toIntS_f250 (k : Nat) (n : Nat) (x6 : PTe laws_toIntS_i250) : Option ((List Int × List Int) ⊕ PTe laws_toIntS_o250) := laws_toIntS_L250 k n x6.1 x6.2.1 x6.2.2.1
def laws_toIntS_ps : List PE := [⟨0, 0, .val ty_7 false, false⟩, ⟨1, 16, .val .bool false, false⟩]
noncomputable def laws_toIntS_F (k : Nat) : Fn (List Int × List Int) := ⟨laws_toIntS_C k, rdRes Tryz.prog laws_toIntS_ps [(ty_19, false)] Tryz.f30.results.toList .ret, fun p => bif Nat.beq p 122 then some (.loop laws_toIntS_i122 laws_toIntS_o122 0 80 (laws_toIntS_f122 k k)) else bif Nat.beq p 250 then some (.loop laws_toIntS_i250 laws_toIntS_o250 2 80 (laws_toIntS_f250 k k)) else bif Nat.beq p 6 then some (.cut [⟨0, 32, .val ty_7 false, false⟩] 48) else none, 0, []⟩
theorem laws_toIntS_eq (k : Nat) (x : PTe laws_toIntS_ps) : evFn (laws_toIntS_F k) (codeOf Tryz.f30) laws_toIntS_ps 32 x = laws_toIntS k x.1 x.2.1 := by kernel_rfl
theorem laws_toIntS_ls : loopsOf (codeOf Tryz.f30) 1 = [(122, loopB (codeOf Tryz.f30) 122), (250, loopB (codeOf Tryz.f30) 250)] := by kernel_rfl
theorem laws_toIntS_l122 (k : Nat) : LoopOk (laws_toIntS_F k) (loopB (codeOf Tryz.f30) 122) 122 := LoopOk.mk (pin := laws_toIntS_i122) (pout := laws_toIntS_o122) (ex := 0) (nx := 80) (Lf := laws_toIntS_f122 k) (k := k) (by kernel_rfl) (fun _ => rfl) (by intro n x; kernel_rfl)
theorem laws_toIntS_l250 (k : Nat) : LoopOk (laws_toIntS_F k) (loopB (codeOf Tryz.f30) 250) 250 := LoopOk.mk (pin := laws_toIntS_i250) (pout := laws_toIntS_o250) (ex := 2) (nx := 80) (Lf := laws_toIntS_f250 k) (k := k) (by kernel_rfl) (fun _ => rfl) (by intro n x; kernel_rfl)
theorem laws_toIntS_K (k : Nat) : Contract Tryz.prog 30 (laws_toIntS_V k) :=
  contract (C := laws_toIntS_C k) (F := laws_toIntS_F k) (fn := Tryz.f30) (c := codeOf Tryz.f30) (ps := laws_toIntS_ps) (rs := [(ty_19, false)]) (nx := 32) ⟨tyOf_ok tysR_ok, gOf_ok ⟨laws_roomBehind_K, trivial⟩⟩ rfl (by kernel_rfl) (by kernel_rfl) (by kernel_rfl) (by kernel_rfl) (by kernel_rfl) (by kernel_rfl) rfl (by kernel_rfl) (by kernel_rfl) (AnnOk_list [(122, loopB (codeOf Tryz.f30) 122), (250, loopB (codeOf Tryz.f30) 250)] laws_toIntS_ls ⟨laws_toIntS_l122 k, laws_toIntS_l250 k, trivial⟩) mix_ok (laws_toIntS_eq k)

noncomputable def laws_toBox_V (k : Nat) : Variant := ⟨[.val ty_9 true, .val .bool false], [(ty_21, true)], fun x => laws_toBox k x.1 x.2.1⟩
noncomputable def laws_toBox_C (k : Nat) : Cfg := ⟨Tryz.prog, tyOf tysR, 20, gOf [(30, [], laws_toIntS_V k)], true, [], []⟩
def laws_toBox_ps : List PE := [⟨0, 0, .val ty_9 true, false⟩, ⟨1, 16, .val .bool false, false⟩]
noncomputable def laws_toBox_F (k : Nat) : Fn (Int × (List Int × List Int) × List Int × List Int) := ⟨laws_toBox_C k, rdRes Tryz.prog laws_toBox_ps [(ty_21, true)] Tryz.f23.results.toList .ret, fun p => none, 0, []⟩
theorem laws_toBox_eq (k : Nat) (x : PTe laws_toBox_ps) : evFn (laws_toBox_F k) (codeOf Tryz.f23) laws_toBox_ps 32 x = laws_toBox k x.1 x.2.1 := by kernel_rfl
theorem laws_toBox_K (k : Nat) : Contract Tryz.prog 23 (laws_toBox_V k) :=
  contract (C := laws_toBox_C k) (F := laws_toBox_F k) (fn := Tryz.f23) (c := codeOf Tryz.f23) (ps := laws_toBox_ps) (rs := [(ty_21, true)]) (nx := 32) ⟨tyOf_ok tysR_ok, gOf_ok ⟨laws_toIntS_K k, trivial⟩⟩ rfl (by kernel_rfl) (by kernel_rfl) (by kernel_rfl) (by kernel_rfl) (by kernel_rfl) (by kernel_rfl) rfl (by kernel_rfl) (by kernel_rfl) (AnnOk_list [] (by kernel_rfl) trivial) mix_ok (laws_toBox_eq k)

noncomputable def spec_l1In_V : Variant := ⟨[.val ty_0 false, .val ty_0 false, .val ty_0 false], [(.bool, false)], fun x => spec_l1In x.1 x.2.1 x.2.2.1⟩
noncomputable def spec_l1In_C : Cfg := ⟨Tryz.prog, tyOf tys, 15, gOf [], false, [], []⟩
def spec_l1In_ps : List PE := [⟨0, 0, .val ty_0 false, false⟩, ⟨1, 16, .val ty_0 false, false⟩, ⟨2, 32, .val ty_0 false, false⟩]
noncomputable def spec_l1In_F : Fn (Bool) := ⟨spec_l1In_C, rdRes Tryz.prog spec_l1In_ps [(.bool, false)] Tryz.f86.results.toList .ret, fun p => none, 0, []⟩
theorem spec_l1In_eq (x : PTe spec_l1In_ps) : evFn (spec_l1In_F) (codeOf Tryz.f86) spec_l1In_ps 48 x = spec_l1In x.1 x.2.1 x.2.2.1 := by kernel_rfl
theorem spec_l1In_K : Contract Tryz.prog 86 (spec_l1In_V) :=
  contract (C := spec_l1In_C) (F := spec_l1In_F) (fn := Tryz.f86) (c := codeOf Tryz.f86) (ps := spec_l1In_ps) (rs := [(.bool, false)]) (nx := 48) ⟨tyOf_ok tys_ok, gOf_ok trivial⟩ rfl (by kernel_rfl) (by kernel_rfl) (by kernel_rfl) (by kernel_rfl) (by kernel_rfl) (by kernel_rfl) rfl (by kernel_rfl) (by kernel_rfl) (AnnOk_list [] (by kernel_rfl) trivial) mix_ok (spec_l1In_eq)

noncomputable def spec_poTerm_V : Variant := ⟨[.val ty_3 true], [(.bool, false)], fun x => spec_poTerm x.1⟩
noncomputable def spec_poTerm_C : Cfg := ⟨Tryz.prog, tyOf tys, 32, gOf [(86, [], spec_l1In_V)], false, [], []⟩
def spec_poTerm_ps : List PE := [⟨0, 0, .val ty_3 true, false⟩]
noncomputable def spec_poTerm_F : Fn (Bool) := ⟨spec_poTerm_C, rdRes Tryz.prog spec_poTerm_ps [(.bool, false)] Tryz.f142.results.toList .ret, fun p => none, 0, []⟩
theorem spec_poTerm_eq (x : PTe spec_poTerm_ps) : evFn (spec_poTerm_F) (codeOf Tryz.f142) spec_poTerm_ps 16 x = spec_poTerm x.1 := by kernel_rfl
theorem spec_poTerm_K : Contract Tryz.prog 142 (spec_poTerm_V) :=
  contract (C := spec_poTerm_C) (F := spec_poTerm_F) (fn := Tryz.f142) (c := codeOf Tryz.f142) (ps := spec_poTerm_ps) (rs := [(.bool, false)]) (nx := 16) ⟨tyOf_ok tys_ok, gOf_ok ⟨spec_l1In_K, trivial⟩⟩ rfl (by kernel_rfl) (by kernel_rfl) (by kernel_rfl) (by kernel_rfl) (by kernel_rfl) (by kernel_rfl) rfl (by kernel_rfl) (by kernel_rfl) (AnnOk_list [] (by kernel_rfl) trivial) mix_ok (spec_poTerm_eq)

noncomputable def spec_l1Sign_V : Variant := ⟨[.val ty_0 false], [(ty_0, false)], fun x => spec_l1Sign x.1⟩
noncomputable def spec_l1Sign_C : Cfg := ⟨Tryz.prog, tyOf tys, 9, gOf [], false, [], []⟩
def spec_l1Sign_ps : List PE := [⟨0, 0, .val ty_0 false, false⟩]
noncomputable def spec_l1Sign_F : Fn (Int) := ⟨spec_l1Sign_C, rdRes Tryz.prog spec_l1Sign_ps [(ty_0, false)] Tryz.f163.results.toList .ret, fun p => none, 0, []⟩
theorem spec_l1Sign_eq (x : PTe spec_l1Sign_ps) : evFn (spec_l1Sign_F) (codeOf Tryz.f163) spec_l1Sign_ps 16 x = spec_l1Sign x.1 := by kernel_rfl
theorem spec_l1Sign_K : Contract Tryz.prog 163 (spec_l1Sign_V) :=
  contract (C := spec_l1Sign_C) (F := spec_l1Sign_F) (fn := Tryz.f163) (c := codeOf Tryz.f163) (ps := spec_l1Sign_ps) (rs := [(ty_0, false)]) (nx := 16) ⟨tyOf_ok tys_ok, gOf_ok trivial⟩ rfl (by kernel_rfl) (by kernel_rfl) (by kernel_rfl) (by kernel_rfl) (by kernel_rfl) (by kernel_rfl) rfl (by kernel_rfl) (by kernel_rfl) (AnnOk_list [] (by kernel_rfl) trivial) mix_ok (spec_l1Sign_eq)

noncomputable def spec_poOrder_V : Variant := ⟨[.val ty_3 true, .val ty_3 true], [(ty_0, false)], fun x => spec_poOrder x.1 x.2.1⟩
noncomputable def spec_poOrder_C : Cfg := ⟨Tryz.prog, tyOf tys, 35, gOf [(163, [], spec_l1Sign_V)], false, [], []⟩
def spec_poOrder_ps : List PE := [⟨0, 0, .val ty_3 true, false⟩, ⟨1, 16, .val ty_3 true, false⟩]
noncomputable def spec_poOrder_F : Fn (Int) := ⟨spec_poOrder_C, rdRes Tryz.prog spec_poOrder_ps [(ty_0, false)] Tryz.f143.results.toList .ret, fun p => none, 0, []⟩
theorem spec_poOrder_eq (x : PTe spec_poOrder_ps) : evFn (spec_poOrder_F) (codeOf Tryz.f143) spec_poOrder_ps 32 x = spec_poOrder x.1 x.2.1 := by kernel_rfl
theorem spec_poOrder_K : Contract Tryz.prog 143 (spec_poOrder_V) :=
  contract (C := spec_poOrder_C) (F := spec_poOrder_F) (fn := Tryz.f143) (c := codeOf Tryz.f143) (ps := spec_poOrder_ps) (rs := [(ty_0, false)]) (nx := 32) ⟨tyOf_ok tys_ok, gOf_ok ⟨spec_l1Sign_K, trivial⟩⟩ rfl (by kernel_rfl) (by kernel_rfl) (by kernel_rfl) (by kernel_rfl) (by kernel_rfl) (by kernel_rfl) rfl (by kernel_rfl) (by kernel_rfl) (AnnOk_list [] (by kernel_rfl) trivial) mix_ok (spec_poOrder_eq)

noncomputable def spec_poGood_V (k : Nat) : Variant := ⟨[.val ty_4 false], [(.bool, false)], fun x => spec_poGood k x.1⟩
noncomputable def spec_poGood_C (k : Nat) : Cfg := ⟨Tryz.prog, tyOf tys, 38, gOf [(142, [], spec_poTerm_V), (143, [], spec_poOrder_V)], false, [], []⟩
def spec_poGood_i26 : List PE := [⟨0, 16, .val ty_4 false, false⟩, ⟨5, 32, .val ty_4 false, false⟩, ⟨6, 48, .val ty_0 false, false⟩, ⟨7, 64, .val ty_0 false, false⟩]
def spec_poGood_o26 : List PE := [⟨0, 16, .val ty_4 false, false⟩]
noncomputable def spec_poGood_f26 (k : Nat) (n : Nat) (x3 : PTe spec_poGood_i26) : Option ((Bool) ⊕ PTe spec_poGood_o26) := spec_poGood_L26 k n x3.1 x3.2.1 x3.2.2.1 x3.2.2.2.1
def spec_poGood_ps : List PE := [⟨0, 0, .val ty_4 false, false⟩]
noncomputable def spec_poGood_F (k : Nat) : Fn (Bool) := ⟨spec_poGood_C k, rdRes Tryz.prog spec_poGood_ps [(.bool, false)] Tryz.f108.results.toList .ret, fun p => bif Nat.beq p 26 then some (.loop spec_poGood_i26 spec_poGood_o26 0 80 (spec_poGood_f26 k k)) else none, 0, []⟩
theorem spec_poGood_eq (k : Nat) (x : PTe spec_poGood_ps) : evFn (spec_poGood_F k) (codeOf Tryz.f108) spec_poGood_ps 16 x = spec_poGood k x.1 := by kernel_rfl
theorem spec_poGood_ls : loopsOf (codeOf Tryz.f108) 1 = [(26, loopB (codeOf Tryz.f108) 26)] := by kernel_rfl
theorem spec_poGood_l26 (k : Nat) : LoopOk (spec_poGood_F k) (loopB (codeOf Tryz.f108) 26) 26 := LoopOk.mk (pin := spec_poGood_i26) (pout := spec_poGood_o26) (ex := 0) (nx := 80) (Lf := spec_poGood_f26 k) (k := k) (by kernel_rfl) (fun _ => rfl) (by intro n x; kernel_rfl)
theorem spec_poGood_K (k : Nat) : Contract Tryz.prog 108 (spec_poGood_V k) :=
  contract (C := spec_poGood_C k) (F := spec_poGood_F k) (fn := Tryz.f108) (c := codeOf Tryz.f108) (ps := spec_poGood_ps) (rs := [(.bool, false)]) (nx := 16) ⟨tyOf_ok tys_ok, gOf_ok ⟨spec_poTerm_K, spec_poOrder_K, trivial⟩⟩ rfl (by kernel_rfl) (by kernel_rfl) (by kernel_rfl) (by kernel_rfl) (by kernel_rfl) (by kernel_rfl) rfl (by kernel_rfl) (by kernel_rfl) (AnnOk_list [(26, loopB (codeOf Tryz.f108) 26)] spec_poGood_ls ⟨spec_poGood_l26 k, trivial⟩) mix_ok (spec_poGood_eq k)

noncomputable def spec_poPower_V : Variant := ⟨[.val ty_3 true, .val ty_0 false], [(ty_0, false)], fun x => spec_poPower x.1 x.2.1⟩
noncomputable def spec_poPower_C : Cfg := ⟨Tryz.prog, tyOf tys, 16, gOf [], false, [], []⟩
def spec_poPower_ps : List PE := [⟨0, 0, .val ty_3 true, false⟩, ⟨1, 16, .val ty_0 false, false⟩]
noncomputable def spec_poPower_F : Fn (Int) := ⟨spec_poPower_C, rdRes Tryz.prog spec_poPower_ps [(ty_0, false)] Tryz.f145.results.toList .ret, fun p => none, 0, []⟩
theorem spec_poPower_eq (x : PTe spec_poPower_ps) : evFn (spec_poPower_F) (codeOf Tryz.f145) spec_poPower_ps 32 x = spec_poPower x.1 x.2.1 := by kernel_rfl
theorem spec_poPower_K : Contract Tryz.prog 145 (spec_poPower_V) :=
  contract (C := spec_poPower_C) (F := spec_poPower_F) (fn := Tryz.f145) (c := codeOf Tryz.f145) (ps := spec_poPower_ps) (rs := [(ty_0, false)]) (nx := 32) ⟨tyOf_ok tys_ok, gOf_ok trivial⟩ rfl (by kernel_rfl) (by kernel_rfl) (by kernel_rfl) (by kernel_rfl) (by kernel_rfl) (by kernel_rfl) rfl (by kernel_rfl) (by kernel_rfl) (AnnOk_list [] (by kernel_rfl) trivial) mix_ok (spec_poPower_eq)

noncomputable def spec_l1Most_V : Variant := ⟨[.val ty_0 false, .val ty_0 false], [(ty_0, false)], fun x => spec_l1Most x.1 x.2.1⟩
noncomputable def spec_l1Most_C : Cfg := ⟨Tryz.prog, tyOf tys, 10, gOf [], false, [], []⟩
def spec_l1Most_ps : List PE := [⟨0, 0, .val ty_0 false, false⟩, ⟨1, 16, .val ty_0 false, false⟩]
noncomputable def spec_l1Most_F : Fn (Int) := ⟨spec_l1Most_C, rdRes Tryz.prog spec_l1Most_ps [(ty_0, false)] Tryz.f144.results.toList .ret, fun p => none, 0, []⟩
theorem spec_l1Most_eq (x : PTe spec_l1Most_ps) : evFn (spec_l1Most_F) (codeOf Tryz.f144) spec_l1Most_ps 32 x = spec_l1Most x.1 x.2.1 := by kernel_rfl
theorem spec_l1Most_K : Contract Tryz.prog 144 (spec_l1Most_V) :=
  contract (C := spec_l1Most_C) (F := spec_l1Most_F) (fn := Tryz.f144) (c := codeOf Tryz.f144) (ps := spec_l1Most_ps) (rs := [(ty_0, false)]) (nx := 32) ⟨tyOf_ok tys_ok, gOf_ok trivial⟩ rfl (by kernel_rfl) (by kernel_rfl) (by kernel_rfl) (by kernel_rfl) (by kernel_rfl) (by kernel_rfl) rfl (by kernel_rfl) (by kernel_rfl) (AnnOk_list [] (by kernel_rfl) trivial) mix_ok (spec_l1Most_eq)

noncomputable def spec_poDegreeIn_V (k : Nat) : Variant := ⟨[.val ty_4 false, .val ty_0 false], [(ty_0, false)], fun x => spec_poDegreeIn k x.1 x.2.1⟩
noncomputable def spec_poDegreeIn_C (k : Nat) : Cfg := ⟨Tryz.prog, tyOf tys, 21, gOf [(145, [], spec_poPower_V), (144, [], spec_l1Most_V)], false, [], []⟩
def spec_poDegreeIn_i58 : List PE := [⟨1, 32, .val ty_0 false, false⟩, ⟨5, 48, .val ty_0 false, false⟩, ⟨8, 64, .val ty_4 false, false⟩, ⟨9, 80, .val ty_0 false, false⟩, ⟨10, 96, .val ty_0 false, false⟩]
def spec_poDegreeIn_o58 : List PE := [⟨5, 32, .val ty_0 false, false⟩]
noncomputable def spec_poDegreeIn_f58 (k : Nat) (n : Nat) (x3 : PTe spec_poDegreeIn_i58) : Option ((Int) ⊕ PTe spec_poDegreeIn_o58) := spec_poDegreeIn_L58 k n x3.1 x3.2.1 x3.2.2.1 x3.2.2.2.1 x3.2.2.2.2.1
def spec_poDegreeIn_ps : List PE := [⟨0, 0, .val ty_4 false, false⟩, ⟨1, 16, .val ty_0 false, false⟩]
noncomputable def spec_poDegreeIn_F (k : Nat) : Fn (Int) := ⟨spec_poDegreeIn_C k, rdRes Tryz.prog spec_poDegreeIn_ps [(ty_0, false)] Tryz.f109.results.toList .ret, fun p => bif Nat.beq p 58 then some (.loop spec_poDegreeIn_i58 spec_poDegreeIn_o58 0 112 (spec_poDegreeIn_f58 k k)) else none, 0, []⟩
theorem spec_poDegreeIn_eq (k : Nat) (x : PTe spec_poDegreeIn_ps) : evFn (spec_poDegreeIn_F k) (codeOf Tryz.f109) spec_poDegreeIn_ps 32 x = spec_poDegreeIn k x.1 x.2.1 := by kernel_rfl
theorem spec_poDegreeIn_ls : loopsOf (codeOf Tryz.f109) 1 = [(58, loopB (codeOf Tryz.f109) 58)] := by kernel_rfl
theorem spec_poDegreeIn_l58 (k : Nat) : LoopOk (spec_poDegreeIn_F k) (loopB (codeOf Tryz.f109) 58) 58 := LoopOk.mk (pin := spec_poDegreeIn_i58) (pout := spec_poDegreeIn_o58) (ex := 0) (nx := 112) (Lf := spec_poDegreeIn_f58 k) (k := k) (by kernel_rfl) (fun _ => rfl) (by intro n x; kernel_rfl)
theorem spec_poDegreeIn_K (k : Nat) : Contract Tryz.prog 109 (spec_poDegreeIn_V k) :=
  contract (C := spec_poDegreeIn_C k) (F := spec_poDegreeIn_F k) (fn := Tryz.f109) (c := codeOf Tryz.f109) (ps := spec_poDegreeIn_ps) (rs := [(ty_0, false)]) (nx := 32) ⟨tyOf_ok tys_ok, gOf_ok ⟨spec_poPower_K, spec_l1Most_K, trivial⟩⟩ rfl (by kernel_rfl) (by kernel_rfl) (by kernel_rfl) (by kernel_rfl) (by kernel_rfl) (by kernel_rfl) rfl (by kernel_rfl) (by kernel_rfl) (AnnOk_list [(58, loopB (codeOf Tryz.f109) 58)] spec_poDegreeIn_ls ⟨spec_poDegreeIn_l58 k, trivial⟩) mix_ok (spec_poDegreeIn_eq k)

noncomputable def spec_poSystem_V (k : Nat) : Variant := ⟨[.val ty_5 false], [(.bool, false)], fun x => spec_poSystem k x.1⟩
noncomputable def spec_poSystem_C (k : Nat) : Cfg := ⟨Tryz.prog, tyOf tys, 29, gOf [(108, [], spec_poGood_V k), (109, [], spec_poDegreeIn_V k), (86, [], spec_l1In_V)], false, [], []⟩
def spec_poSystem_i13518 : List PE := [⟨0, 16, .val ty_5 false, false⟩, ⟨4, 32, .val ty_4 false, false⟩, ⟨5, 48, .val ty_0 false, false⟩, ⟨6, 64, .val ty_5 false, false⟩, ⟨7, 80, .val ty_0 false, false⟩, ⟨8, 96, .val ty_0 false, false⟩]
def spec_poSystem_o13518 : List PE := [⟨0, 16, .val ty_5 false, false⟩, ⟨6, 32, .val ty_5 false, false⟩, ⟨7, 48, .val ty_0 false, false⟩, ⟨8, 64, .val ty_0 false, false⟩]
noncomputable def spec_poSystem_f13518 (k : Nat) (n : Nat) (x3 : PTe spec_poSystem_i13518) : Option ((Bool) ⊕ PTe spec_poSystem_o13518) := spec_poSystem_L13518 k n x3.1 x3.2.1 x3.2.2.1 x3.2.2.2.1 x3.2.2.2.2.1 x3.2.2.2.2.2.1
def spec_poSystem_i26 : List PE := [⟨0, 16, .val ty_5 false, false⟩, ⟨6, 32, .val ty_5 false, false⟩, ⟨7, 48, .val ty_0 false, false⟩, ⟨8, 64, .val ty_0 false, false⟩]
def spec_poSystem_o26 : List PE := [⟨0, 16, .val ty_5 false, false⟩]
noncomputable def spec_poSystem_f26 (k : Nat) (n : Nat) (x6 : PTe spec_poSystem_i26) : Option ((Bool) ⊕ PTe spec_poSystem_o26) := spec_poSystem_L26 k n x6.1 x6.2.1 x6.2.2.1 x6.2.2.2.1
def spec_poSystem_ps : List PE := [⟨0, 0, .val ty_5 false, false⟩]
noncomputable def spec_poSystem_F (k : Nat) : Fn (Bool) := ⟨spec_poSystem_C k, rdRes Tryz.prog spec_poSystem_ps [(.bool, false)] Tryz.f55.results.toList .ret, fun p => bif Nat.beq p 13518 then some (.loop spec_poSystem_i13518 spec_poSystem_o13518 2 112 (spec_poSystem_f13518 k k)) else bif Nat.beq p 26 then some (.loop spec_poSystem_i26 spec_poSystem_o26 0 80 (spec_poSystem_f26 k k)) else none, 0, []⟩
theorem spec_poSystem_eq (k : Nat) (x : PTe spec_poSystem_ps) : evFn (spec_poSystem_F k) (codeOf Tryz.f55) spec_poSystem_ps 16 x = spec_poSystem k x.1 := by kernel_rfl
theorem spec_poSystem_ls : loopsOf (codeOf Tryz.f55) 1 = [(26, loopB (codeOf Tryz.f55) 26), (13518, loopB (codeOf Tryz.f55) 13518)] := by kernel_rfl
theorem spec_poSystem_l13518 (k : Nat) : LoopOk (spec_poSystem_F k) (loopB (codeOf Tryz.f55) 13518) 13518 := LoopOk.mk (pin := spec_poSystem_i13518) (pout := spec_poSystem_o13518) (ex := 2) (nx := 112) (Lf := spec_poSystem_f13518 k) (k := k) (by kernel_rfl) (fun _ => rfl) (by intro n x; kernel_rfl)
theorem spec_poSystem_l26 (k : Nat) : LoopOk (spec_poSystem_F k) (loopB (codeOf Tryz.f55) 26) 26 := LoopOk.mk (pin := spec_poSystem_i26) (pout := spec_poSystem_o26) (ex := 0) (nx := 80) (Lf := spec_poSystem_f26 k) (k := k) (by kernel_rfl) (fun _ => rfl) (by intro n x; kernel_rfl)
theorem spec_poSystem_K (k : Nat) : Contract Tryz.prog 55 (spec_poSystem_V k) :=
  contract (C := spec_poSystem_C k) (F := spec_poSystem_F k) (fn := Tryz.f55) (c := codeOf Tryz.f55) (ps := spec_poSystem_ps) (rs := [(.bool, false)]) (nx := 16) ⟨tyOf_ok tys_ok, gOf_ok ⟨spec_poGood_K k, spec_poDegreeIn_K k, spec_l1In_K, trivial⟩⟩ rfl (by kernel_rfl) (by kernel_rfl) (by kernel_rfl) (by kernel_rfl) (by kernel_rfl) (by kernel_rfl) rfl (by kernel_rfl) (by kernel_rfl) (AnnOk_list [(26, loopB (codeOf Tryz.f55) 26), (13518, loopB (codeOf Tryz.f55) 13518)] spec_poSystem_ls ⟨spec_poSystem_l26 k, spec_poSystem_l13518 k, trivial⟩) mix_ok (spec_poSystem_eq k)

noncomputable def spec_dyPower_V : Variant := ⟨[.val ty_0 false], [(ty_0, false)], fun x => spec_dyPower x.1⟩
noncomputable def spec_dyPower_C : Cfg := ⟨Tryz.prog, tyOf tys, 6, gOf [], false, [], []⟩
def spec_dyPower_ps : List PE := [⟨0, 0, .val ty_0 false, false⟩]
noncomputable def spec_dyPower_F : Fn (Int) := ⟨spec_dyPower_C, rdRes Tryz.prog spec_dyPower_ps [(ty_0, false)] Tryz.f71.results.toList .ret, fun p => none, 0, []⟩
theorem spec_dyPower_eq (x : PTe spec_dyPower_ps) : evFn (spec_dyPower_F) (codeOf Tryz.f71) spec_dyPower_ps 16 x = spec_dyPower x.1 := by kernel_rfl
theorem spec_dyPower_K : Contract Tryz.prog 71 (spec_dyPower_V) :=
  contract (C := spec_dyPower_C) (F := spec_dyPower_F) (fn := Tryz.f71) (c := codeOf Tryz.f71) (ps := spec_dyPower_ps) (rs := [(ty_0, false)]) (nx := 16) ⟨tyOf_ok tys_ok, gOf_ok trivial⟩ rfl (by kernel_rfl) (by kernel_rfl) (by kernel_rfl) (by kernel_rfl) (by kernel_rfl) (by kernel_rfl) rfl (by kernel_rfl) (by kernel_rfl) (AnnOk_list [] (by kernel_rfl) trivial) mix_ok (spec_dyPower_eq)

noncomputable def spec_bxGood_V (k : Nat) : Variant := ⟨[.val ty_9 true], [(.bool, false)], fun x => spec_bxGood k x.1⟩
noncomputable def spec_bxGood_C (k : Nat) : Cfg := ⟨Tryz.prog, tyOf tys, 80, gOf [(86, [], spec_l1In_V), (71, [], spec_dyPower_V)], false, [], []⟩
def spec_bxGood_i250 : List PE := [⟨1, 16, .box ty_9 false, false⟩, ⟨3, 32, .val ty_0 false, false⟩, ⟨4, 48, .val .bool false, false⟩, ⟨36, 64, .val ty_7 false, false⟩, ⟨37, 80, .val ty_0 false, false⟩, ⟨38, 96, .val ty_0 false, false⟩]
def spec_bxGood_o250 : List PE := [⟨4, 16, .val .bool false, false⟩]
noncomputable def spec_bxGood_f250 (k : Nat) (n : Nat) (x6 : PTe spec_bxGood_i250) : Option ((Bool) ⊕ PTe spec_bxGood_o250) := spec_bxGood_L250 k n x6.1 x6.2.1 x6.2.2.1 x6.2.2.2.1 x6.2.2.2.2.1 x6.2.2.2.2.2.1
def spec_bxGood_ps : List PE := [⟨0, 0, .val ty_9 true, false⟩]
noncomputable def spec_bxGood_F (k : Nat) : Fn (Bool) := ⟨spec_bxGood_C k, rdRes Tryz.prog spec_bxGood_ps [(.bool, false)] Tryz.f170.results.toList .ret, fun p => bif Nat.beq p 250 then some (.loop spec_bxGood_i250 spec_bxGood_o250 0 112 (spec_bxGood_f250 k k)) else none, 0, []⟩
theorem spec_bxGood_eq (k : Nat) (x : PTe spec_bxGood_ps) : evFn (spec_bxGood_F k) (codeOf Tryz.f170) spec_bxGood_ps 16 x = spec_bxGood k x.1 := by kernel_rfl
theorem spec_bxGood_ls : loopsOf (codeOf Tryz.f170) 1 = [(250, loopB (codeOf Tryz.f170) 250)] := by kernel_rfl
theorem spec_bxGood_l250 (k : Nat) : LoopOk (spec_bxGood_F k) (loopB (codeOf Tryz.f170) 250) 250 := LoopOk.mk (pin := spec_bxGood_i250) (pout := spec_bxGood_o250) (ex := 0) (nx := 112) (Lf := spec_bxGood_f250 k) (k := k) (by kernel_rfl) (fun _ => rfl) (by intro n x; kernel_rfl)
theorem spec_bxGood_K (k : Nat) : Contract Tryz.prog 170 (spec_bxGood_V k) :=
  contract (C := spec_bxGood_C k) (F := spec_bxGood_F k) (fn := Tryz.f170) (c := codeOf Tryz.f170) (ps := spec_bxGood_ps) (rs := [(.bool, false)]) (nx := 16) ⟨tyOf_ok tys_ok, gOf_ok ⟨spec_l1In_K, spec_dyPower_K, trivial⟩⟩ rfl (by kernel_rfl) (by kernel_rfl) (by kernel_rfl) (by kernel_rfl) (by kernel_rfl) (by kernel_rfl) rfl (by kernel_rfl) (by kernel_rfl) (AnnOk_list [(250, loopB (codeOf Tryz.f170) 250)] spec_bxGood_ls ⟨spec_bxGood_l250 k, trivial⟩) mix_ok (spec_bxGood_eq k)

noncomputable def spec_imBox_V (k : Nat) : Variant := ⟨[.val ty_9 true], [(.bool, false)], fun x => spec_imBox k x.1⟩
noncomputable def spec_imBox_C (k : Nat) : Cfg := ⟨Tryz.prog, tyOf tys, 16, gOf [(170, [], spec_bxGood_V k)], false, [], []⟩
def spec_imBox_ps : List PE := [⟨0, 0, .val ty_9 true, false⟩]
noncomputable def spec_imBox_F (k : Nat) : Fn (Bool) := ⟨spec_imBox_C k, rdRes Tryz.prog spec_imBox_ps [(.bool, false)] Tryz.f133.results.toList .ret, fun p => none, 0, []⟩
theorem spec_imBox_eq (k : Nat) (x : PTe spec_imBox_ps) : evFn (spec_imBox_F k) (codeOf Tryz.f133) spec_imBox_ps 16 x = spec_imBox k x.1 := by kernel_rfl
theorem spec_imBox_K (k : Nat) : Contract Tryz.prog 133 (spec_imBox_V k) :=
  contract (C := spec_imBox_C k) (F := spec_imBox_F k) (fn := Tryz.f133) (c := codeOf Tryz.f133) (ps := spec_imBox_ps) (rs := [(.bool, false)]) (nx := 16) ⟨tyOf_ok tys_ok, gOf_ok ⟨spec_bxGood_K k, trivial⟩⟩ rfl (by kernel_rfl) (by kernel_rfl) (by kernel_rfl) (by kernel_rfl) (by kernel_rfl) (by kernel_rfl) rfl (by kernel_rfl) (by kernel_rfl) (AnnOk_list [] (by kernel_rfl) trivial) mix_ok (spec_imBox_eq k)

noncomputable def spec_imGood_V (k : Nat) : Variant := ⟨[.val ty_5 false, .val ty_9 true], [(.bool, false)], fun x => spec_imGood k x.1 x.2.1⟩
noncomputable def spec_imGood_C (k : Nat) : Cfg := ⟨Tryz.prog, tyOf tys, 16, gOf [(55, [], spec_poSystem_V k), (133, [], spec_imBox_V k)], false, [], []⟩
def spec_imGood_ps : List PE := [⟨0, 0, .val ty_5 false, false⟩, ⟨1, 16, .val ty_9 true, false⟩]
noncomputable def spec_imGood_F (k : Nat) : Fn (Bool) := ⟨spec_imGood_C k, rdRes Tryz.prog spec_imGood_ps [(.bool, false)] Tryz.f91.results.toList .ret, fun p => none, 0, []⟩
theorem spec_imGood_eq (k : Nat) (x : PTe spec_imGood_ps) : evFn (spec_imGood_F k) (codeOf Tryz.f91) spec_imGood_ps 32 x = spec_imGood k x.1 x.2.1 := by kernel_rfl
theorem spec_imGood_K (k : Nat) : Contract Tryz.prog 91 (spec_imGood_V k) :=
  contract (C := spec_imGood_C k) (F := spec_imGood_F k) (fn := Tryz.f91) (c := codeOf Tryz.f91) (ps := spec_imGood_ps) (rs := [(.bool, false)]) (nx := 32) ⟨tyOf_ok tys_ok, gOf_ok ⟨spec_poSystem_K k, spec_imBox_K k, trivial⟩⟩ rfl (by kernel_rfl) (by kernel_rfl) (by kernel_rfl) (by kernel_rfl) (by kernel_rfl) (by kernel_rfl) rfl (by kernel_rfl) (by kernel_rfl) (AnnOk_list [] (by kernel_rfl) trivial) mix_ok (spec_imGood_eq k)

noncomputable def spec_dyGood_V : Variant := ⟨[.val ty_1 true], [(.bool, false)], fun x => spec_dyGood x.1⟩
noncomputable def spec_dyGood_C : Cfg := ⟨Tryz.prog, tyOf tys, 22, gOf [(86, [], spec_l1In_V)], false, [], []⟩
def spec_dyGood_ps : List PE := [⟨0, 0, .val ty_1 true, false⟩]
noncomputable def spec_dyGood_F : Fn (Bool) := ⟨spec_dyGood_C, rdRes Tryz.prog spec_dyGood_ps [(.bool, false)] Tryz.f146.results.toList .ret, fun p => none, 0, []⟩
theorem spec_dyGood_eq (x : PTe spec_dyGood_ps) : evFn (spec_dyGood_F) (codeOf Tryz.f146) spec_dyGood_ps 16 x = spec_dyGood x.1 := by kernel_rfl
theorem spec_dyGood_K : Contract Tryz.prog 146 (spec_dyGood_V) :=
  contract (C := spec_dyGood_C) (F := spec_dyGood_F) (fn := Tryz.f146) (c := codeOf Tryz.f146) (ps := spec_dyGood_ps) (rs := [(.bool, false)]) (nx := 16) ⟨tyOf_ok tys_ok, gOf_ok ⟨spec_l1In_K, trivial⟩⟩ rfl (by kernel_rfl) (by kernel_rfl) (by kernel_rfl) (by kernel_rfl) (by kernel_rfl) (by kernel_rfl) rfl (by kernel_rfl) (by kernel_rfl) (AnnOk_list [] (by kernel_rfl) trivial) mix_ok (spec_dyGood_eq)

noncomputable def spec_dyMake_V (k : Nat) : Variant := ⟨[.val ty_0 false, .val ty_0 false], [(ty_1, true), (.bool, false)], fun x => spec_dyMake k x.1 x.2.1⟩
noncomputable def spec_dyMake_C (k : Nat) : Cfg := ⟨Tryz.prog, tyOf tys, 32, gOf [(146, [], spec_dyGood_V)], false, [], []⟩
def spec_dyMake_i28 : List PE := [⟨0, 32, .val ty_0 false, false⟩, ⟨1, 48, .val ty_0 false, false⟩, ⟨4, 64, .box ty_1 false, false⟩]
def spec_dyMake_o28 : List PE := [⟨0, 32, .val ty_0 false, false⟩, ⟨1, 48, .val ty_0 false, false⟩, ⟨4, 64, .box ty_1 false, false⟩]
noncomputable def spec_dyMake_f28 (k : Nat) (n : Nat) (x2 : PTe spec_dyMake_i28) : Option (((Int × Int) × Bool) ⊕ PTe spec_dyMake_o28) := spec_dyMake_L28 k n x2.1 x2.2.1 x2.2.2.1
def spec_dyMake_ps : List PE := [⟨0, 0, .val ty_0 false, false⟩, ⟨1, 16, .val ty_0 false, false⟩]
noncomputable def spec_dyMake_F (k : Nat) : Fn ((Int × Int) × Bool) := ⟨spec_dyMake_C k, rdRes Tryz.prog spec_dyMake_ps [(ty_1, true), (.bool, false)] Tryz.f158.results.toList .ret, fun p => bif Nat.beq p 28 then some (.loop spec_dyMake_i28 spec_dyMake_o28 0 80 (spec_dyMake_f28 k k)) else bif Nat.beq p 6 then some (.cut [⟨0, 32, .val ty_0 false, false⟩, ⟨1, 48, .val ty_0 false, false⟩, ⟨4, 64, .box ty_1 false, false⟩] 80) else none, 0, []⟩
theorem spec_dyMake_eq (k : Nat) (x : PTe spec_dyMake_ps) : evFn (spec_dyMake_F k) (codeOf Tryz.f158) spec_dyMake_ps 32 x = spec_dyMake k x.1 x.2.1 := by kernel_rfl
theorem spec_dyMake_ls : loopsOf (codeOf Tryz.f158) 1 = [(28, loopB (codeOf Tryz.f158) 28)] := by kernel_rfl
theorem spec_dyMake_l28 (k : Nat) : LoopOk (spec_dyMake_F k) (loopB (codeOf Tryz.f158) 28) 28 := LoopOk.mk (pin := spec_dyMake_i28) (pout := spec_dyMake_o28) (ex := 0) (nx := 80) (Lf := spec_dyMake_f28 k) (k := k) (by kernel_rfl) (fun _ => rfl) (by intro n x; kernel_rfl)
theorem spec_dyMake_K (k : Nat) : Contract Tryz.prog 158 (spec_dyMake_V k) :=
  contract (C := spec_dyMake_C k) (F := spec_dyMake_F k) (fn := Tryz.f158) (c := codeOf Tryz.f158) (ps := spec_dyMake_ps) (rs := [(ty_1, true), (.bool, false)]) (nx := 32) ⟨tyOf_ok tys_ok, gOf_ok ⟨spec_dyGood_K, trivial⟩⟩ rfl (by kernel_rfl) (by kernel_rfl) (by kernel_rfl) (by kernel_rfl) (by kernel_rfl) (by kernel_rfl) rfl (by kernel_rfl) (by kernel_rfl) (AnnOk_list [(28, loopB (codeOf Tryz.f158) 28)] spec_dyMake_ls ⟨spec_dyMake_l28 k, trivial⟩) mix_ok (spec_dyMake_eq k)

noncomputable def spec_bxNumber_V (k : Nat) : Variant := ⟨[.val ty_0 false, .val ty_0 false], [(ty_1, true)], fun x => spec_bxNumber k x.1 x.2.1⟩
noncomputable def spec_bxNumber_C (k : Nat) : Cfg := ⟨Tryz.prog, tyOf tys, 14, gOf [(158, [], spec_dyMake_V k)], false, [], []⟩
def spec_bxNumber_ps : List PE := [⟨0, 0, .val ty_0 false, false⟩, ⟨1, 16, .val ty_0 false, false⟩]
noncomputable def spec_bxNumber_F (k : Nat) : Fn (Int × Int) := ⟨spec_bxNumber_C k, rdRes Tryz.prog spec_bxNumber_ps [(ty_1, true)] Tryz.f126.results.toList .ret, fun p => none, 0, []⟩
theorem spec_bxNumber_eq (k : Nat) (x : PTe spec_bxNumber_ps) : evFn (spec_bxNumber_F k) (codeOf Tryz.f126) spec_bxNumber_ps 32 x = spec_bxNumber k x.1 x.2.1 := by kernel_rfl
theorem spec_bxNumber_K (k : Nat) : Contract Tryz.prog 126 (spec_bxNumber_V k) :=
  contract (C := spec_bxNumber_C k) (F := spec_bxNumber_F k) (fn := Tryz.f126) (c := codeOf Tryz.f126) (ps := spec_bxNumber_ps) (rs := [(ty_1, true)]) (nx := 32) ⟨tyOf_ok tys_ok, gOf_ok ⟨spec_dyMake_K k, trivial⟩⟩ rfl (by kernel_rfl) (by kernel_rfl) (by kernel_rfl) (by kernel_rfl) (by kernel_rfl) (by kernel_rfl) rfl (by kernel_rfl) (by kernel_rfl) (AnnOk_list [] (by kernel_rfl) trivial) mix_ok (spec_bxNumber_eq k)

noncomputable def spec_imWay_V (k : Nat) : Variant := ⟨[.val ty_0 false, .val ty_1 true, .val ty_0 false, .val ty_0 false, .val ty_0 false, .val ty_0 false], [(ty_22, false)], fun x => spec_imWay k x.1 x.2.1 x.2.2.1 x.2.2.2.1 x.2.2.2.2.1 x.2.2.2.2.2.1⟩
noncomputable def spec_imWay_C (k : Nat) : Cfg := ⟨Tryz.prog, tyOf tys, 61, gOf [(71, [], spec_dyPower_V), (126, [], spec_bxNumber_V k)], false, [], []⟩
def spec_imWay_i122 : List PE := [⟨0, 96, .val ty_0 false, false⟩, ⟨2, 112, .val ty_0 false, false⟩, ⟨3, 128, .val ty_0 false, false⟩, ⟨4, 144, .val ty_0 false, false⟩, ⟨5, 160, .val ty_0 false, false⟩, ⟨7, 176, .box ty_1 false, false⟩, ⟨13, 192, .eat ty_12, false⟩, ⟨14, 208, .val ty_0 false, false⟩, ⟨15, 224, .val ty_0 false, false⟩]
def spec_imWay_o122 : List PE := [⟨13, 96, .eat ty_12, false⟩]
noncomputable def spec_imWay_f122 (k : Nat) (n : Nat) (x4 : PTe spec_imWay_i122) : Option ((List (Int × (Int × Int) × (Int × Int) × Int × Int)) ⊕ PTe spec_imWay_o122) := spec_imWay_L122 k n x4.1 x4.2.1 x4.2.2.1 x4.2.2.2.1 x4.2.2.2.2.1 x4.2.2.2.2.2.1 x4.2.2.2.2.2.2.1 x4.2.2.2.2.2.2.2.1 x4.2.2.2.2.2.2.2.2.1
def spec_imWay_ps : List PE := [⟨0, 0, .val ty_0 false, false⟩, ⟨1, 16, .val ty_1 true, false⟩, ⟨2, 32, .val ty_0 false, false⟩, ⟨3, 48, .val ty_0 false, false⟩, ⟨4, 64, .val ty_0 false, false⟩, ⟨5, 80, .val ty_0 false, false⟩]
noncomputable def spec_imWay_F (k : Nat) : Fn (List (Int × (Int × Int) × (Int × Int) × Int × Int)) := ⟨spec_imWay_C k, rdRes Tryz.prog spec_imWay_ps [(ty_22, false)] Tryz.f134.results.toList .ret, fun p => bif Nat.beq p 122 then some (.loop spec_imWay_i122 spec_imWay_o122 0 240 (spec_imWay_f122 k k)) else none, 0, []⟩
theorem spec_imWay_eq (k : Nat) (x : PTe spec_imWay_ps) : evFn (spec_imWay_F k) (codeOf Tryz.f134) spec_imWay_ps 96 x = spec_imWay k x.1 x.2.1 x.2.2.1 x.2.2.2.1 x.2.2.2.2.1 x.2.2.2.2.2.1 := by kernel_rfl
theorem spec_imWay_ls : loopsOf (codeOf Tryz.f134) 1 = [(122, loopB (codeOf Tryz.f134) 122)] := by kernel_rfl
theorem spec_imWay_l122 (k : Nat) : LoopOk (spec_imWay_F k) (loopB (codeOf Tryz.f134) 122) 122 := LoopOk.mk (pin := spec_imWay_i122) (pout := spec_imWay_o122) (ex := 0) (nx := 240) (Lf := spec_imWay_f122 k) (k := k) (by kernel_rfl) (fun _ => rfl) (by intro n x; kernel_rfl)
theorem spec_imWay_K (k : Nat) : Contract Tryz.prog 134 (spec_imWay_V k) :=
  contract (C := spec_imWay_C k) (F := spec_imWay_F k) (fn := Tryz.f134) (c := codeOf Tryz.f134) (ps := spec_imWay_ps) (rs := [(ty_22, false)]) (nx := 96) ⟨tyOf_ok tys_ok, gOf_ok ⟨spec_dyPower_K, spec_bxNumber_K k, trivial⟩⟩ rfl (by kernel_rfl) (by kernel_rfl) (by kernel_rfl) (by kernel_rfl) (by kernel_rfl) (by kernel_rfl) rfl (by kernel_rfl) (by kernel_rfl) (AnnOk_list [(122, loopB (codeOf Tryz.f134) 122)] spec_imWay_ls ⟨spec_imWay_l122 k, trivial⟩) mix_ok (spec_imWay_eq k)

noncomputable def spec_imEdges_V (k : Nat) : Variant := ⟨[.val ty_9 true, .val ty_0 false], [(ty_22, false)], fun x => spec_imEdges k x.1 x.2.1⟩
noncomputable def spec_imEdges_C (k : Nat) : Cfg := ⟨Tryz.prog, tyOf tys, 72, gOf [(126, [], spec_bxNumber_V k), (134, [], spec_imWay_V k)], false, [], []⟩
def spec_imEdges_ps : List PE := [⟨0, 0, .val ty_9 true, false⟩, ⟨1, 16, .val ty_0 false, false⟩]
noncomputable def spec_imEdges_F (k : Nat) : Fn (List (Int × (Int × Int) × (Int × Int) × Int × Int)) := ⟨spec_imEdges_C k, rdRes Tryz.prog spec_imEdges_ps [(ty_22, false)] Tryz.f94.results.toList .ret, fun p => none, 0, []⟩
theorem spec_imEdges_eq (k : Nat) (x : PTe spec_imEdges_ps) : evFn (spec_imEdges_F k) (codeOf Tryz.f94) spec_imEdges_ps 32 x = spec_imEdges k x.1 x.2.1 := by kernel_rfl
theorem spec_imEdges_K (k : Nat) : Contract Tryz.prog 94 (spec_imEdges_V k) :=
  contract (C := spec_imEdges_C k) (F := spec_imEdges_F k) (fn := Tryz.f94) (c := codeOf Tryz.f94) (ps := spec_imEdges_ps) (rs := [(ty_22, false)]) (nx := 32) ⟨tyOf_ok tys_ok, gOf_ok ⟨spec_bxNumber_K k, spec_imWay_K k, trivial⟩⟩ rfl (by kernel_rfl) (by kernel_rfl) (by kernel_rfl) (by kernel_rfl) (by kernel_rfl) (by kernel_rfl) rfl (by kernel_rfl) (by kernel_rfl) (AnnOk_list [] (by kernel_rfl) trivial) mix_ok (spec_imEdges_eq k)

noncomputable def spec_dyDown_V : Variant := ⟨[.val ty_0 false, .val ty_0 false], [(ty_0, false)], fun x => spec_dyDown x.1 x.2.1⟩
noncomputable def spec_dyDown_C : Cfg := ⟨Tryz.prog, tyOf tys, 16, gOf [], false, [], []⟩
def spec_dyDown_ps : List PE := [⟨0, 0, .val ty_0 false, false⟩, ⟨1, 16, .val ty_0 false, false⟩]
noncomputable def spec_dyDown_F : Fn (Int) := ⟨spec_dyDown_C, rdRes Tryz.prog spec_dyDown_ps [(ty_0, false)] Tryz.f193.results.toList .ret, fun p => none, 0, []⟩
theorem spec_dyDown_eq (x : PTe spec_dyDown_ps) : evFn (spec_dyDown_F) (codeOf Tryz.f193) spec_dyDown_ps 32 x = spec_dyDown x.1 x.2.1 := by kernel_rfl
theorem spec_dyDown_K : Contract Tryz.prog 193 (spec_dyDown_V) :=
  contract (C := spec_dyDown_C) (F := spec_dyDown_F) (fn := Tryz.f193) (c := codeOf Tryz.f193) (ps := spec_dyDown_ps) (rs := [(ty_0, false)]) (nx := 32) ⟨tyOf_ok tys_ok, gOf_ok trivial⟩ rfl (by kernel_rfl) (by kernel_rfl) (by kernel_rfl) (by kernel_rfl) (by kernel_rfl) (by kernel_rfl) rfl (by kernel_rfl) (by kernel_rfl) (AnnOk_list [] (by kernel_rfl) trivial) mix_ok (spec_dyDown_eq)

noncomputable def spec_dyFloor_V : Variant := ⟨[.val ty_1 true], [(ty_0, false)], fun x => spec_dyFloor x.1⟩
noncomputable def spec_dyFloor_C : Cfg := ⟨Tryz.prog, tyOf tys, 9, gOf [(71, [], spec_dyPower_V), (193, [], spec_dyDown_V)], false, [], []⟩
def spec_dyFloor_ps : List PE := [⟨0, 0, .val ty_1 true, false⟩]
noncomputable def spec_dyFloor_F : Fn (Int) := ⟨spec_dyFloor_C, rdRes Tryz.prog spec_dyFloor_ps [(ty_0, false)] Tryz.f176.results.toList .ret, fun p => none, 0, []⟩
theorem spec_dyFloor_eq (x : PTe spec_dyFloor_ps) : evFn (spec_dyFloor_F) (codeOf Tryz.f176) spec_dyFloor_ps 16 x = spec_dyFloor x.1 := by kernel_rfl
theorem spec_dyFloor_K : Contract Tryz.prog 176 (spec_dyFloor_V) :=
  contract (C := spec_dyFloor_C) (F := spec_dyFloor_F) (fn := Tryz.f176) (c := codeOf Tryz.f176) (ps := spec_dyFloor_ps) (rs := [(ty_0, false)]) (nx := 16) ⟨tyOf_ok tys_ok, gOf_ok ⟨spec_dyPower_K, spec_dyDown_K, trivial⟩⟩ rfl (by kernel_rfl) (by kernel_rfl) (by kernel_rfl) (by kernel_rfl) (by kernel_rfl) (by kernel_rfl) rfl (by kernel_rfl) (by kernel_rfl) (AnnOk_list [] (by kernel_rfl) trivial) mix_ok (spec_dyFloor_eq)

noncomputable def spec_dyAt_V (k : Nat) : Variant := ⟨[.val ty_1 true, .val ty_0 false], [(ty_0, false), (.bool, false)], fun x => spec_dyAt k x.1 x.2.1⟩
noncomputable def spec_dyAt_C (k : Nat) : Cfg := ⟨Tryz.prog, tyOf tys, 30, gOf [(71, [], spec_dyPower_V), (86, [], spec_l1In_V)], false, [], []⟩
def spec_dyAt_i58 : List PE := [⟨1, 32, .val ty_0 false, false⟩, ⟨2, 48, .box ty_1 false, false⟩, ⟨6, 64, .val ty_0 false, false⟩]
def spec_dyAt_o58 : List PE := [⟨2, 32, .box ty_1 false, false⟩]
noncomputable def spec_dyAt_f58 (k : Nat) (n : Nat) (x4 : PTe spec_dyAt_i58) : Option ((Int × Bool) ⊕ PTe spec_dyAt_o58) := spec_dyAt_L58 k n x4.1 x4.2.1 x4.2.2.1
def spec_dyAt_ps : List PE := [⟨0, 0, .val ty_1 true, false⟩, ⟨1, 16, .val ty_0 false, false⟩]
noncomputable def spec_dyAt_F (k : Nat) : Fn (Int × Bool) := ⟨spec_dyAt_C k, rdRes Tryz.prog spec_dyAt_ps [(ty_0, false), (.bool, false)] Tryz.f174.results.toList .ret, fun p => bif Nat.beq p 58 then some (.loop spec_dyAt_i58 spec_dyAt_o58 0 80 (spec_dyAt_f58 k k)) else none, 0, []⟩
theorem spec_dyAt_eq (k : Nat) (x : PTe spec_dyAt_ps) : evFn (spec_dyAt_F k) (codeOf Tryz.f174) spec_dyAt_ps 32 x = spec_dyAt k x.1 x.2.1 := by kernel_rfl
theorem spec_dyAt_ls : loopsOf (codeOf Tryz.f174) 1 = [(58, loopB (codeOf Tryz.f174) 58)] := by kernel_rfl
theorem spec_dyAt_l58 (k : Nat) : LoopOk (spec_dyAt_F k) (loopB (codeOf Tryz.f174) 58) 58 := LoopOk.mk (pin := spec_dyAt_i58) (pout := spec_dyAt_o58) (ex := 0) (nx := 80) (Lf := spec_dyAt_f58 k) (k := k) (by kernel_rfl) (fun _ => rfl) (by intro n x; kernel_rfl)
theorem spec_dyAt_K (k : Nat) : Contract Tryz.prog 174 (spec_dyAt_V k) :=
  contract (C := spec_dyAt_C k) (F := spec_dyAt_F k) (fn := Tryz.f174) (c := codeOf Tryz.f174) (ps := spec_dyAt_ps) (rs := [(ty_0, false), (.bool, false)]) (nx := 32) ⟨tyOf_ok tys_ok, gOf_ok ⟨spec_dyPower_K, spec_l1In_K, trivial⟩⟩ rfl (by kernel_rfl) (by kernel_rfl) (by kernel_rfl) (by kernel_rfl) (by kernel_rfl) (by kernel_rfl) rfl (by kernel_rfl) (by kernel_rfl) (AnnOk_list [(58, loopB (codeOf Tryz.f174) 58)] spec_dyAt_ls ⟨spec_dyAt_l58 k, trivial⟩) mix_ok (spec_dyAt_eq k)

noncomputable def spec_dyCmp_V (k : Nat) : Variant := ⟨[.val ty_1 true, .val ty_1 true], [(ty_0, false)], fun x => spec_dyCmp k x.1 x.2.1⟩
noncomputable def spec_dyCmp_C (k : Nat) : Cfg := ⟨Tryz.prog, tyOf tys, 56, gOf [(176, [], spec_dyFloor_V), (163, [], spec_l1Sign_V), (71, [], spec_dyPower_V), (174, [], spec_dyAt_V k)], false, [], []⟩
def spec_dyCmp_ps : List PE := [⟨0, 0, .val ty_1 true, false⟩, ⟨1, 16, .val ty_1 true, false⟩]
noncomputable def spec_dyCmp_F (k : Nat) : Fn (Int) := ⟨spec_dyCmp_C k, rdRes Tryz.prog spec_dyCmp_ps [(ty_0, false)] Tryz.f147.results.toList .ret, fun p => none, 0, []⟩
theorem spec_dyCmp_eq (k : Nat) (x : PTe spec_dyCmp_ps) : evFn (spec_dyCmp_F k) (codeOf Tryz.f147) spec_dyCmp_ps 32 x = spec_dyCmp k x.1 x.2.1 := by kernel_rfl
theorem spec_dyCmp_K (k : Nat) : Contract Tryz.prog 147 (spec_dyCmp_V k) :=
  contract (C := spec_dyCmp_C k) (F := spec_dyCmp_F k) (fn := Tryz.f147) (c := codeOf Tryz.f147) (ps := spec_dyCmp_ps) (rs := [(ty_0, false)]) (nx := 32) ⟨tyOf_ok tys_ok, gOf_ok ⟨spec_dyFloor_K, spec_l1Sign_K, spec_dyPower_K, spec_dyAt_K k, trivial⟩⟩ rfl (by kernel_rfl) (by kernel_rfl) (by kernel_rfl) (by kernel_rfl) (by kernel_rfl) (by kernel_rfl) rfl (by kernel_rfl) (by kernel_rfl) (AnnOk_list [] (by kernel_rfl) trivial) mix_ok (spec_dyCmp_eq k)

noncomputable def spec_ivEnds_V (k : Nat) : Variant := ⟨[.val ty_13 false], [(ty_10, true)], fun x => spec_ivEnds k x.1⟩
noncomputable def spec_ivEnds_C (k : Nat) : Cfg := ⟨Tryz.prog, tyOf tys, 35, gOf [(147, [], spec_dyCmp_V k)], false, [], []⟩
def spec_ivEnds_i58 : List PE := [⟨2, 16, .box ty_10 false, false⟩, ⟨3, 32, .box ty_10 false, false⟩, ⟨13, 48, .val ty_13 false, false⟩, ⟨14, 64, .val ty_0 false, false⟩, ⟨15, 80, .val ty_0 false, false⟩]
def spec_ivEnds_o58 : List PE := [⟨2, 16, .box ty_10 false, false⟩, ⟨3, 32, .box ty_10 false, false⟩]
noncomputable def spec_ivEnds_f58 (k : Nat) (n : Nat) (x5 : PTe spec_ivEnds_i58) : Option (((Int × Int) × Int × Int) ⊕ PTe spec_ivEnds_o58) := spec_ivEnds_L58 k n x5.1 x5.2.1 x5.2.2.1 x5.2.2.2.1 x5.2.2.2.2.1
def spec_ivEnds_ps : List PE := [⟨0, 0, .val ty_13 false, false⟩]
noncomputable def spec_ivEnds_F (k : Nat) : Fn ((Int × Int) × Int × Int) := ⟨spec_ivEnds_C k, rdRes Tryz.prog spec_ivEnds_ps [(ty_10, true)] Tryz.f111.results.toList .ret, fun p => bif Nat.beq p 7474 then some (.cut [⟨2, 16, .box ty_10 false, false⟩, ⟨3, 32, .box ty_10 false, false⟩, ⟨5, 48, .box ty_1 false, false⟩, ⟨13, 64, .val ty_13 false, false⟩, ⟨14, 80, .val ty_0 false, false⟩, ⟨15, 96, .val ty_0 false, false⟩] 112) else bif Nat.beq p 58 then some (.loop spec_ivEnds_i58 spec_ivEnds_o58 0 96 (spec_ivEnds_f58 k k)) else none, 0, []⟩
theorem spec_ivEnds_eq (k : Nat) (x : PTe spec_ivEnds_ps) : evFn (spec_ivEnds_F k) (codeOf Tryz.f111) spec_ivEnds_ps 16 x = spec_ivEnds k x.1 := by kernel_rfl
theorem spec_ivEnds_ls : loopsOf (codeOf Tryz.f111) 1 = [(58, loopB (codeOf Tryz.f111) 58)] := by kernel_rfl
theorem spec_ivEnds_l58 (k : Nat) : LoopOk (spec_ivEnds_F k) (loopB (codeOf Tryz.f111) 58) 58 := LoopOk.mk (pin := spec_ivEnds_i58) (pout := spec_ivEnds_o58) (ex := 0) (nx := 96) (Lf := spec_ivEnds_f58 k) (k := k) (by kernel_rfl) (fun _ => rfl) (by intro n x; kernel_rfl)
theorem spec_ivEnds_K (k : Nat) : Contract Tryz.prog 111 (spec_ivEnds_V k) :=
  contract (C := spec_ivEnds_C k) (F := spec_ivEnds_F k) (fn := Tryz.f111) (c := codeOf Tryz.f111) (ps := spec_ivEnds_ps) (rs := [(ty_10, true)]) (nx := 16) ⟨tyOf_ok tys_ok, gOf_ok ⟨spec_dyCmp_K k, trivial⟩⟩ rfl (by kernel_rfl) (by kernel_rfl) (by kernel_rfl) (by kernel_rfl) (by kernel_rfl) (by kernel_rfl) rfl (by kernel_rfl) (by kernel_rfl) (AnnOk_list [(58, loopB (codeOf Tryz.f111) 58)] spec_ivEnds_ls ⟨spec_ivEnds_l58 k, trivial⟩) mix_ok (spec_ivEnds_eq k)

noncomputable def spec_vaPure_V : Variant := ⟨[.val ty_1 true], [(ty_10, true)], fun x => spec_vaPure x.1⟩
noncomputable def spec_vaPure_C : Cfg := ⟨Tryz.prog, tyOf tys, 6, gOf [], false, [], []⟩
def spec_vaPure_ps : List PE := [⟨0, 0, .val ty_1 true, false⟩]
noncomputable def spec_vaPure_F : Fn ((Int × Int) × Int × Int) := ⟨spec_vaPure_C, rdRes Tryz.prog spec_vaPure_ps [(ty_10, true)] Tryz.f112.results.toList .ret, fun p => none, 0, []⟩
theorem spec_vaPure_eq (x : PTe spec_vaPure_ps) : evFn (spec_vaPure_F) (codeOf Tryz.f112) spec_vaPure_ps 16 x = spec_vaPure x.1 := by kernel_rfl
theorem spec_vaPure_K : Contract Tryz.prog 112 (spec_vaPure_V) :=
  contract (C := spec_vaPure_C) (F := spec_vaPure_F) (fn := Tryz.f112) (c := codeOf Tryz.f112) (ps := spec_vaPure_ps) (rs := [(ty_10, true)]) (nx := 16) ⟨tyOf_ok tys_ok, gOf_ok trivial⟩ rfl (by kernel_rfl) (by kernel_rfl) (by kernel_rfl) (by kernel_rfl) (by kernel_rfl) (by kernel_rfl) rfl (by kernel_rfl) (by kernel_rfl) (AnnOk_list [] (by kernel_rfl) trivial) mix_ok (spec_vaPure_eq)

noncomputable def spec_imSides_V (k : Nat) : Variant := ⟨[.val ty_12 true], [(ty_14, false)], fun x => spec_imSides k x.1⟩
noncomputable def spec_imSides_C (k : Nat) : Cfg := ⟨Tryz.prog, tyOf tys, 23, gOf [(111, [], spec_ivEnds_V k), (112, [], spec_vaPure_V)], false, [], []⟩
def spec_imSides_ps : List PE := [⟨0, 0, .val ty_12 true, false⟩]
noncomputable def spec_imSides_F (k : Nat) : Fn (List ((Int × Int) × Int × Int)) := ⟨spec_imSides_C k, rdRes Tryz.prog spec_imSides_ps [(ty_14, false)] Tryz.f58.results.toList .ret, fun p => none, 0, []⟩
theorem spec_imSides_eq (k : Nat) (x : PTe spec_imSides_ps) : evFn (spec_imSides_F k) (codeOf Tryz.f58) spec_imSides_ps 16 x = spec_imSides k x.1 := by kernel_rfl
theorem spec_imSides_K (k : Nat) : Contract Tryz.prog 58 (spec_imSides_V k) :=
  contract (C := spec_imSides_C k) (F := spec_imSides_F k) (fn := Tryz.f58) (c := codeOf Tryz.f58) (ps := spec_imSides_ps) (rs := [(ty_14, false)]) (nx := 16) ⟨tyOf_ok tys_ok, gOf_ok ⟨spec_ivEnds_K k, spec_vaPure_K, trivial⟩⟩ rfl (by kernel_rfl) (by kernel_rfl) (by kernel_rfl) (by kernel_rfl) (by kernel_rfl) (by kernel_rfl) rfl (by kernel_rfl) (by kernel_rfl) (AnnOk_list [] (by kernel_rfl) trivial) mix_ok (spec_imSides_eq k)

noncomputable def spec_dyInt_V : Variant := ⟨[.val ty_0 false], [(ty_1, true)], fun x => spec_dyInt x.1⟩
noncomputable def spec_dyInt_C : Cfg := ⟨Tryz.prog, tyOf tys, 5, gOf [], false, [], []⟩
def spec_dyInt_ps : List PE := [⟨0, 0, .val ty_0 false, false⟩]
noncomputable def spec_dyInt_F : Fn (Int × Int) := ⟨spec_dyInt_C, rdRes Tryz.prog spec_dyInt_ps [(ty_1, true)] Tryz.f148.results.toList .ret, fun p => none, 0, []⟩
theorem spec_dyInt_eq (x : PTe spec_dyInt_ps) : evFn (spec_dyInt_F) (codeOf Tryz.f148) spec_dyInt_ps 16 x = spec_dyInt x.1 := by kernel_rfl
theorem spec_dyInt_K : Contract Tryz.prog 148 (spec_dyInt_V) :=
  contract (C := spec_dyInt_C) (F := spec_dyInt_F) (fn := Tryz.f148) (c := codeOf Tryz.f148) (ps := spec_dyInt_ps) (rs := [(ty_1, true)]) (nx := 16) ⟨tyOf_ok tys_ok, gOf_ok trivial⟩ rfl (by kernel_rfl) (by kernel_rfl) (by kernel_rfl) (by kernel_rfl) (by kernel_rfl) (by kernel_rfl) rfl (by kernel_rfl) (by kernel_rfl) (AnnOk_list [] (by kernel_rfl) trivial) mix_ok (spec_dyInt_eq)

noncomputable def spec_l1Abs_V : Variant := ⟨[.val ty_0 false], [(ty_0, false)], fun x => spec_l1Abs x.1⟩
noncomputable def spec_l1Abs_C : Cfg := ⟨Tryz.prog, tyOf tys, 7, gOf [(144, [], spec_l1Most_V)], false, [], []⟩
def spec_l1Abs_ps : List PE := [⟨0, 0, .val ty_0 false, false⟩]
noncomputable def spec_l1Abs_F : Fn (Int) := ⟨spec_l1Abs_C, rdRes Tryz.prog spec_l1Abs_ps [(ty_0, false)] Tryz.f199.results.toList .ret, fun p => none, 0, []⟩
theorem spec_l1Abs_eq (x : PTe spec_l1Abs_ps) : evFn (spec_l1Abs_F) (codeOf Tryz.f199) spec_l1Abs_ps 16 x = spec_l1Abs x.1 := by kernel_rfl
theorem spec_l1Abs_K : Contract Tryz.prog 199 (spec_l1Abs_V) :=
  contract (C := spec_l1Abs_C) (F := spec_l1Abs_F) (fn := Tryz.f199) (c := codeOf Tryz.f199) (ps := spec_l1Abs_ps) (rs := [(ty_0, false)]) (nx := 16) ⟨tyOf_ok tys_ok, gOf_ok ⟨spec_l1Most_K, trivial⟩⟩ rfl (by kernel_rfl) (by kernel_rfl) (by kernel_rfl) (by kernel_rfl) (by kernel_rfl) (by kernel_rfl) rfl (by kernel_rfl) (by kernel_rfl) (AnnOk_list [] (by kernel_rfl) trivial) mix_ok (spec_l1Abs_eq)

noncomputable def spec_dyMul_V (k : Nat) : Variant := ⟨[.val ty_1 true, .val ty_1 true], [(ty_1, true), (.bool, false)], fun x => spec_dyMul k x.1 x.2.1⟩
noncomputable def spec_dyMul_C (k : Nat) : Cfg := ⟨Tryz.prog, tyOf tys, 67, gOf [(199, [], spec_l1Abs_V), (158, [], spec_dyMake_V k)], false, [], []⟩
def spec_dyMul_i60 : List PE := [⟨2, 32, .box ty_1 false, false⟩, ⟨3, 48, .box ty_1 false, false⟩, ⟨4, 64, .box ty_1 false, false⟩, ⟨6, 80, .val ty_0 false, false⟩]
def spec_dyMul_o60 : List PE := [⟨2, 32, .box ty_1 false, false⟩, ⟨3, 48, .box ty_1 false, false⟩, ⟨4, 64, .box ty_1 false, false⟩, ⟨6, 80, .val ty_0 false, false⟩]
noncomputable def spec_dyMul_f60 (k : Nat) (n : Nat) (x1 : PTe spec_dyMul_i60) : Option (((Int × Int) × Bool) ⊕ PTe spec_dyMul_o60) := spec_dyMul_L60 k n x1.1 x1.2.1 x1.2.2.1 x1.2.2.2.1
def spec_dyMul_i124 : List PE := [⟨2, 32, .box ty_1 false, false⟩, ⟨3, 48, .box ty_1 false, false⟩, ⟨4, 64, .box ty_1 false, false⟩, ⟨6, 80, .val ty_0 false, false⟩]
def spec_dyMul_o124 : List PE := [⟨2, 32, .box ty_1 false, false⟩, ⟨3, 48, .box ty_1 false, false⟩, ⟨4, 64, .box ty_1 false, false⟩, ⟨6, 80, .val ty_0 false, false⟩]
noncomputable def spec_dyMul_f124 (k : Nat) (n : Nat) (x4 : PTe spec_dyMul_i124) : Option (((Int × Int) × Bool) ⊕ PTe spec_dyMul_o124) := spec_dyMul_L124 k n x4.1 x4.2.1 x4.2.2.1 x4.2.2.2.1
def spec_dyMul_ps : List PE := [⟨0, 0, .val ty_1 true, false⟩, ⟨1, 16, .val ty_1 true, false⟩]
noncomputable def spec_dyMul_F (k : Nat) : Fn ((Int × Int) × Bool) := ⟨spec_dyMul_C k, rdRes Tryz.prog spec_dyMul_ps [(ty_1, true), (.bool, false)] Tryz.f182.results.toList .ret, fun p => bif Nat.beq p 60 then some (.loop spec_dyMul_i60 spec_dyMul_o60 0 96 (spec_dyMul_f60 k k)) else bif Nat.beq p 124 then some (.loop spec_dyMul_i124 spec_dyMul_o124 2 96 (spec_dyMul_f124 k k)) else none, 0, []⟩
theorem spec_dyMul_eq (k : Nat) (x : PTe spec_dyMul_ps) : evFn (spec_dyMul_F k) (codeOf Tryz.f182) spec_dyMul_ps 32 x = spec_dyMul k x.1 x.2.1 := by kernel_rfl
theorem spec_dyMul_ls : loopsOf (codeOf Tryz.f182) 1 = [(60, loopB (codeOf Tryz.f182) 60), (124, loopB (codeOf Tryz.f182) 124)] := by kernel_rfl
theorem spec_dyMul_l60 (k : Nat) : LoopOk (spec_dyMul_F k) (loopB (codeOf Tryz.f182) 60) 60 := LoopOk.mk (pin := spec_dyMul_i60) (pout := spec_dyMul_o60) (ex := 0) (nx := 96) (Lf := spec_dyMul_f60 k) (k := k) (by kernel_rfl) (fun _ => rfl) (by intro n x; kernel_rfl)
theorem spec_dyMul_l124 (k : Nat) : LoopOk (spec_dyMul_F k) (loopB (codeOf Tryz.f182) 124) 124 := LoopOk.mk (pin := spec_dyMul_i124) (pout := spec_dyMul_o124) (ex := 2) (nx := 96) (Lf := spec_dyMul_f124 k) (k := k) (by kernel_rfl) (fun _ => rfl) (by intro n x; kernel_rfl)
theorem spec_dyMul_K (k : Nat) : Contract Tryz.prog 182 (spec_dyMul_V k) :=
  contract (C := spec_dyMul_C k) (F := spec_dyMul_F k) (fn := Tryz.f182) (c := codeOf Tryz.f182) (ps := spec_dyMul_ps) (rs := [(ty_1, true), (.bool, false)]) (nx := 32) ⟨tyOf_ok tys_ok, gOf_ok ⟨spec_l1Abs_K, spec_dyMake_K k, trivial⟩⟩ rfl (by kernel_rfl) (by kernel_rfl) (by kernel_rfl) (by kernel_rfl) (by kernel_rfl) (by kernel_rfl) rfl (by kernel_rfl) (by kernel_rfl) (AnnOk_list [(60, loopB (codeOf Tryz.f182) 60), (124, loopB (codeOf Tryz.f182) 124)] spec_dyMul_ls ⟨spec_dyMul_l60 k, spec_dyMul_l124 k, trivial⟩) mix_ok (spec_dyMul_eq k)

noncomputable def spec_ivRaise_V (k : Nat) : Variant := ⟨[.val ty_1 true, .val ty_0 false], [(ty_1, true), (.bool, false)], fun x => spec_ivRaise k x.1 x.2.1⟩
noncomputable def spec_ivRaise_C (k : Nat) : Cfg := ⟨Tryz.prog, tyOf tys, 25, gOf [(148, [], spec_dyInt_V), (182, [], spec_dyMul_V k)], false, [], []⟩
def spec_ivRaise_i28 : List PE := [⟨1, 32, .val ty_0 false, false⟩, ⟨2, 48, .box ty_1 false, false⟩, ⟨4, 64, .box ty_1 false, false⟩, ⟨6, 80, .box ty_1 false, false⟩]
def spec_ivRaise_o28 : List PE := [⟨4, 32, .box ty_1 false, false⟩, ⟨6, 48, .box ty_1 false, false⟩]
noncomputable def spec_ivRaise_f28 (k : Nat) (n : Nat) (x3 : PTe spec_ivRaise_i28) : Option (((Int × Int) × Bool) ⊕ PTe spec_ivRaise_o28) := spec_ivRaise_L28 k n x3.1 x3.2.1 x3.2.2.1 x3.2.2.2.1
def spec_ivRaise_ps : List PE := [⟨0, 0, .val ty_1 true, false⟩, ⟨1, 16, .val ty_0 false, false⟩]
noncomputable def spec_ivRaise_F (k : Nat) : Fn ((Int × Int) × Bool) := ⟨spec_ivRaise_C k, rdRes Tryz.prog spec_ivRaise_ps [(ty_1, true), (.bool, false)] Tryz.f180.results.toList .ret, fun p => bif Nat.beq p 28 then some (.loop spec_ivRaise_i28 spec_ivRaise_o28 0 96 (spec_ivRaise_f28 k k)) else none, 0, []⟩
theorem spec_ivRaise_eq (k : Nat) (x : PTe spec_ivRaise_ps) : evFn (spec_ivRaise_F k) (codeOf Tryz.f180) spec_ivRaise_ps 32 x = spec_ivRaise k x.1 x.2.1 := by kernel_rfl
theorem spec_ivRaise_ls : loopsOf (codeOf Tryz.f180) 1 = [(28, loopB (codeOf Tryz.f180) 28)] := by kernel_rfl
theorem spec_ivRaise_l28 (k : Nat) : LoopOk (spec_ivRaise_F k) (loopB (codeOf Tryz.f180) 28) 28 := LoopOk.mk (pin := spec_ivRaise_i28) (pout := spec_ivRaise_o28) (ex := 0) (nx := 96) (Lf := spec_ivRaise_f28 k) (k := k) (by kernel_rfl) (fun _ => rfl) (by intro n x; kernel_rfl)
theorem spec_ivRaise_K (k : Nat) : Contract Tryz.prog 180 (spec_ivRaise_V k) :=
  contract (C := spec_ivRaise_C k) (F := spec_ivRaise_F k) (fn := Tryz.f180) (c := codeOf Tryz.f180) (ps := spec_ivRaise_ps) (rs := [(ty_1, true), (.bool, false)]) (nx := 32) ⟨tyOf_ok tys_ok, gOf_ok ⟨spec_dyInt_K, spec_dyMul_K k, trivial⟩⟩ rfl (by kernel_rfl) (by kernel_rfl) (by kernel_rfl) (by kernel_rfl) (by kernel_rfl) (by kernel_rfl) rfl (by kernel_rfl) (by kernel_rfl) (AnnOk_list [(28, loopB (codeOf Tryz.f180) 28)] spec_ivRaise_ls ⟨spec_ivRaise_l28 k, trivial⟩) mix_ok (spec_ivRaise_eq k)

noncomputable def spec_ivZero_V : Variant := ⟨[.val ty_10 true], [(.bool, false)], fun x => spec_ivZero x.1⟩
noncomputable def spec_ivZero_C : Cfg := ⟨Tryz.prog, tyOf tys, 13, gOf [], false, [], []⟩
def spec_ivZero_ps : List PE := [⟨0, 0, .val ty_10 true, false⟩]
noncomputable def spec_ivZero_F : Fn (Bool) := ⟨spec_ivZero_C, rdRes Tryz.prog spec_ivZero_ps [(.bool, false)] Tryz.f162.results.toList .ret, fun p => none, 0, []⟩
theorem spec_ivZero_eq (x : PTe spec_ivZero_ps) : evFn (spec_ivZero_F) (codeOf Tryz.f162) spec_ivZero_ps 16 x = spec_ivZero x.1 := by kernel_rfl
theorem spec_ivZero_K : Contract Tryz.prog 162 (spec_ivZero_V) :=
  contract (C := spec_ivZero_C) (F := spec_ivZero_F) (fn := Tryz.f162) (c := codeOf Tryz.f162) (ps := spec_ivZero_ps) (rs := [(.bool, false)]) (nx := 16) ⟨tyOf_ok tys_ok, gOf_ok trivial⟩ rfl (by kernel_rfl) (by kernel_rfl) (by kernel_rfl) (by kernel_rfl) (by kernel_rfl) (by kernel_rfl) rfl (by kernel_rfl) (by kernel_rfl) (AnnOk_list [] (by kernel_rfl) trivial) mix_ok (spec_ivZero_eq)

noncomputable def spec_dyRound_V (k : Nat) : Variant := ⟨[.val ty_1 true, .val ty_0 false], [(ty_1, true)], fun x => spec_dyRound k x.1 x.2.1⟩
noncomputable def spec_dyRound_C (k : Nat) : Cfg := ⟨Tryz.prog, tyOf tys, 26, gOf [(71, [], spec_dyPower_V), (193, [], spec_dyDown_V), (158, [], spec_dyMake_V k)], false, [], []⟩
def spec_dyRound_ps : List PE := [⟨0, 0, .val ty_1 true, false⟩, ⟨1, 16, .val ty_0 false, false⟩]
noncomputable def spec_dyRound_F (k : Nat) : Fn (Int × Int) := ⟨spec_dyRound_C k, rdRes Tryz.prog spec_dyRound_ps [(ty_1, true)] Tryz.f197.results.toList .ret, fun p => none, 0, []⟩
theorem spec_dyRound_eq (k : Nat) (x : PTe spec_dyRound_ps) : evFn (spec_dyRound_F k) (codeOf Tryz.f197) spec_dyRound_ps 32 x = spec_dyRound k x.1 x.2.1 := by kernel_rfl
theorem spec_dyRound_K (k : Nat) : Contract Tryz.prog 197 (spec_dyRound_V k) :=
  contract (C := spec_dyRound_C k) (F := spec_dyRound_F k) (fn := Tryz.f197) (c := codeOf Tryz.f197) (ps := spec_dyRound_ps) (rs := [(ty_1, true)]) (nx := 32) ⟨tyOf_ok tys_ok, gOf_ok ⟨spec_dyPower_K, spec_dyDown_K, spec_dyMake_K k, trivial⟩⟩ rfl (by kernel_rfl) (by kernel_rfl) (by kernel_rfl) (by kernel_rfl) (by kernel_rfl) (by kernel_rfl) rfl (by kernel_rfl) (by kernel_rfl) (AnnOk_list [] (by kernel_rfl) trivial) mix_ok (spec_dyRound_eq k)

noncomputable def spec_dyMinus_V : Variant := ⟨[.val ty_1 true], [(ty_1, true)], fun x => spec_dyMinus x.1⟩
noncomputable def spec_dyMinus_C : Cfg := ⟨Tryz.prog, tyOf tys, 9, gOf [], false, [], []⟩
def spec_dyMinus_ps : List PE := [⟨0, 0, .val ty_1 true, false⟩]
noncomputable def spec_dyMinus_F : Fn (Int × Int) := ⟨spec_dyMinus_C, rdRes Tryz.prog spec_dyMinus_ps [(ty_1, true)] Tryz.f207.results.toList .ret, fun p => none, 0, []⟩
theorem spec_dyMinus_eq (x : PTe spec_dyMinus_ps) : evFn (spec_dyMinus_F) (codeOf Tryz.f207) spec_dyMinus_ps 16 x = spec_dyMinus x.1 := by kernel_rfl
theorem spec_dyMinus_K : Contract Tryz.prog 207 (spec_dyMinus_V) :=
  contract (C := spec_dyMinus_C) (F := spec_dyMinus_F) (fn := Tryz.f207) (c := codeOf Tryz.f207) (ps := spec_dyMinus_ps) (rs := [(ty_1, true)]) (nx := 16) ⟨tyOf_ok tys_ok, gOf_ok trivial⟩ rfl (by kernel_rfl) (by kernel_rfl) (by kernel_rfl) (by kernel_rfl) (by kernel_rfl) (by kernel_rfl) rfl (by kernel_rfl) (by kernel_rfl) (AnnOk_list [] (by kernel_rfl) trivial) mix_ok (spec_dyMinus_eq)

noncomputable def spec_ivUp_V (k : Nat) : Variant := ⟨[.val ty_1 true, .val ty_0 false], [(ty_1, true)], fun x => spec_ivUp k x.1 x.2.1⟩
noncomputable def spec_ivUp_C (k : Nat) : Cfg := ⟨Tryz.prog, tyOf tys, 10, gOf [(207, [], spec_dyMinus_V), (197, [], spec_dyRound_V k)], false, [], []⟩
def spec_ivUp_ps : List PE := [⟨0, 0, .val ty_1 true, false⟩, ⟨1, 16, .val ty_0 false, false⟩]
noncomputable def spec_ivUp_F (k : Nat) : Fn (Int × Int) := ⟨spec_ivUp_C k, rdRes Tryz.prog spec_ivUp_ps [(ty_1, true)] Tryz.f198.results.toList .ret, fun p => none, 0, []⟩
theorem spec_ivUp_eq (k : Nat) (x : PTe spec_ivUp_ps) : evFn (spec_ivUp_F k) (codeOf Tryz.f198) spec_ivUp_ps 32 x = spec_ivUp k x.1 x.2.1 := by kernel_rfl
theorem spec_ivUp_K (k : Nat) : Contract Tryz.prog 198 (spec_ivUp_V k) :=
  contract (C := spec_ivUp_C k) (F := spec_ivUp_F k) (fn := Tryz.f198) (c := codeOf Tryz.f198) (ps := spec_ivUp_ps) (rs := [(ty_1, true)]) (nx := 32) ⟨tyOf_ok tys_ok, gOf_ok ⟨spec_dyMinus_K, spec_dyRound_K k, trivial⟩⟩ rfl (by kernel_rfl) (by kernel_rfl) (by kernel_rfl) (by kernel_rfl) (by kernel_rfl) (by kernel_rfl) rfl (by kernel_rfl) (by kernel_rfl) (AnnOk_list [] (by kernel_rfl) trivial) mix_ok (spec_ivUp_eq k)

noncomputable def spec_ivRound_V (k : Nat) : Variant := ⟨[.val ty_10 true, .val ty_0 false], [(ty_10, true)], fun x => spec_ivRound k x.1 x.2.1⟩
noncomputable def spec_ivRound_C (k : Nat) : Cfg := ⟨Tryz.prog, tyOf tys, 14, gOf [(197, [], spec_dyRound_V k), (198, [], spec_ivUp_V k)], false, [], []⟩
def spec_ivRound_ps : List PE := [⟨0, 0, .val ty_10 true, false⟩, ⟨1, 16, .val ty_0 false, false⟩]
noncomputable def spec_ivRound_F (k : Nat) : Fn ((Int × Int) × Int × Int) := ⟨spec_ivRound_C k, rdRes Tryz.prog spec_ivRound_ps [(ty_10, true)] Tryz.f181.results.toList .ret, fun p => none, 0, []⟩
theorem spec_ivRound_eq (k : Nat) (x : PTe spec_ivRound_ps) : evFn (spec_ivRound_F k) (codeOf Tryz.f181) spec_ivRound_ps 32 x = spec_ivRound k x.1 x.2.1 := by kernel_rfl
theorem spec_ivRound_K (k : Nat) : Contract Tryz.prog 181 (spec_ivRound_V k) :=
  contract (C := spec_ivRound_C k) (F := spec_ivRound_F k) (fn := Tryz.f181) (c := codeOf Tryz.f181) (ps := spec_ivRound_ps) (rs := [(ty_10, true)]) (nx := 32) ⟨tyOf_ok tys_ok, gOf_ok ⟨spec_dyRound_K k, spec_ivUp_K k, trivial⟩⟩ rfl (by kernel_rfl) (by kernel_rfl) (by kernel_rfl) (by kernel_rfl) (by kernel_rfl) (by kernel_rfl) rfl (by kernel_rfl) (by kernel_rfl) (AnnOk_list [] (by kernel_rfl) trivial) mix_ok (spec_ivRound_eq k)

noncomputable def spec_ivPower_V (k : Nat) : Variant := ⟨[.val ty_10 true, .val ty_0 false], [(ty_10, true), (.bool, false)], fun x => spec_ivPower k x.1 x.2.1⟩
noncomputable def spec_ivPower_C (k : Nat) : Cfg := ⟨Tryz.prog, tyOf tys, 53, gOf [(180, [], spec_ivRaise_V k), (162, [], spec_ivZero_V), (148, [], spec_dyInt_V), (111, [], spec_ivEnds_V k), (181, [], spec_ivRound_V k)], false, [], []⟩
def spec_ivPower_ps : List PE := [⟨0, 0, .val ty_10 true, false⟩, ⟨1, 16, .val ty_0 false, false⟩]
noncomputable def spec_ivPower_F (k : Nat) : Fn (((Int × Int) × Int × Int) × Bool) := ⟨spec_ivPower_C k, rdRes Tryz.prog spec_ivPower_ps [(ty_10, true), (.bool, false)] Tryz.f159.results.toList .ret, fun p => bif Nat.beq p 126 then some (.cut [⟨4, 32, .box ty_10 false, false⟩, ⟨10, 48, .eat ty_1, false⟩] 64) else none, 0, []⟩
theorem spec_ivPower_eq (k : Nat) (x : PTe spec_ivPower_ps) : evFn (spec_ivPower_F k) (codeOf Tryz.f159) spec_ivPower_ps 32 x = spec_ivPower k x.1 x.2.1 := by kernel_rfl
theorem spec_ivPower_K (k : Nat) : Contract Tryz.prog 159 (spec_ivPower_V k) :=
  contract (C := spec_ivPower_C k) (F := spec_ivPower_F k) (fn := Tryz.f159) (c := codeOf Tryz.f159) (ps := spec_ivPower_ps) (rs := [(ty_10, true), (.bool, false)]) (nx := 32) ⟨tyOf_ok tys_ok, gOf_ok ⟨spec_ivRaise_K k, spec_ivZero_K, spec_dyInt_K, spec_ivEnds_K k, spec_ivRound_K k, trivial⟩⟩ rfl (by kernel_rfl) (by kernel_rfl) (by kernel_rfl) (by kernel_rfl) (by kernel_rfl) (by kernel_rfl) rfl (by kernel_rfl) (by kernel_rfl) (AnnOk_list [] (by kernel_rfl) trivial) mix_ok (spec_ivPower_eq k)

noncomputable def spec_ivMul_V (k : Nat) : Variant := ⟨[.val ty_10 true, .val ty_10 true], [(ty_10, true), (.bool, false)], fun x => spec_ivMul k x.1 x.2.1⟩
noncomputable def spec_ivMul_C (k : Nat) : Cfg := ⟨Tryz.prog, tyOf tys, 51, gOf [(182, [], spec_dyMul_V k), (111, [], spec_ivEnds_V k), (181, [], spec_ivRound_V k)], false, [], []⟩
def spec_ivMul_i14950 : List PE := [⟨3, 32, .box ty_10 false, false⟩, ⟨4, 48, .box ty_10 false, false⟩, ⟨6, 64, .eat ty_1, false⟩, ⟨8, 80, .box ty_1 false, false⟩, ⟨17, 96, .eat ty_1, false⟩, ⟨18, 112, .val ty_0 false, false⟩, ⟨19, 128, .val ty_0 false, false⟩, ⟨27, 144, .eat ty_1, false⟩, ⟨28, 160, .val ty_0 false, false⟩, ⟨29, 176, .val ty_0 false, false⟩]
def spec_ivMul_o14950 : List PE := [⟨3, 32, .box ty_10 false, false⟩, ⟨4, 48, .box ty_10 false, false⟩, ⟨6, 64, .eat ty_1, false⟩, ⟨17, 80, .eat ty_1, false⟩, ⟨18, 96, .val ty_0 false, false⟩, ⟨19, 112, .val ty_0 false, false⟩]
noncomputable def spec_ivMul_f14950 (k : Nat) (n : Nat) (x2 : PTe spec_ivMul_i14950) : Option ((((Int × Int) × Int × Int) × Bool) ⊕ PTe spec_ivMul_o14950) := spec_ivMul_L14950 k n x2.1 x2.2.1 x2.2.2.1 x2.2.2.2.1 x2.2.2.2.2.1 x2.2.2.2.2.2.1 x2.2.2.2.2.2.2.1 x2.2.2.2.2.2.2.2.1 x2.2.2.2.2.2.2.2.2.1 x2.2.2.2.2.2.2.2.2.2.1
def spec_ivMul_i58 : List PE := [⟨3, 32, .box ty_10 false, false⟩, ⟨4, 48, .box ty_10 false, false⟩, ⟨6, 64, .eat ty_1, false⟩, ⟨17, 80, .eat ty_1, false⟩, ⟨18, 96, .val ty_0 false, false⟩, ⟨19, 112, .val ty_0 false, false⟩]
def spec_ivMul_o58 : List PE := [⟨4, 32, .box ty_10 false, false⟩, ⟨6, 48, .eat ty_1, false⟩]
noncomputable def spec_ivMul_f58 (k : Nat) (n : Nat) (x5 : PTe spec_ivMul_i58) : Option ((((Int × Int) × Int × Int) × Bool) ⊕ PTe spec_ivMul_o58) := spec_ivMul_L58 k n x5.1 x5.2.1 x5.2.2.1 x5.2.2.2.1 x5.2.2.2.2.1 x5.2.2.2.2.2.1
def spec_ivMul_ps : List PE := [⟨0, 0, .val ty_10 true, false⟩, ⟨1, 16, .val ty_10 true, false⟩]
noncomputable def spec_ivMul_F (k : Nat) : Fn (((Int × Int) × Int × Int) × Bool) := ⟨spec_ivMul_C k, rdRes Tryz.prog spec_ivMul_ps [(ty_10, true), (.bool, false)] Tryz.f160.results.toList .ret, fun p => bif Nat.beq p 14950 then some (.loop spec_ivMul_i14950 spec_ivMul_o14950 2 192 (spec_ivMul_f14950 k k)) else bif Nat.beq p 58 then some (.loop spec_ivMul_i58 spec_ivMul_o58 0 128 (spec_ivMul_f58 k k)) else none, 0, []⟩
theorem spec_ivMul_eq (k : Nat) (x : PTe spec_ivMul_ps) : evFn (spec_ivMul_F k) (codeOf Tryz.f160) spec_ivMul_ps 32 x = spec_ivMul k x.1 x.2.1 := by kernel_rfl
theorem spec_ivMul_ls : loopsOf (codeOf Tryz.f160) 1 = [(58, loopB (codeOf Tryz.f160) 58), (14950, loopB (codeOf Tryz.f160) 14950)] := by kernel_rfl
theorem spec_ivMul_l14950 (k : Nat) : LoopOk (spec_ivMul_F k) (loopB (codeOf Tryz.f160) 14950) 14950 := LoopOk.mk (pin := spec_ivMul_i14950) (pout := spec_ivMul_o14950) (ex := 2) (nx := 192) (Lf := spec_ivMul_f14950 k) (k := k) (by kernel_rfl) (fun _ => rfl) (by intro n x; kernel_rfl)
theorem spec_ivMul_l58 (k : Nat) : LoopOk (spec_ivMul_F k) (loopB (codeOf Tryz.f160) 58) 58 := LoopOk.mk (pin := spec_ivMul_i58) (pout := spec_ivMul_o58) (ex := 0) (nx := 128) (Lf := spec_ivMul_f58 k) (k := k) (by kernel_rfl) (fun _ => rfl) (by intro n x; kernel_rfl)
theorem spec_ivMul_K (k : Nat) : Contract Tryz.prog 160 (spec_ivMul_V k) :=
  contract (C := spec_ivMul_C k) (F := spec_ivMul_F k) (fn := Tryz.f160) (c := codeOf Tryz.f160) (ps := spec_ivMul_ps) (rs := [(ty_10, true), (.bool, false)]) (nx := 32) ⟨tyOf_ok tys_ok, gOf_ok ⟨spec_dyMul_K k, spec_ivEnds_K k, spec_ivRound_K k, trivial⟩⟩ rfl (by kernel_rfl) (by kernel_rfl) (by kernel_rfl) (by kernel_rfl) (by kernel_rfl) (by kernel_rfl) rfl (by kernel_rfl) (by kernel_rfl) (AnnOk_list [(58, loopB (codeOf Tryz.f160) 58), (14950, loopB (codeOf Tryz.f160) 14950)] spec_ivMul_ls ⟨spec_ivMul_l58 k, spec_ivMul_l14950 k, trivial⟩) mix_ok (spec_ivMul_eq k)

noncomputable def spec_dyAdd_V (k : Nat) : Variant := ⟨[.val ty_1 true, .val ty_1 true], [(ty_1, true), (.bool, false)], fun x => spec_dyAdd k x.1 x.2.1⟩
noncomputable def spec_dyAdd_C (k : Nat) : Cfg := ⟨Tryz.prog, tyOf tys, 42, gOf [(144, [], spec_l1Most_V), (174, [], spec_dyAt_V k), (158, [], spec_dyMake_V k)], false, [], []⟩
def spec_dyAdd_ps : List PE := [⟨0, 0, .val ty_1 true, false⟩, ⟨1, 16, .val ty_1 true, false⟩]
noncomputable def spec_dyAdd_F (k : Nat) : Fn ((Int × Int) × Bool) := ⟨spec_dyAdd_C k, rdRes Tryz.prog spec_dyAdd_ps [(ty_1, true), (.bool, false)] Tryz.f183.results.toList .ret, fun p => none, 0, []⟩
theorem spec_dyAdd_eq (k : Nat) (x : PTe spec_dyAdd_ps) : evFn (spec_dyAdd_F k) (codeOf Tryz.f183) spec_dyAdd_ps 32 x = spec_dyAdd k x.1 x.2.1 := by kernel_rfl
theorem spec_dyAdd_K (k : Nat) : Contract Tryz.prog 183 (spec_dyAdd_V k) :=
  contract (C := spec_dyAdd_C k) (F := spec_dyAdd_F k) (fn := Tryz.f183) (c := codeOf Tryz.f183) (ps := spec_dyAdd_ps) (rs := [(ty_1, true), (.bool, false)]) (nx := 32) ⟨tyOf_ok tys_ok, gOf_ok ⟨spec_l1Most_K, spec_dyAt_K k, spec_dyMake_K k, trivial⟩⟩ rfl (by kernel_rfl) (by kernel_rfl) (by kernel_rfl) (by kernel_rfl) (by kernel_rfl) (by kernel_rfl) rfl (by kernel_rfl) (by kernel_rfl) (AnnOk_list [] (by kernel_rfl) trivial) mix_ok (spec_dyAdd_eq k)

noncomputable def spec_ivBoth_V : Variant := ⟨[.val ty_1 true, .val .bool false, .val ty_1 true, .val .bool false], [(ty_10, true), (.bool, false)], fun x => spec_ivBoth x.1 x.2.1 x.2.2.1 x.2.2.2.1⟩
noncomputable def spec_ivBoth_C : Cfg := ⟨Tryz.prog, tyOf tys, 20, gOf [], false, [], []⟩
def spec_ivBoth_ps : List PE := [⟨0, 0, .val ty_1 true, false⟩, ⟨1, 16, .val .bool false, false⟩, ⟨2, 32, .val ty_1 true, false⟩, ⟨3, 48, .val .bool false, false⟩]
noncomputable def spec_ivBoth_F : Fn (((Int × Int) × Int × Int) × Bool) := ⟨spec_ivBoth_C, rdRes Tryz.prog spec_ivBoth_ps [(ty_10, true), (.bool, false)] Tryz.f184.results.toList .ret, fun p => none, 0, []⟩
theorem spec_ivBoth_eq (x : PTe spec_ivBoth_ps) : evFn (spec_ivBoth_F) (codeOf Tryz.f184) spec_ivBoth_ps 64 x = spec_ivBoth x.1 x.2.1 x.2.2.1 x.2.2.2.1 := by kernel_rfl
theorem spec_ivBoth_K : Contract Tryz.prog 184 (spec_ivBoth_V) :=
  contract (C := spec_ivBoth_C) (F := spec_ivBoth_F) (fn := Tryz.f184) (c := codeOf Tryz.f184) (ps := spec_ivBoth_ps) (rs := [(ty_10, true), (.bool, false)]) (nx := 64) ⟨tyOf_ok tys_ok, gOf_ok trivial⟩ rfl (by kernel_rfl) (by kernel_rfl) (by kernel_rfl) (by kernel_rfl) (by kernel_rfl) (by kernel_rfl) rfl (by kernel_rfl) (by kernel_rfl) (AnnOk_list [] (by kernel_rfl) trivial) mix_ok (spec_ivBoth_eq)

noncomputable def spec_ivAdd_V (k : Nat) : Variant := ⟨[.val ty_10 true, .val ty_10 true], [(ty_10, true), (.bool, false)], fun x => spec_ivAdd k x.1 x.2.1⟩
noncomputable def spec_ivAdd_C (k : Nat) : Cfg := ⟨Tryz.prog, tyOf tys, 33, gOf [(183, [], spec_dyAdd_V k), (184, [], spec_ivBoth_V)], false, [], []⟩
def spec_ivAdd_ps : List PE := [⟨0, 0, .val ty_10 true, false⟩, ⟨1, 16, .val ty_10 true, false⟩]
noncomputable def spec_ivAdd_F (k : Nat) : Fn (((Int × Int) × Int × Int) × Bool) := ⟨spec_ivAdd_C k, rdRes Tryz.prog spec_ivAdd_ps [(ty_10, true), (.bool, false)] Tryz.f161.results.toList .ret, fun p => none, 0, []⟩
theorem spec_ivAdd_eq (k : Nat) (x : PTe spec_ivAdd_ps) : evFn (spec_ivAdd_F k) (codeOf Tryz.f161) spec_ivAdd_ps 32 x = spec_ivAdd k x.1 x.2.1 := by kernel_rfl
theorem spec_ivAdd_K (k : Nat) : Contract Tryz.prog 161 (spec_ivAdd_V k) :=
  contract (C := spec_ivAdd_C k) (F := spec_ivAdd_F k) (fn := Tryz.f161) (c := codeOf Tryz.f161) (ps := spec_ivAdd_ps) (rs := [(ty_10, true), (.bool, false)]) (nx := 32) ⟨tyOf_ok tys_ok, gOf_ok ⟨spec_dyAdd_K k, spec_ivBoth_K, trivial⟩⟩ rfl (by kernel_rfl) (by kernel_rfl) (by kernel_rfl) (by kernel_rfl) (by kernel_rfl) (by kernel_rfl) rfl (by kernel_rfl) (by kernel_rfl) (AnnOk_list [] (by kernel_rfl) trivial) mix_ok (spec_ivAdd_eq k)

noncomputable def spec_vaOver_V (k : Nat) : Variant := ⟨[.val ty_4 false, .val ty_14 false], [(ty_10, true), (.bool, false)], fun x => spec_vaOver k x.1 x.2.1⟩
noncomputable def spec_vaOver_C (k : Nat) : Cfg := ⟨Tryz.prog, tyOf tys, 71, gOf [(148, [], spec_dyInt_V), (112, [], spec_vaPure_V), (145, [], spec_poPower_V), (159, [], spec_ivPower_V k), (160, [], spec_ivMul_V k), (161, [], spec_ivAdd_V k)], false, [], []⟩
def spec_vaOver_i59802 : List PE := [⟨1, 32, .val ty_14 false, false⟩, ⟨4, 48, .box ty_10 false, false⟩, ⟨6, 64, .box ty_10 false, false⟩, ⟨8, 80, .box ty_3 false, false⟩, ⟨9, 96, .box ty_10 false, false⟩, ⟨20, 112, .val ty_4 false, false⟩, ⟨21, 128, .val ty_0 false, false⟩, ⟨22, 144, .val ty_0 false, false⟩, ⟨30, 160, .val ty_14 false, false⟩, ⟨31, 176, .val ty_0 false, false⟩, ⟨32, 192, .val ty_0 false, false⟩]
def spec_vaOver_o59802 : List PE := [⟨1, 32, .val ty_14 false, false⟩, ⟨4, 48, .box ty_10 false, false⟩, ⟨6, 64, .box ty_10 false, false⟩, ⟨9, 80, .box ty_10 false, false⟩, ⟨20, 96, .val ty_4 false, false⟩, ⟨21, 112, .val ty_0 false, false⟩, ⟨22, 128, .val ty_0 false, false⟩]
noncomputable def spec_vaOver_f59802 (k : Nat) (n : Nat) (x8 : PTe spec_vaOver_i59802) : Option ((((Int × Int) × Int × Int) × Bool) ⊕ PTe spec_vaOver_o59802) := spec_vaOver_L59802 k n x8.1 x8.2.1 x8.2.2.1 x8.2.2.2.1 x8.2.2.2.2.1 x8.2.2.2.2.2.1 x8.2.2.2.2.2.2.1 x8.2.2.2.2.2.2.2.1 x8.2.2.2.2.2.2.2.2.1 x8.2.2.2.2.2.2.2.2.2.1 x8.2.2.2.2.2.2.2.2.2.2.1
def spec_vaOver_i58 : List PE := [⟨1, 32, .val ty_14 false, false⟩, ⟨4, 48, .box ty_10 false, false⟩, ⟨6, 64, .box ty_10 false, false⟩, ⟨20, 80, .val ty_4 false, false⟩, ⟨21, 96, .val ty_0 false, false⟩, ⟨22, 112, .val ty_0 false, false⟩]
def spec_vaOver_o58 : List PE := [⟨4, 32, .box ty_10 false, false⟩, ⟨6, 48, .box ty_10 false, false⟩]
noncomputable def spec_vaOver_f58 (k : Nat) (n : Nat) (x12 : PTe spec_vaOver_i58) : Option ((((Int × Int) × Int × Int) × Bool) ⊕ PTe spec_vaOver_o58) := spec_vaOver_L58 k n x12.1 x12.2.1 x12.2.2.1 x12.2.2.2.1 x12.2.2.2.2.1 x12.2.2.2.2.2.1
def spec_vaOver_ps : List PE := [⟨0, 0, .val ty_4 false, false⟩, ⟨1, 16, .val ty_14 false, false⟩]
noncomputable def spec_vaOver_F (k : Nat) : Fn (((Int × Int) × Int × Int) × Bool) := ⟨spec_vaOver_C k, rdRes Tryz.prog spec_vaOver_ps [(ty_10, true), (.bool, false)] Tryz.f128.results.toList .ret, fun p => bif Nat.beq p 59802 then some (.loop spec_vaOver_i59802 spec_vaOver_o59802 2 208 (spec_vaOver_f59802 k k)) else bif Nat.beq p 58 then some (.loop spec_vaOver_i58 spec_vaOver_o58 0 128 (spec_vaOver_f58 k k)) else none, 0, []⟩
theorem spec_vaOver_eq (k : Nat) (x : PTe spec_vaOver_ps) : evFn (spec_vaOver_F k) (codeOf Tryz.f128) spec_vaOver_ps 32 x = spec_vaOver k x.1 x.2.1 := by kernel_rfl
theorem spec_vaOver_ls : loopsOf (codeOf Tryz.f128) 1 = [(58, loopB (codeOf Tryz.f128) 58), (59802, loopB (codeOf Tryz.f128) 59802)] := by kernel_rfl
theorem spec_vaOver_l59802 (k : Nat) : LoopOk (spec_vaOver_F k) (loopB (codeOf Tryz.f128) 59802) 59802 := LoopOk.mk (pin := spec_vaOver_i59802) (pout := spec_vaOver_o59802) (ex := 2) (nx := 208) (Lf := spec_vaOver_f59802 k) (k := k) (by kernel_rfl) (fun _ => rfl) (by intro n x; kernel_rfl)
theorem spec_vaOver_l58 (k : Nat) : LoopOk (spec_vaOver_F k) (loopB (codeOf Tryz.f128) 58) 58 := LoopOk.mk (pin := spec_vaOver_i58) (pout := spec_vaOver_o58) (ex := 0) (nx := 128) (Lf := spec_vaOver_f58 k) (k := k) (by kernel_rfl) (fun _ => rfl) (by intro n x; kernel_rfl)
theorem spec_vaOver_K (k : Nat) : Contract Tryz.prog 128 (spec_vaOver_V k) :=
  contract (C := spec_vaOver_C k) (F := spec_vaOver_F k) (fn := Tryz.f128) (c := codeOf Tryz.f128) (ps := spec_vaOver_ps) (rs := [(ty_10, true), (.bool, false)]) (nx := 32) ⟨tyOf_ok tys_ok, gOf_ok ⟨spec_dyInt_K, spec_vaPure_K, spec_poPower_K, spec_ivPower_K k, spec_ivMul_K k, spec_ivAdd_K k, trivial⟩⟩ rfl (by kernel_rfl) (by kernel_rfl) (by kernel_rfl) (by kernel_rfl) (by kernel_rfl) (by kernel_rfl) rfl (by kernel_rfl) (by kernel_rfl) (AnnOk_list [(58, loopB (codeOf Tryz.f128) 58), (59802, loopB (codeOf Tryz.f128) 59802)] spec_vaOver_ls ⟨spec_vaOver_l58 k, spec_vaOver_l59802 k, trivial⟩) mix_ok (spec_vaOver_eq k)

noncomputable def spec_ivSign_V : Variant := ⟨[.val ty_10 true], [(ty_0, false)], fun x => spec_ivSign x.1⟩
noncomputable def spec_ivSign_C : Cfg := ⟨Tryz.prog, tyOf tys, 9, gOf [(162, [], spec_ivZero_V), (163, [], spec_l1Sign_V)], false, [], []⟩
def spec_ivSign_ps : List PE := [⟨0, 0, .val ty_10 true, false⟩]
noncomputable def spec_ivSign_F : Fn (Int) := ⟨spec_ivSign_C, rdRes Tryz.prog spec_ivSign_ps [(ty_0, false)] Tryz.f129.results.toList .ret, fun p => none, 0, []⟩
theorem spec_ivSign_eq (x : PTe spec_ivSign_ps) : evFn (spec_ivSign_F) (codeOf Tryz.f129) spec_ivSign_ps 16 x = spec_ivSign x.1 := by kernel_rfl
theorem spec_ivSign_K : Contract Tryz.prog 129 (spec_ivSign_V) :=
  contract (C := spec_ivSign_C) (F := spec_ivSign_F) (fn := Tryz.f129) (c := codeOf Tryz.f129) (ps := spec_ivSign_ps) (rs := [(ty_0, false)]) (nx := 16) ⟨tyOf_ok tys_ok, gOf_ok ⟨spec_ivZero_K, spec_l1Sign_K, trivial⟩⟩ rfl (by kernel_rfl) (by kernel_rfl) (by kernel_rfl) (by kernel_rfl) (by kernel_rfl) (by kernel_rfl) rfl (by kernel_rfl) (by kernel_rfl) (AnnOk_list [] (by kernel_rfl) trivial) mix_ok (spec_ivSign_eq)

noncomputable def spec_imHolds_V (k : Nat) : Variant := ⟨[.val ty_5 false, .val ty_14 false, .val ty_0 false], [(.bool, false)], fun x => spec_imHolds k x.1 x.2.1 x.2.2.1⟩
noncomputable def spec_imHolds_C (k : Nat) : Cfg := ⟨Tryz.prog, tyOf tys, 29, gOf [(128, [], spec_vaOver_V k), (129, [], spec_ivSign_V)], false, [], []⟩
def spec_imHolds_ps : List PE := [⟨0, 0, .val ty_5 false, false⟩, ⟨1, 16, .val ty_14 false, false⟩, ⟨2, 32, .val ty_0 false, false⟩]
noncomputable def spec_imHolds_F (k : Nat) : Fn (Bool) := ⟨spec_imHolds_C k, rdRes Tryz.prog spec_imHolds_ps [(.bool, false)] Tryz.f95.results.toList .ret, fun p => none, 0, []⟩
theorem spec_imHolds_eq (k : Nat) (x : PTe spec_imHolds_ps) : evFn (spec_imHolds_F k) (codeOf Tryz.f95) spec_imHolds_ps 48 x = spec_imHolds k x.1 x.2.1 x.2.2.1 := by kernel_rfl
theorem spec_imHolds_K (k : Nat) : Contract Tryz.prog 95 (spec_imHolds_V k) :=
  contract (C := spec_imHolds_C k) (F := spec_imHolds_F k) (fn := Tryz.f95) (c := codeOf Tryz.f95) (ps := spec_imHolds_ps) (rs := [(.bool, false)]) (nx := 48) ⟨tyOf_ok tys_ok, gOf_ok ⟨spec_vaOver_K k, spec_ivSign_K, trivial⟩⟩ rfl (by kernel_rfl) (by kernel_rfl) (by kernel_rfl) (by kernel_rfl) (by kernel_rfl) (by kernel_rfl) rfl (by kernel_rfl) (by kernel_rfl) (AnnOk_list [] (by kernel_rfl) trivial) mix_ok (spec_imHolds_eq k)

noncomputable def spec_imTurns_V (k : Nat) : Variant := ⟨[.val ty_7 false], [(ty_0, false), (.bool, false)], fun x => spec_imTurns k x.1⟩
noncomputable def spec_imTurns_C (k : Nat) : Cfg := ⟨Tryz.prog, tyOf tys, 42, gOf [], false, [], []⟩
def spec_imTurns_i58 : List PE := [⟨0, 16, .val ty_7 false, false⟩, ⟨4, 32, .val ty_0 false, false⟩, ⟨7, 48, .val ty_7 false, false⟩, ⟨8, 64, .val ty_0 false, false⟩, ⟨9, 80, .val ty_0 false, false⟩]
def spec_imTurns_o58 : List PE := [⟨4, 16, .val ty_0 false, false⟩]
noncomputable def spec_imTurns_f58 (k : Nat) (n : Nat) (x1 : PTe spec_imTurns_i58) : Option ((Int × Bool) ⊕ PTe spec_imTurns_o58) := spec_imTurns_L58 k n x1.1 x1.2.1 x1.2.2.1 x1.2.2.2.1 x1.2.2.2.2.1
def spec_imTurns_ps : List PE := [⟨0, 0, .val ty_7 false, false⟩]
noncomputable def spec_imTurns_F (k : Nat) : Fn (Int × Bool) := ⟨spec_imTurns_C k, rdRes Tryz.prog spec_imTurns_ps [(ty_0, false), (.bool, false)] Tryz.f98.results.toList .ret, fun p => bif Nat.beq p 58 then some (.loop spec_imTurns_i58 spec_imTurns_o58 0 96 (spec_imTurns_f58 k k)) else none, 0, []⟩
theorem spec_imTurns_eq (k : Nat) (x : PTe spec_imTurns_ps) : evFn (spec_imTurns_F k) (codeOf Tryz.f98) spec_imTurns_ps 16 x = spec_imTurns k x.1 := by kernel_rfl
theorem spec_imTurns_ls : loopsOf (codeOf Tryz.f98) 1 = [(58, loopB (codeOf Tryz.f98) 58)] := by kernel_rfl
theorem spec_imTurns_l58 (k : Nat) : LoopOk (spec_imTurns_F k) (loopB (codeOf Tryz.f98) 58) 58 := LoopOk.mk (pin := spec_imTurns_i58) (pout := spec_imTurns_o58) (ex := 0) (nx := 96) (Lf := spec_imTurns_f58 k) (k := k) (by kernel_rfl) (fun _ => rfl) (by intro n x; kernel_rfl)
theorem spec_imTurns_K (k : Nat) : Contract Tryz.prog 98 (spec_imTurns_V k) :=
  contract (C := spec_imTurns_C k) (F := spec_imTurns_F k) (fn := Tryz.f98) (c := codeOf Tryz.f98) (ps := spec_imTurns_ps) (rs := [(ty_0, false), (.bool, false)]) (nx := 16) ⟨tyOf_ok tys_ok, gOf_ok trivial⟩ rfl (by kernel_rfl) (by kernel_rfl) (by kernel_rfl) (by kernel_rfl) (by kernel_rfl) (by kernel_rfl) rfl (by kernel_rfl) (by kernel_rfl) (AnnOk_list [(58, loopB (codeOf Tryz.f98) 58)] spec_imTurns_ls ⟨spec_imTurns_l58 k, trivial⟩) mix_ok (spec_imTurns_eq k)

noncomputable def spec_CheckReasons_V (k : Nat) : Variant := ⟨[.val ty_5 false, .val ty_9 true, .val ty_7 false], [(.bool, false), (.bool, false)], fun x => spec_CheckReasons k x.1 x.2.1 x.2.2.1⟩
noncomputable def spec_CheckReasons_C (k : Nat) : Cfg := ⟨Tryz.prog, tyOf tys, 65, gOf [(91, [], spec_imGood_V k), (71, [], spec_dyPower_V), (94, [], spec_imEdges_V k), (86, [], spec_l1In_V), (58, [], spec_imSides_V k), (95, [], spec_imHolds_V k), (98, [], spec_imTurns_V k)], false, [], []⟩
def spec_CheckReasons_i14922 : List PE := [⟨0, 48, .val ty_5 false, false⟩, ⟨2, 64, .val ty_7 false, false⟩, ⟨34, 80, .eat ty_12, false⟩, ⟨35, 96, .val ty_0 false, false⟩, ⟨36, 112, .val ty_0 false, false⟩]
def spec_CheckReasons_o14922 : List PE := [⟨2, 48, .val ty_7 false, false⟩]
noncomputable def spec_CheckReasons_f14922 (k : Nat) (n : Nat) (x7 : PTe spec_CheckReasons_i14922) : Option ((Bool × Bool) ⊕ PTe spec_CheckReasons_o14922) := spec_CheckReasons_L14922 k n x7.1 x7.2.1 x7.2.2.1 x7.2.2.2.1 x7.2.2.2.2.1
def spec_CheckReasons_i58 : List PE := [⟨0, 48, .val ty_5 false, false⟩, ⟨2, 64, .val ty_7 false, false⟩, ⟨4, 80, .box ty_9 false, false⟩, ⟨8, 96, .val ty_0 false, false⟩]
def spec_CheckReasons_o58 : List PE := []
noncomputable def spec_CheckReasons_f58 (k : Nat) (n : Nat) (x11 : PTe spec_CheckReasons_i58) : Option ((Bool × Bool) ⊕ PTe spec_CheckReasons_o58) := spec_CheckReasons_L58 k n x11.1 x11.2.1 x11.2.2.1 x11.2.2.2.1
def spec_CheckReasons_ps : List PE := [⟨0, 0, .val ty_5 false, false⟩, ⟨1, 16, .val ty_9 true, false⟩, ⟨2, 32, .val ty_7 false, false⟩]
noncomputable def spec_CheckReasons_F (k : Nat) : Fn (Bool × Bool) := ⟨spec_CheckReasons_C k, rdRes Tryz.prog spec_CheckReasons_ps [(.bool, false), (.bool, false)] Tryz.f42.results.toList .ret, fun p => bif Nat.beq p 14922 then some (.loop spec_CheckReasons_i14922 spec_CheckReasons_o14922 2 128 (spec_CheckReasons_f14922 k k)) else bif Nat.beq p 58 then some (.loop spec_CheckReasons_i58 spec_CheckReasons_o58 0 112 (spec_CheckReasons_f58 k k)) else none, 0, []⟩
theorem spec_CheckReasons_eq (k : Nat) (x : PTe spec_CheckReasons_ps) : evFn (spec_CheckReasons_F k) (codeOf Tryz.f42) spec_CheckReasons_ps 48 x = spec_CheckReasons k x.1 x.2.1 x.2.2.1 := by kernel_rfl
theorem spec_CheckReasons_ls : loopsOf (codeOf Tryz.f42) 1 = [(58, loopB (codeOf Tryz.f42) 58), (14922, loopB (codeOf Tryz.f42) 14922)] := by kernel_rfl
theorem spec_CheckReasons_l14922 (k : Nat) : LoopOk (spec_CheckReasons_F k) (loopB (codeOf Tryz.f42) 14922) 14922 := LoopOk.mk (pin := spec_CheckReasons_i14922) (pout := spec_CheckReasons_o14922) (ex := 2) (nx := 128) (Lf := spec_CheckReasons_f14922 k) (k := k) (by kernel_rfl) (fun _ => rfl) (by intro n x; kernel_rfl)
theorem spec_CheckReasons_l58 (k : Nat) : LoopOk (spec_CheckReasons_F k) (loopB (codeOf Tryz.f42) 58) 58 := LoopOk.mk (pin := spec_CheckReasons_i58) (pout := spec_CheckReasons_o58) (ex := 0) (nx := 112) (Lf := spec_CheckReasons_f58 k) (k := k) (by kernel_rfl) (fun _ => rfl) (by intro n x; kernel_rfl)
theorem spec_CheckReasons_K (k : Nat) : Contract Tryz.prog 42 (spec_CheckReasons_V k) :=
  contract (C := spec_CheckReasons_C k) (F := spec_CheckReasons_F k) (fn := Tryz.f42) (c := codeOf Tryz.f42) (ps := spec_CheckReasons_ps) (rs := [(.bool, false), (.bool, false)]) (nx := 48) ⟨tyOf_ok tys_ok, gOf_ok ⟨spec_imGood_K k, spec_dyPower_K, spec_imEdges_K k, spec_l1In_K, spec_imSides_K k, spec_imHolds_K k, spec_imTurns_K k, trivial⟩⟩ rfl (by kernel_rfl) (by kernel_rfl) (by kernel_rfl) (by kernel_rfl) (by kernel_rfl) (by kernel_rfl) rfl (by kernel_rfl) (by kernel_rfl) (AnnOk_list [(58, loopB (codeOf Tryz.f42) 58), (14922, loopB (codeOf Tryz.f42) 14922)] spec_CheckReasons_ls ⟨spec_CheckReasons_l58 k, spec_CheckReasons_l14922 k, trivial⟩) mix_ok (spec_CheckReasons_eq k)

noncomputable def impl_inside_V : Variant := ⟨[.val ty_0 false, .val ty_0 false, .val ty_0 false], [(.bool, false)], fun x => impl_inside x.1 x.2.1 x.2.2.1⟩
noncomputable def impl_inside_C : Cfg := ⟨Tryz.prog, tyOf tys, 15, gOf [], false, [], []⟩
def impl_inside_ps : List PE := [⟨0, 0, .val ty_0 false, false⟩, ⟨1, 16, .val ty_0 false, false⟩, ⟨2, 32, .val ty_0 false, false⟩]
noncomputable def impl_inside_F : Fn (Bool) := ⟨impl_inside_C, rdRes Tryz.prog impl_inside_ps [(.bool, false)] Tryz.f73.results.toList .ret, fun p => none, 0, []⟩
theorem impl_inside_eq (x : PTe impl_inside_ps) : evFn (impl_inside_F) (codeOf Tryz.f73) impl_inside_ps 48 x = impl_inside x.1 x.2.1 x.2.2.1 := by kernel_rfl
theorem impl_inside_K : Contract Tryz.prog 73 (impl_inside_V) :=
  contract (C := impl_inside_C) (F := impl_inside_F) (fn := Tryz.f73) (c := codeOf Tryz.f73) (ps := impl_inside_ps) (rs := [(.bool, false)]) (nx := 48) ⟨tyOf_ok tys_ok, gOf_ok trivial⟩ rfl (by kernel_rfl) (by kernel_rfl) (by kernel_rfl) (by kernel_rfl) (by kernel_rfl) (by kernel_rfl) rfl (by kernel_rfl) (by kernel_rfl) (AnnOk_list [] (by kernel_rfl) trivial) mix_ok (impl_inside_eq)

noncomputable def impl_Term_degree_V : Variant := ⟨[.val ty_3 true], [(ty_0, false)], fun x => impl_Term_degree x.1⟩
noncomputable def impl_Term_degree_C : Cfg := ⟨Tryz.prog, tyOf tys, 11, gOf [], false, [], []⟩
def impl_Term_degree_ps : List PE := [⟨0, 0, .val ty_3 true, false⟩]
noncomputable def impl_Term_degree_F : Fn (Int) := ⟨impl_Term_degree_C, rdRes Tryz.prog impl_Term_degree_ps [(ty_0, false)] Tryz.f194.results.toList .ret, fun p => none, 0, []⟩
theorem impl_Term_degree_eq (x : PTe impl_Term_degree_ps) : evFn (impl_Term_degree_F) (codeOf Tryz.f194) impl_Term_degree_ps 16 x = impl_Term_degree x.1 := by kernel_rfl
theorem impl_Term_degree_K : Contract Tryz.prog 194 (impl_Term_degree_V) :=
  contract (C := impl_Term_degree_C) (F := impl_Term_degree_F) (fn := Tryz.f194) (c := codeOf Tryz.f194) (ps := impl_Term_degree_ps) (rs := [(ty_0, false)]) (nx := 16) ⟨tyOf_ok tys_ok, gOf_ok trivial⟩ rfl (by kernel_rfl) (by kernel_rfl) (by kernel_rfl) (by kernel_rfl) (by kernel_rfl) (by kernel_rfl) rfl (by kernel_rfl) (by kernel_rfl) (AnnOk_list [] (by kernel_rfl) trivial) mix_ok (impl_Term_degree_eq)

noncomputable def impl_hasDegree_V : Variant := ⟨[.val ty_3 true], [(.bool, false)], fun x => impl_hasDegree x.1⟩
noncomputable def impl_hasDegree_C : Cfg := ⟨Tryz.prog, tyOf tys, 21, gOf [(73, [], impl_inside_V), (194, [], impl_Term_degree_V)], false, [], []⟩
def impl_hasDegree_ps : List PE := [⟨0, 0, .val ty_3 true, false⟩]
noncomputable def impl_hasDegree_F : Fn (Bool) := ⟨impl_hasDegree_C, rdRes Tryz.prog impl_hasDegree_ps [(.bool, false)] Tryz.f177.results.toList .ret, fun p => none, 0, []⟩
theorem impl_hasDegree_eq (x : PTe impl_hasDegree_ps) : evFn (impl_hasDegree_F) (codeOf Tryz.f177) impl_hasDegree_ps 16 x = impl_hasDegree x.1 := by kernel_rfl
theorem impl_hasDegree_K : Contract Tryz.prog 177 (impl_hasDegree_V) :=
  contract (C := impl_hasDegree_C) (F := impl_hasDegree_F) (fn := Tryz.f177) (c := codeOf Tryz.f177) (ps := impl_hasDegree_ps) (rs := [(.bool, false)]) (nx := 16) ⟨tyOf_ok tys_ok, gOf_ok ⟨impl_inside_K, impl_Term_degree_K, trivial⟩⟩ rfl (by kernel_rfl) (by kernel_rfl) (by kernel_rfl) (by kernel_rfl) (by kernel_rfl) (by kernel_rfl) rfl (by kernel_rfl) (by kernel_rfl) (AnnOk_list [] (by kernel_rfl) trivial) mix_ok (impl_hasDegree_eq)

noncomputable def cmp_isNaN_int_V : Variant := ⟨[.val ty_0 false], [(.bool, false)], fun x => cmp_isNaN_int x.1⟩
noncomputable def cmp_isNaN_int_C : Cfg := ⟨Tryz.prog, tyOf tys, 6, gOf [], false, [], []⟩
def cmp_isNaN_int_ps : List PE := [⟨0, 0, .val ty_0 false, false⟩]
noncomputable def cmp_isNaN_int_F : Fn (Bool) := ⟨cmp_isNaN_int_C, rdRes Tryz.prog cmp_isNaN_int_ps [(.bool, false)] Tryz.f206.results.toList .ret, fun p => none, 0, []⟩
theorem cmp_isNaN_int_eq (x : PTe cmp_isNaN_int_ps) : evFn (cmp_isNaN_int_F) (codeOf Tryz.f206) cmp_isNaN_int_ps 16 x = cmp_isNaN_int x.1 := by kernel_rfl
theorem cmp_isNaN_int_K : Contract Tryz.prog 206 (cmp_isNaN_int_V) :=
  contract (C := cmp_isNaN_int_C) (F := cmp_isNaN_int_F) (fn := Tryz.f206) (c := codeOf Tryz.f206) (ps := cmp_isNaN_int_ps) (rs := [(.bool, false)]) (nx := 16) ⟨tyOf_ok tys_ok, gOf_ok trivial⟩ rfl (by kernel_rfl) (by kernel_rfl) (by kernel_rfl) (by kernel_rfl) (by kernel_rfl) (by kernel_rfl) rfl (by kernel_rfl) (by kernel_rfl) (AnnOk_list [] (by kernel_rfl) trivial) mix_ok (cmp_isNaN_int_eq)

noncomputable def cmp_Compare_int_V : Variant := ⟨[.val ty_0 false, .val ty_0 false], [(ty_0, false)], fun x => cmp_Compare_int x.1 x.2.1⟩
noncomputable def cmp_Compare_int_C : Cfg := ⟨Tryz.prog, tyOf tys, 20, gOf [(206, [], cmp_isNaN_int_V)], false, [], []⟩
def cmp_Compare_int_ps : List PE := [⟨0, 0, .val ty_0 false, false⟩, ⟨1, 16, .val ty_0 false, false⟩]
noncomputable def cmp_Compare_int_F : Fn (Int) := ⟨cmp_Compare_int_C, rdRes Tryz.prog cmp_Compare_int_ps [(ty_0, false)] Tryz.f196.results.toList .ret, fun p => none, 0, []⟩
theorem cmp_Compare_int_eq (x : PTe cmp_Compare_int_ps) : evFn (cmp_Compare_int_F) (codeOf Tryz.f196) cmp_Compare_int_ps 32 x = cmp_Compare_int x.1 x.2.1 := by kernel_rfl
theorem cmp_Compare_int_K : Contract Tryz.prog 196 (cmp_Compare_int_V) :=
  contract (C := cmp_Compare_int_C) (F := cmp_Compare_int_F) (fn := Tryz.f196) (c := codeOf Tryz.f196) (ps := cmp_Compare_int_ps) (rs := [(ty_0, false)]) (nx := 32) ⟨tyOf_ok tys_ok, gOf_ok ⟨cmp_isNaN_int_K, trivial⟩⟩ rfl (by kernel_rfl) (by kernel_rfl) (by kernel_rfl) (by kernel_rfl) (by kernel_rfl) (by kernel_rfl) rfl (by kernel_rfl) (by kernel_rfl) (AnnOk_list [] (by kernel_rfl) trivial) mix_ok (cmp_Compare_int_eq)

noncomputable def cmp_Or_int_V (k : Nat) : Variant := ⟨[.val ty_7 false], [(ty_0, false)], fun x => cmp_Or_int k x.1⟩
noncomputable def cmp_Or_int_C (k : Nat) : Cfg := ⟨Tryz.prog, tyOf tys, 18, gOf [], false, [], []⟩
def cmp_Or_int_i58 : List PE := [⟨3, 16, .val ty_0 false, false⟩, ⟨6, 32, .val ty_7 false, false⟩, ⟨7, 48, .val ty_0 false, false⟩, ⟨8, 64, .val ty_0 false, false⟩]
def cmp_Or_int_o58 : List PE := [⟨3, 16, .val ty_0 false, false⟩]
noncomputable def cmp_Or_int_f58 (k : Nat) (n : Nat) (x1 : PTe cmp_Or_int_i58) : Option ((Int) ⊕ PTe cmp_Or_int_o58) := cmp_Or_int_L58 k n x1.1 x1.2.1 x1.2.2.1 x1.2.2.2.1
def cmp_Or_int_ps : List PE := [⟨0, 0, .val ty_7 false, false⟩]
noncomputable def cmp_Or_int_F (k : Nat) : Fn (Int) := ⟨cmp_Or_int_C k, rdRes Tryz.prog cmp_Or_int_ps [(ty_0, false)] Tryz.f195.results.toList .ret, fun p => bif Nat.beq p 58 then some (.loop cmp_Or_int_i58 cmp_Or_int_o58 0 80 (cmp_Or_int_f58 k k)) else none, 0, []⟩
theorem cmp_Or_int_eq (k : Nat) (x : PTe cmp_Or_int_ps) : evFn (cmp_Or_int_F k) (codeOf Tryz.f195) cmp_Or_int_ps 16 x = cmp_Or_int k x.1 := by kernel_rfl
theorem cmp_Or_int_ls : loopsOf (codeOf Tryz.f195) 1 = [(58, loopB (codeOf Tryz.f195) 58)] := by kernel_rfl
theorem cmp_Or_int_l58 (k : Nat) : LoopOk (cmp_Or_int_F k) (loopB (codeOf Tryz.f195) 58) 58 := LoopOk.mk (pin := cmp_Or_int_i58) (pout := cmp_Or_int_o58) (ex := 0) (nx := 80) (Lf := cmp_Or_int_f58 k) (k := k) (by kernel_rfl) (fun _ => rfl) (by intro n x; kernel_rfl)
theorem cmp_Or_int_K (k : Nat) : Contract Tryz.prog 195 (cmp_Or_int_V k) :=
  contract (C := cmp_Or_int_C k) (F := cmp_Or_int_F k) (fn := Tryz.f195) (c := codeOf Tryz.f195) (ps := cmp_Or_int_ps) (rs := [(ty_0, false)]) (nx := 16) ⟨tyOf_ok tys_ok, gOf_ok trivial⟩ rfl (by kernel_rfl) (by kernel_rfl) (by kernel_rfl) (by kernel_rfl) (by kernel_rfl) (by kernel_rfl) rfl (by kernel_rfl) (by kernel_rfl) (AnnOk_list [(58, loopB (codeOf Tryz.f195) 58)] cmp_Or_int_ls ⟨cmp_Or_int_l58 k, trivial⟩) mix_ok (cmp_Or_int_eq k)

noncomputable def impl_compareTerms_V (k : Nat) : Variant := ⟨[.val ty_3 true, .val ty_3 true], [(ty_0, false)], fun x => impl_compareTerms k x.1 x.2.1⟩
noncomputable def impl_compareTerms_C (k : Nat) : Cfg := ⟨Tryz.prog, tyOf tys, 22, gOf [(196, [], cmp_Compare_int_V), (195, [], cmp_Or_int_V k)], false, [], []⟩
def impl_compareTerms_ps : List PE := [⟨0, 0, .val ty_3 true, false⟩, ⟨1, 16, .val ty_3 true, false⟩]
noncomputable def impl_compareTerms_F (k : Nat) : Fn (Int) := ⟨impl_compareTerms_C k, rdRes Tryz.prog impl_compareTerms_ps [(ty_0, false)] Tryz.f178.results.toList .ret, fun p => none, 0, []⟩
theorem impl_compareTerms_eq (k : Nat) (x : PTe impl_compareTerms_ps) : evFn (impl_compareTerms_F k) (codeOf Tryz.f178) impl_compareTerms_ps 32 x = impl_compareTerms k x.1 x.2.1 := by kernel_rfl
theorem impl_compareTerms_K (k : Nat) : Contract Tryz.prog 178 (impl_compareTerms_V k) :=
  contract (C := impl_compareTerms_C k) (F := impl_compareTerms_F k) (fn := Tryz.f178) (c := codeOf Tryz.f178) (ps := impl_compareTerms_ps) (rs := [(ty_0, false)]) (nx := 32) ⟨tyOf_ok tys_ok, gOf_ok ⟨cmp_Compare_int_K, cmp_Or_int_K k, trivial⟩⟩ rfl (by kernel_rfl) (by kernel_rfl) (by kernel_rfl) (by kernel_rfl) (by kernel_rfl) (by kernel_rfl) rfl (by kernel_rfl) (by kernel_rfl) (AnnOk_list [] (by kernel_rfl) trivial) mix_ok (impl_compareTerms_eq k)

noncomputable def impl_isPoly_V (k : Nat) : Variant := ⟨[.val ty_4 false], [(.bool, false)], fun x => impl_isPoly k x.1⟩
noncomputable def impl_isPoly_C (k : Nat) : Cfg := ⟨Tryz.prog, tyOf tys, 44, gOf [(73, [], impl_inside_V), (177, [], impl_hasDegree_V), (178, [], impl_compareTerms_V k)], false, [], []⟩
def impl_isPoly_i26 : List PE := [⟨0, 16, .val ty_4 false, false⟩, ⟨5, 32, .val ty_4 false, false⟩, ⟨6, 48, .val ty_0 false, false⟩, ⟨7, 64, .val ty_0 false, false⟩]
def impl_isPoly_o26 : List PE := [⟨0, 16, .val ty_4 false, false⟩]
noncomputable def impl_isPoly_f26 (k : Nat) (n : Nat) (x4 : PTe impl_isPoly_i26) : Option ((Bool) ⊕ PTe impl_isPoly_o26) := impl_isPoly_L26 k n x4.1 x4.2.1 x4.2.2.1 x4.2.2.2.1
def impl_isPoly_ps : List PE := [⟨0, 0, .val ty_4 false, false⟩]
noncomputable def impl_isPoly_F (k : Nat) : Fn (Bool) := ⟨impl_isPoly_C k, rdRes Tryz.prog impl_isPoly_ps [(.bool, false)] Tryz.f149.results.toList .ret, fun p => bif Nat.beq p 26 then some (.loop impl_isPoly_i26 impl_isPoly_o26 0 80 (impl_isPoly_f26 k k)) else none, 0, []⟩
theorem impl_isPoly_eq (k : Nat) (x : PTe impl_isPoly_ps) : evFn (impl_isPoly_F k) (codeOf Tryz.f149) impl_isPoly_ps 16 x = impl_isPoly k x.1 := by kernel_rfl
theorem impl_isPoly_ls : loopsOf (codeOf Tryz.f149) 1 = [(26, loopB (codeOf Tryz.f149) 26)] := by kernel_rfl
theorem impl_isPoly_l26 (k : Nat) : LoopOk (impl_isPoly_F k) (loopB (codeOf Tryz.f149) 26) 26 := LoopOk.mk (pin := impl_isPoly_i26) (pout := impl_isPoly_o26) (ex := 0) (nx := 80) (Lf := impl_isPoly_f26 k) (k := k) (by kernel_rfl) (fun _ => rfl) (by intro n x; kernel_rfl)
theorem impl_isPoly_K (k : Nat) : Contract Tryz.prog 149 (impl_isPoly_V k) :=
  contract (C := impl_isPoly_C k) (F := impl_isPoly_F k) (fn := Tryz.f149) (c := codeOf Tryz.f149) (ps := impl_isPoly_ps) (rs := [(.bool, false)]) (nx := 16) ⟨tyOf_ok tys_ok, gOf_ok ⟨impl_inside_K, impl_hasDegree_K, impl_compareTerms_K k, trivial⟩⟩ rfl (by kernel_rfl) (by kernel_rfl) (by kernel_rfl) (by kernel_rfl) (by kernel_rfl) (by kernel_rfl) rfl (by kernel_rfl) (by kernel_rfl) (AnnOk_list [(26, loopB (codeOf Tryz.f149) 26)] impl_isPoly_ls ⟨impl_isPoly_l26 k, trivial⟩) mix_ok (impl_isPoly_eq k)

noncomputable def impl_Term_exponents_V : Variant := ⟨[.val ty_3 true], [(ty_2, true)], fun x => impl_Term_exponents x.1⟩
noncomputable def impl_Term_exponents_C : Cfg := ⟨Tryz.prog, tyOf tys, 10, gOf [], false, [], []⟩
def impl_Term_exponents_ps : List PE := [⟨0, 0, .val ty_3 true, false⟩]
noncomputable def impl_Term_exponents_F : Fn (Int × Int × Int) := ⟨impl_Term_exponents_C, rdRes Tryz.prog impl_Term_exponents_ps [(ty_2, true)] Tryz.f167.results.toList .ret, fun p => none, 0, []⟩
theorem impl_Term_exponents_eq (x : PTe impl_Term_exponents_ps) : evFn (impl_Term_exponents_F) (codeOf Tryz.f167) impl_Term_exponents_ps 16 x = impl_Term_exponents x.1 := by kernel_rfl
theorem impl_Term_exponents_K : Contract Tryz.prog 167 (impl_Term_exponents_V) :=
  contract (C := impl_Term_exponents_C) (F := impl_Term_exponents_F) (fn := Tryz.f167) (c := codeOf Tryz.f167) (ps := impl_Term_exponents_ps) (rs := [(ty_2, true)]) (nx := 16) ⟨tyOf_ok tys_ok, gOf_ok trivial⟩ rfl (by kernel_rfl) (by kernel_rfl) (by kernel_rfl) (by kernel_rfl) (by kernel_rfl) (by kernel_rfl) rfl (by kernel_rfl) (by kernel_rfl) (AnnOk_list [] (by kernel_rfl) trivial) mix_ok (impl_Term_exponents_eq)

noncomputable def impl_needsAtMost_V (k : Nat) : Variant := ⟨[.val ty_4 false, .val ty_0 false], [(.bool, false)], fun x => impl_needsAtMost k x.1 x.2.1⟩
noncomputable def impl_needsAtMost_C (k : Nat) : Cfg := ⟨Tryz.prog, tyOf tys, 30, gOf [(167, [], impl_Term_exponents_V)], false, [], []⟩
def impl_needsAtMost_i6758 : List PE := [⟨1, 32, .val ty_0 false, false⟩, ⟨9, 48, .val ty_4 false, false⟩, ⟨10, 64, .val ty_0 false, false⟩, ⟨11, 80, .val ty_0 false, false⟩, ⟨16, 96, .val ty_2 true, false⟩, ⟨17, 112, .val ty_0 false, false⟩]
def impl_needsAtMost_o6758 : List PE := [⟨1, 32, .val ty_0 false, false⟩, ⟨9, 48, .val ty_4 false, false⟩, ⟨10, 64, .val ty_0 false, false⟩, ⟨11, 80, .val ty_0 false, false⟩]
noncomputable def impl_needsAtMost_f6758 (k : Nat) (n : Nat) (x2 : PTe impl_needsAtMost_i6758) : Option ((Bool) ⊕ PTe impl_needsAtMost_o6758) := impl_needsAtMost_L6758 k n x2.1 x2.2.1 x2.2.2.1 x2.2.2.2.1 x2.2.2.2.2.1 x2.2.2.2.2.2.1
def impl_needsAtMost_i26 : List PE := [⟨1, 32, .val ty_0 false, false⟩, ⟨9, 48, .val ty_4 false, false⟩, ⟨10, 64, .val ty_0 false, false⟩, ⟨11, 80, .val ty_0 false, false⟩]
def impl_needsAtMost_o26 : List PE := []
noncomputable def impl_needsAtMost_f26 (k : Nat) (n : Nat) (x5 : PTe impl_needsAtMost_i26) : Option ((Bool) ⊕ PTe impl_needsAtMost_o26) := impl_needsAtMost_L26 k n x5.1 x5.2.1 x5.2.2.1 x5.2.2.2.1
def impl_needsAtMost_ps : List PE := [⟨0, 0, .val ty_4 false, false⟩, ⟨1, 16, .val ty_0 false, false⟩]
noncomputable def impl_needsAtMost_F (k : Nat) : Fn (Bool) := ⟨impl_needsAtMost_C k, rdRes Tryz.prog impl_needsAtMost_ps [(.bool, false)] Tryz.f150.results.toList .ret, fun p => bif Nat.beq p 6758 then some (.loop impl_needsAtMost_i6758 impl_needsAtMost_o6758 2 128 (impl_needsAtMost_f6758 k k)) else bif Nat.beq p 26 then some (.loop impl_needsAtMost_i26 impl_needsAtMost_o26 0 96 (impl_needsAtMost_f26 k k)) else none, 0, []⟩
theorem impl_needsAtMost_eq (k : Nat) (x : PTe impl_needsAtMost_ps) : evFn (impl_needsAtMost_F k) (codeOf Tryz.f150) impl_needsAtMost_ps 32 x = impl_needsAtMost k x.1 x.2.1 := by kernel_rfl
theorem impl_needsAtMost_ls : loopsOf (codeOf Tryz.f150) 1 = [(26, loopB (codeOf Tryz.f150) 26), (6758, loopB (codeOf Tryz.f150) 6758)] := by kernel_rfl
theorem impl_needsAtMost_l6758 (k : Nat) : LoopOk (impl_needsAtMost_F k) (loopB (codeOf Tryz.f150) 6758) 6758 := LoopOk.mk (pin := impl_needsAtMost_i6758) (pout := impl_needsAtMost_o6758) (ex := 2) (nx := 128) (Lf := impl_needsAtMost_f6758 k) (k := k) (by kernel_rfl) (fun _ => rfl) (by intro n x; kernel_rfl)
theorem impl_needsAtMost_l26 (k : Nat) : LoopOk (impl_needsAtMost_F k) (loopB (codeOf Tryz.f150) 26) 26 := LoopOk.mk (pin := impl_needsAtMost_i26) (pout := impl_needsAtMost_o26) (ex := 0) (nx := 96) (Lf := impl_needsAtMost_f26 k) (k := k) (by kernel_rfl) (fun _ => rfl) (by intro n x; kernel_rfl)
theorem impl_needsAtMost_K (k : Nat) : Contract Tryz.prog 150 (impl_needsAtMost_V k) :=
  contract (C := impl_needsAtMost_C k) (F := impl_needsAtMost_F k) (fn := Tryz.f150) (c := codeOf Tryz.f150) (ps := impl_needsAtMost_ps) (rs := [(.bool, false)]) (nx := 32) ⟨tyOf_ok tys_ok, gOf_ok ⟨impl_Term_exponents_K, trivial⟩⟩ rfl (by kernel_rfl) (by kernel_rfl) (by kernel_rfl) (by kernel_rfl) (by kernel_rfl) (by kernel_rfl) rfl (by kernel_rfl) (by kernel_rfl) (AnnOk_list [(26, loopB (codeOf Tryz.f150) 26), (6758, loopB (codeOf Tryz.f150) 6758)] impl_needsAtMost_ls ⟨impl_needsAtMost_l26 k, impl_needsAtMost_l6758 k, trivial⟩) mix_ok (impl_needsAtMost_eq k)

noncomputable def impl_isSystem_V (k : Nat) : Variant := ⟨[.val ty_5 false], [(.bool, false)], fun x => impl_isSystem k x.1⟩
noncomputable def impl_isSystem_C (k : Nat) : Cfg := ⟨Tryz.prog, tyOf tys, 25, gOf [(149, [], impl_isPoly_V k), (150, [], impl_needsAtMost_V k), (73, [], impl_inside_V)], false, [], []⟩
def impl_isSystem_i26 : List PE := [⟨0, 16, .val ty_5 false, false⟩, ⟨5, 32, .val ty_5 false, false⟩, ⟨6, 48, .val ty_0 false, false⟩, ⟨7, 64, .val ty_0 false, false⟩]
def impl_isSystem_o26 : List PE := [⟨0, 16, .val ty_5 false, false⟩]
noncomputable def impl_isSystem_f26 (k : Nat) (n : Nat) (x3 : PTe impl_isSystem_i26) : Option ((Bool) ⊕ PTe impl_isSystem_o26) := impl_isSystem_L26 k n x3.1 x3.2.1 x3.2.2.1 x3.2.2.2.1
def impl_isSystem_ps : List PE := [⟨0, 0, .val ty_5 false, false⟩]
noncomputable def impl_isSystem_F (k : Nat) : Fn (Bool) := ⟨impl_isSystem_C k, rdRes Tryz.prog impl_isSystem_ps [(.bool, false)] Tryz.f114.results.toList .ret, fun p => bif Nat.beq p 26 then some (.loop impl_isSystem_i26 impl_isSystem_o26 0 80 (impl_isSystem_f26 k k)) else none, 0, []⟩
theorem impl_isSystem_eq (k : Nat) (x : PTe impl_isSystem_ps) : evFn (impl_isSystem_F k) (codeOf Tryz.f114) impl_isSystem_ps 16 x = impl_isSystem k x.1 := by kernel_rfl
theorem impl_isSystem_ls : loopsOf (codeOf Tryz.f114) 1 = [(26, loopB (codeOf Tryz.f114) 26)] := by kernel_rfl
theorem impl_isSystem_l26 (k : Nat) : LoopOk (impl_isSystem_F k) (loopB (codeOf Tryz.f114) 26) 26 := LoopOk.mk (pin := impl_isSystem_i26) (pout := impl_isSystem_o26) (ex := 0) (nx := 80) (Lf := impl_isSystem_f26 k) (k := k) (by kernel_rfl) (fun _ => rfl) (by intro n x; kernel_rfl)
theorem impl_isSystem_K (k : Nat) : Contract Tryz.prog 114 (impl_isSystem_V k) :=
  contract (C := impl_isSystem_C k) (F := impl_isSystem_F k) (fn := Tryz.f114) (c := codeOf Tryz.f114) (ps := impl_isSystem_ps) (rs := [(.bool, false)]) (nx := 16) ⟨tyOf_ok tys_ok, gOf_ok ⟨impl_isPoly_K k, impl_needsAtMost_K k, impl_inside_K, trivial⟩⟩ rfl (by kernel_rfl) (by kernel_rfl) (by kernel_rfl) (by kernel_rfl) (by kernel_rfl) (by kernel_rfl) rfl (by kernel_rfl) (by kernel_rfl) (AnnOk_list [(26, loopB (codeOf Tryz.f114) 26)] impl_isSystem_ls ⟨impl_isSystem_l26 k, trivial⟩) mix_ok (impl_isSystem_eq k)

noncomputable def impl_isTwo_V (k : Nat) : Variant := ⟨[.val ty_5 false], [(.bool, false)], fun x => impl_isTwo k x.1⟩
noncomputable def impl_isTwo_C (k : Nat) : Cfg := ⟨Tryz.prog, tyOf tys, 10, gOf [(114, [], impl_isSystem_V k)], false, [], []⟩
def impl_isTwo_ps : List PE := [⟨0, 0, .val ty_5 false, false⟩]
noncomputable def impl_isTwo_F (k : Nat) : Fn (Bool) := ⟨impl_isTwo_C k, rdRes Tryz.prog impl_isTwo_ps [(.bool, false)] Tryz.f63.results.toList .ret, fun p => none, 0, []⟩
theorem impl_isTwo_eq (k : Nat) (x : PTe impl_isTwo_ps) : evFn (impl_isTwo_F k) (codeOf Tryz.f63) impl_isTwo_ps 16 x = impl_isTwo k x.1 := by kernel_rfl
theorem impl_isTwo_K (k : Nat) : Contract Tryz.prog 63 (impl_isTwo_V k) :=
  contract (C := impl_isTwo_C k) (F := impl_isTwo_F k) (fn := Tryz.f63) (c := codeOf Tryz.f63) (ps := impl_isTwo_ps) (rs := [(.bool, false)]) (nx := 16) ⟨tyOf_ok tys_ok, gOf_ok ⟨impl_isSystem_K k, trivial⟩⟩ rfl (by kernel_rfl) (by kernel_rfl) (by kernel_rfl) (by kernel_rfl) (by kernel_rfl) (by kernel_rfl) rfl (by kernel_rfl) (by kernel_rfl) (AnnOk_list [] (by kernel_rfl) trivial) mix_ok (impl_isTwo_eq k)

noncomputable def impl_isBox_V (k : Nat) : Variant := ⟨[.ptr ty_9 false], [(.bool, false)], fun x => impl_isBox k x.1⟩
noncomputable def impl_isBox_C (k : Nat) : Cfg := ⟨Tryz.prog, tyOf tys, 94, gOf [(73, [], impl_inside_V)], false, [], []⟩
def impl_isBox_i122 : List PE := [⟨0, 16, .ptr ty_9 false, false⟩, ⟨3, 32, .val ty_0 false, false⟩, ⟨4, 48, .val .bool false, false⟩, ⟨48, 64, .val ty_7 false, false⟩, ⟨49, 80, .val ty_0 false, false⟩, ⟨50, 96, .val ty_0 false, false⟩]
def impl_isBox_o122 : List PE := [⟨4, 16, .val .bool false, false⟩]
noncomputable def impl_isBox_f122 (k : Nat) (n : Nat) (x5 : PTe impl_isBox_i122) : Option ((Bool) ⊕ PTe impl_isBox_o122) := impl_isBox_L122 k n x5.1 x5.2.1 x5.2.2.1 x5.2.2.2.1 x5.2.2.2.2.1 x5.2.2.2.2.2.1
def impl_isBox_ps : List PE := [⟨0, 0, .ptr ty_9 false, false⟩]
noncomputable def impl_isBox_F (k : Nat) : Fn (Bool) := ⟨impl_isBox_C k, rdRes Tryz.prog impl_isBox_ps [(.bool, false)] Tryz.f153.results.toList .ret, fun p => bif Nat.beq p 122 then some (.loop impl_isBox_i122 impl_isBox_o122 0 112 (impl_isBox_f122 k k)) else none, 0, []⟩
theorem impl_isBox_eq (k : Nat) (x : PTe impl_isBox_ps) : evFn (impl_isBox_F k) (codeOf Tryz.f153) impl_isBox_ps 16 x = impl_isBox k x.1 := by kernel_rfl
theorem impl_isBox_ls : loopsOf (codeOf Tryz.f153) 1 = [(122, loopB (codeOf Tryz.f153) 122)] := by kernel_rfl
theorem impl_isBox_l122 (k : Nat) : LoopOk (impl_isBox_F k) (loopB (codeOf Tryz.f153) 122) 122 := LoopOk.mk (pin := impl_isBox_i122) (pout := impl_isBox_o122) (ex := 0) (nx := 112) (Lf := impl_isBox_f122 k) (k := k) (by kernel_rfl) (fun _ => rfl) (by intro n x; kernel_rfl)
theorem impl_isBox_K (k : Nat) : Contract Tryz.prog 153 (impl_isBox_V k) :=
  contract (C := impl_isBox_C k) (F := impl_isBox_F k) (fn := Tryz.f153) (c := codeOf Tryz.f153) (ps := impl_isBox_ps) (rs := [(.bool, false)]) (nx := 16) ⟨tyOf_ok tys_ok, gOf_ok ⟨impl_inside_K, trivial⟩⟩ rfl (by kernel_rfl) (by kernel_rfl) (by kernel_rfl) (by kernel_rfl) (by kernel_rfl) (by kernel_rfl) rfl (by kernel_rfl) (by kernel_rfl) (AnnOk_list [(122, loopB (codeOf Tryz.f153) 122)] impl_isBox_ls ⟨impl_isBox_l122 k, trivial⟩) mix_ok (impl_isBox_eq k)

noncomputable def impl_isPlaneBox_V (k : Nat) : Variant := ⟨[.ptr ty_9 false], [(.bool, false)], fun x => impl_isPlaneBox k x.1⟩
noncomputable def impl_isPlaneBox_C (k : Nat) : Cfg := ⟨Tryz.prog, tyOf tys, 20, gOf [(153, [], impl_isBox_V k)], false, [], []⟩
def impl_isPlaneBox_ps : List PE := [⟨0, 0, .ptr ty_9 false, false⟩]
noncomputable def impl_isPlaneBox_F (k : Nat) : Fn (Bool) := ⟨impl_isPlaneBox_C k, rdRes Tryz.prog impl_isPlaneBox_ps [(.bool, false)] Tryz.f118.results.toList .ret, fun p => none, 0, []⟩
theorem impl_isPlaneBox_eq (k : Nat) (x : PTe impl_isPlaneBox_ps) : evFn (impl_isPlaneBox_F k) (codeOf Tryz.f118) impl_isPlaneBox_ps 16 x = impl_isPlaneBox k x.1 := by kernel_rfl
theorem impl_isPlaneBox_K (k : Nat) : Contract Tryz.prog 118 (impl_isPlaneBox_V k) :=
  contract (C := impl_isPlaneBox_C k) (F := impl_isPlaneBox_F k) (fn := Tryz.f118) (c := codeOf Tryz.f118) (ps := impl_isPlaneBox_ps) (rs := [(.bool, false)]) (nx := 16) ⟨tyOf_ok tys_ok, gOf_ok ⟨impl_isBox_K k, trivial⟩⟩ rfl (by kernel_rfl) (by kernel_rfl) (by kernel_rfl) (by kernel_rfl) (by kernel_rfl) (by kernel_rfl) rfl (by kernel_rfl) (by kernel_rfl) (AnnOk_list [] (by kernel_rfl) trivial) mix_ok (impl_isPlaneBox_eq k)

noncomputable def impl_isPlane_V (k : Nat) : Variant := ⟨[.val ty_5 false, .ptr ty_9 false], [(.bool, false)], fun x => impl_isPlane k x.1 x.2.1⟩
noncomputable def impl_isPlane_C (k : Nat) : Cfg := ⟨Tryz.prog, tyOf tys, 11, gOf [(63, [], impl_isTwo_V k), (118, [], impl_isPlaneBox_V k)], false, [], []⟩
def impl_isPlane_ps : List PE := [⟨0, 0, .val ty_5 false, false⟩, ⟨1, 16, .ptr ty_9 false, false⟩]
noncomputable def impl_isPlane_F (k : Nat) : Fn (Bool) := ⟨impl_isPlane_C k, rdRes Tryz.prog impl_isPlane_ps [(.bool, false)] Tryz.f72.results.toList .ret, fun p => none, 0, []⟩
theorem impl_isPlane_eq (k : Nat) (x : PTe impl_isPlane_ps) : evFn (impl_isPlane_F k) (codeOf Tryz.f72) impl_isPlane_ps 32 x = impl_isPlane k x.1 x.2.1 := by kernel_rfl
theorem impl_isPlane_K (k : Nat) : Contract Tryz.prog 72 (impl_isPlane_V k) :=
  contract (C := impl_isPlane_C k) (F := impl_isPlane_F k) (fn := Tryz.f72) (c := codeOf Tryz.f72) (ps := impl_isPlane_ps) (rs := [(.bool, false)]) (nx := 32) ⟨tyOf_ok tys_ok, gOf_ok ⟨impl_isTwo_K k, impl_isPlaneBox_K k, trivial⟩⟩ rfl (by kernel_rfl) (by kernel_rfl) (by kernel_rfl) (by kernel_rfl) (by kernel_rfl) (by kernel_rfl) rfl (by kernel_rfl) (by kernel_rfl) (AnnOk_list [] (by kernel_rfl) trivial) mix_ok (impl_isPlane_eq k)

noncomputable def impl_areReasons_1_V : Variant := ⟨[.val ty_0 false], [(.bool, false)], fun x => impl_areReasons_1 x.1⟩
noncomputable def impl_areReasons_1_C : Cfg := ⟨Tryz.prog, tyOf tys, 6, gOf [(73, [], impl_inside_V)], false, [], []⟩
def impl_areReasons_1_ps : List PE := [⟨0, 0, .val ty_0 false, false⟩]
noncomputable def impl_areReasons_1_F : Fn (Bool) := ⟨impl_areReasons_1_C, rdRes Tryz.prog impl_areReasons_1_ps [(.bool, false)] Tryz.f173.results.toList .ret, fun p => none, 0, []⟩
theorem impl_areReasons_1_eq (x : PTe impl_areReasons_1_ps) : evFn (impl_areReasons_1_F) (codeOf Tryz.f173) impl_areReasons_1_ps 16 x = impl_areReasons_1 x.1 := by kernel_rfl
theorem impl_areReasons_1_K : Contract Tryz.prog 173 (impl_areReasons_1_V) :=
  contract (C := impl_areReasons_1_C) (F := impl_areReasons_1_F) (fn := Tryz.f173) (c := codeOf Tryz.f173) (ps := impl_areReasons_1_ps) (rs := [(.bool, false)]) (nx := 16) ⟨tyOf_ok tys_ok, gOf_ok ⟨impl_inside_K, trivial⟩⟩ rfl (by kernel_rfl) (by kernel_rfl) (by kernel_rfl) (by kernel_rfl) (by kernel_rfl) (by kernel_rfl) rfl (by kernel_rfl) (by kernel_rfl) (AnnOk_list [] (by kernel_rfl) trivial) mix_ok (impl_areReasons_1_eq)

noncomputable def slices_IndexFunc_int_int_impl_areReasons_1_V (k : Nat) : Variant := ⟨[.val ty_7 false, .fn 173 []], [(ty_0, false)], fun x => slices_IndexFunc_int_int_impl_areReasons_1 k x.1 x.2.1⟩
noncomputable def slices_IndexFunc_int_int_impl_areReasons_1_C (k : Nat) : Cfg := ⟨Tryz.prog, tyOf tys, 19, gOf [(173, [], impl_areReasons_1_V)], false, [], []⟩
def slices_IndexFunc_int_int_impl_areReasons_1_i26 : List PE := [⟨0, 32, .val ty_7 false, false⟩, ⟨1, 48, .fn 173 [], false⟩, ⟨7, 64, .val ty_0 false, false⟩, ⟨8, 80, .val ty_0 false, false⟩]
def slices_IndexFunc_int_int_impl_areReasons_1_o26 : List PE := []
noncomputable def slices_IndexFunc_int_int_impl_areReasons_1_f26 (k : Nat) (n : Nat) (x2 : PTe slices_IndexFunc_int_int_impl_areReasons_1_i26) : Option ((Int) ⊕ PTe slices_IndexFunc_int_int_impl_areReasons_1_o26) := slices_IndexFunc_int_int_impl_areReasons_1_L26 k n x2.1 x2.2.1 x2.2.2.1 x2.2.2.2.1
def slices_IndexFunc_int_int_impl_areReasons_1_ps : List PE := [⟨0, 0, .val ty_7 false, false⟩, ⟨1, 16, .fn 173 [], false⟩]
noncomputable def slices_IndexFunc_int_int_impl_areReasons_1_F (k : Nat) : Fn (Int) := ⟨slices_IndexFunc_int_int_impl_areReasons_1_C k, rdRes Tryz.prog slices_IndexFunc_int_int_impl_areReasons_1_ps [(ty_0, false)] Tryz.f189.results.toList .ret, fun p => bif Nat.beq p 26 then some (.loop slices_IndexFunc_int_int_impl_areReasons_1_i26 slices_IndexFunc_int_int_impl_areReasons_1_o26 0 96 (slices_IndexFunc_int_int_impl_areReasons_1_f26 k k)) else none, 0, []⟩
theorem slices_IndexFunc_int_int_impl_areReasons_1_eq (k : Nat) (x : PTe slices_IndexFunc_int_int_impl_areReasons_1_ps) : evFn (slices_IndexFunc_int_int_impl_areReasons_1_F k) (codeOf Tryz.f189) slices_IndexFunc_int_int_impl_areReasons_1_ps 32 x = slices_IndexFunc_int_int_impl_areReasons_1 k x.1 x.2.1 := by kernel_rfl
theorem slices_IndexFunc_int_int_impl_areReasons_1_ls : loopsOf (codeOf Tryz.f189) 1 = [(26, loopB (codeOf Tryz.f189) 26)] := by kernel_rfl
theorem slices_IndexFunc_int_int_impl_areReasons_1_l26 (k : Nat) : LoopOk (slices_IndexFunc_int_int_impl_areReasons_1_F k) (loopB (codeOf Tryz.f189) 26) 26 := LoopOk.mk (pin := slices_IndexFunc_int_int_impl_areReasons_1_i26) (pout := slices_IndexFunc_int_int_impl_areReasons_1_o26) (ex := 0) (nx := 96) (Lf := slices_IndexFunc_int_int_impl_areReasons_1_f26 k) (k := k) (by kernel_rfl) (fun _ => rfl) (by intro n x; kernel_rfl)
theorem slices_IndexFunc_int_int_impl_areReasons_1_K (k : Nat) : Contract Tryz.prog 189 (slices_IndexFunc_int_int_impl_areReasons_1_V k) :=
  contract (C := slices_IndexFunc_int_int_impl_areReasons_1_C k) (F := slices_IndexFunc_int_int_impl_areReasons_1_F k) (fn := Tryz.f189) (c := codeOf Tryz.f189) (ps := slices_IndexFunc_int_int_impl_areReasons_1_ps) (rs := [(ty_0, false)]) (nx := 32) ⟨tyOf_ok tys_ok, gOf_ok ⟨impl_areReasons_1_K, trivial⟩⟩ rfl (by kernel_rfl) (by kernel_rfl) (by kernel_rfl) (by kernel_rfl) (by kernel_rfl) (by kernel_rfl) rfl (by kernel_rfl) (by kernel_rfl) (AnnOk_list [(26, loopB (codeOf Tryz.f189) 26)] slices_IndexFunc_int_int_impl_areReasons_1_ls ⟨slices_IndexFunc_int_int_impl_areReasons_1_l26 k, trivial⟩) mix_ok (slices_IndexFunc_int_int_impl_areReasons_1_eq k)

noncomputable def slices_ContainsFunc_int_int_impl_areReasons_1_V (k : Nat) : Variant := ⟨[.val ty_7 false, .fn 173 []], [(.bool, false)], fun x => slices_ContainsFunc_int_int_impl_areReasons_1 k x.1 x.2.1⟩
noncomputable def slices_ContainsFunc_int_int_impl_areReasons_1_C (k : Nat) : Cfg := ⟨Tryz.prog, tyOf tys, 9, gOf [(189, [173], slices_IndexFunc_int_int_impl_areReasons_1_V k)], false, [], []⟩
def slices_ContainsFunc_int_int_impl_areReasons_1_ps : List PE := [⟨0, 0, .val ty_7 false, false⟩, ⟨1, 16, .fn 173 [], false⟩]
noncomputable def slices_ContainsFunc_int_int_impl_areReasons_1_F (k : Nat) : Fn (Bool) := ⟨slices_ContainsFunc_int_int_impl_areReasons_1_C k, rdRes Tryz.prog slices_ContainsFunc_int_int_impl_areReasons_1_ps [(.bool, false)] Tryz.f172.results.toList .ret, fun p => none, 0, []⟩
theorem slices_ContainsFunc_int_int_impl_areReasons_1_eq (k : Nat) (x : PTe slices_ContainsFunc_int_int_impl_areReasons_1_ps) : evFn (slices_ContainsFunc_int_int_impl_areReasons_1_F k) (codeOf Tryz.f172) slices_ContainsFunc_int_int_impl_areReasons_1_ps 32 x = slices_ContainsFunc_int_int_impl_areReasons_1 k x.1 x.2.1 := by kernel_rfl
theorem slices_ContainsFunc_int_int_impl_areReasons_1_K (k : Nat) : Contract Tryz.prog 172 (slices_ContainsFunc_int_int_impl_areReasons_1_V k) :=
  contract (C := slices_ContainsFunc_int_int_impl_areReasons_1_C k) (F := slices_ContainsFunc_int_int_impl_areReasons_1_F k) (fn := Tryz.f172) (c := codeOf Tryz.f172) (ps := slices_ContainsFunc_int_int_impl_areReasons_1_ps) (rs := [(.bool, false)]) (nx := 32) ⟨tyOf_ok tys_ok, gOf_ok ⟨slices_IndexFunc_int_int_impl_areReasons_1_K k, trivial⟩⟩ rfl (by kernel_rfl) (by kernel_rfl) (by kernel_rfl) (by kernel_rfl) (by kernel_rfl) (by kernel_rfl) rfl (by kernel_rfl) (by kernel_rfl) (AnnOk_list [] (by kernel_rfl) trivial) mix_ok (slices_ContainsFunc_int_int_impl_areReasons_1_eq k)

noncomputable def impl_areReasons_V (k : Nat) : Variant := ⟨[.val ty_7 false], [(.bool, false)], fun x => impl_areReasons k x.1⟩
noncomputable def impl_areReasons_C (k : Nat) : Cfg := ⟨Tryz.prog, tyOf tys, 11, gOf [(172, [173], slices_ContainsFunc_int_int_impl_areReasons_1_V k)], false, [], []⟩
def impl_areReasons_ps : List PE := [⟨0, 0, .val ty_7 false, false⟩]
noncomputable def impl_areReasons_F (k : Nat) : Fn (Bool) := ⟨impl_areReasons_C k, rdRes Tryz.prog impl_areReasons_ps [(.bool, false)] Tryz.f138.results.toList .ret, fun p => none, 0, []⟩
theorem impl_areReasons_eq (k : Nat) (x : PTe impl_areReasons_ps) : evFn (impl_areReasons_F k) (codeOf Tryz.f138) impl_areReasons_ps 16 x = impl_areReasons k x.1 := by kernel_rfl
theorem impl_areReasons_K (k : Nat) : Contract Tryz.prog 138 (impl_areReasons_V k) :=
  contract (C := impl_areReasons_C k) (F := impl_areReasons_F k) (fn := Tryz.f138) (c := codeOf Tryz.f138) (ps := impl_areReasons_ps) (rs := [(.bool, false)]) (nx := 16) ⟨tyOf_ok tys_ok, gOf_ok ⟨slices_ContainsFunc_int_int_impl_areReasons_1_K k, trivial⟩⟩ rfl (by kernel_rfl) (by kernel_rfl) (by kernel_rfl) (by kernel_rfl) (by kernel_rfl) (by kernel_rfl) rfl (by kernel_rfl) (by kernel_rfl) (AnnOk_list [] (by kernel_rfl) trivial) mix_ok (impl_areReasons_eq k)

noncomputable def impl_Box_length_V : Variant := ⟨[.ptr ty_9 false, .val ty_0 false], [(ty_0, false)], fun x => impl_Box_length x.1 x.2.1⟩
noncomputable def impl_Box_length_C : Cfg := ⟨Tryz.prog, tyOf tys, 20, gOf [], false, [], []⟩
def impl_Box_length_ps : List PE := [⟨0, 0, .ptr ty_9 false, false⟩, ⟨1, 16, .val ty_0 false, false⟩]
noncomputable def impl_Box_length_F : Fn (Int) := ⟨impl_Box_length_C, rdRes Tryz.prog impl_Box_length_ps [(ty_0, false)] Tryz.f121.results.toList .ret, fun p => none, 0, []⟩
theorem impl_Box_length_eq (x : PTe impl_Box_length_ps) : evFn (impl_Box_length_F) (codeOf Tryz.f121) impl_Box_length_ps 32 x = impl_Box_length x.1 x.2.1 := by kernel_rfl
theorem impl_Box_length_K : Contract Tryz.prog 121 (impl_Box_length_V) :=
  contract (C := impl_Box_length_C) (F := impl_Box_length_F) (fn := Tryz.f121) (c := codeOf Tryz.f121) (ps := impl_Box_length_ps) (rs := [(ty_0, false)]) (nx := 32) ⟨tyOf_ok tys_ok, gOf_ok trivial⟩ rfl (by kernel_rfl) (by kernel_rfl) (by kernel_rfl) (by kernel_rfl) (by kernel_rfl) (by kernel_rfl) rfl (by kernel_rfl) (by kernel_rfl) (AnnOk_list [] (by kernel_rfl) trivial) mix_ok (impl_Box_length_eq)

noncomputable def impl_size_V : Variant := ⟨[.val ty_0 false], [(ty_15, false)], fun x => impl_size x.1⟩
noncomputable def impl_size_C : Cfg := ⟨Tryz.prog, tyOf tys, 10, gOf [], false, [], []⟩
def impl_size_ps : List PE := [⟨0, 0, .val ty_0 false, false⟩]
noncomputable def impl_size_F : Fn (Int) := ⟨impl_size_C, rdRes Tryz.prog impl_size_ps [(ty_15, false)] Tryz.f154.results.toList .ret, fun p => none, 0, []⟩
theorem impl_size_eq (x : PTe impl_size_ps) : evFn (impl_size_F) (codeOf Tryz.f154) impl_size_ps 16 x = impl_size x.1 := by kernel_rfl
theorem impl_size_K : Contract Tryz.prog 154 (impl_size_V) :=
  contract (C := impl_size_C) (F := impl_size_F) (fn := Tryz.f154) (c := codeOf Tryz.f154) (ps := impl_size_ps) (rs := [(ty_15, false)]) (nx := 16) ⟨tyOf_ok tys_ok, gOf_ok trivial⟩ rfl (by kernel_rfl) (by kernel_rfl) (by kernel_rfl) (by kernel_rfl) (by kernel_rfl) (by kernel_rfl) rfl (by kernel_rfl) (by kernel_rfl) (AnnOk_list [] (by kernel_rfl) trivial) mix_ok (impl_size_eq)

noncomputable def impl_wideOf_V : Variant := ⟨[.val ty_0 false], [(ty_17, true)], fun x => impl_wideOf x.1⟩
noncomputable def impl_wideOf_C : Cfg := ⟨Tryz.prog, tyOf tys, 8, gOf [(154, [], impl_size_V)], false, [], []⟩
def impl_wideOf_ps : List PE := [⟨0, 0, .val ty_0 false, false⟩]
noncomputable def impl_wideOf_F : Fn (Bool × Int × Int) := ⟨impl_wideOf_C, rdRes Tryz.prog impl_wideOf_ps [(ty_17, true)] Tryz.f120.results.toList .ret, fun p => none, 0, []⟩
theorem impl_wideOf_eq (x : PTe impl_wideOf_ps) : evFn (impl_wideOf_F) (codeOf Tryz.f120) impl_wideOf_ps 16 x = impl_wideOf x.1 := by kernel_rfl
theorem impl_wideOf_K : Contract Tryz.prog 120 (impl_wideOf_V) :=
  contract (C := impl_wideOf_C) (F := impl_wideOf_F) (fn := Tryz.f120) (c := codeOf Tryz.f120) (ps := impl_wideOf_ps) (rs := [(ty_17, true)]) (nx := 16) ⟨tyOf_ok tys_ok, gOf_ok ⟨impl_size_K, trivial⟩⟩ rfl (by kernel_rfl) (by kernel_rfl) (by kernel_rfl) (by kernel_rfl) (by kernel_rfl) (by kernel_rfl) rfl (by kernel_rfl) (by kernel_rfl) (AnnOk_list [] (by kernel_rfl) trivial) mix_ok (impl_wideOf_eq)

noncomputable def impl_wide_isZero_V : Variant := ⟨[.val ty_17 true], [(.bool, false)], fun x => impl_wide_isZero x.1⟩
noncomputable def impl_wide_isZero_C : Cfg := ⟨Tryz.prog, tyOf tys, 11, gOf [], false, [], []⟩
def impl_wide_isZero_ps : List PE := [⟨0, 0, .val ty_17 true, false⟩]
noncomputable def impl_wide_isZero_F : Fn (Bool) := ⟨impl_wide_isZero_C, rdRes Tryz.prog impl_wide_isZero_ps [(.bool, false)] Tryz.f155.results.toList .ret, fun p => none, 0, []⟩
theorem impl_wide_isZero_eq (x : PTe impl_wide_isZero_ps) : evFn (impl_wide_isZero_F) (codeOf Tryz.f155) impl_wide_isZero_ps 16 x = impl_wide_isZero x.1 := by kernel_rfl
theorem impl_wide_isZero_K : Contract Tryz.prog 155 (impl_wide_isZero_V) :=
  contract (C := impl_wide_isZero_C) (F := impl_wide_isZero_F) (fn := Tryz.f155) (c := codeOf Tryz.f155) (ps := impl_wide_isZero_ps) (rs := [(.bool, false)]) (nx := 16) ⟨tyOf_ok tys_ok, gOf_ok trivial⟩ rfl (by kernel_rfl) (by kernel_rfl) (by kernel_rfl) (by kernel_rfl) (by kernel_rfl) (by kernel_rfl) rfl (by kernel_rfl) (by kernel_rfl) (AnnOk_list [] (by kernel_rfl) trivial) mix_ok (impl_wide_isZero_eq)

noncomputable def impl_wide_shift_V : Variant := ⟨[.val ty_17 true, .val ty_0 false], [(ty_17, true)], fun x => impl_wide_shift x.1 x.2.1⟩
noncomputable def impl_wide_shift_C : Cfg := ⟨Tryz.prog, tyOf tys, 63, gOf [], false, [], []⟩
def impl_wide_shift_ps : List PE := [⟨0, 0, .val ty_17 true, false⟩, ⟨1, 16, .val ty_0 false, false⟩]
noncomputable def impl_wide_shift_F : Fn (Bool × Int × Int) := ⟨impl_wide_shift_C, rdRes Tryz.prog impl_wide_shift_ps [(ty_17, true)] Tryz.f156.results.toList .ret, fun p => none, 0, []⟩
theorem impl_wide_shift_eq (x : PTe impl_wide_shift_ps) : evFn (impl_wide_shift_F) (codeOf Tryz.f156) impl_wide_shift_ps 32 x = impl_wide_shift x.1 x.2.1 := by kernel_rfl
theorem impl_wide_shift_K : Contract Tryz.prog 156 (impl_wide_shift_V) :=
  contract (C := impl_wide_shift_C) (F := impl_wide_shift_F) (fn := Tryz.f156) (c := codeOf Tryz.f156) (ps := impl_wide_shift_ps) (rs := [(ty_17, true)]) (nx := 32) ⟨tyOf_ok tys_ok, gOf_ok trivial⟩ rfl (by kernel_rfl) (by kernel_rfl) (by kernel_rfl) (by kernel_rfl) (by kernel_rfl) (by kernel_rfl) rfl (by kernel_rfl) (by kernel_rfl) (AnnOk_list [] (by kernel_rfl) trivial) mix_ok (impl_wide_shift_eq)

noncomputable def impl_wide_fit_V (k : Nat) : Variant := ⟨[.val ty_17 true, .val ty_0 false], [(ty_1, true), (.bool, false)], fun x => impl_wide_fit k x.1 x.2.1⟩
noncomputable def impl_wide_fit_C (k : Nat) : Cfg := ⟨Tryz.prog, tyOf tys, 45, gOf [(155, [], impl_wide_isZero_V), (156, [], impl_wide_shift_V)], false, [], []⟩
def impl_wide_fit_i28 : List PE := [⟨1, 32, .val ty_0 false, false⟩, ⟨2, 48, .box ty_17 false, false⟩, ⟨4, 64, .box ty_1 false, false⟩]
def impl_wide_fit_o28 : List PE := [⟨1, 32, .val ty_0 false, false⟩, ⟨2, 48, .box ty_17 false, false⟩, ⟨4, 64, .box ty_1 false, false⟩]
noncomputable def impl_wide_fit_f28 (k : Nat) (n : Nat) (x3 : PTe impl_wide_fit_i28) : Option (((Int × Int) × Bool) ⊕ PTe impl_wide_fit_o28) := impl_wide_fit_L28 k n x3.1 x3.2.1 x3.2.2.1
def impl_wide_fit_ps : List PE := [⟨0, 0, .val ty_17 true, false⟩, ⟨1, 16, .val ty_0 false, false⟩]
noncomputable def impl_wide_fit_F (k : Nat) : Fn ((Int × Int) × Bool) := ⟨impl_wide_fit_C k, rdRes Tryz.prog impl_wide_fit_ps [(ty_1, true), (.bool, false)] Tryz.f122.results.toList .ret, fun p => bif Nat.beq p 28 then some (.loop impl_wide_fit_i28 impl_wide_fit_o28 0 80 (impl_wide_fit_f28 k k)) else none, 0, []⟩
theorem impl_wide_fit_eq (k : Nat) (x : PTe impl_wide_fit_ps) : evFn (impl_wide_fit_F k) (codeOf Tryz.f122) impl_wide_fit_ps 32 x = impl_wide_fit k x.1 x.2.1 := by kernel_rfl
theorem impl_wide_fit_ls : loopsOf (codeOf Tryz.f122) 1 = [(28, loopB (codeOf Tryz.f122) 28)] := by kernel_rfl
theorem impl_wide_fit_l28 (k : Nat) : LoopOk (impl_wide_fit_F k) (loopB (codeOf Tryz.f122) 28) 28 := LoopOk.mk (pin := impl_wide_fit_i28) (pout := impl_wide_fit_o28) (ex := 0) (nx := 80) (Lf := impl_wide_fit_f28 k) (k := k) (by kernel_rfl) (fun _ => rfl) (by intro n x; kernel_rfl)
theorem impl_wide_fit_K (k : Nat) : Contract Tryz.prog 122 (impl_wide_fit_V k) :=
  contract (C := impl_wide_fit_C k) (F := impl_wide_fit_F k) (fn := Tryz.f122) (c := codeOf Tryz.f122) (ps := impl_wide_fit_ps) (rs := [(ty_1, true), (.bool, false)]) (nx := 32) ⟨tyOf_ok tys_ok, gOf_ok ⟨impl_wide_isZero_K, impl_wide_shift_K, trivial⟩⟩ rfl (by kernel_rfl) (by kernel_rfl) (by kernel_rfl) (by kernel_rfl) (by kernel_rfl) (by kernel_rfl) rfl (by kernel_rfl) (by kernel_rfl) (AnnOk_list [(28, loopB (codeOf Tryz.f122) 28)] impl_wide_fit_ls ⟨impl_wide_fit_l28 k, trivial⟩) mix_ok (impl_wide_fit_eq k)

noncomputable def impl_boundaryEdges_1_V (k : Nat) : Variant := ⟨[.val ty_0 false, .val ty_0 false, .pp ty_9, .ptr ty_0 false, .ptr ty_0 false], [(ty_1, true)], fun x => impl_boundaryEdges_1 k x.1 x.2.1 x.2.2.1 x.2.2.2.1 x.2.2.2.2.1⟩
noncomputable def impl_boundaryEdges_1_C (k : Nat) : Cfg := ⟨Tryz.prog, tyOf tys, 37, gOf [(121, [], impl_Box_length_V), (120, [], impl_wideOf_V), (122, [], impl_wide_fit_V k)], false, [], []⟩
def impl_boundaryEdges_1_ps : List PE := [⟨0, 0, .val ty_0 false, false⟩, ⟨1, 16, .val ty_0 false, false⟩, ⟨2, 32, .pp ty_9, false⟩, ⟨3, 48, .ptr ty_0 false, false⟩, ⟨4, 64, .ptr ty_0 false, false⟩]
noncomputable def impl_boundaryEdges_1_F (k : Nat) : Fn (Int × Int) := ⟨impl_boundaryEdges_1_C k, rdRes Tryz.prog impl_boundaryEdges_1_ps [(ty_1, true)] Tryz.f119.results.toList .ret, fun p => none, 0, []⟩
theorem impl_boundaryEdges_1_eq (k : Nat) (x : PTe impl_boundaryEdges_1_ps) : evFn (impl_boundaryEdges_1_F k) (codeOf Tryz.f119) impl_boundaryEdges_1_ps 80 x = impl_boundaryEdges_1 k x.1 x.2.1 x.2.2.1 x.2.2.2.1 x.2.2.2.2.1 := by kernel_rfl
theorem impl_boundaryEdges_1_K (k : Nat) : Contract Tryz.prog 119 (impl_boundaryEdges_1_V k) :=
  contract (C := impl_boundaryEdges_1_C k) (F := impl_boundaryEdges_1_F k) (fn := Tryz.f119) (c := codeOf Tryz.f119) (ps := impl_boundaryEdges_1_ps) (rs := [(ty_1, true)]) (nx := 80) ⟨tyOf_ok tys_ok, gOf_ok ⟨impl_Box_length_K, impl_wideOf_K, impl_wide_fit_K k, trivial⟩⟩ rfl (by kernel_rfl) (by kernel_rfl) (by kernel_rfl) (by kernel_rfl) (by kernel_rfl) (by kernel_rfl) rfl (by kernel_rfl) (by kernel_rfl) (AnnOk_list [] (by kernel_rfl) trivial) mix_ok (impl_boundaryEdges_1_eq k)

noncomputable def impl_boundaryEdges_V (k : Nat) : Variant := ⟨[.ptr ty_9 false, .val ty_0 false], [(ty_22, false)], fun x => impl_boundaryEdges k x.1 x.2.1⟩
noncomputable def impl_boundaryEdges_C (k : Nat) : Cfg := ⟨Tryz.prog, tyOf tys, 71, gOf [(119, [], impl_boundaryEdges_1_V k)], false, [], []⟩
def impl_boundaryEdges_i512830 : List PE := [⟨5, 32, .ptr ty_0 false, false⟩, ⟨6, 48, .fn 119 [(ty_9, .pp), (ty_0, .pr), (ty_0, .pr)], false⟩, ⟨7, 64, .eat ty_12, false⟩, ⟨8, 80, .val ty_0 false, false⟩, ⟨9, 96, .val ty_0 false, false⟩, ⟨10, 112, .box ty_1 false, false⟩, ⟨17, 128, .val ty_0 false, false⟩, ⟨36, 144, .val ty_0 false, false⟩, ⟨37, 160, .val ty_0 false, false⟩]
def impl_boundaryEdges_o512830 : List PE := [⟨5, 32, .ptr ty_0 false, false⟩, ⟨6, 48, .fn 119 [(ty_9, .pp), (ty_0, .pr), (ty_0, .pr)], false⟩, ⟨7, 64, .eat ty_12, false⟩, ⟨17, 80, .val ty_0 false, false⟩]
noncomputable def impl_boundaryEdges_f512830 (k : Nat) (n : Nat) (x9 : PTe impl_boundaryEdges_i512830) : Option ((List (Int × (Int × Int) × (Int × Int) × Int × Int)) ⊕ PTe impl_boundaryEdges_o512830) := impl_boundaryEdges_L512830 k n x9.1 x9.2.1 x9.2.2.1 x9.2.2.2.1 x9.2.2.2.2.1 x9.2.2.2.2.2.1 x9.2.2.2.2.2.2.1 x9.2.2.2.2.2.2.2.1 x9.2.2.2.2.2.2.2.2.1
def impl_boundaryEdges_i250 : List PE := [⟨5, 32, .ptr ty_0 false, false⟩, ⟨6, 48, .fn 119 [(ty_9, .pp), (ty_0, .pr), (ty_0, .pr)], false⟩, ⟨7, 64, .eat ty_12, false⟩, ⟨17, 80, .val ty_0 false, false⟩]
def impl_boundaryEdges_o250 : List PE := [⟨7, 32, .eat ty_12, false⟩]
noncomputable def impl_boundaryEdges_f250 (k : Nat) (n : Nat) (x13 : PTe impl_boundaryEdges_i250) : Option ((List (Int × (Int × Int) × (Int × Int) × Int × Int)) ⊕ PTe impl_boundaryEdges_o250) := impl_boundaryEdges_L250 k n x13.1 x13.2.1 x13.2.2.1 x13.2.2.2.1
def impl_boundaryEdges_ps : List PE := [⟨0, 0, .ptr ty_9 false, false⟩, ⟨1, 16, .val ty_0 false, false⟩]
noncomputable def impl_boundaryEdges_F (k : Nat) : Fn (List (Int × (Int × Int) × (Int × Int) × Int × Int)) := ⟨impl_boundaryEdges_C k, rdRes Tryz.prog impl_boundaryEdges_ps [(ty_22, false)] Tryz.f75.results.toList .ret, fun p => bif Nat.beq p 131284582 then some (.cut [⟨5, 32, .ptr ty_0 false, false⟩, ⟨6, 48, .fn 119 [(ty_9, .pp), (ty_0, .pr), (ty_0, .pr)], false⟩, ⟨7, 64, .eat ty_12, false⟩, ⟨8, 80, .val ty_0 false, false⟩, ⟨9, 96, .val ty_0 false, false⟩, ⟨10, 112, .box ty_1 false, false⟩, ⟨12, 128, .val ty_0 false, false⟩, ⟨13, 144, .val ty_0 false, false⟩, ⟨17, 160, .val ty_0 false, false⟩, ⟨36, 176, .val ty_0 false, false⟩, ⟨37, 192, .val ty_0 false, false⟩] 208) else bif Nat.beq p 512830 then some (.loop impl_boundaryEdges_i512830 impl_boundaryEdges_o512830 2 176 (impl_boundaryEdges_f512830 k k)) else bif Nat.beq p 128206 then some (.cut [⟨5, 32, .ptr ty_0 false, false⟩, ⟨6, 48, .fn 119 [(ty_9, .pp), (ty_0, .pr), (ty_0, .pr)], false⟩, ⟨7, 64, .eat ty_12, false⟩, ⟨8, 80, .val ty_0 false, false⟩, ⟨9, 96, .val ty_0 false, false⟩, ⟨10, 112, .box ty_1 false, false⟩, ⟨17, 128, .val ty_0 false, false⟩] 144) else bif Nat.beq p 250 then some (.loop impl_boundaryEdges_i250 impl_boundaryEdges_o250 0 96 (impl_boundaryEdges_f250 k k)) else none, 0, []⟩
theorem impl_boundaryEdges_eq (k : Nat) (x : PTe impl_boundaryEdges_ps) : evFn (impl_boundaryEdges_F k) (codeOf Tryz.f75) impl_boundaryEdges_ps 32 x = impl_boundaryEdges k x.1 x.2.1 := by kernel_rfl
theorem impl_boundaryEdges_ls : loopsOf (codeOf Tryz.f75) 1 = [(250, loopB (codeOf Tryz.f75) 250), (512830, loopB (codeOf Tryz.f75) 512830)] := by kernel_rfl
theorem impl_boundaryEdges_l512830 (k : Nat) : LoopOk (impl_boundaryEdges_F k) (loopB (codeOf Tryz.f75) 512830) 512830 := LoopOk.mk (pin := impl_boundaryEdges_i512830) (pout := impl_boundaryEdges_o512830) (ex := 2) (nx := 176) (Lf := impl_boundaryEdges_f512830 k) (k := k) (by kernel_rfl) (fun _ => rfl) (by intro n x; kernel_rfl)
theorem impl_boundaryEdges_l250 (k : Nat) : LoopOk (impl_boundaryEdges_F k) (loopB (codeOf Tryz.f75) 250) 250 := LoopOk.mk (pin := impl_boundaryEdges_i250) (pout := impl_boundaryEdges_o250) (ex := 0) (nx := 96) (Lf := impl_boundaryEdges_f250 k) (k := k) (by kernel_rfl) (fun _ => rfl) (by intro n x; kernel_rfl)
theorem impl_boundaryEdges_K (k : Nat) : Contract Tryz.prog 75 (impl_boundaryEdges_V k) :=
  contract (C := impl_boundaryEdges_C k) (F := impl_boundaryEdges_F k) (fn := Tryz.f75) (c := codeOf Tryz.f75) (ps := impl_boundaryEdges_ps) (rs := [(ty_22, false)]) (nx := 32) ⟨tyOf_ok tys_ok, gOf_ok ⟨impl_boundaryEdges_1_K k, trivial⟩⟩ rfl (by kernel_rfl) (by kernel_rfl) (by kernel_rfl) (by kernel_rfl) (by kernel_rfl) (by kernel_rfl) rfl (by kernel_rfl) (by kernel_rfl) (AnnOk_list [(250, loopB (codeOf Tryz.f75) 250), (512830, loopB (codeOf Tryz.f75) 512830)] impl_boundaryEdges_ls ⟨impl_boundaryEdges_l250 k, impl_boundaryEdges_l512830 k, trivial⟩) mix_ok (impl_boundaryEdges_eq k)

noncomputable def impl_single_V : Variant := ⟨[.val ty_1 true], [(ty_10, true)], fun x => impl_single x.1⟩
noncomputable def impl_single_C : Cfg := ⟨Tryz.prog, tyOf tys, 6, gOf [], false, [], []⟩
def impl_single_ps : List PE := [⟨0, 0, .val ty_1 true, false⟩]
noncomputable def impl_single_F : Fn ((Int × Int) × Int × Int) := ⟨impl_single_C, rdRes Tryz.prog impl_single_ps [(ty_10, true)] Tryz.f135.results.toList .ret, fun p => none, 0, []⟩
theorem impl_single_eq (x : PTe impl_single_ps) : evFn (impl_single_F) (codeOf Tryz.f135) impl_single_ps 16 x = impl_single x.1 := by kernel_rfl
theorem impl_single_K : Contract Tryz.prog 135 (impl_single_V) :=
  contract (C := impl_single_C) (F := impl_single_F) (fn := Tryz.f135) (c := codeOf Tryz.f135) (ps := impl_single_ps) (rs := [(ty_10, true)]) (nx := 16) ⟨tyOf_ok tys_ok, gOf_ok trivial⟩ rfl (by kernel_rfl) (by kernel_rfl) (by kernel_rfl) (by kernel_rfl) (by kernel_rfl) (by kernel_rfl) rfl (by kernel_rfl) (by kernel_rfl) (AnnOk_list [] (by kernel_rfl) trivial) mix_ok (impl_single_eq)

noncomputable def cmp_isNaN_uint64_V : Variant := ⟨[.val ty_15 false], [(.bool, false)], fun x => cmp_isNaN_uint64 x.1⟩
noncomputable def cmp_isNaN_uint64_C : Cfg := ⟨Tryz.prog, tyOf tys, 6, gOf [], false, [], []⟩
def cmp_isNaN_uint64_ps : List PE := [⟨0, 0, .val ty_15 false, false⟩]
noncomputable def cmp_isNaN_uint64_F : Fn (Bool) := ⟨cmp_isNaN_uint64_C, rdRes Tryz.prog cmp_isNaN_uint64_ps [(.bool, false)] Tryz.f209.results.toList .ret, fun p => none, 0, []⟩
theorem cmp_isNaN_uint64_eq (x : PTe cmp_isNaN_uint64_ps) : evFn (cmp_isNaN_uint64_F) (codeOf Tryz.f209) cmp_isNaN_uint64_ps 16 x = cmp_isNaN_uint64 x.1 := by kernel_rfl
theorem cmp_isNaN_uint64_K : Contract Tryz.prog 209 (cmp_isNaN_uint64_V) :=
  contract (C := cmp_isNaN_uint64_C) (F := cmp_isNaN_uint64_F) (fn := Tryz.f209) (c := codeOf Tryz.f209) (ps := cmp_isNaN_uint64_ps) (rs := [(.bool, false)]) (nx := 16) ⟨tyOf_ok tys_ok, gOf_ok trivial⟩ rfl (by kernel_rfl) (by kernel_rfl) (by kernel_rfl) (by kernel_rfl) (by kernel_rfl) (by kernel_rfl) rfl (by kernel_rfl) (by kernel_rfl) (AnnOk_list [] (by kernel_rfl) trivial) mix_ok (cmp_isNaN_uint64_eq)

noncomputable def cmp_Compare_uint64_V : Variant := ⟨[.val ty_15 false, .val ty_15 false], [(ty_0, false)], fun x => cmp_Compare_uint64 x.1 x.2.1⟩
noncomputable def cmp_Compare_uint64_C : Cfg := ⟨Tryz.prog, tyOf tys, 20, gOf [(209, [], cmp_isNaN_uint64_V)], false, [], []⟩
def cmp_Compare_uint64_ps : List PE := [⟨0, 0, .val ty_15 false, false⟩, ⟨1, 16, .val ty_15 false, false⟩]
noncomputable def cmp_Compare_uint64_F : Fn (Int) := ⟨cmp_Compare_uint64_C, rdRes Tryz.prog cmp_Compare_uint64_ps [(ty_0, false)] Tryz.f205.results.toList .ret, fun p => none, 0, []⟩
theorem cmp_Compare_uint64_eq (x : PTe cmp_Compare_uint64_ps) : evFn (cmp_Compare_uint64_F) (codeOf Tryz.f205) cmp_Compare_uint64_ps 32 x = cmp_Compare_uint64 x.1 x.2.1 := by kernel_rfl
theorem cmp_Compare_uint64_K : Contract Tryz.prog 205 (cmp_Compare_uint64_V) :=
  contract (C := cmp_Compare_uint64_C) (F := cmp_Compare_uint64_F) (fn := Tryz.f205) (c := codeOf Tryz.f205) (ps := cmp_Compare_uint64_ps) (rs := [(ty_0, false)]) (nx := 32) ⟨tyOf_ok tys_ok, gOf_ok ⟨cmp_isNaN_uint64_K, trivial⟩⟩ rfl (by kernel_rfl) (by kernel_rfl) (by kernel_rfl) (by kernel_rfl) (by kernel_rfl) (by kernel_rfl) rfl (by kernel_rfl) (by kernel_rfl) (AnnOk_list [] (by kernel_rfl) trivial) mix_ok (cmp_Compare_uint64_eq)

noncomputable def impl_compareSizes_V (k : Nat) : Variant := ⟨[.val ty_17 true, .val ty_17 true], [(ty_0, false)], fun x => impl_compareSizes k x.1 x.2.1⟩
noncomputable def impl_compareSizes_C (k : Nat) : Cfg := ⟨Tryz.prog, tyOf tys, 17, gOf [(205, [], cmp_Compare_uint64_V), (195, [], cmp_Or_int_V k)], false, [], []⟩
def impl_compareSizes_ps : List PE := [⟨0, 0, .val ty_17 true, false⟩, ⟨1, 16, .val ty_17 true, false⟩]
noncomputable def impl_compareSizes_F (k : Nat) : Fn (Int) := ⟨impl_compareSizes_C k, rdRes Tryz.prog impl_compareSizes_ps [(ty_0, false)] Tryz.f191.results.toList .ret, fun p => none, 0, []⟩
theorem impl_compareSizes_eq (k : Nat) (x : PTe impl_compareSizes_ps) : evFn (impl_compareSizes_F k) (codeOf Tryz.f191) impl_compareSizes_ps 32 x = impl_compareSizes k x.1 x.2.1 := by kernel_rfl
theorem impl_compareSizes_K (k : Nat) : Contract Tryz.prog 191 (impl_compareSizes_V k) :=
  contract (C := impl_compareSizes_C k) (F := impl_compareSizes_F k) (fn := Tryz.f191) (c := codeOf Tryz.f191) (ps := impl_compareSizes_ps) (rs := [(ty_0, false)]) (nx := 32) ⟨tyOf_ok tys_ok, gOf_ok ⟨cmp_Compare_uint64_K, cmp_Or_int_K k, trivial⟩⟩ rfl (by kernel_rfl) (by kernel_rfl) (by kernel_rfl) (by kernel_rfl) (by kernel_rfl) (by kernel_rfl) rfl (by kernel_rfl) (by kernel_rfl) (AnnOk_list [] (by kernel_rfl) trivial) mix_ok (impl_compareSizes_eq k)

noncomputable def impl_compareWide_V (k : Nat) : Variant := ⟨[.val ty_17 true, .val ty_17 true], [(ty_0, false)], fun x => impl_compareWide k x.1 x.2.1⟩
noncomputable def impl_compareWide_C (k : Nat) : Cfg := ⟨Tryz.prog, tyOf tys, 29, gOf [(155, [], impl_wide_isZero_V), (191, [], impl_compareSizes_V k)], false, [], []⟩
def impl_compareWide_ps : List PE := [⟨0, 0, .val ty_17 true, false⟩, ⟨1, 16, .val ty_17 true, false⟩]
noncomputable def impl_compareWide_F (k : Nat) : Fn (Int) := ⟨impl_compareWide_C k, rdRes Tryz.prog impl_compareWide_ps [(ty_0, false)] Tryz.f188.results.toList .ret, fun p => bif Nat.beq p 6 then some (.cut [⟨2, 32, .box ty_17 false, false⟩, ⟨3, 48, .box ty_17 false, false⟩] 64) else none, 0, []⟩
theorem impl_compareWide_eq (k : Nat) (x : PTe impl_compareWide_ps) : evFn (impl_compareWide_F k) (codeOf Tryz.f188) impl_compareWide_ps 32 x = impl_compareWide k x.1 x.2.1 := by kernel_rfl
theorem impl_compareWide_K (k : Nat) : Contract Tryz.prog 188 (impl_compareWide_V k) :=
  contract (C := impl_compareWide_C k) (F := impl_compareWide_F k) (fn := Tryz.f188) (c := codeOf Tryz.f188) (ps := impl_compareWide_ps) (rs := [(ty_0, false)]) (nx := 32) ⟨tyOf_ok tys_ok, gOf_ok ⟨impl_wide_isZero_K, impl_compareSizes_K k, trivial⟩⟩ rfl (by kernel_rfl) (by kernel_rfl) (by kernel_rfl) (by kernel_rfl) (by kernel_rfl) (by kernel_rfl) rfl (by kernel_rfl) (by kernel_rfl) (AnnOk_list [] (by kernel_rfl) trivial) mix_ok (impl_compareWide_eq k)

noncomputable def impl_compareD_V (k : Nat) : Variant := ⟨[.val ty_1 true, .val ty_1 true], [(ty_0, false)], fun x => impl_compareD k x.1 x.2.1⟩
noncomputable def impl_compareD_C (k : Nat) : Cfg := ⟨Tryz.prog, tyOf tys, 28, gOf [(120, [], impl_wideOf_V), (156, [], impl_wide_shift_V), (188, [], impl_compareWide_V k)], false, [], []⟩
def impl_compareD_ps : List PE := [⟨0, 0, .val ty_1 true, false⟩, ⟨1, 16, .val ty_1 true, false⟩]
noncomputable def impl_compareD_F (k : Nat) : Fn (Int) := ⟨impl_compareD_C k, rdRes Tryz.prog impl_compareD_ps [(ty_0, false)] Tryz.f171.results.toList .ret, fun p => none, 0, []⟩
theorem impl_compareD_eq (k : Nat) (x : PTe impl_compareD_ps) : evFn (impl_compareD_F k) (codeOf Tryz.f171) impl_compareD_ps 32 x = impl_compareD k x.1 x.2.1 := by kernel_rfl
theorem impl_compareD_K (k : Nat) : Contract Tryz.prog 171 (impl_compareD_V k) :=
  contract (C := impl_compareD_C k) (F := impl_compareD_F k) (fn := Tryz.f171) (c := codeOf Tryz.f171) (ps := impl_compareD_ps) (rs := [(ty_0, false)]) (nx := 32) ⟨tyOf_ok tys_ok, gOf_ok ⟨impl_wideOf_K, impl_wide_shift_K, impl_compareWide_K k, trivial⟩⟩ rfl (by kernel_rfl) (by kernel_rfl) (by kernel_rfl) (by kernel_rfl) (by kernel_rfl) (by kernel_rfl) rfl (by kernel_rfl) (by kernel_rfl) (AnnOk_list [] (by kernel_rfl) trivial) mix_ok (impl_compareD_eq k)

noncomputable def impl_lesser_V (k : Nat) : Variant := ⟨[.val ty_1 true, .val ty_1 true], [(ty_1, true)], fun x => impl_lesser k x.1 x.2.1⟩
noncomputable def impl_lesser_C (k : Nat) : Cfg := ⟨Tryz.prog, tyOf tys, 11, gOf [(171, [], impl_compareD_V k)], false, [], []⟩
def impl_lesser_ps : List PE := [⟨0, 0, .val ty_1 true, false⟩, ⟨1, 16, .val ty_1 true, false⟩]
noncomputable def impl_lesser_F (k : Nat) : Fn (Int × Int) := ⟨impl_lesser_C k, rdRes Tryz.prog impl_lesser_ps [(ty_1, true)] Tryz.f136.results.toList .ret, fun p => none, 0, []⟩
theorem impl_lesser_eq (k : Nat) (x : PTe impl_lesser_ps) : evFn (impl_lesser_F k) (codeOf Tryz.f136) impl_lesser_ps 32 x = impl_lesser k x.1 x.2.1 := by kernel_rfl
theorem impl_lesser_K (k : Nat) : Contract Tryz.prog 136 (impl_lesser_V k) :=
  contract (C := impl_lesser_C k) (F := impl_lesser_F k) (fn := Tryz.f136) (c := codeOf Tryz.f136) (ps := impl_lesser_ps) (rs := [(ty_1, true)]) (nx := 32) ⟨tyOf_ok tys_ok, gOf_ok ⟨impl_compareD_K k, trivial⟩⟩ rfl (by kernel_rfl) (by kernel_rfl) (by kernel_rfl) (by kernel_rfl) (by kernel_rfl) (by kernel_rfl) rfl (by kernel_rfl) (by kernel_rfl) (AnnOk_list [] (by kernel_rfl) trivial) mix_ok (impl_lesser_eq k)

noncomputable def impl_greater_V (k : Nat) : Variant := ⟨[.val ty_1 true, .val ty_1 true], [(ty_1, true)], fun x => impl_greater k x.1 x.2.1⟩
noncomputable def impl_greater_C (k : Nat) : Cfg := ⟨Tryz.prog, tyOf tys, 11, gOf [(171, [], impl_compareD_V k)], false, [], []⟩
def impl_greater_ps : List PE := [⟨0, 0, .val ty_1 true, false⟩, ⟨1, 16, .val ty_1 true, false⟩]
noncomputable def impl_greater_F (k : Nat) : Fn (Int × Int) := ⟨impl_greater_C k, rdRes Tryz.prog impl_greater_ps [(ty_1, true)] Tryz.f137.results.toList .ret, fun p => none, 0, []⟩
theorem impl_greater_eq (k : Nat) (x : PTe impl_greater_ps) : evFn (impl_greater_F k) (codeOf Tryz.f137) impl_greater_ps 32 x = impl_greater k x.1 x.2.1 := by kernel_rfl
theorem impl_greater_K (k : Nat) : Contract Tryz.prog 137 (impl_greater_V k) :=
  contract (C := impl_greater_C k) (F := impl_greater_F k) (fn := Tryz.f137) (c := codeOf Tryz.f137) (ps := impl_greater_ps) (rs := [(ty_1, true)]) (nx := 32) ⟨tyOf_ok tys_ok, gOf_ok ⟨impl_compareD_K k, trivial⟩⟩ rfl (by kernel_rfl) (by kernel_rfl) (by kernel_rfl) (by kernel_rfl) (by kernel_rfl) (by kernel_rfl) rfl (by kernel_rfl) (by kernel_rfl) (AnnOk_list [] (by kernel_rfl) trivial) mix_ok (impl_greater_eq k)

noncomputable def impl_integer_V : Variant := ⟨[.val ty_0 false], [(ty_1, true)], fun x => impl_integer x.1⟩
noncomputable def impl_integer_C : Cfg := ⟨Tryz.prog, tyOf tys, 5, gOf [], false, [], []⟩
def impl_integer_ps : List PE := [⟨0, 0, .val ty_0 false, false⟩]
noncomputable def impl_integer_F : Fn (Int × Int) := ⟨impl_integer_C, rdRes Tryz.prog impl_integer_ps [(ty_1, true)] Tryz.f164.results.toList .ret, fun p => none, 0, []⟩
theorem impl_integer_eq (x : PTe impl_integer_ps) : evFn (impl_integer_F) (codeOf Tryz.f164) impl_integer_ps 16 x = impl_integer x.1 := by kernel_rfl
theorem impl_integer_K : Contract Tryz.prog 164 (impl_integer_V) :=
  contract (C := impl_integer_C) (F := impl_integer_F) (fn := Tryz.f164) (c := codeOf Tryz.f164) (ps := impl_integer_ps) (rs := [(ty_1, true)]) (nx := 16) ⟨tyOf_ok tys_ok, gOf_ok trivial⟩ rfl (by kernel_rfl) (by kernel_rfl) (by kernel_rfl) (by kernel_rfl) (by kernel_rfl) (by kernel_rfl) rfl (by kernel_rfl) (by kernel_rfl) (AnnOk_list [] (by kernel_rfl) trivial) mix_ok (impl_integer_eq)

noncomputable def math_bits_Mul64_V : Variant := ⟨[.val ty_15 false, .val ty_15 false], [(ty_15, false), (ty_15, false)], fun x => math_bits_Mul64 x.1 x.2.1⟩
noncomputable def math_bits_Mul64_C : Cfg := ⟨Tryz.prog, tyOf tys, 51, gOf [], false, [], []⟩
def math_bits_Mul64_ps : List PE := [⟨0, 0, .val ty_15 false, false⟩, ⟨1, 16, .val ty_15 false, false⟩]
noncomputable def math_bits_Mul64_F : Fn (Int × Int) := ⟨math_bits_Mul64_C, rdRes Tryz.prog math_bits_Mul64_ps [(ty_15, false), (ty_15, false)] Tryz.f210.results.toList .ret, fun p => none, 0, []⟩
theorem math_bits_Mul64_eq (x : PTe math_bits_Mul64_ps) : evFn (math_bits_Mul64_F) (codeOf Tryz.f210) math_bits_Mul64_ps 32 x = math_bits_Mul64 x.1 x.2.1 := by kernel_rfl
theorem math_bits_Mul64_K : Contract Tryz.prog 210 (math_bits_Mul64_V) :=
  contract (C := math_bits_Mul64_C) (F := math_bits_Mul64_F) (fn := Tryz.f210) (c := codeOf Tryz.f210) (ps := math_bits_Mul64_ps) (rs := [(ty_15, false), (ty_15, false)]) (nx := 32) ⟨tyOf_ok tys_ok, gOf_ok trivial⟩ rfl (by kernel_rfl) (by kernel_rfl) (by kernel_rfl) (by kernel_rfl) (by kernel_rfl) (by kernel_rfl) rfl (by kernel_rfl) (by kernel_rfl) (AnnOk_list [] (by kernel_rfl) trivial) mix_ok (math_bits_Mul64_eq)

noncomputable def impl_timesWide_V : Variant := ⟨[.val ty_0 false, .val ty_0 false], [(ty_17, true)], fun x => impl_timesWide x.1 x.2.1⟩
noncomputable def impl_timesWide_C : Cfg := ⟨Tryz.prog, tyOf tys, 23, gOf [(154, [], impl_size_V), (210, [], math_bits_Mul64_V)], false, [], []⟩
def impl_timesWide_ps : List PE := [⟨0, 0, .val ty_0 false, false⟩, ⟨1, 16, .val ty_0 false, false⟩]
noncomputable def impl_timesWide_F : Fn (Bool × Int × Int) := ⟨impl_timesWide_C, rdRes Tryz.prog impl_timesWide_ps [(ty_17, true)] Tryz.f208.results.toList .ret, fun p => none, 0, []⟩
theorem impl_timesWide_eq (x : PTe impl_timesWide_ps) : evFn (impl_timesWide_F) (codeOf Tryz.f208) impl_timesWide_ps 32 x = impl_timesWide x.1 x.2.1 := by kernel_rfl
theorem impl_timesWide_K : Contract Tryz.prog 208 (impl_timesWide_V) :=
  contract (C := impl_timesWide_C) (F := impl_timesWide_F) (fn := Tryz.f208) (c := codeOf Tryz.f208) (ps := impl_timesWide_ps) (rs := [(ty_17, true)]) (nx := 32) ⟨tyOf_ok tys_ok, gOf_ok ⟨impl_size_K, math_bits_Mul64_K, trivial⟩⟩ rfl (by kernel_rfl) (by kernel_rfl) (by kernel_rfl) (by kernel_rfl) (by kernel_rfl) (by kernel_rfl) rfl (by kernel_rfl) (by kernel_rfl) (AnnOk_list [] (by kernel_rfl) trivial) mix_ok (impl_timesWide_eq)

noncomputable def impl_productOf_V (k : Nat) : Variant := ⟨[.val ty_1 true, .val ty_1 true], [(ty_1, true), (.bool, false)], fun x => impl_productOf k x.1 x.2.1⟩
noncomputable def impl_productOf_C (k : Nat) : Cfg := ⟨Tryz.prog, tyOf tys, 19, gOf [(208, [], impl_timesWide_V), (122, [], impl_wide_fit_V k)], false, [], []⟩
def impl_productOf_ps : List PE := [⟨0, 0, .val ty_1 true, false⟩, ⟨1, 16, .val ty_1 true, false⟩]
noncomputable def impl_productOf_F (k : Nat) : Fn ((Int × Int) × Bool) := ⟨impl_productOf_C k, rdRes Tryz.prog impl_productOf_ps [(ty_1, true), (.bool, false)] Tryz.f201.results.toList .ret, fun p => none, 0, []⟩
theorem impl_productOf_eq (k : Nat) (x : PTe impl_productOf_ps) : evFn (impl_productOf_F k) (codeOf Tryz.f201) impl_productOf_ps 32 x = impl_productOf k x.1 x.2.1 := by kernel_rfl
theorem impl_productOf_K (k : Nat) : Contract Tryz.prog 201 (impl_productOf_V k) :=
  contract (C := impl_productOf_C k) (F := impl_productOf_F k) (fn := Tryz.f201) (c := codeOf Tryz.f201) (ps := impl_productOf_ps) (rs := [(ty_1, true), (.bool, false)]) (nx := 32) ⟨tyOf_ok tys_ok, gOf_ok ⟨impl_timesWide_K, impl_wide_fit_K k, trivial⟩⟩ rfl (by kernel_rfl) (by kernel_rfl) (by kernel_rfl) (by kernel_rfl) (by kernel_rfl) (by kernel_rfl) rfl (by kernel_rfl) (by kernel_rfl) (AnnOk_list [] (by kernel_rfl) trivial) mix_ok (impl_productOf_eq k)

noncomputable def impl_reckoner_keep_V : Variant := ⟨[.ptr .bool true, .val ty_1 true, .val .bool false], [(ty_1, true)], fun x => impl_reckoner_keep x.1 x.2.1 x.2.2.1⟩
noncomputable def impl_reckoner_keep_C : Cfg := ⟨Tryz.prog, tyOf tys, 24, gOf [], false, [], []⟩
def impl_reckoner_keep_ps : List PE := [⟨0, 0, .ptr .bool true, true⟩, ⟨1, 16, .val ty_1 true, false⟩, ⟨2, 32, .val .bool false, false⟩]
noncomputable def impl_reckoner_keep_F : Fn ((Int × Int) × Bool) := ⟨impl_reckoner_keep_C, rdRes Tryz.prog impl_reckoner_keep_ps [(ty_1, true)] Tryz.f200.results.toList .ret, fun p => none, 0, [0]⟩
theorem impl_reckoner_keep_eq (x : PTe impl_reckoner_keep_ps) : evFn (impl_reckoner_keep_F) (codeOf Tryz.f200) impl_reckoner_keep_ps 48 x = impl_reckoner_keep x.1 x.2.1 x.2.2.1 := by kernel_rfl
theorem impl_reckoner_keep_K : Contract Tryz.prog 200 (impl_reckoner_keep_V) :=
  contract (C := impl_reckoner_keep_C) (F := impl_reckoner_keep_F) (fn := Tryz.f200) (c := codeOf Tryz.f200) (ps := impl_reckoner_keep_ps) (rs := [(ty_1, true)]) (nx := 48) ⟨tyOf_ok tys_ok, gOf_ok trivial⟩ rfl (by kernel_rfl) (by kernel_rfl) (by kernel_rfl) (by kernel_rfl) (by kernel_rfl) (by kernel_rfl) rfl (by kernel_rfl) (by kernel_rfl) (AnnOk_list [] (by kernel_rfl) trivial) mix_ok (impl_reckoner_keep_eq)

noncomputable def impl_reckoner_product_V (k : Nat) : Variant := ⟨[.ptr .bool true, .val ty_1 true, .val ty_1 true], [(ty_1, true)], fun x => impl_reckoner_product k x.1 x.2.1 x.2.2.1⟩
noncomputable def impl_reckoner_product_C (k : Nat) : Cfg := ⟨Tryz.prog, tyOf tys, 14, gOf [(201, [], impl_productOf_V k), (200, [], impl_reckoner_keep_V)], false, [], []⟩
def impl_reckoner_product_ps : List PE := [⟨0, 0, .ptr .bool true, true⟩, ⟨1, 16, .val ty_1 true, false⟩, ⟨2, 32, .val ty_1 true, false⟩]
noncomputable def impl_reckoner_product_F (k : Nat) : Fn ((Int × Int) × Bool) := ⟨impl_reckoner_product_C k, rdRes Tryz.prog impl_reckoner_product_ps [(ty_1, true)] Tryz.f185.results.toList .ret, fun p => none, 0, [0]⟩
theorem impl_reckoner_product_eq (k : Nat) (x : PTe impl_reckoner_product_ps) : evFn (impl_reckoner_product_F k) (codeOf Tryz.f185) impl_reckoner_product_ps 48 x = impl_reckoner_product k x.1 x.2.1 x.2.2.1 := by kernel_rfl
theorem impl_reckoner_product_K (k : Nat) : Contract Tryz.prog 185 (impl_reckoner_product_V k) :=
  contract (C := impl_reckoner_product_C k) (F := impl_reckoner_product_F k) (fn := Tryz.f185) (c := codeOf Tryz.f185) (ps := impl_reckoner_product_ps) (rs := [(ty_1, true)]) (nx := 48) ⟨tyOf_ok tys_ok, gOf_ok ⟨impl_productOf_K k, impl_reckoner_keep_K, trivial⟩⟩ rfl (by kernel_rfl) (by kernel_rfl) (by kernel_rfl) (by kernel_rfl) (by kernel_rfl) (by kernel_rfl) rfl (by kernel_rfl) (by kernel_rfl) (AnnOk_list [] (by kernel_rfl) trivial) mix_ok (impl_reckoner_product_eq k)

noncomputable def impl_signOf_V : Variant := ⟨[.val ty_10 true], [(ty_0, false)], fun x => impl_signOf x.1⟩
noncomputable def impl_signOf_C : Cfg := ⟨Tryz.prog, tyOf tys, 13, gOf [], false, [], []⟩
def impl_signOf_ps : List PE := [⟨0, 0, .val ty_10 true, false⟩]
noncomputable def impl_signOf_F : Fn (Int) := ⟨impl_signOf_C, rdRes Tryz.prog impl_signOf_ps [(ty_0, false)] Tryz.f131.results.toList .ret, fun p => none, 0, []⟩
theorem impl_signOf_eq (x : PTe impl_signOf_ps) : evFn (impl_signOf_F) (codeOf Tryz.f131) impl_signOf_ps 16 x = impl_signOf x.1 := by kernel_rfl
theorem impl_signOf_K : Contract Tryz.prog 131 (impl_signOf_V) :=
  contract (C := impl_signOf_C) (F := impl_signOf_F) (fn := Tryz.f131) (c := codeOf Tryz.f131) (ps := impl_signOf_ps) (rs := [(ty_0, false)]) (nx := 16) ⟨tyOf_ok tys_ok, gOf_ok trivial⟩ rfl (by kernel_rfl) (by kernel_rfl) (by kernel_rfl) (by kernel_rfl) (by kernel_rfl) (by kernel_rfl) rfl (by kernel_rfl) (by kernel_rfl) (AnnOk_list [] (by kernel_rfl) trivial) mix_ok (impl_signOf_eq)

noncomputable def impl_roundDown_V (k : Nat) : Variant := ⟨[.val ty_1 true, .val ty_0 false], [(ty_1, true)], fun x => impl_roundDown k x.1 x.2.1⟩
noncomputable def impl_roundDown_C (k : Nat) : Cfg := ⟨Tryz.prog, tyOf tys, 26, gOf [(120, [], impl_wideOf_V), (122, [], impl_wide_fit_V k)], false, [], []⟩
def impl_roundDown_ps : List PE := [⟨0, 0, .val ty_1 true, false⟩, ⟨1, 16, .val ty_0 false, false⟩]
noncomputable def impl_roundDown_F (k : Nat) : Fn (Int × Int) := ⟨impl_roundDown_C k, rdRes Tryz.prog impl_roundDown_ps [(ty_1, true)] Tryz.f202.results.toList .ret, fun p => none, 0, []⟩
theorem impl_roundDown_eq (k : Nat) (x : PTe impl_roundDown_ps) : evFn (impl_roundDown_F k) (codeOf Tryz.f202) impl_roundDown_ps 32 x = impl_roundDown k x.1 x.2.1 := by kernel_rfl
theorem impl_roundDown_K (k : Nat) : Contract Tryz.prog 202 (impl_roundDown_V k) :=
  contract (C := impl_roundDown_C k) (F := impl_roundDown_F k) (fn := Tryz.f202) (c := codeOf Tryz.f202) (ps := impl_roundDown_ps) (rs := [(ty_1, true)]) (nx := 32) ⟨tyOf_ok tys_ok, gOf_ok ⟨impl_wideOf_K, impl_wide_fit_K k, trivial⟩⟩ rfl (by kernel_rfl) (by kernel_rfl) (by kernel_rfl) (by kernel_rfl) (by kernel_rfl) (by kernel_rfl) rfl (by kernel_rfl) (by kernel_rfl) (AnnOk_list [] (by kernel_rfl) trivial) mix_ok (impl_roundDown_eq k)

noncomputable def impl_minus_V : Variant := ⟨[.val ty_1 true], [(ty_1, true)], fun x => impl_minus x.1⟩
noncomputable def impl_minus_C : Cfg := ⟨Tryz.prog, tyOf tys, 9, gOf [], false, [], []⟩
def impl_minus_ps : List PE := [⟨0, 0, .val ty_1 true, false⟩]
noncomputable def impl_minus_F : Fn (Int × Int) := ⟨impl_minus_C, rdRes Tryz.prog impl_minus_ps [(ty_1, true)] Tryz.f203.results.toList .ret, fun p => none, 0, []⟩
theorem impl_minus_eq (x : PTe impl_minus_ps) : evFn (impl_minus_F) (codeOf Tryz.f203) impl_minus_ps 16 x = impl_minus x.1 := by kernel_rfl
theorem impl_minus_K : Contract Tryz.prog 203 (impl_minus_V) :=
  contract (C := impl_minus_C) (F := impl_minus_F) (fn := Tryz.f203) (c := codeOf Tryz.f203) (ps := impl_minus_ps) (rs := [(ty_1, true)]) (nx := 16) ⟨tyOf_ok tys_ok, gOf_ok trivial⟩ rfl (by kernel_rfl) (by kernel_rfl) (by kernel_rfl) (by kernel_rfl) (by kernel_rfl) (by kernel_rfl) rfl (by kernel_rfl) (by kernel_rfl) (AnnOk_list [] (by kernel_rfl) trivial) mix_ok (impl_minus_eq)

noncomputable def impl_roundOut_V (k : Nat) : Variant := ⟨[.val ty_10 true, .val ty_0 false], [(ty_10, true)], fun x => impl_roundOut k x.1 x.2.1⟩
noncomputable def impl_roundOut_C (k : Nat) : Cfg := ⟨Tryz.prog, tyOf tys, 16, gOf [(202, [], impl_roundDown_V k), (203, [], impl_minus_V)], false, [], []⟩
def impl_roundOut_ps : List PE := [⟨0, 0, .val ty_10 true, false⟩, ⟨1, 16, .val ty_0 false, false⟩]
noncomputable def impl_roundOut_F (k : Nat) : Fn ((Int × Int) × Int × Int) := ⟨impl_roundOut_C k, rdRes Tryz.prog impl_roundOut_ps [(ty_10, true)] Tryz.f186.results.toList .ret, fun p => none, 0, []⟩
theorem impl_roundOut_eq (k : Nat) (x : PTe impl_roundOut_ps) : evFn (impl_roundOut_F k) (codeOf Tryz.f186) impl_roundOut_ps 32 x = impl_roundOut k x.1 x.2.1 := by kernel_rfl
theorem impl_roundOut_K (k : Nat) : Contract Tryz.prog 186 (impl_roundOut_V k) :=
  contract (C := impl_roundOut_C k) (F := impl_roundOut_F k) (fn := Tryz.f186) (c := codeOf Tryz.f186) (ps := impl_roundOut_ps) (rs := [(ty_10, true)]) (nx := 32) ⟨tyOf_ok tys_ok, gOf_ok ⟨impl_roundDown_K k, impl_minus_K, trivial⟩⟩ rfl (by kernel_rfl) (by kernel_rfl) (by kernel_rfl) (by kernel_rfl) (by kernel_rfl) (by kernel_rfl) rfl (by kernel_rfl) (by kernel_rfl) (AnnOk_list [] (by kernel_rfl) trivial) mix_ok (impl_roundOut_eq k)

noncomputable def impl_reckoner_power_V (k : Nat) : Variant := ⟨[.ptr .bool true, .val ty_10 true, .val ty_0 false], [(ty_10, true)], fun x => impl_reckoner_power k x.1 x.2.1 x.2.2.1⟩
noncomputable def impl_reckoner_power_C (k : Nat) : Cfg := ⟨Tryz.prog, tyOf tys, 49, gOf [(164, [], impl_integer_V), (135, [], impl_single_V), (185, [], impl_reckoner_product_V k), (136, [], impl_lesser_V k), (137, [], impl_greater_V k), (131, [], impl_signOf_V), (186, [], impl_roundOut_V k)], false, [], []⟩
def impl_reckoner_power_i122 : List PE := [⟨0, 0, .ptr .bool true, true⟩, ⟨2, 48, .val ty_0 false, false⟩, ⟨4, 64, .box ty_10 false, false⟩, ⟨6, 80, .box ty_10 false, false⟩, ⟨7, 96, .box ty_1 false, false⟩, ⟨8, 112, .box ty_1 false, false⟩, ⟨18, 128, .val ty_0 false, false⟩, ⟨19, 144, .val ty_0 false, false⟩]
def impl_reckoner_power_o122 : List PE := [⟨2, 48, .val ty_0 false, false⟩, ⟨4, 64, .box ty_10 false, false⟩, ⟨6, 80, .box ty_10 false, false⟩, ⟨7, 96, .box ty_1 false, false⟩, ⟨8, 112, .box ty_1 false, false⟩, ⟨0, 0, .ptr .bool true, true⟩]
noncomputable def impl_reckoner_power_f122 (k : Nat) (n : Nat) (x5 : PTe impl_reckoner_power_i122) : Option ((((Int × Int) × Int × Int) × Bool) ⊕ PTe impl_reckoner_power_o122) := impl_reckoner_power_L122 k n x5.1 x5.2.1 x5.2.2.1 x5.2.2.2.1 x5.2.2.2.2.1 x5.2.2.2.2.2.1 x5.2.2.2.2.2.2.1 x5.2.2.2.2.2.2.2.1
def impl_reckoner_power_ps : List PE := [⟨0, 0, .ptr .bool true, true⟩, ⟨1, 16, .val ty_10 true, false⟩, ⟨2, 32, .val ty_0 false, false⟩]
noncomputable def impl_reckoner_power_F (k : Nat) : Fn (((Int × Int) × Int × Int) × Bool) := ⟨impl_reckoner_power_C k, rdRes Tryz.prog impl_reckoner_power_ps [(ty_10, true)] Tryz.f166.results.toList .ret, fun p => bif Nat.beq p 122 then some (.loop impl_reckoner_power_i122 impl_reckoner_power_o122 0 160 (impl_reckoner_power_f122 k k)) else bif Nat.beq p 62 then some (.cut [⟨6, 48, .box ty_10 false, false⟩, ⟨7, 64, .box ty_1 false, false⟩, ⟨8, 80, .box ty_1 false, false⟩, ⟨0, 0, .ptr .bool true, true⟩] 96) else none, 0, [0]⟩
theorem impl_reckoner_power_eq (k : Nat) (x : PTe impl_reckoner_power_ps) : evFn (impl_reckoner_power_F k) (codeOf Tryz.f166) impl_reckoner_power_ps 48 x = impl_reckoner_power k x.1 x.2.1 x.2.2.1 := by kernel_rfl
theorem impl_reckoner_power_ls : loopsOf (codeOf Tryz.f166) 1 = [(122, loopB (codeOf Tryz.f166) 122)] := by kernel_rfl
theorem impl_reckoner_power_l122 (k : Nat) : LoopOk (impl_reckoner_power_F k) (loopB (codeOf Tryz.f166) 122) 122 := LoopOk.mk (pin := impl_reckoner_power_i122) (pout := impl_reckoner_power_o122) (ex := 0) (nx := 160) (Lf := impl_reckoner_power_f122 k) (k := k) (by kernel_rfl) (fun _ => rfl) (by intro n x; kernel_rfl)
theorem impl_reckoner_power_K (k : Nat) : Contract Tryz.prog 166 (impl_reckoner_power_V k) :=
  contract (C := impl_reckoner_power_C k) (F := impl_reckoner_power_F k) (fn := Tryz.f166) (c := codeOf Tryz.f166) (ps := impl_reckoner_power_ps) (rs := [(ty_10, true)]) (nx := 48) ⟨tyOf_ok tys_ok, gOf_ok ⟨impl_integer_K, impl_single_K, impl_reckoner_product_K k, impl_lesser_K k, impl_greater_K k, impl_signOf_K, impl_roundOut_K k, trivial⟩⟩ rfl (by kernel_rfl) (by kernel_rfl) (by kernel_rfl) (by kernel_rfl) (by kernel_rfl) (by kernel_rfl) rfl (by kernel_rfl) (by kernel_rfl) (AnnOk_list [(122, loopB (codeOf Tryz.f166) 122)] impl_reckoner_power_ls ⟨impl_reckoner_power_l122 k, trivial⟩) mix_ok (impl_reckoner_power_eq k)

noncomputable def impl_reckoner_multiply_V (k : Nat) : Variant := ⟨[.ptr .bool true, .val ty_10 true, .val ty_10 true], [(ty_10, true)], fun x => impl_reckoner_multiply k x.1 x.2.1 x.2.2.1⟩
noncomputable def impl_reckoner_multiply_C (k : Nat) : Cfg := ⟨Tryz.prog, tyOf tys, 51, gOf [(185, [], impl_reckoner_product_V k), (136, [], impl_lesser_V k), (137, [], impl_greater_V k), (186, [], impl_roundOut_V k)], false, [], []⟩
def impl_reckoner_multiply_ps : List PE := [⟨0, 0, .ptr .bool true, true⟩, ⟨1, 16, .val ty_10 true, false⟩, ⟨2, 32, .val ty_10 true, false⟩]
noncomputable def impl_reckoner_multiply_F (k : Nat) : Fn (((Int × Int) × Int × Int) × Bool) := ⟨impl_reckoner_multiply_C k, rdRes Tryz.prog impl_reckoner_multiply_ps [(ty_10, true)] Tryz.f165.results.toList .ret, fun p => none, 0, [0]⟩
theorem impl_reckoner_multiply_eq (k : Nat) (x : PTe impl_reckoner_multiply_ps) : evFn (impl_reckoner_multiply_F k) (codeOf Tryz.f165) impl_reckoner_multiply_ps 48 x = impl_reckoner_multiply k x.1 x.2.1 x.2.2.1 := by kernel_rfl
theorem impl_reckoner_multiply_K (k : Nat) : Contract Tryz.prog 165 (impl_reckoner_multiply_V k) :=
  contract (C := impl_reckoner_multiply_C k) (F := impl_reckoner_multiply_F k) (fn := Tryz.f165) (c := codeOf Tryz.f165) (ps := impl_reckoner_multiply_ps) (rs := [(ty_10, true)]) (nx := 48) ⟨tyOf_ok tys_ok, gOf_ok ⟨impl_reckoner_product_K k, impl_lesser_K k, impl_greater_K k, impl_roundOut_K k, trivial⟩⟩ rfl (by kernel_rfl) (by kernel_rfl) (by kernel_rfl) (by kernel_rfl) (by kernel_rfl) (by kernel_rfl) rfl (by kernel_rfl) (by kernel_rfl) (AnnOk_list [] (by kernel_rfl) trivial) mix_ok (impl_reckoner_multiply_eq k)

noncomputable def math_bits_Add64_V : Variant := V64 math_bits_Add64
theorem math_bits_Add64_K : Contract Tryz.prog 190 math_bits_Add64_V := contractAdd64 (fn := Tryz.f190) (by kernel_rfl) (by kernel_rfl) (by kernel_rfl) (by kernel_rfl) (by kernel_rfl)

noncomputable def math_bits_Sub64_V : Variant := V64 math_bits_Sub64
theorem math_bits_Sub64_K : Contract Tryz.prog 192 math_bits_Sub64_V := contractSub64 (fn := Tryz.f192) (by kernel_rfl) (by kernel_rfl) (by kernel_rfl) (by kernel_rfl) (by kernel_rfl)

noncomputable def impl_wide_add_V (k : Nat) : Variant := ⟨[.val ty_17 true, .val ty_17 true], [(ty_17, true)], fun x => impl_wide_add k x.1 x.2.1⟩
noncomputable def impl_wide_add_C (k : Nat) : Cfg := ⟨Tryz.prog, tyOf tys, 68, gOf [(190, [], math_bits_Add64_V), (191, [], impl_compareSizes_V k), (192, [], math_bits_Sub64_V)], false, [], []⟩
def impl_wide_add_ps : List PE := [⟨0, 0, .val ty_17 true, false⟩, ⟨1, 16, .val ty_17 true, false⟩]
noncomputable def impl_wide_add_F (k : Nat) : Fn (Bool × Int × Int) := ⟨impl_wide_add_C k, rdRes Tryz.prog impl_wide_add_ps [(ty_17, true)] Tryz.f175.results.toList .ret, fun p => bif Nat.beq p 14 then some (.cut [⟨2, 32, .box ty_17 false, false⟩, ⟨3, 48, .box ty_17 false, false⟩, ⟨4, 64, .box ty_17 false, false⟩] 80) else none, 0, []⟩
theorem impl_wide_add_eq (k : Nat) (x : PTe impl_wide_add_ps) : evFn (impl_wide_add_F k) (codeOf Tryz.f175) impl_wide_add_ps 32 x = impl_wide_add k x.1 x.2.1 := by kernel_rfl
theorem impl_wide_add_K (k : Nat) : Contract Tryz.prog 175 (impl_wide_add_V k) :=
  contract (C := impl_wide_add_C k) (F := impl_wide_add_F k) (fn := Tryz.f175) (c := codeOf Tryz.f175) (ps := impl_wide_add_ps) (rs := [(ty_17, true)]) (nx := 32) ⟨tyOf_ok tys_ok, gOf_ok ⟨math_bits_Add64_K, impl_compareSizes_K k, math_bits_Sub64_K, trivial⟩⟩ rfl (by kernel_rfl) (by kernel_rfl) (by kernel_rfl) (by kernel_rfl) (by kernel_rfl) (by kernel_rfl) rfl (by kernel_rfl) (by kernel_rfl) (AnnOk_list [] (by kernel_rfl) trivial) mix_ok (impl_wide_add_eq k)

noncomputable def impl_sumOf_V (k : Nat) : Variant := ⟨[.val ty_1 true, .val ty_1 true], [(ty_1, true), (.bool, false)], fun x => impl_sumOf k x.1 x.2.1⟩
noncomputable def impl_sumOf_C (k : Nat) : Cfg := ⟨Tryz.prog, tyOf tys, 33, gOf [(120, [], impl_wideOf_V), (156, [], impl_wide_shift_V), (175, [], impl_wide_add_V k), (122, [], impl_wide_fit_V k)], false, [], []⟩
def impl_sumOf_ps : List PE := [⟨0, 0, .val ty_1 true, false⟩, ⟨1, 16, .val ty_1 true, false⟩]
noncomputable def impl_sumOf_F (k : Nat) : Fn ((Int × Int) × Bool) := ⟨impl_sumOf_C k, rdRes Tryz.prog impl_sumOf_ps [(ty_1, true), (.bool, false)] Tryz.f204.results.toList .ret, fun p => none, 0, []⟩
theorem impl_sumOf_eq (k : Nat) (x : PTe impl_sumOf_ps) : evFn (impl_sumOf_F k) (codeOf Tryz.f204) impl_sumOf_ps 32 x = impl_sumOf k x.1 x.2.1 := by kernel_rfl
theorem impl_sumOf_K (k : Nat) : Contract Tryz.prog 204 (impl_sumOf_V k) :=
  contract (C := impl_sumOf_C k) (F := impl_sumOf_F k) (fn := Tryz.f204) (c := codeOf Tryz.f204) (ps := impl_sumOf_ps) (rs := [(ty_1, true), (.bool, false)]) (nx := 32) ⟨tyOf_ok tys_ok, gOf_ok ⟨impl_wideOf_K, impl_wide_shift_K, impl_wide_add_K k, impl_wide_fit_K k, trivial⟩⟩ rfl (by kernel_rfl) (by kernel_rfl) (by kernel_rfl) (by kernel_rfl) (by kernel_rfl) (by kernel_rfl) rfl (by kernel_rfl) (by kernel_rfl) (AnnOk_list [] (by kernel_rfl) trivial) mix_ok (impl_sumOf_eq k)

noncomputable def impl_reckoner_sum_V (k : Nat) : Variant := ⟨[.ptr .bool true, .val ty_1 true, .val ty_1 true], [(ty_1, true)], fun x => impl_reckoner_sum k x.1 x.2.1 x.2.2.1⟩
noncomputable def impl_reckoner_sum_C (k : Nat) : Cfg := ⟨Tryz.prog, tyOf tys, 14, gOf [(204, [], impl_sumOf_V k), (200, [], impl_reckoner_keep_V)], false, [], []⟩
def impl_reckoner_sum_ps : List PE := [⟨0, 0, .ptr .bool true, true⟩, ⟨1, 16, .val ty_1 true, false⟩, ⟨2, 32, .val ty_1 true, false⟩]
noncomputable def impl_reckoner_sum_F (k : Nat) : Fn ((Int × Int) × Bool) := ⟨impl_reckoner_sum_C k, rdRes Tryz.prog impl_reckoner_sum_ps [(ty_1, true)] Tryz.f187.results.toList .ret, fun p => none, 0, [0]⟩
theorem impl_reckoner_sum_eq (k : Nat) (x : PTe impl_reckoner_sum_ps) : evFn (impl_reckoner_sum_F k) (codeOf Tryz.f187) impl_reckoner_sum_ps 48 x = impl_reckoner_sum k x.1 x.2.1 x.2.2.1 := by kernel_rfl
theorem impl_reckoner_sum_K (k : Nat) : Contract Tryz.prog 187 (impl_reckoner_sum_V k) :=
  contract (C := impl_reckoner_sum_C k) (F := impl_reckoner_sum_F k) (fn := Tryz.f187) (c := codeOf Tryz.f187) (ps := impl_reckoner_sum_ps) (rs := [(ty_1, true)]) (nx := 48) ⟨tyOf_ok tys_ok, gOf_ok ⟨impl_sumOf_K k, impl_reckoner_keep_K, trivial⟩⟩ rfl (by kernel_rfl) (by kernel_rfl) (by kernel_rfl) (by kernel_rfl) (by kernel_rfl) (by kernel_rfl) rfl (by kernel_rfl) (by kernel_rfl) (AnnOk_list [] (by kernel_rfl) trivial) mix_ok (impl_reckoner_sum_eq k)

noncomputable def impl_reckoner_add_V (k : Nat) : Variant := ⟨[.ptr .bool true, .val ty_10 true, .val ty_10 true], [(ty_10, true)], fun x => impl_reckoner_add k x.1 x.2.1 x.2.2.1⟩
noncomputable def impl_reckoner_add_C (k : Nat) : Cfg := ⟨Tryz.prog, tyOf tys, 20, gOf [(187, [], impl_reckoner_sum_V k)], false, [], []⟩
def impl_reckoner_add_ps : List PE := [⟨0, 0, .ptr .bool true, true⟩, ⟨1, 16, .val ty_10 true, false⟩, ⟨2, 32, .val ty_10 true, false⟩]
noncomputable def impl_reckoner_add_F (k : Nat) : Fn (((Int × Int) × Int × Int) × Bool) := ⟨impl_reckoner_add_C k, rdRes Tryz.prog impl_reckoner_add_ps [(ty_10, true)] Tryz.f168.results.toList .ret, fun p => none, 0, [0]⟩
theorem impl_reckoner_add_eq (k : Nat) (x : PTe impl_reckoner_add_ps) : evFn (impl_reckoner_add_F k) (codeOf Tryz.f168) impl_reckoner_add_ps 48 x = impl_reckoner_add k x.1 x.2.1 x.2.2.1 := by kernel_rfl
theorem impl_reckoner_add_K (k : Nat) : Contract Tryz.prog 168 (impl_reckoner_add_V k) :=
  contract (C := impl_reckoner_add_C k) (F := impl_reckoner_add_F k) (fn := Tryz.f168) (c := codeOf Tryz.f168) (ps := impl_reckoner_add_ps) (rs := [(ty_10, true)]) (nx := 48) ⟨tyOf_ok tys_ok, gOf_ok ⟨impl_reckoner_sum_K k, trivial⟩⟩ rfl (by kernel_rfl) (by kernel_rfl) (by kernel_rfl) (by kernel_rfl) (by kernel_rfl) (by kernel_rfl) rfl (by kernel_rfl) (by kernel_rfl) (AnnOk_list [] (by kernel_rfl) trivial) mix_ok (impl_reckoner_add_eq k)

noncomputable def impl_reckoner_result_V : Variant := ⟨[.ptr .bool true, .val ty_10 true], [(ty_10, true), (.bool, false)], fun x => impl_reckoner_result x.1 x.2.1⟩
noncomputable def impl_reckoner_result_C : Cfg := ⟨Tryz.prog, tyOf tys, 13, gOf [], false, [], []⟩
def impl_reckoner_result_ps : List PE := [⟨0, 0, .ptr .bool true, true⟩, ⟨1, 16, .val ty_10 true, false⟩]
noncomputable def impl_reckoner_result_F : Fn (((Int × Int) × Int × Int) × Bool × Bool) := ⟨impl_reckoner_result_C, rdRes Tryz.prog impl_reckoner_result_ps [(ty_10, true), (.bool, false)] Tryz.f169.results.toList .ret, fun p => none, 0, [0]⟩
theorem impl_reckoner_result_eq (x : PTe impl_reckoner_result_ps) : evFn (impl_reckoner_result_F) (codeOf Tryz.f169) impl_reckoner_result_ps 32 x = impl_reckoner_result x.1 x.2.1 := by kernel_rfl
theorem impl_reckoner_result_K : Contract Tryz.prog 169 (impl_reckoner_result_V) :=
  contract (C := impl_reckoner_result_C) (F := impl_reckoner_result_F) (fn := Tryz.f169) (c := codeOf Tryz.f169) (ps := impl_reckoner_result_ps) (rs := [(ty_10, true), (.bool, false)]) (nx := 32) ⟨tyOf_ok tys_ok, gOf_ok trivial⟩ rfl (by kernel_rfl) (by kernel_rfl) (by kernel_rfl) (by kernel_rfl) (by kernel_rfl) (by kernel_rfl) rfl (by kernel_rfl) (by kernel_rfl) (AnnOk_list [] (by kernel_rfl) trivial) mix_ok (impl_reckoner_result_eq)

noncomputable def impl_valueOver_V (k : Nat) : Variant := ⟨[.val ty_4 false, .val ty_14 false], [(ty_10, true), (.bool, false)], fun x => impl_valueOver k x.1 x.2.1⟩
noncomputable def impl_valueOver_C (k : Nat) : Cfg := ⟨Tryz.prog, tyOf tys, 54, gOf [(164, [], impl_integer_V), (135, [], impl_single_V), (167, [], impl_Term_exponents_V), (166, [], impl_reckoner_power_V k), (165, [], impl_reckoner_multiply_V k), (168, [], impl_reckoner_add_V k), (169, [], impl_reckoner_result_V)], false, [], []⟩
def impl_valueOver_i125338 : List PE := [⟨1, 32, .val ty_14 false, false⟩, ⟨4, 48, .box ty_10 false, false⟩, ⟨6, 64, .box .bool false, false⟩, ⟨7, 80, .box ty_10 false, false⟩, ⟨9, 96, .box ty_3 false, false⟩, ⟨10, 112, .box ty_10 false, false⟩, ⟨16, 128, .val ty_4 false, false⟩, ⟨17, 144, .val ty_0 false, false⟩, ⟨18, 160, .val ty_0 false, false⟩, ⟨26, 176, .val ty_14 false, false⟩, ⟨27, 192, .val ty_0 false, false⟩, ⟨28, 208, .val ty_0 false, false⟩]
def impl_valueOver_o125338 : List PE := [⟨1, 32, .val ty_14 false, false⟩, ⟨4, 48, .box ty_10 false, false⟩, ⟨6, 64, .box .bool false, false⟩, ⟨7, 80, .box ty_10 false, false⟩, ⟨10, 96, .box ty_10 false, false⟩, ⟨16, 112, .val ty_4 false, false⟩, ⟨17, 128, .val ty_0 false, false⟩, ⟨18, 144, .val ty_0 false, false⟩]
noncomputable def impl_valueOver_f125338 (k : Nat) (n : Nat) (x10 : PTe impl_valueOver_i125338) : Option ((((Int × Int) × Int × Int) × Bool) ⊕ PTe impl_valueOver_o125338) := impl_valueOver_L125338 k n x10.1 x10.2.1 x10.2.2.1 x10.2.2.2.1 x10.2.2.2.2.1 x10.2.2.2.2.2.1 x10.2.2.2.2.2.2.1 x10.2.2.2.2.2.2.2.1 x10.2.2.2.2.2.2.2.2.1 x10.2.2.2.2.2.2.2.2.2.1 x10.2.2.2.2.2.2.2.2.2.2.1 x10.2.2.2.2.2.2.2.2.2.2.2.1
def impl_valueOver_i122 : List PE := [⟨1, 32, .val ty_14 false, false⟩, ⟨4, 48, .box ty_10 false, false⟩, ⟨6, 64, .box .bool false, false⟩, ⟨7, 80, .box ty_10 false, false⟩, ⟨16, 96, .val ty_4 false, false⟩, ⟨17, 112, .val ty_0 false, false⟩, ⟨18, 128, .val ty_0 false, false⟩]
def impl_valueOver_o122 : List PE := [⟨4, 32, .box ty_10 false, false⟩, ⟨6, 48, .box .bool false, false⟩, ⟨7, 64, .box ty_10 false, false⟩]
noncomputable def impl_valueOver_f122 (k : Nat) (n : Nat) (x14 : PTe impl_valueOver_i122) : Option ((((Int × Int) × Int × Int) × Bool) ⊕ PTe impl_valueOver_o122) := impl_valueOver_L122 k n x14.1 x14.2.1 x14.2.2.1 x14.2.2.2.1 x14.2.2.2.2.1 x14.2.2.2.2.2.1 x14.2.2.2.2.2.2.1
def impl_valueOver_ps : List PE := [⟨0, 0, .val ty_4 false, false⟩, ⟨1, 16, .val ty_14 false, false⟩]
noncomputable def impl_valueOver_F (k : Nat) : Fn (((Int × Int) × Int × Int) × Bool) := ⟨impl_valueOver_C k, rdRes Tryz.prog impl_valueOver_ps [(ty_10, true), (.bool, false)] Tryz.f130.results.toList .ret, fun p => bif Nat.beq p 125338 then some (.loop impl_valueOver_i125338 impl_valueOver_o125338 2 224 (impl_valueOver_f125338 k k)) else bif Nat.beq p 122 then some (.loop impl_valueOver_i122 impl_valueOver_o122 0 144 (impl_valueOver_f122 k k)) else none, 0, []⟩
theorem impl_valueOver_eq (k : Nat) (x : PTe impl_valueOver_ps) : evFn (impl_valueOver_F k) (codeOf Tryz.f130) impl_valueOver_ps 32 x = impl_valueOver k x.1 x.2.1 := by kernel_rfl
theorem impl_valueOver_ls : loopsOf (codeOf Tryz.f130) 1 = [(122, loopB (codeOf Tryz.f130) 122), (125338, loopB (codeOf Tryz.f130) 125338)] := by kernel_rfl
theorem impl_valueOver_l125338 (k : Nat) : LoopOk (impl_valueOver_F k) (loopB (codeOf Tryz.f130) 125338) 125338 := LoopOk.mk (pin := impl_valueOver_i125338) (pout := impl_valueOver_o125338) (ex := 2) (nx := 224) (Lf := impl_valueOver_f125338 k) (k := k) (by kernel_rfl) (fun _ => rfl) (by intro n x; kernel_rfl)
theorem impl_valueOver_l122 (k : Nat) : LoopOk (impl_valueOver_F k) (loopB (codeOf Tryz.f130) 122) 122 := LoopOk.mk (pin := impl_valueOver_i122) (pout := impl_valueOver_o122) (ex := 0) (nx := 144) (Lf := impl_valueOver_f122 k) (k := k) (by kernel_rfl) (fun _ => rfl) (by intro n x; kernel_rfl)
theorem impl_valueOver_K (k : Nat) : Contract Tryz.prog 130 (impl_valueOver_V k) :=
  contract (C := impl_valueOver_C k) (F := impl_valueOver_F k) (fn := Tryz.f130) (c := codeOf Tryz.f130) (ps := impl_valueOver_ps) (rs := [(ty_10, true), (.bool, false)]) (nx := 32) ⟨tyOf_ok tys_ok, gOf_ok ⟨impl_integer_K, impl_single_K, impl_Term_exponents_K, impl_reckoner_power_K k, impl_reckoner_multiply_K k, impl_reckoner_add_K k, impl_reckoner_result_K, trivial⟩⟩ rfl (by kernel_rfl) (by kernel_rfl) (by kernel_rfl) (by kernel_rfl) (by kernel_rfl) (by kernel_rfl) rfl (by kernel_rfl) (by kernel_rfl) (AnnOk_list [(122, loopB (codeOf Tryz.f130) 122), (125338, loopB (codeOf Tryz.f130) 125338)] impl_valueOver_ls ⟨impl_valueOver_l122 k, impl_valueOver_l125338 k, trivial⟩) mix_ok (impl_valueOver_eq k)

noncomputable def impl_edgeHolds_V (k : Nat) : Variant := ⟨[.val ty_5 false, .val ty_12 true, .val ty_0 false], [(.bool, false)], fun x => impl_edgeHolds k x.1 x.2.1 x.2.2.1⟩
noncomputable def impl_edgeHolds_C (k : Nat) : Cfg := ⟨Tryz.prog, tyOf tys, 58, gOf [(135, [], impl_single_V), (136, [], impl_lesser_V k), (137, [], impl_greater_V k), (130, [], impl_valueOver_V k), (131, [], impl_signOf_V)], false, [], []⟩
def impl_edgeHolds_ps : List PE := [⟨0, 0, .val ty_5 false, false⟩, ⟨1, 16, .val ty_12 true, false⟩, ⟨2, 32, .val ty_0 false, false⟩]
noncomputable def impl_edgeHolds_F (k : Nat) : Fn (Bool) := ⟨impl_edgeHolds_C k, rdRes Tryz.prog impl_edgeHolds_ps [(.bool, false)] Tryz.f96.results.toList .ret, fun p => bif Nat.beq p 14 then some (.cut [⟨0, 48, .val ty_5 false, false⟩, ⟨2, 64, .val ty_0 false, false⟩, ⟨7, 80, .eat ty_10, false⟩] 96) else none, 0, []⟩
theorem impl_edgeHolds_eq (k : Nat) (x : PTe impl_edgeHolds_ps) : evFn (impl_edgeHolds_F k) (codeOf Tryz.f96) impl_edgeHolds_ps 48 x = impl_edgeHolds k x.1 x.2.1 x.2.2.1 := by kernel_rfl
theorem impl_edgeHolds_K (k : Nat) : Contract Tryz.prog 96 (impl_edgeHolds_V k) :=
  contract (C := impl_edgeHolds_C k) (F := impl_edgeHolds_F k) (fn := Tryz.f96) (c := codeOf Tryz.f96) (ps := impl_edgeHolds_ps) (rs := [(.bool, false)]) (nx := 48) ⟨tyOf_ok tys_ok, gOf_ok ⟨impl_single_K, impl_lesser_K k, impl_greater_K k, impl_valueOver_K k, impl_signOf_K, trivial⟩⟩ rfl (by kernel_rfl) (by kernel_rfl) (by kernel_rfl) (by kernel_rfl) (by kernel_rfl) (by kernel_rfl) rfl (by kernel_rfl) (by kernel_rfl) (AnnOk_list [] (by kernel_rfl) trivial) mix_ok (impl_edgeHolds_eq k)

noncomputable def impl_turnsOf_V (k : Nat) : Variant := ⟨[.val ty_7 false], [(ty_0, false), (.bool, false)], fun x => impl_turnsOf k x.1⟩
noncomputable def impl_turnsOf_C (k : Nat) : Cfg := ⟨Tryz.prog, tyOf tys, 42, gOf [], false, [], []⟩
def impl_turnsOf_i58 : List PE := [⟨0, 16, .val ty_7 false, false⟩, ⟨4, 32, .val ty_0 false, false⟩, ⟨7, 48, .val ty_7 false, false⟩, ⟨8, 64, .val ty_0 false, false⟩, ⟨9, 80, .val ty_0 false, false⟩]
def impl_turnsOf_o58 : List PE := [⟨4, 16, .val ty_0 false, false⟩]
noncomputable def impl_turnsOf_f58 (k : Nat) (n : Nat) (x1 : PTe impl_turnsOf_i58) : Option ((Int × Bool) ⊕ PTe impl_turnsOf_o58) := impl_turnsOf_L58 k n x1.1 x1.2.1 x1.2.2.1 x1.2.2.2.1 x1.2.2.2.2.1
def impl_turnsOf_ps : List PE := [⟨0, 0, .val ty_7 false, false⟩]
noncomputable def impl_turnsOf_F (k : Nat) : Fn (Int × Bool) := ⟨impl_turnsOf_C k, rdRes Tryz.prog impl_turnsOf_ps [(ty_0, false), (.bool, false)] Tryz.f139.results.toList .ret, fun p => bif Nat.beq p 58 then some (.loop impl_turnsOf_i58 impl_turnsOf_o58 0 96 (impl_turnsOf_f58 k k)) else none, 0, []⟩
theorem impl_turnsOf_eq (k : Nat) (x : PTe impl_turnsOf_ps) : evFn (impl_turnsOf_F k) (codeOf Tryz.f139) impl_turnsOf_ps 16 x = impl_turnsOf k x.1 := by kernel_rfl
theorem impl_turnsOf_ls : loopsOf (codeOf Tryz.f139) 1 = [(58, loopB (codeOf Tryz.f139) 58)] := by kernel_rfl
theorem impl_turnsOf_l58 (k : Nat) : LoopOk (impl_turnsOf_F k) (loopB (codeOf Tryz.f139) 58) 58 := LoopOk.mk (pin := impl_turnsOf_i58) (pout := impl_turnsOf_o58) (ex := 0) (nx := 96) (Lf := impl_turnsOf_f58 k) (k := k) (by kernel_rfl) (fun _ => rfl) (by intro n x; kernel_rfl)
theorem impl_turnsOf_K (k : Nat) : Contract Tryz.prog 139 (impl_turnsOf_V k) :=
  contract (C := impl_turnsOf_C k) (F := impl_turnsOf_F k) (fn := Tryz.f139) (c := codeOf Tryz.f139) (ps := impl_turnsOf_ps) (rs := [(ty_0, false), (.bool, false)]) (nx := 16) ⟨tyOf_ok tys_ok, gOf_ok trivial⟩ rfl (by kernel_rfl) (by kernel_rfl) (by kernel_rfl) (by kernel_rfl) (by kernel_rfl) (by kernel_rfl) rfl (by kernel_rfl) (by kernel_rfl) (AnnOk_list [(58, loopB (codeOf Tryz.f139) 58)] impl_turnsOf_ls ⟨impl_turnsOf_l58 k, trivial⟩) mix_ok (impl_turnsOf_eq k)

noncomputable def impl_checkReasons_V (k : Nat) : Variant := ⟨[.val ty_5 false, .ptr ty_9 false, .val ty_7 false], [(.bool, false)], fun x => impl_checkReasons k x.1 x.2.1 x.2.2.1⟩
noncomputable def impl_checkReasons_C (k : Nat) : Cfg := ⟨Tryz.prog, tyOf tys, 50, gOf [(138, [], impl_areReasons_V k), (75, [], impl_boundaryEdges_V k), (96, [], impl_edgeHolds_V k), (139, [], impl_turnsOf_V k)], false, [], []⟩
def impl_checkReasons_i27034 : List PE := [⟨0, 48, .val ty_5 false, false⟩, ⟨2, 64, .val ty_7 false, false⟩, ⟨27, 80, .eat ty_12, false⟩, ⟨28, 96, .val ty_0 false, false⟩, ⟨29, 112, .val ty_0 false, false⟩]
def impl_checkReasons_o27034 : List PE := [⟨2, 48, .val ty_7 false, false⟩]
noncomputable def impl_checkReasons_f27034 (k : Nat) (n : Nat) (x4 : PTe impl_checkReasons_i27034) : Option ((Bool) ⊕ PTe impl_checkReasons_o27034) := impl_checkReasons_L27034 k n x4.1 x4.2.1 x4.2.2.1 x4.2.2.2.1 x4.2.2.2.2.1
def impl_checkReasons_i26 : List PE := [⟨0, 48, .val ty_5 false, false⟩, ⟨1, 64, .ptr ty_9 false, false⟩, ⟨2, 80, .val ty_7 false, false⟩, ⟨12, 96, .val ty_0 false, false⟩]
def impl_checkReasons_o26 : List PE := []
noncomputable def impl_checkReasons_f26 (k : Nat) (n : Nat) (x8 : PTe impl_checkReasons_i26) : Option ((Bool) ⊕ PTe impl_checkReasons_o26) := impl_checkReasons_L26 k n x8.1 x8.2.1 x8.2.2.1 x8.2.2.2.1
def impl_checkReasons_ps : List PE := [⟨0, 0, .val ty_5 false, false⟩, ⟨1, 16, .ptr ty_9 false, false⟩, ⟨2, 32, .val ty_7 false, false⟩]
noncomputable def impl_checkReasons_F (k : Nat) : Fn (Bool) := ⟨impl_checkReasons_C k, rdRes Tryz.prog impl_checkReasons_ps [(.bool, false)] Tryz.f99.results.toList .ret, fun p => bif Nat.beq p 27034 then some (.loop impl_checkReasons_i27034 impl_checkReasons_o27034 2 128 (impl_checkReasons_f27034 k k)) else bif Nat.beq p 26 then some (.loop impl_checkReasons_i26 impl_checkReasons_o26 0 112 (impl_checkReasons_f26 k k)) else none, 0, []⟩
theorem impl_checkReasons_eq (k : Nat) (x : PTe impl_checkReasons_ps) : evFn (impl_checkReasons_F k) (codeOf Tryz.f99) impl_checkReasons_ps 48 x = impl_checkReasons k x.1 x.2.1 x.2.2.1 := by kernel_rfl
theorem impl_checkReasons_ls : loopsOf (codeOf Tryz.f99) 1 = [(26, loopB (codeOf Tryz.f99) 26), (27034, loopB (codeOf Tryz.f99) 27034)] := by kernel_rfl
theorem impl_checkReasons_l27034 (k : Nat) : LoopOk (impl_checkReasons_F k) (loopB (codeOf Tryz.f99) 27034) 27034 := LoopOk.mk (pin := impl_checkReasons_i27034) (pout := impl_checkReasons_o27034) (ex := 2) (nx := 128) (Lf := impl_checkReasons_f27034 k) (k := k) (by kernel_rfl) (fun _ => rfl) (by intro n x; kernel_rfl)
theorem impl_checkReasons_l26 (k : Nat) : LoopOk (impl_checkReasons_F k) (loopB (codeOf Tryz.f99) 26) 26 := LoopOk.mk (pin := impl_checkReasons_i26) (pout := impl_checkReasons_o26) (ex := 0) (nx := 112) (Lf := impl_checkReasons_f26 k) (k := k) (by kernel_rfl) (fun _ => rfl) (by intro n x; kernel_rfl)
theorem impl_checkReasons_K (k : Nat) : Contract Tryz.prog 99 (impl_checkReasons_V k) :=
  contract (C := impl_checkReasons_C k) (F := impl_checkReasons_F k) (fn := Tryz.f99) (c := codeOf Tryz.f99) (ps := impl_checkReasons_ps) (rs := [(.bool, false)]) (nx := 48) ⟨tyOf_ok tys_ok, gOf_ok ⟨impl_areReasons_K k, impl_boundaryEdges_K k, impl_edgeHolds_K k, impl_turnsOf_K k, trivial⟩⟩ rfl (by kernel_rfl) (by kernel_rfl) (by kernel_rfl) (by kernel_rfl) (by kernel_rfl) (by kernel_rfl) rfl (by kernel_rfl) (by kernel_rfl) (AnnOk_list [(26, loopB (codeOf Tryz.f99) 26), (27034, loopB (codeOf Tryz.f99) 27034)] impl_checkReasons_ls ⟨impl_checkReasons_l26 k, impl_checkReasons_l27034 k, trivial⟩) mix_ok (impl_checkReasons_eq k)

noncomputable def impl_CheckReasons_V (k : Nat) : Variant := ⟨[.val ty_5 false, .val ty_9 true, .val ty_7 false], [(.bool, false), (.bool, false)], fun x => impl_CheckReasons k x.1 x.2.1 x.2.2.1⟩
noncomputable def impl_CheckReasons_C (k : Nat) : Cfg := ⟨Tryz.prog, tyOf tys, 19, gOf [(72, [], impl_isPlane_V k), (99, [], impl_checkReasons_V k)], false, [], []⟩
def impl_CheckReasons_ps : List PE := [⟨0, 0, .val ty_5 false, false⟩, ⟨1, 16, .val ty_9 true, false⟩, ⟨2, 32, .val ty_7 false, false⟩]
noncomputable def impl_CheckReasons_F (k : Nat) : Fn (Bool × Bool) := ⟨impl_CheckReasons_C k, rdRes Tryz.prog impl_CheckReasons_ps [(.bool, false), (.bool, false)] Tryz.f43.results.toList .ret, fun p => none, 0, []⟩
theorem impl_CheckReasons_eq (k : Nat) (x : PTe impl_CheckReasons_ps) : evFn (impl_CheckReasons_F k) (codeOf Tryz.f43) impl_CheckReasons_ps 48 x = impl_CheckReasons k x.1 x.2.1 x.2.2.1 := by kernel_rfl
theorem impl_CheckReasons_K (k : Nat) : Contract Tryz.prog 43 (impl_CheckReasons_V k) :=
  contract (C := impl_CheckReasons_C k) (F := impl_CheckReasons_F k) (fn := Tryz.f43) (c := codeOf Tryz.f43) (ps := impl_CheckReasons_ps) (rs := [(.bool, false), (.bool, false)]) (nx := 48) ⟨tyOf_ok tys_ok, gOf_ok ⟨impl_isPlane_K k, impl_checkReasons_K k, trivial⟩⟩ rfl (by kernel_rfl) (by kernel_rfl) (by kernel_rfl) (by kernel_rfl) (by kernel_rfl) (by kernel_rfl) rfl (by kernel_rfl) (by kernel_rfl) (AnnOk_list [] (by kernel_rfl) trivial) mix_ok (impl_CheckReasons_eq k)

noncomputable def laws_eqTerm_V : Variant := ⟨[.val ty_3 true, .val ty_3 true], [(.bool, false)], fun x => laws_eqTerm x.1 x.2.1⟩
noncomputable def laws_eqTerm_C : Cfg := ⟨Tryz.prog, tyOf tys, 25, gOf [], false, [], []⟩
def laws_eqTerm_ps : List PE := [⟨0, 0, .val ty_3 true, false⟩, ⟨1, 16, .val ty_3 true, false⟩]
noncomputable def laws_eqTerm_F : Fn (Bool) := ⟨laws_eqTerm_C, rdRes Tryz.prog laws_eqTerm_ps [(.bool, false)] Tryz.f152.results.toList .ret, fun p => none, 0, []⟩
theorem laws_eqTerm_eq (x : PTe laws_eqTerm_ps) : evFn (laws_eqTerm_F) (codeOf Tryz.f152) laws_eqTerm_ps 32 x = laws_eqTerm x.1 x.2.1 := by kernel_rfl
theorem laws_eqTerm_K : Contract Tryz.prog 152 (laws_eqTerm_V) :=
  contract (C := laws_eqTerm_C) (F := laws_eqTerm_F) (fn := Tryz.f152) (c := codeOf Tryz.f152) (ps := laws_eqTerm_ps) (rs := [(.bool, false)]) (nx := 32) ⟨tyOf_ok tys_ok, gOf_ok trivial⟩ rfl (by kernel_rfl) (by kernel_rfl) (by kernel_rfl) (by kernel_rfl) (by kernel_rfl) (by kernel_rfl) rfl (by kernel_rfl) (by kernel_rfl) (AnnOk_list [] (by kernel_rfl) trivial) mix_ok (laws_eqTerm_eq)

noncomputable def laws_eqTermS_V (k : Nat) : Variant := ⟨[.val ty_4 false, .val ty_4 false], [(.bool, false)], fun x => laws_eqTermS k x.1 x.2.1⟩
noncomputable def laws_eqTermS_C (k : Nat) : Cfg := ⟨Tryz.prog, tyOf tys, 27, gOf [(152, [], laws_eqTerm_V)], false, [], []⟩
def laws_eqTermS_i58 : List PE := [⟨0, 32, .val ty_4 false, false⟩, ⟨1, 48, .val ty_4 false, false⟩, ⟨5, 64, .val ty_0 false, false⟩]
def laws_eqTermS_o58 : List PE := []
noncomputable def laws_eqTermS_f58 (k : Nat) (n : Nat) (x2 : PTe laws_eqTermS_i58) : Option ((Bool) ⊕ PTe laws_eqTermS_o58) := laws_eqTermS_L58 k n x2.1 x2.2.1 x2.2.2.1
def laws_eqTermS_ps : List PE := [⟨0, 0, .val ty_4 false, false⟩, ⟨1, 16, .val ty_4 false, false⟩]
noncomputable def laws_eqTermS_F (k : Nat) : Fn (Bool) := ⟨laws_eqTermS_C k, rdRes Tryz.prog laws_eqTermS_ps [(.bool, false)] Tryz.f116.results.toList .ret, fun p => bif Nat.beq p 58 then some (.loop laws_eqTermS_i58 laws_eqTermS_o58 0 80 (laws_eqTermS_f58 k k)) else none, 0, []⟩
theorem laws_eqTermS_eq (k : Nat) (x : PTe laws_eqTermS_ps) : evFn (laws_eqTermS_F k) (codeOf Tryz.f116) laws_eqTermS_ps 32 x = laws_eqTermS k x.1 x.2.1 := by kernel_rfl
theorem laws_eqTermS_ls : loopsOf (codeOf Tryz.f116) 1 = [(58, loopB (codeOf Tryz.f116) 58)] := by kernel_rfl
theorem laws_eqTermS_l58 (k : Nat) : LoopOk (laws_eqTermS_F k) (loopB (codeOf Tryz.f116) 58) 58 := LoopOk.mk (pin := laws_eqTermS_i58) (pout := laws_eqTermS_o58) (ex := 0) (nx := 80) (Lf := laws_eqTermS_f58 k) (k := k) (by kernel_rfl) (fun _ => rfl) (by intro n x; kernel_rfl)
theorem laws_eqTermS_K (k : Nat) : Contract Tryz.prog 116 (laws_eqTermS_V k) :=
  contract (C := laws_eqTermS_C k) (F := laws_eqTermS_F k) (fn := Tryz.f116) (c := codeOf Tryz.f116) (ps := laws_eqTermS_ps) (rs := [(.bool, false)]) (nx := 32) ⟨tyOf_ok tys_ok, gOf_ok ⟨laws_eqTerm_K, trivial⟩⟩ rfl (by kernel_rfl) (by kernel_rfl) (by kernel_rfl) (by kernel_rfl) (by kernel_rfl) (by kernel_rfl) rfl (by kernel_rfl) (by kernel_rfl) (AnnOk_list [(58, loopB (codeOf Tryz.f116) 58)] laws_eqTermS_ls ⟨laws_eqTermS_l58 k, trivial⟩) mix_ok (laws_eqTermS_eq k)

noncomputable def laws_intactTermS_V (k : Nat) : Variant := ⟨[.val ty_6 false, .val ty_6 false], [(.bool, false)], fun x => laws_intactTermS k x.1 x.2.1⟩
noncomputable def laws_intactTermS_C (k : Nat) : Cfg := ⟨Tryz.prog, tyOf tys, 26, gOf [(59, [], laws_roomBehind_V), (116, [], laws_eqTermS_V k)], false, [], []⟩
def laws_intactTermS_ps : List PE := [⟨0, 0, .val ty_6 false, false⟩, ⟨1, 16, .val ty_6 false, false⟩]
noncomputable def laws_intactTermS_F (k : Nat) : Fn (Bool) := ⟨laws_intactTermS_C k, rdRes Tryz.prog laws_intactTermS_ps [(.bool, false)] Tryz.f66.results.toList .ret, fun p => none, 0, []⟩
theorem laws_intactTermS_eq (k : Nat) (x : PTe laws_intactTermS_ps) : evFn (laws_intactTermS_F k) (codeOf Tryz.f66) laws_intactTermS_ps 32 x = laws_intactTermS k x.1 x.2.1 := by kernel_rfl
theorem laws_intactTermS_K (k : Nat) : Contract Tryz.prog 66 (laws_intactTermS_V k) :=
  contract (C := laws_intactTermS_C k) (F := laws_intactTermS_F k) (fn := Tryz.f66) (c := codeOf Tryz.f66) (ps := laws_intactTermS_ps) (rs := [(.bool, false)]) (nx := 32) ⟨tyOf_ok tys_ok, gOf_ok ⟨laws_roomBehind_K, laws_eqTermS_K k, trivial⟩⟩ rfl (by kernel_rfl) (by kernel_rfl) (by kernel_rfl) (by kernel_rfl) (by kernel_rfl) (by kernel_rfl) rfl (by kernel_rfl) (by kernel_rfl) (AnnOk_list [] (by kernel_rfl) trivial) mix_ok (laws_intactTermS_eq k)

noncomputable def laws_eqTermSS_V (k : Nat) : Variant := ⟨[.val ty_5 false, .val ty_5 false], [(.bool, false)], fun x => laws_eqTermSS k x.1 x.2.1⟩
noncomputable def laws_eqTermSS_C (k : Nat) : Cfg := ⟨Tryz.prog, tyOf tys, 27, gOf [(116, [], laws_eqTermS_V k)], false, [], []⟩
def laws_eqTermSS_i58 : List PE := [⟨0, 32, .val ty_5 false, false⟩, ⟨1, 48, .val ty_5 false, false⟩, ⟨5, 64, .val ty_0 false, false⟩]
def laws_eqTermSS_o58 : List PE := []
noncomputable def laws_eqTermSS_f58 (k : Nat) (n : Nat) (x2 : PTe laws_eqTermSS_i58) : Option ((Bool) ⊕ PTe laws_eqTermSS_o58) := laws_eqTermSS_L58 k n x2.1 x2.2.1 x2.2.2.1
def laws_eqTermSS_ps : List PE := [⟨0, 0, .val ty_5 false, false⟩, ⟨1, 16, .val ty_5 false, false⟩]
noncomputable def laws_eqTermSS_F (k : Nat) : Fn (Bool) := ⟨laws_eqTermSS_C k, rdRes Tryz.prog laws_eqTermSS_ps [(.bool, false)] Tryz.f67.results.toList .ret, fun p => bif Nat.beq p 58 then some (.loop laws_eqTermSS_i58 laws_eqTermSS_o58 0 80 (laws_eqTermSS_f58 k k)) else none, 0, []⟩
theorem laws_eqTermSS_eq (k : Nat) (x : PTe laws_eqTermSS_ps) : evFn (laws_eqTermSS_F k) (codeOf Tryz.f67) laws_eqTermSS_ps 32 x = laws_eqTermSS k x.1 x.2.1 := by kernel_rfl
theorem laws_eqTermSS_ls : loopsOf (codeOf Tryz.f67) 1 = [(58, loopB (codeOf Tryz.f67) 58)] := by kernel_rfl
theorem laws_eqTermSS_l58 (k : Nat) : LoopOk (laws_eqTermSS_F k) (loopB (codeOf Tryz.f67) 58) 58 := LoopOk.mk (pin := laws_eqTermSS_i58) (pout := laws_eqTermSS_o58) (ex := 0) (nx := 80) (Lf := laws_eqTermSS_f58 k) (k := k) (by kernel_rfl) (fun _ => rfl) (by intro n x; kernel_rfl)
theorem laws_eqTermSS_K (k : Nat) : Contract Tryz.prog 67 (laws_eqTermSS_V k) :=
  contract (C := laws_eqTermSS_C k) (F := laws_eqTermSS_F k) (fn := Tryz.f67) (c := codeOf Tryz.f67) (ps := laws_eqTermSS_ps) (rs := [(.bool, false)]) (nx := 32) ⟨tyOf_ok tys_ok, gOf_ok ⟨laws_eqTermS_K k, trivial⟩⟩ rfl (by kernel_rfl) (by kernel_rfl) (by kernel_rfl) (by kernel_rfl) (by kernel_rfl) (by kernel_rfl) rfl (by kernel_rfl) (by kernel_rfl) (AnnOk_list [(58, loopB (codeOf Tryz.f67) 58)] laws_eqTermSS_ls ⟨laws_eqTermSS_l58 k, trivial⟩) mix_ok (laws_eqTermSS_eq k)

noncomputable def laws_intactTermSS_V (k : Nat) : Variant := ⟨[.val ty_18 false, .val ty_18 false], [(.bool, false)], fun x => laws_intactTermSS k x.1 x.2.1⟩
noncomputable def laws_intactTermSS_C (k : Nat) : Cfg := ⟨Tryz.prog, tyOf tys, 45, gOf [(59, [], laws_roomBehind_V), (66, [], laws_intactTermS_V k), (67, [], laws_eqTermSS_V k)], false, [], []⟩
def laws_intactTermSS_i122 : List PE := [⟨0, 32, .val ty_18 false, false⟩, ⟨1, 48, .val ty_18 false, false⟩, ⟨5, 64, .val ty_0 false, false⟩, ⟨6, 80, .val ty_0 false, false⟩]
def laws_intactTermSS_o122 : List PE := [⟨0, 32, .val ty_18 false, false⟩, ⟨1, 48, .val ty_18 false, false⟩, ⟨5, 64, .val ty_0 false, false⟩]
noncomputable def laws_intactTermSS_f122 (k : Nat) (n : Nat) (x3 : PTe laws_intactTermSS_i122) : Option ((Bool) ⊕ PTe laws_intactTermSS_o122) := laws_intactTermSS_L122 k n x3.1 x3.2.1 x3.2.2.1 x3.2.2.2.1
def laws_intactTermSS_ps : List PE := [⟨0, 0, .val ty_18 false, false⟩, ⟨1, 16, .val ty_18 false, false⟩]
noncomputable def laws_intactTermSS_F (k : Nat) : Fn (Bool) := ⟨laws_intactTermSS_C k, rdRes Tryz.prog laws_intactTermSS_ps [(.bool, false)] Tryz.f20.results.toList .ret, fun p => bif Nat.beq p 122 then some (.loop laws_intactTermSS_i122 laws_intactTermSS_o122 0 96 (laws_intactTermSS_f122 k k)) else none, 0, []⟩
theorem laws_intactTermSS_eq (k : Nat) (x : PTe laws_intactTermSS_ps) : evFn (laws_intactTermSS_F k) (codeOf Tryz.f20) laws_intactTermSS_ps 32 x = laws_intactTermSS k x.1 x.2.1 := by kernel_rfl
theorem laws_intactTermSS_ls : loopsOf (codeOf Tryz.f20) 1 = [(122, loopB (codeOf Tryz.f20) 122)] := by kernel_rfl
theorem laws_intactTermSS_l122 (k : Nat) : LoopOk (laws_intactTermSS_F k) (loopB (codeOf Tryz.f20) 122) 122 := LoopOk.mk (pin := laws_intactTermSS_i122) (pout := laws_intactTermSS_o122) (ex := 0) (nx := 96) (Lf := laws_intactTermSS_f122 k) (k := k) (by kernel_rfl) (fun _ => rfl) (by intro n x; kernel_rfl)
theorem laws_intactTermSS_K (k : Nat) : Contract Tryz.prog 20 (laws_intactTermSS_V k) :=
  contract (C := laws_intactTermSS_C k) (F := laws_intactTermSS_F k) (fn := Tryz.f20) (c := codeOf Tryz.f20) (ps := laws_intactTermSS_ps) (rs := [(.bool, false)]) (nx := 32) ⟨tyOf_ok tys_ok, gOf_ok ⟨laws_roomBehind_K, laws_intactTermS_K k, laws_eqTermSS_K k, trivial⟩⟩ rfl (by kernel_rfl) (by kernel_rfl) (by kernel_rfl) (by kernel_rfl) (by kernel_rfl) (by kernel_rfl) rfl (by kernel_rfl) (by kernel_rfl) (AnnOk_list [(122, loopB (codeOf Tryz.f20) 122)] laws_intactTermSS_ls ⟨laws_intactTermSS_l122 k, trivial⟩) mix_ok (laws_intactTermSS_eq k)

noncomputable def laws_eqIntS_V (k : Nat) : Variant := ⟨[.val ty_7 false, .val ty_7 false], [(.bool, false)], fun x => laws_eqIntS k x.1 x.2.1⟩
noncomputable def laws_eqIntS_C (k : Nat) : Cfg := ⟨Tryz.prog, tyOf tys, 26, gOf [], false, [], []⟩
def laws_eqIntS_i58 : List PE := [⟨0, 32, .val ty_7 false, false⟩, ⟨1, 48, .val ty_7 false, false⟩, ⟨5, 64, .val ty_0 false, false⟩]
def laws_eqIntS_o58 : List PE := []
noncomputable def laws_eqIntS_f58 (k : Nat) (n : Nat) (x1 : PTe laws_eqIntS_i58) : Option ((Bool) ⊕ PTe laws_eqIntS_o58) := laws_eqIntS_L58 k n x1.1 x1.2.1 x1.2.2.1
def laws_eqIntS_ps : List PE := [⟨0, 0, .val ty_7 false, false⟩, ⟨1, 16, .val ty_7 false, false⟩]
noncomputable def laws_eqIntS_F (k : Nat) : Fn (Bool) := ⟨laws_eqIntS_C k, rdRes Tryz.prog laws_eqIntS_ps [(.bool, false)] Tryz.f37.results.toList .ret, fun p => bif Nat.beq p 58 then some (.loop laws_eqIntS_i58 laws_eqIntS_o58 0 80 (laws_eqIntS_f58 k k)) else none, 0, []⟩
theorem laws_eqIntS_eq (k : Nat) (x : PTe laws_eqIntS_ps) : evFn (laws_eqIntS_F k) (codeOf Tryz.f37) laws_eqIntS_ps 32 x = laws_eqIntS k x.1 x.2.1 := by kernel_rfl
theorem laws_eqIntS_ls : loopsOf (codeOf Tryz.f37) 1 = [(58, loopB (codeOf Tryz.f37) 58)] := by kernel_rfl
theorem laws_eqIntS_l58 (k : Nat) : LoopOk (laws_eqIntS_F k) (loopB (codeOf Tryz.f37) 58) 58 := LoopOk.mk (pin := laws_eqIntS_i58) (pout := laws_eqIntS_o58) (ex := 0) (nx := 80) (Lf := laws_eqIntS_f58 k) (k := k) (by kernel_rfl) (fun _ => rfl) (by intro n x; kernel_rfl)
theorem laws_eqIntS_K (k : Nat) : Contract Tryz.prog 37 (laws_eqIntS_V k) :=
  contract (C := laws_eqIntS_C k) (F := laws_eqIntS_F k) (fn := Tryz.f37) (c := codeOf Tryz.f37) (ps := laws_eqIntS_ps) (rs := [(.bool, false)]) (nx := 32) ⟨tyOf_ok tys_ok, gOf_ok trivial⟩ rfl (by kernel_rfl) (by kernel_rfl) (by kernel_rfl) (by kernel_rfl) (by kernel_rfl) (by kernel_rfl) rfl (by kernel_rfl) (by kernel_rfl) (AnnOk_list [(58, loopB (codeOf Tryz.f37) 58)] laws_eqIntS_ls ⟨laws_eqIntS_l58 k, trivial⟩) mix_ok (laws_eqIntS_eq k)

noncomputable def laws_intactIntS_V (k : Nat) : Variant := ⟨[.val ty_19 false, .val ty_19 false], [(.bool, false)], fun x => laws_intactIntS k x.1 x.2.1⟩
noncomputable def laws_intactIntS_C (k : Nat) : Cfg := ⟨Tryz.prog, tyOf tys, 26, gOf [(59, [], laws_roomBehind_V), (37, [], laws_eqIntS_V k)], false, [], []⟩
def laws_intactIntS_ps : List PE := [⟨0, 0, .val ty_19 false, false⟩, ⟨1, 16, .val ty_19 false, false⟩]
noncomputable def laws_intactIntS_F (k : Nat) : Fn (Bool) := ⟨laws_intactIntS_C k, rdRes Tryz.prog laws_intactIntS_ps [(.bool, false)] Tryz.f32.results.toList .ret, fun p => none, 0, []⟩
theorem laws_intactIntS_eq (k : Nat) (x : PTe laws_intactIntS_ps) : evFn (laws_intactIntS_F k) (codeOf Tryz.f32) laws_intactIntS_ps 32 x = laws_intactIntS k x.1 x.2.1 := by kernel_rfl
theorem laws_intactIntS_K (k : Nat) : Contract Tryz.prog 32 (laws_intactIntS_V k) :=
  contract (C := laws_intactIntS_C k) (F := laws_intactIntS_F k) (fn := Tryz.f32) (c := codeOf Tryz.f32) (ps := laws_intactIntS_ps) (rs := [(.bool, false)]) (nx := 32) ⟨tyOf_ok tys_ok, gOf_ok ⟨laws_roomBehind_K, laws_eqIntS_K k, trivial⟩⟩ rfl (by kernel_rfl) (by kernel_rfl) (by kernel_rfl) (by kernel_rfl) (by kernel_rfl) (by kernel_rfl) rfl (by kernel_rfl) (by kernel_rfl) (AnnOk_list [] (by kernel_rfl) trivial) mix_ok (laws_intactIntS_eq k)

noncomputable def laws_intactBox_V (k : Nat) : Variant := ⟨[.val ty_21 true, .val ty_21 true], [(.bool, false)], fun x => laws_intactBox k x.1 x.2.1⟩
noncomputable def laws_intactBox_C (k : Nat) : Cfg := ⟨Tryz.prog, tyOf tys, 22, gOf [(32, [], laws_intactIntS_V k)], false, [], []⟩
def laws_intactBox_ps : List PE := [⟨0, 0, .val ty_21 true, false⟩, ⟨1, 16, .val ty_21 true, false⟩]
noncomputable def laws_intactBox_F (k : Nat) : Fn (Bool) := ⟨laws_intactBox_C k, rdRes Tryz.prog laws_intactBox_ps [(.bool, false)] Tryz.f25.results.toList .ret, fun p => none, 0, []⟩
theorem laws_intactBox_eq (k : Nat) (x : PTe laws_intactBox_ps) : evFn (laws_intactBox_F k) (codeOf Tryz.f25) laws_intactBox_ps 32 x = laws_intactBox k x.1 x.2.1 := by kernel_rfl
theorem laws_intactBox_K (k : Nat) : Contract Tryz.prog 25 (laws_intactBox_V k) :=
  contract (C := laws_intactBox_C k) (F := laws_intactBox_F k) (fn := Tryz.f25) (c := codeOf Tryz.f25) (ps := laws_intactBox_ps) (rs := [(.bool, false)]) (nx := 32) ⟨tyOf_ok tys_ok, gOf_ok ⟨laws_intactIntS_K k, trivial⟩⟩ rfl (by kernel_rfl) (by kernel_rfl) (by kernel_rfl) (by kernel_rfl) (by kernel_rfl) (by kernel_rfl) rfl (by kernel_rfl) (by kernel_rfl) (AnnOk_list [] (by kernel_rfl) trivial) mix_ok (laws_intactBox_eq k)

noncomputable def laws_FnExactCheckReasons_V (k : Nat) : Variant := ⟨[.val ty_5 false, .val ty_9 true, .val ty_7 false], [(.bool, false)], fun x => laws_FnExactCheckReasons k x.1 x.2.1 x.2.2.1⟩
noncomputable def laws_FnExactCheckReasons_C (k : Nat) : Cfg := ⟨Tryz.prog, tyOf tys, 94, gOf [(15, [], laws_szTermSS_V k), (21, [], laws_szBox_V), (17, [], laws_toTermSS_V k), (23, [], laws_toBox_V k), (30, [], laws_toIntS_V k), (42, [], spec_CheckReasons_V k), (43, [], impl_CheckReasons_V k), (20, [], laws_intactTermSS_V k), (25, [], laws_intactBox_V k), (32, [], laws_intactIntS_V k)], false, [], []⟩
def laws_FnExactCheckReasons_ps : List PE := [⟨0, 0, .val ty_5 false, false⟩, ⟨1, 16, .val ty_9 true, false⟩, ⟨2, 32, .val ty_7 false, false⟩]
noncomputable def laws_FnExactCheckReasons_F (k : Nat) : Fn (Bool) := ⟨laws_FnExactCheckReasons_C k, rdRes Tryz.prog laws_FnExactCheckReasons_ps [(.bool, false)] Tryz.f9.results.toList .ret, fun p => none, 0, []⟩
theorem laws_FnExactCheckReasons_eq (k : Nat) (x : PTe laws_FnExactCheckReasons_ps) : evFn (laws_FnExactCheckReasons_F k) (codeOf Tryz.f9) laws_FnExactCheckReasons_ps 48 x = laws_FnExactCheckReasons k x.1 x.2.1 x.2.2.1 := by kernel_rfl
theorem laws_FnExactCheckReasons_K (k : Nat) : Contract Tryz.prog 9 (laws_FnExactCheckReasons_V k) :=
  contract (C := laws_FnExactCheckReasons_C k) (F := laws_FnExactCheckReasons_F k) (fn := Tryz.f9) (c := codeOf Tryz.f9) (ps := laws_FnExactCheckReasons_ps) (rs := [(.bool, false)]) (nx := 48) ⟨tyOf_ok tys_ok, gOf_ok ⟨laws_szTermSS_K k, laws_szBox_K, laws_toTermSS_K k, laws_toBox_K k, laws_toIntS_K k, spec_CheckReasons_K k, impl_CheckReasons_K k, laws_intactTermSS_K k, laws_intactBox_K k, laws_intactIntS_K k, trivial⟩⟩ rfl (by kernel_rfl) (by kernel_rfl) (by kernel_rfl) (by kernel_rfl) (by kernel_rfl) (by kernel_rfl) rfl (by kernel_rfl) (by kernel_rfl) (AnnOk_list [] (by kernel_rfl) trivial) mix_ok (laws_FnExactCheckReasons_eq k)
end Go.Ev.G
