/- The contracts of the functions behind FnExactTimesIntervals: a call of each returns what its plain function computes; for all inputs within the sizes named. -/
import Derived.Test.YtndgjjaolajkjaaGreatPTimesIntervals1
import Derived.Test.YtndgjjaolajkjaaGreatProg
set_option linter.unusedVariables false
namespace Go.Ev.G
open Go Go.Ev Go.Proofs
set_option maxRecDepth 100000
abbrev ty_0 : Ty := (.int .i64)

abbrev ty_1 : Ty := (.pair ty_0 ty_0)

abbrev ty_2 : Ty := (.sl ty_1)

abbrev ty_3 : Ty := (.sl ty_2)

abbrev ty_4 : Ty := (.pair ty_1 ty_1)

abbrev ty_5 : Ty := (.sl ty_4)

abbrev ty_6 : Ty := (.sl ty_5)

abbrev ty_7 : Ty := (.rm ty_1)

abbrev ty_8 : Ty := (.rm ty_4)

abbrev ty_9 : Ty := (.sl ty_0)

abbrev ty_10 : Ty := (.int .u64)

abbrev ty_11 : Ty := (.pair ty_10 ty_10)

abbrev ty_12 : Ty := (.pair .bool ty_11)

abbrev ty_13 : Ty := (.rm ty_7)

abbrev ty_14 : Ty := (.rm ty_8)

def tys : List (TypeId × Ty) := [(3, ty_0), (85, ty_1), (87, ty_5), (90, ty_4)]

theorem tys_ok : AllT Tryz.prog tys := ⟨⟨_, _, rfl, rfl, rfl, rfl⟩, ⟨_, _, rfl, rfl, rfl, rfl⟩, ⟨_, _, rfl, rfl, rfl, rfl⟩, ⟨_, _, rfl, rfl, rfl, rfl⟩, trivial⟩

def tysR : List (TypeId × Ty) := [(82, ty_7), (85, ty_1), (87, ty_8), (90, ty_4)]

theorem tysR_ok : AllT Tryz.prog tysR := ⟨⟨_, _, rfl, rfl, rfl, rfl⟩, ⟨_, _, rfl, rfl, rfl, rfl⟩, ⟨_, _, rfl, rfl, rfl, rfl⟩, ⟨_, _, rfl, rfl, rfl, rfl⟩, trivial⟩

theorem mix_ok : Tryz.prog.follows .mixedOrders = true := by kernel_rfl

noncomputable def laws_szDyadicS_V : Variant := ⟨[.val ty_2 false, .val ty_0 false], [(ty_0, false)], fun x => laws_szDyadicS x.1 x.2.1⟩
noncomputable def laws_szDyadicS_C : Cfg := ⟨Tryz.prog, tyOf tys, 12, gOf [], false, [], []⟩
def laws_szDyadicS_ps : List PE := [⟨0, 0, .val ty_2 false, false⟩, ⟨1, 16, .val ty_0 false, false⟩]
noncomputable def laws_szDyadicS_F : Fn (Int) := ⟨laws_szDyadicS_C, rdRes Tryz.prog laws_szDyadicS_ps [(ty_0, false)] Tryz.f57.results.toList .ret, fun p => none, 0, []⟩
theorem laws_szDyadicS_eq (x : PTe laws_szDyadicS_ps) : evFn (laws_szDyadicS_F) (codeOf Tryz.f57) laws_szDyadicS_ps 32 x = laws_szDyadicS x.1 x.2.1 := by kernel_rfl
theorem laws_szDyadicS_K : Contract Tryz.prog 57 (laws_szDyadicS_V) :=
  contract (C := laws_szDyadicS_C) (F := laws_szDyadicS_F) (fn := Tryz.f57) (c := codeOf Tryz.f57) (ps := laws_szDyadicS_ps) (rs := [(ty_0, false)]) (nx := 32) ⟨tyOf_ok tys_ok, gOf_ok trivial⟩ rfl (by kernel_rfl) (by kernel_rfl) (by kernel_rfl) (by kernel_rfl) (by kernel_rfl) (by kernel_rfl) rfl (by kernel_rfl) (by kernel_rfl) (AnnOk_list [] (by kernel_rfl) trivial) mix_ok (laws_szDyadicS_eq)

noncomputable def laws_szDyadicSS_V (k : Nat) : Variant := ⟨[.val ty_3 false, .val ty_0 false], [(ty_0, false)], fun x => laws_szDyadicSS k x.1 x.2.1⟩
noncomputable def laws_szDyadicSS_C (k : Nat) : Cfg := ⟨Tryz.prog, tyOf tys, 27, gOf [(57, [], laws_szDyadicS_V)], false, [], []⟩
def laws_szDyadicSS_i122 : List PE := [⟨0, 32, .val ty_3 false, false⟩, ⟨1, 48, .val ty_0 false, false⟩, ⟨5, 64, .val ty_0 false, false⟩]
def laws_szDyadicSS_o122 : List PE := [⟨1, 32, .val ty_0 false, false⟩]
noncomputable def laws_szDyadicSS_f122 (k : Nat) (n : Nat) (x2 : PTe laws_szDyadicSS_i122) : Option ((Int) ⊕ PTe laws_szDyadicSS_o122) := laws_szDyadicSS_L122 k n x2.1 x2.2.1 x2.2.2.1
def laws_szDyadicSS_ps : List PE := [⟨0, 0, .val ty_3 false, false⟩, ⟨1, 16, .val ty_0 false, false⟩]
noncomputable def laws_szDyadicSS_F (k : Nat) : Fn (Int) := ⟨laws_szDyadicSS_C k, rdRes Tryz.prog laws_szDyadicSS_ps [(ty_0, false)] Tryz.f17.results.toList .ret, fun p => bif Nat.beq p 122 then some (.loop laws_szDyadicSS_i122 laws_szDyadicSS_o122 0 80 (laws_szDyadicSS_f122 k k)) else none, 0, []⟩
theorem laws_szDyadicSS_eq (k : Nat) (x : PTe laws_szDyadicSS_ps) : evFn (laws_szDyadicSS_F k) (codeOf Tryz.f17) laws_szDyadicSS_ps 32 x = laws_szDyadicSS k x.1 x.2.1 := by kernel_rfl
theorem laws_szDyadicSS_ls : loopsOf (codeOf Tryz.f17) 1 = [(122, loopB (codeOf Tryz.f17) 122)] := by kernel_rfl
theorem laws_szDyadicSS_l122 (k : Nat) : LoopOk (laws_szDyadicSS_F k) (loopB (codeOf Tryz.f17) 122) 122 := LoopOk.mk (pin := laws_szDyadicSS_i122) (pout := laws_szDyadicSS_o122) (ex := 0) (nx := 80) (Lf := laws_szDyadicSS_f122 k) (k := k) (by kernel_rfl) (fun _ => rfl) (by intro n x; kernel_rfl)
theorem laws_szDyadicSS_K (k : Nat) : Contract Tryz.prog 17 (laws_szDyadicSS_V k) :=
  contract (C := laws_szDyadicSS_C k) (F := laws_szDyadicSS_F k) (fn := Tryz.f17) (c := codeOf Tryz.f17) (ps := laws_szDyadicSS_ps) (rs := [(ty_0, false)]) (nx := 32) ⟨tyOf_ok tys_ok, gOf_ok ⟨laws_szDyadicS_K, trivial⟩⟩ rfl (by kernel_rfl) (by kernel_rfl) (by kernel_rfl) (by kernel_rfl) (by kernel_rfl) (by kernel_rfl) rfl (by kernel_rfl) (by kernel_rfl) (AnnOk_list [(122, loopB (codeOf Tryz.f17) 122)] laws_szDyadicSS_ls ⟨laws_szDyadicSS_l122 k, trivial⟩) mix_ok (laws_szDyadicSS_eq k)

noncomputable def laws_szIntervalS_V : Variant := ⟨[.val ty_5 false, .val ty_0 false], [(ty_0, false)], fun x => laws_szIntervalS x.1 x.2.1⟩
noncomputable def laws_szIntervalS_C : Cfg := ⟨Tryz.prog, tyOf tys, 12, gOf [], false, [], []⟩
def laws_szIntervalS_ps : List PE := [⟨0, 0, .val ty_5 false, false⟩, ⟨1, 16, .val ty_0 false, false⟩]
noncomputable def laws_szIntervalS_F : Fn (Int) := ⟨laws_szIntervalS_C, rdRes Tryz.prog laws_szIntervalS_ps [(ty_0, false)] Tryz.f58.results.toList .ret, fun p => none, 0, []⟩
theorem laws_szIntervalS_eq (x : PTe laws_szIntervalS_ps) : evFn (laws_szIntervalS_F) (codeOf Tryz.f58) laws_szIntervalS_ps 32 x = laws_szIntervalS x.1 x.2.1 := by kernel_rfl
theorem laws_szIntervalS_K : Contract Tryz.prog 58 (laws_szIntervalS_V) :=
  contract (C := laws_szIntervalS_C) (F := laws_szIntervalS_F) (fn := Tryz.f58) (c := codeOf Tryz.f58) (ps := laws_szIntervalS_ps) (rs := [(ty_0, false)]) (nx := 32) ⟨tyOf_ok tys_ok, gOf_ok trivial⟩ rfl (by kernel_rfl) (by kernel_rfl) (by kernel_rfl) (by kernel_rfl) (by kernel_rfl) (by kernel_rfl) rfl (by kernel_rfl) (by kernel_rfl) (AnnOk_list [] (by kernel_rfl) trivial) mix_ok (laws_szIntervalS_eq)

noncomputable def laws_szIntervalSS_V (k : Nat) : Variant := ⟨[.val ty_6 false, .val ty_0 false], [(ty_0, false)], fun x => laws_szIntervalSS k x.1 x.2.1⟩
noncomputable def laws_szIntervalSS_C (k : Nat) : Cfg := ⟨Tryz.prog, tyOf tys, 27, gOf [(58, [], laws_szIntervalS_V)], false, [], []⟩
def laws_szIntervalSS_i122 : List PE := [⟨0, 32, .val ty_6 false, false⟩, ⟨1, 48, .val ty_0 false, false⟩, ⟨5, 64, .val ty_0 false, false⟩]
def laws_szIntervalSS_o122 : List PE := [⟨1, 32, .val ty_0 false, false⟩]
noncomputable def laws_szIntervalSS_f122 (k : Nat) (n : Nat) (x2 : PTe laws_szIntervalSS_i122) : Option ((Int) ⊕ PTe laws_szIntervalSS_o122) := laws_szIntervalSS_L122 k n x2.1 x2.2.1 x2.2.2.1
def laws_szIntervalSS_ps : List PE := [⟨0, 0, .val ty_6 false, false⟩, ⟨1, 16, .val ty_0 false, false⟩]
noncomputable def laws_szIntervalSS_F (k : Nat) : Fn (Int) := ⟨laws_szIntervalSS_C k, rdRes Tryz.prog laws_szIntervalSS_ps [(ty_0, false)] Tryz.f18.results.toList .ret, fun p => bif Nat.beq p 122 then some (.loop laws_szIntervalSS_i122 laws_szIntervalSS_o122 0 80 (laws_szIntervalSS_f122 k k)) else none, 0, []⟩
theorem laws_szIntervalSS_eq (k : Nat) (x : PTe laws_szIntervalSS_ps) : evFn (laws_szIntervalSS_F k) (codeOf Tryz.f18) laws_szIntervalSS_ps 32 x = laws_szIntervalSS k x.1 x.2.1 := by kernel_rfl
theorem laws_szIntervalSS_ls : loopsOf (codeOf Tryz.f18) 1 = [(122, loopB (codeOf Tryz.f18) 122)] := by kernel_rfl
theorem laws_szIntervalSS_l122 (k : Nat) : LoopOk (laws_szIntervalSS_F k) (loopB (codeOf Tryz.f18) 122) 122 := LoopOk.mk (pin := laws_szIntervalSS_i122) (pout := laws_szIntervalSS_o122) (ex := 0) (nx := 80) (Lf := laws_szIntervalSS_f122 k) (k := k) (by kernel_rfl) (fun _ => rfl) (by intro n x; kernel_rfl)
theorem laws_szIntervalSS_K (k : Nat) : Contract Tryz.prog 18 (laws_szIntervalSS_V k) :=
  contract (C := laws_szIntervalSS_C k) (F := laws_szIntervalSS_F k) (fn := Tryz.f18) (c := codeOf Tryz.f18) (ps := laws_szIntervalSS_ps) (rs := [(ty_0, false)]) (nx := 32) ⟨tyOf_ok tys_ok, gOf_ok ⟨laws_szIntervalS_K, trivial⟩⟩ rfl (by kernel_rfl) (by kernel_rfl) (by kernel_rfl) (by kernel_rfl) (by kernel_rfl) (by kernel_rfl) rfl (by kernel_rfl) (by kernel_rfl) (AnnOk_list [(122, loopB (codeOf Tryz.f18) 122)] laws_szIntervalSS_ls ⟨laws_szIntervalSS_l122 k, trivial⟩) mix_ok (laws_szIntervalSS_eq k)

noncomputable def laws_roomBehind_V : Variant := ⟨[.val ty_0 false], [(ty_0, false)], fun x => laws_roomBehind x.1⟩
noncomputable def laws_roomBehind_C : Cfg := ⟨Tryz.prog, tyOf tys, 10, gOf [], false, [], []⟩
def laws_roomBehind_ps : List PE := [⟨0, 0, .val ty_0 false, false⟩]
noncomputable def laws_roomBehind_F : Fn (Int) := ⟨laws_roomBehind_C, rdRes Tryz.prog laws_roomBehind_ps [(ty_0, false)] Tryz.f48.results.toList .ret, fun p => none, 0, []⟩
theorem laws_roomBehind_eq (x : PTe laws_roomBehind_ps) : evFn (laws_roomBehind_F) (codeOf Tryz.f48) laws_roomBehind_ps 16 x = laws_roomBehind x.1 := by kernel_rfl
theorem laws_roomBehind_K : Contract Tryz.prog 48 (laws_roomBehind_V) :=
  contract (C := laws_roomBehind_C) (F := laws_roomBehind_F) (fn := Tryz.f48) (c := codeOf Tryz.f48) (ps := laws_roomBehind_ps) (rs := [(ty_0, false)]) (nx := 16) ⟨tyOf_ok tys_ok, gOf_ok trivial⟩ rfl (by kernel_rfl) (by kernel_rfl) (by kernel_rfl) (by kernel_rfl) (by kernel_rfl) (by kernel_rfl) rfl (by kernel_rfl) (by kernel_rfl) (AnnOk_list [] (by kernel_rfl) trivial) mix_ok (laws_roomBehind_eq)

noncomputable def laws_toDyadic_V : Variant := ⟨[.val ty_1 true], [(ty_1, true)], fun x => laws_toDyadic x.1⟩
noncomputable def laws_toDyadic_C : Cfg := ⟨Tryz.prog, tyOf tysR, 11, gOf [], true, [], []⟩
def laws_toDyadic_ps : List PE := [⟨0, 0, .val ty_1 true, false⟩]
noncomputable def laws_toDyadic_F : Fn (Int × Int) := ⟨laws_toDyadic_C, rdRes Tryz.prog laws_toDyadic_ps [(ty_1, true)] Tryz.f108.results.toList .ret, fun p => none, 0, []⟩
theorem laws_toDyadic_eq (x : PTe laws_toDyadic_ps) : evFn (laws_toDyadic_F) (codeOf Tryz.f108) laws_toDyadic_ps 16 x = laws_toDyadic x.1 := by kernel_rfl
theorem laws_toDyadic_K : Contract Tryz.prog 108 (laws_toDyadic_V) :=
  contract (C := laws_toDyadic_C) (F := laws_toDyadic_F) (fn := Tryz.f108) (c := codeOf Tryz.f108) (ps := laws_toDyadic_ps) (rs := [(ty_1, true)]) (nx := 16) ⟨tyOf_ok tysR_ok, gOf_ok trivial⟩ rfl (by kernel_rfl) (by kernel_rfl) (by kernel_rfl) (by kernel_rfl) (by kernel_rfl) (by kernel_rfl) rfl (by kernel_rfl) (by kernel_rfl) (AnnOk_list [] (by kernel_rfl) trivial) mix_ok (laws_toDyadic_eq)

noncomputable def laws_fillerDyadic_V : Variant := ⟨[], [(ty_1, true)], fun x => laws_fillerDyadic⟩
noncomputable def laws_fillerDyadic_C : Cfg := ⟨Tryz.prog, tyOf tys, 2, gOf [], false, [], []⟩
def laws_fillerDyadic_ps : List PE := []
noncomputable def laws_fillerDyadic_F : Fn (Int × Int) := ⟨laws_fillerDyadic_C, rdRes Tryz.prog laws_fillerDyadic_ps [(ty_1, true)] Tryz.f63.results.toList .ret, fun p => none, 0, []⟩
theorem laws_fillerDyadic_eq (x : PTe laws_fillerDyadic_ps) : evFn (laws_fillerDyadic_F) (codeOf Tryz.f63) laws_fillerDyadic_ps 0 x = laws_fillerDyadic := by kernel_rfl
theorem laws_fillerDyadic_K : Contract Tryz.prog 63 (laws_fillerDyadic_V) :=
  contract (C := laws_fillerDyadic_C) (F := laws_fillerDyadic_F) (fn := Tryz.f63) (c := codeOf Tryz.f63) (ps := laws_fillerDyadic_ps) (rs := [(ty_1, true)]) (nx := 0) ⟨tyOf_ok tys_ok, gOf_ok trivial⟩ rfl (by kernel_rfl) (by kernel_rfl) (by kernel_rfl) (by kernel_rfl) (by kernel_rfl) (by kernel_rfl) rfl (by kernel_rfl) (by kernel_rfl) (AnnOk_list [] (by kernel_rfl) trivial) mix_ok (laws_fillerDyadic_eq)

noncomputable def laws_toDyadicS_V (k : Nat) : Variant := ⟨[.val ty_2 false, .val .bool false], [(ty_7, false)], fun x => laws_toDyadicS k x.1 x.2.1⟩
noncomputable def laws_toDyadicS_C (k : Nat) : Cfg := ⟨Tryz.prog, tyOf tysR, 51, gOf [(48, [], laws_roomBehind_V), (108, [], laws_toDyadic_V), (63, [], laws_fillerDyadic_V)], true, [], []⟩
def laws_toDyadicS_i122 : List PE := [⟨0, 32, .val ty_2 false, false⟩, ⟨5, 48, .eat ty_1, false⟩, ⟨6, 64, .val ty_0 false, false⟩]
def laws_toDyadicS_o122 : List PE := [⟨0, 32, .val ty_2 false, false⟩, ⟨5, 48, .eat ty_1, false⟩]
noncomputable def laws_toDyadicS_f122 (k : Nat) (n : Nat) (x4 : PTe laws_toDyadicS_i122) : Option ((List (Int × Int) × List (Int × Int)) ⊕ PTe laws_toDyadicS_o122) := laws_toDyadicS_L122 k n x4.1 x4.2.1 x4.2.2.1
def laws_toDyadicS_i250 : List PE := [⟨0, 32, .val ty_2 false, false⟩, ⟨5, 48, .eat ty_1, false⟩, ⟨7, 64, .val ty_0 false, false⟩]
def laws_toDyadicS_o250 : List PE := [⟨0, 32, .val ty_2 false, false⟩, ⟨5, 48, .eat ty_1, false⟩]
noncomputable def laws_toDyadicS_f250 (k : Nat) (n : Nat) (x8 : PTe laws_toDyadicS_i250) : Option ((List (Int × Int) × List (Int × Int)) ⊕ PTe laws_toDyadicS_o250) := laws_toDyadicS_L250 k n x8.1 x8.2.1 x8.2.2.1
def laws_toDyadicS_ps : List PE := [⟨0, 0, .val ty_2 false, false⟩, ⟨1, 16, .val .bool false, false⟩]
noncomputable def laws_toDyadicS_F (k : Nat) : Fn (List (Int × Int) × List (Int × Int)) := ⟨laws_toDyadicS_C k, rdRes Tryz.prog laws_toDyadicS_ps [(ty_7, false)] Tryz.f62.results.toList .ret, fun p => bif Nat.beq p 122 then some (.loop laws_toDyadicS_i122 laws_toDyadicS_o122 0 80 (laws_toDyadicS_f122 k k)) else bif Nat.beq p 250 then some (.loop laws_toDyadicS_i250 laws_toDyadicS_o250 2 80 (laws_toDyadicS_f250 k k)) else bif Nat.beq p 6 then some (.cut [⟨0, 32, .val ty_2 false, false⟩] 48) else none, 0, []⟩
theorem laws_toDyadicS_eq (k : Nat) (x : PTe laws_toDyadicS_ps) : evFn (laws_toDyadicS_F k) (codeOf Tryz.f62) laws_toDyadicS_ps 32 x = laws_toDyadicS k x.1 x.2.1 := by kernel_rfl
theorem laws_toDyadicS_ls : loopsOf (codeOf Tryz.f62) 1 = [(122, loopB (codeOf Tryz.f62) 122), (250, loopB (codeOf Tryz.f62) 250)] := by kernel_rfl
theorem laws_toDyadicS_l122 (k : Nat) : LoopOk (laws_toDyadicS_F k) (loopB (codeOf Tryz.f62) 122) 122 := LoopOk.mk (pin := laws_toDyadicS_i122) (pout := laws_toDyadicS_o122) (ex := 0) (nx := 80) (Lf := laws_toDyadicS_f122 k) (k := k) (by kernel_rfl) (fun _ => rfl) (by intro n x; kernel_rfl)
theorem laws_toDyadicS_l250 (k : Nat) : LoopOk (laws_toDyadicS_F k) (loopB (codeOf Tryz.f62) 250) 250 := LoopOk.mk (pin := laws_toDyadicS_i250) (pout := laws_toDyadicS_o250) (ex := 2) (nx := 80) (Lf := laws_toDyadicS_f250 k) (k := k) (by kernel_rfl) (fun _ => rfl) (by intro n x; kernel_rfl)
theorem laws_toDyadicS_K (k : Nat) : Contract Tryz.prog 62 (laws_toDyadicS_V k) :=
  contract (C := laws_toDyadicS_C k) (F := laws_toDyadicS_F k) (fn := Tryz.f62) (c := codeOf Tryz.f62) (ps := laws_toDyadicS_ps) (rs := [(ty_7, false)]) (nx := 32) ⟨tyOf_ok tysR_ok, gOf_ok ⟨laws_roomBehind_K, laws_toDyadic_K, laws_fillerDyadic_K, trivial⟩⟩ rfl (by kernel_rfl) (by kernel_rfl) (by kernel_rfl) (by kernel_rfl) (by kernel_rfl) (by kernel_rfl) rfl (by kernel_rfl) (by kernel_rfl) (AnnOk_list [(122, loopB (codeOf Tryz.f62) 122), (250, loopB (codeOf Tryz.f62) 250)] laws_toDyadicS_ls ⟨laws_toDyadicS_l122 k, laws_toDyadicS_l250 k, trivial⟩) mix_ok (laws_toDyadicS_eq k)

noncomputable def laws_toDyadicSS_V (k : Nat) : Variant := ⟨[.val ty_3 false, .val .bool false], [(ty_13, false)], fun x => laws_toDyadicSS k x.1 x.2.1⟩
noncomputable def laws_toDyadicSS_C (k : Nat) : Cfg := ⟨Tryz.prog, tyOf tysR, 53, gOf [(48, [], laws_roomBehind_V), (62, [], laws_toDyadicS_V k), (63, [], laws_fillerDyadic_V)], true, [5, 27, 39, 44], []⟩
def laws_toDyadicSS_i122 : List PE := [⟨0, 32, .val ty_3 false, false⟩, ⟨1, 48, .val .bool false, false⟩, ⟨5, 64, .eat ty_7, false⟩, ⟨6, 80, .val ty_0 false, false⟩]
def laws_toDyadicSS_o122 : List PE := [⟨0, 32, .val ty_3 false, false⟩, ⟨5, 48, .eat ty_7, false⟩]
noncomputable def laws_toDyadicSS_f122 (k : Nat) (n : Nat) (x4 : PTe laws_toDyadicSS_i122) : Option ((List (List (Int × Int) × List (Int × Int)) × List (List (Int × Int) × List (Int × Int))) ⊕ PTe laws_toDyadicSS_o122) := laws_toDyadicSS_L122 k n x4.1 x4.2.1 x4.2.2.1 x4.2.2.2.1
def laws_toDyadicSS_i250 : List PE := [⟨0, 32, .val ty_3 false, false⟩, ⟨5, 48, .eat ty_7, false⟩, ⟨7, 64, .val ty_0 false, false⟩]
def laws_toDyadicSS_o250 : List PE := [⟨0, 32, .val ty_3 false, false⟩, ⟨5, 48, .eat ty_7, false⟩]
noncomputable def laws_toDyadicSS_f250 (k : Nat) (n : Nat) (x8 : PTe laws_toDyadicSS_i250) : Option ((List (List (Int × Int) × List (Int × Int)) × List (List (Int × Int) × List (Int × Int))) ⊕ PTe laws_toDyadicSS_o250) := laws_toDyadicSS_L250 k n x8.1 x8.2.1 x8.2.2.1
def laws_toDyadicSS_ps : List PE := [⟨0, 0, .val ty_3 false, false⟩, ⟨1, 16, .val .bool false, false⟩]
noncomputable def laws_toDyadicSS_F (k : Nat) : Fn (List (List (Int × Int) × List (Int × Int)) × List (List (Int × Int) × List (Int × Int))) := ⟨laws_toDyadicSS_C k, rdRes Tryz.prog laws_toDyadicSS_ps [(ty_13, false)] Tryz.f20.results.toList .ret, fun p => bif Nat.beq p 122 then some (.loop laws_toDyadicSS_i122 laws_toDyadicSS_o122 0 96 (laws_toDyadicSS_f122 k k)) else bif Nat.beq p 250 then some (.loop laws_toDyadicSS_i250 laws_toDyadicSS_o250 2 80 (laws_toDyadicSS_f250 k k)) else bif Nat.beq p 6 then some (.cut [⟨0, 32, .val ty_3 false, false⟩, ⟨1, 48, .val .bool false, false⟩] 64) else none, 0, []⟩
theorem laws_toDyadicSS_eq (k : Nat) (x : PTe laws_toDyadicSS_ps) : evFn (laws_toDyadicSS_F k) (codeOf Tryz.f20) laws_toDyadicSS_ps 32 x = laws_toDyadicSS k x.1 x.2.1 := by kernel_rfl
theorem laws_toDyadicSS_ls : loopsOf (codeOf Tryz.f20) 1 = [(122, loopB (codeOf Tryz.f20) 122), (250, loopB (codeOf Tryz.f20) 250)] := by kernel_rfl
theorem laws_toDyadicSS_l122 (k : Nat) : LoopOk (laws_toDyadicSS_F k) (loopB (codeOf Tryz.f20) 122) 122 := LoopOk.mk (pin := laws_toDyadicSS_i122) (pout := laws_toDyadicSS_o122) (ex := 0) (nx := 96) (Lf := laws_toDyadicSS_f122 k) (k := k) (by kernel_rfl) (fun _ => rfl) (by intro n x; kernel_rfl)
theorem laws_toDyadicSS_l250 (k : Nat) : LoopOk (laws_toDyadicSS_F k) (loopB (codeOf Tryz.f20) 250) 250 := LoopOk.mk (pin := laws_toDyadicSS_i250) (pout := laws_toDyadicSS_o250) (ex := 2) (nx := 80) (Lf := laws_toDyadicSS_f250 k) (k := k) (by kernel_rfl) (fun _ => rfl) (by intro n x; kernel_rfl)
theorem laws_toDyadicSS_K (k : Nat) : Contract Tryz.prog 20 (laws_toDyadicSS_V k) :=
  contract (C := laws_toDyadicSS_C k) (F := laws_toDyadicSS_F k) (fn := Tryz.f20) (c := codeOf Tryz.f20) (ps := laws_toDyadicSS_ps) (rs := [(ty_13, false)]) (nx := 32) ⟨tyOf_ok tysR_ok, gOf_ok ⟨laws_roomBehind_K, laws_toDyadicS_K k, laws_fillerDyadic_K, trivial⟩⟩ rfl (by kernel_rfl) (by kernel_rfl) (by kernel_rfl) (by kernel_rfl) (by kernel_rfl) (by kernel_rfl) rfl (by kernel_rfl) (by kernel_rfl) (AnnOk_list [(122, loopB (codeOf Tryz.f20) 122), (250, loopB (codeOf Tryz.f20) 250)] laws_toDyadicSS_ls ⟨laws_toDyadicSS_l122 k, laws_toDyadicSS_l250 k, trivial⟩) mix_ok (laws_toDyadicSS_eq k)

noncomputable def laws_toInterval_V : Variant := ⟨[.val ty_4 true], [(ty_4, true)], fun x => laws_toInterval x.1⟩
noncomputable def laws_toInterval_C : Cfg := ⟨Tryz.prog, tyOf tysR, 13, gOf [(108, [], laws_toDyadic_V)], true, [], []⟩
def laws_toInterval_ps : List PE := [⟨0, 0, .val ty_4 true, false⟩]
noncomputable def laws_toInterval_F : Fn ((Int × Int) × Int × Int) := ⟨laws_toInterval_C, rdRes Tryz.prog laws_toInterval_ps [(ty_4, true)] Tryz.f109.results.toList .ret, fun p => none, 0, []⟩
theorem laws_toInterval_eq (x : PTe laws_toInterval_ps) : evFn (laws_toInterval_F) (codeOf Tryz.f109) laws_toInterval_ps 16 x = laws_toInterval x.1 := by kernel_rfl
theorem laws_toInterval_K : Contract Tryz.prog 109 (laws_toInterval_V) :=
  contract (C := laws_toInterval_C) (F := laws_toInterval_F) (fn := Tryz.f109) (c := codeOf Tryz.f109) (ps := laws_toInterval_ps) (rs := [(ty_4, true)]) (nx := 16) ⟨tyOf_ok tysR_ok, gOf_ok ⟨laws_toDyadic_K, trivial⟩⟩ rfl (by kernel_rfl) (by kernel_rfl) (by kernel_rfl) (by kernel_rfl) (by kernel_rfl) (by kernel_rfl) rfl (by kernel_rfl) (by kernel_rfl) (AnnOk_list [] (by kernel_rfl) trivial) mix_ok (laws_toInterval_eq)

noncomputable def laws_fillerInterval_V : Variant := ⟨[], [(ty_4, true)], fun x => laws_fillerInterval⟩
noncomputable def laws_fillerInterval_C : Cfg := ⟨Tryz.prog, tyOf tys, 4, gOf [(63, [], laws_fillerDyadic_V)], false, [], []⟩
def laws_fillerInterval_ps : List PE := []
noncomputable def laws_fillerInterval_F : Fn ((Int × Int) × Int × Int) := ⟨laws_fillerInterval_C, rdRes Tryz.prog laws_fillerInterval_ps [(ty_4, true)] Tryz.f65.results.toList .ret, fun p => none, 0, []⟩
theorem laws_fillerInterval_eq (x : PTe laws_fillerInterval_ps) : evFn (laws_fillerInterval_F) (codeOf Tryz.f65) laws_fillerInterval_ps 0 x = laws_fillerInterval := by kernel_rfl
theorem laws_fillerInterval_K : Contract Tryz.prog 65 (laws_fillerInterval_V) :=
  contract (C := laws_fillerInterval_C) (F := laws_fillerInterval_F) (fn := Tryz.f65) (c := codeOf Tryz.f65) (ps := laws_fillerInterval_ps) (rs := [(ty_4, true)]) (nx := 0) ⟨tyOf_ok tys_ok, gOf_ok ⟨laws_fillerDyadic_K, trivial⟩⟩ rfl (by kernel_rfl) (by kernel_rfl) (by kernel_rfl) (by kernel_rfl) (by kernel_rfl) (by kernel_rfl) rfl (by kernel_rfl) (by kernel_rfl) (AnnOk_list [] (by kernel_rfl) trivial) mix_ok (laws_fillerInterval_eq)

noncomputable def laws_toIntervalS_V (k : Nat) : Variant := ⟨[.val ty_5 false, .val .bool false], [(ty_8, false)], fun x => laws_toIntervalS k x.1 x.2.1⟩
noncomputable def laws_toIntervalS_C (k : Nat) : Cfg := ⟨Tryz.prog, tyOf tysR, 51, gOf [(48, [], laws_roomBehind_V), (109, [], laws_toInterval_V), (65, [], laws_fillerInterval_V)], true, [], []⟩
def laws_toIntervalS_i122 : List PE := [⟨0, 32, .val ty_5 false, false⟩, ⟨5, 48, .eat ty_4, false⟩, ⟨6, 64, .val ty_0 false, false⟩]
def laws_toIntervalS_o122 : List PE := [⟨0, 32, .val ty_5 false, false⟩, ⟨5, 48, .eat ty_4, false⟩]
noncomputable def laws_toIntervalS_f122 (k : Nat) (n : Nat) (x4 : PTe laws_toIntervalS_i122) : Option ((List ((Int × Int) × Int × Int) × List ((Int × Int) × Int × Int)) ⊕ PTe laws_toIntervalS_o122) := laws_toIntervalS_L122 k n x4.1 x4.2.1 x4.2.2.1
def laws_toIntervalS_i250 : List PE := [⟨0, 32, .val ty_5 false, false⟩, ⟨5, 48, .eat ty_4, false⟩, ⟨7, 64, .val ty_0 false, false⟩]
def laws_toIntervalS_o250 : List PE := [⟨0, 32, .val ty_5 false, false⟩, ⟨5, 48, .eat ty_4, false⟩]
noncomputable def laws_toIntervalS_f250 (k : Nat) (n : Nat) (x8 : PTe laws_toIntervalS_i250) : Option ((List ((Int × Int) × Int × Int) × List ((Int × Int) × Int × Int)) ⊕ PTe laws_toIntervalS_o250) := laws_toIntervalS_L250 k n x8.1 x8.2.1 x8.2.2.1
def laws_toIntervalS_ps : List PE := [⟨0, 0, .val ty_5 false, false⟩, ⟨1, 16, .val .bool false, false⟩]
noncomputable def laws_toIntervalS_F (k : Nat) : Fn (List ((Int × Int) × Int × Int) × List ((Int × Int) × Int × Int)) := ⟨laws_toIntervalS_C k, rdRes Tryz.prog laws_toIntervalS_ps [(ty_8, false)] Tryz.f64.results.toList .ret, fun p => bif Nat.beq p 122 then some (.loop laws_toIntervalS_i122 laws_toIntervalS_o122 0 80 (laws_toIntervalS_f122 k k)) else bif Nat.beq p 250 then some (.loop laws_toIntervalS_i250 laws_toIntervalS_o250 2 80 (laws_toIntervalS_f250 k k)) else bif Nat.beq p 6 then some (.cut [⟨0, 32, .val ty_5 false, false⟩] 48) else none, 0, []⟩
theorem laws_toIntervalS_eq (k : Nat) (x : PTe laws_toIntervalS_ps) : evFn (laws_toIntervalS_F k) (codeOf Tryz.f64) laws_toIntervalS_ps 32 x = laws_toIntervalS k x.1 x.2.1 := by kernel_rfl
theorem laws_toIntervalS_ls : loopsOf (codeOf Tryz.f64) 1 = [(122, loopB (codeOf Tryz.f64) 122), (250, loopB (codeOf Tryz.f64) 250)] := by kernel_rfl
theorem laws_toIntervalS_l122 (k : Nat) : LoopOk (laws_toIntervalS_F k) (loopB (codeOf Tryz.f64) 122) 122 := LoopOk.mk (pin := laws_toIntervalS_i122) (pout := laws_toIntervalS_o122) (ex := 0) (nx := 80) (Lf := laws_toIntervalS_f122 k) (k := k) (by kernel_rfl) (fun _ => rfl) (by intro n x; kernel_rfl)
theorem laws_toIntervalS_l250 (k : Nat) : LoopOk (laws_toIntervalS_F k) (loopB (codeOf Tryz.f64) 250) 250 := LoopOk.mk (pin := laws_toIntervalS_i250) (pout := laws_toIntervalS_o250) (ex := 2) (nx := 80) (Lf := laws_toIntervalS_f250 k) (k := k) (by kernel_rfl) (fun _ => rfl) (by intro n x; kernel_rfl)
theorem laws_toIntervalS_K (k : Nat) : Contract Tryz.prog 64 (laws_toIntervalS_V k) :=
  contract (C := laws_toIntervalS_C k) (F := laws_toIntervalS_F k) (fn := Tryz.f64) (c := codeOf Tryz.f64) (ps := laws_toIntervalS_ps) (rs := [(ty_8, false)]) (nx := 32) ⟨tyOf_ok tysR_ok, gOf_ok ⟨laws_roomBehind_K, laws_toInterval_K, laws_fillerInterval_K, trivial⟩⟩ rfl (by kernel_rfl) (by kernel_rfl) (by kernel_rfl) (by kernel_rfl) (by kernel_rfl) (by kernel_rfl) rfl (by kernel_rfl) (by kernel_rfl) (AnnOk_list [(122, loopB (codeOf Tryz.f64) 122), (250, loopB (codeOf Tryz.f64) 250)] laws_toIntervalS_ls ⟨laws_toIntervalS_l122 k, laws_toIntervalS_l250 k, trivial⟩) mix_ok (laws_toIntervalS_eq k)

noncomputable def laws_toIntervalSS_V (k : Nat) : Variant := ⟨[.val ty_6 false, .val .bool false], [(ty_14, false)], fun x => laws_toIntervalSS k x.1 x.2.1⟩
noncomputable def laws_toIntervalSS_C (k : Nat) : Cfg := ⟨Tryz.prog, tyOf tysR, 53, gOf [(48, [], laws_roomBehind_V), (64, [], laws_toIntervalS_V k), (65, [], laws_fillerInterval_V)], true, [5, 27, 39, 44], []⟩
def laws_toIntervalSS_i122 : List PE := [⟨0, 32, .val ty_6 false, false⟩, ⟨1, 48, .val .bool false, false⟩, ⟨5, 64, .eat ty_8, false⟩, ⟨6, 80, .val ty_0 false, false⟩]
def laws_toIntervalSS_o122 : List PE := [⟨0, 32, .val ty_6 false, false⟩, ⟨5, 48, .eat ty_8, false⟩]
noncomputable def laws_toIntervalSS_f122 (k : Nat) (n : Nat) (x4 : PTe laws_toIntervalSS_i122) : Option ((List (List ((Int × Int) × Int × Int) × List ((Int × Int) × Int × Int)) × List (List ((Int × Int) × Int × Int) × List ((Int × Int) × Int × Int))) ⊕ PTe laws_toIntervalSS_o122) := laws_toIntervalSS_L122 k n x4.1 x4.2.1 x4.2.2.1 x4.2.2.2.1
def laws_toIntervalSS_i250 : List PE := [⟨0, 32, .val ty_6 false, false⟩, ⟨5, 48, .eat ty_8, false⟩, ⟨7, 64, .val ty_0 false, false⟩]
def laws_toIntervalSS_o250 : List PE := [⟨0, 32, .val ty_6 false, false⟩, ⟨5, 48, .eat ty_8, false⟩]
noncomputable def laws_toIntervalSS_f250 (k : Nat) (n : Nat) (x8 : PTe laws_toIntervalSS_i250) : Option ((List (List ((Int × Int) × Int × Int) × List ((Int × Int) × Int × Int)) × List (List ((Int × Int) × Int × Int) × List ((Int × Int) × Int × Int))) ⊕ PTe laws_toIntervalSS_o250) := laws_toIntervalSS_L250 k n x8.1 x8.2.1 x8.2.2.1
def laws_toIntervalSS_ps : List PE := [⟨0, 0, .val ty_6 false, false⟩, ⟨1, 16, .val .bool false, false⟩]
noncomputable def laws_toIntervalSS_F (k : Nat) : Fn (List (List ((Int × Int) × Int × Int) × List ((Int × Int) × Int × Int)) × List (List ((Int × Int) × Int × Int) × List ((Int × Int) × Int × Int))) := ⟨laws_toIntervalSS_C k, rdRes Tryz.prog laws_toIntervalSS_ps [(ty_14, false)] Tryz.f21.results.toList .ret, fun p => bif Nat.beq p 122 then some (.loop laws_toIntervalSS_i122 laws_toIntervalSS_o122 0 96 (laws_toIntervalSS_f122 k k)) else bif Nat.beq p 250 then some (.loop laws_toIntervalSS_i250 laws_toIntervalSS_o250 2 80 (laws_toIntervalSS_f250 k k)) else bif Nat.beq p 6 then some (.cut [⟨0, 32, .val ty_6 false, false⟩, ⟨1, 48, .val .bool false, false⟩] 64) else none, 0, []⟩
theorem laws_toIntervalSS_eq (k : Nat) (x : PTe laws_toIntervalSS_ps) : evFn (laws_toIntervalSS_F k) (codeOf Tryz.f21) laws_toIntervalSS_ps 32 x = laws_toIntervalSS k x.1 x.2.1 := by kernel_rfl
theorem laws_toIntervalSS_ls : loopsOf (codeOf Tryz.f21) 1 = [(122, loopB (codeOf Tryz.f21) 122), (250, loopB (codeOf Tryz.f21) 250)] := by kernel_rfl
theorem laws_toIntervalSS_l122 (k : Nat) : LoopOk (laws_toIntervalSS_F k) (loopB (codeOf Tryz.f21) 122) 122 := LoopOk.mk (pin := laws_toIntervalSS_i122) (pout := laws_toIntervalSS_o122) (ex := 0) (nx := 96) (Lf := laws_toIntervalSS_f122 k) (k := k) (by kernel_rfl) (fun _ => rfl) (by intro n x; kernel_rfl)
theorem laws_toIntervalSS_l250 (k : Nat) : LoopOk (laws_toIntervalSS_F k) (loopB (codeOf Tryz.f21) 250) 250 := LoopOk.mk (pin := laws_toIntervalSS_i250) (pout := laws_toIntervalSS_o250) (ex := 2) (nx := 80) (Lf := laws_toIntervalSS_f250 k) (k := k) (by kernel_rfl) (fun _ => rfl) (by intro n x; kernel_rfl)
theorem laws_toIntervalSS_K (k : Nat) : Contract Tryz.prog 21 (laws_toIntervalSS_V k) :=
  contract (C := laws_toIntervalSS_C k) (F := laws_toIntervalSS_F k) (fn := Tryz.f21) (c := codeOf Tryz.f21) (ps := laws_toIntervalSS_ps) (rs := [(ty_14, false)]) (nx := 32) ⟨tyOf_ok tysR_ok, gOf_ok ⟨laws_roomBehind_K, laws_toIntervalS_K k, laws_fillerInterval_K, trivial⟩⟩ rfl (by kernel_rfl) (by kernel_rfl) (by kernel_rfl) (by kernel_rfl) (by kernel_rfl) (by kernel_rfl) rfl (by kernel_rfl) (by kernel_rfl) (AnnOk_list [(122, loopB (codeOf Tryz.f21) 122), (250, loopB (codeOf Tryz.f21) 250)] laws_toIntervalSS_ls ⟨laws_toIntervalSS_l122 k, laws_toIntervalSS_l250 k, trivial⟩) mix_ok (laws_toIntervalSS_eq k)

noncomputable def spec_l1In_V : Variant := ⟨[.val ty_0 false, .val ty_0 false, .val ty_0 false], [(.bool, false)], fun x => spec_l1In x.1 x.2.1 x.2.2.1⟩
noncomputable def spec_l1In_C : Cfg := ⟨Tryz.prog, tyOf tys, 15, gOf [], false, [], []⟩
def spec_l1In_ps : List PE := [⟨0, 0, .val ty_0 false, false⟩, ⟨1, 16, .val ty_0 false, false⟩, ⟨2, 32, .val ty_0 false, false⟩]
noncomputable def spec_l1In_F : Fn (Bool) := ⟨spec_l1In_C, rdRes Tryz.prog spec_l1In_ps [(.bool, false)] Tryz.f132.results.toList .ret, fun p => none, 0, []⟩
theorem spec_l1In_eq (x : PTe spec_l1In_ps) : evFn (spec_l1In_F) (codeOf Tryz.f132) spec_l1In_ps 48 x = spec_l1In x.1 x.2.1 x.2.2.1 := by kernel_rfl
theorem spec_l1In_K : Contract Tryz.prog 132 (spec_l1In_V) :=
  contract (C := spec_l1In_C) (F := spec_l1In_F) (fn := Tryz.f132) (c := codeOf Tryz.f132) (ps := spec_l1In_ps) (rs := [(.bool, false)]) (nx := 48) ⟨tyOf_ok tys_ok, gOf_ok trivial⟩ rfl (by kernel_rfl) (by kernel_rfl) (by kernel_rfl) (by kernel_rfl) (by kernel_rfl) (by kernel_rfl) rfl (by kernel_rfl) (by kernel_rfl) (AnnOk_list [] (by kernel_rfl) trivial) mix_ok (spec_l1In_eq)

noncomputable def spec_dyGood_V : Variant := ⟨[.val ty_1 true], [(.bool, false)], fun x => spec_dyGood x.1⟩
noncomputable def spec_dyGood_C : Cfg := ⟨Tryz.prog, tyOf tys, 22, gOf [(132, [], spec_l1In_V)], false, [], []⟩
def spec_dyGood_ps : List PE := [⟨0, 0, .val ty_1 true, false⟩]
noncomputable def spec_dyGood_F : Fn (Bool) := ⟨spec_dyGood_C, rdRes Tryz.prog spec_dyGood_ps [(.bool, false)] Tryz.f103.results.toList .ret, fun p => none, 0, []⟩
theorem spec_dyGood_eq (x : PTe spec_dyGood_ps) : evFn (spec_dyGood_F) (codeOf Tryz.f103) spec_dyGood_ps 16 x = spec_dyGood x.1 := by kernel_rfl
theorem spec_dyGood_K : Contract Tryz.prog 103 (spec_dyGood_V) :=
  contract (C := spec_dyGood_C) (F := spec_dyGood_F) (fn := Tryz.f103) (c := codeOf Tryz.f103) (ps := spec_dyGood_ps) (rs := [(.bool, false)]) (nx := 16) ⟨tyOf_ok tys_ok, gOf_ok ⟨spec_l1In_K, trivial⟩⟩ rfl (by kernel_rfl) (by kernel_rfl) (by kernel_rfl) (by kernel_rfl) (by kernel_rfl) (by kernel_rfl) rfl (by kernel_rfl) (by kernel_rfl) (AnnOk_list [] (by kernel_rfl) trivial) mix_ok (spec_dyGood_eq)

noncomputable def spec_l1All_V (k : Nat) : Variant := ⟨[.val ty_9 false, .val ty_0 false, .val ty_0 false], [(.bool, false)], fun x => spec_l1All k x.1 x.2.1 x.2.2.1⟩
noncomputable def spec_l1All_C (k : Nat) : Cfg := ⟨Tryz.prog, tyOf tys, 21, gOf [(132, [], spec_l1In_V)], false, [], []⟩
def spec_l1All_i26 : List PE := [⟨1, 48, .val ty_0 false, false⟩, ⟨2, 64, .val ty_0 false, false⟩, ⟨9, 80, .val ty_9 false, false⟩, ⟨10, 96, .val ty_0 false, false⟩, ⟨11, 112, .val ty_0 false, false⟩]
def spec_l1All_o26 : List PE := []
noncomputable def spec_l1All_f26 (k : Nat) (n : Nat) (x2 : PTe spec_l1All_i26) : Option ((Bool) ⊕ PTe spec_l1All_o26) := spec_l1All_L26 k n x2.1 x2.2.1 x2.2.2.1 x2.2.2.2.1 x2.2.2.2.2.1
def spec_l1All_ps : List PE := [⟨0, 0, .val ty_9 false, false⟩, ⟨1, 16, .val ty_0 false, false⟩, ⟨2, 32, .val ty_0 false, false⟩]
noncomputable def spec_l1All_F (k : Nat) : Fn (Bool) := ⟨spec_l1All_C k, rdRes Tryz.prog spec_l1All_ps [(.bool, false)] Tryz.f164.results.toList .ret, fun p => bif Nat.beq p 26 then some (.loop spec_l1All_i26 spec_l1All_o26 0 128 (spec_l1All_f26 k k)) else none, 0, []⟩
theorem spec_l1All_eq (k : Nat) (x : PTe spec_l1All_ps) : evFn (spec_l1All_F k) (codeOf Tryz.f164) spec_l1All_ps 48 x = spec_l1All k x.1 x.2.1 x.2.2.1 := by kernel_rfl
theorem spec_l1All_ls : loopsOf (codeOf Tryz.f164) 1 = [(26, loopB (codeOf Tryz.f164) 26)] := by kernel_rfl
theorem spec_l1All_l26 (k : Nat) : LoopOk (spec_l1All_F k) (loopB (codeOf Tryz.f164) 26) 26 := LoopOk.mk (pin := spec_l1All_i26) (pout := spec_l1All_o26) (ex := 0) (nx := 128) (Lf := spec_l1All_f26 k) (k := k) (by kernel_rfl) (fun _ => rfl) (by intro n x; kernel_rfl)
theorem spec_l1All_K (k : Nat) : Contract Tryz.prog 164 (spec_l1All_V k) :=
  contract (C := spec_l1All_C k) (F := spec_l1All_F k) (fn := Tryz.f164) (c := codeOf Tryz.f164) (ps := spec_l1All_ps) (rs := [(.bool, false)]) (nx := 48) ⟨tyOf_ok tys_ok, gOf_ok ⟨spec_l1In_K, trivial⟩⟩ rfl (by kernel_rfl) (by kernel_rfl) (by kernel_rfl) (by kernel_rfl) (by kernel_rfl) (by kernel_rfl) rfl (by kernel_rfl) (by kernel_rfl) (AnnOk_list [(26, loopB (codeOf Tryz.f164) 26)] spec_l1All_ls ⟨spec_l1All_l26 k, trivial⟩) mix_ok (spec_l1All_eq k)

noncomputable def spec_mxSquare_V (k : Nat) : Variant := ⟨[.val ty_0 false, .val ty_9 false], [(.bool, false)], fun x => spec_mxSquare k x.1 x.2.1⟩
noncomputable def spec_mxSquare_C (k : Nat) : Cfg := ⟨Tryz.prog, tyOf tys, 13, gOf [(132, [], spec_l1In_V), (164, [], spec_l1All_V k)], false, [], []⟩
def spec_mxSquare_ps : List PE := [⟨0, 0, .val ty_0 false, false⟩, ⟨1, 16, .val ty_9 false, false⟩]
noncomputable def spec_mxSquare_F (k : Nat) : Fn (Bool) := ⟨spec_mxSquare_C k, rdRes Tryz.prog spec_mxSquare_ps [(.bool, false)] Tryz.f104.results.toList .ret, fun p => none, 0, []⟩
theorem spec_mxSquare_eq (k : Nat) (x : PTe spec_mxSquare_ps) : evFn (spec_mxSquare_F k) (codeOf Tryz.f104) spec_mxSquare_ps 32 x = spec_mxSquare k x.1 x.2.1 := by kernel_rfl
theorem spec_mxSquare_K (k : Nat) : Contract Tryz.prog 104 (spec_mxSquare_V k) :=
  contract (C := spec_mxSquare_C k) (F := spec_mxSquare_F k) (fn := Tryz.f104) (c := codeOf Tryz.f104) (ps := spec_mxSquare_ps) (rs := [(.bool, false)]) (nx := 32) ⟨tyOf_ok tys_ok, gOf_ok ⟨spec_l1In_K, spec_l1All_K k, trivial⟩⟩ rfl (by kernel_rfl) (by kernel_rfl) (by kernel_rfl) (by kernel_rfl) (by kernel_rfl) (by kernel_rfl) rfl (by kernel_rfl) (by kernel_rfl) (AnnOk_list [] (by kernel_rfl) trivial) mix_ok (spec_mxSquare_eq k)

noncomputable def spec_mxGood_V (k : Nat) : Variant := ⟨[.val ty_3 false], [(.bool, false)], fun x => spec_mxGood k x.1⟩
noncomputable def spec_mxGood_C (k : Nat) : Cfg := ⟨Tryz.prog, tyOf tys, 34, gOf [(103, [], spec_dyGood_V), (104, [], spec_mxSquare_V k)], false, [], []⟩
def spec_mxGood_i29898 : List PE := [⟨0, 16, .val ty_3 false, false⟩, ⟨3, 32, .eat ty_0, false⟩, ⟨5, 48, .val ty_2 false, false⟩, ⟨8, 64, .val ty_3 false, false⟩, ⟨9, 80, .val ty_0 false, false⟩, ⟨10, 96, .val ty_0 false, false⟩, ⟨14, 112, .val ty_2 false, false⟩, ⟨15, 128, .val ty_0 false, false⟩, ⟨16, 144, .val ty_0 false, false⟩]
def spec_mxGood_o29898 : List PE := [⟨0, 16, .val ty_3 false, false⟩, ⟨3, 32, .eat ty_0, false⟩, ⟨5, 48, .val ty_2 false, false⟩, ⟨8, 64, .val ty_3 false, false⟩, ⟨9, 80, .val ty_0 false, false⟩, ⟨10, 96, .val ty_0 false, false⟩]
noncomputable def spec_mxGood_f29898 (k : Nat) (n : Nat) (x2 : PTe spec_mxGood_i29898) : Option ((Bool) ⊕ PTe spec_mxGood_o29898) := spec_mxGood_L29898 k n x2.1 x2.2.1 x2.2.2.1 x2.2.2.2.1 x2.2.2.2.2.1 x2.2.2.2.2.2.1 x2.2.2.2.2.2.2.1 x2.2.2.2.2.2.2.2.1 x2.2.2.2.2.2.2.2.2.1
def spec_mxGood_i58 : List PE := [⟨0, 16, .val ty_3 false, false⟩, ⟨3, 32, .eat ty_0, false⟩, ⟨8, 48, .val ty_3 false, false⟩, ⟨9, 64, .val ty_0 false, false⟩, ⟨10, 80, .val ty_0 false, false⟩]
def spec_mxGood_o58 : List PE := [⟨0, 16, .val ty_3 false, false⟩, ⟨3, 32, .eat ty_0, false⟩]
noncomputable def spec_mxGood_f58 (k : Nat) (n : Nat) (x5 : PTe spec_mxGood_i58) : Option ((Bool) ⊕ PTe spec_mxGood_o58) := spec_mxGood_L58 k n x5.1 x5.2.1 x5.2.2.1 x5.2.2.2.1 x5.2.2.2.2.1
def spec_mxGood_ps : List PE := [⟨0, 0, .val ty_3 false, false⟩]
noncomputable def spec_mxGood_F (k : Nat) : Fn (Bool) := ⟨spec_mxGood_C k, rdRes Tryz.prog spec_mxGood_ps [(.bool, false)] Tryz.f59.results.toList .ret, fun p => bif Nat.beq p 29898 then some (.loop spec_mxGood_i29898 spec_mxGood_o29898 2 160 (spec_mxGood_f29898 k k)) else bif Nat.beq p 58 then some (.loop spec_mxGood_i58 spec_mxGood_o58 0 96 (spec_mxGood_f58 k k)) else none, 0, []⟩
theorem spec_mxGood_eq (k : Nat) (x : PTe spec_mxGood_ps) : evFn (spec_mxGood_F k) (codeOf Tryz.f59) spec_mxGood_ps 16 x = spec_mxGood k x.1 := by kernel_rfl
theorem spec_mxGood_ls : loopsOf (codeOf Tryz.f59) 1 = [(58, loopB (codeOf Tryz.f59) 58), (29898, loopB (codeOf Tryz.f59) 29898)] := by kernel_rfl
theorem spec_mxGood_l29898 (k : Nat) : LoopOk (spec_mxGood_F k) (loopB (codeOf Tryz.f59) 29898) 29898 := LoopOk.mk (pin := spec_mxGood_i29898) (pout := spec_mxGood_o29898) (ex := 2) (nx := 160) (Lf := spec_mxGood_f29898 k) (k := k) (by kernel_rfl) (fun _ => rfl) (by intro n x; kernel_rfl)
theorem spec_mxGood_l58 (k : Nat) : LoopOk (spec_mxGood_F k) (loopB (codeOf Tryz.f59) 58) 58 := LoopOk.mk (pin := spec_mxGood_i58) (pout := spec_mxGood_o58) (ex := 0) (nx := 96) (Lf := spec_mxGood_f58 k) (k := k) (by kernel_rfl) (fun _ => rfl) (by intro n x; kernel_rfl)
theorem spec_mxGood_K (k : Nat) : Contract Tryz.prog 59 (spec_mxGood_V k) :=
  contract (C := spec_mxGood_C k) (F := spec_mxGood_F k) (fn := Tryz.f59) (c := codeOf Tryz.f59) (ps := spec_mxGood_ps) (rs := [(.bool, false)]) (nx := 16) ⟨tyOf_ok tys_ok, gOf_ok ⟨spec_dyGood_K, spec_mxSquare_K k, trivial⟩⟩ rfl (by kernel_rfl) (by kernel_rfl) (by kernel_rfl) (by kernel_rfl) (by kernel_rfl) (by kernel_rfl) rfl (by kernel_rfl) (by kernel_rfl) (AnnOk_list [(58, loopB (codeOf Tryz.f59) 58), (29898, loopB (codeOf Tryz.f59) 29898)] spec_mxGood_ls ⟨spec_mxGood_l58 k, spec_mxGood_l29898 k, trivial⟩) mix_ok (spec_mxGood_eq k)

noncomputable def spec_dyPower_V : Variant := ⟨[.val ty_0 false], [(ty_0, false)], fun x => spec_dyPower x.1⟩
noncomputable def spec_dyPower_C : Cfg := ⟨Tryz.prog, tyOf tys, 6, gOf [], false, [], []⟩
def spec_dyPower_ps : List PE := [⟨0, 0, .val ty_0 false, false⟩]
noncomputable def spec_dyPower_F : Fn (Int) := ⟨spec_dyPower_C, rdRes Tryz.prog spec_dyPower_ps [(ty_0, false)] Tryz.f143.results.toList .ret, fun p => none, 0, []⟩
theorem spec_dyPower_eq (x : PTe spec_dyPower_ps) : evFn (spec_dyPower_F) (codeOf Tryz.f143) spec_dyPower_ps 16 x = spec_dyPower x.1 := by kernel_rfl
theorem spec_dyPower_K : Contract Tryz.prog 143 (spec_dyPower_V) :=
  contract (C := spec_dyPower_C) (F := spec_dyPower_F) (fn := Tryz.f143) (c := codeOf Tryz.f143) (ps := spec_dyPower_ps) (rs := [(ty_0, false)]) (nx := 16) ⟨tyOf_ok tys_ok, gOf_ok trivial⟩ rfl (by kernel_rfl) (by kernel_rfl) (by kernel_rfl) (by kernel_rfl) (by kernel_rfl) (by kernel_rfl) rfl (by kernel_rfl) (by kernel_rfl) (AnnOk_list [] (by kernel_rfl) trivial) mix_ok (spec_dyPower_eq)

noncomputable def spec_dyDown_V : Variant := ⟨[.val ty_0 false, .val ty_0 false], [(ty_0, false)], fun x => spec_dyDown x.1 x.2.1⟩
noncomputable def spec_dyDown_C : Cfg := ⟨Tryz.prog, tyOf tys, 16, gOf [], false, [], []⟩
def spec_dyDown_ps : List PE := [⟨0, 0, .val ty_0 false, false⟩, ⟨1, 16, .val ty_0 false, false⟩]
noncomputable def spec_dyDown_F : Fn (Int) := ⟨spec_dyDown_C, rdRes Tryz.prog spec_dyDown_ps [(ty_0, false)] Tryz.f248.results.toList .ret, fun p => none, 0, []⟩
theorem spec_dyDown_eq (x : PTe spec_dyDown_ps) : evFn (spec_dyDown_F) (codeOf Tryz.f248) spec_dyDown_ps 32 x = spec_dyDown x.1 x.2.1 := by kernel_rfl
theorem spec_dyDown_K : Contract Tryz.prog 248 (spec_dyDown_V) :=
  contract (C := spec_dyDown_C) (F := spec_dyDown_F) (fn := Tryz.f248) (c := codeOf Tryz.f248) (ps := spec_dyDown_ps) (rs := [(ty_0, false)]) (nx := 32) ⟨tyOf_ok tys_ok, gOf_ok trivial⟩ rfl (by kernel_rfl) (by kernel_rfl) (by kernel_rfl) (by kernel_rfl) (by kernel_rfl) (by kernel_rfl) rfl (by kernel_rfl) (by kernel_rfl) (AnnOk_list [] (by kernel_rfl) trivial) mix_ok (spec_dyDown_eq)

noncomputable def spec_dyFloor_V : Variant := ⟨[.val ty_1 true], [(ty_0, false)], fun x => spec_dyFloor x.1⟩
noncomputable def spec_dyFloor_C : Cfg := ⟨Tryz.prog, tyOf tys, 9, gOf [(143, [], spec_dyPower_V), (248, [], spec_dyDown_V)], false, [], []⟩
def spec_dyFloor_ps : List PE := [⟨0, 0, .val ty_1 true, false⟩]
noncomputable def spec_dyFloor_F : Fn (Int) := ⟨spec_dyFloor_C, rdRes Tryz.prog spec_dyFloor_ps [(ty_0, false)] Tryz.f224.results.toList .ret, fun p => none, 0, []⟩
theorem spec_dyFloor_eq (x : PTe spec_dyFloor_ps) : evFn (spec_dyFloor_F) (codeOf Tryz.f224) spec_dyFloor_ps 16 x = spec_dyFloor x.1 := by kernel_rfl
theorem spec_dyFloor_K : Contract Tryz.prog 224 (spec_dyFloor_V) :=
  contract (C := spec_dyFloor_C) (F := spec_dyFloor_F) (fn := Tryz.f224) (c := codeOf Tryz.f224) (ps := spec_dyFloor_ps) (rs := [(ty_0, false)]) (nx := 16) ⟨tyOf_ok tys_ok, gOf_ok ⟨spec_dyPower_K, spec_dyDown_K, trivial⟩⟩ rfl (by kernel_rfl) (by kernel_rfl) (by kernel_rfl) (by kernel_rfl) (by kernel_rfl) (by kernel_rfl) rfl (by kernel_rfl) (by kernel_rfl) (AnnOk_list [] (by kernel_rfl) trivial) mix_ok (spec_dyFloor_eq)

noncomputable def spec_l1Sign_V : Variant := ⟨[.val ty_0 false], [(ty_0, false)], fun x => spec_l1Sign x.1⟩
noncomputable def spec_l1Sign_C : Cfg := ⟨Tryz.prog, tyOf tys, 9, gOf [], false, [], []⟩
def spec_l1Sign_ps : List PE := [⟨0, 0, .val ty_0 false, false⟩]
noncomputable def spec_l1Sign_F : Fn (Int) := ⟨spec_l1Sign_C, rdRes Tryz.prog spec_l1Sign_ps [(ty_0, false)] Tryz.f225.results.toList .ret, fun p => none, 0, []⟩
theorem spec_l1Sign_eq (x : PTe spec_l1Sign_ps) : evFn (spec_l1Sign_F) (codeOf Tryz.f225) spec_l1Sign_ps 16 x = spec_l1Sign x.1 := by kernel_rfl
theorem spec_l1Sign_K : Contract Tryz.prog 225 (spec_l1Sign_V) :=
  contract (C := spec_l1Sign_C) (F := spec_l1Sign_F) (fn := Tryz.f225) (c := codeOf Tryz.f225) (ps := spec_l1Sign_ps) (rs := [(ty_0, false)]) (nx := 16) ⟨tyOf_ok tys_ok, gOf_ok trivial⟩ rfl (by kernel_rfl) (by kernel_rfl) (by kernel_rfl) (by kernel_rfl) (by kernel_rfl) (by kernel_rfl) rfl (by kernel_rfl) (by kernel_rfl) (AnnOk_list [] (by kernel_rfl) trivial) mix_ok (spec_l1Sign_eq)

noncomputable def spec_dyAt_V (k : Nat) : Variant := ⟨[.val ty_1 true, .val ty_0 false], [(ty_0, false), (.bool, false)], fun x => spec_dyAt k x.1 x.2.1⟩
noncomputable def spec_dyAt_C (k : Nat) : Cfg := ⟨Tryz.prog, tyOf tys, 30, gOf [(143, [], spec_dyPower_V), (132, [], spec_l1In_V)], false, [], []⟩
def spec_dyAt_i58 : List PE := [⟨1, 32, .val ty_0 false, false⟩, ⟨2, 48, .box ty_1 false, false⟩, ⟨6, 64, .val ty_0 false, false⟩]
def spec_dyAt_o58 : List PE := [⟨2, 32, .box ty_1 false, false⟩]
noncomputable def spec_dyAt_f58 (k : Nat) (n : Nat) (x4 : PTe spec_dyAt_i58) : Option ((Int × Bool) ⊕ PTe spec_dyAt_o58) := spec_dyAt_L58 k n x4.1 x4.2.1 x4.2.2.1
def spec_dyAt_ps : List PE := [⟨0, 0, .val ty_1 true, false⟩, ⟨1, 16, .val ty_0 false, false⟩]
noncomputable def spec_dyAt_F (k : Nat) : Fn (Int × Bool) := ⟨spec_dyAt_C k, rdRes Tryz.prog spec_dyAt_ps [(ty_0, false), (.bool, false)] Tryz.f184.results.toList .ret, fun p => bif Nat.beq p 58 then some (.loop spec_dyAt_i58 spec_dyAt_o58 0 80 (spec_dyAt_f58 k k)) else none, 0, []⟩
theorem spec_dyAt_eq (k : Nat) (x : PTe spec_dyAt_ps) : evFn (spec_dyAt_F k) (codeOf Tryz.f184) spec_dyAt_ps 32 x = spec_dyAt k x.1 x.2.1 := by kernel_rfl
theorem spec_dyAt_ls : loopsOf (codeOf Tryz.f184) 1 = [(58, loopB (codeOf Tryz.f184) 58)] := by kernel_rfl
theorem spec_dyAt_l58 (k : Nat) : LoopOk (spec_dyAt_F k) (loopB (codeOf Tryz.f184) 58) 58 := LoopOk.mk (pin := spec_dyAt_i58) (pout := spec_dyAt_o58) (ex := 0) (nx := 80) (Lf := spec_dyAt_f58 k) (k := k) (by kernel_rfl) (fun _ => rfl) (by intro n x; kernel_rfl)
theorem spec_dyAt_K (k : Nat) : Contract Tryz.prog 184 (spec_dyAt_V k) :=
  contract (C := spec_dyAt_C k) (F := spec_dyAt_F k) (fn := Tryz.f184) (c := codeOf Tryz.f184) (ps := spec_dyAt_ps) (rs := [(ty_0, false), (.bool, false)]) (nx := 32) ⟨tyOf_ok tys_ok, gOf_ok ⟨spec_dyPower_K, spec_l1In_K, trivial⟩⟩ rfl (by kernel_rfl) (by kernel_rfl) (by kernel_rfl) (by kernel_rfl) (by kernel_rfl) (by kernel_rfl) rfl (by kernel_rfl) (by kernel_rfl) (AnnOk_list [(58, loopB (codeOf Tryz.f184) 58)] spec_dyAt_ls ⟨spec_dyAt_l58 k, trivial⟩) mix_ok (spec_dyAt_eq k)

noncomputable def spec_dyCmp_V (k : Nat) : Variant := ⟨[.val ty_1 true, .val ty_1 true], [(ty_0, false)], fun x => spec_dyCmp k x.1 x.2.1⟩
noncomputable def spec_dyCmp_C (k : Nat) : Cfg := ⟨Tryz.prog, tyOf tys, 56, gOf [(224, [], spec_dyFloor_V), (225, [], spec_l1Sign_V), (143, [], spec_dyPower_V), (184, [], spec_dyAt_V k)], false, [], []⟩
def spec_dyCmp_ps : List PE := [⟨0, 0, .val ty_1 true, false⟩, ⟨1, 16, .val ty_1 true, false⟩]
noncomputable def spec_dyCmp_F (k : Nat) : Fn (Int) := ⟨spec_dyCmp_C k, rdRes Tryz.prog spec_dyCmp_ps [(ty_0, false)] Tryz.f165.results.toList .ret, fun p => none, 0, []⟩
theorem spec_dyCmp_eq (k : Nat) (x : PTe spec_dyCmp_ps) : evFn (spec_dyCmp_F k) (codeOf Tryz.f165) spec_dyCmp_ps 32 x = spec_dyCmp k x.1 x.2.1 := by kernel_rfl
theorem spec_dyCmp_K (k : Nat) : Contract Tryz.prog 165 (spec_dyCmp_V k) :=
  contract (C := spec_dyCmp_C k) (F := spec_dyCmp_F k) (fn := Tryz.f165) (c := codeOf Tryz.f165) (ps := spec_dyCmp_ps) (rs := [(ty_0, false)]) (nx := 32) ⟨tyOf_ok tys_ok, gOf_ok ⟨spec_dyFloor_K, spec_l1Sign_K, spec_dyPower_K, spec_dyAt_K k, trivial⟩⟩ rfl (by kernel_rfl) (by kernel_rfl) (by kernel_rfl) (by kernel_rfl) (by kernel_rfl) (by kernel_rfl) rfl (by kernel_rfl) (by kernel_rfl) (AnnOk_list [] (by kernel_rfl) trivial) mix_ok (spec_dyCmp_eq k)

noncomputable def spec_ivGood_V (k : Nat) : Variant := ⟨[.val ty_4 true], [(.bool, false)], fun x => spec_ivGood k x.1⟩
noncomputable def spec_ivGood_C (k : Nat) : Cfg := ⟨Tryz.prog, tyOf tys, 19, gOf [(103, [], spec_dyGood_V), (165, [], spec_dyCmp_V k)], false, [], []⟩
def spec_ivGood_ps : List PE := [⟨0, 0, .val ty_4 true, false⟩]
noncomputable def spec_ivGood_F (k : Nat) : Fn (Bool) := ⟨spec_ivGood_C k, rdRes Tryz.prog spec_ivGood_ps [(.bool, false)] Tryz.f105.results.toList .ret, fun p => none, 0, []⟩
theorem spec_ivGood_eq (k : Nat) (x : PTe spec_ivGood_ps) : evFn (spec_ivGood_F k) (codeOf Tryz.f105) spec_ivGood_ps 16 x = spec_ivGood k x.1 := by kernel_rfl
theorem spec_ivGood_K (k : Nat) : Contract Tryz.prog 105 (spec_ivGood_V k) :=
  contract (C := spec_ivGood_C k) (F := spec_ivGood_F k) (fn := Tryz.f105) (c := codeOf Tryz.f105) (ps := spec_ivGood_ps) (rs := [(.bool, false)]) (nx := 16) ⟨tyOf_ok tys_ok, gOf_ok ⟨spec_dyGood_K, spec_dyCmp_K k, trivial⟩⟩ rfl (by kernel_rfl) (by kernel_rfl) (by kernel_rfl) (by kernel_rfl) (by kernel_rfl) (by kernel_rfl) rfl (by kernel_rfl) (by kernel_rfl) (AnnOk_list [] (by kernel_rfl) trivial) mix_ok (spec_ivGood_eq k)

noncomputable def spec_mxFits_V (k : Nat) : Variant := ⟨[.val ty_6 false], [(.bool, false)], fun x => spec_mxFits k x.1⟩
noncomputable def spec_mxFits_C (k : Nat) : Cfg := ⟨Tryz.prog, tyOf tys, 34, gOf [(105, [], spec_ivGood_V k), (104, [], spec_mxSquare_V k)], false, [], []⟩
def spec_mxFits_i29898 : List PE := [⟨0, 16, .val ty_6 false, false⟩, ⟨3, 32, .eat ty_0, false⟩, ⟨5, 48, .val ty_5 false, false⟩, ⟨8, 64, .val ty_6 false, false⟩, ⟨9, 80, .val ty_0 false, false⟩, ⟨10, 96, .val ty_0 false, false⟩, ⟨14, 112, .val ty_5 false, false⟩, ⟨15, 128, .val ty_0 false, false⟩, ⟨16, 144, .val ty_0 false, false⟩]
def spec_mxFits_o29898 : List PE := [⟨0, 16, .val ty_6 false, false⟩, ⟨3, 32, .eat ty_0, false⟩, ⟨5, 48, .val ty_5 false, false⟩, ⟨8, 64, .val ty_6 false, false⟩, ⟨9, 80, .val ty_0 false, false⟩, ⟨10, 96, .val ty_0 false, false⟩]
noncomputable def spec_mxFits_f29898 (k : Nat) (n : Nat) (x2 : PTe spec_mxFits_i29898) : Option ((Bool) ⊕ PTe spec_mxFits_o29898) := spec_mxFits_L29898 k n x2.1 x2.2.1 x2.2.2.1 x2.2.2.2.1 x2.2.2.2.2.1 x2.2.2.2.2.2.1 x2.2.2.2.2.2.2.1 x2.2.2.2.2.2.2.2.1 x2.2.2.2.2.2.2.2.2.1
def spec_mxFits_i58 : List PE := [⟨0, 16, .val ty_6 false, false⟩, ⟨3, 32, .eat ty_0, false⟩, ⟨8, 48, .val ty_6 false, false⟩, ⟨9, 64, .val ty_0 false, false⟩, ⟨10, 80, .val ty_0 false, false⟩]
def spec_mxFits_o58 : List PE := [⟨0, 16, .val ty_6 false, false⟩, ⟨3, 32, .eat ty_0, false⟩]
noncomputable def spec_mxFits_f58 (k : Nat) (n : Nat) (x5 : PTe spec_mxFits_i58) : Option ((Bool) ⊕ PTe spec_mxFits_o58) := spec_mxFits_L58 k n x5.1 x5.2.1 x5.2.2.1 x5.2.2.2.1 x5.2.2.2.2.1
def spec_mxFits_ps : List PE := [⟨0, 0, .val ty_6 false, false⟩]
noncomputable def spec_mxFits_F (k : Nat) : Fn (Bool) := ⟨spec_mxFits_C k, rdRes Tryz.prog spec_mxFits_ps [(.bool, false)] Tryz.f60.results.toList .ret, fun p => bif Nat.beq p 29898 then some (.loop spec_mxFits_i29898 spec_mxFits_o29898 2 160 (spec_mxFits_f29898 k k)) else bif Nat.beq p 58 then some (.loop spec_mxFits_i58 spec_mxFits_o58 0 96 (spec_mxFits_f58 k k)) else none, 0, []⟩
theorem spec_mxFits_eq (k : Nat) (x : PTe spec_mxFits_ps) : evFn (spec_mxFits_F k) (codeOf Tryz.f60) spec_mxFits_ps 16 x = spec_mxFits k x.1 := by kernel_rfl
theorem spec_mxFits_ls : loopsOf (codeOf Tryz.f60) 1 = [(58, loopB (codeOf Tryz.f60) 58), (29898, loopB (codeOf Tryz.f60) 29898)] := by kernel_rfl
theorem spec_mxFits_l29898 (k : Nat) : LoopOk (spec_mxFits_F k) (loopB (codeOf Tryz.f60) 29898) 29898 := LoopOk.mk (pin := spec_mxFits_i29898) (pout := spec_mxFits_o29898) (ex := 2) (nx := 160) (Lf := spec_mxFits_f29898 k) (k := k) (by kernel_rfl) (fun _ => rfl) (by intro n x; kernel_rfl)
theorem spec_mxFits_l58 (k : Nat) : LoopOk (spec_mxFits_F k) (loopB (codeOf Tryz.f60) 58) 58 := LoopOk.mk (pin := spec_mxFits_i58) (pout := spec_mxFits_o58) (ex := 0) (nx := 96) (Lf := spec_mxFits_f58 k) (k := k) (by kernel_rfl) (fun _ => rfl) (by intro n x; kernel_rfl)
theorem spec_mxFits_K (k : Nat) : Contract Tryz.prog 60 (spec_mxFits_V k) :=
  contract (C := spec_mxFits_C k) (F := spec_mxFits_F k) (fn := Tryz.f60) (c := codeOf Tryz.f60) (ps := spec_mxFits_ps) (rs := [(.bool, false)]) (nx := 16) ⟨tyOf_ok tys_ok, gOf_ok ⟨spec_ivGood_K k, spec_mxSquare_K k, trivial⟩⟩ rfl (by kernel_rfl) (by kernel_rfl) (by kernel_rfl) (by kernel_rfl) (by kernel_rfl) (by kernel_rfl) rfl (by kernel_rfl) (by kernel_rfl) (AnnOk_list [(58, loopB (codeOf Tryz.f60) 58), (29898, loopB (codeOf Tryz.f60) 29898)] spec_mxFits_ls ⟨spec_mxFits_l58 k, spec_mxFits_l29898 k, trivial⟩) mix_ok (spec_mxFits_eq k)

noncomputable def spec_l1Most_V : Variant := ⟨[.val ty_0 false, .val ty_0 false], [(ty_0, false)], fun x => spec_l1Most x.1 x.2.1⟩
noncomputable def spec_l1Most_C : Cfg := ⟨Tryz.prog, tyOf tys, 10, gOf [], false, [], []⟩
def spec_l1Most_ps : List PE := [⟨0, 0, .val ty_0 false, false⟩, ⟨1, 16, .val ty_0 false, false⟩]
noncomputable def spec_l1Most_F : Fn (Int) := ⟨spec_l1Most_C, rdRes Tryz.prog spec_l1Most_ps [(ty_0, false)] Tryz.f183.results.toList .ret, fun p => none, 0, []⟩
theorem spec_l1Most_eq (x : PTe spec_l1Most_ps) : evFn (spec_l1Most_F) (codeOf Tryz.f183) spec_l1Most_ps 32 x = spec_l1Most x.1 x.2.1 := by kernel_rfl
theorem spec_l1Most_K : Contract Tryz.prog 183 (spec_l1Most_V) :=
  contract (C := spec_l1Most_C) (F := spec_l1Most_F) (fn := Tryz.f183) (c := codeOf Tryz.f183) (ps := spec_l1Most_ps) (rs := [(ty_0, false)]) (nx := 32) ⟨tyOf_ok tys_ok, gOf_ok trivial⟩ rfl (by kernel_rfl) (by kernel_rfl) (by kernel_rfl) (by kernel_rfl) (by kernel_rfl) (by kernel_rfl) rfl (by kernel_rfl) (by kernel_rfl) (AnnOk_list [] (by kernel_rfl) trivial) mix_ok (spec_l1Most_eq)

noncomputable def spec_l1Abs_V : Variant := ⟨[.val ty_0 false], [(ty_0, false)], fun x => spec_l1Abs x.1⟩
noncomputable def spec_l1Abs_C : Cfg := ⟨Tryz.prog, tyOf tys, 7, gOf [(183, [], spec_l1Most_V)], false, [], []⟩
def spec_l1Abs_ps : List PE := [⟨0, 0, .val ty_0 false, false⟩]
noncomputable def spec_l1Abs_F : Fn (Int) := ⟨spec_l1Abs_C, rdRes Tryz.prog spec_l1Abs_ps [(ty_0, false)] Tryz.f226.results.toList .ret, fun p => none, 0, []⟩
theorem spec_l1Abs_eq (x : PTe spec_l1Abs_ps) : evFn (spec_l1Abs_F) (codeOf Tryz.f226) spec_l1Abs_ps 16 x = spec_l1Abs x.1 := by kernel_rfl
theorem spec_l1Abs_K : Contract Tryz.prog 226 (spec_l1Abs_V) :=
  contract (C := spec_l1Abs_C) (F := spec_l1Abs_F) (fn := Tryz.f226) (c := codeOf Tryz.f226) (ps := spec_l1Abs_ps) (rs := [(ty_0, false)]) (nx := 16) ⟨tyOf_ok tys_ok, gOf_ok ⟨spec_l1Most_K, trivial⟩⟩ rfl (by kernel_rfl) (by kernel_rfl) (by kernel_rfl) (by kernel_rfl) (by kernel_rfl) (by kernel_rfl) rfl (by kernel_rfl) (by kernel_rfl) (AnnOk_list [] (by kernel_rfl) trivial) mix_ok (spec_l1Abs_eq)

noncomputable def spec_dyMake_V (k : Nat) : Variant := ⟨[.val ty_0 false, .val ty_0 false], [(ty_1, true), (.bool, false)], fun x => spec_dyMake k x.1 x.2.1⟩
noncomputable def spec_dyMake_C (k : Nat) : Cfg := ⟨Tryz.prog, tyOf tys, 32, gOf [(103, [], spec_dyGood_V)], false, [], []⟩
def spec_dyMake_i28 : List PE := [⟨0, 32, .val ty_0 false, false⟩, ⟨1, 48, .val ty_0 false, false⟩, ⟨4, 64, .box ty_1 false, false⟩]
def spec_dyMake_o28 : List PE := [⟨0, 32, .val ty_0 false, false⟩, ⟨1, 48, .val ty_0 false, false⟩, ⟨4, 64, .box ty_1 false, false⟩]
noncomputable def spec_dyMake_f28 (k : Nat) (n : Nat) (x2 : PTe spec_dyMake_i28) : Option (((Int × Int) × Bool) ⊕ PTe spec_dyMake_o28) := spec_dyMake_L28 k n x2.1 x2.2.1 x2.2.2.1
def spec_dyMake_ps : List PE := [⟨0, 0, .val ty_0 false, false⟩, ⟨1, 16, .val ty_0 false, false⟩]
noncomputable def spec_dyMake_F (k : Nat) : Fn ((Int × Int) × Bool) := ⟨spec_dyMake_C k, rdRes Tryz.prog spec_dyMake_ps [(ty_1, true), (.bool, false)] Tryz.f185.results.toList .ret, fun p => bif Nat.beq p 28 then some (.loop spec_dyMake_i28 spec_dyMake_o28 0 80 (spec_dyMake_f28 k k)) else bif Nat.beq p 6 then some (.cut [⟨0, 32, .val ty_0 false, false⟩, ⟨1, 48, .val ty_0 false, false⟩, ⟨4, 64, .box ty_1 false, false⟩] 80) else none, 0, []⟩
theorem spec_dyMake_eq (k : Nat) (x : PTe spec_dyMake_ps) : evFn (spec_dyMake_F k) (codeOf Tryz.f185) spec_dyMake_ps 32 x = spec_dyMake k x.1 x.2.1 := by kernel_rfl
theorem spec_dyMake_ls : loopsOf (codeOf Tryz.f185) 1 = [(28, loopB (codeOf Tryz.f185) 28)] := by kernel_rfl
theorem spec_dyMake_l28 (k : Nat) : LoopOk (spec_dyMake_F k) (loopB (codeOf Tryz.f185) 28) 28 := LoopOk.mk (pin := spec_dyMake_i28) (pout := spec_dyMake_o28) (ex := 0) (nx := 80) (Lf := spec_dyMake_f28 k) (k := k) (by kernel_rfl) (fun _ => rfl) (by intro n x; kernel_rfl)
theorem spec_dyMake_K (k : Nat) : Contract Tryz.prog 185 (spec_dyMake_V k) :=
  contract (C := spec_dyMake_C k) (F := spec_dyMake_F k) (fn := Tryz.f185) (c := codeOf Tryz.f185) (ps := spec_dyMake_ps) (rs := [(ty_1, true), (.bool, false)]) (nx := 32) ⟨tyOf_ok tys_ok, gOf_ok ⟨spec_dyGood_K, trivial⟩⟩ rfl (by kernel_rfl) (by kernel_rfl) (by kernel_rfl) (by kernel_rfl) (by kernel_rfl) (by kernel_rfl) rfl (by kernel_rfl) (by kernel_rfl) (AnnOk_list [(28, loopB (codeOf Tryz.f185) 28)] spec_dyMake_ls ⟨spec_dyMake_l28 k, trivial⟩) mix_ok (spec_dyMake_eq k)

noncomputable def spec_dyMul_V (k : Nat) : Variant := ⟨[.val ty_1 true, .val ty_1 true], [(ty_1, true), (.bool, false)], fun x => spec_dyMul k x.1 x.2.1⟩
noncomputable def spec_dyMul_C (k : Nat) : Cfg := ⟨Tryz.prog, tyOf tys, 67, gOf [(226, [], spec_l1Abs_V), (185, [], spec_dyMake_V k)], false, [], []⟩
def spec_dyMul_i60 : List PE := [⟨2, 32, .box ty_1 false, false⟩, ⟨3, 48, .box ty_1 false, false⟩, ⟨4, 64, .box ty_1 false, false⟩, ⟨6, 80, .val ty_0 false, false⟩]
def spec_dyMul_o60 : List PE := [⟨2, 32, .box ty_1 false, false⟩, ⟨3, 48, .box ty_1 false, false⟩, ⟨4, 64, .box ty_1 false, false⟩, ⟨6, 80, .val ty_0 false, false⟩]
noncomputable def spec_dyMul_f60 (k : Nat) (n : Nat) (x1 : PTe spec_dyMul_i60) : Option (((Int × Int) × Bool) ⊕ PTe spec_dyMul_o60) := spec_dyMul_L60 k n x1.1 x1.2.1 x1.2.2.1 x1.2.2.2.1
def spec_dyMul_i124 : List PE := [⟨2, 32, .box ty_1 false, false⟩, ⟨3, 48, .box ty_1 false, false⟩, ⟨4, 64, .box ty_1 false, false⟩, ⟨6, 80, .val ty_0 false, false⟩]
def spec_dyMul_o124 : List PE := [⟨2, 32, .box ty_1 false, false⟩, ⟨3, 48, .box ty_1 false, false⟩, ⟨4, 64, .box ty_1 false, false⟩, ⟨6, 80, .val ty_0 false, false⟩]
noncomputable def spec_dyMul_f124 (k : Nat) (n : Nat) (x4 : PTe spec_dyMul_i124) : Option (((Int × Int) × Bool) ⊕ PTe spec_dyMul_o124) := spec_dyMul_L124 k n x4.1 x4.2.1 x4.2.2.1 x4.2.2.2.1
def spec_dyMul_ps : List PE := [⟨0, 0, .val ty_1 true, false⟩, ⟨1, 16, .val ty_1 true, false⟩]
noncomputable def spec_dyMul_F (k : Nat) : Fn ((Int × Int) × Bool) := ⟨spec_dyMul_C k, rdRes Tryz.prog spec_dyMul_ps [(ty_1, true), (.bool, false)] Tryz.f166.results.toList .ret, fun p => bif Nat.beq p 60 then some (.loop spec_dyMul_i60 spec_dyMul_o60 0 96 (spec_dyMul_f60 k k)) else bif Nat.beq p 124 then some (.loop spec_dyMul_i124 spec_dyMul_o124 2 96 (spec_dyMul_f124 k k)) else none, 0, []⟩
theorem spec_dyMul_eq (k : Nat) (x : PTe spec_dyMul_ps) : evFn (spec_dyMul_F k) (codeOf Tryz.f166) spec_dyMul_ps 32 x = spec_dyMul k x.1 x.2.1 := by kernel_rfl
theorem spec_dyMul_ls : loopsOf (codeOf Tryz.f166) 1 = [(60, loopB (codeOf Tryz.f166) 60), (124, loopB (codeOf Tryz.f166) 124)] := by kernel_rfl
theorem spec_dyMul_l60 (k : Nat) : LoopOk (spec_dyMul_F k) (loopB (codeOf Tryz.f166) 60) 60 := LoopOk.mk (pin := spec_dyMul_i60) (pout := spec_dyMul_o60) (ex := 0) (nx := 96) (Lf := spec_dyMul_f60 k) (k := k) (by kernel_rfl) (fun _ => rfl) (by intro n x; kernel_rfl)
theorem spec_dyMul_l124 (k : Nat) : LoopOk (spec_dyMul_F k) (loopB (codeOf Tryz.f166) 124) 124 := LoopOk.mk (pin := spec_dyMul_i124) (pout := spec_dyMul_o124) (ex := 2) (nx := 96) (Lf := spec_dyMul_f124 k) (k := k) (by kernel_rfl) (fun _ => rfl) (by intro n x; kernel_rfl)
theorem spec_dyMul_K (k : Nat) : Contract Tryz.prog 166 (spec_dyMul_V k) :=
  contract (C := spec_dyMul_C k) (F := spec_dyMul_F k) (fn := Tryz.f166) (c := codeOf Tryz.f166) (ps := spec_dyMul_ps) (rs := [(ty_1, true), (.bool, false)]) (nx := 32) ⟨tyOf_ok tys_ok, gOf_ok ⟨spec_l1Abs_K, spec_dyMake_K k, trivial⟩⟩ rfl (by kernel_rfl) (by kernel_rfl) (by kernel_rfl) (by kernel_rfl) (by kernel_rfl) (by kernel_rfl) rfl (by kernel_rfl) (by kernel_rfl) (AnnOk_list [(60, loopB (codeOf Tryz.f166) 60), (124, loopB (codeOf Tryz.f166) 124)] spec_dyMul_ls ⟨spec_dyMul_l60 k, spec_dyMul_l124 k, trivial⟩) mix_ok (spec_dyMul_eq k)

noncomputable def spec_ivEnds_V (k : Nat) : Variant := ⟨[.val ty_2 false], [(ty_4, true)], fun x => spec_ivEnds k x.1⟩
noncomputable def spec_ivEnds_C (k : Nat) : Cfg := ⟨Tryz.prog, tyOf tys, 35, gOf [(165, [], spec_dyCmp_V k)], false, [], []⟩
def spec_ivEnds_i58 : List PE := [⟨2, 16, .box ty_4 false, false⟩, ⟨3, 32, .box ty_4 false, false⟩, ⟨13, 48, .val ty_2 false, false⟩, ⟨14, 64, .val ty_0 false, false⟩, ⟨15, 80, .val ty_0 false, false⟩]
def spec_ivEnds_o58 : List PE := [⟨2, 16, .box ty_4 false, false⟩, ⟨3, 32, .box ty_4 false, false⟩]
noncomputable def spec_ivEnds_f58 (k : Nat) (n : Nat) (x5 : PTe spec_ivEnds_i58) : Option (((Int × Int) × Int × Int) ⊕ PTe spec_ivEnds_o58) := spec_ivEnds_L58 k n x5.1 x5.2.1 x5.2.2.1 x5.2.2.2.1 x5.2.2.2.2.1
def spec_ivEnds_ps : List PE := [⟨0, 0, .val ty_2 false, false⟩]
noncomputable def spec_ivEnds_F (k : Nat) : Fn ((Int × Int) × Int × Int) := ⟨spec_ivEnds_C k, rdRes Tryz.prog spec_ivEnds_ps [(ty_4, true)] Tryz.f168.results.toList .ret, fun p => bif Nat.beq p 7474 then some (.cut [⟨2, 16, .box ty_4 false, false⟩, ⟨3, 32, .box ty_4 false, false⟩, ⟨5, 48, .box ty_1 false, false⟩, ⟨13, 64, .val ty_2 false, false⟩, ⟨14, 80, .val ty_0 false, false⟩, ⟨15, 96, .val ty_0 false, false⟩] 112) else bif Nat.beq p 58 then some (.loop spec_ivEnds_i58 spec_ivEnds_o58 0 96 (spec_ivEnds_f58 k k)) else none, 0, []⟩
theorem spec_ivEnds_eq (k : Nat) (x : PTe spec_ivEnds_ps) : evFn (spec_ivEnds_F k) (codeOf Tryz.f168) spec_ivEnds_ps 16 x = spec_ivEnds k x.1 := by kernel_rfl
theorem spec_ivEnds_ls : loopsOf (codeOf Tryz.f168) 1 = [(58, loopB (codeOf Tryz.f168) 58)] := by kernel_rfl
theorem spec_ivEnds_l58 (k : Nat) : LoopOk (spec_ivEnds_F k) (loopB (codeOf Tryz.f168) 58) 58 := LoopOk.mk (pin := spec_ivEnds_i58) (pout := spec_ivEnds_o58) (ex := 0) (nx := 96) (Lf := spec_ivEnds_f58 k) (k := k) (by kernel_rfl) (fun _ => rfl) (by intro n x; kernel_rfl)
theorem spec_ivEnds_K (k : Nat) : Contract Tryz.prog 168 (spec_ivEnds_V k) :=
  contract (C := spec_ivEnds_C k) (F := spec_ivEnds_F k) (fn := Tryz.f168) (c := codeOf Tryz.f168) (ps := spec_ivEnds_ps) (rs := [(ty_4, true)]) (nx := 16) ⟨tyOf_ok tys_ok, gOf_ok ⟨spec_dyCmp_K k, trivial⟩⟩ rfl (by kernel_rfl) (by kernel_rfl) (by kernel_rfl) (by kernel_rfl) (by kernel_rfl) (by kernel_rfl) rfl (by kernel_rfl) (by kernel_rfl) (AnnOk_list [(58, loopB (codeOf Tryz.f168) 58)] spec_ivEnds_ls ⟨spec_ivEnds_l58 k, trivial⟩) mix_ok (spec_ivEnds_eq k)

noncomputable def spec_dyRound_V (k : Nat) : Variant := ⟨[.val ty_1 true, .val ty_0 false], [(ty_1, true)], fun x => spec_dyRound k x.1 x.2.1⟩
noncomputable def spec_dyRound_C (k : Nat) : Cfg := ⟨Tryz.prog, tyOf tys, 26, gOf [(143, [], spec_dyPower_V), (248, [], spec_dyDown_V), (185, [], spec_dyMake_V k)], false, [], []⟩
def spec_dyRound_ps : List PE := [⟨0, 0, .val ty_1 true, false⟩, ⟨1, 16, .val ty_0 false, false⟩]
noncomputable def spec_dyRound_F (k : Nat) : Fn (Int × Int) := ⟨spec_dyRound_C k, rdRes Tryz.prog spec_dyRound_ps [(ty_1, true)] Tryz.f227.results.toList .ret, fun p => none, 0, []⟩
theorem spec_dyRound_eq (k : Nat) (x : PTe spec_dyRound_ps) : evFn (spec_dyRound_F k) (codeOf Tryz.f227) spec_dyRound_ps 32 x = spec_dyRound k x.1 x.2.1 := by kernel_rfl
theorem spec_dyRound_K (k : Nat) : Contract Tryz.prog 227 (spec_dyRound_V k) :=
  contract (C := spec_dyRound_C k) (F := spec_dyRound_F k) (fn := Tryz.f227) (c := codeOf Tryz.f227) (ps := spec_dyRound_ps) (rs := [(ty_1, true)]) (nx := 32) ⟨tyOf_ok tys_ok, gOf_ok ⟨spec_dyPower_K, spec_dyDown_K, spec_dyMake_K k, trivial⟩⟩ rfl (by kernel_rfl) (by kernel_rfl) (by kernel_rfl) (by kernel_rfl) (by kernel_rfl) (by kernel_rfl) rfl (by kernel_rfl) (by kernel_rfl) (AnnOk_list [] (by kernel_rfl) trivial) mix_ok (spec_dyRound_eq k)

noncomputable def spec_dyMinus_V : Variant := ⟨[.val ty_1 true], [(ty_1, true)], fun x => spec_dyMinus x.1⟩
noncomputable def spec_dyMinus_C : Cfg := ⟨Tryz.prog, tyOf tys, 9, gOf [], false, [], []⟩
def spec_dyMinus_ps : List PE := [⟨0, 0, .val ty_1 true, false⟩]
noncomputable def spec_dyMinus_F : Fn (Int × Int) := ⟨spec_dyMinus_C, rdRes Tryz.prog spec_dyMinus_ps [(ty_1, true)] Tryz.f247.results.toList .ret, fun p => none, 0, []⟩
theorem spec_dyMinus_eq (x : PTe spec_dyMinus_ps) : evFn (spec_dyMinus_F) (codeOf Tryz.f247) spec_dyMinus_ps 16 x = spec_dyMinus x.1 := by kernel_rfl
theorem spec_dyMinus_K : Contract Tryz.prog 247 (spec_dyMinus_V) :=
  contract (C := spec_dyMinus_C) (F := spec_dyMinus_F) (fn := Tryz.f247) (c := codeOf Tryz.f247) (ps := spec_dyMinus_ps) (rs := [(ty_1, true)]) (nx := 16) ⟨tyOf_ok tys_ok, gOf_ok trivial⟩ rfl (by kernel_rfl) (by kernel_rfl) (by kernel_rfl) (by kernel_rfl) (by kernel_rfl) (by kernel_rfl) rfl (by kernel_rfl) (by kernel_rfl) (AnnOk_list [] (by kernel_rfl) trivial) mix_ok (spec_dyMinus_eq)

noncomputable def spec_ivUp_V (k : Nat) : Variant := ⟨[.val ty_1 true, .val ty_0 false], [(ty_1, true)], fun x => spec_ivUp k x.1 x.2.1⟩
noncomputable def spec_ivUp_C (k : Nat) : Cfg := ⟨Tryz.prog, tyOf tys, 10, gOf [(247, [], spec_dyMinus_V), (227, [], spec_dyRound_V k)], false, [], []⟩
def spec_ivUp_ps : List PE := [⟨0, 0, .val ty_1 true, false⟩, ⟨1, 16, .val ty_0 false, false⟩]
noncomputable def spec_ivUp_F (k : Nat) : Fn (Int × Int) := ⟨spec_ivUp_C k, rdRes Tryz.prog spec_ivUp_ps [(ty_1, true)] Tryz.f228.results.toList .ret, fun p => none, 0, []⟩
theorem spec_ivUp_eq (k : Nat) (x : PTe spec_ivUp_ps) : evFn (spec_ivUp_F k) (codeOf Tryz.f228) spec_ivUp_ps 32 x = spec_ivUp k x.1 x.2.1 := by kernel_rfl
theorem spec_ivUp_K (k : Nat) : Contract Tryz.prog 228 (spec_ivUp_V k) :=
  contract (C := spec_ivUp_C k) (F := spec_ivUp_F k) (fn := Tryz.f228) (c := codeOf Tryz.f228) (ps := spec_ivUp_ps) (rs := [(ty_1, true)]) (nx := 32) ⟨tyOf_ok tys_ok, gOf_ok ⟨spec_dyMinus_K, spec_dyRound_K k, trivial⟩⟩ rfl (by kernel_rfl) (by kernel_rfl) (by kernel_rfl) (by kernel_rfl) (by kernel_rfl) (by kernel_rfl) rfl (by kernel_rfl) (by kernel_rfl) (AnnOk_list [] (by kernel_rfl) trivial) mix_ok (spec_ivUp_eq k)

noncomputable def spec_ivRound_V (k : Nat) : Variant := ⟨[.val ty_4 true, .val ty_0 false], [(ty_4, true)], fun x => spec_ivRound k x.1 x.2.1⟩
noncomputable def spec_ivRound_C (k : Nat) : Cfg := ⟨Tryz.prog, tyOf tys, 14, gOf [(227, [], spec_dyRound_V k), (228, [], spec_ivUp_V k)], false, [], []⟩
def spec_ivRound_ps : List PE := [⟨0, 0, .val ty_4 true, false⟩, ⟨1, 16, .val ty_0 false, false⟩]
noncomputable def spec_ivRound_F (k : Nat) : Fn ((Int × Int) × Int × Int) := ⟨spec_ivRound_C k, rdRes Tryz.prog spec_ivRound_ps [(ty_4, true)] Tryz.f167.results.toList .ret, fun p => none, 0, []⟩
theorem spec_ivRound_eq (k : Nat) (x : PTe spec_ivRound_ps) : evFn (spec_ivRound_F k) (codeOf Tryz.f167) spec_ivRound_ps 32 x = spec_ivRound k x.1 x.2.1 := by kernel_rfl
theorem spec_ivRound_K (k : Nat) : Contract Tryz.prog 167 (spec_ivRound_V k) :=
  contract (C := spec_ivRound_C k) (F := spec_ivRound_F k) (fn := Tryz.f167) (c := codeOf Tryz.f167) (ps := spec_ivRound_ps) (rs := [(ty_4, true)]) (nx := 32) ⟨tyOf_ok tys_ok, gOf_ok ⟨spec_dyRound_K k, spec_ivUp_K k, trivial⟩⟩ rfl (by kernel_rfl) (by kernel_rfl) (by kernel_rfl) (by kernel_rfl) (by kernel_rfl) (by kernel_rfl) rfl (by kernel_rfl) (by kernel_rfl) (AnnOk_list [] (by kernel_rfl) trivial) mix_ok (spec_ivRound_eq k)

noncomputable def spec_ivMul_V (k : Nat) : Variant := ⟨[.val ty_4 true, .val ty_4 true], [(ty_4, true), (.bool, false)], fun x => spec_ivMul k x.1 x.2.1⟩
noncomputable def spec_ivMul_C (k : Nat) : Cfg := ⟨Tryz.prog, tyOf tys, 51, gOf [(166, [], spec_dyMul_V k), (168, [], spec_ivEnds_V k), (167, [], spec_ivRound_V k)], false, [], []⟩
def spec_ivMul_i14950 : List PE := [⟨3, 32, .box ty_4 false, false⟩, ⟨4, 48, .box ty_4 false, false⟩, ⟨6, 64, .eat ty_1, false⟩, ⟨8, 80, .box ty_1 false, false⟩, ⟨17, 96, .eat ty_1, false⟩, ⟨18, 112, .val ty_0 false, false⟩, ⟨19, 128, .val ty_0 false, false⟩, ⟨27, 144, .eat ty_1, false⟩, ⟨28, 160, .val ty_0 false, false⟩, ⟨29, 176, .val ty_0 false, false⟩]
def spec_ivMul_o14950 : List PE := [⟨3, 32, .box ty_4 false, false⟩, ⟨4, 48, .box ty_4 false, false⟩, ⟨6, 64, .eat ty_1, false⟩, ⟨17, 80, .eat ty_1, false⟩, ⟨18, 96, .val ty_0 false, false⟩, ⟨19, 112, .val ty_0 false, false⟩]
noncomputable def spec_ivMul_f14950 (k : Nat) (n : Nat) (x2 : PTe spec_ivMul_i14950) : Option ((((Int × Int) × Int × Int) × Bool) ⊕ PTe spec_ivMul_o14950) := spec_ivMul_L14950 k n x2.1 x2.2.1 x2.2.2.1 x2.2.2.2.1 x2.2.2.2.2.1 x2.2.2.2.2.2.1 x2.2.2.2.2.2.2.1 x2.2.2.2.2.2.2.2.1 x2.2.2.2.2.2.2.2.2.1 x2.2.2.2.2.2.2.2.2.2.1
def spec_ivMul_i58 : List PE := [⟨3, 32, .box ty_4 false, false⟩, ⟨4, 48, .box ty_4 false, false⟩, ⟨6, 64, .eat ty_1, false⟩, ⟨17, 80, .eat ty_1, false⟩, ⟨18, 96, .val ty_0 false, false⟩, ⟨19, 112, .val ty_0 false, false⟩]
def spec_ivMul_o58 : List PE := [⟨4, 32, .box ty_4 false, false⟩, ⟨6, 48, .eat ty_1, false⟩]
noncomputable def spec_ivMul_f58 (k : Nat) (n : Nat) (x5 : PTe spec_ivMul_i58) : Option ((((Int × Int) × Int × Int) × Bool) ⊕ PTe spec_ivMul_o58) := spec_ivMul_L58 k n x5.1 x5.2.1 x5.2.2.1 x5.2.2.2.1 x5.2.2.2.2.1 x5.2.2.2.2.2.1
def spec_ivMul_ps : List PE := [⟨0, 0, .val ty_4 true, false⟩, ⟨1, 16, .val ty_4 true, false⟩]
noncomputable def spec_ivMul_F (k : Nat) : Fn (((Int × Int) × Int × Int) × Bool) := ⟨spec_ivMul_C k, rdRes Tryz.prog spec_ivMul_ps [(ty_4, true), (.bool, false)] Tryz.f106.results.toList .ret, fun p => bif Nat.beq p 14950 then some (.loop spec_ivMul_i14950 spec_ivMul_o14950 2 192 (spec_ivMul_f14950 k k)) else bif Nat.beq p 58 then some (.loop spec_ivMul_i58 spec_ivMul_o58 0 128 (spec_ivMul_f58 k k)) else none, 0, []⟩
theorem spec_ivMul_eq (k : Nat) (x : PTe spec_ivMul_ps) : evFn (spec_ivMul_F k) (codeOf Tryz.f106) spec_ivMul_ps 32 x = spec_ivMul k x.1 x.2.1 := by kernel_rfl
theorem spec_ivMul_ls : loopsOf (codeOf Tryz.f106) 1 = [(58, loopB (codeOf Tryz.f106) 58), (14950, loopB (codeOf Tryz.f106) 14950)] := by kernel_rfl
theorem spec_ivMul_l14950 (k : Nat) : LoopOk (spec_ivMul_F k) (loopB (codeOf Tryz.f106) 14950) 14950 := LoopOk.mk (pin := spec_ivMul_i14950) (pout := spec_ivMul_o14950) (ex := 2) (nx := 192) (Lf := spec_ivMul_f14950 k) (k := k) (by kernel_rfl) (fun _ => rfl) (by intro n x; kernel_rfl)
theorem spec_ivMul_l58 (k : Nat) : LoopOk (spec_ivMul_F k) (loopB (codeOf Tryz.f106) 58) 58 := LoopOk.mk (pin := spec_ivMul_i58) (pout := spec_ivMul_o58) (ex := 0) (nx := 128) (Lf := spec_ivMul_f58 k) (k := k) (by kernel_rfl) (fun _ => rfl) (by intro n x; kernel_rfl)
theorem spec_ivMul_K (k : Nat) : Contract Tryz.prog 106 (spec_ivMul_V k) :=
  contract (C := spec_ivMul_C k) (F := spec_ivMul_F k) (fn := Tryz.f106) (c := codeOf Tryz.f106) (ps := spec_ivMul_ps) (rs := [(ty_4, true), (.bool, false)]) (nx := 32) ⟨tyOf_ok tys_ok, gOf_ok ⟨spec_dyMul_K k, spec_ivEnds_K k, spec_ivRound_K k, trivial⟩⟩ rfl (by kernel_rfl) (by kernel_rfl) (by kernel_rfl) (by kernel_rfl) (by kernel_rfl) (by kernel_rfl) rfl (by kernel_rfl) (by kernel_rfl) (AnnOk_list [(58, loopB (codeOf Tryz.f106) 58), (14950, loopB (codeOf Tryz.f106) 14950)] spec_ivMul_ls ⟨spec_ivMul_l58 k, spec_ivMul_l14950 k, trivial⟩) mix_ok (spec_ivMul_eq k)

noncomputable def spec_dyAdd_V (k : Nat) : Variant := ⟨[.val ty_1 true, .val ty_1 true], [(ty_1, true), (.bool, false)], fun x => spec_dyAdd k x.1 x.2.1⟩
noncomputable def spec_dyAdd_C (k : Nat) : Cfg := ⟨Tryz.prog, tyOf tys, 42, gOf [(183, [], spec_l1Most_V), (184, [], spec_dyAt_V k), (185, [], spec_dyMake_V k)], false, [], []⟩
def spec_dyAdd_ps : List PE := [⟨0, 0, .val ty_1 true, false⟩, ⟨1, 16, .val ty_1 true, false⟩]
noncomputable def spec_dyAdd_F (k : Nat) : Fn ((Int × Int) × Bool) := ⟨spec_dyAdd_C k, rdRes Tryz.prog spec_dyAdd_ps [(ty_1, true), (.bool, false)] Tryz.f169.results.toList .ret, fun p => none, 0, []⟩
theorem spec_dyAdd_eq (k : Nat) (x : PTe spec_dyAdd_ps) : evFn (spec_dyAdd_F k) (codeOf Tryz.f169) spec_dyAdd_ps 32 x = spec_dyAdd k x.1 x.2.1 := by kernel_rfl
theorem spec_dyAdd_K (k : Nat) : Contract Tryz.prog 169 (spec_dyAdd_V k) :=
  contract (C := spec_dyAdd_C k) (F := spec_dyAdd_F k) (fn := Tryz.f169) (c := codeOf Tryz.f169) (ps := spec_dyAdd_ps) (rs := [(ty_1, true), (.bool, false)]) (nx := 32) ⟨tyOf_ok tys_ok, gOf_ok ⟨spec_l1Most_K, spec_dyAt_K k, spec_dyMake_K k, trivial⟩⟩ rfl (by kernel_rfl) (by kernel_rfl) (by kernel_rfl) (by kernel_rfl) (by kernel_rfl) (by kernel_rfl) rfl (by kernel_rfl) (by kernel_rfl) (AnnOk_list [] (by kernel_rfl) trivial) mix_ok (spec_dyAdd_eq k)

noncomputable def spec_ivBoth_V : Variant := ⟨[.val ty_1 true, .val .bool false, .val ty_1 true, .val .bool false], [(ty_4, true), (.bool, false)], fun x => spec_ivBoth x.1 x.2.1 x.2.2.1 x.2.2.2.1⟩
noncomputable def spec_ivBoth_C : Cfg := ⟨Tryz.prog, tyOf tys, 20, gOf [], false, [], []⟩
def spec_ivBoth_ps : List PE := [⟨0, 0, .val ty_1 true, false⟩, ⟨1, 16, .val .bool false, false⟩, ⟨2, 32, .val ty_1 true, false⟩, ⟨3, 48, .val .bool false, false⟩]
noncomputable def spec_ivBoth_F : Fn (((Int × Int) × Int × Int) × Bool) := ⟨spec_ivBoth_C, rdRes Tryz.prog spec_ivBoth_ps [(ty_4, true), (.bool, false)] Tryz.f170.results.toList .ret, fun p => none, 0, []⟩
theorem spec_ivBoth_eq (x : PTe spec_ivBoth_ps) : evFn (spec_ivBoth_F) (codeOf Tryz.f170) spec_ivBoth_ps 64 x = spec_ivBoth x.1 x.2.1 x.2.2.1 x.2.2.2.1 := by kernel_rfl
theorem spec_ivBoth_K : Contract Tryz.prog 170 (spec_ivBoth_V) :=
  contract (C := spec_ivBoth_C) (F := spec_ivBoth_F) (fn := Tryz.f170) (c := codeOf Tryz.f170) (ps := spec_ivBoth_ps) (rs := [(ty_4, true), (.bool, false)]) (nx := 64) ⟨tyOf_ok tys_ok, gOf_ok trivial⟩ rfl (by kernel_rfl) (by kernel_rfl) (by kernel_rfl) (by kernel_rfl) (by kernel_rfl) (by kernel_rfl) rfl (by kernel_rfl) (by kernel_rfl) (AnnOk_list [] (by kernel_rfl) trivial) mix_ok (spec_ivBoth_eq)

noncomputable def spec_ivAdd_V (k : Nat) : Variant := ⟨[.val ty_4 true, .val ty_4 true], [(ty_4, true), (.bool, false)], fun x => spec_ivAdd k x.1 x.2.1⟩
noncomputable def spec_ivAdd_C (k : Nat) : Cfg := ⟨Tryz.prog, tyOf tys, 33, gOf [(169, [], spec_dyAdd_V k), (170, [], spec_ivBoth_V)], false, [], []⟩
def spec_ivAdd_ps : List PE := [⟨0, 0, .val ty_4 true, false⟩, ⟨1, 16, .val ty_4 true, false⟩]
noncomputable def spec_ivAdd_F (k : Nat) : Fn (((Int × Int) × Int × Int) × Bool) := ⟨spec_ivAdd_C k, rdRes Tryz.prog spec_ivAdd_ps [(ty_4, true), (.bool, false)] Tryz.f107.results.toList .ret, fun p => none, 0, []⟩
theorem spec_ivAdd_eq (k : Nat) (x : PTe spec_ivAdd_ps) : evFn (spec_ivAdd_F k) (codeOf Tryz.f107) spec_ivAdd_ps 32 x = spec_ivAdd k x.1 x.2.1 := by kernel_rfl
theorem spec_ivAdd_K (k : Nat) : Contract Tryz.prog 107 (spec_ivAdd_V k) :=
  contract (C := spec_ivAdd_C k) (F := spec_ivAdd_F k) (fn := Tryz.f107) (c := codeOf Tryz.f107) (ps := spec_ivAdd_ps) (rs := [(ty_4, true), (.bool, false)]) (nx := 32) ⟨tyOf_ok tys_ok, gOf_ok ⟨spec_dyAdd_K k, spec_ivBoth_K, trivial⟩⟩ rfl (by kernel_rfl) (by kernel_rfl) (by kernel_rfl) (by kernel_rfl) (by kernel_rfl) (by kernel_rfl) rfl (by kernel_rfl) (by kernel_rfl) (AnnOk_list [] (by kernel_rfl) trivial) mix_ok (spec_ivAdd_eq k)

noncomputable def spec_mxTimesIn_V (k : Nat) : Variant := ⟨[.val ty_3 false, .val ty_6 false], [(ty_6, false), (.bool, false)], fun x => spec_mxTimesIn k x.1 x.2.1⟩
noncomputable def spec_mxTimesIn_C (k : Nat) : Cfg := ⟨Tryz.prog, tyOf tys, 74, gOf [(106, [], spec_ivMul_V k), (107, [], spec_ivAdd_V k)], false, [], []⟩
def spec_mxTimesIn_i61237658 : List PE := [⟨1, 32, .val ty_6 false, false⟩, ⟨6, 48, .eat ty_5, false⟩, ⟨8, 64, .val ty_2 false, false⟩, ⟨9, 80, .eat ty_4, false⟩, ⟨10, 96, .val ty_0 false, false⟩, ⟨11, 112, .box ty_4 false, false⟩, ⟨18, 128, .val ty_3 false, false⟩, ⟨19, 144, .val ty_0 false, false⟩, ⟨20, 160, .val ty_0 false, false⟩, ⟨25, 176, .val ty_0 false, false⟩, ⟨26, 192, .val ty_0 false, false⟩, ⟨30, 208, .val ty_2 false, false⟩, ⟨31, 224, .val ty_0 false, false⟩, ⟨32, 240, .val ty_0 false, false⟩]
def spec_mxTimesIn_o61237658 : List PE := [⟨1, 32, .val ty_6 false, false⟩, ⟨6, 48, .eat ty_5, false⟩, ⟨8, 64, .val ty_2 false, false⟩, ⟨9, 80, .eat ty_4, false⟩, ⟨11, 96, .box ty_4 false, false⟩, ⟨18, 112, .val ty_3 false, false⟩, ⟨19, 128, .val ty_0 false, false⟩, ⟨20, 144, .val ty_0 false, false⟩, ⟨25, 160, .val ty_0 false, false⟩, ⟨26, 176, .val ty_0 false, false⟩]
noncomputable def spec_mxTimesIn_f61237658 (k : Nat) (n : Nat) (x3 : PTe spec_mxTimesIn_i61237658) : Option (((List (List ((Int × Int) × Int × Int))) × Bool) ⊕ PTe spec_mxTimesIn_o61237658) := spec_mxTimesIn_L61237658 k n x3.1 x3.2.1 x3.2.2.1 x3.2.2.2.1 x3.2.2.2.2.1 x3.2.2.2.2.2.1 x3.2.2.2.2.2.2.1 x3.2.2.2.2.2.2.2.1 x3.2.2.2.2.2.2.2.2.1 x3.2.2.2.2.2.2.2.2.2.1 x3.2.2.2.2.2.2.2.2.2.2.1 x3.2.2.2.2.2.2.2.2.2.2.2.1 x3.2.2.2.2.2.2.2.2.2.2.2.2.1 x3.2.2.2.2.2.2.2.2.2.2.2.2.2.1
def spec_mxTimesIn_i59802 : List PE := [⟨1, 32, .val ty_6 false, false⟩, ⟨6, 48, .eat ty_5, false⟩, ⟨8, 64, .val ty_2 false, false⟩, ⟨9, 80, .eat ty_4, false⟩, ⟨18, 96, .val ty_3 false, false⟩, ⟨19, 112, .val ty_0 false, false⟩, ⟨20, 128, .val ty_0 false, false⟩, ⟨25, 144, .val ty_0 false, false⟩, ⟨26, 160, .val ty_0 false, false⟩]
def spec_mxTimesIn_o59802 : List PE := [⟨1, 32, .val ty_6 false, false⟩, ⟨6, 48, .eat ty_5, false⟩, ⟨9, 64, .eat ty_4, false⟩, ⟨18, 80, .val ty_3 false, false⟩, ⟨19, 96, .val ty_0 false, false⟩, ⟨20, 112, .val ty_0 false, false⟩]
noncomputable def spec_mxTimesIn_f59802 (k : Nat) (n : Nat) (x6 : PTe spec_mxTimesIn_i59802) : Option (((List (List ((Int × Int) × Int × Int))) × Bool) ⊕ PTe spec_mxTimesIn_o59802) := spec_mxTimesIn_L59802 k n x6.1 x6.2.1 x6.2.2.1 x6.2.2.2.1 x6.2.2.2.2.1 x6.2.2.2.2.2.1 x6.2.2.2.2.2.2.1 x6.2.2.2.2.2.2.2.1 x6.2.2.2.2.2.2.2.2.1
def spec_mxTimesIn_i58 : List PE := [⟨1, 32, .val ty_6 false, false⟩, ⟨6, 48, .eat ty_5, false⟩, ⟨18, 64, .val ty_3 false, false⟩, ⟨19, 80, .val ty_0 false, false⟩, ⟨20, 96, .val ty_0 false, false⟩]
def spec_mxTimesIn_o58 : List PE := [⟨6, 32, .eat ty_5, false⟩]
noncomputable def spec_mxTimesIn_f58 (k : Nat) (n : Nat) (x9 : PTe spec_mxTimesIn_i58) : Option (((List (List ((Int × Int) × Int × Int))) × Bool) ⊕ PTe spec_mxTimesIn_o58) := spec_mxTimesIn_L58 k n x9.1 x9.2.1 x9.2.2.1 x9.2.2.2.1 x9.2.2.2.2.1
def spec_mxTimesIn_ps : List PE := [⟨0, 0, .val ty_3 false, false⟩, ⟨1, 16, .val ty_6 false, false⟩]
noncomputable def spec_mxTimesIn_F (k : Nat) : Fn ((List (List ((Int × Int) × Int × Int))) × Bool) := ⟨spec_mxTimesIn_C k, rdRes Tryz.prog spec_mxTimesIn_ps [(ty_6, false), (.bool, false)] Tryz.f61.results.toList .ret, fun p => bif Nat.beq p 61237658 then some (.loop spec_mxTimesIn_i61237658 spec_mxTimesIn_o61237658 4 256 (spec_mxTimesIn_f61237658 k k)) else bif Nat.beq p 59802 then some (.loop spec_mxTimesIn_i59802 spec_mxTimesIn_o59802 2 176 (spec_mxTimesIn_f59802 k k)) else bif Nat.beq p 58 then some (.loop spec_mxTimesIn_i58 spec_mxTimesIn_o58 0 112 (spec_mxTimesIn_f58 k k)) else none, 0, []⟩
theorem spec_mxTimesIn_eq (k : Nat) (x : PTe spec_mxTimesIn_ps) : evFn (spec_mxTimesIn_F k) (codeOf Tryz.f61) spec_mxTimesIn_ps 32 x = spec_mxTimesIn k x.1 x.2.1 := by kernel_rfl
theorem spec_mxTimesIn_ls : loopsOf (codeOf Tryz.f61) 1 = [(58, loopB (codeOf Tryz.f61) 58), (59802, loopB (codeOf Tryz.f61) 59802), (61237658, loopB (codeOf Tryz.f61) 61237658)] := by kernel_rfl
theorem spec_mxTimesIn_l61237658 (k : Nat) : LoopOk (spec_mxTimesIn_F k) (loopB (codeOf Tryz.f61) 61237658) 61237658 := LoopOk.mk (pin := spec_mxTimesIn_i61237658) (pout := spec_mxTimesIn_o61237658) (ex := 4) (nx := 256) (Lf := spec_mxTimesIn_f61237658 k) (k := k) (by kernel_rfl) (fun _ => rfl) (by intro n x; kernel_rfl)
theorem spec_mxTimesIn_l59802 (k : Nat) : LoopOk (spec_mxTimesIn_F k) (loopB (codeOf Tryz.f61) 59802) 59802 := LoopOk.mk (pin := spec_mxTimesIn_i59802) (pout := spec_mxTimesIn_o59802) (ex := 2) (nx := 176) (Lf := spec_mxTimesIn_f59802 k) (k := k) (by kernel_rfl) (fun _ => rfl) (by intro n x; kernel_rfl)
theorem spec_mxTimesIn_l58 (k : Nat) : LoopOk (spec_mxTimesIn_F k) (loopB (codeOf Tryz.f61) 58) 58 := LoopOk.mk (pin := spec_mxTimesIn_i58) (pout := spec_mxTimesIn_o58) (ex := 0) (nx := 112) (Lf := spec_mxTimesIn_f58 k) (k := k) (by kernel_rfl) (fun _ => rfl) (by intro n x; kernel_rfl)
theorem spec_mxTimesIn_K (k : Nat) : Contract Tryz.prog 61 (spec_mxTimesIn_V k) :=
  contract (C := spec_mxTimesIn_C k) (F := spec_mxTimesIn_F k) (fn := Tryz.f61) (c := codeOf Tryz.f61) (ps := spec_mxTimesIn_ps) (rs := [(ty_6, false), (.bool, false)]) (nx := 32) ⟨tyOf_ok tys_ok, gOf_ok ⟨spec_ivMul_K k, spec_ivAdd_K k, trivial⟩⟩ rfl (by kernel_rfl) (by kernel_rfl) (by kernel_rfl) (by kernel_rfl) (by kernel_rfl) (by kernel_rfl) rfl (by kernel_rfl) (by kernel_rfl) (AnnOk_list [(58, loopB (codeOf Tryz.f61) 58), (59802, loopB (codeOf Tryz.f61) 59802), (61237658, loopB (codeOf Tryz.f61) 61237658)] spec_mxTimesIn_ls ⟨spec_mxTimesIn_l58 k, spec_mxTimesIn_l59802 k, spec_mxTimesIn_l61237658 k, trivial⟩) mix_ok (spec_mxTimesIn_eq k)

noncomputable def spec_TimesIntervals_V (k : Nat) : Variant := ⟨[.val ty_3 false, .val ty_6 false], [(ty_6, false), (.bool, false)], fun x => spec_TimesIntervals k x.1 x.2.1⟩
noncomputable def spec_TimesIntervals_C (k : Nat) : Cfg := ⟨Tryz.prog, tyOf tys, 26, gOf [(59, [], spec_mxGood_V k), (60, [], spec_mxFits_V k), (61, [], spec_mxTimesIn_V k)], false, [], []⟩
def spec_TimesIntervals_ps : List PE := [⟨0, 0, .val ty_3 false, false⟩, ⟨1, 16, .val ty_6 false, false⟩]
noncomputable def spec_TimesIntervals_F (k : Nat) : Fn ((List (List ((Int × Int) × Int × Int))) × Bool) := ⟨spec_TimesIntervals_C k, rdRes Tryz.prog spec_TimesIntervals_ps [(ty_6, false), (.bool, false)] Tryz.f19.results.toList .ret, fun p => none, 0, []⟩
theorem spec_TimesIntervals_eq (k : Nat) (x : PTe spec_TimesIntervals_ps) : evFn (spec_TimesIntervals_F k) (codeOf Tryz.f19) spec_TimesIntervals_ps 32 x = spec_TimesIntervals k x.1 x.2.1 := by kernel_rfl
theorem spec_TimesIntervals_K (k : Nat) : Contract Tryz.prog 19 (spec_TimesIntervals_V k) :=
  contract (C := spec_TimesIntervals_C k) (F := spec_TimesIntervals_F k) (fn := Tryz.f19) (c := codeOf Tryz.f19) (ps := spec_TimesIntervals_ps) (rs := [(ty_6, false), (.bool, false)]) (nx := 32) ⟨tyOf_ok tys_ok, gOf_ok ⟨spec_mxGood_K k, spec_mxFits_K k, spec_mxTimesIn_K k, trivial⟩⟩ rfl (by kernel_rfl) (by kernel_rfl) (by kernel_rfl) (by kernel_rfl) (by kernel_rfl) (by kernel_rfl) rfl (by kernel_rfl) (by kernel_rfl) (AnnOk_list [] (by kernel_rfl) trivial) mix_ok (spec_TimesIntervals_eq k)

noncomputable def impl_inside_V : Variant := ⟨[.val ty_0 false, .val ty_0 false, .val ty_0 false], [(.bool, false)], fun x => impl_inside x.1 x.2.1 x.2.2.1⟩
noncomputable def impl_inside_C : Cfg := ⟨Tryz.prog, tyOf tys, 15, gOf [], false, [], []⟩
def impl_inside_ps : List PE := [⟨0, 0, .val ty_0 false, false⟩, ⟨1, 16, .val ty_0 false, false⟩, ⟨2, 32, .val ty_0 false, false⟩]
noncomputable def impl_inside_F : Fn (Bool) := ⟨impl_inside_C, rdRes Tryz.prog impl_inside_ps [(.bool, false)] Tryz.f86.results.toList .ret, fun p => none, 0, []⟩
theorem impl_inside_eq (x : PTe impl_inside_ps) : evFn (impl_inside_F) (codeOf Tryz.f86) impl_inside_ps 48 x = impl_inside x.1 x.2.1 x.2.2.1 := by kernel_rfl
theorem impl_inside_K : Contract Tryz.prog 86 (impl_inside_V) :=
  contract (C := impl_inside_C) (F := impl_inside_F) (fn := Tryz.f86) (c := codeOf Tryz.f86) (ps := impl_inside_ps) (rs := [(.bool, false)]) (nx := 48) ⟨tyOf_ok tys_ok, gOf_ok trivial⟩ rfl (by kernel_rfl) (by kernel_rfl) (by kernel_rfl) (by kernel_rfl) (by kernel_rfl) (by kernel_rfl) rfl (by kernel_rfl) (by kernel_rfl) (AnnOk_list [] (by kernel_rfl) trivial) mix_ok (impl_inside_eq)

noncomputable def impl_isPlaces_V : Variant := ⟨[.val ty_0 false], [(.bool, false)], fun x => impl_isPlaces x.1⟩
noncomputable def impl_isPlaces_C : Cfg := ⟨Tryz.prog, tyOf tys, 5, gOf [(86, [], impl_inside_V)], false, [], []⟩
def impl_isPlaces_ps : List PE := [⟨0, 0, .val ty_0 false, false⟩]
noncomputable def impl_isPlaces_F : Fn (Bool) := ⟨impl_isPlaces_C, rdRes Tryz.prog impl_isPlaces_ps [(.bool, false)] Tryz.f172.results.toList .ret, fun p => none, 0, []⟩
theorem impl_isPlaces_eq (x : PTe impl_isPlaces_ps) : evFn (impl_isPlaces_F) (codeOf Tryz.f172) impl_isPlaces_ps 16 x = impl_isPlaces x.1 := by kernel_rfl
theorem impl_isPlaces_K : Contract Tryz.prog 172 (impl_isPlaces_V) :=
  contract (C := impl_isPlaces_C) (F := impl_isPlaces_F) (fn := Tryz.f172) (c := codeOf Tryz.f172) (ps := impl_isPlaces_ps) (rs := [(.bool, false)]) (nx := 16) ⟨tyOf_ok tys_ok, gOf_ok ⟨impl_inside_K, trivial⟩⟩ rfl (by kernel_rfl) (by kernel_rfl) (by kernel_rfl) (by kernel_rfl) (by kernel_rfl) (by kernel_rfl) rfl (by kernel_rfl) (by kernel_rfl) (AnnOk_list [] (by kernel_rfl) trivial) mix_ok (impl_isPlaces_eq)

noncomputable def impl_isDyadic_V : Variant := ⟨[.val ty_1 true], [(.bool, false)], fun x => impl_isDyadic x.1⟩
noncomputable def impl_isDyadic_C : Cfg := ⟨Tryz.prog, tyOf tys, 22, gOf [(172, [], impl_isPlaces_V), (86, [], impl_inside_V)], false, [], []⟩
def impl_isDyadic_ps : List PE := [⟨0, 0, .val ty_1 true, false⟩]
noncomputable def impl_isDyadic_F : Fn (Bool) := ⟨impl_isDyadic_C, rdRes Tryz.prog impl_isDyadic_ps [(.bool, false)] Tryz.f112.results.toList .ret, fun p => none, 0, []⟩
theorem impl_isDyadic_eq (x : PTe impl_isDyadic_ps) : evFn (impl_isDyadic_F) (codeOf Tryz.f112) impl_isDyadic_ps 16 x = impl_isDyadic x.1 := by kernel_rfl
theorem impl_isDyadic_K : Contract Tryz.prog 112 (impl_isDyadic_V) :=
  contract (C := impl_isDyadic_C) (F := impl_isDyadic_F) (fn := Tryz.f112) (c := codeOf Tryz.f112) (ps := impl_isDyadic_ps) (rs := [(.bool, false)]) (nx := 16) ⟨tyOf_ok tys_ok, gOf_ok ⟨impl_isPlaces_K, impl_inside_K, trivial⟩⟩ rfl (by kernel_rfl) (by kernel_rfl) (by kernel_rfl) (by kernel_rfl) (by kernel_rfl) (by kernel_rfl) rfl (by kernel_rfl) (by kernel_rfl) (AnnOk_list [] (by kernel_rfl) trivial) mix_ok (impl_isDyadic_eq)

noncomputable def impl_isTable_1_V : Variant := ⟨[.val ty_1 true], [(.bool, false)], fun x => impl_isTable_1 x.1⟩
noncomputable def impl_isTable_1_C : Cfg := ⟨Tryz.prog, tyOf tys, 6, gOf [(112, [], impl_isDyadic_V)], false, [], []⟩
def impl_isTable_1_ps : List PE := [⟨0, 0, .val ty_1 true, false⟩]
noncomputable def impl_isTable_1_F : Fn (Bool) := ⟨impl_isTable_1_C, rdRes Tryz.prog impl_isTable_1_ps [(.bool, false)] Tryz.f111.results.toList .ret, fun p => none, 0, []⟩
theorem impl_isTable_1_eq (x : PTe impl_isTable_1_ps) : evFn (impl_isTable_1_F) (codeOf Tryz.f111) impl_isTable_1_ps 16 x = impl_isTable_1 x.1 := by kernel_rfl
theorem impl_isTable_1_K : Contract Tryz.prog 111 (impl_isTable_1_V) :=
  contract (C := impl_isTable_1_C) (F := impl_isTable_1_F) (fn := Tryz.f111) (c := codeOf Tryz.f111) (ps := impl_isTable_1_ps) (rs := [(.bool, false)]) (nx := 16) ⟨tyOf_ok tys_ok, gOf_ok ⟨impl_isDyadic_K, trivial⟩⟩ rfl (by kernel_rfl) (by kernel_rfl) (by kernel_rfl) (by kernel_rfl) (by kernel_rfl) (by kernel_rfl) rfl (by kernel_rfl) (by kernel_rfl) (AnnOk_list [] (by kernel_rfl) trivial) mix_ok (impl_isTable_1_eq)

noncomputable def slices_IndexFunc_Dyadic_Dyadic_impl_isTable_1_V (k : Nat) : Variant := ⟨[.val ty_2 false, .fn 111 []], [(ty_0, false)], fun x => slices_IndexFunc_Dyadic_Dyadic_impl_isTable_1 k x.1 x.2.1⟩
noncomputable def slices_IndexFunc_Dyadic_Dyadic_impl_isTable_1_C (k : Nat) : Cfg := ⟨Tryz.prog, tyOf tys, 19, gOf [(111, [], impl_isTable_1_V)], false, [], []⟩
def slices_IndexFunc_Dyadic_Dyadic_impl_isTable_1_i26 : List PE := [⟨0, 32, .val ty_2 false, false⟩, ⟨1, 48, .fn 111 [], false⟩, ⟨7, 64, .val ty_0 false, false⟩, ⟨8, 80, .val ty_0 false, false⟩]
def slices_IndexFunc_Dyadic_Dyadic_impl_isTable_1_o26 : List PE := []
noncomputable def slices_IndexFunc_Dyadic_Dyadic_impl_isTable_1_f26 (k : Nat) (n : Nat) (x2 : PTe slices_IndexFunc_Dyadic_Dyadic_impl_isTable_1_i26) : Option ((Int) ⊕ PTe slices_IndexFunc_Dyadic_Dyadic_impl_isTable_1_o26) := slices_IndexFunc_Dyadic_Dyadic_impl_isTable_1_L26 k n x2.1 x2.2.1 x2.2.2.1 x2.2.2.2.1
def slices_IndexFunc_Dyadic_Dyadic_impl_isTable_1_ps : List PE := [⟨0, 0, .val ty_2 false, false⟩, ⟨1, 16, .fn 111 [], false⟩]
noncomputable def slices_IndexFunc_Dyadic_Dyadic_impl_isTable_1_F (k : Nat) : Fn (Int) := ⟨slices_IndexFunc_Dyadic_Dyadic_impl_isTable_1_C k, rdRes Tryz.prog slices_IndexFunc_Dyadic_Dyadic_impl_isTable_1_ps [(ty_0, false)] Tryz.f171.results.toList .ret, fun p => bif Nat.beq p 26 then some (.loop slices_IndexFunc_Dyadic_Dyadic_impl_isTable_1_i26 slices_IndexFunc_Dyadic_Dyadic_impl_isTable_1_o26 0 96 (slices_IndexFunc_Dyadic_Dyadic_impl_isTable_1_f26 k k)) else none, 0, []⟩
theorem slices_IndexFunc_Dyadic_Dyadic_impl_isTable_1_eq (k : Nat) (x : PTe slices_IndexFunc_Dyadic_Dyadic_impl_isTable_1_ps) : evFn (slices_IndexFunc_Dyadic_Dyadic_impl_isTable_1_F k) (codeOf Tryz.f171) slices_IndexFunc_Dyadic_Dyadic_impl_isTable_1_ps 32 x = slices_IndexFunc_Dyadic_Dyadic_impl_isTable_1 k x.1 x.2.1 := by kernel_rfl
theorem slices_IndexFunc_Dyadic_Dyadic_impl_isTable_1_ls : loopsOf (codeOf Tryz.f171) 1 = [(26, loopB (codeOf Tryz.f171) 26)] := by kernel_rfl
theorem slices_IndexFunc_Dyadic_Dyadic_impl_isTable_1_l26 (k : Nat) : LoopOk (slices_IndexFunc_Dyadic_Dyadic_impl_isTable_1_F k) (loopB (codeOf Tryz.f171) 26) 26 := LoopOk.mk (pin := slices_IndexFunc_Dyadic_Dyadic_impl_isTable_1_i26) (pout := slices_IndexFunc_Dyadic_Dyadic_impl_isTable_1_o26) (ex := 0) (nx := 96) (Lf := slices_IndexFunc_Dyadic_Dyadic_impl_isTable_1_f26 k) (k := k) (by kernel_rfl) (fun _ => rfl) (by intro n x; kernel_rfl)
theorem slices_IndexFunc_Dyadic_Dyadic_impl_isTable_1_K (k : Nat) : Contract Tryz.prog 171 (slices_IndexFunc_Dyadic_Dyadic_impl_isTable_1_V k) :=
  contract (C := slices_IndexFunc_Dyadic_Dyadic_impl_isTable_1_C k) (F := slices_IndexFunc_Dyadic_Dyadic_impl_isTable_1_F k) (fn := Tryz.f171) (c := codeOf Tryz.f171) (ps := slices_IndexFunc_Dyadic_Dyadic_impl_isTable_1_ps) (rs := [(ty_0, false)]) (nx := 32) ⟨tyOf_ok tys_ok, gOf_ok ⟨impl_isTable_1_K, trivial⟩⟩ rfl (by kernel_rfl) (by kernel_rfl) (by kernel_rfl) (by kernel_rfl) (by kernel_rfl) (by kernel_rfl) rfl (by kernel_rfl) (by kernel_rfl) (AnnOk_list [(26, loopB (codeOf Tryz.f171) 26)] slices_IndexFunc_Dyadic_Dyadic_impl_isTable_1_ls ⟨slices_IndexFunc_Dyadic_Dyadic_impl_isTable_1_l26 k, trivial⟩) mix_ok (slices_IndexFunc_Dyadic_Dyadic_impl_isTable_1_eq k)

noncomputable def slices_ContainsFunc_Dyadic_Dyadic_impl_isTable_1_V (k : Nat) : Variant := ⟨[.val ty_2 false, .fn 111 []], [(.bool, false)], fun x => slices_ContainsFunc_Dyadic_Dyadic_impl_isTable_1 k x.1 x.2.1⟩
noncomputable def slices_ContainsFunc_Dyadic_Dyadic_impl_isTable_1_C (k : Nat) : Cfg := ⟨Tryz.prog, tyOf tys, 9, gOf [(171, [111], slices_IndexFunc_Dyadic_Dyadic_impl_isTable_1_V k)], false, [], []⟩
def slices_ContainsFunc_Dyadic_Dyadic_impl_isTable_1_ps : List PE := [⟨0, 0, .val ty_2 false, false⟩, ⟨1, 16, .fn 111 [], false⟩]
noncomputable def slices_ContainsFunc_Dyadic_Dyadic_impl_isTable_1_F (k : Nat) : Fn (Bool) := ⟨slices_ContainsFunc_Dyadic_Dyadic_impl_isTable_1_C k, rdRes Tryz.prog slices_ContainsFunc_Dyadic_Dyadic_impl_isTable_1_ps [(.bool, false)] Tryz.f110.results.toList .ret, fun p => none, 0, []⟩
theorem slices_ContainsFunc_Dyadic_Dyadic_impl_isTable_1_eq (k : Nat) (x : PTe slices_ContainsFunc_Dyadic_Dyadic_impl_isTable_1_ps) : evFn (slices_ContainsFunc_Dyadic_Dyadic_impl_isTable_1_F k) (codeOf Tryz.f110) slices_ContainsFunc_Dyadic_Dyadic_impl_isTable_1_ps 32 x = slices_ContainsFunc_Dyadic_Dyadic_impl_isTable_1 k x.1 x.2.1 := by kernel_rfl
theorem slices_ContainsFunc_Dyadic_Dyadic_impl_isTable_1_K (k : Nat) : Contract Tryz.prog 110 (slices_ContainsFunc_Dyadic_Dyadic_impl_isTable_1_V k) :=
  contract (C := slices_ContainsFunc_Dyadic_Dyadic_impl_isTable_1_C k) (F := slices_ContainsFunc_Dyadic_Dyadic_impl_isTable_1_F k) (fn := Tryz.f110) (c := codeOf Tryz.f110) (ps := slices_ContainsFunc_Dyadic_Dyadic_impl_isTable_1_ps) (rs := [(.bool, false)]) (nx := 32) ⟨tyOf_ok tys_ok, gOf_ok ⟨slices_IndexFunc_Dyadic_Dyadic_impl_isTable_1_K k, trivial⟩⟩ rfl (by kernel_rfl) (by kernel_rfl) (by kernel_rfl) (by kernel_rfl) (by kernel_rfl) (by kernel_rfl) rfl (by kernel_rfl) (by kernel_rfl) (AnnOk_list [] (by kernel_rfl) trivial) mix_ok (slices_ContainsFunc_Dyadic_Dyadic_impl_isTable_1_eq k)

noncomputable def impl_isTable_V (k : Nat) : Variant := ⟨[.val ty_3 false], [(.bool, false)], fun x => impl_isTable k x.1⟩
noncomputable def impl_isTable_C (k : Nat) : Cfg := ⟨Tryz.prog, tyOf tys, 24, gOf [(110, [111], slices_ContainsFunc_Dyadic_Dyadic_impl_isTable_1_V k), (86, [], impl_inside_V)], false, [], []⟩
def impl_isTable_i26 : List PE := [⟨0, 16, .val ty_3 false, false⟩, ⟨5, 32, .val ty_3 false, false⟩, ⟨6, 48, .val ty_0 false, false⟩, ⟨7, 64, .val ty_0 false, false⟩]
def impl_isTable_o26 : List PE := [⟨0, 16, .val ty_3 false, false⟩]
noncomputable def impl_isTable_f26 (k : Nat) (n : Nat) (x2 : PTe impl_isTable_i26) : Option ((Bool) ⊕ PTe impl_isTable_o26) := impl_isTable_L26 k n x2.1 x2.2.1 x2.2.2.1 x2.2.2.2.1
def impl_isTable_ps : List PE := [⟨0, 0, .val ty_3 false, false⟩]
noncomputable def impl_isTable_F (k : Nat) : Fn (Bool) := ⟨impl_isTable_C k, rdRes Tryz.prog impl_isTable_ps [(.bool, false)] Tryz.f66.results.toList .ret, fun p => bif Nat.beq p 26 then some (.loop impl_isTable_i26 impl_isTable_o26 0 80 (impl_isTable_f26 k k)) else none, 0, []⟩
theorem impl_isTable_eq (k : Nat) (x : PTe impl_isTable_ps) : evFn (impl_isTable_F k) (codeOf Tryz.f66) impl_isTable_ps 16 x = impl_isTable k x.1 := by kernel_rfl
theorem impl_isTable_ls : loopsOf (codeOf Tryz.f66) 1 = [(26, loopB (codeOf Tryz.f66) 26)] := by kernel_rfl
theorem impl_isTable_l26 (k : Nat) : LoopOk (impl_isTable_F k) (loopB (codeOf Tryz.f66) 26) 26 := LoopOk.mk (pin := impl_isTable_i26) (pout := impl_isTable_o26) (ex := 0) (nx := 80) (Lf := impl_isTable_f26 k) (k := k) (by kernel_rfl) (fun _ => rfl) (by intro n x; kernel_rfl)
theorem impl_isTable_K (k : Nat) : Contract Tryz.prog 66 (impl_isTable_V k) :=
  contract (C := impl_isTable_C k) (F := impl_isTable_F k) (fn := Tryz.f66) (c := codeOf Tryz.f66) (ps := impl_isTable_ps) (rs := [(.bool, false)]) (nx := 16) ⟨tyOf_ok tys_ok, gOf_ok ⟨slices_ContainsFunc_Dyadic_Dyadic_impl_isTable_1_K k, impl_inside_K, trivial⟩⟩ rfl (by kernel_rfl) (by kernel_rfl) (by kernel_rfl) (by kernel_rfl) (by kernel_rfl) (by kernel_rfl) rfl (by kernel_rfl) (by kernel_rfl) (AnnOk_list [(26, loopB (codeOf Tryz.f66) 26)] impl_isTable_ls ⟨impl_isTable_l26 k, trivial⟩) mix_ok (impl_isTable_eq k)

noncomputable def impl_size_V : Variant := ⟨[.val ty_0 false], [(ty_10, false)], fun x => impl_size x.1⟩
noncomputable def impl_size_C : Cfg := ⟨Tryz.prog, tyOf tys, 10, gOf [], false, [], []⟩
def impl_size_ps : List PE := [⟨0, 0, .val ty_0 false, false⟩]
noncomputable def impl_size_F : Fn (Int) := ⟨impl_size_C, rdRes Tryz.prog impl_size_ps [(ty_10, false)] Tryz.f241.results.toList .ret, fun p => none, 0, []⟩
theorem impl_size_eq (x : PTe impl_size_ps) : evFn (impl_size_F) (codeOf Tryz.f241) impl_size_ps 16 x = impl_size x.1 := by kernel_rfl
theorem impl_size_K : Contract Tryz.prog 241 (impl_size_V) :=
  contract (C := impl_size_C) (F := impl_size_F) (fn := Tryz.f241) (c := codeOf Tryz.f241) (ps := impl_size_ps) (rs := [(ty_10, false)]) (nx := 16) ⟨tyOf_ok tys_ok, gOf_ok trivial⟩ rfl (by kernel_rfl) (by kernel_rfl) (by kernel_rfl) (by kernel_rfl) (by kernel_rfl) (by kernel_rfl) rfl (by kernel_rfl) (by kernel_rfl) (AnnOk_list [] (by kernel_rfl) trivial) mix_ok (impl_size_eq)

noncomputable def impl_wideOf_V : Variant := ⟨[.val ty_0 false], [(ty_12, true)], fun x => impl_wideOf x.1⟩
noncomputable def impl_wideOf_C : Cfg := ⟨Tryz.prog, tyOf tys, 8, gOf [(241, [], impl_size_V)], false, [], []⟩
def impl_wideOf_ps : List PE := [⟨0, 0, .val ty_0 false, false⟩]
noncomputable def impl_wideOf_F : Fn (Bool × Int × Int) := ⟨impl_wideOf_C, rdRes Tryz.prog impl_wideOf_ps [(ty_12, true)] Tryz.f187.results.toList .ret, fun p => none, 0, []⟩
theorem impl_wideOf_eq (x : PTe impl_wideOf_ps) : evFn (impl_wideOf_F) (codeOf Tryz.f187) impl_wideOf_ps 16 x = impl_wideOf x.1 := by kernel_rfl
theorem impl_wideOf_K : Contract Tryz.prog 187 (impl_wideOf_V) :=
  contract (C := impl_wideOf_C) (F := impl_wideOf_F) (fn := Tryz.f187) (c := codeOf Tryz.f187) (ps := impl_wideOf_ps) (rs := [(ty_12, true)]) (nx := 16) ⟨tyOf_ok tys_ok, gOf_ok ⟨impl_size_K, trivial⟩⟩ rfl (by kernel_rfl) (by kernel_rfl) (by kernel_rfl) (by kernel_rfl) (by kernel_rfl) (by kernel_rfl) rfl (by kernel_rfl) (by kernel_rfl) (AnnOk_list [] (by kernel_rfl) trivial) mix_ok (impl_wideOf_eq)

noncomputable def impl_wide_shift_V : Variant := ⟨[.val ty_12 true, .val ty_0 false], [(ty_12, true)], fun x => impl_wide_shift x.1 x.2.1⟩
noncomputable def impl_wide_shift_C : Cfg := ⟨Tryz.prog, tyOf tys, 63, gOf [], false, [], []⟩
def impl_wide_shift_ps : List PE := [⟨0, 0, .val ty_12 true, false⟩, ⟨1, 16, .val ty_0 false, false⟩]
noncomputable def impl_wide_shift_F : Fn (Bool × Int × Int) := ⟨impl_wide_shift_C, rdRes Tryz.prog impl_wide_shift_ps [(ty_12, true)] Tryz.f188.results.toList .ret, fun p => none, 0, []⟩
theorem impl_wide_shift_eq (x : PTe impl_wide_shift_ps) : evFn (impl_wide_shift_F) (codeOf Tryz.f188) impl_wide_shift_ps 32 x = impl_wide_shift x.1 x.2.1 := by kernel_rfl
theorem impl_wide_shift_K : Contract Tryz.prog 188 (impl_wide_shift_V) :=
  contract (C := impl_wide_shift_C) (F := impl_wide_shift_F) (fn := Tryz.f188) (c := codeOf Tryz.f188) (ps := impl_wide_shift_ps) (rs := [(ty_12, true)]) (nx := 32) ⟨tyOf_ok tys_ok, gOf_ok trivial⟩ rfl (by kernel_rfl) (by kernel_rfl) (by kernel_rfl) (by kernel_rfl) (by kernel_rfl) (by kernel_rfl) rfl (by kernel_rfl) (by kernel_rfl) (AnnOk_list [] (by kernel_rfl) trivial) mix_ok (impl_wide_shift_eq)

noncomputable def impl_wide_isZero_V : Variant := ⟨[.val ty_12 true], [(.bool, false)], fun x => impl_wide_isZero x.1⟩
noncomputable def impl_wide_isZero_C : Cfg := ⟨Tryz.prog, tyOf tys, 11, gOf [], false, [], []⟩
def impl_wide_isZero_ps : List PE := [⟨0, 0, .val ty_12 true, false⟩]
noncomputable def impl_wide_isZero_F : Fn (Bool) := ⟨impl_wide_isZero_C, rdRes Tryz.prog impl_wide_isZero_ps [(.bool, false)] Tryz.f245.results.toList .ret, fun p => none, 0, []⟩
theorem impl_wide_isZero_eq (x : PTe impl_wide_isZero_ps) : evFn (impl_wide_isZero_F) (codeOf Tryz.f245) impl_wide_isZero_ps 16 x = impl_wide_isZero x.1 := by kernel_rfl
theorem impl_wide_isZero_K : Contract Tryz.prog 245 (impl_wide_isZero_V) :=
  contract (C := impl_wide_isZero_C) (F := impl_wide_isZero_F) (fn := Tryz.f245) (c := codeOf Tryz.f245) (ps := impl_wide_isZero_ps) (rs := [(.bool, false)]) (nx := 16) ⟨tyOf_ok tys_ok, gOf_ok trivial⟩ rfl (by kernel_rfl) (by kernel_rfl) (by kernel_rfl) (by kernel_rfl) (by kernel_rfl) (by kernel_rfl) rfl (by kernel_rfl) (by kernel_rfl) (AnnOk_list [] (by kernel_rfl) trivial) mix_ok (impl_wide_isZero_eq)

noncomputable def cmp_isNaN_uint64_V : Variant := ⟨[.val ty_10 false], [(.bool, false)], fun x => cmp_isNaN_uint64 x.1⟩
noncomputable def cmp_isNaN_uint64_C : Cfg := ⟨Tryz.prog, tyOf tys, 6, gOf [], false, [], []⟩
def cmp_isNaN_uint64_ps : List PE := [⟨0, 0, .val ty_10 false, false⟩]
noncomputable def cmp_isNaN_uint64_F : Fn (Bool) := ⟨cmp_isNaN_uint64_C, rdRes Tryz.prog cmp_isNaN_uint64_ps [(.bool, false)] Tryz.f294.results.toList .ret, fun p => none, 0, []⟩
theorem cmp_isNaN_uint64_eq (x : PTe cmp_isNaN_uint64_ps) : evFn (cmp_isNaN_uint64_F) (codeOf Tryz.f294) cmp_isNaN_uint64_ps 16 x = cmp_isNaN_uint64 x.1 := by kernel_rfl
theorem cmp_isNaN_uint64_K : Contract Tryz.prog 294 (cmp_isNaN_uint64_V) :=
  contract (C := cmp_isNaN_uint64_C) (F := cmp_isNaN_uint64_F) (fn := Tryz.f294) (c := codeOf Tryz.f294) (ps := cmp_isNaN_uint64_ps) (rs := [(.bool, false)]) (nx := 16) ⟨tyOf_ok tys_ok, gOf_ok trivial⟩ rfl (by kernel_rfl) (by kernel_rfl) (by kernel_rfl) (by kernel_rfl) (by kernel_rfl) (by kernel_rfl) rfl (by kernel_rfl) (by kernel_rfl) (AnnOk_list [] (by kernel_rfl) trivial) mix_ok (cmp_isNaN_uint64_eq)

noncomputable def cmp_Compare_uint64_V : Variant := ⟨[.val ty_10 false, .val ty_10 false], [(ty_0, false)], fun x => cmp_Compare_uint64 x.1 x.2.1⟩
noncomputable def cmp_Compare_uint64_C : Cfg := ⟨Tryz.prog, tyOf tys, 20, gOf [(294, [], cmp_isNaN_uint64_V)], false, [], []⟩
def cmp_Compare_uint64_ps : List PE := [⟨0, 0, .val ty_10 false, false⟩, ⟨1, 16, .val ty_10 false, false⟩]
noncomputable def cmp_Compare_uint64_F : Fn (Int) := ⟨cmp_Compare_uint64_C, rdRes Tryz.prog cmp_Compare_uint64_ps [(ty_0, false)] Tryz.f279.results.toList .ret, fun p => none, 0, []⟩
theorem cmp_Compare_uint64_eq (x : PTe cmp_Compare_uint64_ps) : evFn (cmp_Compare_uint64_F) (codeOf Tryz.f279) cmp_Compare_uint64_ps 32 x = cmp_Compare_uint64 x.1 x.2.1 := by kernel_rfl
theorem cmp_Compare_uint64_K : Contract Tryz.prog 279 (cmp_Compare_uint64_V) :=
  contract (C := cmp_Compare_uint64_C) (F := cmp_Compare_uint64_F) (fn := Tryz.f279) (c := codeOf Tryz.f279) (ps := cmp_Compare_uint64_ps) (rs := [(ty_0, false)]) (nx := 32) ⟨tyOf_ok tys_ok, gOf_ok ⟨cmp_isNaN_uint64_K, trivial⟩⟩ rfl (by kernel_rfl) (by kernel_rfl) (by kernel_rfl) (by kernel_rfl) (by kernel_rfl) (by kernel_rfl) rfl (by kernel_rfl) (by kernel_rfl) (AnnOk_list [] (by kernel_rfl) trivial) mix_ok (cmp_Compare_uint64_eq)

noncomputable def cmp_Or_int_V (k : Nat) : Variant := ⟨[.val ty_9 false], [(ty_0, false)], fun x => cmp_Or_int k x.1⟩
noncomputable def cmp_Or_int_C (k : Nat) : Cfg := ⟨Tryz.prog, tyOf tys, 18, gOf [], false, [], []⟩
def cmp_Or_int_i58 : List PE := [⟨3, 16, .val ty_0 false, false⟩, ⟨6, 32, .val ty_9 false, false⟩, ⟨7, 48, .val ty_0 false, false⟩, ⟨8, 64, .val ty_0 false, false⟩]
def cmp_Or_int_o58 : List PE := [⟨3, 16, .val ty_0 false, false⟩]
noncomputable def cmp_Or_int_f58 (k : Nat) (n : Nat) (x1 : PTe cmp_Or_int_i58) : Option ((Int) ⊕ PTe cmp_Or_int_o58) := cmp_Or_int_L58 k n x1.1 x1.2.1 x1.2.2.1 x1.2.2.2.1
def cmp_Or_int_ps : List PE := [⟨0, 0, .val ty_9 false, false⟩]
noncomputable def cmp_Or_int_F (k : Nat) : Fn (Int) := ⟨cmp_Or_int_C k, rdRes Tryz.prog cmp_Or_int_ps [(ty_0, false)] Tryz.f278.results.toList .ret, fun p => bif Nat.beq p 58 then some (.loop cmp_Or_int_i58 cmp_Or_int_o58 0 80 (cmp_Or_int_f58 k k)) else none, 0, []⟩
theorem cmp_Or_int_eq (k : Nat) (x : PTe cmp_Or_int_ps) : evFn (cmp_Or_int_F k) (codeOf Tryz.f278) cmp_Or_int_ps 16 x = cmp_Or_int k x.1 := by kernel_rfl
theorem cmp_Or_int_ls : loopsOf (codeOf Tryz.f278) 1 = [(58, loopB (codeOf Tryz.f278) 58)] := by kernel_rfl
theorem cmp_Or_int_l58 (k : Nat) : LoopOk (cmp_Or_int_F k) (loopB (codeOf Tryz.f278) 58) 58 := LoopOk.mk (pin := cmp_Or_int_i58) (pout := cmp_Or_int_o58) (ex := 0) (nx := 80) (Lf := cmp_Or_int_f58 k) (k := k) (by kernel_rfl) (fun _ => rfl) (by intro n x; kernel_rfl)
theorem cmp_Or_int_K (k : Nat) : Contract Tryz.prog 278 (cmp_Or_int_V k) :=
  contract (C := cmp_Or_int_C k) (F := cmp_Or_int_F k) (fn := Tryz.f278) (c := codeOf Tryz.f278) (ps := cmp_Or_int_ps) (rs := [(ty_0, false)]) (nx := 16) ⟨tyOf_ok tys_ok, gOf_ok trivial⟩ rfl (by kernel_rfl) (by kernel_rfl) (by kernel_rfl) (by kernel_rfl) (by kernel_rfl) (by kernel_rfl) rfl (by kernel_rfl) (by kernel_rfl) (AnnOk_list [(58, loopB (codeOf Tryz.f278) 58)] cmp_Or_int_ls ⟨cmp_Or_int_l58 k, trivial⟩) mix_ok (cmp_Or_int_eq k)

noncomputable def impl_compareSizes_V (k : Nat) : Variant := ⟨[.val ty_12 true, .val ty_12 true], [(ty_0, false)], fun x => impl_compareSizes k x.1 x.2.1⟩
noncomputable def impl_compareSizes_C (k : Nat) : Cfg := ⟨Tryz.prog, tyOf tys, 17, gOf [(279, [], cmp_Compare_uint64_V), (278, [], cmp_Or_int_V k)], false, [], []⟩
def impl_compareSizes_ps : List PE := [⟨0, 0, .val ty_12 true, false⟩, ⟨1, 16, .val ty_12 true, false⟩]
noncomputable def impl_compareSizes_F (k : Nat) : Fn (Int) := ⟨impl_compareSizes_C k, rdRes Tryz.prog impl_compareSizes_ps [(ty_0, false)] Tryz.f243.results.toList .ret, fun p => none, 0, []⟩
theorem impl_compareSizes_eq (k : Nat) (x : PTe impl_compareSizes_ps) : evFn (impl_compareSizes_F k) (codeOf Tryz.f243) impl_compareSizes_ps 32 x = impl_compareSizes k x.1 x.2.1 := by kernel_rfl
theorem impl_compareSizes_K (k : Nat) : Contract Tryz.prog 243 (impl_compareSizes_V k) :=
  contract (C := impl_compareSizes_C k) (F := impl_compareSizes_F k) (fn := Tryz.f243) (c := codeOf Tryz.f243) (ps := impl_compareSizes_ps) (rs := [(ty_0, false)]) (nx := 32) ⟨tyOf_ok tys_ok, gOf_ok ⟨cmp_Compare_uint64_K, cmp_Or_int_K k, trivial⟩⟩ rfl (by kernel_rfl) (by kernel_rfl) (by kernel_rfl) (by kernel_rfl) (by kernel_rfl) (by kernel_rfl) rfl (by kernel_rfl) (by kernel_rfl) (AnnOk_list [] (by kernel_rfl) trivial) mix_ok (impl_compareSizes_eq k)

noncomputable def impl_compareWide_V (k : Nat) : Variant := ⟨[.val ty_12 true, .val ty_12 true], [(ty_0, false)], fun x => impl_compareWide k x.1 x.2.1⟩
noncomputable def impl_compareWide_C (k : Nat) : Cfg := ⟨Tryz.prog, tyOf tys, 29, gOf [(245, [], impl_wide_isZero_V), (243, [], impl_compareSizes_V k)], false, [], []⟩
def impl_compareWide_ps : List PE := [⟨0, 0, .val ty_12 true, false⟩, ⟨1, 16, .val ty_12 true, false⟩]
noncomputable def impl_compareWide_F (k : Nat) : Fn (Int) := ⟨impl_compareWide_C k, rdRes Tryz.prog impl_compareWide_ps [(ty_0, false)] Tryz.f229.results.toList .ret, fun p => bif Nat.beq p 6 then some (.cut [⟨2, 32, .box ty_12 false, false⟩, ⟨3, 48, .box ty_12 false, false⟩] 64) else none, 0, []⟩
theorem impl_compareWide_eq (k : Nat) (x : PTe impl_compareWide_ps) : evFn (impl_compareWide_F k) (codeOf Tryz.f229) impl_compareWide_ps 32 x = impl_compareWide k x.1 x.2.1 := by kernel_rfl
theorem impl_compareWide_K (k : Nat) : Contract Tryz.prog 229 (impl_compareWide_V k) :=
  contract (C := impl_compareWide_C k) (F := impl_compareWide_F k) (fn := Tryz.f229) (c := codeOf Tryz.f229) (ps := impl_compareWide_ps) (rs := [(ty_0, false)]) (nx := 32) ⟨tyOf_ok tys_ok, gOf_ok ⟨impl_wide_isZero_K, impl_compareSizes_K k, trivial⟩⟩ rfl (by kernel_rfl) (by kernel_rfl) (by kernel_rfl) (by kernel_rfl) (by kernel_rfl) (by kernel_rfl) rfl (by kernel_rfl) (by kernel_rfl) (AnnOk_list [] (by kernel_rfl) trivial) mix_ok (impl_compareWide_eq k)

noncomputable def impl_compareD_V (k : Nat) : Variant := ⟨[.val ty_1 true, .val ty_1 true], [(ty_0, false)], fun x => impl_compareD k x.1 x.2.1⟩
noncomputable def impl_compareD_C (k : Nat) : Cfg := ⟨Tryz.prog, tyOf tys, 28, gOf [(187, [], impl_wideOf_V), (188, [], impl_wide_shift_V), (229, [], impl_compareWide_V k)], false, [], []⟩
def impl_compareD_ps : List PE := [⟨0, 0, .val ty_1 true, false⟩, ⟨1, 16, .val ty_1 true, false⟩]
noncomputable def impl_compareD_F (k : Nat) : Fn (Int) := ⟨impl_compareD_C k, rdRes Tryz.prog impl_compareD_ps [(ty_0, false)] Tryz.f174.results.toList .ret, fun p => none, 0, []⟩
theorem impl_compareD_eq (k : Nat) (x : PTe impl_compareD_ps) : evFn (impl_compareD_F k) (codeOf Tryz.f174) impl_compareD_ps 32 x = impl_compareD k x.1 x.2.1 := by kernel_rfl
theorem impl_compareD_K (k : Nat) : Contract Tryz.prog 174 (impl_compareD_V k) :=
  contract (C := impl_compareD_C k) (F := impl_compareD_F k) (fn := Tryz.f174) (c := codeOf Tryz.f174) (ps := impl_compareD_ps) (rs := [(ty_0, false)]) (nx := 32) ⟨tyOf_ok tys_ok, gOf_ok ⟨impl_wideOf_K, impl_wide_shift_K, impl_compareWide_K k, trivial⟩⟩ rfl (by kernel_rfl) (by kernel_rfl) (by kernel_rfl) (by kernel_rfl) (by kernel_rfl) (by kernel_rfl) rfl (by kernel_rfl) (by kernel_rfl) (AnnOk_list [] (by kernel_rfl) trivial) mix_ok (impl_compareD_eq k)

noncomputable def impl_isInterval_V (k : Nat) : Variant := ⟨[.val ty_4 true], [(.bool, false)], fun x => impl_isInterval k x.1⟩
noncomputable def impl_isInterval_C (k : Nat) : Cfg := ⟨Tryz.prog, tyOf tys, 19, gOf [(112, [], impl_isDyadic_V), (174, [], impl_compareD_V k)], false, [], []⟩
def impl_isInterval_ps : List PE := [⟨0, 0, .val ty_4 true, false⟩]
noncomputable def impl_isInterval_F (k : Nat) : Fn (Bool) := ⟨impl_isInterval_C k, rdRes Tryz.prog impl_isInterval_ps [(.bool, false)] Tryz.f115.results.toList .ret, fun p => none, 0, []⟩
theorem impl_isInterval_eq (k : Nat) (x : PTe impl_isInterval_ps) : evFn (impl_isInterval_F k) (codeOf Tryz.f115) impl_isInterval_ps 16 x = impl_isInterval k x.1 := by kernel_rfl
theorem impl_isInterval_K (k : Nat) : Contract Tryz.prog 115 (impl_isInterval_V k) :=
  contract (C := impl_isInterval_C k) (F := impl_isInterval_F k) (fn := Tryz.f115) (c := codeOf Tryz.f115) (ps := impl_isInterval_ps) (rs := [(.bool, false)]) (nx := 16) ⟨tyOf_ok tys_ok, gOf_ok ⟨impl_isDyadic_K, impl_compareD_K k, trivial⟩⟩ rfl (by kernel_rfl) (by kernel_rfl) (by kernel_rfl) (by kernel_rfl) (by kernel_rfl) (by kernel_rfl) rfl (by kernel_rfl) (by kernel_rfl) (AnnOk_list [] (by kernel_rfl) trivial) mix_ok (impl_isInterval_eq k)

noncomputable def impl_isIntervalTable_1_V (k : Nat) : Variant := ⟨[.val ty_4 true], [(.bool, false)], fun x => impl_isIntervalTable_1 k x.1⟩
noncomputable def impl_isIntervalTable_1_C (k : Nat) : Cfg := ⟨Tryz.prog, tyOf tys, 6, gOf [(115, [], impl_isInterval_V k)], false, [], []⟩
def impl_isIntervalTable_1_ps : List PE := [⟨0, 0, .val ty_4 true, false⟩]
noncomputable def impl_isIntervalTable_1_F (k : Nat) : Fn (Bool) := ⟨impl_isIntervalTable_1_C k, rdRes Tryz.prog impl_isIntervalTable_1_ps [(.bool, false)] Tryz.f114.results.toList .ret, fun p => none, 0, []⟩
theorem impl_isIntervalTable_1_eq (k : Nat) (x : PTe impl_isIntervalTable_1_ps) : evFn (impl_isIntervalTable_1_F k) (codeOf Tryz.f114) impl_isIntervalTable_1_ps 16 x = impl_isIntervalTable_1 k x.1 := by kernel_rfl
theorem impl_isIntervalTable_1_K (k : Nat) : Contract Tryz.prog 114 (impl_isIntervalTable_1_V k) :=
  contract (C := impl_isIntervalTable_1_C k) (F := impl_isIntervalTable_1_F k) (fn := Tryz.f114) (c := codeOf Tryz.f114) (ps := impl_isIntervalTable_1_ps) (rs := [(.bool, false)]) (nx := 16) ⟨tyOf_ok tys_ok, gOf_ok ⟨impl_isInterval_K k, trivial⟩⟩ rfl (by kernel_rfl) (by kernel_rfl) (by kernel_rfl) (by kernel_rfl) (by kernel_rfl) (by kernel_rfl) rfl (by kernel_rfl) (by kernel_rfl) (AnnOk_list [] (by kernel_rfl) trivial) mix_ok (impl_isIntervalTable_1_eq k)

noncomputable def slices_IndexFunc_Interval_Interval_impl_isIntervalTable_1_V (k : Nat) : Variant := ⟨[.val ty_5 false, .fn 114 []], [(ty_0, false)], fun x => slices_IndexFunc_Interval_Interval_impl_isIntervalTable_1 k x.1 x.2.1⟩
noncomputable def slices_IndexFunc_Interval_Interval_impl_isIntervalTable_1_C (k : Nat) : Cfg := ⟨Tryz.prog, tyOf tys, 19, gOf [(114, [], impl_isIntervalTable_1_V k)], false, [], []⟩
def slices_IndexFunc_Interval_Interval_impl_isIntervalTable_1_i26 : List PE := [⟨0, 32, .val ty_5 false, false⟩, ⟨1, 48, .fn 114 [], false⟩, ⟨7, 64, .val ty_0 false, false⟩, ⟨8, 80, .val ty_0 false, false⟩]
def slices_IndexFunc_Interval_Interval_impl_isIntervalTable_1_o26 : List PE := []
noncomputable def slices_IndexFunc_Interval_Interval_impl_isIntervalTable_1_f26 (k : Nat) (n : Nat) (x2 : PTe slices_IndexFunc_Interval_Interval_impl_isIntervalTable_1_i26) : Option ((Int) ⊕ PTe slices_IndexFunc_Interval_Interval_impl_isIntervalTable_1_o26) := slices_IndexFunc_Interval_Interval_impl_isIntervalTable_1_L26 k n x2.1 x2.2.1 x2.2.2.1 x2.2.2.2.1
def slices_IndexFunc_Interval_Interval_impl_isIntervalTable_1_ps : List PE := [⟨0, 0, .val ty_5 false, false⟩, ⟨1, 16, .fn 114 [], false⟩]
noncomputable def slices_IndexFunc_Interval_Interval_impl_isIntervalTable_1_F (k : Nat) : Fn (Int) := ⟨slices_IndexFunc_Interval_Interval_impl_isIntervalTable_1_C k, rdRes Tryz.prog slices_IndexFunc_Interval_Interval_impl_isIntervalTable_1_ps [(ty_0, false)] Tryz.f173.results.toList .ret, fun p => bif Nat.beq p 26 then some (.loop slices_IndexFunc_Interval_Interval_impl_isIntervalTable_1_i26 slices_IndexFunc_Interval_Interval_impl_isIntervalTable_1_o26 0 96 (slices_IndexFunc_Interval_Interval_impl_isIntervalTable_1_f26 k k)) else none, 0, []⟩
theorem slices_IndexFunc_Interval_Interval_impl_isIntervalTable_1_eq (k : Nat) (x : PTe slices_IndexFunc_Interval_Interval_impl_isIntervalTable_1_ps) : evFn (slices_IndexFunc_Interval_Interval_impl_isIntervalTable_1_F k) (codeOf Tryz.f173) slices_IndexFunc_Interval_Interval_impl_isIntervalTable_1_ps 32 x = slices_IndexFunc_Interval_Interval_impl_isIntervalTable_1 k x.1 x.2.1 := by kernel_rfl
theorem slices_IndexFunc_Interval_Interval_impl_isIntervalTable_1_ls : loopsOf (codeOf Tryz.f173) 1 = [(26, loopB (codeOf Tryz.f173) 26)] := by kernel_rfl
theorem slices_IndexFunc_Interval_Interval_impl_isIntervalTable_1_l26 (k : Nat) : LoopOk (slices_IndexFunc_Interval_Interval_impl_isIntervalTable_1_F k) (loopB (codeOf Tryz.f173) 26) 26 := LoopOk.mk (pin := slices_IndexFunc_Interval_Interval_impl_isIntervalTable_1_i26) (pout := slices_IndexFunc_Interval_Interval_impl_isIntervalTable_1_o26) (ex := 0) (nx := 96) (Lf := slices_IndexFunc_Interval_Interval_impl_isIntervalTable_1_f26 k) (k := k) (by kernel_rfl) (fun _ => rfl) (by intro n x; kernel_rfl)
theorem slices_IndexFunc_Interval_Interval_impl_isIntervalTable_1_K (k : Nat) : Contract Tryz.prog 173 (slices_IndexFunc_Interval_Interval_impl_isIntervalTable_1_V k) :=
  contract (C := slices_IndexFunc_Interval_Interval_impl_isIntervalTable_1_C k) (F := slices_IndexFunc_Interval_Interval_impl_isIntervalTable_1_F k) (fn := Tryz.f173) (c := codeOf Tryz.f173) (ps := slices_IndexFunc_Interval_Interval_impl_isIntervalTable_1_ps) (rs := [(ty_0, false)]) (nx := 32) ⟨tyOf_ok tys_ok, gOf_ok ⟨impl_isIntervalTable_1_K k, trivial⟩⟩ rfl (by kernel_rfl) (by kernel_rfl) (by kernel_rfl) (by kernel_rfl) (by kernel_rfl) (by kernel_rfl) rfl (by kernel_rfl) (by kernel_rfl) (AnnOk_list [(26, loopB (codeOf Tryz.f173) 26)] slices_IndexFunc_Interval_Interval_impl_isIntervalTable_1_ls ⟨slices_IndexFunc_Interval_Interval_impl_isIntervalTable_1_l26 k, trivial⟩) mix_ok (slices_IndexFunc_Interval_Interval_impl_isIntervalTable_1_eq k)

noncomputable def slices_ContainsFunc_Interval_Interval_impl_isIntervalTable_1_V (k : Nat) : Variant := ⟨[.val ty_5 false, .fn 114 []], [(.bool, false)], fun x => slices_ContainsFunc_Interval_Interval_impl_isIntervalTable_1 k x.1 x.2.1⟩
noncomputable def slices_ContainsFunc_Interval_Interval_impl_isIntervalTable_1_C (k : Nat) : Cfg := ⟨Tryz.prog, tyOf tys, 9, gOf [(173, [114], slices_IndexFunc_Interval_Interval_impl_isIntervalTable_1_V k)], false, [], []⟩
def slices_ContainsFunc_Interval_Interval_impl_isIntervalTable_1_ps : List PE := [⟨0, 0, .val ty_5 false, false⟩, ⟨1, 16, .fn 114 [], false⟩]
noncomputable def slices_ContainsFunc_Interval_Interval_impl_isIntervalTable_1_F (k : Nat) : Fn (Bool) := ⟨slices_ContainsFunc_Interval_Interval_impl_isIntervalTable_1_C k, rdRes Tryz.prog slices_ContainsFunc_Interval_Interval_impl_isIntervalTable_1_ps [(.bool, false)] Tryz.f113.results.toList .ret, fun p => none, 0, []⟩
theorem slices_ContainsFunc_Interval_Interval_impl_isIntervalTable_1_eq (k : Nat) (x : PTe slices_ContainsFunc_Interval_Interval_impl_isIntervalTable_1_ps) : evFn (slices_ContainsFunc_Interval_Interval_impl_isIntervalTable_1_F k) (codeOf Tryz.f113) slices_ContainsFunc_Interval_Interval_impl_isIntervalTable_1_ps 32 x = slices_ContainsFunc_Interval_Interval_impl_isIntervalTable_1 k x.1 x.2.1 := by kernel_rfl
theorem slices_ContainsFunc_Interval_Interval_impl_isIntervalTable_1_K (k : Nat) : Contract Tryz.prog 113 (slices_ContainsFunc_Interval_Interval_impl_isIntervalTable_1_V k) :=
  contract (C := slices_ContainsFunc_Interval_Interval_impl_isIntervalTable_1_C k) (F := slices_ContainsFunc_Interval_Interval_impl_isIntervalTable_1_F k) (fn := Tryz.f113) (c := codeOf Tryz.f113) (ps := slices_ContainsFunc_Interval_Interval_impl_isIntervalTable_1_ps) (rs := [(.bool, false)]) (nx := 32) ⟨tyOf_ok tys_ok, gOf_ok ⟨slices_IndexFunc_Interval_Interval_impl_isIntervalTable_1_K k, trivial⟩⟩ rfl (by kernel_rfl) (by kernel_rfl) (by kernel_rfl) (by kernel_rfl) (by kernel_rfl) (by kernel_rfl) rfl (by kernel_rfl) (by kernel_rfl) (AnnOk_list [] (by kernel_rfl) trivial) mix_ok (slices_ContainsFunc_Interval_Interval_impl_isIntervalTable_1_eq k)

noncomputable def impl_isIntervalTable_V (k : Nat) : Variant := ⟨[.val ty_6 false], [(.bool, false)], fun x => impl_isIntervalTable k x.1⟩
noncomputable def impl_isIntervalTable_C (k : Nat) : Cfg := ⟨Tryz.prog, tyOf tys, 24, gOf [(113, [114], slices_ContainsFunc_Interval_Interval_impl_isIntervalTable_1_V k), (86, [], impl_inside_V)], false, [], []⟩
def impl_isIntervalTable_i26 : List PE := [⟨0, 16, .val ty_6 false, false⟩, ⟨5, 32, .val ty_6 false, false⟩, ⟨6, 48, .val ty_0 false, false⟩, ⟨7, 64, .val ty_0 false, false⟩]
def impl_isIntervalTable_o26 : List PE := [⟨0, 16, .val ty_6 false, false⟩]
noncomputable def impl_isIntervalTable_f26 (k : Nat) (n : Nat) (x2 : PTe impl_isIntervalTable_i26) : Option ((Bool) ⊕ PTe impl_isIntervalTable_o26) := impl_isIntervalTable_L26 k n x2.1 x2.2.1 x2.2.2.1 x2.2.2.2.1
def impl_isIntervalTable_ps : List PE := [⟨0, 0, .val ty_6 false, false⟩]
noncomputable def impl_isIntervalTable_F (k : Nat) : Fn (Bool) := ⟨impl_isIntervalTable_C k, rdRes Tryz.prog impl_isIntervalTable_ps [(.bool, false)] Tryz.f67.results.toList .ret, fun p => bif Nat.beq p 26 then some (.loop impl_isIntervalTable_i26 impl_isIntervalTable_o26 0 80 (impl_isIntervalTable_f26 k k)) else none, 0, []⟩
theorem impl_isIntervalTable_eq (k : Nat) (x : PTe impl_isIntervalTable_ps) : evFn (impl_isIntervalTable_F k) (codeOf Tryz.f67) impl_isIntervalTable_ps 16 x = impl_isIntervalTable k x.1 := by kernel_rfl
theorem impl_isIntervalTable_ls : loopsOf (codeOf Tryz.f67) 1 = [(26, loopB (codeOf Tryz.f67) 26)] := by kernel_rfl
theorem impl_isIntervalTable_l26 (k : Nat) : LoopOk (impl_isIntervalTable_F k) (loopB (codeOf Tryz.f67) 26) 26 := LoopOk.mk (pin := impl_isIntervalTable_i26) (pout := impl_isIntervalTable_o26) (ex := 0) (nx := 80) (Lf := impl_isIntervalTable_f26 k) (k := k) (by kernel_rfl) (fun _ => rfl) (by intro n x; kernel_rfl)
theorem impl_isIntervalTable_K (k : Nat) : Contract Tryz.prog 67 (impl_isIntervalTable_V k) :=
  contract (C := impl_isIntervalTable_C k) (F := impl_isIntervalTable_F k) (fn := Tryz.f67) (c := codeOf Tryz.f67) (ps := impl_isIntervalTable_ps) (rs := [(.bool, false)]) (nx := 16) ⟨tyOf_ok tys_ok, gOf_ok ⟨slices_ContainsFunc_Interval_Interval_impl_isIntervalTable_1_K k, impl_inside_K, trivial⟩⟩ rfl (by kernel_rfl) (by kernel_rfl) (by kernel_rfl) (by kernel_rfl) (by kernel_rfl) (by kernel_rfl) rfl (by kernel_rfl) (by kernel_rfl) (AnnOk_list [(26, loopB (codeOf Tryz.f67) 26)] impl_isIntervalTable_ls ⟨impl_isIntervalTable_l26 k, trivial⟩) mix_ok (impl_isIntervalTable_eq k)

noncomputable def impl_single_V : Variant := ⟨[.val ty_1 true], [(ty_4, true)], fun x => impl_single x.1⟩
noncomputable def impl_single_C : Cfg := ⟨Tryz.prog, tyOf tys, 6, gOf [], false, [], []⟩
def impl_single_ps : List PE := [⟨0, 0, .val ty_1 true, false⟩]
noncomputable def impl_single_F : Fn ((Int × Int) × Int × Int) := ⟨impl_single_C, rdRes Tryz.prog impl_single_ps [(ty_4, true)] Tryz.f117.results.toList .ret, fun p => none, 0, []⟩
theorem impl_single_eq (x : PTe impl_single_ps) : evFn (impl_single_F) (codeOf Tryz.f117) impl_single_ps 16 x = impl_single x.1 := by kernel_rfl
theorem impl_single_K : Contract Tryz.prog 117 (impl_single_V) :=
  contract (C := impl_single_C) (F := impl_single_F) (fn := Tryz.f117) (c := codeOf Tryz.f117) (ps := impl_single_ps) (rs := [(ty_4, true)]) (nx := 16) ⟨tyOf_ok tys_ok, gOf_ok trivial⟩ rfl (by kernel_rfl) (by kernel_rfl) (by kernel_rfl) (by kernel_rfl) (by kernel_rfl) (by kernel_rfl) rfl (by kernel_rfl) (by kernel_rfl) (AnnOk_list [] (by kernel_rfl) trivial) mix_ok (impl_single_eq)

noncomputable def math_bits_Mul64_V : Variant := ⟨[.val ty_10 false, .val ty_10 false], [(ty_10, false), (ty_10, false)], fun x => math_bits_Mul64 x.1 x.2.1⟩
noncomputable def math_bits_Mul64_C : Cfg := ⟨Tryz.prog, tyOf tys, 51, gOf [], false, [], []⟩
def math_bits_Mul64_ps : List PE := [⟨0, 0, .val ty_10 false, false⟩, ⟨1, 16, .val ty_10 false, false⟩]
noncomputable def math_bits_Mul64_F : Fn (Int × Int) := ⟨math_bits_Mul64_C, rdRes Tryz.prog math_bits_Mul64_ps [(ty_10, false), (ty_10, false)] Tryz.f288.results.toList .ret, fun p => none, 0, []⟩
theorem math_bits_Mul64_eq (x : PTe math_bits_Mul64_ps) : evFn (math_bits_Mul64_F) (codeOf Tryz.f288) math_bits_Mul64_ps 32 x = math_bits_Mul64 x.1 x.2.1 := by kernel_rfl
theorem math_bits_Mul64_K : Contract Tryz.prog 288 (math_bits_Mul64_V) :=
  contract (C := math_bits_Mul64_C) (F := math_bits_Mul64_F) (fn := Tryz.f288) (c := codeOf Tryz.f288) (ps := math_bits_Mul64_ps) (rs := [(ty_10, false), (ty_10, false)]) (nx := 32) ⟨tyOf_ok tys_ok, gOf_ok trivial⟩ rfl (by kernel_rfl) (by kernel_rfl) (by kernel_rfl) (by kernel_rfl) (by kernel_rfl) (by kernel_rfl) rfl (by kernel_rfl) (by kernel_rfl) (AnnOk_list [] (by kernel_rfl) trivial) mix_ok (math_bits_Mul64_eq)

noncomputable def impl_timesWide_V : Variant := ⟨[.val ty_0 false, .val ty_0 false], [(ty_12, true)], fun x => impl_timesWide x.1 x.2.1⟩
noncomputable def impl_timesWide_C : Cfg := ⟨Tryz.prog, tyOf tys, 23, gOf [(241, [], impl_size_V), (288, [], math_bits_Mul64_V)], false, [], []⟩
def impl_timesWide_ps : List PE := [⟨0, 0, .val ty_0 false, false⟩, ⟨1, 16, .val ty_0 false, false⟩]
noncomputable def impl_timesWide_F : Fn (Bool × Int × Int) := ⟨impl_timesWide_C, rdRes Tryz.prog impl_timesWide_ps [(ty_12, true)] Tryz.f270.results.toList .ret, fun p => none, 0, []⟩
theorem impl_timesWide_eq (x : PTe impl_timesWide_ps) : evFn (impl_timesWide_F) (codeOf Tryz.f270) impl_timesWide_ps 32 x = impl_timesWide x.1 x.2.1 := by kernel_rfl
theorem impl_timesWide_K : Contract Tryz.prog 270 (impl_timesWide_V) :=
  contract (C := impl_timesWide_C) (F := impl_timesWide_F) (fn := Tryz.f270) (c := codeOf Tryz.f270) (ps := impl_timesWide_ps) (rs := [(ty_12, true)]) (nx := 32) ⟨tyOf_ok tys_ok, gOf_ok ⟨impl_size_K, math_bits_Mul64_K, trivial⟩⟩ rfl (by kernel_rfl) (by kernel_rfl) (by kernel_rfl) (by kernel_rfl) (by kernel_rfl) (by kernel_rfl) rfl (by kernel_rfl) (by kernel_rfl) (AnnOk_list [] (by kernel_rfl) trivial) mix_ok (impl_timesWide_eq)

noncomputable def impl_wide_fit_V (k : Nat) : Variant := ⟨[.val ty_12 true, .val ty_0 false], [(ty_1, true), (.bool, false)], fun x => impl_wide_fit k x.1 x.2.1⟩
noncomputable def impl_wide_fit_C (k : Nat) : Cfg := ⟨Tryz.prog, tyOf tys, 45, gOf [(245, [], impl_wide_isZero_V), (188, [], impl_wide_shift_V)], false, [], []⟩
def impl_wide_fit_i28 : List PE := [⟨1, 32, .val ty_0 false, false⟩, ⟨2, 48, .box ty_12 false, false⟩, ⟨4, 64, .box ty_1 false, false⟩]
def impl_wide_fit_o28 : List PE := [⟨1, 32, .val ty_0 false, false⟩, ⟨2, 48, .box ty_12 false, false⟩, ⟨4, 64, .box ty_1 false, false⟩]
noncomputable def impl_wide_fit_f28 (k : Nat) (n : Nat) (x3 : PTe impl_wide_fit_i28) : Option (((Int × Int) × Bool) ⊕ PTe impl_wide_fit_o28) := impl_wide_fit_L28 k n x3.1 x3.2.1 x3.2.2.1
def impl_wide_fit_ps : List PE := [⟨0, 0, .val ty_12 true, false⟩, ⟨1, 16, .val ty_0 false, false⟩]
noncomputable def impl_wide_fit_F (k : Nat) : Fn ((Int × Int) × Bool) := ⟨impl_wide_fit_C k, rdRes Tryz.prog impl_wide_fit_ps [(ty_1, true), (.bool, false)] Tryz.f190.results.toList .ret, fun p => bif Nat.beq p 28 then some (.loop impl_wide_fit_i28 impl_wide_fit_o28 0 80 (impl_wide_fit_f28 k k)) else none, 0, []⟩
theorem impl_wide_fit_eq (k : Nat) (x : PTe impl_wide_fit_ps) : evFn (impl_wide_fit_F k) (codeOf Tryz.f190) impl_wide_fit_ps 32 x = impl_wide_fit k x.1 x.2.1 := by kernel_rfl
theorem impl_wide_fit_ls : loopsOf (codeOf Tryz.f190) 1 = [(28, loopB (codeOf Tryz.f190) 28)] := by kernel_rfl
theorem impl_wide_fit_l28 (k : Nat) : LoopOk (impl_wide_fit_F k) (loopB (codeOf Tryz.f190) 28) 28 := LoopOk.mk (pin := impl_wide_fit_i28) (pout := impl_wide_fit_o28) (ex := 0) (nx := 80) (Lf := impl_wide_fit_f28 k) (k := k) (by kernel_rfl) (fun _ => rfl) (by intro n x; kernel_rfl)
theorem impl_wide_fit_K (k : Nat) : Contract Tryz.prog 190 (impl_wide_fit_V k) :=
  contract (C := impl_wide_fit_C k) (F := impl_wide_fit_F k) (fn := Tryz.f190) (c := codeOf Tryz.f190) (ps := impl_wide_fit_ps) (rs := [(ty_1, true), (.bool, false)]) (nx := 32) ⟨tyOf_ok tys_ok, gOf_ok ⟨impl_wide_isZero_K, impl_wide_shift_K, trivial⟩⟩ rfl (by kernel_rfl) (by kernel_rfl) (by kernel_rfl) (by kernel_rfl) (by kernel_rfl) (by kernel_rfl) rfl (by kernel_rfl) (by kernel_rfl) (AnnOk_list [(28, loopB (codeOf Tryz.f190) 28)] impl_wide_fit_ls ⟨impl_wide_fit_l28 k, trivial⟩) mix_ok (impl_wide_fit_eq k)

noncomputable def impl_productOf_V (k : Nat) : Variant := ⟨[.val ty_1 true, .val ty_1 true], [(ty_1, true), (.bool, false)], fun x => impl_productOf k x.1 x.2.1⟩
noncomputable def impl_productOf_C (k : Nat) : Cfg := ⟨Tryz.prog, tyOf tys, 19, gOf [(270, [], impl_timesWide_V), (190, [], impl_wide_fit_V k)], false, [], []⟩
def impl_productOf_ps : List PE := [⟨0, 0, .val ty_1 true, false⟩, ⟨1, 16, .val ty_1 true, false⟩]
noncomputable def impl_productOf_F (k : Nat) : Fn ((Int × Int) × Bool) := ⟨impl_productOf_C k, rdRes Tryz.prog impl_productOf_ps [(ty_1, true), (.bool, false)] Tryz.f230.results.toList .ret, fun p => none, 0, []⟩
theorem impl_productOf_eq (k : Nat) (x : PTe impl_productOf_ps) : evFn (impl_productOf_F k) (codeOf Tryz.f230) impl_productOf_ps 32 x = impl_productOf k x.1 x.2.1 := by kernel_rfl
theorem impl_productOf_K (k : Nat) : Contract Tryz.prog 230 (impl_productOf_V k) :=
  contract (C := impl_productOf_C k) (F := impl_productOf_F k) (fn := Tryz.f230) (c := codeOf Tryz.f230) (ps := impl_productOf_ps) (rs := [(ty_1, true), (.bool, false)]) (nx := 32) ⟨tyOf_ok tys_ok, gOf_ok ⟨impl_timesWide_K, impl_wide_fit_K k, trivial⟩⟩ rfl (by kernel_rfl) (by kernel_rfl) (by kernel_rfl) (by kernel_rfl) (by kernel_rfl) (by kernel_rfl) rfl (by kernel_rfl) (by kernel_rfl) (AnnOk_list [] (by kernel_rfl) trivial) mix_ok (impl_productOf_eq k)

noncomputable def impl_reckoner_keep_V : Variant := ⟨[.ptr .bool true, .val ty_1 true, .val .bool false], [(ty_1, true)], fun x => impl_reckoner_keep x.1 x.2.1 x.2.2.1⟩
noncomputable def impl_reckoner_keep_C : Cfg := ⟨Tryz.prog, tyOf tys, 24, gOf [], false, [], []⟩
def impl_reckoner_keep_ps : List PE := [⟨0, 0, .ptr .bool true, true⟩, ⟨1, 16, .val ty_1 true, false⟩, ⟨2, 32, .val .bool false, false⟩]
noncomputable def impl_reckoner_keep_F : Fn ((Int × Int) × Bool) := ⟨impl_reckoner_keep_C, rdRes Tryz.prog impl_reckoner_keep_ps [(ty_1, true)] Tryz.f126.results.toList .ret, fun p => none, 0, [0]⟩
theorem impl_reckoner_keep_eq (x : PTe impl_reckoner_keep_ps) : evFn (impl_reckoner_keep_F) (codeOf Tryz.f126) impl_reckoner_keep_ps 48 x = impl_reckoner_keep x.1 x.2.1 x.2.2.1 := by kernel_rfl
theorem impl_reckoner_keep_K : Contract Tryz.prog 126 (impl_reckoner_keep_V) :=
  contract (C := impl_reckoner_keep_C) (F := impl_reckoner_keep_F) (fn := Tryz.f126) (c := codeOf Tryz.f126) (ps := impl_reckoner_keep_ps) (rs := [(ty_1, true)]) (nx := 48) ⟨tyOf_ok tys_ok, gOf_ok trivial⟩ rfl (by kernel_rfl) (by kernel_rfl) (by kernel_rfl) (by kernel_rfl) (by kernel_rfl) (by kernel_rfl) rfl (by kernel_rfl) (by kernel_rfl) (AnnOk_list [] (by kernel_rfl) trivial) mix_ok (impl_reckoner_keep_eq)

noncomputable def impl_reckoner_product_V (k : Nat) : Variant := ⟨[.ptr .bool true, .val ty_1 true, .val ty_1 true], [(ty_1, true)], fun x => impl_reckoner_product k x.1 x.2.1 x.2.2.1⟩
noncomputable def impl_reckoner_product_C (k : Nat) : Cfg := ⟨Tryz.prog, tyOf tys, 14, gOf [(230, [], impl_productOf_V k), (126, [], impl_reckoner_keep_V)], false, [], []⟩
def impl_reckoner_product_ps : List PE := [⟨0, 0, .ptr .bool true, true⟩, ⟨1, 16, .val ty_1 true, false⟩, ⟨2, 32, .val ty_1 true, false⟩]
noncomputable def impl_reckoner_product_F (k : Nat) : Fn ((Int × Int) × Bool) := ⟨impl_reckoner_product_C k, rdRes Tryz.prog impl_reckoner_product_ps [(ty_1, true)] Tryz.f175.results.toList .ret, fun p => none, 0, [0]⟩
theorem impl_reckoner_product_eq (k : Nat) (x : PTe impl_reckoner_product_ps) : evFn (impl_reckoner_product_F k) (codeOf Tryz.f175) impl_reckoner_product_ps 48 x = impl_reckoner_product k x.1 x.2.1 x.2.2.1 := by kernel_rfl
theorem impl_reckoner_product_K (k : Nat) : Contract Tryz.prog 175 (impl_reckoner_product_V k) :=
  contract (C := impl_reckoner_product_C k) (F := impl_reckoner_product_F k) (fn := Tryz.f175) (c := codeOf Tryz.f175) (ps := impl_reckoner_product_ps) (rs := [(ty_1, true)]) (nx := 48) ⟨tyOf_ok tys_ok, gOf_ok ⟨impl_productOf_K k, impl_reckoner_keep_K, trivial⟩⟩ rfl (by kernel_rfl) (by kernel_rfl) (by kernel_rfl) (by kernel_rfl) (by kernel_rfl) (by kernel_rfl) rfl (by kernel_rfl) (by kernel_rfl) (AnnOk_list [] (by kernel_rfl) trivial) mix_ok (impl_reckoner_product_eq k)

noncomputable def impl_lesser_V (k : Nat) : Variant := ⟨[.val ty_1 true, .val ty_1 true], [(ty_1, true)], fun x => impl_lesser k x.1 x.2.1⟩
noncomputable def impl_lesser_C (k : Nat) : Cfg := ⟨Tryz.prog, tyOf tys, 11, gOf [(174, [], impl_compareD_V k)], false, [], []⟩
def impl_lesser_ps : List PE := [⟨0, 0, .val ty_1 true, false⟩, ⟨1, 16, .val ty_1 true, false⟩]
noncomputable def impl_lesser_F (k : Nat) : Fn (Int × Int) := ⟨impl_lesser_C k, rdRes Tryz.prog impl_lesser_ps [(ty_1, true)] Tryz.f177.results.toList .ret, fun p => none, 0, []⟩
theorem impl_lesser_eq (k : Nat) (x : PTe impl_lesser_ps) : evFn (impl_lesser_F k) (codeOf Tryz.f177) impl_lesser_ps 32 x = impl_lesser k x.1 x.2.1 := by kernel_rfl
theorem impl_lesser_K (k : Nat) : Contract Tryz.prog 177 (impl_lesser_V k) :=
  contract (C := impl_lesser_C k) (F := impl_lesser_F k) (fn := Tryz.f177) (c := codeOf Tryz.f177) (ps := impl_lesser_ps) (rs := [(ty_1, true)]) (nx := 32) ⟨tyOf_ok tys_ok, gOf_ok ⟨impl_compareD_K k, trivial⟩⟩ rfl (by kernel_rfl) (by kernel_rfl) (by kernel_rfl) (by kernel_rfl) (by kernel_rfl) (by kernel_rfl) rfl (by kernel_rfl) (by kernel_rfl) (AnnOk_list [] (by kernel_rfl) trivial) mix_ok (impl_lesser_eq k)

noncomputable def impl_greater_V (k : Nat) : Variant := ⟨[.val ty_1 true, .val ty_1 true], [(ty_1, true)], fun x => impl_greater k x.1 x.2.1⟩
noncomputable def impl_greater_C (k : Nat) : Cfg := ⟨Tryz.prog, tyOf tys, 11, gOf [(174, [], impl_compareD_V k)], false, [], []⟩
def impl_greater_ps : List PE := [⟨0, 0, .val ty_1 true, false⟩, ⟨1, 16, .val ty_1 true, false⟩]
noncomputable def impl_greater_F (k : Nat) : Fn (Int × Int) := ⟨impl_greater_C k, rdRes Tryz.prog impl_greater_ps [(ty_1, true)] Tryz.f178.results.toList .ret, fun p => none, 0, []⟩
theorem impl_greater_eq (k : Nat) (x : PTe impl_greater_ps) : evFn (impl_greater_F k) (codeOf Tryz.f178) impl_greater_ps 32 x = impl_greater k x.1 x.2.1 := by kernel_rfl
theorem impl_greater_K (k : Nat) : Contract Tryz.prog 178 (impl_greater_V k) :=
  contract (C := impl_greater_C k) (F := impl_greater_F k) (fn := Tryz.f178) (c := codeOf Tryz.f178) (ps := impl_greater_ps) (rs := [(ty_1, true)]) (nx := 32) ⟨tyOf_ok tys_ok, gOf_ok ⟨impl_compareD_K k, trivial⟩⟩ rfl (by kernel_rfl) (by kernel_rfl) (by kernel_rfl) (by kernel_rfl) (by kernel_rfl) (by kernel_rfl) rfl (by kernel_rfl) (by kernel_rfl) (AnnOk_list [] (by kernel_rfl) trivial) mix_ok (impl_greater_eq k)

noncomputable def impl_roundDown_V (k : Nat) : Variant := ⟨[.val ty_1 true, .val ty_0 false], [(ty_1, true)], fun x => impl_roundDown k x.1 x.2.1⟩
noncomputable def impl_roundDown_C (k : Nat) : Cfg := ⟨Tryz.prog, tyOf tys, 26, gOf [(187, [], impl_wideOf_V), (190, [], impl_wide_fit_V k)], false, [], []⟩
def impl_roundDown_ps : List PE := [⟨0, 0, .val ty_1 true, false⟩, ⟨1, 16, .val ty_0 false, false⟩]
noncomputable def impl_roundDown_F (k : Nat) : Fn (Int × Int) := ⟨impl_roundDown_C k, rdRes Tryz.prog impl_roundDown_ps [(ty_1, true)] Tryz.f231.results.toList .ret, fun p => none, 0, []⟩
theorem impl_roundDown_eq (k : Nat) (x : PTe impl_roundDown_ps) : evFn (impl_roundDown_F k) (codeOf Tryz.f231) impl_roundDown_ps 32 x = impl_roundDown k x.1 x.2.1 := by kernel_rfl
theorem impl_roundDown_K (k : Nat) : Contract Tryz.prog 231 (impl_roundDown_V k) :=
  contract (C := impl_roundDown_C k) (F := impl_roundDown_F k) (fn := Tryz.f231) (c := codeOf Tryz.f231) (ps := impl_roundDown_ps) (rs := [(ty_1, true)]) (nx := 32) ⟨tyOf_ok tys_ok, gOf_ok ⟨impl_wideOf_K, impl_wide_fit_K k, trivial⟩⟩ rfl (by kernel_rfl) (by kernel_rfl) (by kernel_rfl) (by kernel_rfl) (by kernel_rfl) (by kernel_rfl) rfl (by kernel_rfl) (by kernel_rfl) (AnnOk_list [] (by kernel_rfl) trivial) mix_ok (impl_roundDown_eq k)

noncomputable def impl_minus_V : Variant := ⟨[.val ty_1 true], [(ty_1, true)], fun x => impl_minus x.1⟩
noncomputable def impl_minus_C : Cfg := ⟨Tryz.prog, tyOf tys, 9, gOf [], false, [], []⟩
def impl_minus_ps : List PE := [⟨0, 0, .val ty_1 true, false⟩]
noncomputable def impl_minus_F : Fn (Int × Int) := ⟨impl_minus_C, rdRes Tryz.prog impl_minus_ps [(ty_1, true)] Tryz.f232.results.toList .ret, fun p => none, 0, []⟩
theorem impl_minus_eq (x : PTe impl_minus_ps) : evFn (impl_minus_F) (codeOf Tryz.f232) impl_minus_ps 16 x = impl_minus x.1 := by kernel_rfl
theorem impl_minus_K : Contract Tryz.prog 232 (impl_minus_V) :=
  contract (C := impl_minus_C) (F := impl_minus_F) (fn := Tryz.f232) (c := codeOf Tryz.f232) (ps := impl_minus_ps) (rs := [(ty_1, true)]) (nx := 16) ⟨tyOf_ok tys_ok, gOf_ok trivial⟩ rfl (by kernel_rfl) (by kernel_rfl) (by kernel_rfl) (by kernel_rfl) (by kernel_rfl) (by kernel_rfl) rfl (by kernel_rfl) (by kernel_rfl) (AnnOk_list [] (by kernel_rfl) trivial) mix_ok (impl_minus_eq)

noncomputable def impl_roundOut_V (k : Nat) : Variant := ⟨[.val ty_4 true, .val ty_0 false], [(ty_4, true)], fun x => impl_roundOut k x.1 x.2.1⟩
noncomputable def impl_roundOut_C (k : Nat) : Cfg := ⟨Tryz.prog, tyOf tys, 16, gOf [(231, [], impl_roundDown_V k), (232, [], impl_minus_V)], false, [], []⟩
def impl_roundOut_ps : List PE := [⟨0, 0, .val ty_4 true, false⟩, ⟨1, 16, .val ty_0 false, false⟩]
noncomputable def impl_roundOut_F (k : Nat) : Fn ((Int × Int) × Int × Int) := ⟨impl_roundOut_C k, rdRes Tryz.prog impl_roundOut_ps [(ty_4, true)] Tryz.f176.results.toList .ret, fun p => none, 0, []⟩
theorem impl_roundOut_eq (k : Nat) (x : PTe impl_roundOut_ps) : evFn (impl_roundOut_F k) (codeOf Tryz.f176) impl_roundOut_ps 32 x = impl_roundOut k x.1 x.2.1 := by kernel_rfl
theorem impl_roundOut_K (k : Nat) : Contract Tryz.prog 176 (impl_roundOut_V k) :=
  contract (C := impl_roundOut_C k) (F := impl_roundOut_F k) (fn := Tryz.f176) (c := codeOf Tryz.f176) (ps := impl_roundOut_ps) (rs := [(ty_4, true)]) (nx := 32) ⟨tyOf_ok tys_ok, gOf_ok ⟨impl_roundDown_K k, impl_minus_K, trivial⟩⟩ rfl (by kernel_rfl) (by kernel_rfl) (by kernel_rfl) (by kernel_rfl) (by kernel_rfl) (by kernel_rfl) rfl (by kernel_rfl) (by kernel_rfl) (AnnOk_list [] (by kernel_rfl) trivial) mix_ok (impl_roundOut_eq k)

noncomputable def impl_reckoner_multiply_V (k : Nat) : Variant := ⟨[.ptr .bool true, .val ty_4 true, .val ty_4 true], [(ty_4, true)], fun x => impl_reckoner_multiply k x.1 x.2.1 x.2.2.1⟩
noncomputable def impl_reckoner_multiply_C (k : Nat) : Cfg := ⟨Tryz.prog, tyOf tys, 51, gOf [(175, [], impl_reckoner_product_V k), (177, [], impl_lesser_V k), (178, [], impl_greater_V k), (176, [], impl_roundOut_V k)], false, [], []⟩
def impl_reckoner_multiply_ps : List PE := [⟨0, 0, .ptr .bool true, true⟩, ⟨1, 16, .val ty_4 true, false⟩, ⟨2, 32, .val ty_4 true, false⟩]
noncomputable def impl_reckoner_multiply_F (k : Nat) : Fn (((Int × Int) × Int × Int) × Bool) := ⟨impl_reckoner_multiply_C k, rdRes Tryz.prog impl_reckoner_multiply_ps [(ty_4, true)] Tryz.f116.results.toList .ret, fun p => none, 0, [0]⟩
theorem impl_reckoner_multiply_eq (k : Nat) (x : PTe impl_reckoner_multiply_ps) : evFn (impl_reckoner_multiply_F k) (codeOf Tryz.f116) impl_reckoner_multiply_ps 48 x = impl_reckoner_multiply k x.1 x.2.1 x.2.2.1 := by kernel_rfl
theorem impl_reckoner_multiply_K (k : Nat) : Contract Tryz.prog 116 (impl_reckoner_multiply_V k) :=
  contract (C := impl_reckoner_multiply_C k) (F := impl_reckoner_multiply_F k) (fn := Tryz.f116) (c := codeOf Tryz.f116) (ps := impl_reckoner_multiply_ps) (rs := [(ty_4, true)]) (nx := 48) ⟨tyOf_ok tys_ok, gOf_ok ⟨impl_reckoner_product_K k, impl_lesser_K k, impl_greater_K k, impl_roundOut_K k, trivial⟩⟩ rfl (by kernel_rfl) (by kernel_rfl) (by kernel_rfl) (by kernel_rfl) (by kernel_rfl) (by kernel_rfl) rfl (by kernel_rfl) (by kernel_rfl) (AnnOk_list [] (by kernel_rfl) trivial) mix_ok (impl_reckoner_multiply_eq k)

noncomputable def math_bits_Add64_V : Variant := V64 math_bits_Add64
theorem math_bits_Add64_K : Contract Tryz.prog 242 math_bits_Add64_V := contractAdd64 (fn := Tryz.f242) (by kernel_rfl) (by kernel_rfl) (by kernel_rfl) (by kernel_rfl) (by kernel_rfl)

noncomputable def math_bits_Sub64_V : Variant := V64 math_bits_Sub64
theorem math_bits_Sub64_K : Contract Tryz.prog 244 math_bits_Sub64_V := contractSub64 (fn := Tryz.f244) (by kernel_rfl) (by kernel_rfl) (by kernel_rfl) (by kernel_rfl) (by kernel_rfl)

noncomputable def impl_wide_add_V (k : Nat) : Variant := ⟨[.val ty_12 true, .val ty_12 true], [(ty_12, true)], fun x => impl_wide_add k x.1 x.2.1⟩
noncomputable def impl_wide_add_C (k : Nat) : Cfg := ⟨Tryz.prog, tyOf tys, 68, gOf [(242, [], math_bits_Add64_V), (243, [], impl_compareSizes_V k), (244, [], math_bits_Sub64_V)], false, [], []⟩
def impl_wide_add_ps : List PE := [⟨0, 0, .val ty_12 true, false⟩, ⟨1, 16, .val ty_12 true, false⟩]
noncomputable def impl_wide_add_F (k : Nat) : Fn (Bool × Int × Int) := ⟨impl_wide_add_C k, rdRes Tryz.prog impl_wide_add_ps [(ty_12, true)] Tryz.f189.results.toList .ret, fun p => bif Nat.beq p 14 then some (.cut [⟨2, 32, .box ty_12 false, false⟩, ⟨3, 48, .box ty_12 false, false⟩, ⟨4, 64, .box ty_12 false, false⟩] 80) else none, 0, []⟩
theorem impl_wide_add_eq (k : Nat) (x : PTe impl_wide_add_ps) : evFn (impl_wide_add_F k) (codeOf Tryz.f189) impl_wide_add_ps 32 x = impl_wide_add k x.1 x.2.1 := by kernel_rfl
theorem impl_wide_add_K (k : Nat) : Contract Tryz.prog 189 (impl_wide_add_V k) :=
  contract (C := impl_wide_add_C k) (F := impl_wide_add_F k) (fn := Tryz.f189) (c := codeOf Tryz.f189) (ps := impl_wide_add_ps) (rs := [(ty_12, true)]) (nx := 32) ⟨tyOf_ok tys_ok, gOf_ok ⟨math_bits_Add64_K, impl_compareSizes_K k, math_bits_Sub64_K, trivial⟩⟩ rfl (by kernel_rfl) (by kernel_rfl) (by kernel_rfl) (by kernel_rfl) (by kernel_rfl) (by kernel_rfl) rfl (by kernel_rfl) (by kernel_rfl) (AnnOk_list [] (by kernel_rfl) trivial) mix_ok (impl_wide_add_eq k)

noncomputable def impl_sumOf_V (k : Nat) : Variant := ⟨[.val ty_1 true, .val ty_1 true], [(ty_1, true), (.bool, false)], fun x => impl_sumOf k x.1 x.2.1⟩
noncomputable def impl_sumOf_C (k : Nat) : Cfg := ⟨Tryz.prog, tyOf tys, 33, gOf [(187, [], impl_wideOf_V), (188, [], impl_wide_shift_V), (189, [], impl_wide_add_V k), (190, [], impl_wide_fit_V k)], false, [], []⟩
def impl_sumOf_ps : List PE := [⟨0, 0, .val ty_1 true, false⟩, ⟨1, 16, .val ty_1 true, false⟩]
noncomputable def impl_sumOf_F (k : Nat) : Fn ((Int × Int) × Bool) := ⟨impl_sumOf_C k, rdRes Tryz.prog impl_sumOf_ps [(ty_1, true), (.bool, false)] Tryz.f233.results.toList .ret, fun p => none, 0, []⟩
theorem impl_sumOf_eq (k : Nat) (x : PTe impl_sumOf_ps) : evFn (impl_sumOf_F k) (codeOf Tryz.f233) impl_sumOf_ps 32 x = impl_sumOf k x.1 x.2.1 := by kernel_rfl
theorem impl_sumOf_K (k : Nat) : Contract Tryz.prog 233 (impl_sumOf_V k) :=
  contract (C := impl_sumOf_C k) (F := impl_sumOf_F k) (fn := Tryz.f233) (c := codeOf Tryz.f233) (ps := impl_sumOf_ps) (rs := [(ty_1, true), (.bool, false)]) (nx := 32) ⟨tyOf_ok tys_ok, gOf_ok ⟨impl_wideOf_K, impl_wide_shift_K, impl_wide_add_K k, impl_wide_fit_K k, trivial⟩⟩ rfl (by kernel_rfl) (by kernel_rfl) (by kernel_rfl) (by kernel_rfl) (by kernel_rfl) (by kernel_rfl) rfl (by kernel_rfl) (by kernel_rfl) (AnnOk_list [] (by kernel_rfl) trivial) mix_ok (impl_sumOf_eq k)

noncomputable def impl_reckoner_sum_V (k : Nat) : Variant := ⟨[.ptr .bool true, .val ty_1 true, .val ty_1 true], [(ty_1, true)], fun x => impl_reckoner_sum k x.1 x.2.1 x.2.2.1⟩
noncomputable def impl_reckoner_sum_C (k : Nat) : Cfg := ⟨Tryz.prog, tyOf tys, 14, gOf [(233, [], impl_sumOf_V k), (126, [], impl_reckoner_keep_V)], false, [], []⟩
def impl_reckoner_sum_ps : List PE := [⟨0, 0, .ptr .bool true, true⟩, ⟨1, 16, .val ty_1 true, false⟩, ⟨2, 32, .val ty_1 true, false⟩]
noncomputable def impl_reckoner_sum_F (k : Nat) : Fn ((Int × Int) × Bool) := ⟨impl_reckoner_sum_C k, rdRes Tryz.prog impl_reckoner_sum_ps [(ty_1, true)] Tryz.f179.results.toList .ret, fun p => none, 0, [0]⟩
theorem impl_reckoner_sum_eq (k : Nat) (x : PTe impl_reckoner_sum_ps) : evFn (impl_reckoner_sum_F k) (codeOf Tryz.f179) impl_reckoner_sum_ps 48 x = impl_reckoner_sum k x.1 x.2.1 x.2.2.1 := by kernel_rfl
theorem impl_reckoner_sum_K (k : Nat) : Contract Tryz.prog 179 (impl_reckoner_sum_V k) :=
  contract (C := impl_reckoner_sum_C k) (F := impl_reckoner_sum_F k) (fn := Tryz.f179) (c := codeOf Tryz.f179) (ps := impl_reckoner_sum_ps) (rs := [(ty_1, true)]) (nx := 48) ⟨tyOf_ok tys_ok, gOf_ok ⟨impl_sumOf_K k, impl_reckoner_keep_K, trivial⟩⟩ rfl (by kernel_rfl) (by kernel_rfl) (by kernel_rfl) (by kernel_rfl) (by kernel_rfl) (by kernel_rfl) rfl (by kernel_rfl) (by kernel_rfl) (AnnOk_list [] (by kernel_rfl) trivial) mix_ok (impl_reckoner_sum_eq k)

noncomputable def impl_reckoner_add_V (k : Nat) : Variant := ⟨[.ptr .bool true, .val ty_4 true, .val ty_4 true], [(ty_4, true)], fun x => impl_reckoner_add k x.1 x.2.1 x.2.2.1⟩
noncomputable def impl_reckoner_add_C (k : Nat) : Cfg := ⟨Tryz.prog, tyOf tys, 20, gOf [(179, [], impl_reckoner_sum_V k)], false, [], []⟩
def impl_reckoner_add_ps : List PE := [⟨0, 0, .ptr .bool true, true⟩, ⟨1, 16, .val ty_4 true, false⟩, ⟨2, 32, .val ty_4 true, false⟩]
noncomputable def impl_reckoner_add_F (k : Nat) : Fn (((Int × Int) × Int × Int) × Bool) := ⟨impl_reckoner_add_C k, rdRes Tryz.prog impl_reckoner_add_ps [(ty_4, true)] Tryz.f118.results.toList .ret, fun p => none, 0, [0]⟩
theorem impl_reckoner_add_eq (k : Nat) (x : PTe impl_reckoner_add_ps) : evFn (impl_reckoner_add_F k) (codeOf Tryz.f118) impl_reckoner_add_ps 48 x = impl_reckoner_add k x.1 x.2.1 x.2.2.1 := by kernel_rfl
theorem impl_reckoner_add_K (k : Nat) : Contract Tryz.prog 118 (impl_reckoner_add_V k) :=
  contract (C := impl_reckoner_add_C k) (F := impl_reckoner_add_F k) (fn := Tryz.f118) (c := codeOf Tryz.f118) (ps := impl_reckoner_add_ps) (rs := [(ty_4, true)]) (nx := 48) ⟨tyOf_ok tys_ok, gOf_ok ⟨impl_reckoner_sum_K k, trivial⟩⟩ rfl (by kernel_rfl) (by kernel_rfl) (by kernel_rfl) (by kernel_rfl) (by kernel_rfl) (by kernel_rfl) rfl (by kernel_rfl) (by kernel_rfl) (AnnOk_list [] (by kernel_rfl) trivial) mix_ok (impl_reckoner_add_eq k)

noncomputable def impl_timesIntervals_V (k : Nat) : Variant := ⟨[.val ty_3 false, .val ty_6 false], [(ty_6, false), (.bool, false)], fun x => impl_timesIntervals k x.1 x.2.1⟩
noncomputable def impl_timesIntervals_C (k : Nat) : Cfg := ⟨Tryz.prog, tyOf tys, 82, gOf [(117, [], impl_single_V), (116, [], impl_reckoner_multiply_V k), (118, [], impl_reckoner_add_V k)], false, [], []⟩
def impl_timesIntervals_i128346522 : List PE := [⟨0, 32, .val ty_3 false, false⟩, ⟨1, 48, .val ty_6 false, false⟩, ⟨6, 64, .box .bool false, false⟩, ⟨7, 80, .eat ty_5, false⟩, ⟨8, 96, .val ty_0 false, false⟩, ⟨9, 112, .eat ty_4, false⟩, ⟨10, 128, .val ty_0 false, false⟩, ⟨11, 144, .box ty_4 false, false⟩, ⟨12, 160, .val ty_0 false, false⟩, ⟨16, 176, .val ty_0 false, false⟩, ⟨17, 192, .val ty_0 false, false⟩, ⟨21, 208, .val ty_0 false, false⟩, ⟨22, 224, .val ty_0 false, false⟩]
def impl_timesIntervals_o128346522 : List PE := [⟨0, 32, .val ty_3 false, false⟩, ⟨1, 48, .val ty_6 false, false⟩, ⟨6, 64, .box .bool false, false⟩, ⟨7, 80, .eat ty_5, false⟩, ⟨8, 96, .val ty_0 false, false⟩, ⟨9, 112, .eat ty_4, false⟩, ⟨11, 128, .box ty_4 false, false⟩, ⟨16, 144, .val ty_0 false, false⟩, ⟨17, 160, .val ty_0 false, false⟩, ⟨21, 176, .val ty_0 false, false⟩, ⟨22, 192, .val ty_0 false, false⟩]
noncomputable def impl_timesIntervals_f128346522 (k : Nat) (n : Nat) (x6 : PTe impl_timesIntervals_i128346522) : Option (((List (List ((Int × Int) × Int × Int))) × Bool) ⊕ PTe impl_timesIntervals_o128346522) := impl_timesIntervals_L128346522 k n x6.1 x6.2.1 x6.2.2.1 x6.2.2.2.1 x6.2.2.2.2.1 x6.2.2.2.2.2.1 x6.2.2.2.2.2.2.1 x6.2.2.2.2.2.2.2.1 x6.2.2.2.2.2.2.2.2.1 x6.2.2.2.2.2.2.2.2.2.1 x6.2.2.2.2.2.2.2.2.2.2.1 x6.2.2.2.2.2.2.2.2.2.2.2.1 x6.2.2.2.2.2.2.2.2.2.2.2.2.1
def impl_timesIntervals_i125338 : List PE := [⟨0, 32, .val ty_3 false, false⟩, ⟨1, 48, .val ty_6 false, false⟩, ⟨6, 64, .box .bool false, false⟩, ⟨7, 80, .eat ty_5, false⟩, ⟨8, 96, .val ty_0 false, false⟩, ⟨9, 112, .eat ty_4, false⟩, ⟨16, 128, .val ty_0 false, false⟩, ⟨17, 144, .val ty_0 false, false⟩, ⟨21, 160, .val ty_0 false, false⟩, ⟨22, 176, .val ty_0 false, false⟩]
def impl_timesIntervals_o125338 : List PE := [⟨0, 32, .val ty_3 false, false⟩, ⟨1, 48, .val ty_6 false, false⟩, ⟨6, 64, .box .bool false, false⟩, ⟨7, 80, .eat ty_5, false⟩, ⟨9, 96, .eat ty_4, false⟩, ⟨16, 112, .val ty_0 false, false⟩, ⟨17, 128, .val ty_0 false, false⟩]
noncomputable def impl_timesIntervals_f125338 (k : Nat) (n : Nat) (x9 : PTe impl_timesIntervals_i125338) : Option (((List (List ((Int × Int) × Int × Int))) × Bool) ⊕ PTe impl_timesIntervals_o125338) := impl_timesIntervals_L125338 k n x9.1 x9.2.1 x9.2.2.1 x9.2.2.2.1 x9.2.2.2.2.1 x9.2.2.2.2.2.1 x9.2.2.2.2.2.2.1 x9.2.2.2.2.2.2.2.1 x9.2.2.2.2.2.2.2.2.1 x9.2.2.2.2.2.2.2.2.2.1
def impl_timesIntervals_i122 : List PE := [⟨0, 32, .val ty_3 false, false⟩, ⟨1, 48, .val ty_6 false, false⟩, ⟨6, 64, .box .bool false, false⟩, ⟨7, 80, .eat ty_5, false⟩, ⟨16, 96, .val ty_0 false, false⟩, ⟨17, 112, .val ty_0 false, false⟩]
def impl_timesIntervals_o122 : List PE := [⟨6, 32, .box .bool false, false⟩, ⟨7, 48, .eat ty_5, false⟩]
noncomputable def impl_timesIntervals_f122 (k : Nat) (n : Nat) (x12 : PTe impl_timesIntervals_i122) : Option (((List (List ((Int × Int) × Int × Int))) × Bool) ⊕ PTe impl_timesIntervals_o122) := impl_timesIntervals_L122 k n x12.1 x12.2.1 x12.2.2.1 x12.2.2.2.1 x12.2.2.2.2.1 x12.2.2.2.2.2.1
def impl_timesIntervals_ps : List PE := [⟨0, 0, .val ty_3 false, false⟩, ⟨1, 16, .val ty_6 false, false⟩]
noncomputable def impl_timesIntervals_F (k : Nat) : Fn ((List (List ((Int × Int) × Int × Int))) × Bool) := ⟨impl_timesIntervals_C k, rdRes Tryz.prog impl_timesIntervals_ps [(ty_6, false), (.bool, false)] Tryz.f68.results.toList .ret, fun p => bif Nat.beq p 128346522 then some (.loop impl_timesIntervals_i128346522 impl_timesIntervals_o128346522 4 240 (impl_timesIntervals_f128346522 k k)) else bif Nat.beq p 125338 then some (.loop impl_timesIntervals_i125338 impl_timesIntervals_o125338 2 192 (impl_timesIntervals_f125338 k k)) else bif Nat.beq p 122 then some (.loop impl_timesIntervals_i122 impl_timesIntervals_o122 0 128 (impl_timesIntervals_f122 k k)) else none, 0, []⟩
theorem impl_timesIntervals_eq (k : Nat) (x : PTe impl_timesIntervals_ps) : evFn (impl_timesIntervals_F k) (codeOf Tryz.f68) impl_timesIntervals_ps 32 x = impl_timesIntervals k x.1 x.2.1 := by kernel_rfl
theorem impl_timesIntervals_ls : loopsOf (codeOf Tryz.f68) 1 = [(122, loopB (codeOf Tryz.f68) 122), (125338, loopB (codeOf Tryz.f68) 125338), (128346522, loopB (codeOf Tryz.f68) 128346522)] := by kernel_rfl
theorem impl_timesIntervals_l128346522 (k : Nat) : LoopOk (impl_timesIntervals_F k) (loopB (codeOf Tryz.f68) 128346522) 128346522 := LoopOk.mk (pin := impl_timesIntervals_i128346522) (pout := impl_timesIntervals_o128346522) (ex := 4) (nx := 240) (Lf := impl_timesIntervals_f128346522 k) (k := k) (by kernel_rfl) (fun _ => rfl) (by intro n x; kernel_rfl)
theorem impl_timesIntervals_l125338 (k : Nat) : LoopOk (impl_timesIntervals_F k) (loopB (codeOf Tryz.f68) 125338) 125338 := LoopOk.mk (pin := impl_timesIntervals_i125338) (pout := impl_timesIntervals_o125338) (ex := 2) (nx := 192) (Lf := impl_timesIntervals_f125338 k) (k := k) (by kernel_rfl) (fun _ => rfl) (by intro n x; kernel_rfl)
theorem impl_timesIntervals_l122 (k : Nat) : LoopOk (impl_timesIntervals_F k) (loopB (codeOf Tryz.f68) 122) 122 := LoopOk.mk (pin := impl_timesIntervals_i122) (pout := impl_timesIntervals_o122) (ex := 0) (nx := 128) (Lf := impl_timesIntervals_f122 k) (k := k) (by kernel_rfl) (fun _ => rfl) (by intro n x; kernel_rfl)
theorem impl_timesIntervals_K (k : Nat) : Contract Tryz.prog 68 (impl_timesIntervals_V k) :=
  contract (C := impl_timesIntervals_C k) (F := impl_timesIntervals_F k) (fn := Tryz.f68) (c := codeOf Tryz.f68) (ps := impl_timesIntervals_ps) (rs := [(ty_6, false), (.bool, false)]) (nx := 32) ⟨tyOf_ok tys_ok, gOf_ok ⟨impl_single_K, impl_reckoner_multiply_K k, impl_reckoner_add_K k, trivial⟩⟩ rfl (by kernel_rfl) (by kernel_rfl) (by kernel_rfl) (by kernel_rfl) (by kernel_rfl) (by kernel_rfl) rfl (by kernel_rfl) (by kernel_rfl) (AnnOk_list [(122, loopB (codeOf Tryz.f68) 122), (125338, loopB (codeOf Tryz.f68) 125338), (128346522, loopB (codeOf Tryz.f68) 128346522)] impl_timesIntervals_ls ⟨impl_timesIntervals_l122 k, impl_timesIntervals_l125338 k, impl_timesIntervals_l128346522 k, trivial⟩) mix_ok (impl_timesIntervals_eq k)

noncomputable def impl_TimesIntervals_V (k : Nat) : Variant := ⟨[.val ty_3 false, .val ty_6 false], [(ty_6, false), (.bool, false)], fun x => impl_TimesIntervals k x.1 x.2.1⟩
noncomputable def impl_TimesIntervals_C (k : Nat) : Cfg := ⟨Tryz.prog, tyOf tys, 26, gOf [(66, [], impl_isTable_V k), (67, [], impl_isIntervalTable_V k), (68, [], impl_timesIntervals_V k)], false, [], []⟩
def impl_TimesIntervals_ps : List PE := [⟨0, 0, .val ty_3 false, false⟩, ⟨1, 16, .val ty_6 false, false⟩]
noncomputable def impl_TimesIntervals_F (k : Nat) : Fn ((List (List ((Int × Int) × Int × Int))) × Bool) := ⟨impl_TimesIntervals_C k, rdRes Tryz.prog impl_TimesIntervals_ps [(ty_6, false), (.bool, false)] Tryz.f22.results.toList .ret, fun p => none, 0, []⟩
theorem impl_TimesIntervals_eq (k : Nat) (x : PTe impl_TimesIntervals_ps) : evFn (impl_TimesIntervals_F k) (codeOf Tryz.f22) impl_TimesIntervals_ps 32 x = impl_TimesIntervals k x.1 x.2.1 := by kernel_rfl
theorem impl_TimesIntervals_K (k : Nat) : Contract Tryz.prog 22 (impl_TimesIntervals_V k) :=
  contract (C := impl_TimesIntervals_C k) (F := impl_TimesIntervals_F k) (fn := Tryz.f22) (c := codeOf Tryz.f22) (ps := impl_TimesIntervals_ps) (rs := [(ty_6, false), (.bool, false)]) (nx := 32) ⟨tyOf_ok tys_ok, gOf_ok ⟨impl_isTable_K k, impl_isIntervalTable_K k, impl_timesIntervals_K k, trivial⟩⟩ rfl (by kernel_rfl) (by kernel_rfl) (by kernel_rfl) (by kernel_rfl) (by kernel_rfl) (by kernel_rfl) rfl (by kernel_rfl) (by kernel_rfl) (AnnOk_list [] (by kernel_rfl) trivial) mix_ok (impl_TimesIntervals_eq k)

noncomputable def laws_eqDyadic_V : Variant := ⟨[.val ty_1 true, .val ty_1 true], [(.bool, false)], fun x => laws_eqDyadic x.1 x.2.1⟩
noncomputable def laws_eqDyadic_C : Cfg := ⟨Tryz.prog, tyOf tys, 15, gOf [], false, [], []⟩
def laws_eqDyadic_ps : List PE := [⟨0, 0, .val ty_1 true, false⟩, ⟨1, 16, .val ty_1 true, false⟩]
noncomputable def laws_eqDyadic_F : Fn (Bool) := ⟨laws_eqDyadic_C, rdRes Tryz.prog laws_eqDyadic_ps [(.bool, false)] Tryz.f128.results.toList .ret, fun p => none, 0, []⟩
theorem laws_eqDyadic_eq (x : PTe laws_eqDyadic_ps) : evFn (laws_eqDyadic_F) (codeOf Tryz.f128) laws_eqDyadic_ps 32 x = laws_eqDyadic x.1 x.2.1 := by kernel_rfl
theorem laws_eqDyadic_K : Contract Tryz.prog 128 (laws_eqDyadic_V) :=
  contract (C := laws_eqDyadic_C) (F := laws_eqDyadic_F) (fn := Tryz.f128) (c := codeOf Tryz.f128) (ps := laws_eqDyadic_ps) (rs := [(.bool, false)]) (nx := 32) ⟨tyOf_ok tys_ok, gOf_ok trivial⟩ rfl (by kernel_rfl) (by kernel_rfl) (by kernel_rfl) (by kernel_rfl) (by kernel_rfl) (by kernel_rfl) rfl (by kernel_rfl) (by kernel_rfl) (AnnOk_list [] (by kernel_rfl) trivial) mix_ok (laws_eqDyadic_eq)

noncomputable def laws_eqInterval_V : Variant := ⟨[.val ty_4 true, .val ty_4 true], [(.bool, false)], fun x => laws_eqInterval x.1 x.2.1⟩
noncomputable def laws_eqInterval_C : Cfg := ⟨Tryz.prog, tyOf tys, 17, gOf [(128, [], laws_eqDyadic_V)], false, [], []⟩
def laws_eqInterval_ps : List PE := [⟨0, 0, .val ty_4 true, false⟩, ⟨1, 16, .val ty_4 true, false⟩]
noncomputable def laws_eqInterval_F : Fn (Bool) := ⟨laws_eqInterval_C, rdRes Tryz.prog laws_eqInterval_ps [(.bool, false)] Tryz.f119.results.toList .ret, fun p => none, 0, []⟩
theorem laws_eqInterval_eq (x : PTe laws_eqInterval_ps) : evFn (laws_eqInterval_F) (codeOf Tryz.f119) laws_eqInterval_ps 32 x = laws_eqInterval x.1 x.2.1 := by kernel_rfl
theorem laws_eqInterval_K : Contract Tryz.prog 119 (laws_eqInterval_V) :=
  contract (C := laws_eqInterval_C) (F := laws_eqInterval_F) (fn := Tryz.f119) (c := codeOf Tryz.f119) (ps := laws_eqInterval_ps) (rs := [(.bool, false)]) (nx := 32) ⟨tyOf_ok tys_ok, gOf_ok ⟨laws_eqDyadic_K, trivial⟩⟩ rfl (by kernel_rfl) (by kernel_rfl) (by kernel_rfl) (by kernel_rfl) (by kernel_rfl) (by kernel_rfl) rfl (by kernel_rfl) (by kernel_rfl) (AnnOk_list [] (by kernel_rfl) trivial) mix_ok (laws_eqInterval_eq)

noncomputable def laws_eqIntervalS_V (k : Nat) : Variant := ⟨[.val ty_5 false, .val ty_5 false], [(.bool, false)], fun x => laws_eqIntervalS k x.1 x.2.1⟩
noncomputable def laws_eqIntervalS_C (k : Nat) : Cfg := ⟨Tryz.prog, tyOf tys, 27, gOf [(119, [], laws_eqInterval_V)], false, [], []⟩
def laws_eqIntervalS_i58 : List PE := [⟨0, 32, .val ty_5 false, false⟩, ⟨1, 48, .val ty_5 false, false⟩, ⟨5, 64, .val ty_0 false, false⟩]
def laws_eqIntervalS_o58 : List PE := []
noncomputable def laws_eqIntervalS_f58 (k : Nat) (n : Nat) (x2 : PTe laws_eqIntervalS_i58) : Option ((Bool) ⊕ PTe laws_eqIntervalS_o58) := laws_eqIntervalS_L58 k n x2.1 x2.2.1 x2.2.2.1
def laws_eqIntervalS_ps : List PE := [⟨0, 0, .val ty_5 false, false⟩, ⟨1, 16, .val ty_5 false, false⟩]
noncomputable def laws_eqIntervalS_F (k : Nat) : Fn (Bool) := ⟨laws_eqIntervalS_C k, rdRes Tryz.prog laws_eqIntervalS_ps [(.bool, false)] Tryz.f69.results.toList .ret, fun p => bif Nat.beq p 58 then some (.loop laws_eqIntervalS_i58 laws_eqIntervalS_o58 0 80 (laws_eqIntervalS_f58 k k)) else none, 0, []⟩
theorem laws_eqIntervalS_eq (k : Nat) (x : PTe laws_eqIntervalS_ps) : evFn (laws_eqIntervalS_F k) (codeOf Tryz.f69) laws_eqIntervalS_ps 32 x = laws_eqIntervalS k x.1 x.2.1 := by kernel_rfl
theorem laws_eqIntervalS_ls : loopsOf (codeOf Tryz.f69) 1 = [(58, loopB (codeOf Tryz.f69) 58)] := by kernel_rfl
theorem laws_eqIntervalS_l58 (k : Nat) : LoopOk (laws_eqIntervalS_F k) (loopB (codeOf Tryz.f69) 58) 58 := LoopOk.mk (pin := laws_eqIntervalS_i58) (pout := laws_eqIntervalS_o58) (ex := 0) (nx := 80) (Lf := laws_eqIntervalS_f58 k) (k := k) (by kernel_rfl) (fun _ => rfl) (by intro n x; kernel_rfl)
theorem laws_eqIntervalS_K (k : Nat) : Contract Tryz.prog 69 (laws_eqIntervalS_V k) :=
  contract (C := laws_eqIntervalS_C k) (F := laws_eqIntervalS_F k) (fn := Tryz.f69) (c := codeOf Tryz.f69) (ps := laws_eqIntervalS_ps) (rs := [(.bool, false)]) (nx := 32) ⟨tyOf_ok tys_ok, gOf_ok ⟨laws_eqInterval_K, trivial⟩⟩ rfl (by kernel_rfl) (by kernel_rfl) (by kernel_rfl) (by kernel_rfl) (by kernel_rfl) (by kernel_rfl) rfl (by kernel_rfl) (by kernel_rfl) (AnnOk_list [(58, loopB (codeOf Tryz.f69) 58)] laws_eqIntervalS_ls ⟨laws_eqIntervalS_l58 k, trivial⟩) mix_ok (laws_eqIntervalS_eq k)

noncomputable def laws_eqIntervalSS_V (k : Nat) : Variant := ⟨[.val ty_6 false, .val ty_6 false], [(.bool, false)], fun x => laws_eqIntervalSS k x.1 x.2.1⟩
noncomputable def laws_eqIntervalSS_C (k : Nat) : Cfg := ⟨Tryz.prog, tyOf tys, 27, gOf [(69, [], laws_eqIntervalS_V k)], false, [], []⟩
def laws_eqIntervalSS_i58 : List PE := [⟨0, 32, .val ty_6 false, false⟩, ⟨1, 48, .val ty_6 false, false⟩, ⟨5, 64, .val ty_0 false, false⟩]
def laws_eqIntervalSS_o58 : List PE := []
noncomputable def laws_eqIntervalSS_f58 (k : Nat) (n : Nat) (x2 : PTe laws_eqIntervalSS_i58) : Option ((Bool) ⊕ PTe laws_eqIntervalSS_o58) := laws_eqIntervalSS_L58 k n x2.1 x2.2.1 x2.2.2.1
def laws_eqIntervalSS_ps : List PE := [⟨0, 0, .val ty_6 false, false⟩, ⟨1, 16, .val ty_6 false, false⟩]
noncomputable def laws_eqIntervalSS_F (k : Nat) : Fn (Bool) := ⟨laws_eqIntervalSS_C k, rdRes Tryz.prog laws_eqIntervalSS_ps [(.bool, false)] Tryz.f23.results.toList .ret, fun p => bif Nat.beq p 58 then some (.loop laws_eqIntervalSS_i58 laws_eqIntervalSS_o58 0 80 (laws_eqIntervalSS_f58 k k)) else none, 0, []⟩
theorem laws_eqIntervalSS_eq (k : Nat) (x : PTe laws_eqIntervalSS_ps) : evFn (laws_eqIntervalSS_F k) (codeOf Tryz.f23) laws_eqIntervalSS_ps 32 x = laws_eqIntervalSS k x.1 x.2.1 := by kernel_rfl
theorem laws_eqIntervalSS_ls : loopsOf (codeOf Tryz.f23) 1 = [(58, loopB (codeOf Tryz.f23) 58)] := by kernel_rfl
theorem laws_eqIntervalSS_l58 (k : Nat) : LoopOk (laws_eqIntervalSS_F k) (loopB (codeOf Tryz.f23) 58) 58 := LoopOk.mk (pin := laws_eqIntervalSS_i58) (pout := laws_eqIntervalSS_o58) (ex := 0) (nx := 80) (Lf := laws_eqIntervalSS_f58 k) (k := k) (by kernel_rfl) (fun _ => rfl) (by intro n x; kernel_rfl)
theorem laws_eqIntervalSS_K (k : Nat) : Contract Tryz.prog 23 (laws_eqIntervalSS_V k) :=
  contract (C := laws_eqIntervalSS_C k) (F := laws_eqIntervalSS_F k) (fn := Tryz.f23) (c := codeOf Tryz.f23) (ps := laws_eqIntervalSS_ps) (rs := [(.bool, false)]) (nx := 32) ⟨tyOf_ok tys_ok, gOf_ok ⟨laws_eqIntervalS_K k, trivial⟩⟩ rfl (by kernel_rfl) (by kernel_rfl) (by kernel_rfl) (by kernel_rfl) (by kernel_rfl) (by kernel_rfl) rfl (by kernel_rfl) (by kernel_rfl) (AnnOk_list [(58, loopB (codeOf Tryz.f23) 58)] laws_eqIntervalSS_ls ⟨laws_eqIntervalSS_l58 k, trivial⟩) mix_ok (laws_eqIntervalSS_eq k)

noncomputable def laws_eqDyadicS_V (k : Nat) : Variant := ⟨[.val ty_2 false, .val ty_2 false], [(.bool, false)], fun x => laws_eqDyadicS k x.1 x.2.1⟩
noncomputable def laws_eqDyadicS_C (k : Nat) : Cfg := ⟨Tryz.prog, tyOf tys, 27, gOf [(128, [], laws_eqDyadic_V)], false, [], []⟩
def laws_eqDyadicS_i58 : List PE := [⟨0, 32, .val ty_2 false, false⟩, ⟨1, 48, .val ty_2 false, false⟩, ⟨5, 64, .val ty_0 false, false⟩]
def laws_eqDyadicS_o58 : List PE := []
noncomputable def laws_eqDyadicS_f58 (k : Nat) (n : Nat) (x2 : PTe laws_eqDyadicS_i58) : Option ((Bool) ⊕ PTe laws_eqDyadicS_o58) := laws_eqDyadicS_L58 k n x2.1 x2.2.1 x2.2.2.1
def laws_eqDyadicS_ps : List PE := [⟨0, 0, .val ty_2 false, false⟩, ⟨1, 16, .val ty_2 false, false⟩]
noncomputable def laws_eqDyadicS_F (k : Nat) : Fn (Bool) := ⟨laws_eqDyadicS_C k, rdRes Tryz.prog laws_eqDyadicS_ps [(.bool, false)] Tryz.f80.results.toList .ret, fun p => bif Nat.beq p 58 then some (.loop laws_eqDyadicS_i58 laws_eqDyadicS_o58 0 80 (laws_eqDyadicS_f58 k k)) else none, 0, []⟩
theorem laws_eqDyadicS_eq (k : Nat) (x : PTe laws_eqDyadicS_ps) : evFn (laws_eqDyadicS_F k) (codeOf Tryz.f80) laws_eqDyadicS_ps 32 x = laws_eqDyadicS k x.1 x.2.1 := by kernel_rfl
theorem laws_eqDyadicS_ls : loopsOf (codeOf Tryz.f80) 1 = [(58, loopB (codeOf Tryz.f80) 58)] := by kernel_rfl
theorem laws_eqDyadicS_l58 (k : Nat) : LoopOk (laws_eqDyadicS_F k) (loopB (codeOf Tryz.f80) 58) 58 := LoopOk.mk (pin := laws_eqDyadicS_i58) (pout := laws_eqDyadicS_o58) (ex := 0) (nx := 80) (Lf := laws_eqDyadicS_f58 k) (k := k) (by kernel_rfl) (fun _ => rfl) (by intro n x; kernel_rfl)
theorem laws_eqDyadicS_K (k : Nat) : Contract Tryz.prog 80 (laws_eqDyadicS_V k) :=
  contract (C := laws_eqDyadicS_C k) (F := laws_eqDyadicS_F k) (fn := Tryz.f80) (c := codeOf Tryz.f80) (ps := laws_eqDyadicS_ps) (rs := [(.bool, false)]) (nx := 32) ⟨tyOf_ok tys_ok, gOf_ok ⟨laws_eqDyadic_K, trivial⟩⟩ rfl (by kernel_rfl) (by kernel_rfl) (by kernel_rfl) (by kernel_rfl) (by kernel_rfl) (by kernel_rfl) rfl (by kernel_rfl) (by kernel_rfl) (AnnOk_list [(58, loopB (codeOf Tryz.f80) 58)] laws_eqDyadicS_ls ⟨laws_eqDyadicS_l58 k, trivial⟩) mix_ok (laws_eqDyadicS_eq k)

noncomputable def laws_intactDyadicS_V (k : Nat) : Variant := ⟨[.val ty_7 false, .val ty_7 false], [(.bool, false)], fun x => laws_intactDyadicS k x.1 x.2.1⟩
noncomputable def laws_intactDyadicS_C (k : Nat) : Cfg := ⟨Tryz.prog, tyOf tys, 26, gOf [(48, [], laws_roomBehind_V), (80, [], laws_eqDyadicS_V k)], false, [], []⟩
def laws_intactDyadicS_ps : List PE := [⟨0, 0, .val ty_7 false, false⟩, ⟨1, 16, .val ty_7 false, false⟩]
noncomputable def laws_intactDyadicS_F (k : Nat) : Fn (Bool) := ⟨laws_intactDyadicS_C k, rdRes Tryz.prog laws_intactDyadicS_ps [(.bool, false)] Tryz.f70.results.toList .ret, fun p => none, 0, []⟩
theorem laws_intactDyadicS_eq (k : Nat) (x : PTe laws_intactDyadicS_ps) : evFn (laws_intactDyadicS_F k) (codeOf Tryz.f70) laws_intactDyadicS_ps 32 x = laws_intactDyadicS k x.1 x.2.1 := by kernel_rfl
theorem laws_intactDyadicS_K (k : Nat) : Contract Tryz.prog 70 (laws_intactDyadicS_V k) :=
  contract (C := laws_intactDyadicS_C k) (F := laws_intactDyadicS_F k) (fn := Tryz.f70) (c := codeOf Tryz.f70) (ps := laws_intactDyadicS_ps) (rs := [(.bool, false)]) (nx := 32) ⟨tyOf_ok tys_ok, gOf_ok ⟨laws_roomBehind_K, laws_eqDyadicS_K k, trivial⟩⟩ rfl (by kernel_rfl) (by kernel_rfl) (by kernel_rfl) (by kernel_rfl) (by kernel_rfl) (by kernel_rfl) rfl (by kernel_rfl) (by kernel_rfl) (AnnOk_list [] (by kernel_rfl) trivial) mix_ok (laws_intactDyadicS_eq k)

noncomputable def laws_eqDyadicSS_V (k : Nat) : Variant := ⟨[.val ty_3 false, .val ty_3 false], [(.bool, false)], fun x => laws_eqDyadicSS k x.1 x.2.1⟩
noncomputable def laws_eqDyadicSS_C (k : Nat) : Cfg := ⟨Tryz.prog, tyOf tys, 27, gOf [(80, [], laws_eqDyadicS_V k)], false, [], []⟩
def laws_eqDyadicSS_i58 : List PE := [⟨0, 32, .val ty_3 false, false⟩, ⟨1, 48, .val ty_3 false, false⟩, ⟨5, 64, .val ty_0 false, false⟩]
def laws_eqDyadicSS_o58 : List PE := []
noncomputable def laws_eqDyadicSS_f58 (k : Nat) (n : Nat) (x2 : PTe laws_eqDyadicSS_i58) : Option ((Bool) ⊕ PTe laws_eqDyadicSS_o58) := laws_eqDyadicSS_L58 k n x2.1 x2.2.1 x2.2.2.1
def laws_eqDyadicSS_ps : List PE := [⟨0, 0, .val ty_3 false, false⟩, ⟨1, 16, .val ty_3 false, false⟩]
noncomputable def laws_eqDyadicSS_F (k : Nat) : Fn (Bool) := ⟨laws_eqDyadicSS_C k, rdRes Tryz.prog laws_eqDyadicSS_ps [(.bool, false)] Tryz.f31.results.toList .ret, fun p => bif Nat.beq p 58 then some (.loop laws_eqDyadicSS_i58 laws_eqDyadicSS_o58 0 80 (laws_eqDyadicSS_f58 k k)) else none, 0, []⟩
theorem laws_eqDyadicSS_eq (k : Nat) (x : PTe laws_eqDyadicSS_ps) : evFn (laws_eqDyadicSS_F k) (codeOf Tryz.f31) laws_eqDyadicSS_ps 32 x = laws_eqDyadicSS k x.1 x.2.1 := by kernel_rfl
theorem laws_eqDyadicSS_ls : loopsOf (codeOf Tryz.f31) 1 = [(58, loopB (codeOf Tryz.f31) 58)] := by kernel_rfl
theorem laws_eqDyadicSS_l58 (k : Nat) : LoopOk (laws_eqDyadicSS_F k) (loopB (codeOf Tryz.f31) 58) 58 := LoopOk.mk (pin := laws_eqDyadicSS_i58) (pout := laws_eqDyadicSS_o58) (ex := 0) (nx := 80) (Lf := laws_eqDyadicSS_f58 k) (k := k) (by kernel_rfl) (fun _ => rfl) (by intro n x; kernel_rfl)
theorem laws_eqDyadicSS_K (k : Nat) : Contract Tryz.prog 31 (laws_eqDyadicSS_V k) :=
  contract (C := laws_eqDyadicSS_C k) (F := laws_eqDyadicSS_F k) (fn := Tryz.f31) (c := codeOf Tryz.f31) (ps := laws_eqDyadicSS_ps) (rs := [(.bool, false)]) (nx := 32) ⟨tyOf_ok tys_ok, gOf_ok ⟨laws_eqDyadicS_K k, trivial⟩⟩ rfl (by kernel_rfl) (by kernel_rfl) (by kernel_rfl) (by kernel_rfl) (by kernel_rfl) (by kernel_rfl) rfl (by kernel_rfl) (by kernel_rfl) (AnnOk_list [(58, loopB (codeOf Tryz.f31) 58)] laws_eqDyadicSS_ls ⟨laws_eqDyadicSS_l58 k, trivial⟩) mix_ok (laws_eqDyadicSS_eq k)

noncomputable def laws_intactDyadicSS_V (k : Nat) : Variant := ⟨[.val ty_13 false, .val ty_13 false], [(.bool, false)], fun x => laws_intactDyadicSS k x.1 x.2.1⟩
noncomputable def laws_intactDyadicSS_C (k : Nat) : Cfg := ⟨Tryz.prog, tyOf tys, 45, gOf [(48, [], laws_roomBehind_V), (70, [], laws_intactDyadicS_V k), (31, [], laws_eqDyadicSS_V k)], false, [], []⟩
def laws_intactDyadicSS_i122 : List PE := [⟨0, 32, .val ty_13 false, false⟩, ⟨1, 48, .val ty_13 false, false⟩, ⟨5, 64, .val ty_0 false, false⟩, ⟨6, 80, .val ty_0 false, false⟩]
def laws_intactDyadicSS_o122 : List PE := [⟨0, 32, .val ty_13 false, false⟩, ⟨1, 48, .val ty_13 false, false⟩, ⟨5, 64, .val ty_0 false, false⟩]
noncomputable def laws_intactDyadicSS_f122 (k : Nat) (n : Nat) (x3 : PTe laws_intactDyadicSS_i122) : Option ((Bool) ⊕ PTe laws_intactDyadicSS_o122) := laws_intactDyadicSS_L122 k n x3.1 x3.2.1 x3.2.2.1 x3.2.2.2.1
def laws_intactDyadicSS_ps : List PE := [⟨0, 0, .val ty_13 false, false⟩, ⟨1, 16, .val ty_13 false, false⟩]
noncomputable def laws_intactDyadicSS_F (k : Nat) : Fn (Bool) := ⟨laws_intactDyadicSS_C k, rdRes Tryz.prog laws_intactDyadicSS_ps [(.bool, false)] Tryz.f24.results.toList .ret, fun p => bif Nat.beq p 122 then some (.loop laws_intactDyadicSS_i122 laws_intactDyadicSS_o122 0 96 (laws_intactDyadicSS_f122 k k)) else none, 0, []⟩
theorem laws_intactDyadicSS_eq (k : Nat) (x : PTe laws_intactDyadicSS_ps) : evFn (laws_intactDyadicSS_F k) (codeOf Tryz.f24) laws_intactDyadicSS_ps 32 x = laws_intactDyadicSS k x.1 x.2.1 := by kernel_rfl
theorem laws_intactDyadicSS_ls : loopsOf (codeOf Tryz.f24) 1 = [(122, loopB (codeOf Tryz.f24) 122)] := by kernel_rfl
theorem laws_intactDyadicSS_l122 (k : Nat) : LoopOk (laws_intactDyadicSS_F k) (loopB (codeOf Tryz.f24) 122) 122 := LoopOk.mk (pin := laws_intactDyadicSS_i122) (pout := laws_intactDyadicSS_o122) (ex := 0) (nx := 96) (Lf := laws_intactDyadicSS_f122 k) (k := k) (by kernel_rfl) (fun _ => rfl) (by intro n x; kernel_rfl)
theorem laws_intactDyadicSS_K (k : Nat) : Contract Tryz.prog 24 (laws_intactDyadicSS_V k) :=
  contract (C := laws_intactDyadicSS_C k) (F := laws_intactDyadicSS_F k) (fn := Tryz.f24) (c := codeOf Tryz.f24) (ps := laws_intactDyadicSS_ps) (rs := [(.bool, false)]) (nx := 32) ⟨tyOf_ok tys_ok, gOf_ok ⟨laws_roomBehind_K, laws_intactDyadicS_K k, laws_eqDyadicSS_K k, trivial⟩⟩ rfl (by kernel_rfl) (by kernel_rfl) (by kernel_rfl) (by kernel_rfl) (by kernel_rfl) (by kernel_rfl) rfl (by kernel_rfl) (by kernel_rfl) (AnnOk_list [(122, loopB (codeOf Tryz.f24) 122)] laws_intactDyadicSS_ls ⟨laws_intactDyadicSS_l122 k, trivial⟩) mix_ok (laws_intactDyadicSS_eq k)

noncomputable def laws_intactIntervalS_V (k : Nat) : Variant := ⟨[.val ty_8 false, .val ty_8 false], [(.bool, false)], fun x => laws_intactIntervalS k x.1 x.2.1⟩
noncomputable def laws_intactIntervalS_C (k : Nat) : Cfg := ⟨Tryz.prog, tyOf tys, 26, gOf [(48, [], laws_roomBehind_V), (69, [], laws_eqIntervalS_V k)], false, [], []⟩
def laws_intactIntervalS_ps : List PE := [⟨0, 0, .val ty_8 false, false⟩, ⟨1, 16, .val ty_8 false, false⟩]
noncomputable def laws_intactIntervalS_F (k : Nat) : Fn (Bool) := ⟨laws_intactIntervalS_C k, rdRes Tryz.prog laws_intactIntervalS_ps [(.bool, false)] Tryz.f71.results.toList .ret, fun p => none, 0, []⟩
theorem laws_intactIntervalS_eq (k : Nat) (x : PTe laws_intactIntervalS_ps) : evFn (laws_intactIntervalS_F k) (codeOf Tryz.f71) laws_intactIntervalS_ps 32 x = laws_intactIntervalS k x.1 x.2.1 := by kernel_rfl
theorem laws_intactIntervalS_K (k : Nat) : Contract Tryz.prog 71 (laws_intactIntervalS_V k) :=
  contract (C := laws_intactIntervalS_C k) (F := laws_intactIntervalS_F k) (fn := Tryz.f71) (c := codeOf Tryz.f71) (ps := laws_intactIntervalS_ps) (rs := [(.bool, false)]) (nx := 32) ⟨tyOf_ok tys_ok, gOf_ok ⟨laws_roomBehind_K, laws_eqIntervalS_K k, trivial⟩⟩ rfl (by kernel_rfl) (by kernel_rfl) (by kernel_rfl) (by kernel_rfl) (by kernel_rfl) (by kernel_rfl) rfl (by kernel_rfl) (by kernel_rfl) (AnnOk_list [] (by kernel_rfl) trivial) mix_ok (laws_intactIntervalS_eq k)

noncomputable def laws_intactIntervalSS_V (k : Nat) : Variant := ⟨[.val ty_14 false, .val ty_14 false], [(.bool, false)], fun x => laws_intactIntervalSS k x.1 x.2.1⟩
noncomputable def laws_intactIntervalSS_C (k : Nat) : Cfg := ⟨Tryz.prog, tyOf tys, 45, gOf [(48, [], laws_roomBehind_V), (71, [], laws_intactIntervalS_V k), (23, [], laws_eqIntervalSS_V k)], false, [], []⟩
def laws_intactIntervalSS_i122 : List PE := [⟨0, 32, .val ty_14 false, false⟩, ⟨1, 48, .val ty_14 false, false⟩, ⟨5, 64, .val ty_0 false, false⟩, ⟨6, 80, .val ty_0 false, false⟩]
def laws_intactIntervalSS_o122 : List PE := [⟨0, 32, .val ty_14 false, false⟩, ⟨1, 48, .val ty_14 false, false⟩, ⟨5, 64, .val ty_0 false, false⟩]
noncomputable def laws_intactIntervalSS_f122 (k : Nat) (n : Nat) (x3 : PTe laws_intactIntervalSS_i122) : Option ((Bool) ⊕ PTe laws_intactIntervalSS_o122) := laws_intactIntervalSS_L122 k n x3.1 x3.2.1 x3.2.2.1 x3.2.2.2.1
def laws_intactIntervalSS_ps : List PE := [⟨0, 0, .val ty_14 false, false⟩, ⟨1, 16, .val ty_14 false, false⟩]
noncomputable def laws_intactIntervalSS_F (k : Nat) : Fn (Bool) := ⟨laws_intactIntervalSS_C k, rdRes Tryz.prog laws_intactIntervalSS_ps [(.bool, false)] Tryz.f25.results.toList .ret, fun p => bif Nat.beq p 122 then some (.loop laws_intactIntervalSS_i122 laws_intactIntervalSS_o122 0 96 (laws_intactIntervalSS_f122 k k)) else none, 0, []⟩
theorem laws_intactIntervalSS_eq (k : Nat) (x : PTe laws_intactIntervalSS_ps) : evFn (laws_intactIntervalSS_F k) (codeOf Tryz.f25) laws_intactIntervalSS_ps 32 x = laws_intactIntervalSS k x.1 x.2.1 := by kernel_rfl
theorem laws_intactIntervalSS_ls : loopsOf (codeOf Tryz.f25) 1 = [(122, loopB (codeOf Tryz.f25) 122)] := by kernel_rfl
theorem laws_intactIntervalSS_l122 (k : Nat) : LoopOk (laws_intactIntervalSS_F k) (loopB (codeOf Tryz.f25) 122) 122 := LoopOk.mk (pin := laws_intactIntervalSS_i122) (pout := laws_intactIntervalSS_o122) (ex := 0) (nx := 96) (Lf := laws_intactIntervalSS_f122 k) (k := k) (by kernel_rfl) (fun _ => rfl) (by intro n x; kernel_rfl)
theorem laws_intactIntervalSS_K (k : Nat) : Contract Tryz.prog 25 (laws_intactIntervalSS_V k) :=
  contract (C := laws_intactIntervalSS_C k) (F := laws_intactIntervalSS_F k) (fn := Tryz.f25) (c := codeOf Tryz.f25) (ps := laws_intactIntervalSS_ps) (rs := [(.bool, false)]) (nx := 32) ⟨tyOf_ok tys_ok, gOf_ok ⟨laws_roomBehind_K, laws_intactIntervalS_K k, laws_eqIntervalSS_K k, trivial⟩⟩ rfl (by kernel_rfl) (by kernel_rfl) (by kernel_rfl) (by kernel_rfl) (by kernel_rfl) (by kernel_rfl) rfl (by kernel_rfl) (by kernel_rfl) (AnnOk_list [(122, loopB (codeOf Tryz.f25) 122)] laws_intactIntervalSS_ls ⟨laws_intactIntervalSS_l122 k, trivial⟩) mix_ok (laws_intactIntervalSS_eq k)

noncomputable def laws_markDyadicS_V (k : Nat) : Variant := ⟨[.own ty_1, .val ty_0 false], [(ty_0, false)], fun x => laws_markDyadicS k x.1 x.2.1⟩
noncomputable def laws_markDyadicS_C (k : Nat) : Cfg := ⟨Tryz.prog, tyOf tys, 27, gOf [], false, [], []⟩
def laws_markDyadicS_i26 : List PE := [⟨0, 0, .own ty_1, true⟩, ⟨1, 32, .val ty_0 false, false⟩, ⟨5, 48, .val ty_0 false, false⟩]
def laws_markDyadicS_o26 : List PE := [⟨1, 32, .val ty_0 false, false⟩, ⟨0, 0, .own ty_1, true⟩]
noncomputable def laws_markDyadicS_f26 (k : Nat) (n : Nat) (x1 : PTe laws_markDyadicS_i26) : Option ((Int × List (Int × Int)) ⊕ PTe laws_markDyadicS_o26) := laws_markDyadicS_L26 k n x1.1 x1.2.1 x1.2.2.1
def laws_markDyadicS_ps : List PE := [⟨0, 0, .own ty_1, true⟩, ⟨1, 16, .val ty_0 false, false⟩]
noncomputable def laws_markDyadicS_F (k : Nat) : Fn (Int × List (Int × Int)) := ⟨laws_markDyadicS_C k, rdRes Tryz.prog laws_markDyadicS_ps [(ty_0, false)] Tryz.f72.results.toList .ret, fun p => bif Nat.beq p 26 then some (.loop laws_markDyadicS_i26 laws_markDyadicS_o26 0 64 (laws_markDyadicS_f26 k k)) else none, 0, [0]⟩
theorem laws_markDyadicS_eq (k : Nat) (x : PTe laws_markDyadicS_ps) : evFn (laws_markDyadicS_F k) (codeOf Tryz.f72) laws_markDyadicS_ps 32 x = laws_markDyadicS k x.1 x.2.1 := by kernel_rfl
theorem laws_markDyadicS_ls : loopsOf (codeOf Tryz.f72) 1 = [(26, loopB (codeOf Tryz.f72) 26)] := by kernel_rfl
theorem laws_markDyadicS_l26 (k : Nat) : LoopOk (laws_markDyadicS_F k) (loopB (codeOf Tryz.f72) 26) 26 := LoopOk.mk (pin := laws_markDyadicS_i26) (pout := laws_markDyadicS_o26) (ex := 0) (nx := 64) (Lf := laws_markDyadicS_f26 k) (k := k) (by kernel_rfl) (fun _ => rfl) (by intro n x; kernel_rfl)
theorem laws_markDyadicS_K (k : Nat) : Contract Tryz.prog 72 (laws_markDyadicS_V k) :=
  contract (C := laws_markDyadicS_C k) (F := laws_markDyadicS_F k) (fn := Tryz.f72) (c := codeOf Tryz.f72) (ps := laws_markDyadicS_ps) (rs := [(ty_0, false)]) (nx := 32) ⟨tyOf_ok tys_ok, gOf_ok trivial⟩ rfl (by kernel_rfl) (by kernel_rfl) (by kernel_rfl) (by kernel_rfl) (by kernel_rfl) (by kernel_rfl) rfl (by kernel_rfl) (by kernel_rfl) (AnnOk_list [(26, loopB (codeOf Tryz.f72) 26)] laws_markDyadicS_ls ⟨laws_markDyadicS_l26 k, trivial⟩) mix_ok (laws_markDyadicS_eq k)

noncomputable def laws_markDyadicSS_V (k : Nat) : Variant := ⟨[.own ty_2, .val ty_0 false], [(ty_0, false)], fun x => laws_markDyadicSS k x.1 x.2.1⟩
noncomputable def laws_markDyadicSS_C (k : Nat) : Cfg := ⟨Tryz.prog, tyOf tys, 19, gOf [(72, [], laws_markDyadicS_V k)], false, [], []⟩
def laws_markDyadicSS_i26 : List PE := [⟨0, 0, .own ty_2, true⟩, ⟨1, 32, .val ty_0 false, false⟩, ⟨5, 48, .val ty_0 false, false⟩]
def laws_markDyadicSS_o26 : List PE := [⟨1, 32, .val ty_0 false, false⟩, ⟨0, 0, .own ty_2, true⟩]
noncomputable def laws_markDyadicSS_f26 (k : Nat) (n : Nat) (x2 : PTe laws_markDyadicSS_i26) : Option ((Int × List (List (Int × Int))) ⊕ PTe laws_markDyadicSS_o26) := laws_markDyadicSS_L26 k n x2.1 x2.2.1 x2.2.2.1
def laws_markDyadicSS_ps : List PE := [⟨0, 0, .own ty_2, true⟩, ⟨1, 16, .val ty_0 false, false⟩]
noncomputable def laws_markDyadicSS_F (k : Nat) : Fn (Int × List (List (Int × Int))) := ⟨laws_markDyadicSS_C k, rdRes Tryz.prog laws_markDyadicSS_ps [(ty_0, false)] Tryz.f26.results.toList .ret, fun p => bif Nat.beq p 26 then some (.loop laws_markDyadicSS_i26 laws_markDyadicSS_o26 0 64 (laws_markDyadicSS_f26 k k)) else none, 0, [0]⟩
theorem laws_markDyadicSS_eq (k : Nat) (x : PTe laws_markDyadicSS_ps) : evFn (laws_markDyadicSS_F k) (codeOf Tryz.f26) laws_markDyadicSS_ps 32 x = laws_markDyadicSS k x.1 x.2.1 := by kernel_rfl
theorem laws_markDyadicSS_ls : loopsOf (codeOf Tryz.f26) 1 = [(26, loopB (codeOf Tryz.f26) 26)] := by kernel_rfl
theorem laws_markDyadicSS_l26 (k : Nat) : LoopOk (laws_markDyadicSS_F k) (loopB (codeOf Tryz.f26) 26) 26 := LoopOk.mk (pin := laws_markDyadicSS_i26) (pout := laws_markDyadicSS_o26) (ex := 0) (nx := 64) (Lf := laws_markDyadicSS_f26 k) (k := k) (by kernel_rfl) (fun _ => rfl) (by intro n x; kernel_rfl)
theorem laws_markDyadicSS_K (k : Nat) : Contract Tryz.prog 26 (laws_markDyadicSS_V k) :=
  contract (C := laws_markDyadicSS_C k) (F := laws_markDyadicSS_F k) (fn := Tryz.f26) (c := codeOf Tryz.f26) (ps := laws_markDyadicSS_ps) (rs := [(ty_0, false)]) (nx := 32) ⟨tyOf_ok tys_ok, gOf_ok ⟨laws_markDyadicS_K k, trivial⟩⟩ rfl (by kernel_rfl) (by kernel_rfl) (by kernel_rfl) (by kernel_rfl) (by kernel_rfl) (by kernel_rfl) rfl (by kernel_rfl) (by kernel_rfl) (AnnOk_list [(26, loopB (codeOf Tryz.f26) 26)] laws_markDyadicSS_ls ⟨laws_markDyadicSS_l26 k, trivial⟩) mix_ok (laws_markDyadicSS_eq k)

noncomputable def laws_markIntervalS_V (k : Nat) : Variant := ⟨[.own ty_4, .val ty_0 false], [(ty_0, false)], fun x => laws_markIntervalS k x.1 x.2.1⟩
noncomputable def laws_markIntervalS_C (k : Nat) : Cfg := ⟨Tryz.prog, tyOf tys, 45, gOf [], false, [], []⟩
def laws_markIntervalS_i26 : List PE := [⟨0, 0, .own ty_4, true⟩, ⟨1, 32, .val ty_0 false, false⟩, ⟨5, 48, .val ty_0 false, false⟩]
def laws_markIntervalS_o26 : List PE := [⟨1, 32, .val ty_0 false, false⟩, ⟨0, 0, .own ty_4, true⟩]
noncomputable def laws_markIntervalS_f26 (k : Nat) (n : Nat) (x1 : PTe laws_markIntervalS_i26) : Option ((Int × List ((Int × Int) × Int × Int)) ⊕ PTe laws_markIntervalS_o26) := laws_markIntervalS_L26 k n x1.1 x1.2.1 x1.2.2.1
def laws_markIntervalS_ps : List PE := [⟨0, 0, .own ty_4, true⟩, ⟨1, 16, .val ty_0 false, false⟩]
noncomputable def laws_markIntervalS_F (k : Nat) : Fn (Int × List ((Int × Int) × Int × Int)) := ⟨laws_markIntervalS_C k, rdRes Tryz.prog laws_markIntervalS_ps [(ty_0, false)] Tryz.f73.results.toList .ret, fun p => bif Nat.beq p 26 then some (.loop laws_markIntervalS_i26 laws_markIntervalS_o26 0 64 (laws_markIntervalS_f26 k k)) else none, 0, [0]⟩
theorem laws_markIntervalS_eq (k : Nat) (x : PTe laws_markIntervalS_ps) : evFn (laws_markIntervalS_F k) (codeOf Tryz.f73) laws_markIntervalS_ps 32 x = laws_markIntervalS k x.1 x.2.1 := by kernel_rfl
theorem laws_markIntervalS_ls : loopsOf (codeOf Tryz.f73) 1 = [(26, loopB (codeOf Tryz.f73) 26)] := by kernel_rfl
theorem laws_markIntervalS_l26 (k : Nat) : LoopOk (laws_markIntervalS_F k) (loopB (codeOf Tryz.f73) 26) 26 := LoopOk.mk (pin := laws_markIntervalS_i26) (pout := laws_markIntervalS_o26) (ex := 0) (nx := 64) (Lf := laws_markIntervalS_f26 k) (k := k) (by kernel_rfl) (fun _ => rfl) (by intro n x; kernel_rfl)
theorem laws_markIntervalS_K (k : Nat) : Contract Tryz.prog 73 (laws_markIntervalS_V k) :=
  contract (C := laws_markIntervalS_C k) (F := laws_markIntervalS_F k) (fn := Tryz.f73) (c := codeOf Tryz.f73) (ps := laws_markIntervalS_ps) (rs := [(ty_0, false)]) (nx := 32) ⟨tyOf_ok tys_ok, gOf_ok trivial⟩ rfl (by kernel_rfl) (by kernel_rfl) (by kernel_rfl) (by kernel_rfl) (by kernel_rfl) (by kernel_rfl) rfl (by kernel_rfl) (by kernel_rfl) (AnnOk_list [(26, loopB (codeOf Tryz.f73) 26)] laws_markIntervalS_ls ⟨laws_markIntervalS_l26 k, trivial⟩) mix_ok (laws_markIntervalS_eq k)

noncomputable def laws_markIntervalSS_V (k : Nat) : Variant := ⟨[.own ty_5, .val ty_0 false], [(ty_0, false)], fun x => laws_markIntervalSS k x.1 x.2.1⟩
noncomputable def laws_markIntervalSS_C (k : Nat) : Cfg := ⟨Tryz.prog, tyOf tys, 19, gOf [(73, [], laws_markIntervalS_V k)], false, [], []⟩
def laws_markIntervalSS_i26 : List PE := [⟨0, 0, .own ty_5, true⟩, ⟨1, 32, .val ty_0 false, false⟩, ⟨5, 48, .val ty_0 false, false⟩]
def laws_markIntervalSS_o26 : List PE := [⟨1, 32, .val ty_0 false, false⟩, ⟨0, 0, .own ty_5, true⟩]
noncomputable def laws_markIntervalSS_f26 (k : Nat) (n : Nat) (x2 : PTe laws_markIntervalSS_i26) : Option ((Int × List (List ((Int × Int) × Int × Int))) ⊕ PTe laws_markIntervalSS_o26) := laws_markIntervalSS_L26 k n x2.1 x2.2.1 x2.2.2.1
def laws_markIntervalSS_ps : List PE := [⟨0, 0, .own ty_5, true⟩, ⟨1, 16, .val ty_0 false, false⟩]
noncomputable def laws_markIntervalSS_F (k : Nat) : Fn (Int × List (List ((Int × Int) × Int × Int))) := ⟨laws_markIntervalSS_C k, rdRes Tryz.prog laws_markIntervalSS_ps [(ty_0, false)] Tryz.f27.results.toList .ret, fun p => bif Nat.beq p 26 then some (.loop laws_markIntervalSS_i26 laws_markIntervalSS_o26 0 64 (laws_markIntervalSS_f26 k k)) else none, 0, [0]⟩
theorem laws_markIntervalSS_eq (k : Nat) (x : PTe laws_markIntervalSS_ps) : evFn (laws_markIntervalSS_F k) (codeOf Tryz.f27) laws_markIntervalSS_ps 32 x = laws_markIntervalSS k x.1 x.2.1 := by kernel_rfl
theorem laws_markIntervalSS_ls : loopsOf (codeOf Tryz.f27) 1 = [(26, loopB (codeOf Tryz.f27) 26)] := by kernel_rfl
theorem laws_markIntervalSS_l26 (k : Nat) : LoopOk (laws_markIntervalSS_F k) (loopB (codeOf Tryz.f27) 26) 26 := LoopOk.mk (pin := laws_markIntervalSS_i26) (pout := laws_markIntervalSS_o26) (ex := 0) (nx := 64) (Lf := laws_markIntervalSS_f26 k) (k := k) (by kernel_rfl) (fun _ => rfl) (by intro n x; kernel_rfl)
theorem laws_markIntervalSS_K (k : Nat) : Contract Tryz.prog 27 (laws_markIntervalSS_V k) :=
  contract (C := laws_markIntervalSS_C k) (F := laws_markIntervalSS_F k) (fn := Tryz.f27) (c := codeOf Tryz.f27) (ps := laws_markIntervalSS_ps) (rs := [(ty_0, false)]) (nx := 32) ⟨tyOf_ok tys_ok, gOf_ok ⟨laws_markIntervalS_K k, trivial⟩⟩ rfl (by kernel_rfl) (by kernel_rfl) (by kernel_rfl) (by kernel_rfl) (by kernel_rfl) (by kernel_rfl) rfl (by kernel_rfl) (by kernel_rfl) (AnnOk_list [(26, loopB (codeOf Tryz.f27) 26)] laws_markIntervalSS_ls ⟨laws_markIntervalSS_l26 k, trivial⟩) mix_ok (laws_markIntervalSS_eq k)

noncomputable def laws_heldIntervalS_V (k : Nat) : Variant := ⟨[.val ty_5 false, .val ty_0 false], [(ty_0, false)], fun x => laws_heldIntervalS k x.1 x.2.1⟩
noncomputable def laws_heldIntervalS_C (k : Nat) : Cfg := ⟨Tryz.prog, tyOf tys, 53, gOf [], false, [], []⟩
def laws_heldIntervalS_i26 : List PE := [⟨0, 32, .val ty_5 false, false⟩, ⟨1, 48, .val ty_0 false, false⟩, ⟨5, 64, .val ty_0 false, false⟩]
def laws_heldIntervalS_o26 : List PE := [⟨1, 32, .val ty_0 false, false⟩]
noncomputable def laws_heldIntervalS_f26 (k : Nat) (n : Nat) (x1 : PTe laws_heldIntervalS_i26) : Option ((Int) ⊕ PTe laws_heldIntervalS_o26) := laws_heldIntervalS_L26 k n x1.1 x1.2.1 x1.2.2.1
def laws_heldIntervalS_ps : List PE := [⟨0, 0, .val ty_5 false, false⟩, ⟨1, 16, .val ty_0 false, false⟩]
noncomputable def laws_heldIntervalS_F (k : Nat) : Fn (Int) := ⟨laws_heldIntervalS_C k, rdRes Tryz.prog laws_heldIntervalS_ps [(ty_0, false)] Tryz.f74.results.toList .ret, fun p => bif Nat.beq p 26 then some (.loop laws_heldIntervalS_i26 laws_heldIntervalS_o26 0 80 (laws_heldIntervalS_f26 k k)) else none, 0, []⟩
theorem laws_heldIntervalS_eq (k : Nat) (x : PTe laws_heldIntervalS_ps) : evFn (laws_heldIntervalS_F k) (codeOf Tryz.f74) laws_heldIntervalS_ps 32 x = laws_heldIntervalS k x.1 x.2.1 := by kernel_rfl
theorem laws_heldIntervalS_ls : loopsOf (codeOf Tryz.f74) 1 = [(26, loopB (codeOf Tryz.f74) 26)] := by kernel_rfl
theorem laws_heldIntervalS_l26 (k : Nat) : LoopOk (laws_heldIntervalS_F k) (loopB (codeOf Tryz.f74) 26) 26 := LoopOk.mk (pin := laws_heldIntervalS_i26) (pout := laws_heldIntervalS_o26) (ex := 0) (nx := 80) (Lf := laws_heldIntervalS_f26 k) (k := k) (by kernel_rfl) (fun _ => rfl) (by intro n x; kernel_rfl)
theorem laws_heldIntervalS_K (k : Nat) : Contract Tryz.prog 74 (laws_heldIntervalS_V k) :=
  contract (C := laws_heldIntervalS_C k) (F := laws_heldIntervalS_F k) (fn := Tryz.f74) (c := codeOf Tryz.f74) (ps := laws_heldIntervalS_ps) (rs := [(ty_0, false)]) (nx := 32) ⟨tyOf_ok tys_ok, gOf_ok trivial⟩ rfl (by kernel_rfl) (by kernel_rfl) (by kernel_rfl) (by kernel_rfl) (by kernel_rfl) (by kernel_rfl) rfl (by kernel_rfl) (by kernel_rfl) (AnnOk_list [(26, loopB (codeOf Tryz.f74) 26)] laws_heldIntervalS_ls ⟨laws_heldIntervalS_l26 k, trivial⟩) mix_ok (laws_heldIntervalS_eq k)

noncomputable def laws_heldIntervalSS_V (k : Nat) : Variant := ⟨[.val ty_6 false, .val ty_0 false], [(ty_0, false)], fun x => laws_heldIntervalSS k x.1 x.2.1⟩
noncomputable def laws_heldIntervalSS_C (k : Nat) : Cfg := ⟨Tryz.prog, tyOf tys, 21, gOf [(74, [], laws_heldIntervalS_V k)], false, [], []⟩
def laws_heldIntervalSS_i26 : List PE := [⟨0, 32, .val ty_6 false, false⟩, ⟨1, 48, .val ty_0 false, false⟩, ⟨5, 64, .val ty_0 false, false⟩]
def laws_heldIntervalSS_o26 : List PE := [⟨1, 32, .val ty_0 false, false⟩]
noncomputable def laws_heldIntervalSS_f26 (k : Nat) (n : Nat) (x2 : PTe laws_heldIntervalSS_i26) : Option ((Int) ⊕ PTe laws_heldIntervalSS_o26) := laws_heldIntervalSS_L26 k n x2.1 x2.2.1 x2.2.2.1
def laws_heldIntervalSS_ps : List PE := [⟨0, 0, .val ty_6 false, false⟩, ⟨1, 16, .val ty_0 false, false⟩]
noncomputable def laws_heldIntervalSS_F (k : Nat) : Fn (Int) := ⟨laws_heldIntervalSS_C k, rdRes Tryz.prog laws_heldIntervalSS_ps [(ty_0, false)] Tryz.f28.results.toList .ret, fun p => bif Nat.beq p 26 then some (.loop laws_heldIntervalSS_i26 laws_heldIntervalSS_o26 0 80 (laws_heldIntervalSS_f26 k k)) else none, 0, []⟩
theorem laws_heldIntervalSS_eq (k : Nat) (x : PTe laws_heldIntervalSS_ps) : evFn (laws_heldIntervalSS_F k) (codeOf Tryz.f28) laws_heldIntervalSS_ps 32 x = laws_heldIntervalSS k x.1 x.2.1 := by kernel_rfl
theorem laws_heldIntervalSS_ls : loopsOf (codeOf Tryz.f28) 1 = [(26, loopB (codeOf Tryz.f28) 26)] := by kernel_rfl
theorem laws_heldIntervalSS_l26 (k : Nat) : LoopOk (laws_heldIntervalSS_F k) (loopB (codeOf Tryz.f28) 26) 26 := LoopOk.mk (pin := laws_heldIntervalSS_i26) (pout := laws_heldIntervalSS_o26) (ex := 0) (nx := 80) (Lf := laws_heldIntervalSS_f26 k) (k := k) (by kernel_rfl) (fun _ => rfl) (by intro n x; kernel_rfl)
theorem laws_heldIntervalSS_K (k : Nat) : Contract Tryz.prog 28 (laws_heldIntervalSS_V k) :=
  contract (C := laws_heldIntervalSS_C k) (F := laws_heldIntervalSS_F k) (fn := Tryz.f28) (c := codeOf Tryz.f28) (ps := laws_heldIntervalSS_ps) (rs := [(ty_0, false)]) (nx := 32) ⟨tyOf_ok tys_ok, gOf_ok ⟨laws_heldIntervalS_K k, trivial⟩⟩ rfl (by kernel_rfl) (by kernel_rfl) (by kernel_rfl) (by kernel_rfl) (by kernel_rfl) (by kernel_rfl) rfl (by kernel_rfl) (by kernel_rfl) (AnnOk_list [(26, loopB (codeOf Tryz.f28) 26)] laws_heldIntervalSS_ls ⟨laws_heldIntervalSS_l26 k, trivial⟩) mix_ok (laws_heldIntervalSS_eq k)

noncomputable def laws_FnExactTimesIntervals_V (k : Nat) : Variant := ⟨[.val ty_3 false, .val ty_6 false], [(.bool, false)], fun x => laws_FnExactTimesIntervals k x.1 x.2.1⟩
noncomputable def laws_FnExactTimesIntervals_C (k : Nat) : Cfg := ⟨Tryz.prog, tyOf tys, 119, gOf [(17, [], laws_szDyadicSS_V k), (18, [], laws_szIntervalSS_V k), (20, [], laws_toDyadicSS_V k), (21, [], laws_toIntervalSS_V k), (19, [], spec_TimesIntervals_V k), (22, [], impl_TimesIntervals_V k), (23, [], laws_eqIntervalSS_V k), (24, [], laws_intactDyadicSS_V k), (25, [], laws_intactIntervalSS_V k), (26, [], laws_markDyadicSS_V k), (27, [], laws_markIntervalSS_V k), (28, [], laws_heldIntervalSS_V k)], false, [], []⟩
def laws_FnExactTimesIntervals_ps : List PE := [⟨0, 0, .val ty_3 false, false⟩, ⟨1, 16, .val ty_6 false, false⟩]
noncomputable def laws_FnExactTimesIntervals_F (k : Nat) : Fn (Bool) := ⟨laws_FnExactTimesIntervals_C k, rdRes Tryz.prog laws_FnExactTimesIntervals_ps [(.bool, false)] Tryz.f4.results.toList .ret, fun p => none, 0, []⟩
theorem laws_FnExactTimesIntervals_eq (k : Nat) (x : PTe laws_FnExactTimesIntervals_ps) : evFn (laws_FnExactTimesIntervals_F k) (codeOf Tryz.f4) laws_FnExactTimesIntervals_ps 32 x = laws_FnExactTimesIntervals k x.1 x.2.1 := by kernel_rfl
theorem laws_FnExactTimesIntervals_K (k : Nat) : Contract Tryz.prog 4 (laws_FnExactTimesIntervals_V k) :=
  contract (C := laws_FnExactTimesIntervals_C k) (F := laws_FnExactTimesIntervals_F k) (fn := Tryz.f4) (c := codeOf Tryz.f4) (ps := laws_FnExactTimesIntervals_ps) (rs := [(.bool, false)]) (nx := 32) ⟨tyOf_ok tys_ok, gOf_ok ⟨laws_szDyadicSS_K k, laws_szIntervalSS_K k, laws_toDyadicSS_K k, laws_toIntervalSS_K k, spec_TimesIntervals_K k, impl_TimesIntervals_K k, laws_eqIntervalSS_K k, laws_intactDyadicSS_K k, laws_intactIntervalSS_K k, laws_markDyadicSS_K k, laws_markIntervalSS_K k, laws_heldIntervalSS_K k, trivial⟩⟩ rfl (by kernel_rfl) (by kernel_rfl) (by kernel_rfl) (by kernel_rfl) (by kernel_rfl) (by kernel_rfl) rfl (by kernel_rfl) (by kernel_rfl) (AnnOk_list [] (by kernel_rfl) trivial) mix_ok (laws_FnExactTimesIntervals_eq k)
end Go.Ev.G
