/- The contracts of the functions behind FnExactMiddleJacobian: a call of each returns what its plain function computes; for all inputs within the sizes named. -/
import Derived.Test.YtndgjjaolajkjaaGreatPMiddleJacobian1
import Derived.Test.YtndgjjaolajkjaaGreatKMiddleJacobian1
set_option linter.unusedVariables false
namespace Go.Ev.G
open Go Go.Ev Go.Proofs
set_option maxRecDepth 100000
noncomputable def laws_markTermS_V (k : Nat) : Variant := ⟨[.own ty_3, .val ty_0 false], [(ty_0, false)], fun x => laws_markTermS k x.1 x.2.1⟩
noncomputable def laws_markTermS_C (k : Nat) : Cfg := ⟨Tryz.prog, tyOf tys, 41, gOf [], false, [], []⟩
def laws_markTermS_i26 : List PE := [⟨0, 0, .own ty_3, true⟩, ⟨1, 32, .val ty_0 false, false⟩, ⟨5, 48, .val ty_0 false, false⟩]
def laws_markTermS_o26 : List PE := [⟨1, 32, .val ty_0 false, false⟩, ⟨0, 0, .own ty_3, true⟩]
noncomputable def laws_markTermS_f26 (k : Nat) (n : Nat) (x1 : PTe laws_markTermS_i26) : Option ((Int × List (Int × Int × Int × Int)) ⊕ PTe laws_markTermS_o26) := laws_markTermS_L26 k n x1.1 x1.2.1 x1.2.2.1
def laws_markTermS_ps : List PE := [⟨0, 0, .own ty_3, true⟩, ⟨1, 16, .val ty_0 false, false⟩]
noncomputable def laws_markTermS_F (k : Nat) : Fn (Int × List (Int × Int × Int × Int)) := ⟨laws_markTermS_C k, rdRes Tryz.prog laws_markTermS_ps [(ty_0, false)] Tryz.f81.results.toList .ret, fun p => bif Nat.beq p 26 then some (.loop laws_markTermS_i26 laws_markTermS_o26 0 64 (laws_markTermS_f26 k k)) else none, 0, [0]⟩
theorem laws_markTermS_eq (k : Nat) (x : PTe laws_markTermS_ps) : evFn (laws_markTermS_F k) (codeOf Tryz.f81) laws_markTermS_ps 32 x = laws_markTermS k x.1 x.2.1 := by kernel_rfl
theorem laws_markTermS_ls : loopsOf (codeOf Tryz.f81) 1 = [(26, loopB (codeOf Tryz.f81) 26)] := by kernel_rfl
theorem laws_markTermS_l26 (k : Nat) : LoopOk (laws_markTermS_F k) (loopB (codeOf Tryz.f81) 26) 26 := LoopOk.mk (pin := laws_markTermS_i26) (pout := laws_markTermS_o26) (ex := 0) (nx := 64) (Lf := laws_markTermS_f26 k) (k := k) (by kernel_rfl) (fun _ => rfl) (by intro n x; kernel_rfl)
theorem laws_markTermS_K (k : Nat) : Contract Tryz.prog 81 (laws_markTermS_V k) :=
  contract (C := laws_markTermS_C k) (F := laws_markTermS_F k) (fn := Tryz.f81) (c := codeOf Tryz.f81) (ps := laws_markTermS_ps) (rs := [(ty_0, false)]) (nx := 32) ⟨tyOf_ok tys_ok, gOf_ok trivial⟩ rfl (by kernel_rfl) (by kernel_rfl) (by kernel_rfl) (by kernel_rfl) (by kernel_rfl) (by kernel_rfl) rfl (by kernel_rfl) (by kernel_rfl) (AnnOk_list [(26, loopB (codeOf Tryz.f81) 26)] laws_markTermS_ls ⟨laws_markTermS_l26 k, trivial⟩) mix_ok (laws_markTermS_eq k)

noncomputable def laws_markTermSS_V (k : Nat) : Variant := ⟨[.own ty_4, .val ty_0 false], [(ty_0, false)], fun x => laws_markTermSS k x.1 x.2.1⟩
noncomputable def laws_markTermSS_C (k : Nat) : Cfg := ⟨Tryz.prog, tyOf tys, 19, gOf [(81, [], laws_markTermS_V k)], false, [], []⟩
def laws_markTermSS_i26 : List PE := [⟨0, 0, .own ty_4, true⟩, ⟨1, 32, .val ty_0 false, false⟩, ⟨5, 48, .val ty_0 false, false⟩]
def laws_markTermSS_o26 : List PE := [⟨1, 32, .val ty_0 false, false⟩, ⟨0, 0, .own ty_4, true⟩]
noncomputable def laws_markTermSS_f26 (k : Nat) (n : Nat) (x2 : PTe laws_markTermSS_i26) : Option ((Int × List (List (Int × Int × Int × Int))) ⊕ PTe laws_markTermSS_o26) := laws_markTermSS_L26 k n x2.1 x2.2.1 x2.2.2.1
def laws_markTermSS_ps : List PE := [⟨0, 0, .own ty_4, true⟩, ⟨1, 16, .val ty_0 false, false⟩]
noncomputable def laws_markTermSS_F (k : Nat) : Fn (Int × List (List (Int × Int × Int × Int))) := ⟨laws_markTermSS_C k, rdRes Tryz.prog laws_markTermSS_ps [(ty_0, false)] Tryz.f32.results.toList .ret, fun p => bif Nat.beq p 26 then some (.loop laws_markTermSS_i26 laws_markTermSS_o26 0 64 (laws_markTermSS_f26 k k)) else none, 0, [0]⟩
theorem laws_markTermSS_eq (k : Nat) (x : PTe laws_markTermSS_ps) : evFn (laws_markTermSS_F k) (codeOf Tryz.f32) laws_markTermSS_ps 32 x = laws_markTermSS k x.1 x.2.1 := by kernel_rfl
theorem laws_markTermSS_ls : loopsOf (codeOf Tryz.f32) 1 = [(26, loopB (codeOf Tryz.f32) 26)] := by kernel_rfl
theorem laws_markTermSS_l26 (k : Nat) : LoopOk (laws_markTermSS_F k) (loopB (codeOf Tryz.f32) 26) 26 := LoopOk.mk (pin := laws_markTermSS_i26) (pout := laws_markTermSS_o26) (ex := 0) (nx := 64) (Lf := laws_markTermSS_f26 k) (k := k) (by kernel_rfl) (fun _ => rfl) (by intro n x; kernel_rfl)
theorem laws_markTermSS_K (k : Nat) : Contract Tryz.prog 32 (laws_markTermSS_V k) :=
  contract (C := laws_markTermSS_C k) (F := laws_markTermSS_F k) (fn := Tryz.f32) (c := codeOf Tryz.f32) (ps := laws_markTermSS_ps) (rs := [(ty_0, false)]) (nx := 32) ⟨tyOf_ok tys_ok, gOf_ok ⟨laws_markTermS_K k, trivial⟩⟩ rfl (by kernel_rfl) (by kernel_rfl) (by kernel_rfl) (by kernel_rfl) (by kernel_rfl) (by kernel_rfl) rfl (by kernel_rfl) (by kernel_rfl) (AnnOk_list [(26, loopB (codeOf Tryz.f32) 26)] laws_markTermSS_ls ⟨laws_markTermSS_l26 k, trivial⟩) mix_ok (laws_markTermSS_eq k)

noncomputable def laws_markIntS_V (k : Nat) : Variant := ⟨[.own ty_0, .val ty_0 false], [(ty_0, false)], fun x => laws_markIntS k x.1 x.2.1⟩
noncomputable def laws_markIntS_C (k : Nat) : Cfg := ⟨Tryz.prog, tyOf tys, 19, gOf [], false, [], []⟩
def laws_markIntS_i26 : List PE := [⟨0, 0, .own ty_0, true⟩, ⟨1, 32, .val ty_0 false, false⟩, ⟨5, 48, .val ty_0 false, false⟩]
def laws_markIntS_o26 : List PE := [⟨1, 32, .val ty_0 false, false⟩, ⟨0, 0, .own ty_0, true⟩]
noncomputable def laws_markIntS_f26 (k : Nat) (n : Nat) (x1 : PTe laws_markIntS_i26) : Option ((Int × List Int) ⊕ PTe laws_markIntS_o26) := laws_markIntS_L26 k n x1.1 x1.2.1 x1.2.2.1
def laws_markIntS_ps : List PE := [⟨0, 0, .own ty_0, true⟩, ⟨1, 16, .val ty_0 false, false⟩]
noncomputable def laws_markIntS_F (k : Nat) : Fn (Int × List Int) := ⟨laws_markIntS_C k, rdRes Tryz.prog laws_markIntS_ps [(ty_0, false)] Tryz.f40.results.toList .ret, fun p => bif Nat.beq p 26 then some (.loop laws_markIntS_i26 laws_markIntS_o26 0 64 (laws_markIntS_f26 k k)) else none, 0, [0]⟩
theorem laws_markIntS_eq (k : Nat) (x : PTe laws_markIntS_ps) : evFn (laws_markIntS_F k) (codeOf Tryz.f40) laws_markIntS_ps 32 x = laws_markIntS k x.1 x.2.1 := by kernel_rfl
theorem laws_markIntS_ls : loopsOf (codeOf Tryz.f40) 1 = [(26, loopB (codeOf Tryz.f40) 26)] := by kernel_rfl
theorem laws_markIntS_l26 (k : Nat) : LoopOk (laws_markIntS_F k) (loopB (codeOf Tryz.f40) 26) 26 := LoopOk.mk (pin := laws_markIntS_i26) (pout := laws_markIntS_o26) (ex := 0) (nx := 64) (Lf := laws_markIntS_f26 k) (k := k) (by kernel_rfl) (fun _ => rfl) (by intro n x; kernel_rfl)
theorem laws_markIntS_K (k : Nat) : Contract Tryz.prog 40 (laws_markIntS_V k) :=
  contract (C := laws_markIntS_C k) (F := laws_markIntS_F k) (fn := Tryz.f40) (c := codeOf Tryz.f40) (ps := laws_markIntS_ps) (rs := [(ty_0, false)]) (nx := 32) ⟨tyOf_ok tys_ok, gOf_ok trivial⟩ rfl (by kernel_rfl) (by kernel_rfl) (by kernel_rfl) (by kernel_rfl) (by kernel_rfl) (by kernel_rfl) rfl (by kernel_rfl) (by kernel_rfl) (AnnOk_list [(26, loopB (codeOf Tryz.f40) 26)] laws_markIntS_ls ⟨laws_markIntS_l26 k, trivial⟩) mix_ok (laws_markIntS_eq k)

noncomputable def laws_markBox_V (k : Nat) : Variant := ⟨[.gob ty_9 true, .val ty_0 false], [(ty_0, false)], fun x => laws_markBox k x.1 x.2.1⟩
noncomputable def laws_markBox_C (k : Nat) : Cfg := ⟨Tryz.prog, tyOf tys, 14, gOf [(40, [], laws_markIntS_V k)], false, [], []⟩
def laws_markBox_ps : List PE := [⟨0, 0, .gob ty_9 true, false⟩, ⟨1, 16, .val ty_0 false, false⟩]
noncomputable def laws_markBox_F (k : Nat) : Fn (Int) := ⟨laws_markBox_C k, rdRes Tryz.prog laws_markBox_ps [(ty_0, false)] Tryz.f33.results.toList .ret, fun p => none, 0, []⟩
theorem laws_markBox_eq (k : Nat) (x : PTe laws_markBox_ps) : evFn (laws_markBox_F k) (codeOf Tryz.f33) laws_markBox_ps 32 x = laws_markBox k x.1 x.2.1 := by kernel_rfl
theorem laws_markBox_K (k : Nat) : Contract Tryz.prog 33 (laws_markBox_V k) :=
  contract (C := laws_markBox_C k) (F := laws_markBox_F k) (fn := Tryz.f33) (c := codeOf Tryz.f33) (ps := laws_markBox_ps) (rs := [(ty_0, false)]) (nx := 32) ⟨tyOf_ok tys_ok, gOf_ok ⟨laws_markIntS_K k, trivial⟩⟩ rfl (by kernel_rfl) (by kernel_rfl) (by kernel_rfl) (by kernel_rfl) (by kernel_rfl) (by kernel_rfl) rfl (by kernel_rfl) (by kernel_rfl) (AnnOk_list [] (by kernel_rfl) trivial) mix_ok (laws_markBox_eq k)

noncomputable def laws_markDyadicS_V (k : Nat) : Variant := ⟨[.own ty_1, .val ty_0 false], [(ty_0, false)], fun x => laws_markDyadicS k x.1 x.2.1⟩
noncomputable def laws_markDyadicS_C (k : Nat) : Cfg := ⟨Tryz.prog, tyOf tys, 27, gOf [], false, [], []⟩
def laws_markDyadicS_i26 : List PE := [⟨0, 0, .own ty_1, true⟩, ⟨1, 32, .val ty_0 false, false⟩, ⟨5, 48, .val ty_0 false, false⟩]
def laws_markDyadicS_o26 : List PE := [⟨1, 32, .val ty_0 false, false⟩, ⟨0, 0, .own ty_1, true⟩]
noncomputable def laws_markDyadicS_f26 (k : Nat) (n : Nat) (x1 : PTe laws_markDyadicS_i26) : Option ((Int × List (Int × Int)) ⊕ PTe laws_markDyadicS_o26) := laws_markDyadicS_L26 k n x1.1 x1.2.1 x1.2.2.1
def laws_markDyadicS_ps : List PE := [⟨0, 0, .own ty_1, true⟩, ⟨1, 16, .val ty_0 false, false⟩]
noncomputable def laws_markDyadicS_F (k : Nat) : Fn (Int × List (Int × Int)) := ⟨laws_markDyadicS_C k, rdRes Tryz.prog laws_markDyadicS_ps [(ty_0, false)] Tryz.f72.results.toList .ret, fun p => bif Nat.beq p 26 then some (.loop laws_markDyadicS_i26 laws_markDyadicS_o26 0 64 (laws_markDyadicS_f26 k k)) else none, 0, [0]⟩
theorem laws_markDyadicS_eq (k : Nat) (x : PTe laws_markDyadicS_ps) : evFn (laws_markDyadicS_F k) (codeOf Tryz.f72) laws_markDyadicS_ps 32 x = laws_markDyadicS k x.1 x.2.1 := by kernel_rfl
theorem laws_markDyadicS_ls : loopsOf (codeOf Tryz.f72) 1 = [(26, loopB (codeOf Tryz.f72) 26)] := by kernel_rfl
theorem laws_markDyadicS_l26 (k : Nat) : LoopOk (laws_markDyadicS_F k) (loopB (codeOf Tryz.f72) 26) 26 := LoopOk.mk (pin := laws_markDyadicS_i26) (pout := laws_markDyadicS_o26) (ex := 0) (nx := 64) (Lf := laws_markDyadicS_f26 k) (k := k) (by kernel_rfl) (fun _ => rfl) (by intro n x; kernel_rfl)
theorem laws_markDyadicS_K (k : Nat) : Contract Tryz.prog 72 (laws_markDyadicS_V k) :=
  contract (C := laws_markDyadicS_C k) (F := laws_markDyadicS_F k) (fn := Tryz.f72) (c := codeOf Tryz.f72) (ps := laws_markDyadicS_ps) (rs := [(ty_0, false)]) (nx := 32) ⟨tyOf_ok tys_ok, gOf_ok trivial⟩ rfl (by kernel_rfl) (by kernel_rfl) (by kernel_rfl) (by kernel_rfl) (by kernel_rfl) (by kernel_rfl) rfl (by kernel_rfl) (by kernel_rfl) (AnnOk_list [(26, loopB (codeOf Tryz.f72) 26)] laws_markDyadicS_ls ⟨laws_markDyadicS_l26 k, trivial⟩) mix_ok (laws_markDyadicS_eq k)

noncomputable def laws_markDyadicSS_V (k : Nat) : Variant := ⟨[.own ty_11, .val ty_0 false], [(ty_0, false)], fun x => laws_markDyadicSS k x.1 x.2.1⟩
noncomputable def laws_markDyadicSS_C (k : Nat) : Cfg := ⟨Tryz.prog, tyOf tys, 19, gOf [(72, [], laws_markDyadicS_V k)], false, [], []⟩
def laws_markDyadicSS_i26 : List PE := [⟨0, 0, .own ty_11, true⟩, ⟨1, 32, .val ty_0 false, false⟩, ⟨5, 48, .val ty_0 false, false⟩]
def laws_markDyadicSS_o26 : List PE := [⟨1, 32, .val ty_0 false, false⟩, ⟨0, 0, .own ty_11, true⟩]
noncomputable def laws_markDyadicSS_f26 (k : Nat) (n : Nat) (x2 : PTe laws_markDyadicSS_i26) : Option ((Int × List (List (Int × Int))) ⊕ PTe laws_markDyadicSS_o26) := laws_markDyadicSS_L26 k n x2.1 x2.2.1 x2.2.2.1
def laws_markDyadicSS_ps : List PE := [⟨0, 0, .own ty_11, true⟩, ⟨1, 16, .val ty_0 false, false⟩]
noncomputable def laws_markDyadicSS_F (k : Nat) : Fn (Int × List (List (Int × Int))) := ⟨laws_markDyadicSS_C k, rdRes Tryz.prog laws_markDyadicSS_ps [(ty_0, false)] Tryz.f26.results.toList .ret, fun p => bif Nat.beq p 26 then some (.loop laws_markDyadicSS_i26 laws_markDyadicSS_o26 0 64 (laws_markDyadicSS_f26 k k)) else none, 0, [0]⟩
theorem laws_markDyadicSS_eq (k : Nat) (x : PTe laws_markDyadicSS_ps) : evFn (laws_markDyadicSS_F k) (codeOf Tryz.f26) laws_markDyadicSS_ps 32 x = laws_markDyadicSS k x.1 x.2.1 := by kernel_rfl
theorem laws_markDyadicSS_ls : loopsOf (codeOf Tryz.f26) 1 = [(26, loopB (codeOf Tryz.f26) 26)] := by kernel_rfl
theorem laws_markDyadicSS_l26 (k : Nat) : LoopOk (laws_markDyadicSS_F k) (loopB (codeOf Tryz.f26) 26) 26 := LoopOk.mk (pin := laws_markDyadicSS_i26) (pout := laws_markDyadicSS_o26) (ex := 0) (nx := 64) (Lf := laws_markDyadicSS_f26 k) (k := k) (by kernel_rfl) (fun _ => rfl) (by intro n x; kernel_rfl)
theorem laws_markDyadicSS_K (k : Nat) : Contract Tryz.prog 26 (laws_markDyadicSS_V k) :=
  contract (C := laws_markDyadicSS_C k) (F := laws_markDyadicSS_F k) (fn := Tryz.f26) (c := codeOf Tryz.f26) (ps := laws_markDyadicSS_ps) (rs := [(ty_0, false)]) (nx := 32) ⟨tyOf_ok tys_ok, gOf_ok ⟨laws_markDyadicS_K k, trivial⟩⟩ rfl (by kernel_rfl) (by kernel_rfl) (by kernel_rfl) (by kernel_rfl) (by kernel_rfl) (by kernel_rfl) rfl (by kernel_rfl) (by kernel_rfl) (AnnOk_list [(26, loopB (codeOf Tryz.f26) 26)] laws_markDyadicSS_ls ⟨laws_markDyadicSS_l26 k, trivial⟩) mix_ok (laws_markDyadicSS_eq k)

noncomputable def laws_heldDyadicS_V (k : Nat) : Variant := ⟨[.val ty_11 false, .val ty_0 false], [(ty_0, false)], fun x => laws_heldDyadicS k x.1 x.2.1⟩
noncomputable def laws_heldDyadicS_C (k : Nat) : Cfg := ⟨Tryz.prog, tyOf tys, 31, gOf [], false, [], []⟩
def laws_heldDyadicS_i26 : List PE := [⟨0, 32, .val ty_11 false, false⟩, ⟨1, 48, .val ty_0 false, false⟩, ⟨5, 64, .val ty_0 false, false⟩]
def laws_heldDyadicS_o26 : List PE := [⟨1, 32, .val ty_0 false, false⟩]
noncomputable def laws_heldDyadicS_f26 (k : Nat) (n : Nat) (x1 : PTe laws_heldDyadicS_i26) : Option ((Int) ⊕ PTe laws_heldDyadicS_o26) := laws_heldDyadicS_L26 k n x1.1 x1.2.1 x1.2.2.1
def laws_heldDyadicS_ps : List PE := [⟨0, 0, .val ty_11 false, false⟩, ⟨1, 16, .val ty_0 false, false⟩]
noncomputable def laws_heldDyadicS_F (k : Nat) : Fn (Int) := ⟨laws_heldDyadicS_C k, rdRes Tryz.prog laws_heldDyadicS_ps [(ty_0, false)] Tryz.f82.results.toList .ret, fun p => bif Nat.beq p 26 then some (.loop laws_heldDyadicS_i26 laws_heldDyadicS_o26 0 80 (laws_heldDyadicS_f26 k k)) else none, 0, []⟩
theorem laws_heldDyadicS_eq (k : Nat) (x : PTe laws_heldDyadicS_ps) : evFn (laws_heldDyadicS_F k) (codeOf Tryz.f82) laws_heldDyadicS_ps 32 x = laws_heldDyadicS k x.1 x.2.1 := by kernel_rfl
theorem laws_heldDyadicS_ls : loopsOf (codeOf Tryz.f82) 1 = [(26, loopB (codeOf Tryz.f82) 26)] := by kernel_rfl
theorem laws_heldDyadicS_l26 (k : Nat) : LoopOk (laws_heldDyadicS_F k) (loopB (codeOf Tryz.f82) 26) 26 := LoopOk.mk (pin := laws_heldDyadicS_i26) (pout := laws_heldDyadicS_o26) (ex := 0) (nx := 80) (Lf := laws_heldDyadicS_f26 k) (k := k) (by kernel_rfl) (fun _ => rfl) (by intro n x; kernel_rfl)
theorem laws_heldDyadicS_K (k : Nat) : Contract Tryz.prog 82 (laws_heldDyadicS_V k) :=
  contract (C := laws_heldDyadicS_C k) (F := laws_heldDyadicS_F k) (fn := Tryz.f82) (c := codeOf Tryz.f82) (ps := laws_heldDyadicS_ps) (rs := [(ty_0, false)]) (nx := 32) ⟨tyOf_ok tys_ok, gOf_ok trivial⟩ rfl (by kernel_rfl) (by kernel_rfl) (by kernel_rfl) (by kernel_rfl) (by kernel_rfl) (by kernel_rfl) rfl (by kernel_rfl) (by kernel_rfl) (AnnOk_list [(26, loopB (codeOf Tryz.f82) 26)] laws_heldDyadicS_ls ⟨laws_heldDyadicS_l26 k, trivial⟩) mix_ok (laws_heldDyadicS_eq k)

noncomputable def laws_heldDyadicSS_V (k : Nat) : Variant := ⟨[.val ty_17 false, .val ty_0 false], [(ty_0, false)], fun x => laws_heldDyadicSS k x.1 x.2.1⟩
noncomputable def laws_heldDyadicSS_C (k : Nat) : Cfg := ⟨Tryz.prog, tyOf tys, 21, gOf [(82, [], laws_heldDyadicS_V k)], false, [], []⟩
def laws_heldDyadicSS_i26 : List PE := [⟨0, 32, .val ty_17 false, false⟩, ⟨1, 48, .val ty_0 false, false⟩, ⟨5, 64, .val ty_0 false, false⟩]
def laws_heldDyadicSS_o26 : List PE := [⟨1, 32, .val ty_0 false, false⟩]
noncomputable def laws_heldDyadicSS_f26 (k : Nat) (n : Nat) (x2 : PTe laws_heldDyadicSS_i26) : Option ((Int) ⊕ PTe laws_heldDyadicSS_o26) := laws_heldDyadicSS_L26 k n x2.1 x2.2.1 x2.2.2.1
def laws_heldDyadicSS_ps : List PE := [⟨0, 0, .val ty_17 false, false⟩, ⟨1, 16, .val ty_0 false, false⟩]
noncomputable def laws_heldDyadicSS_F (k : Nat) : Fn (Int) := ⟨laws_heldDyadicSS_C k, rdRes Tryz.prog laws_heldDyadicSS_ps [(ty_0, false)] Tryz.f34.results.toList .ret, fun p => bif Nat.beq p 26 then some (.loop laws_heldDyadicSS_i26 laws_heldDyadicSS_o26 0 80 (laws_heldDyadicSS_f26 k k)) else none, 0, []⟩
theorem laws_heldDyadicSS_eq (k : Nat) (x : PTe laws_heldDyadicSS_ps) : evFn (laws_heldDyadicSS_F k) (codeOf Tryz.f34) laws_heldDyadicSS_ps 32 x = laws_heldDyadicSS k x.1 x.2.1 := by kernel_rfl
theorem laws_heldDyadicSS_ls : loopsOf (codeOf Tryz.f34) 1 = [(26, loopB (codeOf Tryz.f34) 26)] := by kernel_rfl
theorem laws_heldDyadicSS_l26 (k : Nat) : LoopOk (laws_heldDyadicSS_F k) (loopB (codeOf Tryz.f34) 26) 26 := LoopOk.mk (pin := laws_heldDyadicSS_i26) (pout := laws_heldDyadicSS_o26) (ex := 0) (nx := 80) (Lf := laws_heldDyadicSS_f26 k) (k := k) (by kernel_rfl) (fun _ => rfl) (by intro n x; kernel_rfl)
theorem laws_heldDyadicSS_K (k : Nat) : Contract Tryz.prog 34 (laws_heldDyadicSS_V k) :=
  contract (C := laws_heldDyadicSS_C k) (F := laws_heldDyadicSS_F k) (fn := Tryz.f34) (c := codeOf Tryz.f34) (ps := laws_heldDyadicSS_ps) (rs := [(ty_0, false)]) (nx := 32) ⟨tyOf_ok tys_ok, gOf_ok ⟨laws_heldDyadicS_K k, trivial⟩⟩ rfl (by kernel_rfl) (by kernel_rfl) (by kernel_rfl) (by kernel_rfl) (by kernel_rfl) (by kernel_rfl) rfl (by kernel_rfl) (by kernel_rfl) (AnnOk_list [(26, loopB (codeOf Tryz.f34) 26)] laws_heldDyadicSS_ls ⟨laws_heldDyadicSS_l26 k, trivial⟩) mix_ok (laws_heldDyadicSS_eq k)

noncomputable def laws_FnExactMiddleJacobian_V (k : Nat) : Variant := ⟨[.val ty_5 false, .val ty_9 true], [(.bool, false)], fun x => laws_FnExactMiddleJacobian k x.1 x.2.1⟩
noncomputable def laws_FnExactMiddleJacobian_C (k : Nat) : Cfg := ⟨Tryz.prog, tyOf tys, 119, gOf [(9, [], laws_szTermSS_V k), (10, [], laws_szBox_V), (12, [], laws_toTermSS_V k), (13, [], laws_toBox_V k), (29, [], spec_MiddleJacobian_V k), (30, [], impl_MiddleJacobian_V k), (31, [], laws_eqDyadicSS_V k), (15, [], laws_intactTermSS_V k), (16, [], laws_intactBox_V k), (32, [], laws_markTermSS_V k), (33, [], laws_markBox_V k), (26, [], laws_markDyadicSS_V k), (34, [], laws_heldDyadicSS_V k)], false, [], []⟩
def laws_FnExactMiddleJacobian_ps : List PE := [⟨0, 0, .val ty_5 false, false⟩, ⟨1, 16, .val ty_9 true, false⟩]
noncomputable def laws_FnExactMiddleJacobian_F (k : Nat) : Fn (Bool) := ⟨laws_FnExactMiddleJacobian_C k, rdRes Tryz.prog laws_FnExactMiddleJacobian_ps [(.bool, false)] Tryz.f5.results.toList .ret, fun p => none, 0, []⟩
theorem laws_FnExactMiddleJacobian_eq (k : Nat) (x : PTe laws_FnExactMiddleJacobian_ps) : evFn (laws_FnExactMiddleJacobian_F k) (codeOf Tryz.f5) laws_FnExactMiddleJacobian_ps 32 x = laws_FnExactMiddleJacobian k x.1 x.2.1 := by kernel_rfl
theorem laws_FnExactMiddleJacobian_K (k : Nat) : Contract Tryz.prog 5 (laws_FnExactMiddleJacobian_V k) :=
  contract (C := laws_FnExactMiddleJacobian_C k) (F := laws_FnExactMiddleJacobian_F k) (fn := Tryz.f5) (c := codeOf Tryz.f5) (ps := laws_FnExactMiddleJacobian_ps) (rs := [(.bool, false)]) (nx := 32) ⟨tyOf_ok tys_ok, gOf_ok ⟨laws_szTermSS_K k, laws_szBox_K, laws_toTermSS_K k, laws_toBox_K k, spec_MiddleJacobian_K k, impl_MiddleJacobian_K k, laws_eqDyadicSS_K k, laws_intactTermSS_K k, laws_intactBox_K k, laws_markTermSS_K k, laws_markBox_K k, laws_markDyadicSS_K k, laws_heldDyadicSS_K k, trivial⟩⟩ rfl (by kernel_rfl) (by kernel_rfl) (by kernel_rfl) (by kernel_rfl) (by kernel_rfl) (by kernel_rfl) rfl (by kernel_rfl) (by kernel_rfl) (AnnOk_list [] (by kernel_rfl) trivial) mix_ok (laws_FnExactMiddleJacobian_eq k)
end Go.Ev.G
