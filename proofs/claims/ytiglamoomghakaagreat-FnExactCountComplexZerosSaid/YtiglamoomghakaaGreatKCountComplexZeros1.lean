/- The contracts of the functions behind FnExactCountComplexZeros: a call of each returns what its plain function computes; for all inputs within the sizes named. -/
import Derived.Test.YtiglamoomghakaaGreatPCountComplexZeros1
import Derived.Test.YtiglamoomghakaaGreatProg
set_option linter.unusedVariables false
namespace Go.Ev.G
open Go Go.Ev Go.Proofs
set_option maxRecDepth 100000
abbrev ty_0:Ty:=(.int .i64)

abbrev ty_1:Ty:=(.sl ty_0)

abbrev ty_2:Ty:=(.sl ty_1)

abbrev ty_3:Ty:=(.rm ty_0)

abbrev ty_4:Ty:=(.pair ty_0 ty_0)

abbrev ty_5:Ty:=(.pair ty_0 ty_4)

abbrev ty_6:Ty:=(.pair ty_0 ty_5)

abbrev ty_7:Ty:=(.sl ty_6)

abbrev ty_8:Ty:=(.sl ty_7)

abbrev ty_9:Ty:=(.pair ty_1 ty_1)

abbrev ty_10:Ty:=(.pair ty_0 ty_9)

abbrev ty_11:Ty:=(.pair ty_4 ty_4)

abbrev ty_12:Ty:=(.pair ty_4 ty_11)

abbrev ty_13:Ty:=(.pair ty_0 ty_12)

abbrev ty_14:Ty:=(.sl ty_4)

abbrev ty_15:Ty:=(.sl ty_11)

abbrev ty_16:Ty:=(.int .u64)

abbrev ty_17:Ty:=(.pair ty_16 ty_16)

abbrev ty_18:Ty:=(.pair .bool ty_17)

abbrev ty_19:Ty:=(.rm ty_3)

abbrev ty_20:Ty:=(.pair ty_3 ty_3)

abbrev ty_21:Ty:=(.pair ty_0 ty_20)

abbrev ty_22:Ty:=(.sl ty_13)

def tys:List (TypeId×Ty) := [(3,ty_0),(67,ty_7),(70,ty_6),(78,ty_4),(80,ty_11),(185,ty_13)]

theorem tys_ok:AllT Tryz.prog tys:=⟨⟨_,_,rfl,rfl,rfl,rfl⟩,⟨_,_,rfl,rfl,rfl,rfl⟩,⟨_,_,rfl,rfl,rfl,rfl⟩,⟨_,_,rfl,rfl,rfl,rfl⟩,⟨_,_,rfl,rfl,rfl,rfl⟩,⟨_,_,rfl,rfl,rfl,rfl⟩,trivial⟩

def tysR:List (TypeId×Ty) := [(3,ty_0),(23,ty_3)]

theorem tysR_ok:AllT Tryz.prog tysR:=⟨⟨_,_,rfl,rfl,rfl,rfl⟩,⟨_,_,rfl,rfl,rfl,rfl⟩,trivial⟩

theorem mix_ok:Tryz.prog.follows .mixedOrders=true:=by kernel_rfl

theorem ctr{g:FuncId}(C:Cfg){rs:List (Ty×Bool)}{ps:List PE}(F:Fn (CT (rs.map (·.1)++outs (ps.map (·.b)))))(fn:Func)(nx:Nat){f:PT (ps.map (·.b))→Option (CT (rs.map (·.1)++outs (ps.map (·.b))))}
  (hC:CfgOk C) (hann:AnnOk F (codeOf fn) 1) (hP:C.P=Tryz.prog:=by rfl) (hF:F.C=C:=by rfl) (hfn:C.P.funcs[g]? = some fn:=by kernel_rfl) (hb:fn.body=some (codeOf fn):=by kernel_rfl) (hn:(fn.name == "runtime.NumGoroutine")=false:=by kernel_rfl)
  (hnt:C.ntmps=fn.ntmps:=by kernel_rfl) (hle:Nat.ble ps.length fn.ntmps=true:=by kernel_rfl) (hpar:parOk 0 ps=true:=by kernel_rfl) (hfin:F.fin=rdRes C.P ps rs fn.results.toList .ret:=by rfl)
  (hpins:F.pins=pinIds ps:=by kernel_rfl) (hnd:nodupB F.pins=true:=by kernel_rfl) (hf:∀x,evFn F (codeOf fn) ps nx x=f x:=by intro x;kernel_rfl):Contract C.P g ⟨ps.map (·.b),rs,f⟩ :=
 contract hC hF hfn hb hn hnt hle hpar hfin hpins hnd hann (hP ▸ mix_ok) hf

theorem annl{R:Type}{F:Fn R}{c:Code}(l:List Nat)(hl:AllL F (l.map fun p=>(p,loopB c p)))(h:loopsOf c 1=l.map (fun p=>(p,loopB c p)):=by kernel_rfl):AnnOk F c 1:=AnnOk_list _ h hl

theorem lok{R:Type}{F:Fn R}{c:Code}{p:Nat}(pin pout:List PE)(ex nx:Nat)(Lf:Nat→PTe pin→Option (R ⊕ PTe pout))(k:Nat)(h:F.an p=some (.loop pin pout ex nx (Lf k)):=by kernel_rfl)(h0:∀x,Lf 0 x=none:=by intro x;rfl)
  (hs:∀n x,roundOf F c p pin pout ex nx (Lf n) x=Lf (n+1) x:=by intro n x;kernel_rfl):LoopOk F c p:=LoopOk.mk (pin:=pin) (pout:=pout) h h0 hs

noncomputable def rr(ps:List PE)(rs:List (Ty×Bool))(f:Func):=rdRes Tryz.prog ps rs f.results.toList .ret

abbrev e1:PE:=⟨0,0,.val ty_1 false,false⟩
abbrev e2:PE:=⟨1,16,.val ty_0 false,false⟩
abbrev F1:Type 1:=Fn (Int)
abbrev e3:PE:=⟨0,32,.val ty_2 false,false⟩
abbrev e4:PE:=⟨1,48,.val ty_0 false,false⟩
abbrev e5:PE:=⟨5,64,.val ty_0 false,false⟩
abbrev e6:PE:=⟨1,32,.val ty_0 false,false⟩
abbrev e7:PE:=⟨0,0,.val ty_2 false,false⟩
abbrev e8:PE:=⟨0,0,.val ty_10 true,false⟩
abbrev e9:PE:=⟨0,0,.val ty_0 false,false⟩
abbrev e10:PE:=⟨0,32,.val ty_1 false,false⟩
abbrev e11:PE:=⟨5,48,.eat ty_0,false⟩
abbrev e12:PE:=⟨6,64,.val ty_0 false,false⟩
abbrev e13:PE:=⟨7,64,.val ty_0 false,false⟩
abbrev e14:PE:=⟨1,16,.val .bool false,false⟩
abbrev e15:PE:=⟨6,80,.val ty_0 false,false⟩
abbrev e16:PE:=⟨5,48,.eat ty_3,false⟩
abbrev e17:PE:=⟨2,32,.val ty_0 false,false⟩
abbrev F2:Type 1:=Fn (Bool)
abbrev e18:PE:=⟨0,16,.val ty_2 false,false⟩
abbrev e19:PE:=⟨7,48,.val ty_0 false,false⟩
abbrev e20:PE:=⟨8,64,.val ty_0 false,false⟩
abbrev e21:PE:=⟨0,32,.val ty_0 false,false⟩
abbrev e22:PE:=⟨5,32,.val ty_0 false,false⟩
abbrev e23:PE:=⟨0,0,.val ty_6 true,false⟩
abbrev e24:PE:=⟨1,16,.val ty_6 true,false⟩
abbrev e25:PE:=⟨0,32,.val ty_7 false,false⟩
abbrev e26:PE:=⟨3,48,.box ty_6 false,false⟩
abbrev e27:PE:=⟨0,0,.val ty_7 false,false⟩
abbrev F3:Type 1:=Fn (List (Int×Int×Int×Int))
abbrev e28:PE:=⟨0,16,.val ty_7 false,false⟩
abbrev e29:PE:=⟨6,48,.val ty_0 false,false⟩
abbrev e30:PE:=⟨5,48,.val ty_0 false,false⟩
abbrev e31:PE:=⟨9,80,.val ty_0 false,false⟩
abbrev e32:PE:=⟨0,16,.val ty_8 false,false⟩
abbrev e33:PE:=⟨0,0,.val ty_8 false,false⟩
abbrev e34:PE:=⟨4,16,.eat ty_6,false⟩
abbrev e35:PE:=⟨5,32,.eat ty_6,false⟩
abbrev e36:PE:=⟨7,64,.val ty_1 false,false⟩
abbrev e37:PE:=⟨8,80,.val ty_0 false,false⟩
abbrev e38:PE:=⟨14,64,.val ty_0 false,false⟩
abbrev e39:PE:=⟨15,80,.val ty_0 false,false⟩
abbrev e40:PE:=⟨9,96,.box ty_6 false,false⟩
abbrev e41:PE:=⟨10,112,.val ty_0 false,false⟩
abbrev e42:PE:=⟨14,160,.val ty_0 false,false⟩
abbrev F4:Type 1:=Fn ((List (List (Int×Int×Int×Int)))×Bool)
abbrev e43:PE:=⟨1,16,.val ty_10 true,false⟩
abbrev e44:PE:=⟨0,0,.val ty_4 true,false⟩
abbrev e45:PE:=⟨4,64,.box ty_4 false,false⟩
abbrev F5:Type 1:=Fn ((Int×Int)×Bool)
abbrev F6:Type 1:=Fn (Int×Int)
abbrev e46:PE:=⟨1,16,.val ty_4 true,false⟩
abbrev F7:Type 1:=Fn (List (Int×(Int×Int)×(Int×Int)×Int×Int))
abbrev e47:PE:=⟨2,32,.box ty_4 false,false⟩
abbrev F8:Type 1:=Fn (Int×Bool)
abbrev e48:PE:=⟨2,16,.box ty_11 false,false⟩
abbrev e49:PE:=⟨3,32,.box ty_11 false,false⟩
abbrev e50:PE:=⟨14,80,.val ty_0 false,false⟩
abbrev e51:PE:=⟨15,96,.val ty_0 false,false⟩
abbrev F9:Type 1:=Fn ((Int×Int)×Int×Int)
abbrev e52:PE:=⟨3,48,.box ty_4 false,false⟩
abbrev e53:PE:=⟨0,0,.val ty_11 true,false⟩
abbrev e54:PE:=⟨4,32,.box ty_11 false,false⟩
abbrev F10:Type 1:=Fn (((Int×Int)×Int×Int)×Bool)
abbrev e55:PE:=⟨4,48,.box ty_11 false,false⟩
abbrev e56:PE:=⟨6,64,.eat ty_4,false⟩
abbrev e57:PE:=⟨1,16,.val ty_11 true,false⟩
abbrev e58:PE:=⟨2,32,.val ty_4 true,false⟩
abbrev e59:PE:=⟨1,32,.val ty_15 false,false⟩
abbrev e60:PE:=⟨6,64,.box ty_11 false,false⟩
abbrev e61:PE:=⟨1,16,.val ty_15 false,false⟩
abbrev e62:PE:=⟨0,32,.val ty_8 false,false⟩
abbrev e63:PE:=⟨0,48,.val ty_8 false,false⟩
abbrev e64:PE:=⟨0,0,.own ty_6,true⟩
abbrev e65:PE:=⟨1,64,.val ty_0 false,false⟩
abbrev e66:PE:=⟨2,80,.val ty_0 false,false⟩
abbrev e67:PE:=⟨3,96,.fn 157 [],false⟩
abbrev e68:PE:=⟨8,112,.val ty_0 false,false⟩
abbrev e69:PE:=⟨2,64,.fn 157 [],false⟩
abbrev e70:PE:=⟨7,96,.val ty_0 false,false⟩
abbrev e71:PE:=⟨9,48,.val ty_7 false,false⟩
abbrev e72:PE:=⟨10,64,.val ty_0 false,false⟩
abbrev e73:PE:=⟨11,80,.val ty_0 false,false⟩
abbrev e74:PE:=⟨9,96,.val ty_0 false,false⟩
abbrev e75:PE:=⟨13,144,.val ty_0 false,false⟩
abbrev e76:PE:=⟨0,0,.ptr ty_10 false,false⟩
abbrev e77:PE:=⟨1,16,.ptr ty_10 false,false⟩
abbrev F11:Type 1:=Fn (Bool×Int×Int)
abbrev e78:PE:=⟨0,0,.val ty_18 true,false⟩
abbrev e79:PE:=⟨5,32,.ptr ty_0 false,false⟩
abbrev e80:PE:=⟨6,48,.fn 236 [(ty_10,.pp),(ty_0,.pr),(ty_0,.pr)],false⟩
abbrev e81:PE:=⟨7,64,.eat ty_13,false⟩
abbrev e82:PE:=⟨10,112,.box ty_4 false,false⟩
abbrev e83:PE:=⟨17,128,.val ty_0 false,false⟩
abbrev e84:PE:=⟨0,0,.val ty_16 false,false⟩
abbrev e85:PE:=⟨1,16,.val ty_18 true,false⟩
abbrev e86:PE:=⟨0,0,.ptr .bool true,true⟩
abbrev e87:PE:=⟨6,64,.box .bool false,false⟩
abbrev e88:PE:=⟨7,80,.box ty_11 false,false⟩

noncomputable def q1V:Variant:=⟨[.val ty_1 false,.val ty_0 false],[(ty_0,false)],fun x=>laws_szIntS x.1 x.2.1⟩
noncomputable def q1C:Cfg:=⟨Tryz.prog,tyOf tys,12,gOf [],false,[],[]⟩
def q1p:List PE := [e1,e2]
noncomputable def q1F:F1:=⟨q1C,rr q1p [(ty_0,false)] Tryz.f48,fun p=>none,0,[]⟩
theorem q1K:Contract Tryz.prog 48 (q1V):=ctr q1C (rs := [(ty_0,false)]) (ps:=q1p) q1F Tryz.f48 32 ⟨tyOf_ok tys_ok,gOf_ok trivial⟩ (annl [] trivial)

noncomputable def q2V(k:Nat):Variant:=⟨[.val ty_2 false,.val ty_0 false],[(ty_0,false)],fun x=>laws_szIntSS k x.1 x.2.1⟩
noncomputable def q2C(k:Nat):Cfg:=⟨Tryz.prog,tyOf tys,27,gOf [(48,[],q1V)],false,[],[]⟩
def q2i1:List PE := [e3,e4,e5]
def q2o1:List PE := [e6]
noncomputable def q2f1(k:Nat)(n:Nat)(x2:PTe q2i1):=laws_szIntSS_L122 k n x2.1 x2.2.1 x2.2.2.1
def q2p:List PE := [e7,e2]
noncomputable def q2F(k:Nat):F1:=⟨q2C k,rr q2p [(ty_0,false)] Tryz.f26,fun p=>bif Nat.beq p 122 then some (.loop q2i1 q2o1 0 80 (q2f1 k k))else none,0,[]⟩
theorem q2K(k:Nat):Contract Tryz.prog 26 (q2V k):=ctr (q2C k) (rs := [(ty_0,false)]) (ps:=q2p) (q2F k) Tryz.f26 32 ⟨tyOf_ok tys_ok,gOf_ok ⟨q1K,trivial⟩⟩ (annl [122] ⟨lok q2i1 q2o1 0 80 (q2f1 k) k,trivial⟩)

noncomputable def q3V:Variant:=⟨[.val ty_10 true,.val ty_0 false],[(ty_0,false)],fun x=>laws_szBox x.1 x.2.1⟩
noncomputable def q3C:Cfg:=⟨Tryz.prog,tyOf tys,18,gOf [(48,[],q1V)],false,[],[]⟩
def q3p:List PE := [e8,e2]
noncomputable def q3F:F1:=⟨q3C,rr q3p [(ty_0,false)] Tryz.f12,fun p=>none,0,[]⟩
theorem q3K:Contract Tryz.prog 12 (q3V):=ctr q3C (rs := [(ty_0,false)]) (ps:=q3p) q3F Tryz.f12 32 ⟨tyOf_ok tys_ok,gOf_ok ⟨q1K,trivial⟩⟩ (annl [] trivial)

noncomputable def q4V:Variant:=⟨[.val ty_0 false],[(ty_0,false)],fun x=>laws_roomBehind x.1⟩
noncomputable def q4C:Cfg:=⟨Tryz.prog,tyOf tys,10,gOf [],false,[],[]⟩
def q4p:List PE := [e9]
noncomputable def q4F:F1:=⟨q4C,rr q4p [(ty_0,false)] Tryz.f51,fun p=>none,0,[]⟩
theorem q4K:Contract Tryz.prog 51 (q4V):=ctr q4C (rs := [(ty_0,false)]) (ps:=q4p) q4F Tryz.f51 16 ⟨tyOf_ok tys_ok,gOf_ok trivial⟩ (annl [] trivial)

noncomputable def q5V(k:Nat):Variant:=⟨[.val ty_1 false,.val .bool false],[(ty_3,false)],fun x=>laws_toIntS k x.1 x.2.1⟩
noncomputable def q5C(k:Nat):Cfg:=⟨Tryz.prog,tyOf tysR,49,gOf [(51,[],q4V)],true,[],[]⟩
def q5i1:List PE := [e10,e11,e12]
def q5o1:List PE := [e10,e11]
noncomputable def q5f1(k:Nat)(n:Nat)(x3:PTe q5i1):=laws_toIntS_L122 k n x3.1 x3.2.1 x3.2.2.1
def q5i2:List PE := [e10,e11,e13]
def q5o2:List PE := [e10,e11]
noncomputable def q5f2(k:Nat)(n:Nat)(x6:PTe q5i2):=laws_toIntS_L250 k n x6.1 x6.2.1 x6.2.2.1
def q5p:List PE := [e1,e14]
noncomputable def q5F(k:Nat):Fn (List Int×List Int):=⟨q5C k,rr q5p [(ty_3,false)] Tryz.f54,fun p=>bif Nat.beq p 122 then some (.loop q5i1 q5o1 0 80 (q5f1 k k))else bif Nat.beq p 250 then some (.loop q5i2 q5o2 2 80 (q5f2 k k))else bif Nat.beq p 6 then some (.cut [e10] 48)else none,0,[]⟩
theorem q5K(k:Nat):Contract Tryz.prog 54 (q5V k):=ctr (q5C k) (rs := [(ty_3,false)]) (ps:=q5p) (q5F k) Tryz.f54 32 ⟨tyOf_ok tysR_ok,gOf_ok ⟨q4K,trivial⟩⟩ (annl [122,250] ⟨lok q5i1 q5o1 0 80 (q5f1 k) k,lok q5i2 q5o2 2 80 (q5f2 k) k,trivial⟩)

noncomputable def q6V(k:Nat):Variant:=⟨[.val ty_2 false,.val .bool false],[(ty_19,false)],fun x=>laws_toIntSS k x.1 x.2.1⟩
noncomputable def q6C(k:Nat):Cfg:=⟨Tryz.prog,tyOf tysR,52,gOf [(51,[],q4V),(54,[],q5V k)],true,[5,27,39,44],[]⟩
def q6i1:List PE := [e3,⟨1,48,.val .bool false,false⟩,⟨5,64,.eat ty_3,false⟩,e15]
def q6o1:List PE := [e3,e16]
noncomputable def q6f1(k:Nat)(n:Nat)(x4:PTe q6i1):=laws_toIntSS_L122 k n x4.1 x4.2.1 x4.2.2.1 x4.2.2.2.1
def q6i2:List PE := [e3,e16,e13]
def q6o2:List PE := [e3,e16]
noncomputable def q6f2(k:Nat)(n:Nat)(x7:PTe q6i2):=laws_toIntSS_L250 k n x7.1 x7.2.1 x7.2.2.1
def q6p:List PE := [e7,e14]
noncomputable def q6F(k:Nat):Fn (List (List Int×List Int)×List (List Int×List Int)):=⟨q6C k,rr q6p [(ty_19,false)] Tryz.f28,fun p=>bif Nat.beq p 122 then some (.loop q6i1 q6o1 0 96 (q6f1 k k))else bif Nat.beq p 250 then some (.loop q6i2 q6o2 2 80 (q6f2 k k))else bif Nat.beq p 6 then some (.cut [e3,⟨1,48,.val .bool false,false⟩] 64)else none,0,[]⟩
theorem q6K(k:Nat):Contract Tryz.prog 28 (q6V k):=ctr (q6C k) (rs := [(ty_19,false)]) (ps:=q6p) (q6F k) Tryz.f28 32 ⟨tyOf_ok tysR_ok,gOf_ok ⟨q4K,q5K k,trivial⟩⟩ (annl [122,250] ⟨lok q6i1 q6o1 0 96 (q6f1 k) k,lok q6i2 q6o2 2 80 (q6f2 k) k,trivial⟩)

noncomputable def q7V(k:Nat):Variant:=⟨[.val ty_10 true,.val .bool false],[(ty_21,true)],fun x=>laws_toBox k x.1 x.2.1⟩
noncomputable def q7C(k:Nat):Cfg:=⟨Tryz.prog,tyOf tysR,20,gOf [(54,[],q5V k)],true,[],[]⟩
def q7p:List PE := [e8,e14]
noncomputable def q7F(k:Nat):Fn (Int×(List Int×List Int)×List Int×List Int):=⟨q7C k,rr q7p [(ty_21,true)] Tryz.f15,fun p=>none,0,[]⟩
theorem q7K(k:Nat):Contract Tryz.prog 15 (q7V k):=ctr (q7C k) (rs := [(ty_21,true)]) (ps:=q7p) (q7F k) Tryz.f15 32 ⟨tyOf_ok tysR_ok,gOf_ok ⟨q5K k,trivial⟩⟩ (annl [] trivial)

noncomputable def q8V:Variant:=⟨[.val ty_0 false,.val ty_0 false,.val ty_0 false],[(.bool,false)],fun x=>spec_l1In x.1 x.2.1 x.2.2.1⟩
noncomputable def q8C:Cfg:=⟨Tryz.prog,tyOf tys,15,gOf [],false,[],[]⟩
def q8p:List PE := [e9,e2,e17]
noncomputable def q8F:F2:=⟨q8C,rr q8p [(.bool,false)] Tryz.f149,fun p=>none,0,[]⟩
theorem q8K:Contract Tryz.prog 149 (q8V):=ctr q8C (rs := [(.bool,false)]) (ps:=q8p) q8F Tryz.f149 48 ⟨tyOf_ok tys_ok,gOf_ok trivial⟩ (annl [] trivial)

noncomputable def q9V(k:Nat):Variant:=⟨[.val ty_1 false,.val ty_0 false,.val ty_0 false],[(.bool,false)],fun x=>spec_l1All k x.1 x.2.1 x.2.2.1⟩
noncomputable def q9C(k:Nat):Cfg:=⟨Tryz.prog,tyOf tys,21,gOf [(149,[],q8V)],false,[],[]⟩
def q9i1:List PE := [e4,⟨2,64,.val ty_0 false,false⟩,⟨9,80,.val ty_1 false,false⟩,⟨10,96,.val ty_0 false,false⟩,⟨11,112,.val ty_0 false,false⟩]
def q9o1:List PE := []
noncomputable def q9f1(k:Nat)(n:Nat)(x2:PTe q9i1):=spec_l1All_L26 k n x2.1 x2.2.1 x2.2.2.1 x2.2.2.2.1 x2.2.2.2.2.1
def q9p:List PE := [e1,e2,e17]
noncomputable def q9F(k:Nat):F2:=⟨q9C k,rr q9p [(.bool,false)] Tryz.f148,fun p=>bif Nat.beq p 26 then some (.loop q9i1 q9o1 0 128 (q9f1 k k))else none,0,[]⟩
theorem q9K(k:Nat):Contract Tryz.prog 148 (q9V k):=ctr (q9C k) (rs := [(.bool,false)]) (ps:=q9p) (q9F k) Tryz.f148 48 ⟨tyOf_ok tys_ok,gOf_ok ⟨q8K,trivial⟩⟩ (annl [26] ⟨lok q9i1 q9o1 0 128 (q9f1 k) k,trivial⟩)

noncomputable def q10V(k:Nat):Variant:=⟨[.val ty_2 false],[(.bool,false)],fun x=>spec_dgComplex k x.1⟩
noncomputable def q10C(k:Nat):Cfg:=⟨Tryz.prog,tyOf tys,34,gOf [(148,[],q9V k),(149,[],q8V)],false,[],[]⟩
def q10i1:List PE := [e18,⟨6,32,.val ty_2 false,false⟩,e19,e20]
def q10o1:List PE := [e18]
noncomputable def q10f1(k:Nat)(n:Nat)(x2:PTe q10i1):=spec_dgComplex_L26 k n x2.1 x2.2.1 x2.2.2.1 x2.2.2.2.1
def q10p:List PE := [e7]
noncomputable def q10F(k:Nat):F2:=⟨q10C k,rr q10p [(.bool,false)] Tryz.f92,fun p=>bif Nat.beq p 26 then some (.loop q10i1 q10o1 0 80 (q10f1 k k))else none,0,[]⟩
theorem q10K(k:Nat):Contract Tryz.prog 92 (q10V k):=ctr (q10C k) (rs := [(.bool,false)]) (ps:=q10p) (q10F k) Tryz.f92 16 ⟨tyOf_ok tys_ok,gOf_ok ⟨q9K k,q8K,trivial⟩⟩ (annl [26] ⟨lok q10i1 q10o1 0 80 (q10f1 k) k,trivial⟩)

noncomputable def q11V(k:Nat):Variant:=⟨[.val ty_0 false,.val ty_0 false],[(ty_0,false)],fun x=>spec_beChoose k x.1 x.2.1⟩
noncomputable def q11C(k:Nat):Cfg:=⟨Tryz.prog,tyOf tys,21,gOf [],false,[],[]⟩
def q11i1:List PE := [e21,e4,e5,e15]
def q11o1:List PE := [e22]
noncomputable def q11f1(k:Nat)(n:Nat)(x1:PTe q11i1):=spec_beChoose_L58 k n x1.1 x1.2.1 x1.2.2.1 x1.2.2.2.1
def q11p:List PE := [e9,e2]
noncomputable def q11F(k:Nat):F1:=⟨q11C k,rr q11p [(ty_0,false)] Tryz.f150,fun p=>bif Nat.beq p 58 then some (.loop q11i1 q11o1 0 96 (q11f1 k k))else none,0,[]⟩
theorem q11K(k:Nat):Contract Tryz.prog 150 (q11V k):=ctr (q11C k) (rs := [(ty_0,false)]) (ps:=q11p) (q11F k) Tryz.f150 32 ⟨tyOf_ok tys_ok,gOf_ok trivial⟩ (annl [58] ⟨lok q11i1 q11o1 0 96 (q11f1 k) k,trivial⟩)

noncomputable def q12V:Variant:=⟨[.val ty_0 false],[(ty_0,false)],fun x=>spec_l1Sign x.1⟩
noncomputable def q12C:Cfg:=⟨Tryz.prog,tyOf tys,9,gOf [],false,[],[]⟩
def q12p:List PE := [e9]
noncomputable def q12F:F1:=⟨q12C,rr q12p [(ty_0,false)] Tryz.f166,fun p=>none,0,[]⟩
theorem q12K:Contract Tryz.prog 166 (q12V):=ctr q12C (rs := [(ty_0,false)]) (ps:=q12p) q12F Tryz.f166 16 ⟨tyOf_ok tys_ok,gOf_ok trivial⟩ (annl [] trivial)

noncomputable def q13V:Variant:=⟨[.val ty_6 true,.val ty_6 true],[(ty_0,false)],fun x=>spec_poOrder x.1 x.2.1⟩
noncomputable def q13C:Cfg:=⟨Tryz.prog,tyOf tys,35,gOf [(166,[],q12V)],false,[],[]⟩
def q13p:List PE := [e23,e24]
noncomputable def q13F:F1:=⟨q13C,rr q13p [(ty_0,false)] Tryz.f198,fun p=>none,0,[]⟩
theorem q13K:Contract Tryz.prog 198 (q13V):=ctr q13C (rs := [(ty_0,false)]) (ps:=q13p) q13F Tryz.f198 32 ⟨tyOf_ok tys_ok,gOf_ok ⟨q12K,trivial⟩⟩ (annl [] trivial)

noncomputable def q14V(k:Nat):Variant:=⟨[.val ty_7 false,.val ty_6 true],[(ty_7,false)],fun x=>spec_poPut k x.1 x.2.1⟩
noncomputable def q14C(k:Nat):Cfg:=⟨Tryz.prog,tyOf tys,67,gOf [(198,[],q13V)],false,[],[]⟩
def q14i1:List PE := [e25,e26,e5]
def q14o1:List PE := [e25,e26,e5]
noncomputable def q14f1(k:Nat)(n:Nat)(x2:PTe q14i1):=spec_poPut_L28 k n x2.1 x2.2.1 x2.2.2.1
def q14p:List PE := [e27,e24]
noncomputable def q14F(k:Nat):F3:=⟨q14C k,rr q14p [(ty_7,false)] Tryz.f151,fun p=>bif Nat.beq p 28 then some (.loop q14i1 q14o1 0 80 (q14f1 k k))else bif Nat.beq p 254 then some (.cut [⟨6,32,.val ty_7 false,false⟩,⟨7,48,.eat ty_6,false⟩] 64)else bif Nat.beq p 62 then some (.cut [e25,e26,e5,⟨6,80,.val ty_7 false,false⟩] 96)else none,0,[]⟩
theorem q14K(k:Nat):Contract Tryz.prog 151 (q14V k):=ctr (q14C k) (rs := [(ty_7,false)]) (ps:=q14p) (q14F k) Tryz.f151 32 ⟨tyOf_ok tys_ok,gOf_ok ⟨q13K,trivial⟩⟩ (annl [28] ⟨lok q14i1 q14o1 0 80 (q14f1 k) k,trivial⟩)

noncomputable def q15V:Variant:=⟨[.val ty_6 true],[(.bool,false)],fun x=>spec_poTerm x.1⟩
noncomputable def q15C:Cfg:=⟨Tryz.prog,tyOf tys,32,gOf [(149,[],q8V)],false,[],[]⟩
def q15p:List PE := [e23]
noncomputable def q15F:F2:=⟨q15C,rr q15p [(.bool,false)] Tryz.f229,fun p=>none,0,[]⟩
theorem q15K:Contract Tryz.prog 229 (q15V):=ctr q15C (rs := [(.bool,false)]) (ps:=q15p) q15F Tryz.f229 16 ⟨tyOf_ok tys_ok,gOf_ok ⟨q8K,trivial⟩⟩ (annl [] trivial)

noncomputable def q16V(k:Nat):Variant:=⟨[.val ty_7 false],[(.bool,false)],fun x=>spec_poGood k x.1⟩
noncomputable def q16C(k:Nat):Cfg:=⟨Tryz.prog,tyOf tys,38,gOf [(229,[],q15V),(198,[],q13V)],false,[],[]⟩
def q16i1:List PE := [e28,⟨5,32,.val ty_7 false,false⟩,e29,e13]
def q16o1:List PE := [e28]
noncomputable def q16f1(k:Nat)(n:Nat)(x3:PTe q16i1):=spec_poGood_L26 k n x3.1 x3.2.1 x3.2.2.1 x3.2.2.2.1
def q16p:List PE := [e27]
noncomputable def q16F(k:Nat):F2:=⟨q16C k,rr q16p [(.bool,false)] Tryz.f192,fun p=>bif Nat.beq p 26 then some (.loop q16i1 q16o1 0 80 (q16f1 k k))else none,0,[]⟩
theorem q16K(k:Nat):Contract Tryz.prog 192 (q16V k):=ctr (q16C k) (rs := [(.bool,false)]) (ps:=q16p) (q16F k) Tryz.f192 16 ⟨tyOf_ok tys_ok,gOf_ok ⟨q15K,q13K,trivial⟩⟩ (annl [26] ⟨lok q16i1 q16o1 0 80 (q16f1 k) k,trivial⟩)

noncomputable def q17V:Variant:=⟨[.val ty_6 true,.val ty_0 false],[(ty_0,false)],fun x=>spec_poPower x.1 x.2.1⟩
noncomputable def q17C:Cfg:=⟨Tryz.prog,tyOf tys,16,gOf [],false,[],[]⟩
def q17p:List PE := [e23,e2]
noncomputable def q17F:F1:=⟨q17C,rr q17p [(ty_0,false)] Tryz.f222,fun p=>none,0,[]⟩
theorem q17K:Contract Tryz.prog 222 (q17V):=ctr q17C (rs := [(ty_0,false)]) (ps:=q17p) q17F Tryz.f222 32 ⟨tyOf_ok tys_ok,gOf_ok trivial⟩ (annl [] trivial)

noncomputable def q18V:Variant:=⟨[.val ty_0 false,.val ty_0 false],[(ty_0,false)],fun x=>spec_l1Most x.1 x.2.1⟩
noncomputable def q18C:Cfg:=⟨Tryz.prog,tyOf tys,10,gOf [],false,[],[]⟩
def q18p:List PE := [e9,e2]
noncomputable def q18F:F1:=⟨q18C,rr q18p [(ty_0,false)] Tryz.f169,fun p=>none,0,[]⟩
theorem q18K:Contract Tryz.prog 169 (q18V):=ctr q18C (rs := [(ty_0,false)]) (ps:=q18p) q18F Tryz.f169 32 ⟨tyOf_ok tys_ok,gOf_ok trivial⟩ (annl [] trivial)

noncomputable def q19V(k:Nat):Variant:=⟨[.val ty_7 false,.val ty_0 false],[(ty_0,false)],fun x=>spec_poDegreeIn k x.1 x.2.1⟩
noncomputable def q19C(k:Nat):Cfg:=⟨Tryz.prog,tyOf tys,21,gOf [(222,[],q17V),(169,[],q18V)],false,[],[]⟩
def q19i1:List PE := [e6,e30,⟨8,64,.val ty_7 false,false⟩,e31,⟨10,96,.val ty_0 false,false⟩]
def q19o1:List PE := [e22]
noncomputable def q19f1(k:Nat)(n:Nat)(x3:PTe q19i1):=spec_poDegreeIn_L58 k n x3.1 x3.2.1 x3.2.2.1 x3.2.2.2.1 x3.2.2.2.2.1
def q19p:List PE := [e27,e2]
noncomputable def q19F(k:Nat):F1:=⟨q19C k,rr q19p [(ty_0,false)] Tryz.f193,fun p=>bif Nat.beq p 58 then some (.loop q19i1 q19o1 0 112 (q19f1 k k))else none,0,[]⟩
theorem q19K(k:Nat):Contract Tryz.prog 193 (q19V k):=ctr (q19C k) (rs := [(ty_0,false)]) (ps:=q19p) (q19F k) Tryz.f193 32 ⟨tyOf_ok tys_ok,gOf_ok ⟨q17K,q18K,trivial⟩⟩ (annl [58] ⟨lok q19i1 q19o1 0 112 (q19f1 k) k,trivial⟩)

noncomputable def q20V(k:Nat):Variant:=⟨[.val ty_8 false],[(.bool,false)],fun x=>spec_poSystem k x.1⟩
noncomputable def q20C(k:Nat):Cfg:=⟨Tryz.prog,tyOf tys,29,gOf [(192,[],q16V k),(193,[],q19V k),(149,[],q8V)],false,[],[]⟩
def q20i1:List PE := [e32,⟨4,32,.val ty_7 false,false⟩,e30,⟨6,64,.val ty_8 false,false⟩,⟨7,80,.val ty_0 false,false⟩,⟨8,96,.val ty_0 false,false⟩]
def q20o1:List PE := [e32,⟨6,32,.val ty_8 false,false⟩,e19,e20]
noncomputable def q20f1(k:Nat)(n:Nat)(x3:PTe q20i1):=spec_poSystem_L13518 k n x3.1 x3.2.1 x3.2.2.1 x3.2.2.2.1 x3.2.2.2.2.1 x3.2.2.2.2.2.1
def q20i2:List PE := [e32,⟨6,32,.val ty_8 false,false⟩,e19,e20]
def q20o2:List PE := [e32]
noncomputable def q20f2(k:Nat)(n:Nat)(x6:PTe q20i2):=spec_poSystem_L26 k n x6.1 x6.2.1 x6.2.2.1 x6.2.2.2.1
def q20p:List PE := [e33]
noncomputable def q20F(k:Nat):F2:=⟨q20C k,rr q20p [(.bool,false)] Tryz.f137,fun p=>bif Nat.beq p 13518 then some (.loop q20i1 q20o1 2 112 (q20f1 k k))else bif Nat.beq p 26 then some (.loop q20i2 q20o2 0 80 (q20f2 k k))else none,0,[]⟩
theorem q20K(k:Nat):Contract Tryz.prog 137 (q20V k):=ctr (q20C k) (rs := [(.bool,false)]) (ps:=q20p) (q20F k) Tryz.f137 16 ⟨tyOf_ok tys_ok,gOf_ok ⟨q16K k,q19K k,q8K,trivial⟩⟩ (annl [26,13518] ⟨lok q20i2 q20o2 0 80 (q20f2 k) k,lok q20i1 q20o1 2 112 (q20f1 k) k,trivial⟩)

noncomputable def q21V(k:Nat):Variant:=⟨[.val ty_2 false],[(ty_8,false),(.bool,false)],fun x=>spec_dgParted k x.1⟩
noncomputable def q21C(k:Nat):Cfg:=⟨Tryz.prog,tyOf tys,102,gOf [(150,[],q11V k),(151,[],q14V k),(137,[],q20V k)],false,[],[]⟩
def q21i1:List PE := [e34,e35,e29,e36,e37,⟨13,96,.val ty_2 false,false⟩,⟨14,112,.val ty_0 false,false⟩,⟨15,128,.val ty_0 false,false⟩]
def q21o1:List PE := [e34,e35,⟨13,48,.val ty_2 false,false⟩,e38,e39]
noncomputable def q21f1(k:Nat)(n:Nat)(x8:PTe q21i1):=spec_dgParted_L14950 k n x8.1 x8.2.1 x8.2.2.1 x8.2.2.2.1 x8.2.2.2.2.1 x8.2.2.2.2.2.1 x8.2.2.2.2.2.2.1 x8.2.2.2.2.2.2.2.1
def q21i2:List PE := [e34,e35,⟨13,48,.val ty_2 false,false⟩,e38,e39]
def q21o2:List PE := [e34,e35]
noncomputable def q21f2(k:Nat)(n:Nat)(x11:PTe q21i2):=spec_dgParted_L58 k n x11.1 x11.2.1 x11.2.2.1 x11.2.2.2.1 x11.2.2.2.2.1
def q21p:List PE := [e7]
noncomputable def q21F(k:Nat):F4:=⟨q21C k,rr q21p [(ty_8,false),(.bool,false)] Tryz.f93,fun p=>bif Nat.beq p 3827278 then some (.cut [e34,e35,e29,e36,e37,e40,⟨11,112,.val ty_0 false,false⟩,⟨13,128,.val ty_2 false,false⟩,⟨14,144,.val ty_0 false,false⟩,⟨15,160,.val ty_0 false,false⟩] 176)else bif Nat.beq p 1913638 then some (.cut [e34,e35,e29,e36,e37,e40,e41,⟨11,128,.val ty_0 false,false⟩,⟨13,144,.val ty_2 false,false⟩,e42,⟨15,176,.val ty_0 false,false⟩] 192)else bif Nat.beq p 14950 then some (.loop q21i1 q21o1 2 144 (q21f1 k k))else bif Nat.beq p 58 then some (.loop q21i2 q21o2 0 96 (q21f2 k k))else none,0,[]⟩
theorem q21K(k:Nat):Contract Tryz.prog 93 (q21V k):=ctr (q21C k) (rs := [(ty_8,false),(.bool,false)]) (ps:=q21p) (q21F k) Tryz.f93 16 ⟨tyOf_ok tys_ok,gOf_ok ⟨q11K k,q14K k,q20K k,trivial⟩⟩ (annl [58,14950] ⟨lok q21i2 q21o2 0 96 (q21f2 k) k,lok q21i1 q21o1 2 144 (q21f1 k) k,trivial⟩)

noncomputable def q22V(k:Nat):Variant:=⟨[.val ty_2 false],[(ty_8,false),(.bool,false)],fun x=>spec_ComplexSystem k x.1⟩
noncomputable def q22C(k:Nat):Cfg:=⟨Tryz.prog,tyOf tys,17,gOf [(92,[],q10V k),(93,[],q21V k)],false,[],[]⟩
def q22p:List PE := [e7]
noncomputable def q22F(k:Nat):F4:=⟨q22C k,rr q22p [(ty_8,false),(.bool,false)] Tryz.f64,fun p=>none,0,[]⟩
theorem q22K(k:Nat):Contract Tryz.prog 64 (q22V k):=ctr (q22C k) (rs := [(ty_8,false),(.bool,false)]) (ps:=q22p) (q22F k) Tryz.f64 16 ⟨tyOf_ok tys_ok,gOf_ok ⟨q10K k,q21K k,trivial⟩⟩ (annl [] trivial)

noncomputable def q23V:Variant:=⟨[.val ty_0 false],[(ty_0,false)],fun x=>spec_dyPower x.1⟩
noncomputable def q23C:Cfg:=⟨Tryz.prog,tyOf tys,6,gOf [],false,[],[]⟩
def q23p:List PE := [e9]
noncomputable def q23F:F1:=⟨q23C,rr q23p [(ty_0,false)] Tryz.f168,fun p=>none,0,[]⟩
theorem q23K:Contract Tryz.prog 168 (q23V):=ctr q23C (rs := [(ty_0,false)]) (ps:=q23p) q23F Tryz.f168 16 ⟨tyOf_ok tys_ok,gOf_ok trivial⟩ (annl [] trivial)

noncomputable def q24V(k:Nat):Variant:=⟨[.val ty_10 true],[(.bool,false)],fun x=>spec_bxGood k x.1⟩
noncomputable def q24C(k:Nat):Cfg:=⟨Tryz.prog,tyOf tys,80,gOf [(149,[],q8V),(168,[],q23V)],false,[],[]⟩
def q24i1:List PE := [⟨1,16,.box ty_10 false,false⟩,⟨3,32,.val ty_0 false,false⟩,⟨4,48,.val .bool false,false⟩,⟨36,64,.val ty_1 false,false⟩,⟨37,80,.val ty_0 false,false⟩,⟨38,96,.val ty_0 false,false⟩]
def q24o1:List PE := [⟨4,16,.val .bool false,false⟩]
noncomputable def q24f1(k:Nat)(n:Nat)(x6:PTe q24i1):=spec_bxGood_L250 k n x6.1 x6.2.1 x6.2.2.1 x6.2.2.2.1 x6.2.2.2.2.1 x6.2.2.2.2.2.1
def q24p:List PE := [e8]
noncomputable def q24F(k:Nat):F2:=⟨q24C k,rr q24p [(.bool,false)] Tryz.f138,fun p=>bif Nat.beq p 250 then some (.loop q24i1 q24o1 0 112 (q24f1 k k))else none,0,[]⟩
theorem q24K(k:Nat):Contract Tryz.prog 138 (q24V k):=ctr (q24C k) (rs := [(.bool,false)]) (ps:=q24p) (q24F k) Tryz.f138 16 ⟨tyOf_ok tys_ok,gOf_ok ⟨q8K,q23K,trivial⟩⟩ (annl [250] ⟨lok q24i1 q24o1 0 112 (q24f1 k) k,trivial⟩)

noncomputable def q25V(k:Nat):Variant:=⟨[.val ty_10 true],[(.bool,false)],fun x=>spec_imBox k x.1⟩
noncomputable def q25C(k:Nat):Cfg:=⟨Tryz.prog,tyOf tys,16,gOf [(138,[],q24V k)],false,[],[]⟩
def q25p:List PE := [e8]
noncomputable def q25F(k:Nat):F2:=⟨q25C k,rr q25p [(.bool,false)] Tryz.f152,fun p=>none,0,[]⟩
theorem q25K(k:Nat):Contract Tryz.prog 152 (q25V k):=ctr (q25C k) (rs := [(.bool,false)]) (ps:=q25p) (q25F k) Tryz.f152 16 ⟨tyOf_ok tys_ok,gOf_ok ⟨q24K k,trivial⟩⟩ (annl [] trivial)

noncomputable def q26V(k:Nat):Variant:=⟨[.val ty_8 false,.val ty_10 true],[(.bool,false)],fun x=>spec_imGood k x.1 x.2.1⟩
noncomputable def q26C(k:Nat):Cfg:=⟨Tryz.prog,tyOf tys,16,gOf [(137,[],q20V k),(152,[],q25V k)],false,[],[]⟩
def q26p:List PE := [e33,e43]
noncomputable def q26F(k:Nat):F2:=⟨q26C k,rr q26p [(.bool,false)] Tryz.f94,fun p=>none,0,[]⟩
theorem q26K(k:Nat):Contract Tryz.prog 94 (q26V k):=ctr (q26C k) (rs := [(.bool,false)]) (ps:=q26p) (q26F k) Tryz.f94 32 ⟨tyOf_ok tys_ok,gOf_ok ⟨q20K k,q25K k,trivial⟩⟩ (annl [] trivial)

noncomputable def q27V:Variant:=⟨[.val ty_4 true],[(.bool,false)],fun x=>spec_dyGood x.1⟩
noncomputable def q27C:Cfg:=⟨Tryz.prog,tyOf tys,22,gOf [(149,[],q8V)],false,[],[]⟩
def q27p:List PE := [e44]
noncomputable def q27F:F2:=⟨q27C,rr q27p [(.bool,false)] Tryz.f211,fun p=>none,0,[]⟩
theorem q27K:Contract Tryz.prog 211 (q27V):=ctr q27C (rs := [(.bool,false)]) (ps:=q27p) q27F Tryz.f211 16 ⟨tyOf_ok tys_ok,gOf_ok ⟨q8K,trivial⟩⟩ (annl [] trivial)

noncomputable def q28V(k:Nat):Variant:=⟨[.val ty_0 false,.val ty_0 false],[(ty_4,true),(.bool,false)],fun x=>spec_dyMake k x.1 x.2.1⟩
noncomputable def q28C(k:Nat):Cfg:=⟨Tryz.prog,tyOf tys,32,gOf [(211,[],q27V)],false,[],[]⟩
def q28i1:List PE := [e21,e4,e45]
def q28o1:List PE := [e21,e4,e45]
noncomputable def q28f1(k:Nat)(n:Nat)(x2:PTe q28i1):=spec_dyMake_L28 k n x2.1 x2.2.1 x2.2.2.1
def q28p:List PE := [e9,e2]
noncomputable def q28F(k:Nat):F5:=⟨q28C k,rr q28p [(ty_4,true),(.bool,false)] Tryz.f170,fun p=>bif Nat.beq p 28 then some (.loop q28i1 q28o1 0 80 (q28f1 k k))else bif Nat.beq p 6 then some (.cut [e21,e4,e45] 80)else none,0,[]⟩
theorem q28K(k:Nat):Contract Tryz.prog 170 (q28V k):=ctr (q28C k) (rs := [(ty_4,true),(.bool,false)]) (ps:=q28p) (q28F k) Tryz.f170 32 ⟨tyOf_ok tys_ok,gOf_ok ⟨q27K,trivial⟩⟩ (annl [28] ⟨lok q28i1 q28o1 0 80 (q28f1 k) k,trivial⟩)

noncomputable def q29V(k:Nat):Variant:=⟨[.val ty_0 false,.val ty_0 false],[(ty_4,true)],fun x=>spec_bxNumber k x.1 x.2.1⟩
noncomputable def q29C(k:Nat):Cfg:=⟨Tryz.prog,tyOf tys,14,gOf [(170,[],q28V k)],false,[],[]⟩
def q29p:List PE := [e9,e2]
noncomputable def q29F(k:Nat):F6:=⟨q29C k,rr q29p [(ty_4,true)] Tryz.f139,fun p=>none,0,[]⟩
theorem q29K(k:Nat):Contract Tryz.prog 139 (q29V k):=ctr (q29C k) (rs := [(ty_4,true)]) (ps:=q29p) (q29F k) Tryz.f139 32 ⟨tyOf_ok tys_ok,gOf_ok ⟨q28K k,trivial⟩⟩ (annl [] trivial)

noncomputable def q30V(k:Nat):Variant:=⟨[.val ty_0 false,.val ty_4 true,.val ty_0 false,.val ty_0 false,.val ty_0 false,.val ty_0 false],[(ty_22,false)],fun x=>spec_imWay k x.1 x.2.1 x.2.2.1 x.2.2.2.1 x.2.2.2.2.1 x.2.2.2.2.2.1⟩
noncomputable def q30C(k:Nat):Cfg:=⟨Tryz.prog,tyOf tys,61,gOf [(168,[],q23V),(139,[],q29V k)],false,[],[]⟩
def q30i1:List PE := [⟨0,96,.val ty_0 false,false⟩,⟨2,112,.val ty_0 false,false⟩,⟨3,128,.val ty_0 false,false⟩,⟨4,144,.val ty_0 false,false⟩,⟨5,160,.val ty_0 false,false⟩,⟨7,176,.box ty_4 false,false⟩,⟨13,192,.eat ty_13,false⟩,⟨14,208,.val ty_0 false,false⟩,⟨15,224,.val ty_0 false,false⟩]
def q30o1:List PE := [⟨13,96,.eat ty_13,false⟩]
noncomputable def q30f1(k:Nat)(n:Nat)(x4:PTe q30i1):=spec_imWay_L122 k n x4.1 x4.2.1 x4.2.2.1 x4.2.2.2.1 x4.2.2.2.2.1 x4.2.2.2.2.2.1 x4.2.2.2.2.2.2.1 x4.2.2.2.2.2.2.2.1 x4.2.2.2.2.2.2.2.2.1
def q30p:List PE := [e9,e46,e17,⟨3,48,.val ty_0 false,false⟩,⟨4,64,.val ty_0 false,false⟩,⟨5,80,.val ty_0 false,false⟩]
noncomputable def q30F(k:Nat):F7:=⟨q30C k,rr q30p [(ty_22,false)] Tryz.f260,fun p=>bif Nat.beq p 122 then some (.loop q30i1 q30o1 0 240 (q30f1 k k))else none,0,[]⟩
theorem q30K(k:Nat):Contract Tryz.prog 260 (q30V k):=ctr (q30C k) (rs := [(ty_22,false)]) (ps:=q30p) (q30F k) Tryz.f260 96 ⟨tyOf_ok tys_ok,gOf_ok ⟨q23K,q29K k,trivial⟩⟩ (annl [122] ⟨lok q30i1 q30o1 0 240 (q30f1 k) k,trivial⟩)

noncomputable def q31V(k:Nat):Variant:=⟨[.val ty_10 true,.val ty_0 false],[(ty_22,false)],fun x=>spec_imEdges k x.1 x.2.1⟩
noncomputable def q31C(k:Nat):Cfg:=⟨Tryz.prog,tyOf tys,72,gOf [(139,[],q29V k),(260,[],q30V k)],false,[],[]⟩
def q31p:List PE := [e8,e2]
noncomputable def q31F(k:Nat):F7:=⟨q31C k,rr q31p [(ty_22,false)] Tryz.f250,fun p=>none,0,[]⟩
theorem q31K(k:Nat):Contract Tryz.prog 250 (q31V k):=ctr (q31C k) (rs := [(ty_22,false)]) (ps:=q31p) (q31F k) Tryz.f250 32 ⟨tyOf_ok tys_ok,gOf_ok ⟨q29K k,q30K k,trivial⟩⟩ (annl [] trivial)

noncomputable def q32V:Variant:=⟨[.val ty_0 false,.val ty_0 false],[(ty_0,false)],fun x=>spec_dyDown x.1 x.2.1⟩
noncomputable def q32C:Cfg:=⟨Tryz.prog,tyOf tys,16,gOf [],false,[],[]⟩
def q32p:List PE := [e9,e2]
noncomputable def q32F:F1:=⟨q32C,rr q32p [(ty_0,false)] Tryz.f210,fun p=>none,0,[]⟩
theorem q32K:Contract Tryz.prog 210 (q32V):=ctr q32C (rs := [(ty_0,false)]) (ps:=q32p) q32F Tryz.f210 32 ⟨tyOf_ok tys_ok,gOf_ok trivial⟩ (annl [] trivial)

noncomputable def q33V:Variant:=⟨[.val ty_4 true],[(ty_0,false)],fun x=>spec_dyFloor x.1⟩
noncomputable def q33C:Cfg:=⟨Tryz.prog,tyOf tys,9,gOf [(168,[],q23V),(210,[],q32V)],false,[],[]⟩
def q33p:List PE := [e44]
noncomputable def q33F:F1:=⟨q33C,rr q33p [(ty_0,false)] Tryz.f165,fun p=>none,0,[]⟩
theorem q33K:Contract Tryz.prog 165 (q33V):=ctr q33C (rs := [(ty_0,false)]) (ps:=q33p) q33F Tryz.f165 16 ⟨tyOf_ok tys_ok,gOf_ok ⟨q23K,q32K,trivial⟩⟩ (annl [] trivial)

noncomputable def q34V(k:Nat):Variant:=⟨[.val ty_4 true,.val ty_0 false],[(ty_0,false),(.bool,false)],fun x=>spec_dyAt k x.1 x.2.1⟩
noncomputable def q34C(k:Nat):Cfg:=⟨Tryz.prog,tyOf tys,30,gOf [(168,[],q23V),(149,[],q8V)],false,[],[]⟩
def q34i1:List PE := [e6,⟨2,48,.box ty_4 false,false⟩,e12]
def q34o1:List PE := [e47]
noncomputable def q34f1(k:Nat)(n:Nat)(x4:PTe q34i1):=spec_dyAt_L58 k n x4.1 x4.2.1 x4.2.2.1
def q34p:List PE := [e44,e2]
noncomputable def q34F(k:Nat):F8:=⟨q34C k,rr q34p [(ty_0,false),(.bool,false)] Tryz.f167,fun p=>bif Nat.beq p 58 then some (.loop q34i1 q34o1 0 80 (q34f1 k k))else none,0,[]⟩
theorem q34K(k:Nat):Contract Tryz.prog 167 (q34V k):=ctr (q34C k) (rs := [(ty_0,false),(.bool,false)]) (ps:=q34p) (q34F k) Tryz.f167 32 ⟨tyOf_ok tys_ok,gOf_ok ⟨q23K,q8K,trivial⟩⟩ (annl [58] ⟨lok q34i1 q34o1 0 80 (q34f1 k) k,trivial⟩)

noncomputable def q35V(k:Nat):Variant:=⟨[.val ty_4 true,.val ty_4 true],[(ty_0,false)],fun x=>spec_dyCmp k x.1 x.2.1⟩
noncomputable def q35C(k:Nat):Cfg:=⟨Tryz.prog,tyOf tys,56,gOf [(165,[],q33V),(166,[],q12V),(168,[],q23V),(167,[],q34V k)],false,[],[]⟩
def q35p:List PE := [e44,e46]
noncomputable def q35F(k:Nat):F1:=⟨q35C k,rr q35p [(ty_0,false)] Tryz.f105,fun p=>none,0,[]⟩
theorem q35K(k:Nat):Contract Tryz.prog 105 (q35V k):=ctr (q35C k) (rs := [(ty_0,false)]) (ps:=q35p) (q35F k) Tryz.f105 32 ⟨tyOf_ok tys_ok,gOf_ok ⟨q33K,q12K,q23K,q34K k,trivial⟩⟩ (annl [] trivial)

noncomputable def q36V(k:Nat):Variant:=⟨[.val ty_14 false],[(ty_11,true)],fun x=>spec_ivEnds k x.1⟩
noncomputable def q36C(k:Nat):Cfg:=⟨Tryz.prog,tyOf tys,35,gOf [(105,[],q35V k)],false,[],[]⟩
def q36i1:List PE := [e48,e49,⟨13,48,.val ty_14 false,false⟩,e38,e39]
def q36o1:List PE := [e48,e49]
noncomputable def q36f1(k:Nat)(n:Nat)(x5:PTe q36i1):=spec_ivEnds_L58 k n x5.1 x5.2.1 x5.2.2.1 x5.2.2.2.1 x5.2.2.2.2.1
def q36p:List PE := [⟨0,0,.val ty_14 false,false⟩]
noncomputable def q36F(k:Nat):F9:=⟨q36C k,rr q36p [(ty_11,true)] Tryz.f140,fun p=>bif Nat.beq p 7474 then some (.cut [e48,e49,⟨5,48,.box ty_4 false,false⟩,⟨13,64,.val ty_14 false,false⟩,e50,e51] 112)else bif Nat.beq p 58 then some (.loop q36i1 q36o1 0 96 (q36f1 k k))else none,0,[]⟩
theorem q36K(k:Nat):Contract Tryz.prog 140 (q36V k):=ctr (q36C k) (rs := [(ty_11,true)]) (ps:=q36p) (q36F k) Tryz.f140 16 ⟨tyOf_ok tys_ok,gOf_ok ⟨q35K k,trivial⟩⟩ (annl [58] ⟨lok q36i1 q36o1 0 96 (q36f1 k) k,trivial⟩)

noncomputable def q37V:Variant:=⟨[.val ty_4 true],[(ty_11,true)],fun x=>spec_vaPure x.1⟩
noncomputable def q37C:Cfg:=⟨Tryz.prog,tyOf tys,6,gOf [],false,[],[]⟩
def q37p:List PE := [e44]
noncomputable def q37F:F9:=⟨q37C,rr q37p [(ty_11,true)] Tryz.f122,fun p=>none,0,[]⟩
theorem q37K:Contract Tryz.prog 122 (q37V):=ctr q37C (rs := [(ty_11,true)]) (ps:=q37p) q37F Tryz.f122 16 ⟨tyOf_ok tys_ok,gOf_ok trivial⟩ (annl [] trivial)

noncomputable def q38V(k:Nat):Variant:=⟨[.val ty_13 true],[(ty_15,false)],fun x=>spec_imSides k x.1⟩
noncomputable def q38C(k:Nat):Cfg:=⟨Tryz.prog,tyOf tys,23,gOf [(140,[],q36V k),(122,[],q37V)],false,[],[]⟩
def q38p:List PE := [⟨0,0,.val ty_13 true,false⟩]
noncomputable def q38F(k:Nat):Fn (List ((Int×Int)×Int×Int)):=⟨q38C k,rr q38p [(ty_15,false)] Tryz.f252,fun p=>none,0,[]⟩
theorem q38K(k:Nat):Contract Tryz.prog 252 (q38V k):=ctr (q38C k) (rs := [(ty_15,false)]) (ps:=q38p) (q38F k) Tryz.f252 16 ⟨tyOf_ok tys_ok,gOf_ok ⟨q36K k,q37K,trivial⟩⟩ (annl [] trivial)

noncomputable def q39V:Variant:=⟨[.val ty_0 false],[(ty_4,true)],fun x=>spec_dyInt x.1⟩
noncomputable def q39C:Cfg:=⟨Tryz.prog,tyOf tys,5,gOf [],false,[],[]⟩
def q39p:List PE := [e9]
noncomputable def q39F:F6:=⟨q39C,rr q39p [(ty_4,true)] Tryz.f107,fun p=>none,0,[]⟩
theorem q39K:Contract Tryz.prog 107 (q39V):=ctr q39C (rs := [(ty_4,true)]) (ps:=q39p) q39F Tryz.f107 16 ⟨tyOf_ok tys_ok,gOf_ok trivial⟩ (annl [] trivial)

noncomputable def q40V:Variant:=⟨[.val ty_0 false],[(ty_0,false)],fun x=>spec_l1Abs x.1⟩
noncomputable def q40C:Cfg:=⟨Tryz.prog,tyOf tys,7,gOf [(169,[],q18V)],false,[],[]⟩
def q40p:List PE := [e9]
noncomputable def q40F:F1:=⟨q40C,rr q40p [(ty_0,false)] Tryz.f164,fun p=>none,0,[]⟩
theorem q40K:Contract Tryz.prog 164 (q40V):=ctr q40C (rs := [(ty_0,false)]) (ps:=q40p) q40F Tryz.f164 16 ⟨tyOf_ok tys_ok,gOf_ok ⟨q18K,trivial⟩⟩ (annl [] trivial)

noncomputable def q41V(k:Nat):Variant:=⟨[.val ty_4 true,.val ty_4 true],[(ty_4,true),(.bool,false)],fun x=>spec_dyMul k x.1 x.2.1⟩
noncomputable def q41C(k:Nat):Cfg:=⟨Tryz.prog,tyOf tys,67,gOf [(164,[],q40V),(170,[],q28V k)],false,[],[]⟩
def q41i1:List PE := [e47,e52,e45,e15]
def q41o1:List PE := [e47,e52,e45,e15]
noncomputable def q41f1(k:Nat)(n:Nat)(x1:PTe q41i1):=spec_dyMul_L60 k n x1.1 x1.2.1 x1.2.2.1 x1.2.2.2.1
def q41i2:List PE := [e47,e52,e45,e15]
def q41o2:List PE := [e47,e52,e45,e15]
noncomputable def q41f2(k:Nat)(n:Nat)(x4:PTe q41i2):=spec_dyMul_L124 k n x4.1 x4.2.1 x4.2.2.1 x4.2.2.2.1
def q41p:List PE := [e44,e46]
noncomputable def q41F(k:Nat):F5:=⟨q41C k,rr q41p [(ty_4,true),(.bool,false)] Tryz.f187,fun p=>bif Nat.beq p 60 then some (.loop q41i1 q41o1 0 96 (q41f1 k k))else bif Nat.beq p 124 then some (.loop q41i2 q41o2 2 96 (q41f2 k k))else none,0,[]⟩
theorem q41K(k:Nat):Contract Tryz.prog 187 (q41V k):=ctr (q41C k) (rs := [(ty_4,true),(.bool,false)]) (ps:=q41p) (q41F k) Tryz.f187 32 ⟨tyOf_ok tys_ok,gOf_ok ⟨q40K,q28K k,trivial⟩⟩ (annl [60,124] ⟨lok q41i1 q41o1 0 96 (q41f1 k) k,lok q41i2 q41o2 2 96 (q41f2 k) k,trivial⟩)

noncomputable def q42V(k:Nat):Variant:=⟨[.val ty_4 true,.val ty_0 false],[(ty_4,true),(.bool,false)],fun x=>spec_ivRaise k x.1 x.2.1⟩
noncomputable def q42C(k:Nat):Cfg:=⟨Tryz.prog,tyOf tys,25,gOf [(107,[],q39V),(187,[],q41V k)],false,[],[]⟩
def q42i1:List PE := [e6,⟨2,48,.box ty_4 false,false⟩,e45,⟨6,80,.box ty_4 false,false⟩]
def q42o1:List PE := [⟨4,32,.box ty_4 false,false⟩,⟨6,48,.box ty_4 false,false⟩]
noncomputable def q42f1(k:Nat)(n:Nat)(x3:PTe q42i1):=spec_ivRaise_L28 k n x3.1 x3.2.1 x3.2.2.1 x3.2.2.2.1
def q42p:List PE := [e44,e2]
noncomputable def q42F(k:Nat):F5:=⟨q42C k,rr q42p [(ty_4,true),(.bool,false)] Tryz.f257,fun p=>bif Nat.beq p 28 then some (.loop q42i1 q42o1 0 96 (q42f1 k k))else none,0,[]⟩
theorem q42K(k:Nat):Contract Tryz.prog 257 (q42V k):=ctr (q42C k) (rs := [(ty_4,true),(.bool,false)]) (ps:=q42p) (q42F k) Tryz.f257 32 ⟨tyOf_ok tys_ok,gOf_ok ⟨q39K,q41K k,trivial⟩⟩ (annl [28] ⟨lok q42i1 q42o1 0 96 (q42f1 k) k,trivial⟩)

noncomputable def q43V:Variant:=⟨[.val ty_11 true],[(.bool,false)],fun x=>spec_ivZero x.1⟩
noncomputable def q43C:Cfg:=⟨Tryz.prog,tyOf tys,13,gOf [],false,[],[]⟩
def q43p:List PE := [e53]
noncomputable def q43F:F2:=⟨q43C,rr q43p [(.bool,false)] Tryz.f258,fun p=>none,0,[]⟩
theorem q43K:Contract Tryz.prog 258 (q43V):=ctr q43C (rs := [(.bool,false)]) (ps:=q43p) q43F Tryz.f258 16 ⟨tyOf_ok tys_ok,gOf_ok trivial⟩ (annl [] trivial)

noncomputable def q44V(k:Nat):Variant:=⟨[.val ty_4 true,.val ty_0 false],[(ty_4,true)],fun x=>spec_dyRound k x.1 x.2.1⟩
noncomputable def q44C(k:Nat):Cfg:=⟨Tryz.prog,tyOf tys,26,gOf [(168,[],q23V),(210,[],q32V),(170,[],q28V k)],false,[],[]⟩
def q44p:List PE := [e44,e2]
noncomputable def q44F(k:Nat):F6:=⟨q44C k,rr q44p [(ty_4,true)] Tryz.f225,fun p=>none,0,[]⟩
theorem q44K(k:Nat):Contract Tryz.prog 225 (q44V k):=ctr (q44C k) (rs := [(ty_4,true)]) (ps:=q44p) (q44F k) Tryz.f225 32 ⟨tyOf_ok tys_ok,gOf_ok ⟨q23K,q32K,q28K k,trivial⟩⟩ (annl [] trivial)

noncomputable def q45V:Variant:=⟨[.val ty_4 true],[(ty_4,true)],fun x=>spec_dyMinus x.1⟩
noncomputable def q45C:Cfg:=⟨Tryz.prog,tyOf tys,9,gOf [],false,[],[]⟩
def q45p:List PE := [e44]
noncomputable def q45F:F6:=⟨q45C,rr q45p [(ty_4,true)] Tryz.f182,fun p=>none,0,[]⟩
theorem q45K:Contract Tryz.prog 182 (q45V):=ctr q45C (rs := [(ty_4,true)]) (ps:=q45p) q45F Tryz.f182 16 ⟨tyOf_ok tys_ok,gOf_ok trivial⟩ (annl [] trivial)

noncomputable def q46V(k:Nat):Variant:=⟨[.val ty_4 true,.val ty_0 false],[(ty_4,true)],fun x=>spec_ivUp k x.1 x.2.1⟩
noncomputable def q46C(k:Nat):Cfg:=⟨Tryz.prog,tyOf tys,10,gOf [(182,[],q45V),(225,[],q44V k)],false,[],[]⟩
def q46p:List PE := [e44,e2]
noncomputable def q46F(k:Nat):F6:=⟨q46C k,rr q46p [(ty_4,true)] Tryz.f226,fun p=>none,0,[]⟩
theorem q46K(k:Nat):Contract Tryz.prog 226 (q46V k):=ctr (q46C k) (rs := [(ty_4,true)]) (ps:=q46p) (q46F k) Tryz.f226 32 ⟨tyOf_ok tys_ok,gOf_ok ⟨q45K,q44K k,trivial⟩⟩ (annl [] trivial)

noncomputable def q47V(k:Nat):Variant:=⟨[.val ty_11 true,.val ty_0 false],[(ty_11,true)],fun x=>spec_ivRound k x.1 x.2.1⟩
noncomputable def q47C(k:Nat):Cfg:=⟨Tryz.prog,tyOf tys,14,gOf [(225,[],q44V k),(226,[],q46V k)],false,[],[]⟩
def q47p:List PE := [e53,e2]
noncomputable def q47F(k:Nat):F9:=⟨q47C k,rr q47p [(ty_11,true)] Tryz.f188,fun p=>none,0,[]⟩
theorem q47K(k:Nat):Contract Tryz.prog 188 (q47V k):=ctr (q47C k) (rs := [(ty_11,true)]) (ps:=q47p) (q47F k) Tryz.f188 32 ⟨tyOf_ok tys_ok,gOf_ok ⟨q44K k,q46K k,trivial⟩⟩ (annl [] trivial)

noncomputable def q48V(k:Nat):Variant:=⟨[.val ty_11 true,.val ty_0 false],[(ty_11,true),(.bool,false)],fun x=>spec_ivPower k x.1 x.2.1⟩
noncomputable def q48C(k:Nat):Cfg:=⟨Tryz.prog,tyOf tys,53,gOf [(257,[],q42V k),(258,[],q43V),(107,[],q39V),(140,[],q36V k),(188,[],q47V k)],false,[],[]⟩
def q48p:List PE := [e53,e2]
noncomputable def q48F(k:Nat):F10:=⟨q48C k,rr q48p [(ty_11,true),(.bool,false)] Tryz.f244,fun p=>bif Nat.beq p 126 then some (.cut [e54,⟨10,48,.eat ty_4,false⟩] 64)else none,0,[]⟩
theorem q48K(k:Nat):Contract Tryz.prog 244 (q48V k):=ctr (q48C k) (rs := [(ty_11,true),(.bool,false)]) (ps:=q48p) (q48F k) Tryz.f244 32 ⟨tyOf_ok tys_ok,gOf_ok ⟨q42K k,q43K,q39K,q36K k,q47K k,trivial⟩⟩ (annl [] trivial)

noncomputable def q49V(k:Nat):Variant:=⟨[.val ty_11 true,.val ty_11 true],[(ty_11,true),(.bool,false)],fun x=>spec_ivMul k x.1 x.2.1⟩
noncomputable def q49C(k:Nat):Cfg:=⟨Tryz.prog,tyOf tys,51,gOf [(187,[],q41V k),(140,[],q36V k),(188,[],q47V k)],false,[],[]⟩
def q49i1:List PE := [e49,e55,e56,⟨8,80,.box ty_4 false,false⟩,⟨17,96,.eat ty_4,false⟩,⟨18,112,.val ty_0 false,false⟩,⟨19,128,.val ty_0 false,false⟩,⟨27,144,.eat ty_4,false⟩,⟨28,160,.val ty_0 false,false⟩,⟨29,176,.val ty_0 false,false⟩]
def q49o1:List PE := [e49,e55,e56,⟨17,80,.eat ty_4,false⟩,⟨18,96,.val ty_0 false,false⟩,⟨19,112,.val ty_0 false,false⟩]
noncomputable def q49f1(k:Nat)(n:Nat)(x2:PTe q49i1):=spec_ivMul_L14950 k n x2.1 x2.2.1 x2.2.2.1 x2.2.2.2.1 x2.2.2.2.2.1 x2.2.2.2.2.2.1 x2.2.2.2.2.2.2.1 x2.2.2.2.2.2.2.2.1 x2.2.2.2.2.2.2.2.2.1 x2.2.2.2.2.2.2.2.2.2.1
def q49i2:List PE := [e49,e55,e56,⟨17,80,.eat ty_4,false⟩,⟨18,96,.val ty_0 false,false⟩,⟨19,112,.val ty_0 false,false⟩]
def q49o2:List PE := [e54,⟨6,48,.eat ty_4,false⟩]
noncomputable def q49f2(k:Nat)(n:Nat)(x5:PTe q49i2):=spec_ivMul_L58 k n x5.1 x5.2.1 x5.2.2.1 x5.2.2.2.1 x5.2.2.2.2.1 x5.2.2.2.2.2.1
def q49p:List PE := [e53,e57]
noncomputable def q49F(k:Nat):F10:=⟨q49C k,rr q49p [(ty_11,true),(.bool,false)] Tryz.f133,fun p=>bif Nat.beq p 14950 then some (.loop q49i1 q49o1 2 192 (q49f1 k k))else bif Nat.beq p 58 then some (.loop q49i2 q49o2 0 128 (q49f2 k k))else none,0,[]⟩
theorem q49K(k:Nat):Contract Tryz.prog 133 (q49V k):=ctr (q49C k) (rs := [(ty_11,true),(.bool,false)]) (ps:=q49p) (q49F k) Tryz.f133 32 ⟨tyOf_ok tys_ok,gOf_ok ⟨q41K k,q36K k,q47K k,trivial⟩⟩ (annl [58,14950] ⟨lok q49i2 q49o2 0 128 (q49f2 k) k,lok q49i1 q49o1 2 192 (q49f1 k) k,trivial⟩)

noncomputable def q50V(k:Nat):Variant:=⟨[.val ty_4 true,.val ty_4 true],[(ty_4,true),(.bool,false)],fun x=>spec_dyAdd k x.1 x.2.1⟩
noncomputable def q50C(k:Nat):Cfg:=⟨Tryz.prog,tyOf tys,42,gOf [(169,[],q18V),(167,[],q34V k),(170,[],q28V k)],false,[],[]⟩
def q50p:List PE := [e44,e46]
noncomputable def q50F(k:Nat):F5:=⟨q50C k,rr q50p [(ty_4,true),(.bool,false)] Tryz.f106,fun p=>none,0,[]⟩
theorem q50K(k:Nat):Contract Tryz.prog 106 (q50V k):=ctr (q50C k) (rs := [(ty_4,true),(.bool,false)]) (ps:=q50p) (q50F k) Tryz.f106 32 ⟨tyOf_ok tys_ok,gOf_ok ⟨q18K,q34K k,q28K k,trivial⟩⟩ (annl [] trivial)

noncomputable def q51V:Variant:=⟨[.val ty_4 true,.val .bool false,.val ty_4 true,.val .bool false],[(ty_11,true),(.bool,false)],fun x=>spec_ivBoth x.1 x.2.1 x.2.2.1 x.2.2.2.1⟩
noncomputable def q51C:Cfg:=⟨Tryz.prog,tyOf tys,20,gOf [],false,[],[]⟩
def q51p:List PE := [e44,e14,e58,⟨3,48,.val .bool false,false⟩]
noncomputable def q51F:F10:=⟨q51C,rr q51p [(ty_11,true),(.bool,false)] Tryz.f189,fun p=>none,0,[]⟩
theorem q51K:Contract Tryz.prog 189 (q51V):=ctr q51C (rs := [(ty_11,true),(.bool,false)]) (ps:=q51p) q51F Tryz.f189 64 ⟨tyOf_ok tys_ok,gOf_ok trivial⟩ (annl [] trivial)

noncomputable def q52V(k:Nat):Variant:=⟨[.val ty_11 true,.val ty_11 true],[(ty_11,true),(.bool,false)],fun x=>spec_ivAdd k x.1 x.2.1⟩
noncomputable def q52C(k:Nat):Cfg:=⟨Tryz.prog,tyOf tys,33,gOf [(106,[],q50V k),(189,[],q51V)],false,[],[]⟩
def q52p:List PE := [e53,e57]
noncomputable def q52F(k:Nat):F10:=⟨q52C k,rr q52p [(ty_11,true),(.bool,false)] Tryz.f134,fun p=>none,0,[]⟩
theorem q52K(k:Nat):Contract Tryz.prog 134 (q52V k):=ctr (q52C k) (rs := [(ty_11,true),(.bool,false)]) (ps:=q52p) (q52F k) Tryz.f134 32 ⟨tyOf_ok tys_ok,gOf_ok ⟨q50K k,q51K,trivial⟩⟩ (annl [] trivial)

noncomputable def q53V(k:Nat):Variant:=⟨[.val ty_7 false,.val ty_15 false],[(ty_11,true),(.bool,false)],fun x=>spec_vaOver k x.1 x.2.1⟩
noncomputable def q53C(k:Nat):Cfg:=⟨Tryz.prog,tyOf tys,71,gOf [(107,[],q39V),(122,[],q37V),(222,[],q17V),(244,[],q48V k),(133,[],q49V k),(134,[],q52V k)],false,[],[]⟩
def q53i1:List PE := [e59,e55,e60,⟨8,80,.box ty_6 false,false⟩,⟨9,96,.box ty_11 false,false⟩,⟨20,112,.val ty_7 false,false⟩,⟨21,128,.val ty_0 false,false⟩,⟨22,144,.val ty_0 false,false⟩,⟨30,160,.val ty_15 false,false⟩,⟨31,176,.val ty_0 false,false⟩,⟨32,192,.val ty_0 false,false⟩]
def q53o1:List PE := [e59,e55,e60,⟨9,80,.box ty_11 false,false⟩,⟨20,96,.val ty_7 false,false⟩,⟨21,112,.val ty_0 false,false⟩,⟨22,128,.val ty_0 false,false⟩]
noncomputable def q53f1(k:Nat)(n:Nat)(x8:PTe q53i1):=spec_vaOver_L59802 k n x8.1 x8.2.1 x8.2.2.1 x8.2.2.2.1 x8.2.2.2.2.1 x8.2.2.2.2.2.1 x8.2.2.2.2.2.2.1 x8.2.2.2.2.2.2.2.1 x8.2.2.2.2.2.2.2.2.1 x8.2.2.2.2.2.2.2.2.2.1 x8.2.2.2.2.2.2.2.2.2.2.1
def q53i2:List PE := [e59,e55,e60,⟨20,80,.val ty_7 false,false⟩,⟨21,96,.val ty_0 false,false⟩,⟨22,112,.val ty_0 false,false⟩]
def q53o2:List PE := [e54,⟨6,48,.box ty_11 false,false⟩]
noncomputable def q53f2(k:Nat)(n:Nat)(x12:PTe q53i2):=spec_vaOver_L58 k n x12.1 x12.2.1 x12.2.2.1 x12.2.2.2.1 x12.2.2.2.2.1 x12.2.2.2.2.2.1
def q53p:List PE := [e27,e61]
noncomputable def q53F(k:Nat):F10:=⟨q53C k,rr q53p [(ty_11,true),(.bool,false)] Tryz.f218,fun p=>bif Nat.beq p 59802 then some (.loop q53i1 q53o1 2 208 (q53f1 k k))else bif Nat.beq p 58 then some (.loop q53i2 q53o2 0 128 (q53f2 k k))else none,0,[]⟩
theorem q53K(k:Nat):Contract Tryz.prog 218 (q53V k):=ctr (q53C k) (rs := [(ty_11,true),(.bool,false)]) (ps:=q53p) (q53F k) Tryz.f218 32 ⟨tyOf_ok tys_ok,gOf_ok ⟨q39K,q37K,q17K,q48K k,q49K k,q52K k,trivial⟩⟩ (annl [58,59802] ⟨lok q53i2 q53o2 0 128 (q53f2 k) k,lok q53i1 q53o1 2 208 (q53f1 k) k,trivial⟩)

noncomputable def q54V:Variant:=⟨[.val ty_11 true],[(ty_0,false)],fun x=>spec_ivSign x.1⟩
noncomputable def q54C:Cfg:=⟨Tryz.prog,tyOf tys,9,gOf [(258,[],q43V),(166,[],q12V)],false,[],[]⟩
def q54p:List PE := [e53]
noncomputable def q54F:F1:=⟨q54C,rr q54p [(ty_0,false)] Tryz.f265,fun p=>none,0,[]⟩
theorem q54K:Contract Tryz.prog 265 (q54V):=ctr q54C (rs := [(ty_0,false)]) (ps:=q54p) q54F Tryz.f265 16 ⟨tyOf_ok tys_ok,gOf_ok ⟨q43K,q12K,trivial⟩⟩ (annl [] trivial)

noncomputable def q55V(k:Nat):Variant:=⟨[.val ty_8 false,.val ty_15 false,.val ty_0 false],[(.bool,false)],fun x=>spec_imHolds k x.1 x.2.1 x.2.2.1⟩
noncomputable def q55C(k:Nat):Cfg:=⟨Tryz.prog,tyOf tys,29,gOf [(218,[],q53V k),(265,[],q54V)],false,[],[]⟩
def q55p:List PE := [e33,e61,e17]
noncomputable def q55F(k:Nat):F2:=⟨q55C k,rr q55p [(.bool,false)] Tryz.f261,fun p=>none,0,[]⟩
theorem q55K(k:Nat):Contract Tryz.prog 261 (q55V k):=ctr (q55C k) (rs := [(.bool,false)]) (ps:=q55p) (q55F k) Tryz.f261 48 ⟨tyOf_ok tys_ok,gOf_ok ⟨q53K k,q54K,trivial⟩⟩ (annl [] trivial)

noncomputable def q56V(k:Nat):Variant:=⟨[.val ty_8 false,.val ty_15 false],[(ty_0,false),(.bool,false)],fun x=>spec_imReason k x.1 x.2.1⟩
noncomputable def q56C(k:Nat):Cfg:=⟨Tryz.prog,tyOf tys,16,gOf [(261,[],q55V k)],false,[],[]⟩
def q56i1:List PE := [e62,⟨1,48,.val ty_15 false,false⟩,e12]
def q56o1:List PE := []
noncomputable def q56f1(k:Nat)(n:Nat)(x2:PTe q56i1):=spec_imReason_L26 k n x2.1 x2.2.1 x2.2.2.1
def q56p:List PE := [e33,e61]
noncomputable def q56F(k:Nat):F8:=⟨q56C k,rr q56p [(ty_0,false),(.bool,false)] Tryz.f251,fun p=>bif Nat.beq p 26 then some (.loop q56i1 q56o1 0 80 (q56f1 k k))else none,0,[]⟩
theorem q56K(k:Nat):Contract Tryz.prog 251 (q56V k):=ctr (q56C k) (rs := [(ty_0,false),(.bool,false)]) (ps:=q56p) (q56F k) Tryz.f251 32 ⟨tyOf_ok tys_ok,gOf_ok ⟨q55K k,trivial⟩⟩ (annl [26] ⟨lok q56i1 q56o1 0 80 (q56f1 k) k,trivial⟩)

noncomputable def q57V(k:Nat):Variant:=⟨[.val ty_8 false,.val ty_10 true,.val ty_0 false],[(ty_1,false)],fun x=>spec_imReasons k x.1 x.2.1 x.2.2.1⟩
noncomputable def q57C(k:Nat):Cfg:=⟨Tryz.prog,tyOf tys,36,gOf [(250,[],q31V k),(252,[],q38V k),(251,[],q56V k)],false,[],[]⟩
def q57i1:List PE := [e63,⟨7,64,.eat ty_0,false⟩,⟨14,80,.eat ty_13,false⟩,e51,⟨16,112,.val ty_0 false,false⟩]
def q57o1:List PE := [⟨7,48,.eat ty_0,false⟩]
noncomputable def q57f1(k:Nat)(n:Nat)(x4:PTe q57i1):=spec_imReasons_L58 k n x4.1 x4.2.1 x4.2.2.1 x4.2.2.2.1 x4.2.2.2.2.1
def q57p:List PE := [e33,e43,e17]
noncomputable def q57F(k:Nat):Fn (List Int):=⟨q57C k,rr q57p [(ty_1,false)] Tryz.f231,fun p=>bif Nat.beq p 58 then some (.loop q57i1 q57o1 0 128 (q57f1 k k))else none,0,[]⟩
theorem q57K(k:Nat):Contract Tryz.prog 231 (q57V k):=ctr (q57C k) (rs := [(ty_1,false)]) (ps:=q57p) (q57F k) Tryz.f231 48 ⟨tyOf_ok tys_ok,gOf_ok ⟨q31K k,q38K k,q56K k,trivial⟩⟩ (annl [58] ⟨lok q57i1 q57o1 0 128 (q57f1 k) k,trivial⟩)

noncomputable def q58V(k:Nat):Variant:=⟨[.val ty_8 false,.val ty_10 true,.val ty_0 false],[(ty_1,false),(.bool,false)],fun x=>spec_imAll k x.1 x.2.1 x.2.2.1⟩
noncomputable def q58C(k:Nat):Cfg:=⟨Tryz.prog,tyOf tys,20,gOf [(231,[],q57V k),(168,[],q23V)],false,[],[]⟩
def q58p:List PE := [e33,e43,e17]
noncomputable def q58F(k:Nat):Fn ((List Int)×Bool):=⟨q58C k,rr q58p [(ty_1,false),(.bool,false)] Tryz.f199,fun p=>none,0,[]⟩
theorem q58K(k:Nat):Contract Tryz.prog 199 (q58V k):=ctr (q58C k) (rs := [(ty_1,false),(.bool,false)]) (ps:=q58p) (q58F k) Tryz.f199 48 ⟨tyOf_ok tys_ok,gOf_ok ⟨q57K k,q23K,trivial⟩⟩ (annl [] trivial)

noncomputable def q59V(k:Nat):Variant:=⟨[.val ty_8 false,.val ty_10 true],[(ty_0,false),(.bool,false)],fun x=>spec_LeastDepth k x.1 x.2.1⟩
noncomputable def q59C(k:Nat):Cfg:=⟨Tryz.prog,tyOf tys,26,gOf [(94,[],q26V k),(199,[],q58V k)],false,[],[]⟩
def q59i1:List PE := [e62,⟨3,48,.box ty_10 false,false⟩,e12]
def q59o1:List PE := []
noncomputable def q59f1(k:Nat)(n:Nat)(x3:PTe q59i1):=spec_LeastDepth_L58 k n x3.1 x3.2.1 x3.2.2.1
def q59p:List PE := [e33,e43]
noncomputable def q59F(k:Nat):F8:=⟨q59C k,rr q59p [(ty_0,false),(.bool,false)] Tryz.f153,fun p=>bif Nat.beq p 58 then some (.loop q59i1 q59o1 0 80 (q59f1 k k))else none,0,[]⟩
theorem q59K(k:Nat):Contract Tryz.prog 153 (q59V k):=ctr (q59C k) (rs := [(ty_0,false),(.bool,false)]) (ps:=q59p) (q59F k) Tryz.f153 32 ⟨tyOf_ok tys_ok,gOf_ok ⟨q26K k,q58K k,trivial⟩⟩ (annl [58] ⟨lok q59i1 q59o1 0 80 (q59f1 k) k,trivial⟩)

noncomputable def q60V:Variant:=⟨[.val ty_0 false],[(.bool,false)],fun x=>spec_imDepth x.1⟩
noncomputable def q60C:Cfg:=⟨Tryz.prog,tyOf tys,5,gOf [(149,[],q8V)],false,[],[]⟩
def q60p:List PE := [e9]
noncomputable def q60F:F2:=⟨q60C,rr q60p [(.bool,false)] Tryz.f232,fun p=>none,0,[]⟩
theorem q60K:Contract Tryz.prog 232 (q60V):=ctr q60C (rs := [(.bool,false)]) (ps:=q60p) q60F Tryz.f232 16 ⟨tyOf_ok tys_ok,gOf_ok ⟨q8K,trivial⟩⟩ (annl [] trivial)

noncomputable def q61V(k:Nat):Variant:=⟨[.val ty_8 false,.val ty_10 true,.val ty_0 false],[(.bool,false)],fun x=>spec_imAsked k x.1 x.2.1 x.2.2.1⟩
noncomputable def q61C(k:Nat):Cfg:=⟨Tryz.prog,tyOf tys,14,gOf [(94,[],q26V k),(232,[],q60V)],false,[],[]⟩
def q61p:List PE := [e33,e43,e17]
noncomputable def q61F(k:Nat):F2:=⟨q61C k,rr q61p [(.bool,false)] Tryz.f200,fun p=>none,0,[]⟩
theorem q61K(k:Nat):Contract Tryz.prog 200 (q61V k):=ctr (q61C k) (rs := [(.bool,false)]) (ps:=q61p) (q61F k) Tryz.f200 48 ⟨tyOf_ok tys_ok,gOf_ok ⟨q26K k,q60K,trivial⟩⟩ (annl [] trivial)

noncomputable def q62V(k:Nat):Variant:=⟨[.val ty_1 false],[(ty_0,false),(.bool,false)],fun x=>spec_imTurns k x.1⟩
noncomputable def q62C(k:Nat):Cfg:=⟨Tryz.prog,tyOf tys,42,gOf [],false,[],[]⟩
def q62i1:List PE := [⟨0,16,.val ty_1 false,false⟩,⟨4,32,.val ty_0 false,false⟩,⟨7,48,.val ty_1 false,false⟩,e20,e31]
def q62o1:List PE := [⟨4,16,.val ty_0 false,false⟩]
noncomputable def q62f1(k:Nat)(n:Nat)(x1:PTe q62i1):=spec_imTurns_L58 k n x1.1 x1.2.1 x1.2.2.1 x1.2.2.2.1 x1.2.2.2.2.1
def q62p:List PE := [e1]
noncomputable def q62F(k:Nat):F8:=⟨q62C k,rr q62p [(ty_0,false),(.bool,false)] Tryz.f201,fun p=>bif Nat.beq p 58 then some (.loop q62i1 q62o1 0 96 (q62f1 k k))else none,0,[]⟩
theorem q62K(k:Nat):Contract Tryz.prog 201 (q62V k):=ctr (q62C k) (rs := [(ty_0,false),(.bool,false)]) (ps:=q62p) (q62F k) Tryz.f201 16 ⟨tyOf_ok tys_ok,gOf_ok trivial⟩ (annl [58] ⟨lok q62i1 q62o1 0 96 (q62f1 k) k,trivial⟩)

noncomputable def q63V(k:Nat):Variant:=⟨[.val ty_8 false,.val ty_10 true,.val ty_0 false],[(ty_0,false),(.bool,false)],fun x=>spec_WindingOf k x.1 x.2.1 x.2.2.1⟩
noncomputable def q63C(k:Nat):Cfg:=⟨Tryz.prog,tyOf tys,34,gOf [(200,[],q61V k),(199,[],q58V k),(201,[],q62V k)],false,[],[]⟩
def q63p:List PE := [e33,e43,e17]
noncomputable def q63F(k:Nat):F8:=⟨q63C k,rr q63p [(ty_0,false),(.bool,false)] Tryz.f154,fun p=>none,0,[]⟩
theorem q63K(k:Nat):Contract Tryz.prog 154 (q63V k):=ctr (q63C k) (rs := [(ty_0,false),(.bool,false)]) (ps:=q63p) (q63F k) Tryz.f154 48 ⟨tyOf_ok tys_ok,gOf_ok ⟨q61K k,q58K k,q62K k,trivial⟩⟩ (annl [] trivial)

noncomputable def q64V(k:Nat):Variant:=⟨[.val ty_8 false,.val ty_10 true],[(ty_0,false),(.bool,false)],fun x=>spec_dgPlane k x.1 x.2.1⟩
noncomputable def q64C(k:Nat):Cfg:=⟨Tryz.prog,tyOf tys,22,gOf [(153,[],q59V k),(154,[],q63V k)],false,[],[]⟩
def q64p:List PE := [e33,e43]
noncomputable def q64F(k:Nat):F8:=⟨q64C k,rr q64p [(ty_0,false),(.bool,false)] Tryz.f95,fun p=>none,0,[]⟩
theorem q64K(k:Nat):Contract Tryz.prog 95 (q64V k):=ctr (q64C k) (rs := [(ty_0,false),(.bool,false)]) (ps:=q64p) (q64F k) Tryz.f95 32 ⟨tyOf_ok tys_ok,gOf_ok ⟨q59K k,q63K k,trivial⟩⟩ (annl [] trivial)

noncomputable def q65V(k:Nat):Variant:=⟨[.val ty_8 false,.val ty_10 true],[(ty_0,false),(.bool,false)],fun x=>spec_DegreeOver k x.1 x.2.1⟩
noncomputable def q65C(k:Nat):Cfg:=⟨Tryz.prog,tyOf tys,15,gOf [(94,[],q26V k),(95,[],q64V k)],false,[],[]⟩
def q65p:List PE := [e33,e43]
noncomputable def q65F(k:Nat):F8:=⟨q65C k,rr q65p [(ty_0,false),(.bool,false)] Tryz.f65,fun p=>none,0,[]⟩
theorem q65K(k:Nat):Contract Tryz.prog 65 (q65V k):=ctr (q65C k) (rs := [(ty_0,false),(.bool,false)]) (ps:=q65p) (q65F k) Tryz.f65 32 ⟨tyOf_ok tys_ok,gOf_ok ⟨q26K k,q64K k,trivial⟩⟩ (annl [] trivial)

noncomputable def q66V(k:Nat):Variant:=⟨[.val ty_2 false,.val ty_10 true],[(ty_0,false),(.bool,false)],fun x=>spec_CountComplexZeros k x.1 x.2.1⟩
noncomputable def q66C(k:Nat):Cfg:=⟨Tryz.prog,tyOf tys,20,gOf [(64,[],q22V k),(65,[],q65V k)],false,[],[]⟩
def q66p:List PE := [e7,e43]
noncomputable def q66F(k:Nat):F8:=⟨q66C k,rr q66p [(ty_0,false),(.bool,false)] Tryz.f27,fun p=>none,0,[]⟩
theorem q66K(k:Nat):Contract Tryz.prog 27 (q66V k):=ctr (q66C k) (rs := [(ty_0,false),(.bool,false)]) (ps:=q66p) (q66F k) Tryz.f27 32 ⟨tyOf_ok tys_ok,gOf_ok ⟨q22K k,q65K k,trivial⟩⟩ (annl [] trivial)

noncomputable def q67V:Variant:=⟨[.val ty_0 false,.val ty_0 false,.val ty_0 false],[(.bool,false)],fun x=>impl_inside x.1 x.2.1 x.2.2.1⟩
noncomputable def q67C:Cfg:=⟨Tryz.prog,tyOf tys,15,gOf [],false,[],[]⟩
def q67p:List PE := [e9,e2,e17]
noncomputable def q67F:F2:=⟨q67C,rr q67p [(.bool,false)] Tryz.f96,fun p=>none,0,[]⟩
theorem q67K:Contract Tryz.prog 96 (q67V):=ctr q67C (rs := [(.bool,false)]) (ps:=q67p) q67F Tryz.f96 48 ⟨tyOf_ok tys_ok,gOf_ok trivial⟩ (annl [] trivial)

noncomputable def q68V(k:Nat):Variant:=⟨[.val ty_2 false],[(.bool,false)],fun x=>impl_isComplex k x.1⟩
noncomputable def q68C(k:Nat):Cfg:=⟨Tryz.prog,tyOf tys,54,gOf [(96,[],q67V)],false,[],[]⟩
def q68i1:List PE := [e18,⟨5,32,.val ty_2 false,false⟩,e29,e13]
def q68o1:List PE := [e18]
noncomputable def q68f1(k:Nat)(n:Nat)(x3:PTe q68i1):=impl_isComplex_L26 k n x3.1 x3.2.1 x3.2.2.1 x3.2.2.2.1
def q68p:List PE := [e7]
noncomputable def q68F(k:Nat):F2:=⟨q68C k,rr q68p [(.bool,false)] Tryz.f66,fun p=>bif Nat.beq p 26 then some (.loop q68i1 q68o1 0 80 (q68f1 k k))else none,0,[]⟩
theorem q68K(k:Nat):Contract Tryz.prog 66 (q68V k):=ctr (q68C k) (rs := [(.bool,false)]) (ps:=q68p) (q68F k) Tryz.f66 16 ⟨tyOf_ok tys_ok,gOf_ok ⟨q67K,trivial⟩⟩ (annl [26] ⟨lok q68i1 q68o1 0 80 (q68f1 k) k,trivial⟩)

noncomputable def q69V(k:Nat):Variant:=⟨[.val ty_0 false,.val ty_0 false],[(ty_0,false)],fun x=>impl_choose k x.1 x.2.1⟩
noncomputable def q69C(k:Nat):Cfg:=⟨Tryz.prog,tyOf tys,21,gOf [],false,[],[]⟩
def q69i1:List PE := [e21,e30,e13,e37]
def q69o1:List PE := [e22]
noncomputable def q69f1(k:Nat)(n:Nat)(x1:PTe q69i1):=impl_choose_L58 k n x1.1 x1.2.1 x1.2.2.1 x1.2.2.2.1
def q69p:List PE := [e9,e2]
noncomputable def q69F(k:Nat):F1:=⟨q69C k,rr q69p [(ty_0,false)] Tryz.f97,fun p=>bif Nat.beq p 58 then some (.loop q69i1 q69o1 0 96 (q69f1 k k))else none,0,[]⟩
theorem q69K(k:Nat):Contract Tryz.prog 97 (q69V k):=ctr (q69C k) (rs := [(ty_0,false)]) (ps:=q69p) (q69F k) Tryz.f97 32 ⟨tyOf_ok tys_ok,gOf_ok trivial⟩ (annl [58] ⟨lok q69i1 q69o1 0 96 (q69f1 k) k,trivial⟩)

noncomputable def q70V:Variant:=⟨[.val ty_7 false],[(ty_7,false)],fun x=>slices_Clone_Term_Term x.1⟩
noncomputable def q70C:Cfg:=⟨Tryz.prog,tyOf tys,8,gOf [],false,[],[]⟩
def q70p:List PE := [e27]
noncomputable def q70F:F3:=⟨q70C,rr q70p [(ty_7,false)] Tryz.f155,fun p=>none,0,[]⟩
theorem q70eq(x:PTe q70p):evFnN false (q70F) (codeOf Tryz.f155) q70p 16 x=slices_Clone_Term_Term x.1:=by kernel_rfl
theorem q70e0(x:(Unit)):evFnN true (q70F) (codeOf Tryz.f155) q70p 16 (([]:List (Int×Int×Int×Int)),x)=slices_Clone_Term_Term []:=by kernel_rfl
theorem q70K:Contract Tryz.prog 155 (q70V) :=
 contractN (C:=q70C) (F:=q70F) (fn:=Tryz.f155) (ps:=q70p) (rs := [(ty_7,false)]) (nx:=16) rfl ⟨tyOf_ok tys_ok,gOf_ok trivial⟩ rfl (by kernel_rfl) (by kernel_rfl) (by kernel_rfl) (by kernel_rfl) (by kernel_rfl) (by kernel_rfl) rfl (by kernel_rfl) (by kernel_rfl) (AnnOk_list [] (by kernel_rfl) trivial) mix_ok (q70eq) (fun x h=>by obtain⟨x1,x2⟩:=x;have h:x1 = []:=h;subst h;exact q70e0 x2)

noncomputable def q71V:Variant:=⟨[.val ty_0 false],[(.bool,false)],fun x=>cmp_isNaN_int x.1⟩
noncomputable def q71C:Cfg:=⟨Tryz.prog,tyOf tys,6,gOf [],false,[],[]⟩
def q71p:List PE := [e9]
noncomputable def q71F:F2:=⟨q71C,rr q71p [(.bool,false)] Tryz.f235,fun p=>none,0,[]⟩
theorem q71K:Contract Tryz.prog 235 (q71V):=ctr q71C (rs := [(.bool,false)]) (ps:=q71p) q71F Tryz.f235 16 ⟨tyOf_ok tys_ok,gOf_ok trivial⟩ (annl [] trivial)

noncomputable def q72V:Variant:=⟨[.val ty_0 false,.val ty_0 false],[(ty_0,false)],fun x=>cmp_Compare_int x.1 x.2.1⟩
noncomputable def q72C:Cfg:=⟨Tryz.prog,tyOf tys,20,gOf [(235,[],q71V)],false,[],[]⟩
def q72p:List PE := [e9,e2]
noncomputable def q72F:F1:=⟨q72C,rr q72p [(ty_0,false)] Tryz.f204,fun p=>none,0,[]⟩
theorem q72K:Contract Tryz.prog 204 (q72V):=ctr q72C (rs := [(ty_0,false)]) (ps:=q72p) q72F Tryz.f204 32 ⟨tyOf_ok tys_ok,gOf_ok ⟨q71K,trivial⟩⟩ (annl [] trivial)

noncomputable def q73V(k:Nat):Variant:=⟨[.val ty_1 false],[(ty_0,false)],fun x=>cmp_Or_int k x.1⟩
noncomputable def q73C(k:Nat):Cfg:=⟨Tryz.prog,tyOf tys,18,gOf [],false,[],[]⟩
def q73i1:List PE := [⟨3,16,.val ty_0 false,false⟩,⟨6,32,.val ty_1 false,false⟩,e19,e20]
def q73o1:List PE := [⟨3,16,.val ty_0 false,false⟩]
noncomputable def q73f1(k:Nat)(n:Nat)(x1:PTe q73i1):=cmp_Or_int_L58 k n x1.1 x1.2.1 x1.2.2.1 x1.2.2.2.1
def q73p:List PE := [e1]
noncomputable def q73F(k:Nat):F1:=⟨q73C k,rr q73p [(ty_0,false)] Tryz.f203,fun p=>bif Nat.beq p 58 then some (.loop q73i1 q73o1 0 80 (q73f1 k k))else none,0,[]⟩
theorem q73K(k:Nat):Contract Tryz.prog 203 (q73V k):=ctr (q73C k) (rs := [(ty_0,false)]) (ps:=q73p) (q73F k) Tryz.f203 16 ⟨tyOf_ok tys_ok,gOf_ok trivial⟩ (annl [58] ⟨lok q73i1 q73o1 0 80 (q73f1 k) k,trivial⟩)

noncomputable def q74V(k:Nat):Variant:=⟨[.val ty_6 true,.val ty_6 true],[(ty_0,false)],fun x=>impl_compareTerms k x.1 x.2.1⟩
noncomputable def q74C(k:Nat):Cfg:=⟨Tryz.prog,tyOf tys,22,gOf [(204,[],q72V),(203,[],q73V k)],false,[],[]⟩
def q74p:List PE := [e23,e24]
noncomputable def q74F(k:Nat):F1:=⟨q74C k,rr q74p [(ty_0,false)] Tryz.f157,fun p=>none,0,[]⟩
theorem q74K(k:Nat):Contract Tryz.prog 157 (q74V k):=ctr (q74C k) (rs := [(ty_0,false)]) (ps:=q74p) (q74F k) Tryz.f157 32 ⟨tyOf_ok tys_ok,gOf_ok ⟨q72K,q73K k,trivial⟩⟩ (annl [] trivial)

noncomputable def q75V(k:Nat):Variant:=⟨[.own ty_6,.val ty_0 false,.val ty_0 false,.fn 157 []],[],fun x=>slices_insertionSortCmpFunc_Term_impl_compareTerms k x.1 x.2.1 x.2.2.1 x.2.2.2.1⟩
noncomputable def q75C(k:Nat):Cfg:=⟨Tryz.prog,tyOf tys,53,gOf [(157,[],q74V k)],false,[],[]⟩
def q75i1:List PE := [e64,e65,e66,e67,e68,⟨9,128,.val ty_0 false,false⟩]
def q75o1:List PE := [e64,e65,e66,e67,e68]
noncomputable def q75f1(k:Nat)(n:Nat)(x2:PTe q75i1):=slices_insertionSortCmpFunc_Term_impl_compareTerms_L402 k n x2.1 x2.2.1 x2.2.2.1 x2.2.2.2.1 x2.2.2.2.2.1 x2.2.2.2.2.2.1
def q75i2:List PE := [e64,e65,e66,e67,e68]
def q75o2:List PE := [e64]
noncomputable def q75f2(k:Nat)(n:Nat)(x5:PTe q75i2):=slices_insertionSortCmpFunc_Term_impl_compareTerms_L6 k n x5.1 x5.2.1 x5.2.2.1 x5.2.2.2.1 x5.2.2.2.2.1
def q75p:List PE := [e64,e2,e17,⟨3,48,.fn 157 [],false⟩]
noncomputable def q75F(k:Nat):F3:=⟨q75C k,rr q75p [] Tryz.f233,fun p=>bif Nat.beq p 402 then some (.loop q75i1 q75o1 2 144 (q75f1 k k))else bif Nat.beq p 6 then some (.loop q75i2 q75o2 0 128 (q75f2 k k))else none,0,[0]⟩
theorem q75K(k:Nat):Contract Tryz.prog 233 (q75V k):=ctr (q75C k) (rs := []) (ps:=q75p) (q75F k) Tryz.f233 64 ⟨tyOf_ok tys_ok,gOf_ok ⟨q74K k,trivial⟩⟩ (annl [6,402] ⟨lok q75i2 q75o2 0 128 (q75f2 k) k,lok q75i1 q75o1 2 144 (q75f1 k) k,trivial⟩)

noncomputable def q76V(k:Nat):Variant:=⟨[.own ty_6,.val ty_0 false,.fn 157 []],[],fun x=>slices_stableCmpFunc_Term_impl_compareTerms k x.1 x.2.1 x.2.2.1⟩
noncomputable def q76C(k:Nat):Cfg:=⟨Tryz.prog,tyOf tys,63,gOf [(233,[157],q75V k)],false,[],[]⟩
def q76i1:List PE := [e64,e4,e69,e15,e70,e68]
def q76o1:List PE := [e64,e4,e69,e15,e70]
noncomputable def q76f1(k:Nat)(n:Nat)(x2:PTe q76i1):=slices_stableCmpFunc_Term_impl_compareTerms_L28 k n x2.1 x2.2.1 x2.2.2.1 x2.2.2.2.1 x2.2.2.2.2.1 x2.2.2.2.2.2.1
def q76i2:List PE := [e64,e4,e69,e15,e70,e68]
def q76o2:List PE := [e64,e4,e69,e15,e70]
noncomputable def q76f2(k:Nat)(n:Nat)(x6:PTe q76i2):=slices_stableCmpFunc_Term_impl_compareTerms_L3988 k n x6.1 x6.2.1 x6.2.2.1 x6.2.2.2.1 x6.2.2.2.2.1 x6.2.2.2.2.2.1
def q76i3:List PE := [e64,e4,e69,e15]
def q76o3:List PE := [e64]
noncomputable def q76f3(k:Nat)(n:Nat)(x9:PTe q76i3):=slices_stableCmpFunc_Term_impl_compareTerms_L62 k n x9.1 x9.2.1 x9.2.2.1 x9.2.2.2.1
def q76p:List PE := [e64,e2,⟨2,32,.fn 157 [],false⟩]
noncomputable def q76F(k:Nat):F3:=⟨q76C k,rr q76p [] Tryz.f202,fun p=>bif Nat.beq p 28 then some (.loop q76i1 q76o1 0 128 (q76f1 k k))else bif Nat.beq p 3988 then some (.loop q76i2 q76o2 4 128 (q76f2 k k))else bif Nat.beq p 62 then some (.loop q76i3 q76o3 2 96 (q76f3 k k))else none,0,[0]⟩
theorem q76K(k:Nat):Contract Tryz.prog 202 (q76V k):=ctr (q76C k) (rs := []) (ps:=q76p) (q76F k) Tryz.f202 48 ⟨tyOf_ok tys_ok,gOf_ok ⟨q75K k,trivial⟩⟩ (annl [28,62,3988] ⟨lok q76i1 q76o1 0 128 (q76f1 k) k,lok q76i3 q76o3 2 96 (q76f3 k) k,lok q76i2 q76o2 4 128 (q76f2 k) k,trivial⟩)

noncomputable def q77V(k:Nat):Variant:=⟨[.own ty_6,.fn 157 []],[],fun x=>slices_SortStableFunc_Term_Term_impl_compareTerms k x.1 x.2.1⟩
noncomputable def q77C(k:Nat):Cfg:=⟨Tryz.prog,tyOf tys,9,gOf [(202,[157],q76V k)],false,[],[]⟩
def q77p:List PE := [e64,⟨1,16,.fn 157 [],false⟩]
noncomputable def q77F(k:Nat):F3:=⟨q77C k,rr q77p [] Tryz.f156,fun p=>none,0,[0]⟩
theorem q77K(k:Nat):Contract Tryz.prog 156 (q77V k):=ctr (q77C k) (rs := []) (ps:=q77p) (q77F k) Tryz.f156 32 ⟨tyOf_ok tys_ok,gOf_ok ⟨q76K k,trivial⟩⟩ (annl [] trivial)

noncomputable def q78V:Variant:=⟨[.val ty_6 true],[(.bool,false)],fun x=>impl_collect_1 x.1⟩
noncomputable def q78C:Cfg:=⟨Tryz.prog,tyOf tys,6,gOf [],false,[],[]⟩
def q78p:List PE := [e23]
noncomputable def q78F:F2:=⟨q78C,rr q78p [(.bool,false)] Tryz.f159,fun p=>none,0,[]⟩
theorem q78K:Contract Tryz.prog 159 (q78V):=ctr q78C (rs := [(.bool,false)]) (ps:=q78p) q78F Tryz.f159 16 ⟨tyOf_ok tys_ok,gOf_ok trivial⟩ (annl [] trivial)

noncomputable def q79V(k:Nat):Variant:=⟨[.val ty_7 false,.fn 159 []],[(ty_0,false)],fun x=>slices_IndexFunc_Term_Term_impl_collect_1 k x.1 x.2.1⟩
noncomputable def q79C(k:Nat):Cfg:=⟨Tryz.prog,tyOf tys,19,gOf [(159,[],q78V)],false,[],[]⟩
def q79i1:List PE := [e25,⟨1,48,.fn 159 [],false⟩,e13,e37]
def q79o1:List PE := []
noncomputable def q79f1(k:Nat)(n:Nat)(x2:PTe q79i1):=slices_IndexFunc_Term_Term_impl_collect_1_L26 k n x2.1 x2.2.1 x2.2.2.1 x2.2.2.2.1
def q79p:List PE := [e27,⟨1,16,.fn 159 [],false⟩]
noncomputable def q79F(k:Nat):F1:=⟨q79C k,rr q79p [(ty_0,false)] Tryz.f205,fun p=>bif Nat.beq p 26 then some (.loop q79i1 q79o1 0 96 (q79f1 k k))else none,0,[]⟩
theorem q79K(k:Nat):Contract Tryz.prog 205 (q79V k):=ctr (q79C k) (rs := [(ty_0,false)]) (ps:=q79p) (q79F k) Tryz.f205 32 ⟨tyOf_ok tys_ok,gOf_ok ⟨q78K,trivial⟩⟩ (annl [26] ⟨lok q79i1 q79o1 0 96 (q79f1 k) k,trivial⟩)

noncomputable def q80V(k:Nat):Variant:=⟨[.eat ty_6,.fn 159 []],[(ty_7,false)],fun x=>slices_DeleteFunc_Term_Term_impl_collect_1 k x.1 x.2.1⟩
noncomputable def q80C(k:Nat):Cfg:=⟨Tryz.prog,tyOf tys,42,gOf [(205,[159],q79V k),(159,[],q78V)],true,[],[]⟩
def q80i1:List PE := [⟨0,32,.eat ty_6,false⟩,⟨1,48,.fn 159 [],false⟩,e5,e15]
def q80o1:List PE := [⟨0,32,.eat ty_6,false⟩,e30]
noncomputable def q80f1(k:Nat)(n:Nat)(x3:PTe q80i1):=slices_DeleteFunc_Term_Term_impl_collect_1_L122 k n x3.1 x3.2.1 x3.2.2.1 x3.2.2.2.1
def q80p:List PE := [⟨0,0,.eat ty_6,false⟩,⟨1,16,.fn 159 [],false⟩]
noncomputable def q80F(k:Nat):F3:=⟨q80C k,rr q80p [(ty_7,false)] Tryz.f158,fun p=>bif Nat.beq p 122 then some (.loop q80i1 q80o1 0 96 (q80f1 k k))else none,0,[]⟩
theorem q80K(k:Nat):Contract Tryz.prog 158 (q80V k):=ctr (q80C k) (rs := [(ty_7,false)]) (ps:=q80p) (q80F k) Tryz.f158 32 ⟨tyOf_ok tys_ok,gOf_ok ⟨q79K k,q78K,trivial⟩⟩ (annl [122] ⟨lok q80i1 q80o1 0 96 (q80f1 k) k,trivial⟩)

noncomputable def q81V(k:Nat):Variant:=⟨[.val ty_7 false],[(ty_7,false)],fun x=>impl_collect k x.1⟩
noncomputable def q81C(k:Nat):Cfg:=⟨Tryz.prog,tyOf tys,50,gOf [(155,[],q70V),(156,[157],q77V k),(157,[],q74V k),(158,[159],q80V k)],false,[],[]⟩
def q81i1:List PE := [e34,⟨12,32,.eat ty_6,false⟩,⟨13,48,.val ty_0 false,false⟩,e38]
def q81o1:List PE := [e34]
noncomputable def q81f1(k:Nat)(n:Nat)(x4:PTe q81i1):=impl_collect_L250 k n x4.1 x4.2.1 x4.2.2.1 x4.2.2.2.1
def q81p:List PE := [e27]
noncomputable def q81F(k:Nat):F3:=⟨q81C k,rr q81p [(ty_7,false)] Tryz.f98,fun p=>bif Nat.beq p 250 then some (.loop q81i1 q81o1 0 80 (q81f1 k k))else none,0,[]⟩
theorem q81K(k:Nat):Contract Tryz.prog 98 (q81V k):=ctr (q81C k) (rs := [(ty_7,false)]) (ps:=q81p) (q81F k) Tryz.f98 16 ⟨tyOf_ok tys_ok,gOf_ok ⟨q70K,q77K k,q74K k,q80K k,trivial⟩⟩ (annl [250] ⟨lok q81i1 q81o1 0 80 (q81f1 k) k,trivial⟩)

noncomputable def q82V:Variant:=⟨[.val ty_6 true],[(ty_0,false)],fun x=>impl_Term_degree x.1⟩
noncomputable def q82C:Cfg:=⟨Tryz.prog,tyOf tys,11,gOf [],false,[],[]⟩
def q82p:List PE := [e23]
noncomputable def q82F:F1:=⟨q82C,rr q82p [(ty_0,false)] Tryz.f223,fun p=>none,0,[]⟩
theorem q82K:Contract Tryz.prog 223 (q82V):=ctr q82C (rs := [(ty_0,false)]) (ps:=q82p) q82F Tryz.f223 16 ⟨tyOf_ok tys_ok,gOf_ok trivial⟩ (annl [] trivial)

noncomputable def q83V:Variant:=⟨[.val ty_6 true],[(.bool,false)],fun x=>impl_hasDegree x.1⟩
noncomputable def q83C:Cfg:=⟨Tryz.prog,tyOf tys,21,gOf [(96,[],q67V),(223,[],q82V)],false,[],[]⟩
def q83p:List PE := [e23]
noncomputable def q83F:F2:=⟨q83C,rr q83p [(.bool,false)] Tryz.f206,fun p=>none,0,[]⟩
theorem q83K:Contract Tryz.prog 206 (q83V):=ctr q83C (rs := [(.bool,false)]) (ps:=q83p) q83F Tryz.f206 16 ⟨tyOf_ok tys_ok,gOf_ok ⟨q67K,q82K,trivial⟩⟩ (annl [] trivial)

noncomputable def q84V(k:Nat):Variant:=⟨[.val ty_7 false],[(.bool,false)],fun x=>impl_isPoly k x.1⟩
noncomputable def q84C(k:Nat):Cfg:=⟨Tryz.prog,tyOf tys,44,gOf [(96,[],q67V),(206,[],q83V),(157,[],q74V k)],false,[],[]⟩
def q84i1:List PE := [e28,⟨5,32,.val ty_7 false,false⟩,e29,e13]
def q84o1:List PE := [e28]
noncomputable def q84f1(k:Nat)(n:Nat)(x4:PTe q84i1):=impl_isPoly_L26 k n x4.1 x4.2.1 x4.2.2.1 x4.2.2.2.1
def q84p:List PE := [e27]
noncomputable def q84F(k:Nat):F2:=⟨q84C k,rr q84p [(.bool,false)] Tryz.f160,fun p=>bif Nat.beq p 26 then some (.loop q84i1 q84o1 0 80 (q84f1 k k))else none,0,[]⟩
theorem q84K(k:Nat):Contract Tryz.prog 160 (q84V k):=ctr (q84C k) (rs := [(.bool,false)]) (ps:=q84p) (q84F k) Tryz.f160 16 ⟨tyOf_ok tys_ok,gOf_ok ⟨q67K,q83K,q74K k,trivial⟩⟩ (annl [26] ⟨lok q84i1 q84o1 0 80 (q84f1 k) k,trivial⟩)

noncomputable def q85V:Variant:=⟨[.val ty_6 true],[(ty_5,true)],fun x=>impl_Term_exponents x.1⟩
noncomputable def q85C:Cfg:=⟨Tryz.prog,tyOf tys,10,gOf [],false,[],[]⟩
def q85p:List PE := [e23]
noncomputable def q85F:Fn (Int×Int×Int):=⟨q85C,rr q85p [(ty_5,true)] Tryz.f207,fun p=>none,0,[]⟩
theorem q85K:Contract Tryz.prog 207 (q85V):=ctr q85C (rs := [(ty_5,true)]) (ps:=q85p) q85F Tryz.f207 16 ⟨tyOf_ok tys_ok,gOf_ok trivial⟩ (annl [] trivial)

noncomputable def q86V(k:Nat):Variant:=⟨[.val ty_7 false,.val ty_0 false],[(.bool,false)],fun x=>impl_needsAtMost k x.1 x.2.1⟩
noncomputable def q86C(k:Nat):Cfg:=⟨Tryz.prog,tyOf tys,30,gOf [(207,[],q85V)],false,[],[]⟩
def q86i1:List PE := [e6,e71,e72,e73,⟨16,96,.val ty_5 true,false⟩,⟨17,112,.val ty_0 false,false⟩]
def q86o1:List PE := [e6,e71,e72,e73]
noncomputable def q86f1(k:Nat)(n:Nat)(x2:PTe q86i1):=impl_needsAtMost_L6758 k n x2.1 x2.2.1 x2.2.2.1 x2.2.2.2.1 x2.2.2.2.2.1 x2.2.2.2.2.2.1
def q86i2:List PE := [e6,e71,e72,e73]
def q86o2:List PE := []
noncomputable def q86f2(k:Nat)(n:Nat)(x5:PTe q86i2):=impl_needsAtMost_L26 k n x5.1 x5.2.1 x5.2.2.1 x5.2.2.2.1
def q86p:List PE := [e27,e2]
noncomputable def q86F(k:Nat):F2:=⟨q86C k,rr q86p [(.bool,false)] Tryz.f161,fun p=>bif Nat.beq p 6758 then some (.loop q86i1 q86o1 2 128 (q86f1 k k))else bif Nat.beq p 26 then some (.loop q86i2 q86o2 0 96 (q86f2 k k))else none,0,[]⟩
theorem q86K(k:Nat):Contract Tryz.prog 161 (q86V k):=ctr (q86C k) (rs := [(.bool,false)]) (ps:=q86p) (q86F k) Tryz.f161 32 ⟨tyOf_ok tys_ok,gOf_ok ⟨q85K,trivial⟩⟩ (annl [26,6758] ⟨lok q86i2 q86o2 0 96 (q86f2 k) k,lok q86i1 q86o1 2 128 (q86f1 k) k,trivial⟩)

noncomputable def q87V(k:Nat):Variant:=⟨[.val ty_8 false],[(.bool,false)],fun x=>impl_isSystem k x.1⟩
noncomputable def q87C(k:Nat):Cfg:=⟨Tryz.prog,tyOf tys,25,gOf [(160,[],q84V k),(161,[],q86V k),(96,[],q67V)],false,[],[]⟩
def q87i1:List PE := [e32,⟨5,32,.val ty_8 false,false⟩,e29,e13]
def q87o1:List PE := [e32]
noncomputable def q87f1(k:Nat)(n:Nat)(x3:PTe q87i1):=impl_isSystem_L26 k n x3.1 x3.2.1 x3.2.2.1 x3.2.2.2.1
def q87p:List PE := [e33]
noncomputable def q87F(k:Nat):F2:=⟨q87C k,rr q87p [(.bool,false)] Tryz.f99,fun p=>bif Nat.beq p 26 then some (.loop q87i1 q87o1 0 80 (q87f1 k k))else none,0,[]⟩
theorem q87K(k:Nat):Contract Tryz.prog 99 (q87V k):=ctr (q87C k) (rs := [(.bool,false)]) (ps:=q87p) (q87F k) Tryz.f99 16 ⟨tyOf_ok tys_ok,gOf_ok ⟨q84K k,q86K k,q67K,trivial⟩⟩ (annl [26] ⟨lok q87i1 q87o1 0 80 (q87f1 k) k,trivial⟩)

noncomputable def q88V(k:Nat):Variant:=⟨[.val ty_2 false],[(ty_8,false),(.bool,false)],fun x=>impl_complexSystem k x.1⟩
noncomputable def q88C(k:Nat):Cfg:=⟨Tryz.prog,tyOf tys,74,gOf [(97,[],q69V k),(98,[],q81V k),(99,[],q87V k)],false,[],[]⟩
def q88i1:List PE := [e34,e35,e29,e36,e37,e74,e41,⟨12,128,.val ty_2 false,false⟩,e75,e42,⟨20,176,.val ty_0 false,false⟩,⟨21,192,.val ty_0 false,false⟩,⟨38,208,.val ty_0 false,false⟩,⟨39,224,.val ty_0 false,false⟩]
def q88o1:List PE := [e34,e35,e29,e36,e37,e74,e41,⟨12,128,.val ty_2 false,false⟩,e75,e42,⟨20,176,.val ty_0 false,false⟩,⟨21,192,.val ty_0 false,false⟩]
noncomputable def q88f1(k:Nat)(n:Nat)(x3:PTe q88i1):=impl_complexSystem_L15309210 k n x3.1 x3.2.1 x3.2.2.1 x3.2.2.2.1 x3.2.2.2.2.1 x3.2.2.2.2.2.1 x3.2.2.2.2.2.2.1 x3.2.2.2.2.2.2.2.1 x3.2.2.2.2.2.2.2.2.1 x3.2.2.2.2.2.2.2.2.2.1 x3.2.2.2.2.2.2.2.2.2.2.1 x3.2.2.2.2.2.2.2.2.2.2.2.1 x3.2.2.2.2.2.2.2.2.2.2.2.2.1 x3.2.2.2.2.2.2.2.2.2.2.2.2.2.1
def q88i2:List PE := [e34,e35,e29,e36,⟨12,80,.val ty_2 false,false⟩,⟨13,96,.val ty_0 false,false⟩,⟨14,112,.val ty_0 false,false⟩,⟨20,128,.val ty_0 false,false⟩,⟨21,144,.val ty_0 false,false⟩]
def q88o2:List PE := [e34,e35,⟨12,48,.val ty_2 false,false⟩,⟨13,64,.val ty_0 false,false⟩,e50]
noncomputable def q88f2(k:Nat)(n:Nat)(x6:PTe q88i2):=impl_complexSystem_L14950 k n x6.1 x6.2.1 x6.2.2.1 x6.2.2.2.1 x6.2.2.2.2.1 x6.2.2.2.2.2.1 x6.2.2.2.2.2.2.1 x6.2.2.2.2.2.2.2.1 x6.2.2.2.2.2.2.2.2.1
def q88i3:List PE := [e34,e35,⟨12,48,.val ty_2 false,false⟩,⟨13,64,.val ty_0 false,false⟩,e50]
def q88o3:List PE := [e34,e35]
noncomputable def q88f3(k:Nat)(n:Nat)(x9:PTe q88i3):=impl_complexSystem_L58 k n x9.1 x9.2.1 x9.2.2.1 x9.2.2.2.1 x9.2.2.2.2.1
def q88p:List PE := [e7]
noncomputable def q88F(k:Nat):F4:=⟨q88C k,rr q88p [(ty_8,false),(.bool,false)] Tryz.f67,fun p=>bif Nat.beq p 15309210 then some (.loop q88i1 q88o1 4 240 (q88f1 k k))else bif Nat.beq p 14950 then some (.loop q88i2 q88o2 2 160 (q88f2 k k))else bif Nat.beq p 58 then some (.loop q88i3 q88o3 0 96 (q88f3 k k))else none,0,[]⟩
theorem q88K(k:Nat):Contract Tryz.prog 67 (q88V k):=ctr (q88C k) (rs := [(ty_8,false),(.bool,false)]) (ps:=q88p) (q88F k) Tryz.f67 16 ⟨tyOf_ok tys_ok,gOf_ok ⟨q69K k,q81K k,q87K k,trivial⟩⟩ (annl [58,14950,15309210] ⟨lok q88i3 q88o3 0 96 (q88f3 k) k,lok q88i2 q88o2 2 160 (q88f2 k) k,lok q88i1 q88o1 4 240 (q88f1 k) k,trivial⟩)

noncomputable def q89V(k:Nat):Variant:=⟨[.val ty_8 false],[(.bool,false)],fun x=>impl_isTwo k x.1⟩
noncomputable def q89C(k:Nat):Cfg:=⟨Tryz.prog,tyOf tys,10,gOf [(99,[],q87V k)],false,[],[]⟩
def q89p:List PE := [e33]
noncomputable def q89F(k:Nat):F2:=⟨q89C k,rr q89p [(.bool,false)] Tryz.f100,fun p=>none,0,[]⟩
theorem q89K(k:Nat):Contract Tryz.prog 100 (q89V k):=ctr (q89C k) (rs := [(.bool,false)]) (ps:=q89p) (q89F k) Tryz.f100 16 ⟨tyOf_ok tys_ok,gOf_ok ⟨q87K k,trivial⟩⟩ (annl [] trivial)

noncomputable def q90V(k:Nat):Variant:=⟨[.ptr ty_10 false],[(.bool,false)],fun x=>impl_isBox k x.1⟩
noncomputable def q90C(k:Nat):Cfg:=⟨Tryz.prog,tyOf tys,94,gOf [(96,[],q67V)],false,[],[]⟩
def q90i1:List PE := [⟨0,16,.ptr ty_10 false,false⟩,⟨3,32,.val ty_0 false,false⟩,⟨4,48,.val .bool false,false⟩,⟨48,64,.val ty_1 false,false⟩,⟨49,80,.val ty_0 false,false⟩,⟨50,96,.val ty_0 false,false⟩]
def q90o1:List PE := [⟨4,16,.val .bool false,false⟩]
noncomputable def q90f1(k:Nat)(n:Nat)(x5:PTe q90i1):=impl_isBox_L122 k n x5.1 x5.2.1 x5.2.2.1 x5.2.2.2.1 x5.2.2.2.2.1 x5.2.2.2.2.2.1
def q90p:List PE := [e76]
noncomputable def q90F(k:Nat):F2:=⟨q90C k,rr q90p [(.bool,false)] Tryz.f141,fun p=>bif Nat.beq p 122 then some (.loop q90i1 q90o1 0 112 (q90f1 k k))else none,0,[]⟩
theorem q90K(k:Nat):Contract Tryz.prog 141 (q90V k):=ctr (q90C k) (rs := [(.bool,false)]) (ps:=q90p) (q90F k) Tryz.f141 16 ⟨tyOf_ok tys_ok,gOf_ok ⟨q67K,trivial⟩⟩ (annl [122] ⟨lok q90i1 q90o1 0 112 (q90f1 k) k,trivial⟩)

noncomputable def q91V(k:Nat):Variant:=⟨[.ptr ty_10 false],[(.bool,false)],fun x=>impl_isPlaneBox k x.1⟩
noncomputable def q91C(k:Nat):Cfg:=⟨Tryz.prog,tyOf tys,20,gOf [(141,[],q90V k)],false,[],[]⟩
def q91p:List PE := [e76]
noncomputable def q91F(k:Nat):F2:=⟨q91C k,rr q91p [(.bool,false)] Tryz.f101,fun p=>none,0,[]⟩
theorem q91K(k:Nat):Contract Tryz.prog 101 (q91V k):=ctr (q91C k) (rs := [(.bool,false)]) (ps:=q91p) (q91F k) Tryz.f101 16 ⟨tyOf_ok tys_ok,gOf_ok ⟨q90K k,trivial⟩⟩ (annl [] trivial)

noncomputable def q92V(k:Nat):Variant:=⟨[.val ty_8 false,.ptr ty_10 false],[(.bool,false)],fun x=>impl_isPlane k x.1 x.2.1⟩
noncomputable def q92C(k:Nat):Cfg:=⟨Tryz.prog,tyOf tys,11,gOf [(100,[],q89V k),(101,[],q91V k)],false,[],[]⟩
def q92p:List PE := [e33,e77]
noncomputable def q92F(k:Nat):F2:=⟨q92C k,rr q92p [(.bool,false)] Tryz.f68,fun p=>none,0,[]⟩
theorem q92K(k:Nat):Contract Tryz.prog 68 (q92V k):=ctr (q92C k) (rs := [(.bool,false)]) (ps:=q92p) (q92F k) Tryz.f68 32 ⟨tyOf_ok tys_ok,gOf_ok ⟨q89K k,q91K k,trivial⟩⟩ (annl [] trivial)

noncomputable def q93V:Variant:=⟨[.ptr ty_10 false,.val ty_0 false],[(ty_0,false)],fun x=>impl_Box_length x.1 x.2.1⟩
noncomputable def q93C:Cfg:=⟨Tryz.prog,tyOf tys,20,gOf [],false,[],[]⟩
def q93p:List PE := [e76,e2]
noncomputable def q93F:F1:=⟨q93C,rr q93p [(ty_0,false)] Tryz.f237,fun p=>none,0,[]⟩
theorem q93K:Contract Tryz.prog 237 (q93V):=ctr q93C (rs := [(ty_0,false)]) (ps:=q93p) q93F Tryz.f237 32 ⟨tyOf_ok tys_ok,gOf_ok trivial⟩ (annl [] trivial)

noncomputable def q94V:Variant:=⟨[.val ty_0 false],[(ty_16,false)],fun x=>impl_size x.1⟩
noncomputable def q94C:Cfg:=⟨Tryz.prog,tyOf tys,10,gOf [],false,[],[]⟩
def q94p:List PE := [e9]
noncomputable def q94F:F1:=⟨q94C,rr q94p [(ty_16,false)] Tryz.f197,fun p=>none,0,[]⟩
theorem q94K:Contract Tryz.prog 197 (q94V):=ctr q94C (rs := [(ty_16,false)]) (ps:=q94p) q94F Tryz.f197 16 ⟨tyOf_ok tys_ok,gOf_ok trivial⟩ (annl [] trivial)

noncomputable def q95V:Variant:=⟨[.val ty_0 false],[(ty_18,true)],fun x=>impl_wideOf x.1⟩
noncomputable def q95C:Cfg:=⟨Tryz.prog,tyOf tys,8,gOf [(197,[],q94V)],false,[],[]⟩
def q95p:List PE := [e9]
noncomputable def q95F:F11:=⟨q95C,rr q95p [(ty_18,true)] Tryz.f146,fun p=>none,0,[]⟩
theorem q95K:Contract Tryz.prog 146 (q95V):=ctr q95C (rs := [(ty_18,true)]) (ps:=q95p) q95F Tryz.f146 16 ⟨tyOf_ok tys_ok,gOf_ok ⟨q94K,trivial⟩⟩ (annl [] trivial)

noncomputable def q96V:Variant:=⟨[.val ty_18 true],[(.bool,false)],fun x=>impl_wide_isZero x.1⟩
noncomputable def q96C:Cfg:=⟨Tryz.prog,tyOf tys,11,gOf [],false,[],[]⟩
def q96p:List PE := [e78]
noncomputable def q96F:F2:=⟨q96C,rr q96p [(.bool,false)] Tryz.f195,fun p=>none,0,[]⟩
theorem q96K:Contract Tryz.prog 195 (q96V):=ctr q96C (rs := [(.bool,false)]) (ps:=q96p) q96F Tryz.f195 16 ⟨tyOf_ok tys_ok,gOf_ok trivial⟩ (annl [] trivial)

noncomputable def q97V:Variant:=⟨[.val ty_18 true,.val ty_0 false],[(ty_18,true)],fun x=>impl_wide_shift x.1 x.2.1⟩
noncomputable def q97C:Cfg:=⟨Tryz.prog,tyOf tys,63,gOf [],false,[],[]⟩
def q97p:List PE := [e78,e2]
noncomputable def q97F:F11:=⟨q97C,rr q97p [(ty_18,true)] Tryz.f147,fun p=>none,0,[]⟩
theorem q97K:Contract Tryz.prog 147 (q97V):=ctr q97C (rs := [(ty_18,true)]) (ps:=q97p) q97F Tryz.f147 32 ⟨tyOf_ok tys_ok,gOf_ok trivial⟩ (annl [] trivial)

noncomputable def q98V(k:Nat):Variant:=⟨[.val ty_18 true,.val ty_0 false],[(ty_4,true),(.bool,false)],fun x=>impl_wide_fit k x.1 x.2.1⟩
noncomputable def q98C(k:Nat):Cfg:=⟨Tryz.prog,tyOf tys,45,gOf [(195,[],q96V),(147,[],q97V)],false,[],[]⟩
def q98i1:List PE := [e6,⟨2,48,.box ty_18 false,false⟩,e45]
def q98o1:List PE := [e6,⟨2,48,.box ty_18 false,false⟩,e45]
noncomputable def q98f1(k:Nat)(n:Nat)(x3:PTe q98i1):=impl_wide_fit_L28 k n x3.1 x3.2.1 x3.2.2.1
def q98p:List PE := [e78,e2]
noncomputable def q98F(k:Nat):F5:=⟨q98C k,rr q98p [(ty_4,true),(.bool,false)] Tryz.f183,fun p=>bif Nat.beq p 28 then some (.loop q98i1 q98o1 0 80 (q98f1 k k))else none,0,[]⟩
theorem q98K(k:Nat):Contract Tryz.prog 183 (q98V k):=ctr (q98C k) (rs := [(ty_4,true),(.bool,false)]) (ps:=q98p) (q98F k) Tryz.f183 32 ⟨tyOf_ok tys_ok,gOf_ok ⟨q96K,q97K,trivial⟩⟩ (annl [28] ⟨lok q98i1 q98o1 0 80 (q98f1 k) k,trivial⟩)

noncomputable def q99V(k:Nat):Variant:=⟨[.val ty_0 false,.val ty_0 false,.pp ty_10,.ptr ty_0 false,.ptr ty_0 false],[(ty_4,true)],fun x=>impl_boundaryEdges_1 k x.1 x.2.1 x.2.2.1 x.2.2.2.1 x.2.2.2.2.1⟩
noncomputable def q99C(k:Nat):Cfg:=⟨Tryz.prog,tyOf tys,37,gOf [(237,[],q93V),(146,[],q95V),(183,[],q98V k)],false,[],[]⟩
def q99p:List PE := [e9,e2,⟨2,32,.pp ty_10,false⟩,⟨3,48,.ptr ty_0 false,false⟩,⟨4,64,.ptr ty_0 false,false⟩]
noncomputable def q99F(k:Nat):F6:=⟨q99C k,rr q99p [(ty_4,true)] Tryz.f236,fun p=>none,0,[]⟩
theorem q99K(k:Nat):Contract Tryz.prog 236 (q99V k):=ctr (q99C k) (rs := [(ty_4,true)]) (ps:=q99p) (q99F k) Tryz.f236 80 ⟨tyOf_ok tys_ok,gOf_ok ⟨q93K,q95K,q98K k,trivial⟩⟩ (annl [] trivial)

noncomputable def q100V(k:Nat):Variant:=⟨[.ptr ty_10 false,.val ty_0 false],[(ty_22,false)],fun x=>impl_boundaryEdges k x.1 x.2.1⟩
noncomputable def q100C(k:Nat):Cfg:=⟨Tryz.prog,tyOf tys,71,gOf [(236,[],q99V k)],false,[],[]⟩
def q100i1:List PE := [e79,e80,e81,e37,e74,e82,e83,⟨36,144,.val ty_0 false,false⟩,⟨37,160,.val ty_0 false,false⟩]
def q100o1:List PE := [e79,e80,e81,⟨17,80,.val ty_0 false,false⟩]
noncomputable def q100f1(k:Nat)(n:Nat)(x9:PTe q100i1):=impl_boundaryEdges_L512830 k n x9.1 x9.2.1 x9.2.2.1 x9.2.2.2.1 x9.2.2.2.2.1 x9.2.2.2.2.2.1 x9.2.2.2.2.2.2.1 x9.2.2.2.2.2.2.2.1 x9.2.2.2.2.2.2.2.2.1
def q100i2:List PE := [e79,e80,e81,⟨17,80,.val ty_0 false,false⟩]
def q100o2:List PE := [⟨7,32,.eat ty_13,false⟩]
noncomputable def q100f2(k:Nat)(n:Nat)(x13:PTe q100i2):=impl_boundaryEdges_L250 k n x13.1 x13.2.1 x13.2.2.1 x13.2.2.2.1
def q100p:List PE := [e76,e2]
noncomputable def q100F(k:Nat):F7:=⟨q100C k,rr q100p [(ty_22,false)] Tryz.f208,fun p=>bif Nat.beq p 131284582 then some (.cut [e79,e80,e81,e37,e74,e82,⟨12,128,.val ty_0 false,false⟩,e75,⟨17,160,.val ty_0 false,false⟩,⟨36,176,.val ty_0 false,false⟩,⟨37,192,.val ty_0 false,false⟩] 208)else bif Nat.beq p 512830 then some (.loop q100i1 q100o1 2 176 (q100f1 k k))else bif Nat.beq p 128206 then some (.cut [e79,e80,e81,e37,e74,e82,e83] 144)else bif Nat.beq p 250 then some (.loop q100i2 q100o2 0 96 (q100f2 k k))else none,0,[]⟩
theorem q100K(k:Nat):Contract Tryz.prog 208 (q100V k):=ctr (q100C k) (rs := [(ty_22,false)]) (ps:=q100p) (q100F k) Tryz.f208 32 ⟨tyOf_ok tys_ok,gOf_ok ⟨q99K k,trivial⟩⟩ (annl [250,512830] ⟨lok q100i2 q100o2 0 96 (q100f2 k) k,lok q100i1 q100o1 2 176 (q100f1 k) k,trivial⟩)

noncomputable def q101V:Variant:=⟨[.val ty_4 true],[(ty_11,true)],fun x=>impl_single x.1⟩
noncomputable def q101C:Cfg:=⟨Tryz.prog,tyOf tys,6,gOf [],false,[],[]⟩
def q101p:List PE := [e44]
noncomputable def q101F:F9:=⟨q101C,rr q101p [(ty_11,true)] Tryz.f111,fun p=>none,0,[]⟩
theorem q101K:Contract Tryz.prog 111 (q101V):=ctr q101C (rs := [(ty_11,true)]) (ps:=q101p) q101F Tryz.f111 16 ⟨tyOf_ok tys_ok,gOf_ok trivial⟩ (annl [] trivial)

noncomputable def q102V:Variant:=⟨[.val ty_16 false],[(.bool,false)],fun x=>cmp_isNaN_uint64 x.1⟩
noncomputable def q102C:Cfg:=⟨Tryz.prog,tyOf tys,6,gOf [],false,[],[]⟩
def q102p:List PE := [e84]
noncomputable def q102F:F2:=⟨q102C,rr q102p [(.bool,false)] Tryz.f249,fun p=>none,0,[]⟩
theorem q102K:Contract Tryz.prog 249 (q102V):=ctr q102C (rs := [(.bool,false)]) (ps:=q102p) q102F Tryz.f249 16 ⟨tyOf_ok tys_ok,gOf_ok trivial⟩ (annl [] trivial)

noncomputable def q103V:Variant:=⟨[.val ty_16 false,.val ty_16 false],[(ty_0,false)],fun x=>cmp_Compare_uint64 x.1 x.2.1⟩
noncomputable def q103C:Cfg:=⟨Tryz.prog,tyOf tys,20,gOf [(249,[],q102V)],false,[],[]⟩
def q103p:List PE := [e84,⟨1,16,.val ty_16 false,false⟩]
noncomputable def q103F:F1:=⟨q103C,rr q103p [(ty_0,false)] Tryz.f230,fun p=>none,0,[]⟩
theorem q103K:Contract Tryz.prog 230 (q103V):=ctr q103C (rs := [(ty_0,false)]) (ps:=q103p) q103F Tryz.f230 32 ⟨tyOf_ok tys_ok,gOf_ok ⟨q102K,trivial⟩⟩ (annl [] trivial)

noncomputable def q104V(k:Nat):Variant:=⟨[.val ty_18 true,.val ty_18 true],[(ty_0,false)],fun x=>impl_compareSizes k x.1 x.2.1⟩
noncomputable def q104C(k:Nat):Cfg:=⟨Tryz.prog,tyOf tys,17,gOf [(230,[],q103V),(203,[],q73V k)],false,[],[]⟩
def q104p:List PE := [e78,e85]
noncomputable def q104F(k:Nat):F1:=⟨q104C k,rr q104p [(ty_0,false)] Tryz.f196,fun p=>none,0,[]⟩
theorem q104K(k:Nat):Contract Tryz.prog 196 (q104V k):=ctr (q104C k) (rs := [(ty_0,false)]) (ps:=q104p) (q104F k) Tryz.f196 32 ⟨tyOf_ok tys_ok,gOf_ok ⟨q103K,q73K k,trivial⟩⟩ (annl [] trivial)

noncomputable def q105V(k:Nat):Variant:=⟨[.val ty_18 true,.val ty_18 true],[(ty_0,false)],fun x=>impl_compareWide k x.1 x.2.1⟩
noncomputable def q105C(k:Nat):Cfg:=⟨Tryz.prog,tyOf tys,29,gOf [(195,[],q96V),(196,[],q104V k)],false,[],[]⟩
def q105p:List PE := [e78,e85]
noncomputable def q105F(k:Nat):F1:=⟨q105C k,rr q105p [(ty_0,false)] Tryz.f145,fun p=>bif Nat.beq p 6 then some (.cut [⟨2,32,.box ty_18 false,false⟩,⟨3,48,.box ty_18 false,false⟩] 64)else none,0,[]⟩
theorem q105K(k:Nat):Contract Tryz.prog 145 (q105V k):=ctr (q105C k) (rs := [(ty_0,false)]) (ps:=q105p) (q105F k) Tryz.f145 32 ⟨tyOf_ok tys_ok,gOf_ok ⟨q96K,q104K k,trivial⟩⟩ (annl [] trivial)

noncomputable def q106V(k:Nat):Variant:=⟨[.val ty_4 true,.val ty_4 true],[(ty_0,false)],fun x=>impl_compareD k x.1 x.2.1⟩
noncomputable def q106C(k:Nat):Cfg:=⟨Tryz.prog,tyOf tys,28,gOf [(146,[],q95V),(147,[],q97V),(145,[],q105V k)],false,[],[]⟩
def q106p:List PE := [e44,e46]
noncomputable def q106F(k:Nat):F1:=⟨q106C k,rr q106p [(ty_0,false)] Tryz.f91,fun p=>none,0,[]⟩
theorem q106K(k:Nat):Contract Tryz.prog 91 (q106V k):=ctr (q106C k) (rs := [(ty_0,false)]) (ps:=q106p) (q106F k) Tryz.f91 32 ⟨tyOf_ok tys_ok,gOf_ok ⟨q95K,q97K,q105K k,trivial⟩⟩ (annl [] trivial)

noncomputable def q107V(k:Nat):Variant:=⟨[.val ty_4 true,.val ty_4 true],[(ty_4,true)],fun x=>impl_lesser k x.1 x.2.1⟩
noncomputable def q107C(k:Nat):Cfg:=⟨Tryz.prog,tyOf tys,11,gOf [(91,[],q106V k)],false,[],[]⟩
def q107p:List PE := [e44,e46]
noncomputable def q107F(k:Nat):F6:=⟨q107C k,rr q107p [(ty_4,true)] Tryz.f143,fun p=>none,0,[]⟩
theorem q107K(k:Nat):Contract Tryz.prog 143 (q107V k):=ctr (q107C k) (rs := [(ty_4,true)]) (ps:=q107p) (q107F k) Tryz.f143 32 ⟨tyOf_ok tys_ok,gOf_ok ⟨q106K k,trivial⟩⟩ (annl [] trivial)

noncomputable def q108V(k:Nat):Variant:=⟨[.val ty_4 true,.val ty_4 true],[(ty_4,true)],fun x=>impl_greater k x.1 x.2.1⟩
noncomputable def q108C(k:Nat):Cfg:=⟨Tryz.prog,tyOf tys,11,gOf [(91,[],q106V k)],false,[],[]⟩
def q108p:List PE := [e44,e46]
noncomputable def q108F(k:Nat):F6:=⟨q108C k,rr q108p [(ty_4,true)] Tryz.f114,fun p=>none,0,[]⟩
theorem q108K(k:Nat):Contract Tryz.prog 114 (q108V k):=ctr (q108C k) (rs := [(ty_4,true)]) (ps:=q108p) (q108F k) Tryz.f114 32 ⟨tyOf_ok tys_ok,gOf_ok ⟨q106K k,trivial⟩⟩ (annl [] trivial)

noncomputable def q109V:Variant:=⟨[.val ty_0 false],[(ty_4,true)],fun x=>impl_integer x.1⟩
noncomputable def q109C:Cfg:=⟨Tryz.prog,tyOf tys,5,gOf [],false,[],[]⟩
def q109p:List PE := [e9]
noncomputable def q109F:F6:=⟨q109C,rr q109p [(ty_4,true)] Tryz.f112,fun p=>none,0,[]⟩
theorem q109K:Contract Tryz.prog 112 (q109V):=ctr q109C (rs := [(ty_4,true)]) (ps:=q109p) q109F Tryz.f112 16 ⟨tyOf_ok tys_ok,gOf_ok trivial⟩ (annl [] trivial)

noncomputable def q110V:Variant:=⟨[.val ty_16 false,.val ty_16 false],[(ty_16,false),(ty_16,false)],fun x=>math_bits_Mul64 x.1 x.2.1⟩
noncomputable def q110C:Cfg:=⟨Tryz.prog,tyOf tys,51,gOf [],false,[],[]⟩
def q110p:List PE := [e84,⟨1,16,.val ty_16 false,false⟩]
noncomputable def q110F:F6:=⟨q110C,rr q110p [(ty_16,false),(ty_16,false)] Tryz.f259,fun p=>none,0,[]⟩
theorem q110K:Contract Tryz.prog 259 (q110V):=ctr q110C (rs := [(ty_16,false),(ty_16,false)]) (ps:=q110p) q110F Tryz.f259 32 ⟨tyOf_ok tys_ok,gOf_ok trivial⟩ (annl [] trivial)

noncomputable def q111V:Variant:=⟨[.val ty_0 false,.val ty_0 false],[(ty_18,true)],fun x=>impl_timesWide x.1 x.2.1⟩
noncomputable def q111C:Cfg:=⟨Tryz.prog,tyOf tys,23,gOf [(197,[],q94V),(259,[],q110V)],false,[],[]⟩
def q111p:List PE := [e9,e2]
noncomputable def q111F:F11:=⟨q111C,rr q111p [(ty_18,true)] Tryz.f248,fun p=>none,0,[]⟩
theorem q111K:Contract Tryz.prog 248 (q111V):=ctr q111C (rs := [(ty_18,true)]) (ps:=q111p) q111F Tryz.f248 32 ⟨tyOf_ok tys_ok,gOf_ok ⟨q94K,q110K,trivial⟩⟩ (annl [] trivial)

noncomputable def q112V(k:Nat):Variant:=⟨[.val ty_4 true,.val ty_4 true],[(ty_4,true),(.bool,false)],fun x=>impl_productOf k x.1 x.2.1⟩
noncomputable def q112C(k:Nat):Cfg:=⟨Tryz.prog,tyOf tys,19,gOf [(248,[],q111V),(183,[],q98V k)],false,[],[]⟩
def q112p:List PE := [e44,e46]
noncomputable def q112F(k:Nat):F5:=⟨q112C k,rr q112p [(ty_4,true),(.bool,false)] Tryz.f227,fun p=>none,0,[]⟩
theorem q112K(k:Nat):Contract Tryz.prog 227 (q112V k):=ctr (q112C k) (rs := [(ty_4,true),(.bool,false)]) (ps:=q112p) (q112F k) Tryz.f227 32 ⟨tyOf_ok tys_ok,gOf_ok ⟨q111K,q98K k,trivial⟩⟩ (annl [] trivial)

noncomputable def q113V:Variant:=⟨[.ptr .bool true,.val ty_4 true,.val .bool false],[(ty_4,true)],fun x=>impl_reckoner_keep x.1 x.2.1 x.2.2.1⟩
noncomputable def q113C:Cfg:=⟨Tryz.prog,tyOf tys,24,gOf [],false,[],[]⟩
def q113p:List PE := [e86,e46,⟨2,32,.val .bool false,false⟩]
noncomputable def q113F:F5:=⟨q113C,rr q113p [(ty_4,true)] Tryz.f128,fun p=>none,0,[0]⟩
theorem q113K:Contract Tryz.prog 128 (q113V):=ctr q113C (rs := [(ty_4,true)]) (ps:=q113p) q113F Tryz.f128 48 ⟨tyOf_ok tys_ok,gOf_ok trivial⟩ (annl [] trivial)

noncomputable def q114V(k:Nat):Variant:=⟨[.ptr .bool true,.val ty_4 true,.val ty_4 true],[(ty_4,true)],fun x=>impl_reckoner_product k x.1 x.2.1 x.2.2.1⟩
noncomputable def q114C(k:Nat):Cfg:=⟨Tryz.prog,tyOf tys,14,gOf [(227,[],q112V k),(128,[],q113V)],false,[],[]⟩
def q114p:List PE := [e86,e46,e58]
noncomputable def q114F(k:Nat):F5:=⟨q114C k,rr q114p [(ty_4,true)] Tryz.f190,fun p=>none,0,[0]⟩
theorem q114K(k:Nat):Contract Tryz.prog 190 (q114V k):=ctr (q114C k) (rs := [(ty_4,true)]) (ps:=q114p) (q114F k) Tryz.f190 48 ⟨tyOf_ok tys_ok,gOf_ok ⟨q112K k,q113K,trivial⟩⟩ (annl [] trivial)

noncomputable def q115V:Variant:=⟨[.val ty_11 true],[(ty_0,false)],fun x=>impl_signOf x.1⟩
noncomputable def q115C:Cfg:=⟨Tryz.prog,tyOf tys,13,gOf [],false,[],[]⟩
def q115p:List PE := [e53]
noncomputable def q115F:F1:=⟨q115C,rr q115p [(ty_0,false)] Tryz.f254,fun p=>none,0,[]⟩
theorem q115K:Contract Tryz.prog 254 (q115V):=ctr q115C (rs := [(ty_0,false)]) (ps:=q115p) q115F Tryz.f254 16 ⟨tyOf_ok tys_ok,gOf_ok trivial⟩ (annl [] trivial)

noncomputable def q116V(k:Nat):Variant:=⟨[.val ty_4 true,.val ty_0 false],[(ty_4,true)],fun x=>impl_roundDown k x.1 x.2.1⟩
noncomputable def q116C(k:Nat):Cfg:=⟨Tryz.prog,tyOf tys,26,gOf [(146,[],q95V),(183,[],q98V k)],false,[],[]⟩
def q116p:List PE := [e44,e2]
noncomputable def q116F(k:Nat):F6:=⟨q116C k,rr q116p [(ty_4,true)] Tryz.f228,fun p=>none,0,[]⟩
theorem q116K(k:Nat):Contract Tryz.prog 228 (q116V k):=ctr (q116C k) (rs := [(ty_4,true)]) (ps:=q116p) (q116F k) Tryz.f228 32 ⟨tyOf_ok tys_ok,gOf_ok ⟨q95K,q98K k,trivial⟩⟩ (annl [] trivial)

noncomputable def q117V:Variant:=⟨[.val ty_4 true],[(ty_4,true)],fun x=>impl_minus x.1⟩
noncomputable def q117C:Cfg:=⟨Tryz.prog,tyOf tys,9,gOf [],false,[],[]⟩
def q117p:List PE := [e44]
noncomputable def q117F:F6:=⟨q117C,rr q117p [(ty_4,true)] Tryz.f115,fun p=>none,0,[]⟩
theorem q117K:Contract Tryz.prog 115 (q117V):=ctr q117C (rs := [(ty_4,true)]) (ps:=q117p) q117F Tryz.f115 16 ⟨tyOf_ok tys_ok,gOf_ok trivial⟩ (annl [] trivial)

noncomputable def q118V(k:Nat):Variant:=⟨[.val ty_11 true,.val ty_0 false],[(ty_11,true)],fun x=>impl_roundOut k x.1 x.2.1⟩
noncomputable def q118C(k:Nat):Cfg:=⟨Tryz.prog,tyOf tys,16,gOf [(228,[],q116V k),(115,[],q117V)],false,[],[]⟩
def q118p:List PE := [e53,e2]
noncomputable def q118F(k:Nat):F9:=⟨q118C k,rr q118p [(ty_11,true)] Tryz.f191,fun p=>none,0,[]⟩
theorem q118K(k:Nat):Contract Tryz.prog 191 (q118V k):=ctr (q118C k) (rs := [(ty_11,true)]) (ps:=q118p) (q118F k) Tryz.f191 32 ⟨tyOf_ok tys_ok,gOf_ok ⟨q116K k,q117K,trivial⟩⟩ (annl [] trivial)

noncomputable def q119V(k:Nat):Variant:=⟨[.ptr .bool true,.val ty_11 true,.val ty_0 false],[(ty_11,true)],fun x=>impl_reckoner_power k x.1 x.2.1 x.2.2.1⟩
noncomputable def q119C(k:Nat):Cfg:=⟨Tryz.prog,tyOf tys,49,gOf [(112,[],q109V),(111,[],q101V),(190,[],q114V k),(143,[],q107V k),(114,[],q108V k),(254,[],q115V),(191,[],q118V k)],false,[],[]⟩
def q119i1:List PE := [e86,⟨2,48,.val ty_0 false,false⟩,⟨4,64,.box ty_11 false,false⟩,⟨6,80,.box ty_11 false,false⟩,⟨7,96,.box ty_4 false,false⟩,⟨8,112,.box ty_4 false,false⟩,⟨18,128,.val ty_0 false,false⟩,⟨19,144,.val ty_0 false,false⟩]
def q119o1:List PE := [⟨2,48,.val ty_0 false,false⟩,⟨4,64,.box ty_11 false,false⟩,⟨6,80,.box ty_11 false,false⟩,⟨7,96,.box ty_4 false,false⟩,⟨8,112,.box ty_4 false,false⟩,e86]
noncomputable def q119f1(k:Nat)(n:Nat)(x5:PTe q119i1):=impl_reckoner_power_L122 k n x5.1 x5.2.1 x5.2.2.1 x5.2.2.2.1 x5.2.2.2.2.1 x5.2.2.2.2.2.1 x5.2.2.2.2.2.2.1 x5.2.2.2.2.2.2.2.1
def q119p:List PE := [e86,e57,e17]
noncomputable def q119F(k:Nat):F10:=⟨q119C k,rr q119p [(ty_11,true)] Tryz.f241,fun p=>bif Nat.beq p 122 then some (.loop q119i1 q119o1 0 160 (q119f1 k k))else bif Nat.beq p 62 then some (.cut [⟨6,48,.box ty_11 false,false⟩,⟨7,64,.box ty_4 false,false⟩,⟨8,80,.box ty_4 false,false⟩,e86] 96)else none,0,[0]⟩
theorem q119K(k:Nat):Contract Tryz.prog 241 (q119V k):=ctr (q119C k) (rs := [(ty_11,true)]) (ps:=q119p) (q119F k) Tryz.f241 48 ⟨tyOf_ok tys_ok,gOf_ok ⟨q109K,q101K,q114K k,q107K k,q108K k,q115K,q118K k,trivial⟩⟩ (annl [122] ⟨lok q119i1 q119o1 0 160 (q119f1 k) k,trivial⟩)

noncomputable def q120V(k:Nat):Variant:=⟨[.ptr .bool true,.val ty_11 true,.val ty_11 true],[(ty_11,true)],fun x=>impl_reckoner_multiply k x.1 x.2.1 x.2.2.1⟩
noncomputable def q120C(k:Nat):Cfg:=⟨Tryz.prog,tyOf tys,51,gOf [(190,[],q114V k),(143,[],q107V k),(114,[],q108V k),(191,[],q118V k)],false,[],[]⟩
def q120p:List PE := [e86,e57,⟨2,32,.val ty_11 true,false⟩]
noncomputable def q120F(k:Nat):F10:=⟨q120C k,rr q120p [(ty_11,true)] Tryz.f136,fun p=>none,0,[0]⟩
theorem q120K(k:Nat):Contract Tryz.prog 136 (q120V k):=ctr (q120C k) (rs := [(ty_11,true)]) (ps:=q120p) (q120F k) Tryz.f136 48 ⟨tyOf_ok tys_ok,gOf_ok ⟨q114K k,q107K k,q108K k,q118K k,trivial⟩⟩ (annl [] trivial)

noncomputable def q121V:Variant:=V64 math_bits_Add64
theorem q121K:Contract Tryz.prog 246 q121V:=contractAdd64 (fn:=Tryz.f246) (by kernel_rfl) (by kernel_rfl) (by kernel_rfl) (by kernel_rfl) (by kernel_rfl)

noncomputable def q122V:Variant:=V64 math_bits_Sub64
theorem q122K:Contract Tryz.prog 247 q122V:=contractSub64 (fn:=Tryz.f247) (by kernel_rfl) (by kernel_rfl) (by kernel_rfl) (by kernel_rfl) (by kernel_rfl)

noncomputable def q123V(k:Nat):Variant:=⟨[.val ty_18 true,.val ty_18 true],[(ty_18,true)],fun x=>impl_wide_add k x.1 x.2.1⟩
noncomputable def q123C(k:Nat):Cfg:=⟨Tryz.prog,tyOf tys,68,gOf [(246,[],q121V),(196,[],q104V k),(247,[],q122V)],false,[],[]⟩
def q123p:List PE := [e78,e85]
noncomputable def q123F(k:Nat):F11:=⟨q123C k,rr q123p [(ty_18,true)] Tryz.f224,fun p=>bif Nat.beq p 14 then some (.cut [⟨2,32,.box ty_18 false,false⟩,⟨3,48,.box ty_18 false,false⟩,⟨4,64,.box ty_18 false,false⟩] 80)else none,0,[]⟩
theorem q123K(k:Nat):Contract Tryz.prog 224 (q123V k):=ctr (q123C k) (rs := [(ty_18,true)]) (ps:=q123p) (q123F k) Tryz.f224 32 ⟨tyOf_ok tys_ok,gOf_ok ⟨q121K,q104K k,q122K,trivial⟩⟩ (annl [] trivial)

noncomputable def q124V(k:Nat):Variant:=⟨[.val ty_4 true,.val ty_4 true],[(ty_4,true),(.bool,false)],fun x=>impl_sumOf k x.1 x.2.1⟩
noncomputable def q124C(k:Nat):Cfg:=⟨Tryz.prog,tyOf tys,33,gOf [(146,[],q95V),(147,[],q97V),(224,[],q123V k),(183,[],q98V k)],false,[],[]⟩
def q124p:List PE := [e44,e46]
noncomputable def q124F(k:Nat):F5:=⟨q124C k,rr q124p [(ty_4,true),(.bool,false)] Tryz.f186,fun p=>none,0,[]⟩
theorem q124K(k:Nat):Contract Tryz.prog 186 (q124V k):=ctr (q124C k) (rs := [(ty_4,true),(.bool,false)]) (ps:=q124p) (q124F k) Tryz.f186 32 ⟨tyOf_ok tys_ok,gOf_ok ⟨q95K,q97K,q123K k,q98K k,trivial⟩⟩ (annl [] trivial)

noncomputable def q125V(k:Nat):Variant:=⟨[.ptr .bool true,.val ty_4 true,.val ty_4 true],[(ty_4,true)],fun x=>impl_reckoner_sum k x.1 x.2.1 x.2.2.1⟩
noncomputable def q125C(k:Nat):Cfg:=⟨Tryz.prog,tyOf tys,14,gOf [(186,[],q124V k),(128,[],q113V)],false,[],[]⟩
def q125p:List PE := [e86,e46,e58]
noncomputable def q125F(k:Nat):F5:=⟨q125C k,rr q125p [(ty_4,true)] Tryz.f131,fun p=>none,0,[0]⟩
theorem q125K(k:Nat):Contract Tryz.prog 131 (q125V k):=ctr (q125C k) (rs := [(ty_4,true)]) (ps:=q125p) (q125F k) Tryz.f131 48 ⟨tyOf_ok tys_ok,gOf_ok ⟨q124K k,q113K,trivial⟩⟩ (annl [] trivial)

noncomputable def q126V(k:Nat):Variant:=⟨[.ptr .bool true,.val ty_11 true,.val ty_11 true],[(ty_11,true)],fun x=>impl_reckoner_add k x.1 x.2.1 x.2.2.1⟩
noncomputable def q126C(k:Nat):Cfg:=⟨Tryz.prog,tyOf tys,20,gOf [(131,[],q125V k)],false,[],[]⟩
def q126p:List PE := [e86,e57,⟨2,32,.val ty_11 true,false⟩]
noncomputable def q126F(k:Nat):F10:=⟨q126C k,rr q126p [(ty_11,true)] Tryz.f135,fun p=>none,0,[0]⟩
theorem q126K(k:Nat):Contract Tryz.prog 135 (q126V k):=ctr (q126C k) (rs := [(ty_11,true)]) (ps:=q126p) (q126F k) Tryz.f135 48 ⟨tyOf_ok tys_ok,gOf_ok ⟨q125K k,trivial⟩⟩ (annl [] trivial)

noncomputable def q127V:Variant:=⟨[.ptr .bool true,.val ty_11 true],[(ty_11,true),(.bool,false)],fun x=>impl_reckoner_result x.1 x.2.1⟩
noncomputable def q127C:Cfg:=⟨Tryz.prog,tyOf tys,13,gOf [],false,[],[]⟩
def q127p:List PE := [e86,e57]
noncomputable def q127F:Fn (((Int×Int)×Int×Int)×Bool×Bool):=⟨q127C,rr q127p [(ty_11,true),(.bool,false)] Tryz.f242,fun p=>none,0,[0]⟩
theorem q127K:Contract Tryz.prog 242 (q127V):=ctr q127C (rs := [(ty_11,true),(.bool,false)]) (ps:=q127p) q127F Tryz.f242 32 ⟨tyOf_ok tys_ok,gOf_ok trivial⟩ (annl [] trivial)

noncomputable def q128V(k:Nat):Variant:=⟨[.val ty_7 false,.val ty_15 false],[(ty_11,true),(.bool,false)],fun x=>impl_valueOver k x.1 x.2.1⟩
noncomputable def q128C(k:Nat):Cfg:=⟨Tryz.prog,tyOf tys,54,gOf [(112,[],q109V),(111,[],q101V),(207,[],q85V),(241,[],q119V k),(136,[],q120V k),(135,[],q126V k),(242,[],q127V)],false,[],[]⟩
def q128i1:List PE := [e59,e55,e87,e88,e40,⟨10,112,.box ty_11 false,false⟩,⟨16,128,.val ty_7 false,false⟩,⟨17,144,.val ty_0 false,false⟩,⟨18,160,.val ty_0 false,false⟩,⟨26,176,.val ty_15 false,false⟩,⟨27,192,.val ty_0 false,false⟩,⟨28,208,.val ty_0 false,false⟩]
def q128o1:List PE := [e59,e55,e87,e88,⟨10,96,.box ty_11 false,false⟩,⟨16,112,.val ty_7 false,false⟩,e83,⟨18,144,.val ty_0 false,false⟩]
noncomputable def q128f1(k:Nat)(n:Nat)(x10:PTe q128i1):=impl_valueOver_L125338 k n x10.1 x10.2.1 x10.2.2.1 x10.2.2.2.1 x10.2.2.2.2.1 x10.2.2.2.2.2.1 x10.2.2.2.2.2.2.1 x10.2.2.2.2.2.2.2.1 x10.2.2.2.2.2.2.2.2.1 x10.2.2.2.2.2.2.2.2.2.1 x10.2.2.2.2.2.2.2.2.2.2.1 x10.2.2.2.2.2.2.2.2.2.2.2.1
def q128i2:List PE := [e59,e55,e87,e88,⟨16,96,.val ty_7 false,false⟩,⟨17,112,.val ty_0 false,false⟩,⟨18,128,.val ty_0 false,false⟩]
def q128o2:List PE := [e54,⟨6,48,.box .bool false,false⟩,⟨7,64,.box ty_11 false,false⟩]
noncomputable def q128f2(k:Nat)(n:Nat)(x14:PTe q128i2):=impl_valueOver_L122 k n x14.1 x14.2.1 x14.2.2.1 x14.2.2.2.1 x14.2.2.2.2.1 x14.2.2.2.2.2.1 x14.2.2.2.2.2.2.1
def q128p:List PE := [e27,e61]
noncomputable def q128F(k:Nat):F10:=⟨q128C k,rr q128p [(ty_11,true),(.bool,false)] Tryz.f216,fun p=>bif Nat.beq p 125338 then some (.loop q128i1 q128o1 2 224 (q128f1 k k))else bif Nat.beq p 122 then some (.loop q128i2 q128o2 0 144 (q128f2 k k))else none,0,[]⟩
theorem q128K(k:Nat):Contract Tryz.prog 216 (q128V k):=ctr (q128C k) (rs := [(ty_11,true),(.bool,false)]) (ps:=q128p) (q128F k) Tryz.f216 32 ⟨tyOf_ok tys_ok,gOf_ok ⟨q109K,q101K,q85K,q119K k,q120K k,q126K k,q127K,trivial⟩⟩ (annl [122,125338] ⟨lok q128i2 q128o2 0 144 (q128f2 k) k,lok q128i1 q128o1 2 224 (q128f1 k) k,trivial⟩)

noncomputable def q129V(k:Nat):Variant:=⟨[.val ty_8 false,.val ty_13 true,.val ty_0 false],[(.bool,false)],fun x=>impl_edgeHolds k x.1 x.2.1 x.2.2.1⟩
noncomputable def q129C(k:Nat):Cfg:=⟨Tryz.prog,tyOf tys,58,gOf [(111,[],q101V),(143,[],q107V k),(114,[],q108V k),(216,[],q128V k),(254,[],q115V)],false,[],[]⟩
def q129p:List PE := [e33,⟨1,16,.val ty_13 true,false⟩,e17]
noncomputable def q129F(k:Nat):F2:=⟨q129C k,rr q129p [(.bool,false)] Tryz.f238,fun p=>bif Nat.beq p 14 then some (.cut [e63,⟨2,64,.val ty_0 false,false⟩,⟨7,80,.eat ty_11,false⟩] 96)else none,0,[]⟩
theorem q129K(k:Nat):Contract Tryz.prog 238 (q129V k):=ctr (q129C k) (rs := [(.bool,false)]) (ps:=q129p) (q129F k) Tryz.f238 48 ⟨tyOf_ok tys_ok,gOf_ok ⟨q101K,q107K k,q108K k,q128K k,q115K,trivial⟩⟩ (annl [] trivial)

noncomputable def q130V(k:Nat):Variant:=⟨[.val ty_8 false,.val ty_13 true],[(ty_0,false)],fun x=>impl_edgeReason k x.1 x.2.1⟩
noncomputable def q130C(k:Nat):Cfg:=⟨Tryz.prog,tyOf tys,15,gOf [(238,[],q129V k)],false,[],[]⟩
def q130i1:List PE := [e62,⟨3,48,.box ty_13 false,false⟩,e12]
def q130o1:List PE := []
noncomputable def q130f1(k:Nat)(n:Nat)(x2:PTe q130i1):=impl_edgeReason_L26 k n x2.1 x2.2.1 x2.2.2.1
def q130p:List PE := [e33,⟨1,16,.val ty_13 true,false⟩]
noncomputable def q130F(k:Nat):F1:=⟨q130C k,rr q130p [(ty_0,false)] Tryz.f209,fun p=>bif Nat.beq p 26 then some (.loop q130i1 q130o1 0 80 (q130f1 k k))else none,0,[]⟩
theorem q130K(k:Nat):Contract Tryz.prog 209 (q130V k):=ctr (q130C k) (rs := [(ty_0,false)]) (ps:=q130p) (q130F k) Tryz.f209 32 ⟨tyOf_ok tys_ok,gOf_ok ⟨q129K k,trivial⟩⟩ (annl [26] ⟨lok q130i1 q130o1 0 80 (q130f1 k) k,trivial⟩)

noncomputable def q131V(k:Nat):Variant:=⟨[.val ty_8 false,.ptr ty_10 false,.val ty_0 false],[(ty_1,false),(.bool,false)],fun x=>impl_boundaryReasons k x.1 x.2.1 x.2.2.1⟩
noncomputable def q131C(k:Nat):Cfg:=⟨Tryz.prog,tyOf tys,31,gOf [(208,[],q100V k),(209,[],q130V k)],false,[],[]⟩
def q131i1:List PE := [e63,⟨8,64,.eat ty_0,false⟩,⟨14,80,.eat ty_13,false⟩,e51,⟨16,112,.val ty_0 false,false⟩]
def q131o1:List PE := [⟨8,48,.eat ty_0,false⟩]
noncomputable def q131f1(k:Nat)(n:Nat)(x3:PTe q131i1):=impl_boundaryReasons_L58 k n x3.1 x3.2.1 x3.2.2.1 x3.2.2.2.1 x3.2.2.2.2.1
def q131p:List PE := [e33,e77,e17]
noncomputable def q131F(k:Nat):Fn ((List Int)×Bool):=⟨q131C k,rr q131p [(ty_1,false),(.bool,false)] Tryz.f162,fun p=>bif Nat.beq p 58 then some (.loop q131i1 q131o1 0 128 (q131f1 k k))else none,0,[]⟩
theorem q131K(k:Nat):Contract Tryz.prog 162 (q131V k):=ctr (q131C k) (rs := [(ty_1,false),(.bool,false)]) (ps:=q131p) (q131F k) Tryz.f162 48 ⟨tyOf_ok tys_ok,gOf_ok ⟨q100K k,q130K k,trivial⟩⟩ (annl [58] ⟨lok q131i1 q131o1 0 128 (q131f1 k) k,trivial⟩)

noncomputable def q132V(k:Nat):Variant:=⟨[.val ty_8 false,.ptr ty_10 false],[(ty_0,false),(.bool,false)],fun x=>impl_leastDepth k x.1 x.2.1⟩
noncomputable def q132C(k:Nat):Cfg:=⟨Tryz.prog,tyOf tys,22,gOf [(162,[],q131V k)],false,[],[]⟩
def q132i1:List PE := [e62,⟨1,48,.ptr ty_10 false,false⟩,⟨9,64,.val ty_0 false,false⟩]
def q132o1:List PE := []
noncomputable def q132f1(k:Nat)(n:Nat)(x2:PTe q132i1):=impl_leastDepth_L26 k n x2.1 x2.2.1 x2.2.2.1
def q132p:List PE := [e33,e77]
noncomputable def q132F(k:Nat):F8:=⟨q132C k,rr q132p [(ty_0,false),(.bool,false)] Tryz.f102,fun p=>bif Nat.beq p 26 then some (.loop q132i1 q132o1 0 80 (q132f1 k k))else none,0,[]⟩
theorem q132K(k:Nat):Contract Tryz.prog 102 (q132V k):=ctr (q132C k) (rs := [(ty_0,false),(.bool,false)]) (ps:=q132p) (q132F k) Tryz.f102 32 ⟨tyOf_ok tys_ok,gOf_ok ⟨q131K k,trivial⟩⟩ (annl [26] ⟨lok q132i1 q132o1 0 80 (q132f1 k) k,trivial⟩)

noncomputable def q133V(k:Nat):Variant:=⟨[.val ty_1 false],[(ty_0,false),(.bool,false)],fun x=>impl_turnsOf k x.1⟩
noncomputable def q133C(k:Nat):Cfg:=⟨Tryz.prog,tyOf tys,42,gOf [],false,[],[]⟩
def q133i1:List PE := [⟨0,16,.val ty_1 false,false⟩,⟨4,32,.val ty_0 false,false⟩,⟨7,48,.val ty_1 false,false⟩,e20,e31]
def q133o1:List PE := [⟨4,16,.val ty_0 false,false⟩]
noncomputable def q133f1(k:Nat)(n:Nat)(x1:PTe q133i1):=impl_turnsOf_L58 k n x1.1 x1.2.1 x1.2.2.1 x1.2.2.2.1 x1.2.2.2.2.1
def q133p:List PE := [e1]
noncomputable def q133F(k:Nat):F8:=⟨q133C k,rr q133p [(ty_0,false),(.bool,false)] Tryz.f163,fun p=>bif Nat.beq p 58 then some (.loop q133i1 q133o1 0 96 (q133f1 k k))else none,0,[]⟩
theorem q133K(k:Nat):Contract Tryz.prog 163 (q133V k):=ctr (q133C k) (rs := [(ty_0,false),(.bool,false)]) (ps:=q133p) (q133F k) Tryz.f163 16 ⟨tyOf_ok tys_ok,gOf_ok trivial⟩ (annl [58] ⟨lok q133i1 q133o1 0 96 (q133f1 k) k,trivial⟩)

noncomputable def q134V(k:Nat):Variant:=⟨[.val ty_8 false,.ptr ty_10 false,.val ty_0 false],[(ty_0,false),(.bool,false)],fun x=>impl_windingOf k x.1 x.2.1 x.2.2.1⟩
noncomputable def q134C(k:Nat):Cfg:=⟨Tryz.prog,tyOf tys,23,gOf [(162,[],q131V k),(163,[],q133V k)],false,[],[]⟩
def q134p:List PE := [e33,e77,e17]
noncomputable def q134F(k:Nat):F8:=⟨q134C k,rr q134p [(ty_0,false),(.bool,false)] Tryz.f103,fun p=>none,0,[]⟩
theorem q134K(k:Nat):Contract Tryz.prog 103 (q134V k):=ctr (q134C k) (rs := [(ty_0,false),(.bool,false)]) (ps:=q134p) (q134F k) Tryz.f103 48 ⟨tyOf_ok tys_ok,gOf_ok ⟨q131K k,q133K k,trivial⟩⟩ (annl [] trivial)

noncomputable def q135V(k:Nat):Variant:=⟨[.val ty_8 false,.ptr ty_10 false],[(ty_0,false),(.bool,false)],fun x=>impl_degreeOver k x.1 x.2.1⟩
noncomputable def q135C(k:Nat):Cfg:=⟨Tryz.prog,tyOf tys,22,gOf [(102,[],q132V k),(103,[],q134V k)],false,[],[]⟩
def q135p:List PE := [e33,e77]
noncomputable def q135F(k:Nat):F8:=⟨q135C k,rr q135p [(ty_0,false),(.bool,false)] Tryz.f69,fun p=>none,0,[]⟩
theorem q135K(k:Nat):Contract Tryz.prog 69 (q135V k):=ctr (q135C k) (rs := [(ty_0,false),(.bool,false)]) (ps:=q135p) (q135F k) Tryz.f69 32 ⟨tyOf_ok tys_ok,gOf_ok ⟨q132K k,q134K k,trivial⟩⟩ (annl [] trivial)

noncomputable def q136V(k:Nat):Variant:=⟨[.val ty_2 false,.val ty_10 true],[(ty_0,false),(.bool,false)],fun x=>impl_CountComplexZeros k x.1 x.2.1⟩
noncomputable def q136C(k:Nat):Cfg:=⟨Tryz.prog,tyOf tys,27,gOf [(66,[],q68V k),(67,[],q88V k),(68,[],q92V k),(69,[],q135V k)],false,[],[]⟩
def q136p:List PE := [e7,e43]
noncomputable def q136F(k:Nat):F8:=⟨q136C k,rr q136p [(ty_0,false),(.bool,false)] Tryz.f29,fun p=>none,0,[]⟩
theorem q136K(k:Nat):Contract Tryz.prog 29 (q136V k):=ctr (q136C k) (rs := [(ty_0,false),(.bool,false)]) (ps:=q136p) (q136F k) Tryz.f29 32 ⟨tyOf_ok tys_ok,gOf_ok ⟨q68K k,q88K k,q92K k,q135K k,trivial⟩⟩ (annl [] trivial)

noncomputable def q137V(k:Nat):Variant:=⟨[.val ty_1 false,.val ty_1 false],[(.bool,false)],fun x=>laws_eqIntS k x.1 x.2.1⟩
noncomputable def q137C(k:Nat):Cfg:=⟨Tryz.prog,tyOf tys,26,gOf [],false,[],[]⟩
def q137i1:List PE := [e10,⟨1,48,.val ty_1 false,false⟩,e5]
def q137o1:List PE := []
noncomputable def q137f1(k:Nat)(n:Nat)(x1:PTe q137i1):=laws_eqIntS_L58 k n x1.1 x1.2.1 x1.2.2.1
def q137p:List PE := [e1,⟨1,16,.val ty_1 false,false⟩]
noncomputable def q137F(k:Nat):F2:=⟨q137C k,rr q137p [(.bool,false)] Tryz.f90,fun p=>bif Nat.beq p 58 then some (.loop q137i1 q137o1 0 80 (q137f1 k k))else none,0,[]⟩
theorem q137K(k:Nat):Contract Tryz.prog 90 (q137V k):=ctr (q137C k) (rs := [(.bool,false)]) (ps:=q137p) (q137F k) Tryz.f90 32 ⟨tyOf_ok tys_ok,gOf_ok trivial⟩ (annl [58] ⟨lok q137i1 q137o1 0 80 (q137f1 k) k,trivial⟩)

noncomputable def q138V(k:Nat):Variant:=⟨[.val ty_3 false,.val ty_3 false],[(.bool,false)],fun x=>laws_intactIntS k x.1 x.2.1⟩
noncomputable def q138C(k:Nat):Cfg:=⟨Tryz.prog,tyOf tys,26,gOf [(51,[],q4V),(90,[],q137V k)],false,[],[]⟩
def q138p:List PE := [⟨0,0,.val ty_3 false,false⟩,⟨1,16,.val ty_3 false,false⟩]
noncomputable def q138F(k:Nat):F2:=⟨q138C k,rr q138p [(.bool,false)] Tryz.f60,fun p=>none,0,[]⟩
theorem q138K(k:Nat):Contract Tryz.prog 60 (q138V k):=ctr (q138C k) (rs := [(.bool,false)]) (ps:=q138p) (q138F k) Tryz.f60 32 ⟨tyOf_ok tys_ok,gOf_ok ⟨q4K,q137K k,trivial⟩⟩ (annl [] trivial)

noncomputable def q139V(k:Nat):Variant:=⟨[.val ty_2 false,.val ty_2 false],[(.bool,false)],fun x=>laws_eqIntSS k x.1 x.2.1⟩
noncomputable def q139C(k:Nat):Cfg:=⟨Tryz.prog,tyOf tys,27,gOf [(90,[],q137V k)],false,[],[]⟩
def q139i1:List PE := [e3,⟨1,48,.val ty_2 false,false⟩,e5]
def q139o1:List PE := []
noncomputable def q139f1(k:Nat)(n:Nat)(x2:PTe q139i1):=laws_eqIntSS_L58 k n x2.1 x2.2.1 x2.2.2.1
def q139p:List PE := [e7,⟨1,16,.val ty_2 false,false⟩]
noncomputable def q139F(k:Nat):F2:=⟨q139C k,rr q139p [(.bool,false)] Tryz.f70,fun p=>bif Nat.beq p 58 then some (.loop q139i1 q139o1 0 80 (q139f1 k k))else none,0,[]⟩
theorem q139K(k:Nat):Contract Tryz.prog 70 (q139V k):=ctr (q139C k) (rs := [(.bool,false)]) (ps:=q139p) (q139F k) Tryz.f70 32 ⟨tyOf_ok tys_ok,gOf_ok ⟨q137K k,trivial⟩⟩ (annl [58] ⟨lok q139i1 q139o1 0 80 (q139f1 k) k,trivial⟩)

noncomputable def q140V(k:Nat):Variant:=⟨[.val ty_19 false,.val ty_19 false],[(.bool,false)],fun x=>laws_intactIntSS k x.1 x.2.1⟩
noncomputable def q140C(k:Nat):Cfg:=⟨Tryz.prog,tyOf tys,45,gOf [(51,[],q4V),(60,[],q138V k),(70,[],q139V k)],false,[],[]⟩
def q140i1:List PE := [⟨0,32,.val ty_19 false,false⟩,⟨1,48,.val ty_19 false,false⟩,e5,e15]
def q140o1:List PE := [⟨0,32,.val ty_19 false,false⟩,⟨1,48,.val ty_19 false,false⟩,e5]
noncomputable def q140f1(k:Nat)(n:Nat)(x3:PTe q140i1):=laws_intactIntSS_L122 k n x3.1 x3.2.1 x3.2.2.1 x3.2.2.2.1
def q140p:List PE := [⟨0,0,.val ty_19 false,false⟩,⟨1,16,.val ty_19 false,false⟩]
noncomputable def q140F(k:Nat):F2:=⟨q140C k,rr q140p [(.bool,false)] Tryz.f30,fun p=>bif Nat.beq p 122 then some (.loop q140i1 q140o1 0 96 (q140f1 k k))else none,0,[]⟩
theorem q140K(k:Nat):Contract Tryz.prog 30 (q140V k):=ctr (q140C k) (rs := [(.bool,false)]) (ps:=q140p) (q140F k) Tryz.f30 32 ⟨tyOf_ok tys_ok,gOf_ok ⟨q4K,q138K k,q139K k,trivial⟩⟩ (annl [122] ⟨lok q140i1 q140o1 0 96 (q140f1 k) k,trivial⟩)

noncomputable def q141V(k:Nat):Variant:=⟨[.val ty_21 true,.val ty_21 true],[(.bool,false)],fun x=>laws_intactBox k x.1 x.2.1⟩
noncomputable def q141C(k:Nat):Cfg:=⟨Tryz.prog,tyOf tys,22,gOf [(60,[],q138V k)],false,[],[]⟩
def q141p:List PE := [⟨0,0,.val ty_21 true,false⟩,⟨1,16,.val ty_21 true,false⟩]
noncomputable def q141F(k:Nat):F2:=⟨q141C k,rr q141p [(.bool,false)] Tryz.f19,fun p=>none,0,[]⟩
theorem q141K(k:Nat):Contract Tryz.prog 19 (q141V k):=ctr (q141C k) (rs := [(.bool,false)]) (ps:=q141p) (q141F k) Tryz.f19 32 ⟨tyOf_ok tys_ok,gOf_ok ⟨q138K k,trivial⟩⟩ (annl [] trivial)

noncomputable def laws_FnExactCountComplexZeros_V(k:Nat):Variant:=⟨[.val ty_2 false,.val ty_10 true],[(.bool,false)],fun x=>laws_FnExactCountComplexZeros k x.1 x.2.1⟩
noncomputable def laws_FnExactCountComplexZeros_C(k:Nat):Cfg:=⟨Tryz.prog,tyOf tys,76,gOf [(26,[],q2V k),(12,[],q3V),(28,[],q6V k),(15,[],q7V k),(27,[],q66V k),(29,[],q136V k),(30,[],q140V k),(19,[],q141V k)],false,[],[]⟩
def laws_FnExactCountComplexZeros_ps:List PE := [e7,e43]
noncomputable def laws_FnExactCountComplexZeros_F(k:Nat):F2:=⟨laws_FnExactCountComplexZeros_C k,rr laws_FnExactCountComplexZeros_ps [(.bool,false)] Tryz.f5,fun p=>none,0,[]⟩
theorem laws_FnExactCountComplexZeros_K(k:Nat):Contract Tryz.prog 5 (laws_FnExactCountComplexZeros_V k):=ctr (laws_FnExactCountComplexZeros_C k) (rs := [(.bool,false)]) (ps:=laws_FnExactCountComplexZeros_ps) (laws_FnExactCountComplexZeros_F k) Tryz.f5 32 ⟨tyOf_ok tys_ok,gOf_ok ⟨q2K k,q3K,q6K k,q7K k,q66K k,q136K k,q140K k,q141K k,trivial⟩⟩ (annl [] trivial)
end Go.Ev.G
