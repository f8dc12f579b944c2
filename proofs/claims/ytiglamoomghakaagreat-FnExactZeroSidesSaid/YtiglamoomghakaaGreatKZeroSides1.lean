/- The contracts of the functions behind FnExactZeroSides: a call of each returns what its plain function computes; for all inputs within the sizes named. -/
import Derived.Test.YtiglamoomghakaaGreatPZeroSides2
import Derived.Test.YtiglamoomghakaaGreatProg
set_option linter.unusedVariables false
namespace Go.Ev.G
open Go Go.Ev Go.Proofs
set_option maxRecDepth 100000
abbrev ty_0:Ty:=(.int .i64)

abbrev ty_1:Ty:=(.pair ty_0 ty_0)

abbrev ty_2:Ty:=(.pair ty_0 ty_1)

abbrev ty_3:Ty:=(.pair ty_0 ty_2)

abbrev ty_4:Ty:=(.sl ty_3)

abbrev ty_5:Ty:=(.sl ty_4)

abbrev ty_6:Ty:=(.rm ty_3)

abbrev ty_7:Ty:=(.sl ty_0)

abbrev ty_8:Ty:=(.pair ty_7 ty_7)

abbrev ty_9:Ty:=(.pair ty_0 ty_8)

abbrev ty_10:Ty:=(.pair ty_1 ty_1)

abbrev ty_11:Ty:=(.sl ty_1)

abbrev ty_12:Ty:=(.sl ty_10)

abbrev ty_13:Ty:=(.sl ty_12)

abbrev ty_14:Ty:=(.sl ty_11)

abbrev ty_15:Ty:=(.int .u64)

abbrev ty_16:Ty:=(.pair ty_15 ty_15)

abbrev ty_17:Ty:=(.pair .bool ty_16)

abbrev ty_18:Ty:=(.rm ty_6)

abbrev ty_19:Ty:=(.rm ty_0)

abbrev ty_20:Ty:=(.pair ty_19 ty_19)

abbrev ty_21:Ty:=(.pair ty_0 ty_20)

def tys:List (TypeId×Ty) := [(3,ty_0),(28,ty_12),(56,ty_11),(70,ty_3),(78,ty_1),(80,ty_10)]

theorem tys_ok:AllT Tryz.prog tys:=⟨⟨_,_,rfl,rfl,rfl,rfl⟩,⟨_,_,rfl,rfl,rfl,rfl⟩,⟨_,_,rfl,rfl,rfl,rfl⟩,⟨_,_,rfl,rfl,rfl,rfl⟩,⟨_,_,rfl,rfl,rfl,rfl⟩,⟨_,_,rfl,rfl,rfl,rfl⟩,trivial⟩

def tysR:List (TypeId×Ty) := [(3,ty_0),(67,ty_6),(70,ty_3)]

theorem tysR_ok:AllT Tryz.prog tysR:=⟨⟨_,_,rfl,rfl,rfl,rfl⟩,⟨_,_,rfl,rfl,rfl,rfl⟩,⟨_,_,rfl,rfl,rfl,rfl⟩,trivial⟩

theorem mix_ok:Tryz.prog.follows .mixedOrders=true:=by kernel_rfl

theorem ctr{g:FuncId}(C:Cfg){rs:List (Ty×Bool)}{ps:List PE}(F:Fn (CT (rs.map (·.1)++outs (ps.map (·.b)))))(fn:Func)(nx:Nat){f:PT (ps.map (·.b))→Option (CT (rs.map (·.1)++outs (ps.map (·.b))))}
  (hC:CfgOk C) (hann:AnnOk F (codeOf fn) 1) (hP:C.P=Tryz.prog:=by rfl) (hF:F.C=C:=by rfl) (hfn:C.P.funcs[g]? = some fn:=by kernel_rfl) (hb:fn.body=some (codeOf fn):=by kernel_rfl) (hn:(fn.name == "runtime.NumGoroutine")=false:=by kernel_rfl)
  (hnt:C.ntmps=fn.ntmps:=by kernel_rfl) (hle:Nat.ble ps.length fn.ntmps=true:=by kernel_rfl) (hpar:parOk 0 ps=true:=by kernel_rfl) (hfin:F.fin=rdRes C.P ps rs fn.results.toList .ret:=by rfl)
  (hpins:F.pins=pinIds ps:=by kernel_rfl) (hnd:nodupB F.pins=true:=by kernel_rfl) (hf:∀x,evFn F (codeOf fn) ps nx x=f x:=by intro x;kernel_rfl):Contract C.P g ⟨ps.map (·.b),rs,f⟩ :=
 contract hC hF hfn hb hn hnt hle hpar hfin hpins hnd hann (hP ▸ mix_ok) hf

theorem annl{R:Type}{F:Fn R}{c:Code}(l:List Nat)(hl:AllL F (l.map fun p=>(p,loopB c p)))(h:loopsOf c 1=l.map (fun p=>(p,loopB c p)):=by kernel_rfl):AnnOk F c 1:=AnnOk_list _ h hl

theorem lok{R:Type}{F:Fn R}{c:Code}{p:Nat}(pin pout:List PE)(ex nx:Nat)(Lf:Nat→PTe pin→Option (R ⊕ PTe pout))(k:Nat)(h:F.an p=some (.loop pin pout ex nx (Lf k)):=by kernel_rfl)(h0:∀x,Lf 0 x=none:=by intro x;rfl)
  (hs:∀n x,roundOf F c p pin pout ex nx (Lf n) x=Lf (n+1) x:=by intro n x;kernel_rfl):LoopOk F c p:=LoopOk.mk (pin:=pin) (pout:=pout) h h0 hs

noncomputable def rr(ps:List PE)(rs:List (Ty×Bool))(f:Func):=rdRes Tryz.prog ps rs f.results.toList .ret

abbrev e1:PE:=⟨0,0,.val ty_4 false,false⟩
abbrev e2:PE:=⟨1,16,.val ty_0 false,false⟩
abbrev F1:Type 1:=Fn (Int)
abbrev e3:PE:=⟨0,32,.val ty_5 false,false⟩
abbrev e4:PE:=⟨1,48,.val ty_0 false,false⟩
abbrev e5:PE:=⟨5,64,.val ty_0 false,false⟩
abbrev e6:PE:=⟨1,32,.val ty_0 false,false⟩
abbrev e7:PE:=⟨0,0,.val ty_5 false,false⟩
abbrev e8:PE:=⟨0,0,.val ty_7 false,false⟩
abbrev e9:PE:=⟨0,0,.val ty_9 true,false⟩
abbrev e10:PE:=⟨0,0,.val ty_0 false,false⟩
abbrev e11:PE:=⟨0,0,.val ty_3 true,false⟩
abbrev F2:Type 1:=Fn (Int×Int×Int×Int)
abbrev e12:PE:=⟨0,32,.val ty_4 false,false⟩
abbrev e13:PE:=⟨5,48,.eat ty_3,false⟩
abbrev e14:PE:=⟨6,64,.val ty_0 false,false⟩
abbrev e15:PE:=⟨7,64,.val ty_0 false,false⟩
abbrev e16:PE:=⟨1,16,.val .bool false,false⟩
abbrev e17:PE:=⟨6,80,.val ty_0 false,false⟩
abbrev e18:PE:=⟨5,48,.eat ty_6,false⟩
abbrev e19:PE:=⟨0,32,.val ty_7 false,false⟩
abbrev e20:PE:=⟨5,48,.eat ty_0,false⟩
abbrev e21:PE:=⟨2,32,.val ty_0 false,false⟩
abbrev F3:Type 1:=Fn (Bool)
abbrev e22:PE:=⟨1,16,.val ty_3 true,false⟩
abbrev e23:PE:=⟨0,16,.val ty_4 false,false⟩
abbrev e24:PE:=⟨6,48,.val ty_0 false,false⟩
abbrev e25:PE:=⟨5,48,.val ty_0 false,false⟩
abbrev e26:PE:=⟨9,80,.val ty_0 false,false⟩
abbrev e27:PE:=⟨0,16,.val ty_5 false,false⟩
abbrev e28:PE:=⟨8,96,.val ty_0 false,false⟩
abbrev e29:PE:=⟨7,48,.val ty_0 false,false⟩
abbrev e30:PE:=⟨8,64,.val ty_0 false,false⟩
abbrev e31:PE:=⟨1,16,.box ty_9 false,false⟩
abbrev e32:PE:=⟨3,32,.val ty_0 false,false⟩
abbrev e33:PE:=⟨4,16,.val .bool false,false⟩
abbrev e34:PE:=⟨1,16,.val ty_9 true,false⟩
abbrev e35:PE:=⟨0,0,.val ty_1 true,false⟩
abbrev e36:PE:=⟨0,32,.val ty_0 false,false⟩
abbrev e37:PE:=⟨4,64,.box ty_1 false,false⟩
abbrev F4:Type 1:=Fn ((Int×Int)×Bool)
abbrev F5:Type 1:=Fn (Int×Int)
abbrev e38:PE:=⟨11,80,.val ty_0 false,false⟩
abbrev e39:PE:=⟨12,96,.val ty_0 false,false⟩
abbrev F6:Type 1:=Fn (List (Int×Int×Int×Int))
abbrev F7:Type 1:=Fn ((Int×Int)×Int×Int)
abbrev e40:PE:=⟨2,32,.box ty_1 false,false⟩
abbrev e41:PE:=⟨3,48,.box ty_1 false,false⟩
abbrev e42:PE:=⟨1,16,.val ty_1 true,false⟩
abbrev e43:PE:=⟨4,32,.box ty_1 false,false⟩
abbrev e44:PE:=⟨6,48,.box ty_1 false,false⟩
abbrev e45:PE:=⟨0,0,.val ty_10 true,false⟩
abbrev e46:PE:=⟨2,16,.box ty_10 false,false⟩
abbrev e47:PE:=⟨3,32,.box ty_10 false,false⟩
abbrev e48:PE:=⟨14,64,.val ty_0 false,false⟩
abbrev e49:PE:=⟨15,80,.val ty_0 false,false⟩
abbrev e50:PE:=⟨5,48,.box ty_1 false,false⟩
abbrev e51:PE:=⟨14,80,.val ty_0 false,false⟩
abbrev e52:PE:=⟨15,96,.val ty_0 false,false⟩
abbrev e53:PE:=⟨4,32,.box ty_10 false,false⟩
abbrev F8:Type 1:=Fn (((Int×Int)×Int×Int)×Bool)
abbrev e54:PE:=⟨4,48,.box ty_10 false,false⟩
abbrev e55:PE:=⟨6,64,.eat ty_1,false⟩
abbrev e56:PE:=⟨8,80,.box ty_1 false,false⟩
abbrev e57:PE:=⟨18,96,.val ty_0 false,false⟩
abbrev e58:PE:=⟨19,112,.val ty_0 false,false⟩
abbrev e59:PE:=⟨6,48,.eat ty_1,false⟩
abbrev e60:PE:=⟨1,16,.val ty_10 true,false⟩
abbrev e61:PE:=⟨2,32,.val ty_1 true,false⟩
abbrev e62:PE:=⟨1,32,.val ty_12 false,false⟩
abbrev e63:PE:=⟨6,64,.box ty_10 false,false⟩
abbrev e64:PE:=⟨21,128,.val ty_0 false,false⟩
abbrev e65:PE:=⟨21,112,.val ty_0 false,false⟩
abbrev e66:PE:=⟨22,128,.val ty_0 false,false⟩
abbrev e67:PE:=⟨1,16,.val ty_12 false,false⟩
abbrev e68:PE:=⟨6,32,.eat ty_10,false⟩
abbrev F9:Type 1:=Fn ((List ((Int×Int)×Int×Int))×Bool)
abbrev e69:PE:=⟨6,48,.eat ty_12,false⟩
abbrev e70:PE:=⟨12,80,.val ty_0 false,false⟩
abbrev e71:PE:=⟨13,96,.val ty_0 false,false⟩
abbrev e72:PE:=⟨6,32,.eat ty_12,false⟩
abbrev F10:Type 1:=Fn ((List (List ((Int×Int)×Int×Int)))×Bool)
abbrev e73:PE:=⟨4,16,.eat ty_11,false⟩
abbrev e74:PE:=⟨20,128,.val ty_0 false,false⟩
abbrev e75:PE:=⟨0,0,.val ty_13 false,false⟩
abbrev F11:Type 1:=Fn ((List (List (Int×Int)))×Bool)
abbrev e76:PE:=⟨0,0,.val ty_14 false,false⟩
abbrev e77:PE:=⟨0,16,.val ty_14 false,false⟩
abbrev e78:PE:=⟨4,48,.box ty_1 false,false⟩
abbrev e79:PE:=⟨26,96,.val ty_0 false,false⟩
abbrev e80:PE:=⟨4,32,.eat ty_11,false⟩
abbrev e81:PE:=⟨0,80,.val ty_0 false,false⟩
abbrev e82:PE:=⟨3,96,.val ty_0 false,false⟩
abbrev e83:PE:=⟨4,112,.val ty_0 false,false⟩
abbrev e84:PE:=⟨10,128,.box ty_1 false,false⟩
abbrev e85:PE:=⟨12,144,.val ty_0 false,false⟩
abbrev e86:PE:=⟨2,48,.val ty_0 false,false⟩
abbrev e87:PE:=⟨10,64,.eat ty_11,false⟩
abbrev F12:Type 1:=Fn (List (Int×Int))
abbrev e88:PE:=⟨1,48,.val ty_11 false,false⟩
abbrev e89:PE:=⟨20,96,.val ty_0 false,false⟩
abbrev e90:PE:=⟨1,32,.val ty_11 false,false⟩
abbrev e91:PE:=⟨9,64,.val ty_0 false,false⟩
abbrev e92:PE:=⟨11,80,.box ty_3 false,false⟩
abbrev e93:PE:=⟨17,128,.val ty_0 false,false⟩
abbrev e94:PE:=⟨30,112,.val ty_4 false,false⟩
abbrev e95:PE:=⟨31,128,.val ty_0 false,false⟩
abbrev e96:PE:=⟨32,144,.val ty_0 false,false⟩
abbrev e97:PE:=⟨9,48,.val ty_0 false,false⟩
abbrev e98:PE:=⟨1,16,.val ty_11 false,false⟩
abbrev e99:PE:=⟨6,32,.eat ty_1,false⟩
abbrev F13:Type 1:=Fn ((List (Int×Int))×Bool)
abbrev e100:PE:=⟨1,32,.val ty_13 false,false⟩
abbrev e101:PE:=⟨8,64,.val ty_11 false,false⟩
abbrev e102:PE:=⟨9,80,.eat ty_10,false⟩
abbrev e103:PE:=⟨20,112,.val ty_0 false,false⟩
abbrev e104:PE:=⟨8,32,.eat ty_12,false⟩
abbrev e105:PE:=⟨25,80,.val ty_13 false,false⟩
abbrev e106:PE:=⟨27,112,.val ty_0 false,false⟩
abbrev e107:PE:=⟨10,80,.eat ty_1,false⟩
abbrev e108:PE:=⟨7,32,.box ty_1 false,false⟩
abbrev e109:PE:=⟨13,48,.val ty_13 false,false⟩
abbrev e110:PE:=⟨13,64,.val ty_13 false,false⟩
abbrev e111:PE:=⟨9,48,.val ty_4 false,false⟩
abbrev e112:PE:=⟨10,64,.val ty_0 false,false⟩
abbrev e113:PE:=⟨17,112,.val ty_0 false,false⟩
abbrev e114:PE:=⟨0,16,.ptr ty_9 false,false⟩
abbrev e115:PE:=⟨0,0,.ptr ty_9 false,false⟩
abbrev e116:PE:=⟨1,16,.ptr ty_9 false,false⟩
abbrev e117:PE:=⟨0,0,.own ty_3,true⟩
abbrev e118:PE:=⟨1,64,.val ty_0 false,false⟩
abbrev e119:PE:=⟨2,80,.val ty_0 false,false⟩
abbrev e120:PE:=⟨3,96,.fn 157 [],false⟩
abbrev e121:PE:=⟨8,112,.val ty_0 false,false⟩
abbrev e122:PE:=⟨2,64,.fn 157 [],false⟩
abbrev e123:PE:=⟨7,96,.val ty_0 false,false⟩
abbrev F14:Type 1:=Fn (Bool×Int×Int)
abbrev e124:PE:=⟨0,0,.val ty_17 true,false⟩
abbrev e125:PE:=⟨0,0,.val ty_15 false,false⟩
abbrev e126:PE:=⟨1,16,.val ty_15 false,false⟩
abbrev e127:PE:=⟨0,0,.ptr .bool true,true⟩
abbrev e128:PE:=⟨1,16,.val ty_17 true,false⟩
abbrev e129:PE:=⟨2,32,.val ty_10 true,false⟩
abbrev e130:PE:=⟨6,64,.box .bool false,false⟩
abbrev e131:PE:=⟨7,80,.box ty_10 false,false⟩
abbrev e132:PE:=⟨8,32,.box .bool false,false⟩
abbrev e133:PE:=⟨9,48,.eat ty_11,false⟩
abbrev e134:PE:=⟨4,32,.box .bool false,false⟩
abbrev e135:PE:=⟨5,48,.eat ty_11,false⟩
abbrev e136:PE:=⟨7,64,.eat ty_1,false⟩
abbrev e137:PE:=⟨4,16,.box .bool false,false⟩
abbrev e138:PE:=⟨0,16,.val ty_15 false,false⟩
abbrev e139:PE:=⟨2,48,.val ty_15 false,false⟩
abbrev e140:PE:=⟨8,64,.val ty_15 false,false⟩
abbrev e141:PE:=⟨9,80,.val ty_15 false,false⟩
abbrev e142:PE:=⟨10,96,.val ty_15 false,false⟩
abbrev e143:PE:=⟨45,176,.val ty_0 false,false⟩
abbrev e144:PE:=⟨6,32,.box .bool false,false⟩
abbrev e145:PE:=⟨11,80,.val ty_4 false,false⟩
abbrev e146:PE:=⟨13,112,.val ty_0 false,false⟩
abbrev e147:PE:=⟨14,112,.val ty_0 false,false⟩
abbrev e148:PE:=⟨8,48,.eat ty_1,false⟩
abbrev e149:PE:=⟨0,32,.val ty_14 false,false⟩
abbrev e150:PE:=⟨1,48,.val ty_13 false,false⟩
abbrev e151:PE:=⟨7,80,.eat ty_12,false⟩
abbrev e152:PE:=⟨9,112,.eat ty_10,false⟩
abbrev e153:PE:=⟨16,128,.box ty_10 false,false⟩
abbrev e154:PE:=⟨10,48,.box .bool false,false⟩
abbrev e155:PE:=⟨11,64,.eat ty_1,false⟩
abbrev e156:PE:=⟨12,80,.eat ty_10,false⟩
abbrev e157:PE:=⟨13,96,.eat ty_10,false⟩
abbrev e158:PE:=⟨5,32,.val .bool false,false⟩
abbrev e159:PE:=⟨0,0,.own ty_4,true⟩
abbrev e160:PE:=⟨0,0,.own ty_0,true⟩
abbrev e161:PE:=⟨0,0,.own ty_10,true⟩

noncomputable def q1V:Variant:=⟨[.val ty_4 false,.val ty_0 false],[(ty_0,false)],fun x=>laws_szTermS x.1 x.2.1⟩
noncomputable def q1C:Cfg:=⟨Tryz.prog,tyOf tys,12,gOf [],false,[],[]⟩
def q1p:List PE := [e1,e2]
noncomputable def q1F:F1:=⟨q1C,rr q1p [(ty_0,false)] Tryz.f47,fun p=>none,0,[]⟩
theorem q1K:Contract Tryz.prog 47 (q1V):=ctr q1C (rs := [(ty_0,false)]) (ps:=q1p) q1F Tryz.f47 32 ⟨tyOf_ok tys_ok,gOf_ok trivial⟩ (annl [] trivial)

noncomputable def q2V(k:Nat):Variant:=⟨[.val ty_5 false,.val ty_0 false],[(ty_0,false)],fun x=>laws_szTermSS k x.1 x.2.1⟩
noncomputable def q2C(k:Nat):Cfg:=⟨Tryz.prog,tyOf tys,27,gOf [(47,[],q1V)],false,[],[]⟩
def q2i1:List PE := [e3,e4,e5]
def q2o1:List PE := [e6]
noncomputable def q2f1(k:Nat)(n:Nat)(x2:PTe q2i1):=laws_szTermSS_L122 k n x2.1 x2.2.1 x2.2.2.1
def q2p:List PE := [e7,e2]
noncomputable def q2F(k:Nat):F1:=⟨q2C k,rr q2p [(ty_0,false)] Tryz.f11,fun p=>bif Nat.beq p 122 then some (.loop q2i1 q2o1 0 80 (q2f1 k k))else none,0,[]⟩
theorem q2K(k:Nat):Contract Tryz.prog 11 (q2V k):=ctr (q2C k) (rs := [(ty_0,false)]) (ps:=q2p) (q2F k) Tryz.f11 32 ⟨tyOf_ok tys_ok,gOf_ok ⟨q1K,trivial⟩⟩ (annl [122] ⟨lok q2i1 q2o1 0 80 (q2f1 k) k,trivial⟩)

noncomputable def q3V:Variant:=⟨[.val ty_7 false,.val ty_0 false],[(ty_0,false)],fun x=>laws_szIntS x.1 x.2.1⟩
noncomputable def q3C:Cfg:=⟨Tryz.prog,tyOf tys,12,gOf [],false,[],[]⟩
def q3p:List PE := [e8,e2]
noncomputable def q3F:F1:=⟨q3C,rr q3p [(ty_0,false)] Tryz.f48,fun p=>none,0,[]⟩
theorem q3K:Contract Tryz.prog 48 (q3V):=ctr q3C (rs := [(ty_0,false)]) (ps:=q3p) q3F Tryz.f48 32 ⟨tyOf_ok tys_ok,gOf_ok trivial⟩ (annl [] trivial)

noncomputable def q4V:Variant:=⟨[.val ty_9 true,.val ty_0 false],[(ty_0,false)],fun x=>laws_szBox x.1 x.2.1⟩
noncomputable def q4C:Cfg:=⟨Tryz.prog,tyOf tys,18,gOf [(48,[],q3V)],false,[],[]⟩
def q4p:List PE := [e9,e2]
noncomputable def q4F:F1:=⟨q4C,rr q4p [(ty_0,false)] Tryz.f12,fun p=>none,0,[]⟩
theorem q4K:Contract Tryz.prog 12 (q4V):=ctr q4C (rs := [(ty_0,false)]) (ps:=q4p) q4F Tryz.f12 32 ⟨tyOf_ok tys_ok,gOf_ok ⟨q3K,trivial⟩⟩ (annl [] trivial)

noncomputable def q5V:Variant:=⟨[.val ty_0 false],[(ty_0,false)],fun x=>laws_roomBehind x.1⟩
noncomputable def q5C:Cfg:=⟨Tryz.prog,tyOf tys,10,gOf [],false,[],[]⟩
def q5p:List PE := [e10]
noncomputable def q5F:F1:=⟨q5C,rr q5p [(ty_0,false)] Tryz.f51,fun p=>none,0,[]⟩
theorem q5K:Contract Tryz.prog 51 (q5V):=ctr q5C (rs := [(ty_0,false)]) (ps:=q5p) q5F Tryz.f51 16 ⟨tyOf_ok tys_ok,gOf_ok trivial⟩ (annl [] trivial)

noncomputable def q6V:Variant:=⟨[.val ty_3 true],[(ty_3,true)],fun x=>laws_toTerm x.1⟩
noncomputable def q6C:Cfg:=⟨Tryz.prog,tyOf tysR,17,gOf [],true,[],[]⟩
def q6p:List PE := [e11]
noncomputable def q6F:F2:=⟨q6C,rr q6p [(ty_3,true)] Tryz.f85,fun p=>none,0,[]⟩
theorem q6K:Contract Tryz.prog 85 (q6V):=ctr q6C (rs := [(ty_3,true)]) (ps:=q6p) q6F Tryz.f85 16 ⟨tyOf_ok tysR_ok,gOf_ok trivial⟩ (annl [] trivial)

noncomputable def q7V:Variant:=⟨[],[(ty_3,true)],fun x=>laws_fillerTerm⟩
noncomputable def q7C:Cfg:=⟨Tryz.prog,tyOf tys,2,gOf [],false,[],[]⟩
def q7p:List PE := []
noncomputable def q7F:F2:=⟨q7C,rr q7p [(ty_3,true)] Tryz.f53,fun p=>none,0,[]⟩
theorem q7K:Contract Tryz.prog 53 (q7V):=ctr q7C (rs := [(ty_3,true)]) (ps:=q7p) q7F Tryz.f53 0 ⟨tyOf_ok tys_ok,gOf_ok trivial⟩ (annl [] trivial)

noncomputable def q8V(k:Nat):Variant:=⟨[.val ty_4 false,.val .bool false],[(ty_6,false)],fun x=>laws_toTermS k x.1 x.2.1⟩
noncomputable def q8C(k:Nat):Cfg:=⟨Tryz.prog,tyOf tysR,51,gOf [(51,[],q5V),(85,[],q6V),(53,[],q7V)],true,[],[]⟩
def q8i1:List PE := [e12,e13,e14]
def q8o1:List PE := [e12,e13]
noncomputable def q8f1(k:Nat)(n:Nat)(x4:PTe q8i1):=laws_toTermS_L122 k n x4.1 x4.2.1 x4.2.2.1
def q8i2:List PE := [e12,e13,e15]
def q8o2:List PE := [e12,e13]
noncomputable def q8f2(k:Nat)(n:Nat)(x8:PTe q8i2):=laws_toTermS_L250 k n x8.1 x8.2.1 x8.2.2.1
def q8p:List PE := [e1,e16]
noncomputable def q8F(k:Nat):Fn (List (Int×Int×Int×Int)×List (Int×Int×Int×Int)):=⟨q8C k,rr q8p [(ty_6,false)] Tryz.f52,fun p=>bif Nat.beq p 122 then some (.loop q8i1 q8o1 0 80 (q8f1 k k))else bif Nat.beq p 250 then some (.loop q8i2 q8o2 2 80 (q8f2 k k))else bif Nat.beq p 6 then some (.cut [e12] 48)else none,0,[]⟩
theorem q8K(k:Nat):Contract Tryz.prog 52 (q8V k):=ctr (q8C k) (rs := [(ty_6,false)]) (ps:=q8p) (q8F k) Tryz.f52 32 ⟨tyOf_ok tysR_ok,gOf_ok ⟨q5K,q6K,q7K,trivial⟩⟩ (annl [122,250] ⟨lok q8i1 q8o1 0 80 (q8f1 k) k,lok q8i2 q8o2 2 80 (q8f2 k) k,trivial⟩)

noncomputable def q9V(k:Nat):Variant:=⟨[.val ty_5 false,.val .bool false],[(ty_18,false)],fun x=>laws_toTermSS k x.1 x.2.1⟩
noncomputable def q9C(k:Nat):Cfg:=⟨Tryz.prog,tyOf tysR,53,gOf [(51,[],q5V),(52,[],q8V k),(53,[],q7V)],true,[5,27,39,44],[]⟩
def q9i1:List PE := [e3,⟨1,48,.val .bool false,false⟩,⟨5,64,.eat ty_6,false⟩,e17]
def q9o1:List PE := [e3,e18]
noncomputable def q9f1(k:Nat)(n:Nat)(x4:PTe q9i1):=laws_toTermSS_L122 k n x4.1 x4.2.1 x4.2.2.1 x4.2.2.2.1
def q9i2:List PE := [e3,e18,e15]
def q9o2:List PE := [e3,e18]
noncomputable def q9f2(k:Nat)(n:Nat)(x8:PTe q9i2):=laws_toTermSS_L250 k n x8.1 x8.2.1 x8.2.2.1
def q9p:List PE := [e7,e16]
noncomputable def q9F(k:Nat):Fn (List (List (Int×Int×Int×Int)×List (Int×Int×Int×Int))×List (List (Int×Int×Int×Int)×List (Int×Int×Int×Int))):=⟨q9C k,rr q9p [(ty_18,false)] Tryz.f14,fun p=>bif Nat.beq p 122 then some (.loop q9i1 q9o1 0 96 (q9f1 k k))else bif Nat.beq p 250 then some (.loop q9i2 q9o2 2 80 (q9f2 k k))else bif Nat.beq p 6 then some (.cut [e3,⟨1,48,.val .bool false,false⟩] 64)else none,0,[]⟩
theorem q9K(k:Nat):Contract Tryz.prog 14 (q9V k):=ctr (q9C k) (rs := [(ty_18,false)]) (ps:=q9p) (q9F k) Tryz.f14 32 ⟨tyOf_ok tysR_ok,gOf_ok ⟨q5K,q8K k,q7K,trivial⟩⟩ (annl [122,250] ⟨lok q9i1 q9o1 0 96 (q9f1 k) k,lok q9i2 q9o2 2 80 (q9f2 k) k,trivial⟩)

noncomputable def q10V(k:Nat):Variant:=⟨[.val ty_7 false,.val .bool false],[(ty_19,false)],fun x=>laws_toIntS k x.1 x.2.1⟩
noncomputable def q10C(k:Nat):Cfg:=⟨Tryz.prog,tyOf tysR,49,gOf [(51,[],q5V)],true,[],[]⟩
def q10i1:List PE := [e19,e20,e14]
def q10o1:List PE := [e19,e20]
noncomputable def q10f1(k:Nat)(n:Nat)(x3:PTe q10i1):=laws_toIntS_L122 k n x3.1 x3.2.1 x3.2.2.1
def q10i2:List PE := [e19,e20,e15]
def q10o2:List PE := [e19,e20]
noncomputable def q10f2(k:Nat)(n:Nat)(x6:PTe q10i2):=laws_toIntS_L250 k n x6.1 x6.2.1 x6.2.2.1
def q10p:List PE := [e8,e16]
noncomputable def q10F(k:Nat):Fn (List Int×List Int):=⟨q10C k,rr q10p [(ty_19,false)] Tryz.f54,fun p=>bif Nat.beq p 122 then some (.loop q10i1 q10o1 0 80 (q10f1 k k))else bif Nat.beq p 250 then some (.loop q10i2 q10o2 2 80 (q10f2 k k))else bif Nat.beq p 6 then some (.cut [e19] 48)else none,0,[]⟩
theorem q10K(k:Nat):Contract Tryz.prog 54 (q10V k):=ctr (q10C k) (rs := [(ty_19,false)]) (ps:=q10p) (q10F k) Tryz.f54 32 ⟨tyOf_ok tysR_ok,gOf_ok ⟨q5K,trivial⟩⟩ (annl [122,250] ⟨lok q10i1 q10o1 0 80 (q10f1 k) k,lok q10i2 q10o2 2 80 (q10f2 k) k,trivial⟩)

noncomputable def q11V(k:Nat):Variant:=⟨[.val ty_9 true,.val .bool false],[(ty_21,true)],fun x=>laws_toBox k x.1 x.2.1⟩
noncomputable def q11C(k:Nat):Cfg:=⟨Tryz.prog,tyOf tysR,20,gOf [(54,[],q10V k)],true,[],[]⟩
def q11p:List PE := [e9,e16]
noncomputable def q11F(k:Nat):Fn (Int×(List Int×List Int)×List Int×List Int):=⟨q11C k,rr q11p [(ty_21,true)] Tryz.f15,fun p=>none,0,[]⟩
theorem q11K(k:Nat):Contract Tryz.prog 15 (q11V k):=ctr (q11C k) (rs := [(ty_21,true)]) (ps:=q11p) (q11F k) Tryz.f15 32 ⟨tyOf_ok tysR_ok,gOf_ok ⟨q10K k,trivial⟩⟩ (annl [] trivial)

noncomputable def q12V:Variant:=⟨[.val ty_0 false,.val ty_0 false,.val ty_0 false],[(.bool,false)],fun x=>spec_l1In x.1 x.2.1 x.2.2.1⟩
noncomputable def q12C:Cfg:=⟨Tryz.prog,tyOf tys,15,gOf [],false,[],[]⟩
def q12p:List PE := [e10,e2,e21]
noncomputable def q12F:F3:=⟨q12C,rr q12p [(.bool,false)] Tryz.f149,fun p=>none,0,[]⟩
theorem q12K:Contract Tryz.prog 149 (q12V):=ctr q12C (rs := [(.bool,false)]) (ps:=q12p) q12F Tryz.f149 48 ⟨tyOf_ok tys_ok,gOf_ok trivial⟩ (annl [] trivial)

noncomputable def q13V:Variant:=⟨[.val ty_3 true],[(.bool,false)],fun x=>spec_poTerm x.1⟩
noncomputable def q13C:Cfg:=⟨Tryz.prog,tyOf tys,32,gOf [(149,[],q12V)],false,[],[]⟩
def q13p:List PE := [e11]
noncomputable def q13F:F3:=⟨q13C,rr q13p [(.bool,false)] Tryz.f229,fun p=>none,0,[]⟩
theorem q13K:Contract Tryz.prog 229 (q13V):=ctr q13C (rs := [(.bool,false)]) (ps:=q13p) q13F Tryz.f229 16 ⟨tyOf_ok tys_ok,gOf_ok ⟨q12K,trivial⟩⟩ (annl [] trivial)

noncomputable def q14V:Variant:=⟨[.val ty_0 false],[(ty_0,false)],fun x=>spec_l1Sign x.1⟩
noncomputable def q14C:Cfg:=⟨Tryz.prog,tyOf tys,9,gOf [],false,[],[]⟩
def q14p:List PE := [e10]
noncomputable def q14F:F1:=⟨q14C,rr q14p [(ty_0,false)] Tryz.f166,fun p=>none,0,[]⟩
theorem q14K:Contract Tryz.prog 166 (q14V):=ctr q14C (rs := [(ty_0,false)]) (ps:=q14p) q14F Tryz.f166 16 ⟨tyOf_ok tys_ok,gOf_ok trivial⟩ (annl [] trivial)

noncomputable def q15V:Variant:=⟨[.val ty_3 true,.val ty_3 true],[(ty_0,false)],fun x=>spec_poOrder x.1 x.2.1⟩
noncomputable def q15C:Cfg:=⟨Tryz.prog,tyOf tys,35,gOf [(166,[],q14V)],false,[],[]⟩
def q15p:List PE := [e11,e22]
noncomputable def q15F:F1:=⟨q15C,rr q15p [(ty_0,false)] Tryz.f198,fun p=>none,0,[]⟩
theorem q15K:Contract Tryz.prog 198 (q15V):=ctr q15C (rs := [(ty_0,false)]) (ps:=q15p) q15F Tryz.f198 32 ⟨tyOf_ok tys_ok,gOf_ok ⟨q14K,trivial⟩⟩ (annl [] trivial)

noncomputable def q16V(k:Nat):Variant:=⟨[.val ty_4 false],[(.bool,false)],fun x=>spec_poGood k x.1⟩
noncomputable def q16C(k:Nat):Cfg:=⟨Tryz.prog,tyOf tys,38,gOf [(229,[],q13V),(198,[],q15V)],false,[],[]⟩
def q16i1:List PE := [e23,⟨5,32,.val ty_4 false,false⟩,e24,e15]
def q16o1:List PE := [e23]
noncomputable def q16f1(k:Nat)(n:Nat)(x3:PTe q16i1):=spec_poGood_L26 k n x3.1 x3.2.1 x3.2.2.1 x3.2.2.2.1
def q16p:List PE := [e1]
noncomputable def q16F(k:Nat):F3:=⟨q16C k,rr q16p [(.bool,false)] Tryz.f192,fun p=>bif Nat.beq p 26 then some (.loop q16i1 q16o1 0 80 (q16f1 k k))else none,0,[]⟩
theorem q16K(k:Nat):Contract Tryz.prog 192 (q16V k):=ctr (q16C k) (rs := [(.bool,false)]) (ps:=q16p) (q16F k) Tryz.f192 16 ⟨tyOf_ok tys_ok,gOf_ok ⟨q13K,q15K,trivial⟩⟩ (annl [26] ⟨lok q16i1 q16o1 0 80 (q16f1 k) k,trivial⟩)

noncomputable def q17V:Variant:=⟨[.val ty_3 true,.val ty_0 false],[(ty_0,false)],fun x=>spec_poPower x.1 x.2.1⟩
noncomputable def q17C:Cfg:=⟨Tryz.prog,tyOf tys,16,gOf [],false,[],[]⟩
def q17p:List PE := [e11,e2]
noncomputable def q17F:F1:=⟨q17C,rr q17p [(ty_0,false)] Tryz.f222,fun p=>none,0,[]⟩
theorem q17K:Contract Tryz.prog 222 (q17V):=ctr q17C (rs := [(ty_0,false)]) (ps:=q17p) q17F Tryz.f222 32 ⟨tyOf_ok tys_ok,gOf_ok trivial⟩ (annl [] trivial)

noncomputable def q18V:Variant:=⟨[.val ty_0 false,.val ty_0 false],[(ty_0,false)],fun x=>spec_l1Most x.1 x.2.1⟩
noncomputable def q18C:Cfg:=⟨Tryz.prog,tyOf tys,10,gOf [],false,[],[]⟩
def q18p:List PE := [e10,e2]
noncomputable def q18F:F1:=⟨q18C,rr q18p [(ty_0,false)] Tryz.f169,fun p=>none,0,[]⟩
theorem q18K:Contract Tryz.prog 169 (q18V):=ctr q18C (rs := [(ty_0,false)]) (ps:=q18p) q18F Tryz.f169 32 ⟨tyOf_ok tys_ok,gOf_ok trivial⟩ (annl [] trivial)

noncomputable def q19V(k:Nat):Variant:=⟨[.val ty_4 false,.val ty_0 false],[(ty_0,false)],fun x=>spec_poDegreeIn k x.1 x.2.1⟩
noncomputable def q19C(k:Nat):Cfg:=⟨Tryz.prog,tyOf tys,21,gOf [(222,[],q17V),(169,[],q18V)],false,[],[]⟩
def q19i1:List PE := [e6,e25,⟨8,64,.val ty_4 false,false⟩,e26,⟨10,96,.val ty_0 false,false⟩]
def q19o1:List PE := [⟨5,32,.val ty_0 false,false⟩]
noncomputable def q19f1(k:Nat)(n:Nat)(x3:PTe q19i1):=spec_poDegreeIn_L58 k n x3.1 x3.2.1 x3.2.2.1 x3.2.2.2.1 x3.2.2.2.2.1
def q19p:List PE := [e1,e2]
noncomputable def q19F(k:Nat):F1:=⟨q19C k,rr q19p [(ty_0,false)] Tryz.f193,fun p=>bif Nat.beq p 58 then some (.loop q19i1 q19o1 0 112 (q19f1 k k))else none,0,[]⟩
theorem q19K(k:Nat):Contract Tryz.prog 193 (q19V k):=ctr (q19C k) (rs := [(ty_0,false)]) (ps:=q19p) (q19F k) Tryz.f193 32 ⟨tyOf_ok tys_ok,gOf_ok ⟨q17K,q18K,trivial⟩⟩ (annl [58] ⟨lok q19i1 q19o1 0 112 (q19f1 k) k,trivial⟩)

noncomputable def q20V(k:Nat):Variant:=⟨[.val ty_5 false],[(.bool,false)],fun x=>spec_poSystem k x.1⟩
noncomputable def q20C(k:Nat):Cfg:=⟨Tryz.prog,tyOf tys,29,gOf [(192,[],q16V k),(193,[],q19V k),(149,[],q12V)],false,[],[]⟩
def q20i1:List PE := [e27,⟨4,32,.val ty_4 false,false⟩,e25,⟨6,64,.val ty_5 false,false⟩,⟨7,80,.val ty_0 false,false⟩,e28]
def q20o1:List PE := [e27,⟨6,32,.val ty_5 false,false⟩,e29,e30]
noncomputable def q20f1(k:Nat)(n:Nat)(x3:PTe q20i1):=spec_poSystem_L13518 k n x3.1 x3.2.1 x3.2.2.1 x3.2.2.2.1 x3.2.2.2.2.1 x3.2.2.2.2.2.1
def q20i2:List PE := [e27,⟨6,32,.val ty_5 false,false⟩,e29,e30]
def q20o2:List PE := [e27]
noncomputable def q20f2(k:Nat)(n:Nat)(x6:PTe q20i2):=spec_poSystem_L26 k n x6.1 x6.2.1 x6.2.2.1 x6.2.2.2.1
def q20p:List PE := [e7]
noncomputable def q20F(k:Nat):F3:=⟨q20C k,rr q20p [(.bool,false)] Tryz.f137,fun p=>bif Nat.beq p 13518 then some (.loop q20i1 q20o1 2 112 (q20f1 k k))else bif Nat.beq p 26 then some (.loop q20i2 q20o2 0 80 (q20f2 k k))else none,0,[]⟩
theorem q20K(k:Nat):Contract Tryz.prog 137 (q20V k):=ctr (q20C k) (rs := [(.bool,false)]) (ps:=q20p) (q20F k) Tryz.f137 16 ⟨tyOf_ok tys_ok,gOf_ok ⟨q16K k,q19K k,q12K,trivial⟩⟩ (annl [26,13518] ⟨lok q20i2 q20o2 0 80 (q20f2 k) k,lok q20i1 q20o1 2 112 (q20f1 k) k,trivial⟩)

noncomputable def q21V:Variant:=⟨[.val ty_0 false],[(ty_0,false)],fun x=>spec_dyPower x.1⟩
noncomputable def q21C:Cfg:=⟨Tryz.prog,tyOf tys,6,gOf [],false,[],[]⟩
def q21p:List PE := [e10]
noncomputable def q21F:F1:=⟨q21C,rr q21p [(ty_0,false)] Tryz.f168,fun p=>none,0,[]⟩
theorem q21K:Contract Tryz.prog 168 (q21V):=ctr q21C (rs := [(ty_0,false)]) (ps:=q21p) q21F Tryz.f168 16 ⟨tyOf_ok tys_ok,gOf_ok trivial⟩ (annl [] trivial)

noncomputable def q22V(k:Nat):Variant:=⟨[.val ty_9 true],[(.bool,false)],fun x=>spec_bxGood k x.1⟩
noncomputable def q22C(k:Nat):Cfg:=⟨Tryz.prog,tyOf tys,80,gOf [(149,[],q12V),(168,[],q21V)],false,[],[]⟩
def q22i1:List PE := [e31,e32,⟨4,48,.val .bool false,false⟩,⟨36,64,.val ty_7 false,false⟩,⟨37,80,.val ty_0 false,false⟩,⟨38,96,.val ty_0 false,false⟩]
def q22o1:List PE := [e33]
noncomputable def q22f1(k:Nat)(n:Nat)(x6:PTe q22i1):=spec_bxGood_L250 k n x6.1 x6.2.1 x6.2.2.1 x6.2.2.2.1 x6.2.2.2.2.1 x6.2.2.2.2.2.1
def q22p:List PE := [e9]
noncomputable def q22F(k:Nat):F3:=⟨q22C k,rr q22p [(.bool,false)] Tryz.f138,fun p=>bif Nat.beq p 250 then some (.loop q22i1 q22o1 0 112 (q22f1 k k))else none,0,[]⟩
theorem q22K(k:Nat):Contract Tryz.prog 138 (q22V k):=ctr (q22C k) (rs := [(.bool,false)]) (ps:=q22p) (q22F k) Tryz.f138 16 ⟨tyOf_ok tys_ok,gOf_ok ⟨q12K,q21K,trivial⟩⟩ (annl [250] ⟨lok q22i1 q22o1 0 112 (q22f1 k) k,trivial⟩)

noncomputable def q23V(k:Nat):Variant:=⟨[.val ty_5 false,.val ty_9 true],[(.bool,false)],fun x=>spec_vaBoth k x.1 x.2.1⟩
noncomputable def q23C(k:Nat):Cfg:=⟨Tryz.prog,tyOf tys,19,gOf [(137,[],q20V k),(138,[],q22V k)],false,[],[]⟩
def q23p:List PE := [e7,e34]
noncomputable def q23F(k:Nat):F3:=⟨q23C k,rr q23p [(.bool,false)] Tryz.f82,fun p=>none,0,[]⟩
theorem q23K(k:Nat):Contract Tryz.prog 82 (q23V k):=ctr (q23C k) (rs := [(.bool,false)]) (ps:=q23p) (q23F k) Tryz.f82 32 ⟨tyOf_ok tys_ok,gOf_ok ⟨q20K k,q22K k,trivial⟩⟩ (annl [] trivial)

noncomputable def q24V(k:Nat):Variant:=⟨[.val ty_5 false,.val ty_9 true],[(.bool,false)],fun x=>spec_nwGood k x.1 x.2.1⟩
noncomputable def q24C(k:Nat):Cfg:=⟨Tryz.prog,tyOf tys,13,gOf [(82,[],q23V k)],false,[],[]⟩
def q24p:List PE := [e7,e34]
noncomputable def q24F(k:Nat):F3:=⟨q24C k,rr q24p [(.bool,false)] Tryz.f49,fun p=>none,0,[]⟩
theorem q24K(k:Nat):Contract Tryz.prog 49 (q24V k):=ctr (q24C k) (rs := [(.bool,false)]) (ps:=q24p) (q24F k) Tryz.f49 32 ⟨tyOf_ok tys_ok,gOf_ok ⟨q23K k,trivial⟩⟩ (annl [] trivial)

noncomputable def q25V:Variant:=⟨[.val ty_1 true],[(.bool,false)],fun x=>spec_dyGood x.1⟩
noncomputable def q25C:Cfg:=⟨Tryz.prog,tyOf tys,22,gOf [(149,[],q12V)],false,[],[]⟩
def q25p:List PE := [e35]
noncomputable def q25F:F3:=⟨q25C,rr q25p [(.bool,false)] Tryz.f211,fun p=>none,0,[]⟩
theorem q25K:Contract Tryz.prog 211 (q25V):=ctr q25C (rs := [(.bool,false)]) (ps:=q25p) q25F Tryz.f211 16 ⟨tyOf_ok tys_ok,gOf_ok ⟨q12K,trivial⟩⟩ (annl [] trivial)

noncomputable def q26V(k:Nat):Variant:=⟨[.val ty_0 false,.val ty_0 false],[(ty_1,true),(.bool,false)],fun x=>spec_dyMake k x.1 x.2.1⟩
noncomputable def q26C(k:Nat):Cfg:=⟨Tryz.prog,tyOf tys,32,gOf [(211,[],q25V)],false,[],[]⟩
def q26i1:List PE := [e36,e4,e37]
def q26o1:List PE := [e36,e4,e37]
noncomputable def q26f1(k:Nat)(n:Nat)(x2:PTe q26i1):=spec_dyMake_L28 k n x2.1 x2.2.1 x2.2.2.1
def q26p:List PE := [e10,e2]
noncomputable def q26F(k:Nat):F4:=⟨q26C k,rr q26p [(ty_1,true),(.bool,false)] Tryz.f170,fun p=>bif Nat.beq p 28 then some (.loop q26i1 q26o1 0 80 (q26f1 k k))else bif Nat.beq p 6 then some (.cut [e36,e4,e37] 80)else none,0,[]⟩
theorem q26K(k:Nat):Contract Tryz.prog 170 (q26V k):=ctr (q26C k) (rs := [(ty_1,true),(.bool,false)]) (ps:=q26p) (q26F k) Tryz.f170 32 ⟨tyOf_ok tys_ok,gOf_ok ⟨q25K,trivial⟩⟩ (annl [28] ⟨lok q26i1 q26o1 0 80 (q26f1 k) k,trivial⟩)

noncomputable def q27V(k:Nat):Variant:=⟨[.val ty_0 false,.val ty_0 false],[(ty_1,true)],fun x=>spec_bxNumber k x.1 x.2.1⟩
noncomputable def q27C(k:Nat):Cfg:=⟨Tryz.prog,tyOf tys,14,gOf [(170,[],q26V k)],false,[],[]⟩
def q27p:List PE := [e10,e2]
noncomputable def q27F(k:Nat):F5:=⟨q27C k,rr q27p [(ty_1,true)] Tryz.f139,fun p=>none,0,[]⟩
theorem q27K(k:Nat):Contract Tryz.prog 139 (q27V k):=ctr (q27C k) (rs := [(ty_1,true)]) (ps:=q27p) (q27F k) Tryz.f139 32 ⟨tyOf_ok tys_ok,gOf_ok ⟨q26K k,trivial⟩⟩ (annl [] trivial)

noncomputable def q28V(k:Nat):Variant:=⟨[.val ty_9 true],[(ty_12,false)],fun x=>spec_vaSides k x.1⟩
noncomputable def q28C(k:Nat):Cfg:=⟨Tryz.prog,tyOf tys,32,gOf [(139,[],q27V k)],false,[],[]⟩
def q28i1:List PE := [e31,⟨3,32,.eat ty_10,false⟩,⟨7,48,.val ty_7 false,false⟩,e30,e26]
def q28o1:List PE := [⟨3,16,.eat ty_10,false⟩]
noncomputable def q28f1(k:Nat)(n:Nat)(x3:PTe q28i1):=spec_vaSides_L58 k n x3.1 x3.2.1 x3.2.2.1 x3.2.2.2.1 x3.2.2.2.2.1
def q28p:List PE := [e9]
noncomputable def q28F(k:Nat):Fn (List ((Int×Int)×Int×Int)):=⟨q28C k,rr q28p [(ty_12,false)] Tryz.f83,fun p=>bif Nat.beq p 58 then some (.loop q28i1 q28o1 0 96 (q28f1 k k))else none,0,[]⟩
theorem q28K(k:Nat):Contract Tryz.prog 83 (q28V k):=ctr (q28C k) (rs := [(ty_12,false)]) (ps:=q28p) (q28F k) Tryz.f83 16 ⟨tyOf_ok tys_ok,gOf_ok ⟨q27K k,trivial⟩⟩ (annl [58] ⟨lok q28i1 q28o1 0 96 (q28f1 k) k,trivial⟩)

noncomputable def q29V:Variant:=⟨[.val ty_3 true,.val ty_0 false,.val ty_0 false],[(ty_3,true)],fun x=>spec_poWith x.1 x.2.1 x.2.2.1⟩
noncomputable def q29C:Cfg:=⟨Tryz.prog,tyOf tys,19,gOf [],false,[],[]⟩
def q29p:List PE := [e11,e2,e21]
noncomputable def q29F:F2:=⟨q29C,rr q29p [(ty_3,true)] Tryz.f245,fun p=>none,0,[]⟩
theorem q29K:Contract Tryz.prog 245 (q29V):=ctr q29C (rs := [(ty_3,true)]) (ps:=q29p) q29F Tryz.f245 48 ⟨tyOf_ok tys_ok,gOf_ok trivial⟩ (annl [] trivial)

noncomputable def q30V(k:Nat):Variant:=⟨[.val ty_4 false,.val ty_0 false],[(ty_4,false)],fun x=>spec_poDerive k x.1 x.2.1⟩
noncomputable def q30C(k:Nat):Cfg:=⟨Tryz.prog,tyOf tys,37,gOf [(222,[],q17V),(245,[],q29V)],false,[],[]⟩
def q30i1:List PE := [e6,e13,⟨10,64,.val ty_4 false,false⟩,e38,e39]
def q30o1:List PE := [⟨5,32,.eat ty_3,false⟩]
noncomputable def q30f1(k:Nat)(n:Nat)(x3:PTe q30i1):=spec_poDerive_L58 k n x3.1 x3.2.1 x3.2.2.1 x3.2.2.2.1 x3.2.2.2.2.1
def q30p:List PE := [e1,e2]
noncomputable def q30F(k:Nat):F6:=⟨q30C k,rr q30p [(ty_4,false)] Tryz.f219,fun p=>bif Nat.beq p 58 then some (.loop q30i1 q30o1 0 112 (q30f1 k k))else none,0,[]⟩
theorem q30K(k:Nat):Contract Tryz.prog 219 (q30V k):=ctr (q30C k) (rs := [(ty_4,false)]) (ps:=q30p) (q30F k) Tryz.f219 32 ⟨tyOf_ok tys_ok,gOf_ok ⟨q17K,q29K,trivial⟩⟩ (annl [58] ⟨lok q30i1 q30o1 0 112 (q30f1 k) k,trivial⟩)

noncomputable def q31V:Variant:=⟨[.val ty_0 false],[(ty_1,true)],fun x=>spec_dyInt x.1⟩
noncomputable def q31C:Cfg:=⟨Tryz.prog,tyOf tys,5,gOf [],false,[],[]⟩
def q31p:List PE := [e10]
noncomputable def q31F:F5:=⟨q31C,rr q31p [(ty_1,true)] Tryz.f107,fun p=>none,0,[]⟩
theorem q31K:Contract Tryz.prog 107 (q31V):=ctr q31C (rs := [(ty_1,true)]) (ps:=q31p) q31F Tryz.f107 16 ⟨tyOf_ok tys_ok,gOf_ok trivial⟩ (annl [] trivial)

noncomputable def q32V:Variant:=⟨[.val ty_1 true],[(ty_10,true)],fun x=>spec_vaPure x.1⟩
noncomputable def q32C:Cfg:=⟨Tryz.prog,tyOf tys,6,gOf [],false,[],[]⟩
def q32p:List PE := [e35]
noncomputable def q32F:F7:=⟨q32C,rr q32p [(ty_10,true)] Tryz.f122,fun p=>none,0,[]⟩
theorem q32K:Contract Tryz.prog 122 (q32V):=ctr q32C (rs := [(ty_10,true)]) (ps:=q32p) q32F Tryz.f122 16 ⟨tyOf_ok tys_ok,gOf_ok trivial⟩ (annl [] trivial)

noncomputable def q33V:Variant:=⟨[.val ty_0 false],[(ty_0,false)],fun x=>spec_l1Abs x.1⟩
noncomputable def q33C:Cfg:=⟨Tryz.prog,tyOf tys,7,gOf [(169,[],q18V)],false,[],[]⟩
def q33p:List PE := [e10]
noncomputable def q33F:F1:=⟨q33C,rr q33p [(ty_0,false)] Tryz.f164,fun p=>none,0,[]⟩
theorem q33K:Contract Tryz.prog 164 (q33V):=ctr q33C (rs := [(ty_0,false)]) (ps:=q33p) q33F Tryz.f164 16 ⟨tyOf_ok tys_ok,gOf_ok ⟨q18K,trivial⟩⟩ (annl [] trivial)

noncomputable def q34V(k:Nat):Variant:=⟨[.val ty_1 true,.val ty_1 true],[(ty_1,true),(.bool,false)],fun x=>spec_dyMul k x.1 x.2.1⟩
noncomputable def q34C(k:Nat):Cfg:=⟨Tryz.prog,tyOf tys,67,gOf [(164,[],q33V),(170,[],q26V k)],false,[],[]⟩
def q34i1:List PE := [e40,e41,e37,e17]
def q34o1:List PE := [e40,e41,e37,e17]
noncomputable def q34f1(k:Nat)(n:Nat)(x1:PTe q34i1):=spec_dyMul_L60 k n x1.1 x1.2.1 x1.2.2.1 x1.2.2.2.1
def q34i2:List PE := [e40,e41,e37,e17]
def q34o2:List PE := [e40,e41,e37,e17]
noncomputable def q34f2(k:Nat)(n:Nat)(x4:PTe q34i2):=spec_dyMul_L124 k n x4.1 x4.2.1 x4.2.2.1 x4.2.2.2.1
def q34p:List PE := [e35,e42]
noncomputable def q34F(k:Nat):F4:=⟨q34C k,rr q34p [(ty_1,true),(.bool,false)] Tryz.f187,fun p=>bif Nat.beq p 60 then some (.loop q34i1 q34o1 0 96 (q34f1 k k))else bif Nat.beq p 124 then some (.loop q34i2 q34o2 2 96 (q34f2 k k))else none,0,[]⟩
theorem q34K(k:Nat):Contract Tryz.prog 187 (q34V k):=ctr (q34C k) (rs := [(ty_1,true),(.bool,false)]) (ps:=q34p) (q34F k) Tryz.f187 32 ⟨tyOf_ok tys_ok,gOf_ok ⟨q33K,q26K k,trivial⟩⟩ (annl [60,124] ⟨lok q34i1 q34o1 0 96 (q34f1 k) k,lok q34i2 q34o2 2 96 (q34f2 k) k,trivial⟩)

noncomputable def q35V(k:Nat):Variant:=⟨[.val ty_1 true,.val ty_0 false],[(ty_1,true),(.bool,false)],fun x=>spec_ivRaise k x.1 x.2.1⟩
noncomputable def q35C(k:Nat):Cfg:=⟨Tryz.prog,tyOf tys,25,gOf [(107,[],q31V),(187,[],q34V k)],false,[],[]⟩
def q35i1:List PE := [e6,⟨2,48,.box ty_1 false,false⟩,e37,⟨6,80,.box ty_1 false,false⟩]
def q35o1:List PE := [e43,e44]
noncomputable def q35f1(k:Nat)(n:Nat)(x3:PTe q35i1):=spec_ivRaise_L28 k n x3.1 x3.2.1 x3.2.2.1 x3.2.2.2.1
def q35p:List PE := [e35,e2]
noncomputable def q35F(k:Nat):F4:=⟨q35C k,rr q35p [(ty_1,true),(.bool,false)] Tryz.f257,fun p=>bif Nat.beq p 28 then some (.loop q35i1 q35o1 0 96 (q35f1 k k))else none,0,[]⟩
theorem q35K(k:Nat):Contract Tryz.prog 257 (q35V k):=ctr (q35C k) (rs := [(ty_1,true),(.bool,false)]) (ps:=q35p) (q35F k) Tryz.f257 32 ⟨tyOf_ok tys_ok,gOf_ok ⟨q31K,q34K k,trivial⟩⟩ (annl [28] ⟨lok q35i1 q35o1 0 96 (q35f1 k) k,trivial⟩)

noncomputable def q36V:Variant:=⟨[.val ty_10 true],[(.bool,false)],fun x=>spec_ivZero x.1⟩
noncomputable def q36C:Cfg:=⟨Tryz.prog,tyOf tys,13,gOf [],false,[],[]⟩
def q36p:List PE := [e45]
noncomputable def q36F:F3:=⟨q36C,rr q36p [(.bool,false)] Tryz.f258,fun p=>none,0,[]⟩
theorem q36K:Contract Tryz.prog 258 (q36V):=ctr q36C (rs := [(.bool,false)]) (ps:=q36p) q36F Tryz.f258 16 ⟨tyOf_ok tys_ok,gOf_ok trivial⟩ (annl [] trivial)

noncomputable def q37V:Variant:=⟨[.val ty_0 false,.val ty_0 false],[(ty_0,false)],fun x=>spec_dyDown x.1 x.2.1⟩
noncomputable def q37C:Cfg:=⟨Tryz.prog,tyOf tys,16,gOf [],false,[],[]⟩
def q37p:List PE := [e10,e2]
noncomputable def q37F:F1:=⟨q37C,rr q37p [(ty_0,false)] Tryz.f210,fun p=>none,0,[]⟩
theorem q37K:Contract Tryz.prog 210 (q37V):=ctr q37C (rs := [(ty_0,false)]) (ps:=q37p) q37F Tryz.f210 32 ⟨tyOf_ok tys_ok,gOf_ok trivial⟩ (annl [] trivial)

noncomputable def q38V:Variant:=⟨[.val ty_1 true],[(ty_0,false)],fun x=>spec_dyFloor x.1⟩
noncomputable def q38C:Cfg:=⟨Tryz.prog,tyOf tys,9,gOf [(168,[],q21V),(210,[],q37V)],false,[],[]⟩
def q38p:List PE := [e35]
noncomputable def q38F:F1:=⟨q38C,rr q38p [(ty_0,false)] Tryz.f165,fun p=>none,0,[]⟩
theorem q38K:Contract Tryz.prog 165 (q38V):=ctr q38C (rs := [(ty_0,false)]) (ps:=q38p) q38F Tryz.f165 16 ⟨tyOf_ok tys_ok,gOf_ok ⟨q21K,q37K,trivial⟩⟩ (annl [] trivial)

noncomputable def q39V(k:Nat):Variant:=⟨[.val ty_1 true,.val ty_0 false],[(ty_0,false),(.bool,false)],fun x=>spec_dyAt k x.1 x.2.1⟩
noncomputable def q39C(k:Nat):Cfg:=⟨Tryz.prog,tyOf tys,30,gOf [(168,[],q21V),(149,[],q12V)],false,[],[]⟩
def q39i1:List PE := [e6,⟨2,48,.box ty_1 false,false⟩,e14]
def q39o1:List PE := [e40]
noncomputable def q39f1(k:Nat)(n:Nat)(x4:PTe q39i1):=spec_dyAt_L58 k n x4.1 x4.2.1 x4.2.2.1
def q39p:List PE := [e35,e2]
noncomputable def q39F(k:Nat):Fn (Int×Bool):=⟨q39C k,rr q39p [(ty_0,false),(.bool,false)] Tryz.f167,fun p=>bif Nat.beq p 58 then some (.loop q39i1 q39o1 0 80 (q39f1 k k))else none,0,[]⟩
theorem q39K(k:Nat):Contract Tryz.prog 167 (q39V k):=ctr (q39C k) (rs := [(ty_0,false),(.bool,false)]) (ps:=q39p) (q39F k) Tryz.f167 32 ⟨tyOf_ok tys_ok,gOf_ok ⟨q21K,q12K,trivial⟩⟩ (annl [58] ⟨lok q39i1 q39o1 0 80 (q39f1 k) k,trivial⟩)

noncomputable def q40V(k:Nat):Variant:=⟨[.val ty_1 true,.val ty_1 true],[(ty_0,false)],fun x=>spec_dyCmp k x.1 x.2.1⟩
noncomputable def q40C(k:Nat):Cfg:=⟨Tryz.prog,tyOf tys,56,gOf [(165,[],q38V),(166,[],q14V),(168,[],q21V),(167,[],q39V k)],false,[],[]⟩
def q40p:List PE := [e35,e42]
noncomputable def q40F(k:Nat):F1:=⟨q40C k,rr q40p [(ty_0,false)] Tryz.f105,fun p=>none,0,[]⟩
theorem q40K(k:Nat):Contract Tryz.prog 105 (q40V k):=ctr (q40C k) (rs := [(ty_0,false)]) (ps:=q40p) (q40F k) Tryz.f105 32 ⟨tyOf_ok tys_ok,gOf_ok ⟨q38K,q14K,q21K,q39K k,trivial⟩⟩ (annl [] trivial)

noncomputable def q41V(k:Nat):Variant:=⟨[.val ty_11 false],[(ty_10,true)],fun x=>spec_ivEnds k x.1⟩
noncomputable def q41C(k:Nat):Cfg:=⟨Tryz.prog,tyOf tys,35,gOf [(105,[],q40V k)],false,[],[]⟩
def q41i1:List PE := [e46,e47,⟨13,48,.val ty_11 false,false⟩,e48,e49]
def q41o1:List PE := [e46,e47]
noncomputable def q41f1(k:Nat)(n:Nat)(x5:PTe q41i1):=spec_ivEnds_L58 k n x5.1 x5.2.1 x5.2.2.1 x5.2.2.2.1 x5.2.2.2.2.1
def q41p:List PE := [⟨0,0,.val ty_11 false,false⟩]
noncomputable def q41F(k:Nat):F7:=⟨q41C k,rr q41p [(ty_10,true)] Tryz.f140,fun p=>bif Nat.beq p 7474 then some (.cut [e46,e47,e50,⟨13,64,.val ty_11 false,false⟩,e51,e52] 112)else bif Nat.beq p 58 then some (.loop q41i1 q41o1 0 96 (q41f1 k k))else none,0,[]⟩
theorem q41K(k:Nat):Contract Tryz.prog 140 (q41V k):=ctr (q41C k) (rs := [(ty_10,true)]) (ps:=q41p) (q41F k) Tryz.f140 16 ⟨tyOf_ok tys_ok,gOf_ok ⟨q40K k,trivial⟩⟩ (annl [58] ⟨lok q41i1 q41o1 0 96 (q41f1 k) k,trivial⟩)

noncomputable def q42V(k:Nat):Variant:=⟨[.val ty_1 true,.val ty_0 false],[(ty_1,true)],fun x=>spec_dyRound k x.1 x.2.1⟩
noncomputable def q42C(k:Nat):Cfg:=⟨Tryz.prog,tyOf tys,26,gOf [(168,[],q21V),(210,[],q37V),(170,[],q26V k)],false,[],[]⟩
def q42p:List PE := [e35,e2]
noncomputable def q42F(k:Nat):F5:=⟨q42C k,rr q42p [(ty_1,true)] Tryz.f225,fun p=>none,0,[]⟩
theorem q42K(k:Nat):Contract Tryz.prog 225 (q42V k):=ctr (q42C k) (rs := [(ty_1,true)]) (ps:=q42p) (q42F k) Tryz.f225 32 ⟨tyOf_ok tys_ok,gOf_ok ⟨q21K,q37K,q26K k,trivial⟩⟩ (annl [] trivial)

noncomputable def q43V:Variant:=⟨[.val ty_1 true],[(ty_1,true)],fun x=>spec_dyMinus x.1⟩
noncomputable def q43C:Cfg:=⟨Tryz.prog,tyOf tys,9,gOf [],false,[],[]⟩
def q43p:List PE := [e35]
noncomputable def q43F:F5:=⟨q43C,rr q43p [(ty_1,true)] Tryz.f182,fun p=>none,0,[]⟩
theorem q43K:Contract Tryz.prog 182 (q43V):=ctr q43C (rs := [(ty_1,true)]) (ps:=q43p) q43F Tryz.f182 16 ⟨tyOf_ok tys_ok,gOf_ok trivial⟩ (annl [] trivial)

noncomputable def q44V(k:Nat):Variant:=⟨[.val ty_1 true,.val ty_0 false],[(ty_1,true)],fun x=>spec_ivUp k x.1 x.2.1⟩
noncomputable def q44C(k:Nat):Cfg:=⟨Tryz.prog,tyOf tys,10,gOf [(182,[],q43V),(225,[],q42V k)],false,[],[]⟩
def q44p:List PE := [e35,e2]
noncomputable def q44F(k:Nat):F5:=⟨q44C k,rr q44p [(ty_1,true)] Tryz.f226,fun p=>none,0,[]⟩
theorem q44K(k:Nat):Contract Tryz.prog 226 (q44V k):=ctr (q44C k) (rs := [(ty_1,true)]) (ps:=q44p) (q44F k) Tryz.f226 32 ⟨tyOf_ok tys_ok,gOf_ok ⟨q43K,q42K k,trivial⟩⟩ (annl [] trivial)

noncomputable def q45V(k:Nat):Variant:=⟨[.val ty_10 true,.val ty_0 false],[(ty_10,true)],fun x=>spec_ivRound k x.1 x.2.1⟩
noncomputable def q45C(k:Nat):Cfg:=⟨Tryz.prog,tyOf tys,14,gOf [(225,[],q42V k),(226,[],q44V k)],false,[],[]⟩
def q45p:List PE := [e45,e2]
noncomputable def q45F(k:Nat):F7:=⟨q45C k,rr q45p [(ty_10,true)] Tryz.f188,fun p=>none,0,[]⟩
theorem q45K(k:Nat):Contract Tryz.prog 188 (q45V k):=ctr (q45C k) (rs := [(ty_10,true)]) (ps:=q45p) (q45F k) Tryz.f188 32 ⟨tyOf_ok tys_ok,gOf_ok ⟨q42K k,q44K k,trivial⟩⟩ (annl [] trivial)

noncomputable def q46V(k:Nat):Variant:=⟨[.val ty_10 true,.val ty_0 false],[(ty_10,true),(.bool,false)],fun x=>spec_ivPower k x.1 x.2.1⟩
noncomputable def q46C(k:Nat):Cfg:=⟨Tryz.prog,tyOf tys,53,gOf [(257,[],q35V k),(258,[],q36V),(107,[],q31V),(140,[],q41V k),(188,[],q45V k)],false,[],[]⟩
def q46p:List PE := [e45,e2]
noncomputable def q46F(k:Nat):F8:=⟨q46C k,rr q46p [(ty_10,true),(.bool,false)] Tryz.f244,fun p=>bif Nat.beq p 126 then some (.cut [e53,⟨10,48,.eat ty_1,false⟩] 64)else none,0,[]⟩
theorem q46K(k:Nat):Contract Tryz.prog 244 (q46V k):=ctr (q46C k) (rs := [(ty_10,true),(.bool,false)]) (ps:=q46p) (q46F k) Tryz.f244 32 ⟨tyOf_ok tys_ok,gOf_ok ⟨q35K k,q36K,q31K,q41K k,q45K k,trivial⟩⟩ (annl [] trivial)

noncomputable def q47V(k:Nat):Variant:=⟨[.val ty_10 true,.val ty_10 true],[(ty_10,true),(.bool,false)],fun x=>spec_ivMul k x.1 x.2.1⟩
noncomputable def q47C(k:Nat):Cfg:=⟨Tryz.prog,tyOf tys,51,gOf [(187,[],q34V k),(140,[],q41V k),(188,[],q45V k)],false,[],[]⟩
def q47i1:List PE := [e47,e54,e55,e56,⟨17,96,.eat ty_1,false⟩,⟨18,112,.val ty_0 false,false⟩,⟨19,128,.val ty_0 false,false⟩,⟨27,144,.eat ty_1,false⟩,⟨28,160,.val ty_0 false,false⟩,⟨29,176,.val ty_0 false,false⟩]
def q47o1:List PE := [e47,e54,e55,⟨17,80,.eat ty_1,false⟩,e57,e58]
noncomputable def q47f1(k:Nat)(n:Nat)(x2:PTe q47i1):=spec_ivMul_L14950 k n x2.1 x2.2.1 x2.2.2.1 x2.2.2.2.1 x2.2.2.2.2.1 x2.2.2.2.2.2.1 x2.2.2.2.2.2.2.1 x2.2.2.2.2.2.2.2.1 x2.2.2.2.2.2.2.2.2.1 x2.2.2.2.2.2.2.2.2.2.1
def q47i2:List PE := [e47,e54,e55,⟨17,80,.eat ty_1,false⟩,e57,e58]
def q47o2:List PE := [e53,e59]
noncomputable def q47f2(k:Nat)(n:Nat)(x5:PTe q47i2):=spec_ivMul_L58 k n x5.1 x5.2.1 x5.2.2.1 x5.2.2.2.1 x5.2.2.2.2.1 x5.2.2.2.2.2.1
def q47p:List PE := [e45,e60]
noncomputable def q47F(k:Nat):F8:=⟨q47C k,rr q47p [(ty_10,true),(.bool,false)] Tryz.f133,fun p=>bif Nat.beq p 14950 then some (.loop q47i1 q47o1 2 192 (q47f1 k k))else bif Nat.beq p 58 then some (.loop q47i2 q47o2 0 128 (q47f2 k k))else none,0,[]⟩
theorem q47K(k:Nat):Contract Tryz.prog 133 (q47V k):=ctr (q47C k) (rs := [(ty_10,true),(.bool,false)]) (ps:=q47p) (q47F k) Tryz.f133 32 ⟨tyOf_ok tys_ok,gOf_ok ⟨q34K k,q41K k,q45K k,trivial⟩⟩ (annl [58,14950] ⟨lok q47i2 q47o2 0 128 (q47f2 k) k,lok q47i1 q47o1 2 192 (q47f1 k) k,trivial⟩)

noncomputable def q48V(k:Nat):Variant:=⟨[.val ty_1 true,.val ty_1 true],[(ty_1,true),(.bool,false)],fun x=>spec_dyAdd k x.1 x.2.1⟩
noncomputable def q48C(k:Nat):Cfg:=⟨Tryz.prog,tyOf tys,42,gOf [(169,[],q18V),(167,[],q39V k),(170,[],q26V k)],false,[],[]⟩
def q48p:List PE := [e35,e42]
noncomputable def q48F(k:Nat):F4:=⟨q48C k,rr q48p [(ty_1,true),(.bool,false)] Tryz.f106,fun p=>none,0,[]⟩
theorem q48K(k:Nat):Contract Tryz.prog 106 (q48V k):=ctr (q48C k) (rs := [(ty_1,true),(.bool,false)]) (ps:=q48p) (q48F k) Tryz.f106 32 ⟨tyOf_ok tys_ok,gOf_ok ⟨q18K,q39K k,q26K k,trivial⟩⟩ (annl [] trivial)

noncomputable def q49V:Variant:=⟨[.val ty_1 true,.val .bool false,.val ty_1 true,.val .bool false],[(ty_10,true),(.bool,false)],fun x=>spec_ivBoth x.1 x.2.1 x.2.2.1 x.2.2.2.1⟩
noncomputable def q49C:Cfg:=⟨Tryz.prog,tyOf tys,20,gOf [],false,[],[]⟩
def q49p:List PE := [e35,e16,e61,⟨3,48,.val .bool false,false⟩]
noncomputable def q49F:F8:=⟨q49C,rr q49p [(ty_10,true),(.bool,false)] Tryz.f189,fun p=>none,0,[]⟩
theorem q49K:Contract Tryz.prog 189 (q49V):=ctr q49C (rs := [(ty_10,true),(.bool,false)]) (ps:=q49p) q49F Tryz.f189 64 ⟨tyOf_ok tys_ok,gOf_ok trivial⟩ (annl [] trivial)

noncomputable def q50V(k:Nat):Variant:=⟨[.val ty_10 true,.val ty_10 true],[(ty_10,true),(.bool,false)],fun x=>spec_ivAdd k x.1 x.2.1⟩
noncomputable def q50C(k:Nat):Cfg:=⟨Tryz.prog,tyOf tys,33,gOf [(106,[],q48V k),(189,[],q49V)],false,[],[]⟩
def q50p:List PE := [e45,e60]
noncomputable def q50F(k:Nat):F8:=⟨q50C k,rr q50p [(ty_10,true),(.bool,false)] Tryz.f134,fun p=>none,0,[]⟩
theorem q50K(k:Nat):Contract Tryz.prog 134 (q50V k):=ctr (q50C k) (rs := [(ty_10,true),(.bool,false)]) (ps:=q50p) (q50F k) Tryz.f134 32 ⟨tyOf_ok tys_ok,gOf_ok ⟨q48K k,q49K,trivial⟩⟩ (annl [] trivial)

noncomputable def q51V(k:Nat):Variant:=⟨[.val ty_4 false,.val ty_12 false],[(ty_10,true),(.bool,false)],fun x=>spec_vaOver k x.1 x.2.1⟩
noncomputable def q51C(k:Nat):Cfg:=⟨Tryz.prog,tyOf tys,71,gOf [(107,[],q31V),(122,[],q32V),(222,[],q17V),(244,[],q46V k),(133,[],q47V k),(134,[],q50V k)],false,[],[]⟩
def q51i1:List PE := [e62,e54,e63,⟨8,80,.box ty_3 false,false⟩,⟨9,96,.box ty_10 false,false⟩,⟨20,112,.val ty_4 false,false⟩,e64,⟨22,144,.val ty_0 false,false⟩,⟨30,160,.val ty_12 false,false⟩,⟨31,176,.val ty_0 false,false⟩,⟨32,192,.val ty_0 false,false⟩]
def q51o1:List PE := [e62,e54,e63,⟨9,80,.box ty_10 false,false⟩,⟨20,96,.val ty_4 false,false⟩,e65,e66]
noncomputable def q51f1(k:Nat)(n:Nat)(x8:PTe q51i1):=spec_vaOver_L59802 k n x8.1 x8.2.1 x8.2.2.1 x8.2.2.2.1 x8.2.2.2.2.1 x8.2.2.2.2.2.1 x8.2.2.2.2.2.2.1 x8.2.2.2.2.2.2.2.1 x8.2.2.2.2.2.2.2.2.1 x8.2.2.2.2.2.2.2.2.2.1 x8.2.2.2.2.2.2.2.2.2.2.1
def q51i2:List PE := [e62,e54,e63,⟨20,80,.val ty_4 false,false⟩,⟨21,96,.val ty_0 false,false⟩,⟨22,112,.val ty_0 false,false⟩]
def q51o2:List PE := [e53,⟨6,48,.box ty_10 false,false⟩]
noncomputable def q51f2(k:Nat)(n:Nat)(x12:PTe q51i2):=spec_vaOver_L58 k n x12.1 x12.2.1 x12.2.2.1 x12.2.2.2.1 x12.2.2.2.2.1 x12.2.2.2.2.2.1
def q51p:List PE := [e1,e67]
noncomputable def q51F(k:Nat):F8:=⟨q51C k,rr q51p [(ty_10,true),(.bool,false)] Tryz.f218,fun p=>bif Nat.beq p 59802 then some (.loop q51i1 q51o1 2 208 (q51f1 k k))else bif Nat.beq p 58 then some (.loop q51i2 q51o2 0 128 (q51f2 k k))else none,0,[]⟩
theorem q51K(k:Nat):Contract Tryz.prog 218 (q51V k):=ctr (q51C k) (rs := [(ty_10,true),(.bool,false)]) (ps:=q51p) (q51F k) Tryz.f218 32 ⟨tyOf_ok tys_ok,gOf_ok ⟨q31K,q32K,q17K,q46K k,q47K k,q50K k,trivial⟩⟩ (annl [58,59802] ⟨lok q51i2 q51o2 0 128 (q51f2 k) k,lok q51i1 q51o1 2 208 (q51f1 k) k,trivial⟩)

noncomputable def q52V(k:Nat):Variant:=⟨[.val ty_4 false,.val ty_12 false],[(ty_12,false),(.bool,false)],fun x=>spec_vaGradient k x.1 x.2.1⟩
noncomputable def q52C(k:Nat):Cfg:=⟨Tryz.prog,tyOf tys,31,gOf [(219,[],q30V k),(218,[],q51V k)],false,[],[]⟩
def q52i1:List PE := [e12,⟨1,48,.val ty_12 false,false⟩,⟨6,64,.eat ty_10,false⟩,e38,e39]
def q52o1:List PE := [e68]
noncomputable def q52f1(k:Nat)(n:Nat)(x3:PTe q52i1):=spec_vaGradient_L58 k n x3.1 x3.2.1 x3.2.2.1 x3.2.2.2.1 x3.2.2.2.2.1
def q52p:List PE := [e1,e67]
noncomputable def q52F(k:Nat):F9:=⟨q52C k,rr q52p [(ty_12,false),(.bool,false)] Tryz.f174,fun p=>bif Nat.beq p 58 then some (.loop q52i1 q52o1 0 112 (q52f1 k k))else none,0,[]⟩
theorem q52K(k:Nat):Contract Tryz.prog 174 (q52V k):=ctr (q52C k) (rs := [(ty_12,false),(.bool,false)]) (ps:=q52p) (q52F k) Tryz.f174 32 ⟨tyOf_ok tys_ok,gOf_ok ⟨q30K k,q51K k,trivial⟩⟩ (annl [58] ⟨lok q52i1 q52o1 0 112 (q52f1 k) k,trivial⟩)

noncomputable def q53V(k:Nat):Variant:=⟨[.val ty_5 false,.val ty_9 true],[(ty_13,false),(.bool,false)],fun x=>spec_vaJacobian k x.1 x.2.1⟩
noncomputable def q53C(k:Nat):Cfg:=⟨Tryz.prog,tyOf tys,32,gOf [(83,[],q28V k),(174,[],q52V k)],false,[],[]⟩
def q53i1:List PE := [⟨3,32,.box ty_9 false,false⟩,e69,⟨11,64,.val ty_5 false,false⟩,e70,e71]
def q53o1:List PE := [e72]
noncomputable def q53f1(k:Nat)(n:Nat)(x3:PTe q53i1):=spec_vaJacobian_L58 k n x3.1 x3.2.1 x3.2.2.1 x3.2.2.2.1 x3.2.2.2.2.1
def q53p:List PE := [e7,e34]
noncomputable def q53F(k:Nat):F10:=⟨q53C k,rr q53p [(ty_13,false),(.bool,false)] Tryz.f117,fun p=>bif Nat.beq p 58 then some (.loop q53i1 q53o1 0 112 (q53f1 k k))else none,0,[]⟩
theorem q53K(k:Nat):Contract Tryz.prog 117 (q53V k):=ctr (q53C k) (rs := [(ty_13,false),(.bool,false)]) (ps:=q53p) (q53F k) Tryz.f117 32 ⟨tyOf_ok tys_ok,gOf_ok ⟨q28K k,q52K k,trivial⟩⟩ (annl [58] ⟨lok q53i1 q53o1 0 112 (q53f1 k) k,trivial⟩)

noncomputable def q54V(k:Nat):Variant:=⟨[.val ty_1 true,.val ty_1 true],[(ty_1,true),(.bool,false)],fun x=>spec_dyHalf k x.1 x.2.1⟩
noncomputable def q54C(k:Nat):Cfg:=⟨Tryz.prog,tyOf tys,43,gOf [(169,[],q18V),(167,[],q39V k),(170,[],q26V k)],false,[],[]⟩
def q54p:List PE := [e35,e42]
noncomputable def q54F(k:Nat):F4:=⟨q54C k,rr q54p [(ty_1,true),(.bool,false)] Tryz.f175,fun p=>none,0,[]⟩
theorem q54K(k:Nat):Contract Tryz.prog 175 (q54V k):=ctr (q54C k) (rs := [(ty_1,true),(.bool,false)]) (ps:=q54p) (q54F k) Tryz.f175 32 ⟨tyOf_ok tys_ok,gOf_ok ⟨q18K,q39K k,q26K k,trivial⟩⟩ (annl [] trivial)

noncomputable def q55V(k:Nat):Variant:=⟨[.val ty_13 false],[(ty_14,false),(.bool,false)],fun x=>spec_nwMiddle k x.1⟩
noncomputable def q55C(k:Nat):Cfg:=⟨Tryz.prog,tyOf tys,45,gOf [(175,[],q54V k)],false,[],[]⟩
def q55i1:List PE := [e73,⟨7,32,.eat ty_1,false⟩,⟨12,48,.val ty_13 false,false⟩,⟨13,64,.val ty_0 false,false⟩,e51,⟨18,96,.val ty_12 false,false⟩,e58,e74]
def q55o1:List PE := [e73,⟨7,32,.eat ty_1,false⟩,⟨12,48,.val ty_13 false,false⟩,⟨13,64,.val ty_0 false,false⟩,e51]
noncomputable def q55f1(k:Nat)(n:Nat)(x2:PTe q55i1):=spec_nwMiddle_L59802 k n x2.1 x2.2.1 x2.2.2.1 x2.2.2.2.1 x2.2.2.2.2.1 x2.2.2.2.2.2.1 x2.2.2.2.2.2.2.1 x2.2.2.2.2.2.2.2.1
def q55i2:List PE := [e73,⟨12,32,.val ty_13 false,false⟩,⟨13,48,.val ty_0 false,false⟩,e48]
def q55o2:List PE := [e73]
noncomputable def q55f2(k:Nat)(n:Nat)(x5:PTe q55i2):=spec_nwMiddle_L58 k n x5.1 x5.2.1 x5.2.2.1 x5.2.2.2.1
def q55p:List PE := [e75]
noncomputable def q55F(k:Nat):F11:=⟨q55C k,rr q55p [(ty_14,false),(.bool,false)] Tryz.f118,fun p=>bif Nat.beq p 59802 then some (.loop q55i1 q55o1 2 144 (q55f1 k k))else bif Nat.beq p 58 then some (.loop q55i2 q55o2 0 80 (q55f2 k k))else none,0,[]⟩
theorem q55K(k:Nat):Contract Tryz.prog 118 (q55V k):=ctr (q55C k) (rs := [(ty_14,false),(.bool,false)]) (ps:=q55p) (q55F k) Tryz.f118 16 ⟨tyOf_ok tys_ok,gOf_ok ⟨q54K k,trivial⟩⟩ (annl [58,59802] ⟨lok q55i2 q55o2 0 80 (q55f2 k) k,lok q55i1 q55o1 2 144 (q55f1 k) k,trivial⟩)

noncomputable def q56V(k:Nat):Variant:=⟨[.val ty_14 false,.val ty_0 false,.val ty_0 false],[(ty_14,false)],fun x=>spec_mxPart k x.1 x.2.1 x.2.2.1⟩
noncomputable def q56C(k:Nat):Cfg:=⟨Tryz.prog,tyOf tys,35,gOf [],false,[],[]⟩
def q56i1:List PE := [e4,⟨2,64,.val ty_0 false,false⟩,⟨7,80,.eat ty_11,false⟩,⟨10,96,.val ty_14 false,false⟩,⟨11,112,.val ty_0 false,false⟩,⟨12,128,.val ty_0 false,false⟩]
def q56o1:List PE := [⟨7,48,.eat ty_11,false⟩]
noncomputable def q56f1(k:Nat)(n:Nat)(x1:PTe q56i1):=spec_mxPart_L58 k n x1.1 x1.2.1 x1.2.2.1 x1.2.2.2.1 x1.2.2.2.2.1 x1.2.2.2.2.2.1
def q56p:List PE := [e76,e2,e21]
noncomputable def q56F(k:Nat):Fn (List (List (Int×Int))):=⟨q56C k,rr q56p [(ty_14,false)] Tryz.f220,fun p=>bif Nat.beq p 58 then some (.loop q56i1 q56o1 0 144 (q56f1 k k))else none,0,[]⟩
theorem q56K(k:Nat):Contract Tryz.prog 220 (q56V k):=ctr (q56C k) (rs := [(ty_14,false)]) (ps:=q56p) (q56F k) Tryz.f220 48 ⟨tyOf_ok tys_ok,gOf_ok trivial⟩ (annl [58] ⟨lok q56i1 q56o1 0 144 (q56f1 k) k,trivial⟩)

noncomputable def q57V(k:Nat):Variant:=⟨[.val ty_14 false],[(ty_1,true),(.bool,false)],fun x=>spec_mxDet k x.1⟩
noncomputable def q57W(rc:(List (List (Int×Int)))→Option ((Int×Int)×Bool)):Variant:=⟨[.val ty_14 false],[(ty_1,true),(.bool,false)],fun x=>rc x.1⟩
noncomputable def q57C(k:Nat)(rc:(List (List (Int×Int)))→Option ((Int×Int)×Bool)):Cfg:=⟨Tryz.prog,tyOf tys,68,gOf [(220,[],q56V k),(176,[],q57W rc),(187,[],q34V k),(182,[],q43V),(106,[],q48V k)],false,[],[]⟩
def q57i1:List PE := [e77,e40,e78,⟨24,64,.val ty_11 false,false⟩,⟨25,80,.val ty_0 false,false⟩,e79]
def q57o1:List PE := [⟨2,16,.box ty_1 false,false⟩,e43]
noncomputable def q57f1(k:Nat)(rc:(List (List (Int×Int)))→Option ((Int×Int)×Bool))(n:Nat)(x8:PTe q57i1):=spec_mxDet_L122 k rc n x8.1 x8.2.1 x8.2.2.1 x8.2.2.2.1 x8.2.2.2.2.1 x8.2.2.2.2.2.1
def q57p:List PE := [e76]
noncomputable def q57F(k:Nat)(rc:(List (List (Int×Int)))→Option ((Int×Int)×Bool)):F4:=⟨q57C k rc,rr q57p [(ty_1,true),(.bool,false)] Tryz.f176,fun p=>bif Nat.beq p 125342 then some (.cut [e77,e40,e78,⟨9,64,.box ty_1 false,false⟩,⟨10,80,.val .bool false,false⟩,⟨24,96,.val ty_11 false,false⟩,⟨25,112,.val ty_0 false,false⟩,⟨26,128,.val ty_0 false,false⟩] 144)else bif Nat.beq p 122 then some (.loop q57i1 q57o1 0 112 (q57f1 k rc k))else none,0,[]⟩
theorem q57KB(k:Nat)(rc:(List (List (Int×Int)))→Option ((Int×Int)×Bool))(hrc:Contract Tryz.prog 176 (q57W rc)):Contract Tryz.prog 176 (q57W (spec_mxDet_B k rc)):=ctr (q57C k rc) (rs := [(ty_1,true),(.bool,false)]) (ps:=q57p) (q57F k rc) Tryz.f176 16 ⟨tyOf_ok tys_ok,gOf_ok ⟨q56K k,hrc,q34K k,q43K,q48K k,trivial⟩⟩ (annl [122] ⟨lok q57i1 q57o1 0 112 (q57f1 k rc) k,trivial⟩)
theorem q57KR(k:Nat):∀n,Contract Tryz.prog 176 (q57W (spec_mxDet_R k n))
 | 0=>contract_none fun _=>rfl
 | n+1=>q57KB k _ (q57KR k n)
theorem q57K(k:Nat):Contract Tryz.prog 176 (q57V k):=q57KR k k

noncomputable def q58V(k:Nat):Variant:=⟨[.val ty_14 false],[(ty_14,false),(.bool,false)],fun x=>spec_mxAdjoint k x.1⟩
noncomputable def q58C(k:Nat):Cfg:=⟨Tryz.prog,tyOf tys,54,gOf [(107,[],q31V),(220,[],q56V k),(176,[],q57V k),(182,[],q43V)],false,[],[]⟩
def q58i1:List PE := [e77,e80,e25,e55,⟨17,80,.val ty_0 false,false⟩,e57,⟨22,112,.val ty_0 false,false⟩,⟨23,128,.val ty_0 false,false⟩]
def q58o1:List PE := [e77,e80,e59,⟨17,64,.val ty_0 false,false⟩,⟨18,80,.val ty_0 false,false⟩]
noncomputable def q58f1(k:Nat)(n:Nat)(x7:PTe q58i1):=spec_mxAdjoint_L125338 k n x7.1 x7.2.1 x7.2.2.1 x7.2.2.2.1 x7.2.2.2.2.1 x7.2.2.2.2.2.1 x7.2.2.2.2.2.2.1 x7.2.2.2.2.2.2.2.1
def q58i2:List PE := [e77,e80,⟨17,48,.val ty_0 false,false⟩,⟨18,64,.val ty_0 false,false⟩]
def q58o2:List PE := [e73]
noncomputable def q58f2(k:Nat)(n:Nat)(x10:PTe q58i2):=spec_mxAdjoint_L122 k n x10.1 x10.2.1 x10.2.2.1 x10.2.2.2.1
def q58p:List PE := [e76]
noncomputable def q58F(k:Nat):F11:=⟨q58C k,rr q58p [(ty_14,false),(.bool,false)] Tryz.f177,fun p=>bif Nat.beq p 64173262 then some (.cut [e77,e80,e25,e55,e56,⟨17,96,.val ty_0 false,false⟩,⟨18,112,.val ty_0 false,false⟩,e66,⟨23,144,.val ty_0 false,false⟩] 160)else bif Nat.beq p 125338 then some (.loop q58i1 q58o1 2 144 (q58f1 k k))else bif Nat.beq p 122 then some (.loop q58i2 q58o2 0 80 (q58f2 k k))else none,0,[]⟩
theorem q58K(k:Nat):Contract Tryz.prog 177 (q58V k):=ctr (q58C k) (rs := [(ty_14,false),(.bool,false)]) (ps:=q58p) (q58F k) Tryz.f177 16 ⟨tyOf_ok tys_ok,gOf_ok ⟨q31K,q56K k,q57K k,q43K,trivial⟩⟩ (annl [122,125338] ⟨lok q58i2 q58o2 0 80 (q58f2 k) k,lok q58i1 q58o1 2 144 (q58f1 k) k,trivial⟩)

noncomputable def q59V(k:Nat):Variant:=⟨[.val ty_0 false,.val ty_0 false,.val ty_0 false,.val ty_0 false,.val ty_0 false],[(ty_1,true),(.bool,false)],fun x=>spec_dyDigits k x.1 x.2.1 x.2.2.1 x.2.2.2.1 x.2.2.2.2.1⟩
noncomputable def q59C(k:Nat):Cfg:=⟨Tryz.prog,tyOf tys,65,gOf [(164,[],q33V),(168,[],q21V),(170,[],q26V k)],false,[],[]⟩
def q59i1:List PE := [e81,⟨1,96,.val ty_0 false,false⟩,⟨2,112,.val ty_0 false,false⟩,⟨3,128,.val ty_0 false,false⟩,⟨4,144,.val ty_0 false,false⟩,⟨10,160,.box ty_1 false,false⟩,⟨12,176,.val ty_0 false,false⟩,⟨13,192,.val ty_0 false,false⟩]
def q59o1:List PE := [e81,e82,e83,e84,e85]
noncomputable def q59f1(k:Nat)(n:Nat)(x1:PTe q59i1):=spec_dyDigits_L58 k n x1.1 x1.2.1 x1.2.2.1 x1.2.2.2.1 x1.2.2.2.2.1 x1.2.2.2.2.2.1 x1.2.2.2.2.2.2.1 x1.2.2.2.2.2.2.2.1
def q59i2:List PE := [e81,e82,e83,e84,e85]
def q59o2:List PE := [e81,e82,e83,e84,e85]
noncomputable def q59f2(k:Nat)(n:Nat)(x4:PTe q59i2):=spec_dyDigits_L60 k n x4.1 x4.2.1 x4.2.2.1 x4.2.2.2.1 x4.2.2.2.2.1
def q59p:List PE := [e10,e2,e21,⟨3,48,.val ty_0 false,false⟩,⟨4,64,.val ty_0 false,false⟩]
noncomputable def q59F(k:Nat):F4:=⟨q59C k,rr q59p [(ty_1,true),(.bool,false)] Tryz.f221,fun p=>bif Nat.beq p 58 then some (.loop q59i1 q59o1 0 208 (q59f1 k k))else bif Nat.beq p 60 then some (.loop q59i2 q59o2 2 160 (q59f2 k k))else none,0,[]⟩
theorem q59K(k:Nat):Contract Tryz.prog 221 (q59V k):=ctr (q59C k) (rs := [(ty_1,true),(.bool,false)]) (ps:=q59p) (q59F k) Tryz.f221 80 ⟨tyOf_ok tys_ok,gOf_ok ⟨q33K,q21K,q26K k,trivial⟩⟩ (annl [58,60] ⟨lok q59i1 q59o1 0 208 (q59f1 k) k,lok q59i2 q59o2 2 160 (q59f2 k) k,trivial⟩)

noncomputable def q60V(k:Nat):Variant:=⟨[.val ty_1 true,.val ty_1 true,.val ty_0 false],[(ty_1,true),(.bool,false)],fun x=>spec_dyDivide k x.1 x.2.1 x.2.2.1⟩
noncomputable def q60C(k:Nat):Cfg:=⟨Tryz.prog,tyOf tys,59,gOf [(182,[],q43V),(210,[],q37V),(168,[],q21V),(170,[],q26V k),(221,[],q59V k)],false,[],[]⟩
def q60p:List PE := [e35,e42,e21]
noncomputable def q60F(k:Nat):F4:=⟨q60C k,rr q60p [(ty_1,true),(.bool,false)] Tryz.f178,fun p=>bif Nat.beq p 14 then some (.cut [e86,⟨3,64,.box ty_1 false,false⟩,⟨4,80,.box ty_1 false,false⟩,⟨6,96,.box ty_1 false,false⟩] 112)else none,0,[]⟩
theorem q60K(k:Nat):Contract Tryz.prog 178 (q60V k):=ctr (q60C k) (rs := [(ty_1,true),(.bool,false)]) (ps:=q60p) (q60F k) Tryz.f178 48 ⟨tyOf_ok tys_ok,gOf_ok ⟨q43K,q37K,q21K,q26K k,q59K k,trivial⟩⟩ (annl [] trivial)

noncomputable def q61V(k:Nat):Variant:=⟨[.val ty_14 false,.val ty_0 false],[(ty_14,false),(.bool,false)],fun x=>spec_mxInverse k x.1 x.2.1⟩
noncomputable def q61C(k:Nat):Cfg:=⟨Tryz.prog,tyOf tys,71,gOf [(176,[],q57V k),(177,[],q58V k),(178,[],q60V k)],false,[],[]⟩
def q61i1:List PE := [e6,e44,e87,⟨13,80,.eat ty_1,false⟩,⟨39,96,.val ty_14 false,false⟩,⟨40,112,.val ty_0 false,false⟩,⟨41,128,.val ty_0 false,false⟩,⟨45,144,.val ty_11 false,false⟩,⟨46,160,.val ty_0 false,false⟩,⟨47,176,.val ty_0 false,false⟩]
def q61o1:List PE := [e6,e44,e87,⟨13,80,.eat ty_1,false⟩,⟨39,96,.val ty_14 false,false⟩,⟨40,112,.val ty_0 false,false⟩,⟨41,128,.val ty_0 false,false⟩]
noncomputable def q61f1(k:Nat)(n:Nat)(x4:PTe q61i1):=spec_mxInverse_L518554 k n x4.1 x4.2.1 x4.2.2.1 x4.2.2.2.1 x4.2.2.2.2.1 x4.2.2.2.2.2.1 x4.2.2.2.2.2.2.1 x4.2.2.2.2.2.2.2.1 x4.2.2.2.2.2.2.2.2.1 x4.2.2.2.2.2.2.2.2.2.1
def q61i2:List PE := [e6,e44,e87,⟨39,80,.val ty_14 false,false⟩,⟨40,96,.val ty_0 false,false⟩,⟨41,112,.val ty_0 false,false⟩]
def q61o2:List PE := [⟨10,32,.eat ty_11,false⟩]
noncomputable def q61f2(k:Nat)(n:Nat)(x7:PTe q61i2):=spec_mxInverse_L506 k n x7.1 x7.2.1 x7.2.2.1 x7.2.2.2.1 x7.2.2.2.2.1 x7.2.2.2.2.2.1
def q61p:List PE := [e76,e2]
noncomputable def q61F(k:Nat):F11:=⟨q61C k,rr q61p [(ty_14,false),(.bool,false)] Tryz.f119,fun p=>bif Nat.beq p 518554 then some (.loop q61i1 q61o1 2 192 (q61f1 k k))else bif Nat.beq p 506 then some (.loop q61i2 q61o2 0 128 (q61f2 k k))else none,0,[]⟩
theorem q61K(k:Nat):Contract Tryz.prog 119 (q61V k):=ctr (q61C k) (rs := [(ty_14,false),(.bool,false)]) (ps:=q61p) (q61F k) Tryz.f119 32 ⟨tyOf_ok tys_ok,gOf_ok ⟨q57K k,q58K k,q60K k,trivial⟩⟩ (annl [506,518554] ⟨lok q61i2 q61o2 0 128 (q61f2 k) k,lok q61i1 q61o1 2 192 (q61f1 k) k,trivial⟩)

noncomputable def q62V(k:Nat):Variant:=⟨[.val ty_5 false,.val ty_9 true],[(ty_13,false),(ty_14,false),(.bool,false)],fun x=>spec_nwInverse k x.1 x.2.1⟩
noncomputable def q62C(k:Nat):Cfg:=⟨Tryz.prog,tyOf tys,36,gOf [(117,[],q53V k),(118,[],q55V k),(119,[],q61V k)],false,[],[]⟩
def q62p:List PE := [e7,e34]
noncomputable def q62F(k:Nat):Fn ((List (List ((Int×Int)×Int×Int)))×(List (List (Int×Int)))×Bool):=⟨q62C k,rr q62p [(ty_13,false),(ty_14,false),(.bool,false)] Tryz.f74,fun p=>none,0,[]⟩
theorem q62K(k:Nat):Contract Tryz.prog 74 (q62V k):=ctr (q62C k) (rs := [(ty_13,false),(ty_14,false),(.bool,false)]) (ps:=q62p) (q62F k) Tryz.f74 32 ⟨tyOf_ok tys_ok,gOf_ok ⟨q53K k,q55K k,q61K k,trivial⟩⟩ (annl [] trivial)

noncomputable def q63V(k:Nat):Variant:=⟨[.val ty_9 true],[(ty_11,false)],fun x=>spec_bxMiddle k x.1⟩
noncomputable def q63C(k:Nat):Cfg:=⟨Tryz.prog,tyOf tys,30,gOf [(139,[],q27V k)],false,[],[]⟩
def q63i1:List PE := [e31,⟨3,32,.eat ty_1,false⟩,⟨7,48,.val ty_7 false,false⟩,e30,e26]
def q63o1:List PE := [⟨3,16,.eat ty_1,false⟩]
noncomputable def q63f1(k:Nat)(n:Nat)(x2:PTe q63i1):=spec_bxMiddle_L58 k n x2.1 x2.2.1 x2.2.2.1 x2.2.2.2.1 x2.2.2.2.2.1
def q63p:List PE := [e9]
noncomputable def q63F(k:Nat):F12:=⟨q63C k,rr q63p [(ty_11,false)] Tryz.f123,fun p=>bif Nat.beq p 58 then some (.loop q63i1 q63o1 0 96 (q63f1 k k))else none,0,[]⟩
theorem q63K(k:Nat):Contract Tryz.prog 123 (q63V k):=ctr (q63C k) (rs := [(ty_11,false)]) (ps:=q63p) (q63F k) Tryz.f123 16 ⟨tyOf_ok tys_ok,gOf_ok ⟨q27K k,trivial⟩⟩ (annl [58] ⟨lok q63i1 q63o1 0 96 (q63f1 k) k,trivial⟩)

noncomputable def q64V(k:Nat):Variant:=⟨[.val ty_4 false,.val ty_11 false],[(ty_0,false),(ty_0,false)],fun x=>spec_vaSum k x.1 x.2.1⟩
noncomputable def q64C(k:Nat):Cfg:=⟨Tryz.prog,tyOf tys,85,gOf [(169,[],q18V),(167,[],q39V k),(222,[],q17V),(168,[],q21V)],false,[],[]⟩
def q64i1:List PE := [e12,e88,e14,⟨19,80,.val ty_11 false,false⟩,e89,e65]
def q64o1:List PE := [e12,e88,e14]
noncomputable def q64f1(k:Nat)(n:Nat)(x2:PTe q64i1):=spec_vaSum_L58 k n x2.1 x2.2.1 x2.2.2.1 x2.2.2.2.1 x2.2.2.2.2.1 x2.2.2.2.2.2.1
def q64i2:List PE := [e90,e24,e91,e92,e39,⟨15,112,.val ty_0 false,false⟩,e93,⟨30,144,.val ty_4 false,false⟩,⟨31,160,.val ty_0 false,false⟩,⟨32,176,.val ty_0 false,false⟩,⟨38,192,.val ty_11 false,false⟩,⟨39,208,.val ty_0 false,false⟩,⟨40,224,.val ty_0 false,false⟩]
def q64o2:List PE := [e90,e24,e91,e92,e39,e94,e95,e96,⟨38,160,.val ty_11 false,false⟩,⟨39,176,.val ty_0 false,false⟩,⟨40,192,.val ty_0 false,false⟩]
noncomputable def q64f2(k:Nat)(n:Nat)(x7:PTe q64i2):=spec_vaSum_L131282126 k n x7.1 x7.2.1 x7.2.2.1 x7.2.2.2.1 x7.2.2.2.2.1 x7.2.2.2.2.2.1 x7.2.2.2.2.2.2.1 x7.2.2.2.2.2.2.2.1 x7.2.2.2.2.2.2.2.2.1 x7.2.2.2.2.2.2.2.2.2.1 x7.2.2.2.2.2.2.2.2.2.2.1 x7.2.2.2.2.2.2.2.2.2.2.2.1 x7.2.2.2.2.2.2.2.2.2.2.2.2.1
def q64i3:List PE := [e90,e24,e91,e92,e39,e94,e95,e96,⟨38,160,.val ty_11 false,false⟩,⟨39,176,.val ty_0 false,false⟩,⟨40,192,.val ty_0 false,false⟩]
def q64o3:List PE := [e90,e24,e91,e92,e39,e94,e95,e96]
noncomputable def q64f3(k:Nat)(n:Nat)(x10:PTe q64i3):=spec_vaSum_L256410 k n x10.1 x10.2.1 x10.2.2.1 x10.2.2.2.1 x10.2.2.2.2.1 x10.2.2.2.2.2.1 x10.2.2.2.2.2.2.1 x10.2.2.2.2.2.2.2.1 x10.2.2.2.2.2.2.2.2.1 x10.2.2.2.2.2.2.2.2.2.1 x10.2.2.2.2.2.2.2.2.2.2.1
def q64i4:List PE := [e90,e24,e91,e70,e57,e94,e95,e96]
def q64o4:List PE := [e90,e24,e91,e70,⟨30,96,.val ty_4 false,false⟩,⟨31,112,.val ty_0 false,false⟩,⟨32,128,.val ty_0 false,false⟩]
noncomputable def q64f4(k:Nat)(n:Nat)(x14:PTe q64i4):=spec_vaSum_L512826 k n x14.1 x14.2.1 x14.2.2.1 x14.2.2.2.1 x14.2.2.2.2.1 x14.2.2.2.2.2.1 x14.2.2.2.2.2.2.1 x14.2.2.2.2.2.2.2.1
def q64i5:List PE := [e90,e24,e91,⟨30,80,.val ty_4 false,false⟩,⟨31,96,.val ty_0 false,false⟩,⟨32,112,.val ty_0 false,false⟩]
def q64o5:List PE := [⟨6,32,.val ty_0 false,false⟩,e97]
noncomputable def q64f5(k:Nat)(n:Nat)(x17:PTe q64i5):=spec_vaSum_L250 k n x17.1 x17.2.1 x17.2.2.1 x17.2.2.2.1 x17.2.2.2.2.1 x17.2.2.2.2.2.1
def q64p:List PE := [e1,e98]
noncomputable def q64F(k:Nat):F5:=⟨q64C k,rr q64p [(ty_0,false),(ty_0,false)] Tryz.f180,fun p=>bif Nat.beq p 58 then some (.loop q64i1 q64o1 0 128 (q64f1 k k))else bif Nat.beq p 131282126 then some (.loop q64i2 q64o2 6 240 (q64f2 k k))else bif Nat.beq p 256410 then some (.loop q64i3 q64o3 4 208 (q64f3 k k))else bif Nat.beq p 512826 then some (.loop q64i4 q64o4 8 160 (q64f4 k k))else bif Nat.beq p 250 then some (.loop q64i5 q64o5 2 128 (q64f5 k k))else none,0,[]⟩
theorem q64K(k:Nat):Contract Tryz.prog 180 (q64V k):=ctr (q64C k) (rs := [(ty_0,false),(ty_0,false)]) (ps:=q64p) (q64F k) Tryz.f180 32 ⟨tyOf_ok tys_ok,gOf_ok ⟨q18K,q39K k,q17K,q21K,trivial⟩⟩ (annl [58,250,256410,131282126,512826] ⟨lok q64i1 q64o1 0 128 (q64f1 k) k,lok q64i5 q64o5 2 128 (q64f5 k) k,lok q64i3 q64o3 4 208 (q64f3 k) k,lok q64i2 q64o2 6 240 (q64f2 k) k,lok q64i4 q64o4 8 160 (q64f4 k) k,trivial⟩)

noncomputable def q65V(k:Nat):Variant:=⟨[.val ty_4 false,.val ty_11 false],[(ty_1,true),(.bool,false)],fun x=>spec_vaAt k x.1 x.2.1⟩
noncomputable def q65C(k:Nat):Cfg:=⟨Tryz.prog,tyOf tys,19,gOf [(180,[],q64V k),(170,[],q26V k)],false,[],[]⟩
def q65p:List PE := [e1,e98]
noncomputable def q65F(k:Nat):F4:=⟨q65C k,rr q65p [(ty_1,true),(.bool,false)] Tryz.f124,fun p=>none,0,[]⟩
theorem q65K(k:Nat):Contract Tryz.prog 124 (q65V k):=ctr (q65C k) (rs := [(ty_1,true),(.bool,false)]) (ps:=q65p) (q65F k) Tryz.f124 32 ⟨tyOf_ok tys_ok,gOf_ok ⟨q64K k,q26K k,trivial⟩⟩ (annl [] trivial)

noncomputable def q66V(k:Nat):Variant:=⟨[.val ty_11 false,.val ty_11 false],[(ty_1,true),(.bool,false)],fun x=>spec_mxSum k x.1 x.2.1⟩
noncomputable def q66C(k:Nat):Cfg:=⟨Tryz.prog,tyOf tys,46,gOf [(187,[],q34V k),(106,[],q48V k)],false,[],[]⟩
def q66i1:List PE := [e90,e78,⟨6,64,.box ty_1 false,false⟩,⟨14,80,.val ty_11 false,false⟩,e52,⟨16,112,.val ty_0 false,false⟩]
def q66o1:List PE := [e43,e44]
noncomputable def q66f1(k:Nat)(n:Nat)(x3:PTe q66i1):=spec_mxSum_L58 k n x3.1 x3.2.1 x3.2.2.1 x3.2.2.2.1 x3.2.2.2.2.1 x3.2.2.2.2.2.1
def q66p:List PE := [⟨0,0,.val ty_11 false,false⟩,e98]
noncomputable def q66F(k:Nat):F4:=⟨q66C k,rr q66p [(ty_1,true),(.bool,false)] Tryz.f181,fun p=>bif Nat.beq p 58 then some (.loop q66i1 q66o1 0 128 (q66f1 k k))else none,0,[]⟩
theorem q66K(k:Nat):Contract Tryz.prog 181 (q66V k):=ctr (q66C k) (rs := [(ty_1,true),(.bool,false)]) (ps:=q66p) (q66F k) Tryz.f181 32 ⟨tyOf_ok tys_ok,gOf_ok ⟨q34K k,q48K k,trivial⟩⟩ (annl [58] ⟨lok q66i1 q66o1 0 128 (q66f1 k) k,trivial⟩)

noncomputable def q67V(k:Nat):Variant:=⟨[.val ty_14 false,.val ty_11 false],[(ty_11,false),(.bool,false)],fun x=>spec_mxTimes k x.1 x.2.1⟩
noncomputable def q67C(k:Nat):Cfg:=⟨Tryz.prog,tyOf tys,31,gOf [(181,[],q66V k)],false,[],[]⟩
def q67i1:List PE := [e90,e59,⟨11,64,.val ty_14 false,false⟩,e70,e71]
def q67o1:List PE := [e99]
noncomputable def q67f1(k:Nat)(n:Nat)(x2:PTe q67i1):=spec_mxTimes_L58 k n x2.1 x2.2.1 x2.2.2.1 x2.2.2.2.1 x2.2.2.2.2.1
def q67p:List PE := [e76,e98]
noncomputable def q67F(k:Nat):F13:=⟨q67C k,rr q67p [(ty_11,false),(.bool,false)] Tryz.f125,fun p=>bif Nat.beq p 58 then some (.loop q67i1 q67o1 0 112 (q67f1 k k))else none,0,[]⟩
theorem q67K(k:Nat):Contract Tryz.prog 125 (q67V k):=ctr (q67C k) (rs := [(ty_11,false),(.bool,false)]) (ps:=q67p) (q67F k) Tryz.f125 32 ⟨tyOf_ok tys_ok,gOf_ok ⟨q66K k,trivial⟩⟩ (annl [58] ⟨lok q67i1 q67o1 0 112 (q67f1 k) k,trivial⟩)

noncomputable def q68V(k:Nat):Variant:=⟨[.val ty_1 true,.val ty_1 true],[(ty_1,true),(.bool,false)],fun x=>spec_dySub k x.1 x.2.1⟩
noncomputable def q68C(k:Nat):Cfg:=⟨Tryz.prog,tyOf tys,12,gOf [(182,[],q43V),(106,[],q48V k)],false,[],[]⟩
def q68p:List PE := [e35,e42]
noncomputable def q68F(k:Nat):F4:=⟨q68C k,rr q68p [(ty_1,true),(.bool,false)] Tryz.f126,fun p=>none,0,[]⟩
theorem q68K(k:Nat):Contract Tryz.prog 126 (q68V k):=ctr (q68C k) (rs := [(ty_1,true),(.bool,false)]) (ps:=q68p) (q68F k) Tryz.f126 32 ⟨tyOf_ok tys_ok,gOf_ok ⟨q43K,q48K k,trivial⟩⟩ (annl [] trivial)

noncomputable def q69V(k:Nat):Variant:=⟨[.val ty_5 false,.val ty_9 true,.val ty_14 false],[(ty_11,false),(.bool,false)],fun x=>spec_nwPoint k x.1 x.2.1 x.2.2.1⟩
noncomputable def q69C(k:Nat):Cfg:=⟨Tryz.prog,tyOf tys,74,gOf [(123,[],q63V k),(124,[],q65V k),(125,[],q67V k),(126,[],q68V k)],false,[],[]⟩
def q69i1:List PE := [⟨2,48,.val ty_14 false,false⟩,⟨8,64,.eat ty_1,false⟩,⟨9,80,.eat ty_1,false⟩,⟨23,96,.val ty_5 false,false⟩,⟨24,112,.val ty_0 false,false⟩,⟨25,128,.val ty_0 false,false⟩]
def q69o1:List PE := [⟨2,48,.val ty_14 false,false⟩,⟨8,64,.eat ty_1,false⟩,⟨9,80,.eat ty_1,false⟩]
noncomputable def q69f1(k:Nat)(n:Nat)(x3:PTe q69i1):=spec_nwPoint_L122 k n x3.1 x3.2.1 x3.2.2.1 x3.2.2.2.1 x3.2.2.2.2.1 x3.2.2.2.2.2.1
def q69i2:List PE := [⟨14,48,.eat ty_1,false⟩,⟨16,64,.eat ty_1,false⟩,⟨50,80,.eat ty_1,false⟩,⟨51,96,.val ty_0 false,false⟩,⟨52,112,.val ty_0 false,false⟩]
def q69o2:List PE := [⟨16,48,.eat ty_1,false⟩]
noncomputable def q69f2(k:Nat)(n:Nat)(x8:PTe q69i2):=spec_nwPoint_L2042 k n x8.1 x8.2.1 x8.2.2.1 x8.2.2.2.1 x8.2.2.2.2.1
def q69p:List PE := [e7,e34,⟨2,32,.val ty_14 false,false⟩]
noncomputable def q69F(k:Nat):F13:=⟨q69C k,rr q69p [(ty_11,false),(.bool,false)] Tryz.f76,fun p=>bif Nat.beq p 122 then some (.loop q69i1 q69o1 0 144 (q69f1 k k))else bif Nat.beq p 2042 then some (.loop q69i2 q69o2 2 128 (q69f2 k k))else none,0,[]⟩
theorem q69K(k:Nat):Contract Tryz.prog 76 (q69V k):=ctr (q69C k) (rs := [(ty_11,false),(.bool,false)]) (ps:=q69p) (q69F k) Tryz.f76 48 ⟨tyOf_ok tys_ok,gOf_ok ⟨q63K k,q65K k,q67K k,q68K k,trivial⟩⟩ (annl [122,2042] ⟨lok q69i1 q69o1 0 144 (q69f1 k) k,lok q69i2 q69o2 2 128 (q69f2 k) k,trivial⟩)

noncomputable def q70V(k:Nat):Variant:=⟨[.val ty_14 false,.val ty_13 false],[(ty_13,false),(.bool,false)],fun x=>spec_mxTimesIn k x.1 x.2.1⟩
noncomputable def q70C(k:Nat):Cfg:=⟨Tryz.prog,tyOf tys,74,gOf [(133,[],q47V k),(134,[],q50V k)],false,[],[]⟩
def q70i1:List PE := [e100,e69,e101,e102,⟨10,96,.val ty_0 false,false⟩,⟨11,112,.box ty_10 false,false⟩,⟨18,128,.val ty_14 false,false⟩,⟨19,144,.val ty_0 false,false⟩,⟨20,160,.val ty_0 false,false⟩,⟨25,176,.val ty_0 false,false⟩,⟨26,192,.val ty_0 false,false⟩,⟨30,208,.val ty_11 false,false⟩,⟨31,224,.val ty_0 false,false⟩,⟨32,240,.val ty_0 false,false⟩]
def q70o1:List PE := [e100,e69,e101,e102,⟨11,96,.box ty_10 false,false⟩,⟨18,112,.val ty_14 false,false⟩,⟨19,128,.val ty_0 false,false⟩,⟨20,144,.val ty_0 false,false⟩,⟨25,160,.val ty_0 false,false⟩,⟨26,176,.val ty_0 false,false⟩]
noncomputable def q70f1(k:Nat)(n:Nat)(x3:PTe q70i1):=spec_mxTimesIn_L61237658 k n x3.1 x3.2.1 x3.2.2.1 x3.2.2.2.1 x3.2.2.2.2.1 x3.2.2.2.2.2.1 x3.2.2.2.2.2.2.1 x3.2.2.2.2.2.2.2.1 x3.2.2.2.2.2.2.2.2.1 x3.2.2.2.2.2.2.2.2.2.1 x3.2.2.2.2.2.2.2.2.2.2.1 x3.2.2.2.2.2.2.2.2.2.2.2.1 x3.2.2.2.2.2.2.2.2.2.2.2.2.1 x3.2.2.2.2.2.2.2.2.2.2.2.2.2.1
def q70i2:List PE := [e100,e69,e101,e102,⟨18,96,.val ty_14 false,false⟩,e58,e74,⟨25,144,.val ty_0 false,false⟩,⟨26,160,.val ty_0 false,false⟩]
def q70o2:List PE := [e100,e69,⟨9,64,.eat ty_10,false⟩,⟨18,80,.val ty_14 false,false⟩,⟨19,96,.val ty_0 false,false⟩,e103]
noncomputable def q70f2(k:Nat)(n:Nat)(x6:PTe q70i2):=spec_mxTimesIn_L59802 k n x6.1 x6.2.1 x6.2.2.1 x6.2.2.2.1 x6.2.2.2.2.1 x6.2.2.2.2.2.1 x6.2.2.2.2.2.2.1 x6.2.2.2.2.2.2.2.1 x6.2.2.2.2.2.2.2.2.1
def q70i3:List PE := [e100,e69,⟨18,64,.val ty_14 false,false⟩,⟨19,80,.val ty_0 false,false⟩,e89]
def q70o3:List PE := [e72]
noncomputable def q70f3(k:Nat)(n:Nat)(x9:PTe q70i3):=spec_mxTimesIn_L58 k n x9.1 x9.2.1 x9.2.2.1 x9.2.2.2.1 x9.2.2.2.2.1
def q70p:List PE := [e76,⟨1,16,.val ty_13 false,false⟩]
noncomputable def q70F(k:Nat):F10:=⟨q70C k,rr q70p [(ty_13,false),(.bool,false)] Tryz.f120,fun p=>bif Nat.beq p 61237658 then some (.loop q70i1 q70o1 4 256 (q70f1 k k))else bif Nat.beq p 59802 then some (.loop q70i2 q70o2 2 176 (q70f2 k k))else bif Nat.beq p 58 then some (.loop q70i3 q70o3 0 112 (q70f3 k k))else none,0,[]⟩
theorem q70K(k:Nat):Contract Tryz.prog 120 (q70V k):=ctr (q70C k) (rs := [(ty_13,false),(.bool,false)]) (ps:=q70p) (q70F k) Tryz.f120 32 ⟨tyOf_ok tys_ok,gOf_ok ⟨q47K k,q50K k,trivial⟩⟩ (annl [58,59802,61237658] ⟨lok q70i3 q70o3 0 112 (q70f3 k) k,lok q70i2 q70o2 2 176 (q70f2 k) k,lok q70i1 q70o1 4 256 (q70f1 k) k,trivial⟩)

noncomputable def q71V:Variant:=⟨[.val ty_10 true],[(ty_10,true)],fun x=>spec_ivMinus x.1⟩
noncomputable def q71C:Cfg:=⟨Tryz.prog,tyOf tys,10,gOf [(182,[],q43V)],false,[],[]⟩
def q71p:List PE := [e45]
noncomputable def q71F:F7:=⟨q71C,rr q71p [(ty_10,true)] Tryz.f179,fun p=>none,0,[]⟩
theorem q71K:Contract Tryz.prog 179 (q71V):=ctr q71C (rs := [(ty_10,true)]) (ps:=q71p) q71F Tryz.f179 16 ⟨tyOf_ok tys_ok,gOf_ok ⟨q43K,trivial⟩⟩ (annl [] trivial)

noncomputable def q72V(k:Nat):Variant:=⟨[.val ty_10 true,.val ty_10 true],[(ty_10,true),(.bool,false)],fun x=>spec_ivSub k x.1 x.2.1⟩
noncomputable def q72C(k:Nat):Cfg:=⟨Tryz.prog,tyOf tys,12,gOf [(179,[],q71V),(134,[],q50V k)],false,[],[]⟩
def q72p:List PE := [e45,e60]
noncomputable def q72F(k:Nat):F8:=⟨q72C k,rr q72p [(ty_10,true),(.bool,false)] Tryz.f121,fun p=>none,0,[]⟩
theorem q72K(k:Nat):Contract Tryz.prog 121 (q72V k):=ctr (q72C k) (rs := [(ty_10,true),(.bool,false)]) (ps:=q72p) (q72F k) Tryz.f121 32 ⟨tyOf_ok tys_ok,gOf_ok ⟨q71K,q50K k,trivial⟩⟩ (annl [] trivial)

noncomputable def q73V(k:Nat):Variant:=⟨[.val ty_13 false,.val ty_14 false],[(ty_13,false),(.bool,false)],fun x=>spec_nwRest k x.1 x.2.1⟩
noncomputable def q73C(k:Nat):Cfg:=⟨Tryz.prog,tyOf tys,63,gOf [(120,[],q70V k),(107,[],q31V),(122,[],q32V),(121,[],q72V k)],false,[],[]⟩
def q73i1:List PE := [e104,e97,⟨11,64,.eat ty_10,false⟩,e105,e79,e106,⟨32,128,.val ty_12 false,false⟩,⟨33,144,.val ty_0 false,false⟩,⟨34,160,.val ty_0 false,false⟩]
def q73o1:List PE := [e104,⟨11,48,.eat ty_10,false⟩,⟨25,64,.val ty_13 false,false⟩,⟨26,80,.val ty_0 false,false⟩,⟨27,96,.val ty_0 false,false⟩]
noncomputable def q73f1(k:Nat)(n:Nat)(x7:PTe q73i1):=spec_nwRest_L256410 k n x7.1 x7.2.1 x7.2.2.1 x7.2.2.2.1 x7.2.2.2.2.1 x7.2.2.2.2.2.1 x7.2.2.2.2.2.2.1 x7.2.2.2.2.2.2.2.1 x7.2.2.2.2.2.2.2.2.1
def q73i2:List PE := [e104,⟨25,48,.val ty_13 false,false⟩,⟨26,64,.val ty_0 false,false⟩,⟨27,80,.val ty_0 false,false⟩]
def q73o2:List PE := [e104]
noncomputable def q73f2(k:Nat)(n:Nat)(x10:PTe q73i2):=spec_nwRest_L250 k n x10.1 x10.2.1 x10.2.2.1 x10.2.2.2.1
def q73p:List PE := [e75,⟨1,16,.val ty_14 false,false⟩]
noncomputable def q73F(k:Nat):F10:=⟨q73C k,rr q73p [(ty_13,false),(.bool,false)] Tryz.f75,fun p=>bif Nat.beq p 65641062 then some (.cut [e104,e97,⟨11,64,.eat ty_10,false⟩,⟨13,80,.box ty_10 false,false⟩,⟨14,96,.val ty_0 false,false⟩,⟨25,112,.val ty_13 false,false⟩,⟨26,128,.val ty_0 false,false⟩,⟨27,144,.val ty_0 false,false⟩,⟨32,160,.val ty_12 false,false⟩,⟨33,176,.val ty_0 false,false⟩,⟨34,192,.val ty_0 false,false⟩] 208)else bif Nat.beq p 256410 then some (.loop q73i1 q73o1 2 176 (q73f1 k k))else bif Nat.beq p 250 then some (.loop q73i2 q73o2 0 96 (q73f2 k k))else none,0,[]⟩
theorem q73K(k:Nat):Contract Tryz.prog 75 (q73V k):=ctr (q73C k) (rs := [(ty_13,false),(.bool,false)]) (ps:=q73p) (q73F k) Tryz.f75 32 ⟨tyOf_ok tys_ok,gOf_ok ⟨q70K k,q31K,q32K,q72K k,trivial⟩⟩ (annl [250,256410] ⟨lok q73i2 q73o2 0 96 (q73f2 k) k,lok q73i1 q73o1 2 176 (q73f1 k) k,trivial⟩)

noncomputable def q74V(k:Nat):Variant:=⟨[.val ty_5 false,.val ty_9 true],[(ty_12,false),(ty_13,false),(.bool,false)],fun x=>spec_nwImage k x.1 x.2.1⟩
noncomputable def q74C(k:Nat):Cfg:=⟨Tryz.prog,tyOf tys,128,gOf [(74,[],q62V k),(76,[],q69V k),(75,[],q73V k),(123,[],q63V k),(107,[],q31V),(122,[],q32V),(83,[],q28V k),(121,[],q72V k),(133,[],q47V k),(134,[],q50V k)],false,[],[]⟩
def q74i1:List PE := [⟨59,48,.same 12,false⟩,⟨17,32,.vw 12,false⟩,⟨3,64,.box ty_9 false,false⟩,e107,⟨12,96,.eat ty_12,false⟩,⟨14,112,.eat ty_1,false⟩,⟨15,128,.eat ty_10,false⟩,⟨16,144,.val ty_0 false,false⟩,⟨18,160,.box ty_10 false,false⟩,⟨60,176,.val ty_0 false,false⟩,⟨61,192,.val ty_0 false,false⟩,⟨69,208,.eat ty_10,false⟩,⟨70,224,.val ty_0 false,false⟩,⟨71,240,.val ty_0 false,false⟩]
def q74o1:List PE := [⟨59,32,.same 12,false⟩,⟨3,48,.box ty_9 false,false⟩,⟨10,64,.eat ty_1,false⟩,⟨12,80,.eat ty_12,false⟩,⟨14,96,.eat ty_1,false⟩,⟨15,112,.eat ty_10,false⟩,⟨16,128,.val ty_0 false,false⟩,⟨18,144,.box ty_10 false,false⟩,⟨60,160,.val ty_0 false,false⟩,⟨61,176,.val ty_0 false,false⟩]
noncomputable def q74f1(k:Nat)(n:Nat)(x12:PTe q74i1):=spec_nwImage_L4188570 k n x12.1 x12.2.1 x12.2.2.1 x12.2.2.2.1 x12.2.2.2.2.1 x12.2.2.2.2.2.1 x12.2.2.2.2.2.2.1 x12.2.2.2.2.2.2.2.1 x12.2.2.2.2.2.2.2.2.1 x12.2.2.2.2.2.2.2.2.2.1 x12.2.2.2.2.2.2.2.2.2.2.1 x12.2.2.2.2.2.2.2.2.2.2.2.1 x12.2.2.2.2.2.2.2.2.2.2.2.2.1 x12.2.2.2.2.2.2.2.2.2.2.2.2.2.1
def q74i2:List PE := [⟨59,32,.same 12,false⟩,⟨3,48,.box ty_9 false,false⟩,⟨10,64,.eat ty_1,false⟩,⟨12,80,.eat ty_12,false⟩,⟨14,96,.eat ty_1,false⟩,⟨15,112,.eat ty_10,false⟩,⟨60,128,.val ty_0 false,false⟩,⟨61,144,.val ty_0 false,false⟩]
def q74o2:List PE := [⟨12,32,.eat ty_12,false⟩,⟨15,48,.eat ty_10,false⟩]
noncomputable def q74f2(k:Nat)(n:Nat)(x17:PTe q74i2):=spec_nwImage_L4090 k n x17.1 x17.2.1 x17.2.2.1 x17.2.2.2.1 x17.2.2.2.2.1 x17.2.2.2.2.2.1 x17.2.2.2.2.2.2.1 x17.2.2.2.2.2.2.2.1
def q74p:List PE := [e7,e34]
noncomputable def q74F(k:Nat):Fn ((List ((Int×Int)×Int×Int))×(List (List ((Int×Int)×Int×Int)))×Bool):=⟨q74C k,rr q74p [(ty_12,false),(ty_13,false),(.bool,false)] Tryz.f80,fun p=>bif Nat.beq p 4188570 then some (.loop q74i1 q74o1 2 256 (q74f1 k k))else bif Nat.beq p 4090 then some (.loop q74i2 q74o2 0 160 (q74f2 k k))else none,0,[]⟩
theorem q74K(k:Nat):Contract Tryz.prog 80 (q74V k):=ctr (q74C k) (rs := [(ty_12,false),(ty_13,false),(.bool,false)]) (ps:=q74p) (q74F k) Tryz.f80 32 ⟨tyOf_ok tys_ok,gOf_ok ⟨q62K k,q69K k,q73K k,q63K k,q31K,q32K,q28K k,q72K k,q47K k,q50K k,trivial⟩⟩ (annl [4090,4188570] ⟨lok q74i2 q74o2 0 160 (q74f2 k) k,lok q74i1 q74o1 2 256 (q74f1 k) k,trivial⟩)

noncomputable def q75V:Variant:=⟨[.val ty_1 true],[(ty_1,true)],fun x=>spec_mxAbs x.1⟩
noncomputable def q75C:Cfg:=⟨Tryz.prog,tyOf tys,9,gOf [(164,[],q33V)],false,[],[]⟩
def q75p:List PE := [e35]
noncomputable def q75F:F5:=⟨q75C,rr q75p [(ty_1,true)] Tryz.f104,fun p=>none,0,[]⟩
theorem q75K:Contract Tryz.prog 104 (q75V):=ctr q75C (rs := [(ty_1,true)]) (ps:=q75p) q75F Tryz.f104 16 ⟨tyOf_ok tys_ok,gOf_ok ⟨q33K,trivial⟩⟩ (annl [] trivial)

noncomputable def q76V(k:Nat):Variant:=⟨[.val ty_13 false],[(.bool,false),(.bool,false)],fun x=>spec_mxShrinking k x.1⟩
noncomputable def q76C(k:Nat):Cfg:=⟨Tryz.prog,tyOf tys,57,gOf [(104,[],q75V),(105,[],q40V k),(106,[],q48V k),(107,[],q31V)],false,[],[]⟩
def q76i1:List PE := [e33,e108,e109,e48,e49,⟨20,96,.val ty_12 false,false⟩,e65,e66]
def q76o1:List PE := [e33,e108,e109,e48,e49]
noncomputable def q76f1(k:Nat)(n:Nat)(x8:PTe q76i1):=spec_mxShrinking_L59802 k n x8.1 x8.2.1 x8.2.2.1 x8.2.2.2.1 x8.2.2.2.2.1 x8.2.2.2.2.2.1 x8.2.2.2.2.2.2.1 x8.2.2.2.2.2.2.2.1
def q76i2:List PE := [e33,⟨13,32,.val ty_13 false,false⟩,⟨14,48,.val ty_0 false,false⟩,⟨15,64,.val ty_0 false,false⟩]
def q76o2:List PE := [e33]
noncomputable def q76f2(k:Nat)(n:Nat)(x13:PTe q76i2):=spec_mxShrinking_L58 k n x13.1 x13.2.1 x13.2.2.1 x13.2.2.2.1
def q76p:List PE := [e75]
noncomputable def q76F(k:Nat):Fn (Bool×Bool):=⟨q76C k,rr q76p [(.bool,false),(.bool,false)] Tryz.f71,fun p=>bif Nat.beq p 15309414 then some (.cut [e33,e108,⟨10,48,.box ty_1 false,false⟩,e110,e51,e52,⟨20,112,.val ty_12 false,false⟩,e64,⟨22,144,.val ty_0 false,false⟩] 160)else bif Nat.beq p 59802 then some (.loop q76i1 q76o1 2 144 (q76f1 k k))else bif Nat.beq p 58 then some (.loop q76i2 q76o2 0 80 (q76f2 k k))else none,0,[]⟩
theorem q76K(k:Nat):Contract Tryz.prog 71 (q76V k):=ctr (q76C k) (rs := [(.bool,false),(.bool,false)]) (ps:=q76p) (q76F k) Tryz.f71 16 ⟨tyOf_ok tys_ok,gOf_ok ⟨q75K,q40K k,q48K k,q31K,trivial⟩⟩ (annl [58,59802] ⟨lok q76i2 q76o2 0 80 (q76f2 k) k,lok q76i1 q76o1 2 144 (q76f1 k) k,trivial⟩)

noncomputable def q77V(k:Nat):Variant:=⟨[.val ty_10 true,.val ty_10 true],[(ty_10,true),(.bool,false)],fun x=>spec_ivCommon k x.1 x.2.1⟩
noncomputable def q77C(k:Nat):Cfg:=⟨Tryz.prog,tyOf tys,30,gOf [(140,[],q41V k),(105,[],q40V k)],false,[],[]⟩
def q77p:List PE := [e45,e60]
noncomputable def q77F(k:Nat):F8:=⟨q77C k,rr q77p [(ty_10,true),(.bool,false)] Tryz.f84,fun p=>none,0,[]⟩
theorem q77K(k:Nat):Contract Tryz.prog 84 (q77V k):=ctr (q77C k) (rs := [(ty_10,true),(.bool,false)]) (ps:=q77p) (q77F k) Tryz.f84 32 ⟨tyOf_ok tys_ok,gOf_ok ⟨q41K k,q40K k,trivial⟩⟩ (annl [] trivial)

noncomputable def q78V(k:Nat):Variant:=⟨[.val ty_10 true,.val ty_10 true],[(.bool,false)],fun x=>spec_ivInside k x.1 x.2.1⟩
noncomputable def q78C(k:Nat):Cfg:=⟨Tryz.prog,tyOf tys,19,gOf [(105,[],q40V k)],false,[],[]⟩
def q78p:List PE := [e45,e60]
noncomputable def q78F(k:Nat):F3:=⟨q78C k,rr q78p [(.bool,false)] Tryz.f132,fun p=>none,0,[]⟩
theorem q78K(k:Nat):Contract Tryz.prog 132 (q78V k):=ctr (q78C k) (rs := [(.bool,false)]) (ps:=q78p) (q78F k) Tryz.f132 32 ⟨tyOf_ok tys_ok,gOf_ok ⟨q40K k,trivial⟩⟩ (annl [] trivial)

noncomputable def q79V(k:Nat):Variant:=⟨[.val ty_5 false,.val ty_9 true],[(ty_0,false),(.bool,false)],fun x=>spec_nwTest k x.1 x.2.1⟩
noncomputable def q79C(k:Nat):Cfg:=⟨Tryz.prog,tyOf tys,65,gOf [(80,[],q74V k),(71,[],q76V k),(83,[],q28V k),(84,[],q77V k),(132,[],q78V k)],false,[],[]⟩
def q79i1:List PE := [e68,⟨9,48,.val .bool false,false⟩,⟨11,64,.val .bool false,false⟩,⟨33,80,.eat ty_10,false⟩,⟨34,96,.val ty_0 false,false⟩,⟨35,112,.val ty_0 false,false⟩]
def q79o1:List PE := [⟨9,32,.val .bool false,false⟩,⟨11,48,.val .bool false,false⟩]
noncomputable def q79f1(k:Nat)(n:Nat)(x6:PTe q79i1):=spec_nwTest_L1018 k n x6.1 x6.2.1 x6.2.2.1 x6.2.2.2.1 x6.2.2.2.2.1 x6.2.2.2.2.2.1
def q79p:List PE := [e7,e34]
noncomputable def q79F(k:Nat):Fn (Int×Bool):=⟨q79C k,rr q79p [(ty_0,false),(.bool,false)] Tryz.f79,fun p=>bif Nat.beq p 1018 then some (.loop q79i1 q79o1 0 128 (q79f1 k k))else none,0,[]⟩
theorem q79K(k:Nat):Contract Tryz.prog 79 (q79V k):=ctr (q79C k) (rs := [(ty_0,false),(.bool,false)]) (ps:=q79p) (q79F k) Tryz.f79 32 ⟨tyOf_ok tys_ok,gOf_ok ⟨q74K k,q76K k,q28K k,q77K k,q78K k,trivial⟩⟩ (annl [1018] ⟨lok q79i1 q79o1 0 128 (q79f1 k) k,trivial⟩)

noncomputable def q80V(k:Nat):Variant:=⟨[.val ty_5 false,.val ty_9 true],[(ty_0,false),(.bool,false)],fun x=>spec_NewtonKind k x.1 x.2.1⟩
noncomputable def q80C(k:Nat):Cfg:=⟨Tryz.prog,tyOf tys,15,gOf [(49,[],q24V k),(79,[],q79V k)],false,[],[]⟩
def q80p:List PE := [e7,e34]
noncomputable def q80F(k:Nat):Fn (Int×Bool):=⟨q80C k,rr q80p [(ty_0,false),(.bool,false)] Tryz.f43,fun p=>none,0,[]⟩
theorem q80K(k:Nat):Contract Tryz.prog 43 (q80V k):=ctr (q80C k) (rs := [(ty_0,false),(.bool,false)]) (ps:=q80p) (q80F k) Tryz.f43 32 ⟨tyOf_ok tys_ok,gOf_ok ⟨q24K k,q79K k,trivial⟩⟩ (annl [] trivial)

noncomputable def q81V(k:Nat):Variant:=⟨[.val ty_5 false,.val ty_9 true],[(ty_12,false),(.bool,false)],fun x=>spec_nwNarrow k x.1 x.2.1⟩
noncomputable def q81C(k:Nat):Cfg:=⟨Tryz.prog,tyOf tys,48,gOf [(80,[],q74V k),(83,[],q28V k),(84,[],q77V k)],false,[],[]⟩
def q81i1:List PE := [e68,⟨9,48,.eat ty_10,false⟩,⟨24,64,.eat ty_10,false⟩,⟨25,80,.val ty_0 false,false⟩,e79]
def q81o1:List PE := [⟨9,32,.eat ty_10,false⟩]
noncomputable def q81f1(k:Nat)(n:Nat)(x4:PTe q81i1):=spec_nwNarrow_L250 k n x4.1 x4.2.1 x4.2.2.1 x4.2.2.2.1 x4.2.2.2.2.1
def q81p:List PE := [e7,e34]
noncomputable def q81F(k:Nat):F9:=⟨q81C k,rr q81p [(ty_12,false),(.bool,false)] Tryz.f50,fun p=>bif Nat.beq p 250 then some (.loop q81i1 q81o1 0 112 (q81f1 k k))else none,0,[]⟩
theorem q81K(k:Nat):Contract Tryz.prog 50 (q81V k):=ctr (q81C k) (rs := [(ty_12,false),(.bool,false)]) (ps:=q81p) (q81F k) Tryz.f50 32 ⟨tyOf_ok tys_ok,gOf_ok ⟨q74K k,q28K k,q77K k,trivial⟩⟩ (annl [250] ⟨lok q81i1 q81o1 0 112 (q81f1 k) k,trivial⟩)

noncomputable def q82V(k:Nat):Variant:=⟨[.val ty_5 false,.val ty_9 true],[(ty_12,false),(.bool,false)],fun x=>spec_ZeroSides k x.1 x.2.1⟩
noncomputable def q82C(k:Nat):Cfg:=⟨Tryz.prog,tyOf tys,25,gOf [(43,[],q80V k),(50,[],q81V k)],false,[],[]⟩
def q82p:List PE := [e7,e34]
noncomputable def q82F(k:Nat):F9:=⟨q82C k,rr q82p [(ty_12,false),(.bool,false)] Tryz.f24,fun p=>none,0,[]⟩
theorem q82K(k:Nat):Contract Tryz.prog 24 (q82V k):=ctr (q82C k) (rs := [(ty_12,false),(.bool,false)]) (ps:=q82p) (q82F k) Tryz.f24 32 ⟨tyOf_ok tys_ok,gOf_ok ⟨q80K k,q81K k,trivial⟩⟩ (annl [] trivial)

noncomputable def q83V:Variant:=⟨[.val ty_0 false,.val ty_0 false,.val ty_0 false],[(.bool,false)],fun x=>impl_inside x.1 x.2.1 x.2.2.1⟩
noncomputable def q83C:Cfg:=⟨Tryz.prog,tyOf tys,15,gOf [],false,[],[]⟩
def q83p:List PE := [e10,e2,e21]
noncomputable def q83F:F3:=⟨q83C,rr q83p [(.bool,false)] Tryz.f96,fun p=>none,0,[]⟩
theorem q83K:Contract Tryz.prog 96 (q83V):=ctr q83C (rs := [(.bool,false)]) (ps:=q83p) q83F Tryz.f96 48 ⟨tyOf_ok tys_ok,gOf_ok trivial⟩ (annl [] trivial)

noncomputable def q84V:Variant:=⟨[.val ty_3 true],[(ty_0,false)],fun x=>impl_Term_degree x.1⟩
noncomputable def q84C:Cfg:=⟨Tryz.prog,tyOf tys,11,gOf [],false,[],[]⟩
def q84p:List PE := [e11]
noncomputable def q84F:F1:=⟨q84C,rr q84p [(ty_0,false)] Tryz.f223,fun p=>none,0,[]⟩
theorem q84K:Contract Tryz.prog 223 (q84V):=ctr q84C (rs := [(ty_0,false)]) (ps:=q84p) q84F Tryz.f223 16 ⟨tyOf_ok tys_ok,gOf_ok trivial⟩ (annl [] trivial)

noncomputable def q85V:Variant:=⟨[.val ty_3 true],[(.bool,false)],fun x=>impl_hasDegree x.1⟩
noncomputable def q85C:Cfg:=⟨Tryz.prog,tyOf tys,21,gOf [(96,[],q83V),(223,[],q84V)],false,[],[]⟩
def q85p:List PE := [e11]
noncomputable def q85F:F3:=⟨q85C,rr q85p [(.bool,false)] Tryz.f206,fun p=>none,0,[]⟩
theorem q85K:Contract Tryz.prog 206 (q85V):=ctr q85C (rs := [(.bool,false)]) (ps:=q85p) q85F Tryz.f206 16 ⟨tyOf_ok tys_ok,gOf_ok ⟨q83K,q84K,trivial⟩⟩ (annl [] trivial)

noncomputable def q86V:Variant:=⟨[.val ty_0 false],[(.bool,false)],fun x=>cmp_isNaN_int x.1⟩
noncomputable def q86C:Cfg:=⟨Tryz.prog,tyOf tys,6,gOf [],false,[],[]⟩
def q86p:List PE := [e10]
noncomputable def q86F:F3:=⟨q86C,rr q86p [(.bool,false)] Tryz.f235,fun p=>none,0,[]⟩
theorem q86K:Contract Tryz.prog 235 (q86V):=ctr q86C (rs := [(.bool,false)]) (ps:=q86p) q86F Tryz.f235 16 ⟨tyOf_ok tys_ok,gOf_ok trivial⟩ (annl [] trivial)

noncomputable def q87V:Variant:=⟨[.val ty_0 false,.val ty_0 false],[(ty_0,false)],fun x=>cmp_Compare_int x.1 x.2.1⟩
noncomputable def q87C:Cfg:=⟨Tryz.prog,tyOf tys,20,gOf [(235,[],q86V)],false,[],[]⟩
def q87p:List PE := [e10,e2]
noncomputable def q87F:F1:=⟨q87C,rr q87p [(ty_0,false)] Tryz.f204,fun p=>none,0,[]⟩
theorem q87K:Contract Tryz.prog 204 (q87V):=ctr q87C (rs := [(ty_0,false)]) (ps:=q87p) q87F Tryz.f204 32 ⟨tyOf_ok tys_ok,gOf_ok ⟨q86K,trivial⟩⟩ (annl [] trivial)

noncomputable def q88V(k:Nat):Variant:=⟨[.val ty_7 false],[(ty_0,false)],fun x=>cmp_Or_int k x.1⟩
noncomputable def q88C(k:Nat):Cfg:=⟨Tryz.prog,tyOf tys,18,gOf [],false,[],[]⟩
def q88i1:List PE := [⟨3,16,.val ty_0 false,false⟩,⟨6,32,.val ty_7 false,false⟩,e29,e30]
def q88o1:List PE := [⟨3,16,.val ty_0 false,false⟩]
noncomputable def q88f1(k:Nat)(n:Nat)(x1:PTe q88i1):=cmp_Or_int_L58 k n x1.1 x1.2.1 x1.2.2.1 x1.2.2.2.1
def q88p:List PE := [e8]
noncomputable def q88F(k:Nat):F1:=⟨q88C k,rr q88p [(ty_0,false)] Tryz.f203,fun p=>bif Nat.beq p 58 then some (.loop q88i1 q88o1 0 80 (q88f1 k k))else none,0,[]⟩
theorem q88K(k:Nat):Contract Tryz.prog 203 (q88V k):=ctr (q88C k) (rs := [(ty_0,false)]) (ps:=q88p) (q88F k) Tryz.f203 16 ⟨tyOf_ok tys_ok,gOf_ok trivial⟩ (annl [58] ⟨lok q88i1 q88o1 0 80 (q88f1 k) k,trivial⟩)

noncomputable def q89V(k:Nat):Variant:=⟨[.val ty_3 true,.val ty_3 true],[(ty_0,false)],fun x=>impl_compareTerms k x.1 x.2.1⟩
noncomputable def q89C(k:Nat):Cfg:=⟨Tryz.prog,tyOf tys,22,gOf [(204,[],q87V),(203,[],q88V k)],false,[],[]⟩
def q89p:List PE := [e11,e22]
noncomputable def q89F(k:Nat):F1:=⟨q89C k,rr q89p [(ty_0,false)] Tryz.f157,fun p=>none,0,[]⟩
theorem q89K(k:Nat):Contract Tryz.prog 157 (q89V k):=ctr (q89C k) (rs := [(ty_0,false)]) (ps:=q89p) (q89F k) Tryz.f157 32 ⟨tyOf_ok tys_ok,gOf_ok ⟨q87K,q88K k,trivial⟩⟩ (annl [] trivial)

noncomputable def q90V(k:Nat):Variant:=⟨[.val ty_4 false],[(.bool,false)],fun x=>impl_isPoly k x.1⟩
noncomputable def q90C(k:Nat):Cfg:=⟨Tryz.prog,tyOf tys,44,gOf [(96,[],q83V),(206,[],q85V),(157,[],q89V k)],false,[],[]⟩
def q90i1:List PE := [e23,⟨5,32,.val ty_4 false,false⟩,e24,e15]
def q90o1:List PE := [e23]
noncomputable def q90f1(k:Nat)(n:Nat)(x4:PTe q90i1):=impl_isPoly_L26 k n x4.1 x4.2.1 x4.2.2.1 x4.2.2.2.1
def q90p:List PE := [e1]
noncomputable def q90F(k:Nat):F3:=⟨q90C k,rr q90p [(.bool,false)] Tryz.f160,fun p=>bif Nat.beq p 26 then some (.loop q90i1 q90o1 0 80 (q90f1 k k))else none,0,[]⟩
theorem q90K(k:Nat):Contract Tryz.prog 160 (q90V k):=ctr (q90C k) (rs := [(.bool,false)]) (ps:=q90p) (q90F k) Tryz.f160 16 ⟨tyOf_ok tys_ok,gOf_ok ⟨q83K,q85K,q89K k,trivial⟩⟩ (annl [26] ⟨lok q90i1 q90o1 0 80 (q90f1 k) k,trivial⟩)

noncomputable def q91V:Variant:=⟨[.val ty_3 true],[(ty_2,true)],fun x=>impl_Term_exponents x.1⟩
noncomputable def q91C:Cfg:=⟨Tryz.prog,tyOf tys,10,gOf [],false,[],[]⟩
def q91p:List PE := [e11]
noncomputable def q91F:Fn (Int×Int×Int):=⟨q91C,rr q91p [(ty_2,true)] Tryz.f207,fun p=>none,0,[]⟩
theorem q91K:Contract Tryz.prog 207 (q91V):=ctr q91C (rs := [(ty_2,true)]) (ps:=q91p) q91F Tryz.f207 16 ⟨tyOf_ok tys_ok,gOf_ok trivial⟩ (annl [] trivial)

noncomputable def q92V(k:Nat):Variant:=⟨[.val ty_4 false,.val ty_0 false],[(.bool,false)],fun x=>impl_needsAtMost k x.1 x.2.1⟩
noncomputable def q92C(k:Nat):Cfg:=⟨Tryz.prog,tyOf tys,30,gOf [(207,[],q91V)],false,[],[]⟩
def q92i1:List PE := [e6,e111,e112,e38,⟨16,96,.val ty_2 true,false⟩,e113]
def q92o1:List PE := [e6,e111,e112,e38]
noncomputable def q92f1(k:Nat)(n:Nat)(x2:PTe q92i1):=impl_needsAtMost_L6758 k n x2.1 x2.2.1 x2.2.2.1 x2.2.2.2.1 x2.2.2.2.2.1 x2.2.2.2.2.2.1
def q92i2:List PE := [e6,e111,e112,e38]
def q92o2:List PE := []
noncomputable def q92f2(k:Nat)(n:Nat)(x5:PTe q92i2):=impl_needsAtMost_L26 k n x5.1 x5.2.1 x5.2.2.1 x5.2.2.2.1
def q92p:List PE := [e1,e2]
noncomputable def q92F(k:Nat):F3:=⟨q92C k,rr q92p [(.bool,false)] Tryz.f161,fun p=>bif Nat.beq p 6758 then some (.loop q92i1 q92o1 2 128 (q92f1 k k))else bif Nat.beq p 26 then some (.loop q92i2 q92o2 0 96 (q92f2 k k))else none,0,[]⟩
theorem q92K(k:Nat):Contract Tryz.prog 161 (q92V k):=ctr (q92C k) (rs := [(.bool,false)]) (ps:=q92p) (q92F k) Tryz.f161 32 ⟨tyOf_ok tys_ok,gOf_ok ⟨q91K,trivial⟩⟩ (annl [26,6758] ⟨lok q92i2 q92o2 0 96 (q92f2 k) k,lok q92i1 q92o1 2 128 (q92f1 k) k,trivial⟩)

noncomputable def q93V(k:Nat):Variant:=⟨[.val ty_5 false],[(.bool,false)],fun x=>impl_isSystem k x.1⟩
noncomputable def q93C(k:Nat):Cfg:=⟨Tryz.prog,tyOf tys,25,gOf [(160,[],q90V k),(161,[],q92V k),(96,[],q83V)],false,[],[]⟩
def q93i1:List PE := [e27,⟨5,32,.val ty_5 false,false⟩,e24,e15]
def q93o1:List PE := [e27]
noncomputable def q93f1(k:Nat)(n:Nat)(x3:PTe q93i1):=impl_isSystem_L26 k n x3.1 x3.2.1 x3.2.2.1 x3.2.2.2.1
def q93p:List PE := [e7]
noncomputable def q93F(k:Nat):F3:=⟨q93C k,rr q93p [(.bool,false)] Tryz.f99,fun p=>bif Nat.beq p 26 then some (.loop q93i1 q93o1 0 80 (q93f1 k k))else none,0,[]⟩
theorem q93K(k:Nat):Contract Tryz.prog 99 (q93V k):=ctr (q93C k) (rs := [(.bool,false)]) (ps:=q93p) (q93F k) Tryz.f99 16 ⟨tyOf_ok tys_ok,gOf_ok ⟨q90K k,q92K k,q83K,trivial⟩⟩ (annl [26] ⟨lok q93i1 q93o1 0 80 (q93f1 k) k,trivial⟩)

noncomputable def q94V(k:Nat):Variant:=⟨[.ptr ty_9 false],[(.bool,false)],fun x=>impl_isBox k x.1⟩
noncomputable def q94C(k:Nat):Cfg:=⟨Tryz.prog,tyOf tys,94,gOf [(96,[],q83V)],false,[],[]⟩
def q94i1:List PE := [e114,e32,⟨4,48,.val .bool false,false⟩,⟨48,64,.val ty_7 false,false⟩,⟨49,80,.val ty_0 false,false⟩,⟨50,96,.val ty_0 false,false⟩]
def q94o1:List PE := [e33]
noncomputable def q94f1(k:Nat)(n:Nat)(x5:PTe q94i1):=impl_isBox_L122 k n x5.1 x5.2.1 x5.2.2.1 x5.2.2.2.1 x5.2.2.2.2.1 x5.2.2.2.2.2.1
def q94p:List PE := [e115]
noncomputable def q94F(k:Nat):F3:=⟨q94C k,rr q94p [(.bool,false)] Tryz.f141,fun p=>bif Nat.beq p 122 then some (.loop q94i1 q94o1 0 112 (q94f1 k k))else none,0,[]⟩
theorem q94K(k:Nat):Contract Tryz.prog 141 (q94V k):=ctr (q94C k) (rs := [(.bool,false)]) (ps:=q94p) (q94F k) Tryz.f141 16 ⟨tyOf_ok tys_ok,gOf_ok ⟨q83K,trivial⟩⟩ (annl [122] ⟨lok q94i1 q94o1 0 112 (q94f1 k) k,trivial⟩)

noncomputable def q95V(k:Nat):Variant:=⟨[.val ty_5 false,.ptr ty_9 false],[(.bool,false)],fun x=>impl_systemOver k x.1 x.2.1⟩
noncomputable def q95C(k:Nat):Cfg:=⟨Tryz.prog,tyOf tys,21,gOf [(99,[],q93V k),(141,[],q94V k)],false,[],[]⟩
def q95p:List PE := [e7,e116]
noncomputable def q95F(k:Nat):F3:=⟨q95C k,rr q95p [(.bool,false)] Tryz.f86,fun p=>none,0,[]⟩
theorem q95K(k:Nat):Contract Tryz.prog 86 (q95V k):=ctr (q95C k) (rs := [(.bool,false)]) (ps:=q95p) (q95F k) Tryz.f86 32 ⟨tyOf_ok tys_ok,gOf_ok ⟨q93K k,q94K k,trivial⟩⟩ (annl [] trivial)

noncomputable def q96V(k:Nat):Variant:=⟨[.val ty_5 false,.ptr ty_9 false],[(.bool,false)],fun x=>impl_newtonFits k x.1 x.2.1⟩
noncomputable def q96C(k:Nat):Cfg:=⟨Tryz.prog,tyOf tys,15,gOf [(86,[],q95V k)],false,[],[]⟩
def q96p:List PE := [e7,e116]
noncomputable def q96F(k:Nat):F3:=⟨q96C k,rr q96p [(.bool,false)] Tryz.f55,fun p=>none,0,[]⟩
theorem q96K(k:Nat):Contract Tryz.prog 55 (q96V k):=ctr (q96C k) (rs := [(.bool,false)]) (ps:=q96p) (q96F k) Tryz.f55 32 ⟨tyOf_ok tys_ok,gOf_ok ⟨q95K k,trivial⟩⟩ (annl [] trivial)

noncomputable def q97V:Variant:=⟨[.val ty_0 false,.val ty_2 true],[(ty_3,true)],fun x=>impl_termOf x.1 x.2.1⟩
noncomputable def q97C:Cfg:=⟨Tryz.prog,tyOf tys,13,gOf [],false,[],[]⟩
def q97p:List PE := [e10,⟨1,16,.val ty_2 true,false⟩]
noncomputable def q97F:F2:=⟨q97C,rr q97p [(ty_3,true)] Tryz.f243,fun p=>none,0,[]⟩
theorem q97K:Contract Tryz.prog 243 (q97V):=ctr q97C (rs := [(ty_3,true)]) (ps:=q97p) q97F Tryz.f243 32 ⟨tyOf_ok tys_ok,gOf_ok trivial⟩ (annl [] trivial)

noncomputable def q98V:Variant:=⟨[.val ty_4 false],[(ty_4,false)],fun x=>slices_Clone_Term_Term x.1⟩
noncomputable def q98C:Cfg:=⟨Tryz.prog,tyOf tys,8,gOf [],false,[],[]⟩
def q98p:List PE := [e1]
noncomputable def q98F:F6:=⟨q98C,rr q98p [(ty_4,false)] Tryz.f155,fun p=>none,0,[]⟩
theorem q98eq(x:PTe q98p):evFnN false (q98F) (codeOf Tryz.f155) q98p 16 x=slices_Clone_Term_Term x.1:=by kernel_rfl
theorem q98e0(x:(Unit)):evFnN true (q98F) (codeOf Tryz.f155) q98p 16 (([]:List (Int×Int×Int×Int)),x)=slices_Clone_Term_Term []:=by kernel_rfl
theorem q98K:Contract Tryz.prog 155 (q98V) :=
 contractN (C:=q98C) (F:=q98F) (fn:=Tryz.f155) (ps:=q98p) (rs := [(ty_4,false)]) (nx:=16) rfl ⟨tyOf_ok tys_ok,gOf_ok trivial⟩ rfl (by kernel_rfl) (by kernel_rfl) (by kernel_rfl) (by kernel_rfl) (by kernel_rfl) (by kernel_rfl) rfl (by kernel_rfl) (by kernel_rfl) (AnnOk_list [] (by kernel_rfl) trivial) mix_ok (q98eq) (fun x h=>by obtain⟨x1,x2⟩:=x;have h:x1 = []:=h;subst h;exact q98e0 x2)

noncomputable def q99V(k:Nat):Variant:=⟨[.own ty_3,.val ty_0 false,.val ty_0 false,.fn 157 []],[],fun x=>slices_insertionSortCmpFunc_Term_impl_compareTerms k x.1 x.2.1 x.2.2.1 x.2.2.2.1⟩
noncomputable def q99C(k:Nat):Cfg:=⟨Tryz.prog,tyOf tys,53,gOf [(157,[],q89V k)],false,[],[]⟩
def q99i1:List PE := [e117,e118,e119,e120,e121,⟨9,128,.val ty_0 false,false⟩]
def q99o1:List PE := [e117,e118,e119,e120,e121]
noncomputable def q99f1(k:Nat)(n:Nat)(x2:PTe q99i1):=slices_insertionSortCmpFunc_Term_impl_compareTerms_L402 k n x2.1 x2.2.1 x2.2.2.1 x2.2.2.2.1 x2.2.2.2.2.1 x2.2.2.2.2.2.1
def q99i2:List PE := [e117,e118,e119,e120,e121]
def q99o2:List PE := [e117]
noncomputable def q99f2(k:Nat)(n:Nat)(x5:PTe q99i2):=slices_insertionSortCmpFunc_Term_impl_compareTerms_L6 k n x5.1 x5.2.1 x5.2.2.1 x5.2.2.2.1 x5.2.2.2.2.1
def q99p:List PE := [e117,e2,e21,⟨3,48,.fn 157 [],false⟩]
noncomputable def q99F(k:Nat):F6:=⟨q99C k,rr q99p [] Tryz.f233,fun p=>bif Nat.beq p 402 then some (.loop q99i1 q99o1 2 144 (q99f1 k k))else bif Nat.beq p 6 then some (.loop q99i2 q99o2 0 128 (q99f2 k k))else none,0,[0]⟩
theorem q99K(k:Nat):Contract Tryz.prog 233 (q99V k):=ctr (q99C k) (rs := []) (ps:=q99p) (q99F k) Tryz.f233 64 ⟨tyOf_ok tys_ok,gOf_ok ⟨q89K k,trivial⟩⟩ (annl [6,402] ⟨lok q99i2 q99o2 0 128 (q99f2 k) k,lok q99i1 q99o1 2 144 (q99f1 k) k,trivial⟩)

noncomputable def q100V(k:Nat):Variant:=⟨[.own ty_3,.val ty_0 false,.fn 157 []],[],fun x=>slices_stableCmpFunc_Term_impl_compareTerms k x.1 x.2.1 x.2.2.1⟩
noncomputable def q100C(k:Nat):Cfg:=⟨Tryz.prog,tyOf tys,63,gOf [(233,[157],q99V k)],false,[],[]⟩
def q100i1:List PE := [e117,e4,e122,e17,e123,e121]
def q100o1:List PE := [e117,e4,e122,e17,e123]
noncomputable def q100f1(k:Nat)(n:Nat)(x2:PTe q100i1):=slices_stableCmpFunc_Term_impl_compareTerms_L28 k n x2.1 x2.2.1 x2.2.2.1 x2.2.2.2.1 x2.2.2.2.2.1 x2.2.2.2.2.2.1
def q100i2:List PE := [e117,e4,e122,e17,e123,e121]
def q100o2:List PE := [e117,e4,e122,e17,e123]
noncomputable def q100f2(k:Nat)(n:Nat)(x6:PTe q100i2):=slices_stableCmpFunc_Term_impl_compareTerms_L3988 k n x6.1 x6.2.1 x6.2.2.1 x6.2.2.2.1 x6.2.2.2.2.1 x6.2.2.2.2.2.1
def q100i3:List PE := [e117,e4,e122,e17]
def q100o3:List PE := [e117]
noncomputable def q100f3(k:Nat)(n:Nat)(x9:PTe q100i3):=slices_stableCmpFunc_Term_impl_compareTerms_L62 k n x9.1 x9.2.1 x9.2.2.1 x9.2.2.2.1
def q100p:List PE := [e117,e2,⟨2,32,.fn 157 [],false⟩]
noncomputable def q100F(k:Nat):F6:=⟨q100C k,rr q100p [] Tryz.f202,fun p=>bif Nat.beq p 28 then some (.loop q100i1 q100o1 0 128 (q100f1 k k))else bif Nat.beq p 3988 then some (.loop q100i2 q100o2 4 128 (q100f2 k k))else bif Nat.beq p 62 then some (.loop q100i3 q100o3 2 96 (q100f3 k k))else none,0,[0]⟩
theorem q100K(k:Nat):Contract Tryz.prog 202 (q100V k):=ctr (q100C k) (rs := []) (ps:=q100p) (q100F k) Tryz.f202 48 ⟨tyOf_ok tys_ok,gOf_ok ⟨q99K k,trivial⟩⟩ (annl [28,62,3988] ⟨lok q100i1 q100o1 0 128 (q100f1 k) k,lok q100i3 q100o3 2 96 (q100f3 k) k,lok q100i2 q100o2 4 128 (q100f2 k) k,trivial⟩)

noncomputable def q101V(k:Nat):Variant:=⟨[.own ty_3,.fn 157 []],[],fun x=>slices_SortStableFunc_Term_Term_impl_compareTerms k x.1 x.2.1⟩
noncomputable def q101C(k:Nat):Cfg:=⟨Tryz.prog,tyOf tys,9,gOf [(202,[157],q100V k)],false,[],[]⟩
def q101p:List PE := [e117,⟨1,16,.fn 157 [],false⟩]
noncomputable def q101F(k:Nat):F6:=⟨q101C k,rr q101p [] Tryz.f156,fun p=>none,0,[0]⟩
theorem q101K(k:Nat):Contract Tryz.prog 156 (q101V k):=ctr (q101C k) (rs := []) (ps:=q101p) (q101F k) Tryz.f156 32 ⟨tyOf_ok tys_ok,gOf_ok ⟨q100K k,trivial⟩⟩ (annl [] trivial)

noncomputable def q102V:Variant:=⟨[.val ty_3 true],[(.bool,false)],fun x=>impl_collect_1 x.1⟩
noncomputable def q102C:Cfg:=⟨Tryz.prog,tyOf tys,6,gOf [],false,[],[]⟩
def q102p:List PE := [e11]
noncomputable def q102F:F3:=⟨q102C,rr q102p [(.bool,false)] Tryz.f159,fun p=>none,0,[]⟩
theorem q102K:Contract Tryz.prog 159 (q102V):=ctr q102C (rs := [(.bool,false)]) (ps:=q102p) q102F Tryz.f159 16 ⟨tyOf_ok tys_ok,gOf_ok trivial⟩ (annl [] trivial)

noncomputable def q103V(k:Nat):Variant:=⟨[.val ty_4 false,.fn 159 []],[(ty_0,false)],fun x=>slices_IndexFunc_Term_Term_impl_collect_1 k x.1 x.2.1⟩
noncomputable def q103C(k:Nat):Cfg:=⟨Tryz.prog,tyOf tys,19,gOf [(159,[],q102V)],false,[],[]⟩
def q103i1:List PE := [e12,⟨1,48,.fn 159 [],false⟩,e15,⟨8,80,.val ty_0 false,false⟩]
def q103o1:List PE := []
noncomputable def q103f1(k:Nat)(n:Nat)(x2:PTe q103i1):=slices_IndexFunc_Term_Term_impl_collect_1_L26 k n x2.1 x2.2.1 x2.2.2.1 x2.2.2.2.1
def q103p:List PE := [e1,⟨1,16,.fn 159 [],false⟩]
noncomputable def q103F(k:Nat):F1:=⟨q103C k,rr q103p [(ty_0,false)] Tryz.f205,fun p=>bif Nat.beq p 26 then some (.loop q103i1 q103o1 0 96 (q103f1 k k))else none,0,[]⟩
theorem q103K(k:Nat):Contract Tryz.prog 205 (q103V k):=ctr (q103C k) (rs := [(ty_0,false)]) (ps:=q103p) (q103F k) Tryz.f205 32 ⟨tyOf_ok tys_ok,gOf_ok ⟨q102K,trivial⟩⟩ (annl [26] ⟨lok q103i1 q103o1 0 96 (q103f1 k) k,trivial⟩)

noncomputable def q104V(k:Nat):Variant:=⟨[.eat ty_3,.fn 159 []],[(ty_4,false)],fun x=>slices_DeleteFunc_Term_Term_impl_collect_1 k x.1 x.2.1⟩
noncomputable def q104C(k:Nat):Cfg:=⟨Tryz.prog,tyOf tys,42,gOf [(205,[159],q103V k),(159,[],q102V)],true,[],[]⟩
def q104i1:List PE := [⟨0,32,.eat ty_3,false⟩,⟨1,48,.fn 159 [],false⟩,e5,e17]
def q104o1:List PE := [⟨0,32,.eat ty_3,false⟩,e25]
noncomputable def q104f1(k:Nat)(n:Nat)(x3:PTe q104i1):=slices_DeleteFunc_Term_Term_impl_collect_1_L122 k n x3.1 x3.2.1 x3.2.2.1 x3.2.2.2.1
def q104p:List PE := [⟨0,0,.eat ty_3,false⟩,⟨1,16,.fn 159 [],false⟩]
noncomputable def q104F(k:Nat):F6:=⟨q104C k,rr q104p [(ty_4,false)] Tryz.f158,fun p=>bif Nat.beq p 122 then some (.loop q104i1 q104o1 0 96 (q104f1 k k))else none,0,[]⟩
theorem q104K(k:Nat):Contract Tryz.prog 158 (q104V k):=ctr (q104C k) (rs := [(ty_4,false)]) (ps:=q104p) (q104F k) Tryz.f158 32 ⟨tyOf_ok tys_ok,gOf_ok ⟨q103K k,q102K,trivial⟩⟩ (annl [122] ⟨lok q104i1 q104o1 0 96 (q104f1 k) k,trivial⟩)

noncomputable def q105V(k:Nat):Variant:=⟨[.val ty_4 false],[(ty_4,false)],fun x=>impl_collect k x.1⟩
noncomputable def q105C(k:Nat):Cfg:=⟨Tryz.prog,tyOf tys,50,gOf [(155,[],q98V),(156,[157],q101V k),(157,[],q89V k),(158,[159],q104V k)],false,[],[]⟩
def q105i1:List PE := [⟨4,16,.eat ty_3,false⟩,⟨12,32,.eat ty_3,false⟩,⟨13,48,.val ty_0 false,false⟩,e48]
def q105o1:List PE := [⟨4,16,.eat ty_3,false⟩]
noncomputable def q105f1(k:Nat)(n:Nat)(x4:PTe q105i1):=impl_collect_L250 k n x4.1 x4.2.1 x4.2.2.1 x4.2.2.2.1
def q105p:List PE := [e1]
noncomputable def q105F(k:Nat):F6:=⟨q105C k,rr q105p [(ty_4,false)] Tryz.f98,fun p=>bif Nat.beq p 250 then some (.loop q105i1 q105o1 0 80 (q105f1 k k))else none,0,[]⟩
theorem q105K(k:Nat):Contract Tryz.prog 98 (q105V k):=ctr (q105C k) (rs := [(ty_4,false)]) (ps:=q105p) (q105F k) Tryz.f98 16 ⟨tyOf_ok tys_ok,gOf_ok ⟨q98K,q101K k,q89K k,q104K k,trivial⟩⟩ (annl [250] ⟨lok q105i1 q105o1 0 80 (q105f1 k) k,trivial⟩)

noncomputable def q106V(k:Nat):Variant:=⟨[.val ty_4 false,.val ty_0 false],[(ty_4,false)],fun x=>impl_derive k x.1 x.2.1⟩
noncomputable def q106C(k:Nat):Cfg:=⟨Tryz.prog,tyOf tys,40,gOf [(207,[],q91V),(243,[],q97V),(98,[],q105V k)],false,[],[]⟩
def q106i1:List PE := [e6,e13,⟨10,64,.val ty_4 false,false⟩,e38,e39]
def q106o1:List PE := [⟨5,32,.eat ty_3,false⟩]
noncomputable def q106f1(k:Nat)(n:Nat)(x29:PTe q106i1):=impl_derive_L58 k n x29.1 x29.2.1 x29.2.2.1 x29.2.2.2.1 x29.2.2.2.2.1
def q106p:List PE := [e1,e2]
noncomputable def q106F(k:Nat):F6:=⟨q106C k,rr q106p [(ty_4,false)] Tryz.f217,fun p=>bif Nat.beq p 58 then some (.loop q106i1 q106o1 0 112 (q106f1 k k))else none,0,[]⟩
theorem q106K(k:Nat):Contract Tryz.prog 217 (q106V k):=ctr (q106C k) (rs := [(ty_4,false)]) (ps:=q106p) (q106F k) Tryz.f217 32 ⟨tyOf_ok tys_ok,gOf_ok ⟨q91K,q97K,q105K k,trivial⟩⟩ (annl [58] ⟨lok q106i1 q106o1 0 112 (q106f1 k) k,trivial⟩)

noncomputable def q107V:Variant:=⟨[.val ty_0 false],[(ty_15,false)],fun x=>impl_size x.1⟩
noncomputable def q107C:Cfg:=⟨Tryz.prog,tyOf tys,10,gOf [],false,[],[]⟩
def q107p:List PE := [e10]
noncomputable def q107F:F1:=⟨q107C,rr q107p [(ty_15,false)] Tryz.f197,fun p=>none,0,[]⟩
theorem q107K:Contract Tryz.prog 197 (q107V):=ctr q107C (rs := [(ty_15,false)]) (ps:=q107p) q107F Tryz.f197 16 ⟨tyOf_ok tys_ok,gOf_ok trivial⟩ (annl [] trivial)

noncomputable def q108V:Variant:=⟨[.val ty_0 false],[(ty_17,true)],fun x=>impl_wideOf x.1⟩
noncomputable def q108C:Cfg:=⟨Tryz.prog,tyOf tys,8,gOf [(197,[],q107V)],false,[],[]⟩
def q108p:List PE := [e10]
noncomputable def q108F:F14:=⟨q108C,rr q108p [(ty_17,true)] Tryz.f146,fun p=>none,0,[]⟩
theorem q108K:Contract Tryz.prog 146 (q108V):=ctr q108C (rs := [(ty_17,true)]) (ps:=q108p) q108F Tryz.f146 16 ⟨tyOf_ok tys_ok,gOf_ok ⟨q107K,trivial⟩⟩ (annl [] trivial)

noncomputable def q109V:Variant:=⟨[.val ty_17 true],[(.bool,false)],fun x=>impl_wide_isZero x.1⟩
noncomputable def q109C:Cfg:=⟨Tryz.prog,tyOf tys,11,gOf [],false,[],[]⟩
def q109p:List PE := [e124]
noncomputable def q109F:F3:=⟨q109C,rr q109p [(.bool,false)] Tryz.f195,fun p=>none,0,[]⟩
theorem q109K:Contract Tryz.prog 195 (q109V):=ctr q109C (rs := [(.bool,false)]) (ps:=q109p) q109F Tryz.f195 16 ⟨tyOf_ok tys_ok,gOf_ok trivial⟩ (annl [] trivial)

noncomputable def q110V:Variant:=⟨[.val ty_17 true,.val ty_0 false],[(ty_17,true)],fun x=>impl_wide_shift x.1 x.2.1⟩
noncomputable def q110C:Cfg:=⟨Tryz.prog,tyOf tys,63,gOf [],false,[],[]⟩
def q110p:List PE := [e124,e2]
noncomputable def q110F:F14:=⟨q110C,rr q110p [(ty_17,true)] Tryz.f147,fun p=>none,0,[]⟩
theorem q110K:Contract Tryz.prog 147 (q110V):=ctr q110C (rs := [(ty_17,true)]) (ps:=q110p) q110F Tryz.f147 32 ⟨tyOf_ok tys_ok,gOf_ok trivial⟩ (annl [] trivial)

noncomputable def q111V(k:Nat):Variant:=⟨[.val ty_17 true,.val ty_0 false],[(ty_1,true),(.bool,false)],fun x=>impl_wide_fit k x.1 x.2.1⟩
noncomputable def q111C(k:Nat):Cfg:=⟨Tryz.prog,tyOf tys,45,gOf [(195,[],q109V),(147,[],q110V)],false,[],[]⟩
def q111i1:List PE := [e6,⟨2,48,.box ty_17 false,false⟩,e37]
def q111o1:List PE := [e6,⟨2,48,.box ty_17 false,false⟩,e37]
noncomputable def q111f1(k:Nat)(n:Nat)(x3:PTe q111i1):=impl_wide_fit_L28 k n x3.1 x3.2.1 x3.2.2.1
def q111p:List PE := [e124,e2]
noncomputable def q111F(k:Nat):F4:=⟨q111C k,rr q111p [(ty_1,true),(.bool,false)] Tryz.f183,fun p=>bif Nat.beq p 28 then some (.loop q111i1 q111o1 0 80 (q111f1 k k))else none,0,[]⟩
theorem q111K(k:Nat):Contract Tryz.prog 183 (q111V k):=ctr (q111C k) (rs := [(ty_1,true),(.bool,false)]) (ps:=q111p) (q111F k) Tryz.f183 32 ⟨tyOf_ok tys_ok,gOf_ok ⟨q109K,q110K,trivial⟩⟩ (annl [28] ⟨lok q111i1 q111o1 0 80 (q111f1 k) k,trivial⟩)

noncomputable def q112V(k:Nat):Variant:=⟨[.ptr ty_9 false,.val ty_0 false],[(ty_1,true)],fun x=>impl_Box_dyadic k x.1 x.2.1⟩
noncomputable def q112C(k:Nat):Cfg:=⟨Tryz.prog,tyOf tys,18,gOf [(146,[],q108V),(183,[],q111V k)],false,[],[]⟩
def q112p:List PE := [e115,e2]
noncomputable def q112F(k:Nat):F5:=⟨q112C k,rr q112p [(ty_1,true)] Tryz.f194,fun p=>none,0,[]⟩
theorem q112K(k:Nat):Contract Tryz.prog 194 (q112V k):=ctr (q112C k) (rs := [(ty_1,true)]) (ps:=q112p) (q112F k) Tryz.f194 32 ⟨tyOf_ok tys_ok,gOf_ok ⟨q108K,q111K k,trivial⟩⟩ (annl [] trivial)

noncomputable def q113V(k:Nat):Variant:=⟨[.ptr ty_9 false,.val ty_0 false],[(ty_1,true),(ty_1,true)],fun x=>impl_Box_side k x.1 x.2.1⟩
noncomputable def q113C(k:Nat):Cfg:=⟨Tryz.prog,tyOf tys,24,gOf [(194,[],q112V k)],false,[],[]⟩
def q113p:List PE := [e115,e2]
noncomputable def q113F(k:Nat):F7:=⟨q113C k,rr q113p [(ty_1,true),(ty_1,true)] Tryz.f142,fun p=>none,0,[]⟩
theorem q113K(k:Nat):Contract Tryz.prog 142 (q113V k):=ctr (q113C k) (rs := [(ty_1,true),(ty_1,true)]) (ps:=q113p) (q113F k) Tryz.f142 32 ⟨tyOf_ok tys_ok,gOf_ok ⟨q112K k,trivial⟩⟩ (annl [] trivial)

noncomputable def q114V(k:Nat):Variant:=⟨[.ptr ty_9 false],[(ty_12,false)],fun x=>impl_Box_sides k x.1⟩
noncomputable def q114C(k:Nat):Cfg:=⟨Tryz.prog,tyOf tys,29,gOf [(142,[],q113V k)],false,[],[]⟩
def q114i1:List PE := [e114,⟨3,32,.eat ty_10,false⟩,⟨11,48,.val ty_0 false,false⟩,⟨12,64,.val ty_0 false,false⟩]
def q114o1:List PE := [⟨3,16,.eat ty_10,false⟩]
noncomputable def q114f1(k:Nat)(n:Nat)(x2:PTe q114i1):=impl_Box_sides_L58 k n x2.1 x2.2.1 x2.2.2.1 x2.2.2.2.1
def q114p:List PE := [e115]
noncomputable def q114F(k:Nat):Fn (List ((Int×Int)×Int×Int)):=⟨q114C k,rr q114p [(ty_12,false)] Tryz.f87,fun p=>bif Nat.beq p 58 then some (.loop q114i1 q114o1 0 80 (q114f1 k k))else none,0,[]⟩
theorem q114K(k:Nat):Contract Tryz.prog 87 (q114V k):=ctr (q114C k) (rs := [(ty_12,false)]) (ps:=q114p) (q114F k) Tryz.f87 16 ⟨tyOf_ok tys_ok,gOf_ok ⟨q113K k,trivial⟩⟩ (annl [58] ⟨lok q114i1 q114o1 0 80 (q114f1 k) k,trivial⟩)

noncomputable def q115V:Variant:=⟨[.val ty_0 false],[(ty_1,true)],fun x=>impl_integer x.1⟩
noncomputable def q115C:Cfg:=⟨Tryz.prog,tyOf tys,5,gOf [],false,[],[]⟩
def q115p:List PE := [e10]
noncomputable def q115F:F5:=⟨q115C,rr q115p [(ty_1,true)] Tryz.f112,fun p=>none,0,[]⟩
theorem q115K:Contract Tryz.prog 112 (q115V):=ctr q115C (rs := [(ty_1,true)]) (ps:=q115p) q115F Tryz.f112 16 ⟨tyOf_ok tys_ok,gOf_ok trivial⟩ (annl [] trivial)

noncomputable def q116V:Variant:=⟨[.val ty_1 true],[(ty_10,true)],fun x=>impl_single x.1⟩
noncomputable def q116C:Cfg:=⟨Tryz.prog,tyOf tys,6,gOf [],false,[],[]⟩
def q116p:List PE := [e35]
noncomputable def q116F:F7:=⟨q116C,rr q116p [(ty_10,true)] Tryz.f111,fun p=>none,0,[]⟩
theorem q116K:Contract Tryz.prog 111 (q116V):=ctr q116C (rs := [(ty_10,true)]) (ps:=q116p) q116F Tryz.f111 16 ⟨tyOf_ok tys_ok,gOf_ok trivial⟩ (annl [] trivial)

noncomputable def q117V:Variant:=⟨[.val ty_15 false,.val ty_15 false],[(ty_15,false),(ty_15,false)],fun x=>math_bits_Mul64 x.1 x.2.1⟩
noncomputable def q117C:Cfg:=⟨Tryz.prog,tyOf tys,51,gOf [],false,[],[]⟩
def q117p:List PE := [e125,e126]
noncomputable def q117F:F5:=⟨q117C,rr q117p [(ty_15,false),(ty_15,false)] Tryz.f259,fun p=>none,0,[]⟩
theorem q117K:Contract Tryz.prog 259 (q117V):=ctr q117C (rs := [(ty_15,false),(ty_15,false)]) (ps:=q117p) q117F Tryz.f259 32 ⟨tyOf_ok tys_ok,gOf_ok trivial⟩ (annl [] trivial)

noncomputable def q118V:Variant:=⟨[.val ty_0 false,.val ty_0 false],[(ty_17,true)],fun x=>impl_timesWide x.1 x.2.1⟩
noncomputable def q118C:Cfg:=⟨Tryz.prog,tyOf tys,23,gOf [(197,[],q107V),(259,[],q117V)],false,[],[]⟩
def q118p:List PE := [e10,e2]
noncomputable def q118F:F14:=⟨q118C,rr q118p [(ty_17,true)] Tryz.f248,fun p=>none,0,[]⟩
theorem q118K:Contract Tryz.prog 248 (q118V):=ctr q118C (rs := [(ty_17,true)]) (ps:=q118p) q118F Tryz.f248 32 ⟨tyOf_ok tys_ok,gOf_ok ⟨q107K,q117K,trivial⟩⟩ (annl [] trivial)

noncomputable def q119V(k:Nat):Variant:=⟨[.val ty_1 true,.val ty_1 true],[(ty_1,true),(.bool,false)],fun x=>impl_productOf k x.1 x.2.1⟩
noncomputable def q119C(k:Nat):Cfg:=⟨Tryz.prog,tyOf tys,19,gOf [(248,[],q118V),(183,[],q111V k)],false,[],[]⟩
def q119p:List PE := [e35,e42]
noncomputable def q119F(k:Nat):F4:=⟨q119C k,rr q119p [(ty_1,true),(.bool,false)] Tryz.f227,fun p=>none,0,[]⟩
theorem q119K(k:Nat):Contract Tryz.prog 227 (q119V k):=ctr (q119C k) (rs := [(ty_1,true),(.bool,false)]) (ps:=q119p) (q119F k) Tryz.f227 32 ⟨tyOf_ok tys_ok,gOf_ok ⟨q118K,q111K k,trivial⟩⟩ (annl [] trivial)

noncomputable def q120V:Variant:=⟨[.ptr .bool true,.val ty_1 true,.val .bool false],[(ty_1,true)],fun x=>impl_reckoner_keep x.1 x.2.1 x.2.2.1⟩
noncomputable def q120C:Cfg:=⟨Tryz.prog,tyOf tys,24,gOf [],false,[],[]⟩
def q120p:List PE := [e127,e42,⟨2,32,.val .bool false,false⟩]
noncomputable def q120F:F4:=⟨q120C,rr q120p [(ty_1,true)] Tryz.f128,fun p=>none,0,[0]⟩
theorem q120K:Contract Tryz.prog 128 (q120V):=ctr q120C (rs := [(ty_1,true)]) (ps:=q120p) q120F Tryz.f128 48 ⟨tyOf_ok tys_ok,gOf_ok trivial⟩ (annl [] trivial)

noncomputable def q121V(k:Nat):Variant:=⟨[.ptr .bool true,.val ty_1 true,.val ty_1 true],[(ty_1,true)],fun x=>impl_reckoner_product k x.1 x.2.1 x.2.2.1⟩
noncomputable def q121C(k:Nat):Cfg:=⟨Tryz.prog,tyOf tys,14,gOf [(227,[],q119V k),(128,[],q120V)],false,[],[]⟩
def q121p:List PE := [e127,e42,e61]
noncomputable def q121F(k:Nat):F4:=⟨q121C k,rr q121p [(ty_1,true)] Tryz.f190,fun p=>none,0,[0]⟩
theorem q121K(k:Nat):Contract Tryz.prog 190 (q121V k):=ctr (q121C k) (rs := [(ty_1,true)]) (ps:=q121p) (q121F k) Tryz.f190 48 ⟨tyOf_ok tys_ok,gOf_ok ⟨q119K k,q120K,trivial⟩⟩ (annl [] trivial)

noncomputable def q122V:Variant:=⟨[.val ty_15 false],[(.bool,false)],fun x=>cmp_isNaN_uint64 x.1⟩
noncomputable def q122C:Cfg:=⟨Tryz.prog,tyOf tys,6,gOf [],false,[],[]⟩
def q122p:List PE := [e125]
noncomputable def q122F:F3:=⟨q122C,rr q122p [(.bool,false)] Tryz.f249,fun p=>none,0,[]⟩
theorem q122K:Contract Tryz.prog 249 (q122V):=ctr q122C (rs := [(.bool,false)]) (ps:=q122p) q122F Tryz.f249 16 ⟨tyOf_ok tys_ok,gOf_ok trivial⟩ (annl [] trivial)

noncomputable def q123V:Variant:=⟨[.val ty_15 false,.val ty_15 false],[(ty_0,false)],fun x=>cmp_Compare_uint64 x.1 x.2.1⟩
noncomputable def q123C:Cfg:=⟨Tryz.prog,tyOf tys,20,gOf [(249,[],q122V)],false,[],[]⟩
def q123p:List PE := [e125,e126]
noncomputable def q123F:F1:=⟨q123C,rr q123p [(ty_0,false)] Tryz.f230,fun p=>none,0,[]⟩
theorem q123K:Contract Tryz.prog 230 (q123V):=ctr q123C (rs := [(ty_0,false)]) (ps:=q123p) q123F Tryz.f230 32 ⟨tyOf_ok tys_ok,gOf_ok ⟨q122K,trivial⟩⟩ (annl [] trivial)

noncomputable def q124V(k:Nat):Variant:=⟨[.val ty_17 true,.val ty_17 true],[(ty_0,false)],fun x=>impl_compareSizes k x.1 x.2.1⟩
noncomputable def q124C(k:Nat):Cfg:=⟨Tryz.prog,tyOf tys,17,gOf [(230,[],q123V),(203,[],q88V k)],false,[],[]⟩
def q124p:List PE := [e124,e128]
noncomputable def q124F(k:Nat):F1:=⟨q124C k,rr q124p [(ty_0,false)] Tryz.f196,fun p=>none,0,[]⟩
theorem q124K(k:Nat):Contract Tryz.prog 196 (q124V k):=ctr (q124C k) (rs := [(ty_0,false)]) (ps:=q124p) (q124F k) Tryz.f196 32 ⟨tyOf_ok tys_ok,gOf_ok ⟨q123K,q88K k,trivial⟩⟩ (annl [] trivial)

noncomputable def q125V(k:Nat):Variant:=⟨[.val ty_17 true,.val ty_17 true],[(ty_0,false)],fun x=>impl_compareWide k x.1 x.2.1⟩
noncomputable def q125C(k:Nat):Cfg:=⟨Tryz.prog,tyOf tys,29,gOf [(195,[],q109V),(196,[],q124V k)],false,[],[]⟩
def q125p:List PE := [e124,e128]
noncomputable def q125F(k:Nat):F1:=⟨q125C k,rr q125p [(ty_0,false)] Tryz.f145,fun p=>bif Nat.beq p 6 then some (.cut [⟨2,32,.box ty_17 false,false⟩,⟨3,48,.box ty_17 false,false⟩] 64)else none,0,[]⟩
theorem q125K(k:Nat):Contract Tryz.prog 145 (q125V k):=ctr (q125C k) (rs := [(ty_0,false)]) (ps:=q125p) (q125F k) Tryz.f145 32 ⟨tyOf_ok tys_ok,gOf_ok ⟨q109K,q124K k,trivial⟩⟩ (annl [] trivial)

noncomputable def q126V(k:Nat):Variant:=⟨[.val ty_1 true,.val ty_1 true],[(ty_0,false)],fun x=>impl_compareD k x.1 x.2.1⟩
noncomputable def q126C(k:Nat):Cfg:=⟨Tryz.prog,tyOf tys,28,gOf [(146,[],q108V),(147,[],q110V),(145,[],q125V k)],false,[],[]⟩
def q126p:List PE := [e35,e42]
noncomputable def q126F(k:Nat):F1:=⟨q126C k,rr q126p [(ty_0,false)] Tryz.f91,fun p=>none,0,[]⟩
theorem q126K(k:Nat):Contract Tryz.prog 91 (q126V k):=ctr (q126C k) (rs := [(ty_0,false)]) (ps:=q126p) (q126F k) Tryz.f91 32 ⟨tyOf_ok tys_ok,gOf_ok ⟨q108K,q110K,q125K k,trivial⟩⟩ (annl [] trivial)

noncomputable def q127V(k:Nat):Variant:=⟨[.val ty_1 true,.val ty_1 true],[(ty_1,true)],fun x=>impl_lesser k x.1 x.2.1⟩
noncomputable def q127C(k:Nat):Cfg:=⟨Tryz.prog,tyOf tys,11,gOf [(91,[],q126V k)],false,[],[]⟩
def q127p:List PE := [e35,e42]
noncomputable def q127F(k:Nat):F5:=⟨q127C k,rr q127p [(ty_1,true)] Tryz.f143,fun p=>none,0,[]⟩
theorem q127K(k:Nat):Contract Tryz.prog 143 (q127V k):=ctr (q127C k) (rs := [(ty_1,true)]) (ps:=q127p) (q127F k) Tryz.f143 32 ⟨tyOf_ok tys_ok,gOf_ok ⟨q126K k,trivial⟩⟩ (annl [] trivial)

noncomputable def q128V(k:Nat):Variant:=⟨[.val ty_1 true,.val ty_1 true],[(ty_1,true)],fun x=>impl_greater k x.1 x.2.1⟩
noncomputable def q128C(k:Nat):Cfg:=⟨Tryz.prog,tyOf tys,11,gOf [(91,[],q126V k)],false,[],[]⟩
def q128p:List PE := [e35,e42]
noncomputable def q128F(k:Nat):F5:=⟨q128C k,rr q128p [(ty_1,true)] Tryz.f114,fun p=>none,0,[]⟩
theorem q128K(k:Nat):Contract Tryz.prog 114 (q128V k):=ctr (q128C k) (rs := [(ty_1,true)]) (ps:=q128p) (q128F k) Tryz.f114 32 ⟨tyOf_ok tys_ok,gOf_ok ⟨q126K k,trivial⟩⟩ (annl [] trivial)

noncomputable def q129V:Variant:=⟨[.val ty_10 true],[(ty_0,false)],fun x=>impl_signOf x.1⟩
noncomputable def q129C:Cfg:=⟨Tryz.prog,tyOf tys,13,gOf [],false,[],[]⟩
def q129p:List PE := [e45]
noncomputable def q129F:F1:=⟨q129C,rr q129p [(ty_0,false)] Tryz.f254,fun p=>none,0,[]⟩
theorem q129K:Contract Tryz.prog 254 (q129V):=ctr q129C (rs := [(ty_0,false)]) (ps:=q129p) q129F Tryz.f254 16 ⟨tyOf_ok tys_ok,gOf_ok trivial⟩ (annl [] trivial)

noncomputable def q130V(k:Nat):Variant:=⟨[.val ty_1 true,.val ty_0 false],[(ty_1,true)],fun x=>impl_roundDown k x.1 x.2.1⟩
noncomputable def q130C(k:Nat):Cfg:=⟨Tryz.prog,tyOf tys,26,gOf [(146,[],q108V),(183,[],q111V k)],false,[],[]⟩
def q130p:List PE := [e35,e2]
noncomputable def q130F(k:Nat):F5:=⟨q130C k,rr q130p [(ty_1,true)] Tryz.f228,fun p=>none,0,[]⟩
theorem q130K(k:Nat):Contract Tryz.prog 228 (q130V k):=ctr (q130C k) (rs := [(ty_1,true)]) (ps:=q130p) (q130F k) Tryz.f228 32 ⟨tyOf_ok tys_ok,gOf_ok ⟨q108K,q111K k,trivial⟩⟩ (annl [] trivial)

noncomputable def q131V:Variant:=⟨[.val ty_1 true],[(ty_1,true)],fun x=>impl_minus x.1⟩
noncomputable def q131C:Cfg:=⟨Tryz.prog,tyOf tys,9,gOf [],false,[],[]⟩
def q131p:List PE := [e35]
noncomputable def q131F:F5:=⟨q131C,rr q131p [(ty_1,true)] Tryz.f115,fun p=>none,0,[]⟩
theorem q131K:Contract Tryz.prog 115 (q131V):=ctr q131C (rs := [(ty_1,true)]) (ps:=q131p) q131F Tryz.f115 16 ⟨tyOf_ok tys_ok,gOf_ok trivial⟩ (annl [] trivial)

noncomputable def q132V(k:Nat):Variant:=⟨[.val ty_10 true,.val ty_0 false],[(ty_10,true)],fun x=>impl_roundOut k x.1 x.2.1⟩
noncomputable def q132C(k:Nat):Cfg:=⟨Tryz.prog,tyOf tys,16,gOf [(228,[],q130V k),(115,[],q131V)],false,[],[]⟩
def q132p:List PE := [e45,e2]
noncomputable def q132F(k:Nat):F7:=⟨q132C k,rr q132p [(ty_10,true)] Tryz.f191,fun p=>none,0,[]⟩
theorem q132K(k:Nat):Contract Tryz.prog 191 (q132V k):=ctr (q132C k) (rs := [(ty_10,true)]) (ps:=q132p) (q132F k) Tryz.f191 32 ⟨tyOf_ok tys_ok,gOf_ok ⟨q130K k,q131K,trivial⟩⟩ (annl [] trivial)

noncomputable def q133V(k:Nat):Variant:=⟨[.ptr .bool true,.val ty_10 true,.val ty_0 false],[(ty_10,true)],fun x=>impl_reckoner_power k x.1 x.2.1 x.2.2.1⟩
noncomputable def q133C(k:Nat):Cfg:=⟨Tryz.prog,tyOf tys,49,gOf [(112,[],q115V),(111,[],q116V),(190,[],q121V k),(143,[],q127V k),(114,[],q128V k),(254,[],q129V),(191,[],q132V k)],false,[],[]⟩
def q133i1:List PE := [e127,e86,⟨4,64,.box ty_10 false,false⟩,⟨6,80,.box ty_10 false,false⟩,⟨7,96,.box ty_1 false,false⟩,⟨8,112,.box ty_1 false,false⟩,⟨18,128,.val ty_0 false,false⟩,⟨19,144,.val ty_0 false,false⟩]
def q133o1:List PE := [e86,⟨4,64,.box ty_10 false,false⟩,⟨6,80,.box ty_10 false,false⟩,⟨7,96,.box ty_1 false,false⟩,⟨8,112,.box ty_1 false,false⟩,e127]
noncomputable def q133f1(k:Nat)(n:Nat)(x5:PTe q133i1):=impl_reckoner_power_L122 k n x5.1 x5.2.1 x5.2.2.1 x5.2.2.2.1 x5.2.2.2.2.1 x5.2.2.2.2.2.1 x5.2.2.2.2.2.2.1 x5.2.2.2.2.2.2.2.1
def q133p:List PE := [e127,e60,e21]
noncomputable def q133F(k:Nat):F8:=⟨q133C k,rr q133p [(ty_10,true)] Tryz.f241,fun p=>bif Nat.beq p 122 then some (.loop q133i1 q133o1 0 160 (q133f1 k k))else bif Nat.beq p 62 then some (.cut [⟨6,48,.box ty_10 false,false⟩,⟨7,64,.box ty_1 false,false⟩,e56,e127] 96)else none,0,[0]⟩
theorem q133K(k:Nat):Contract Tryz.prog 241 (q133V k):=ctr (q133C k) (rs := [(ty_10,true)]) (ps:=q133p) (q133F k) Tryz.f241 48 ⟨tyOf_ok tys_ok,gOf_ok ⟨q115K,q116K,q121K k,q127K k,q128K k,q129K,q132K k,trivial⟩⟩ (annl [122] ⟨lok q133i1 q133o1 0 160 (q133f1 k) k,trivial⟩)

noncomputable def q134V(k:Nat):Variant:=⟨[.ptr .bool true,.val ty_10 true,.val ty_10 true],[(ty_10,true)],fun x=>impl_reckoner_multiply k x.1 x.2.1 x.2.2.1⟩
noncomputable def q134C(k:Nat):Cfg:=⟨Tryz.prog,tyOf tys,51,gOf [(190,[],q121V k),(143,[],q127V k),(114,[],q128V k),(191,[],q132V k)],false,[],[]⟩
def q134p:List PE := [e127,e60,e129]
noncomputable def q134F(k:Nat):F8:=⟨q134C k,rr q134p [(ty_10,true)] Tryz.f136,fun p=>none,0,[0]⟩
theorem q134K(k:Nat):Contract Tryz.prog 136 (q134V k):=ctr (q134C k) (rs := [(ty_10,true)]) (ps:=q134p) (q134F k) Tryz.f136 48 ⟨tyOf_ok tys_ok,gOf_ok ⟨q121K k,q127K k,q128K k,q132K k,trivial⟩⟩ (annl [] trivial)

noncomputable def q135V:Variant:=V64 math_bits_Add64
theorem q135K:Contract Tryz.prog 246 q135V:=contractAdd64 (fn:=Tryz.f246) (by kernel_rfl) (by kernel_rfl) (by kernel_rfl) (by kernel_rfl) (by kernel_rfl)

noncomputable def q136V:Variant:=V64 math_bits_Sub64
theorem q136K:Contract Tryz.prog 247 q136V:=contractSub64 (fn:=Tryz.f247) (by kernel_rfl) (by kernel_rfl) (by kernel_rfl) (by kernel_rfl) (by kernel_rfl)

noncomputable def q137V(k:Nat):Variant:=⟨[.val ty_17 true,.val ty_17 true],[(ty_17,true)],fun x=>impl_wide_add k x.1 x.2.1⟩
noncomputable def q137C(k:Nat):Cfg:=⟨Tryz.prog,tyOf tys,68,gOf [(246,[],q135V),(196,[],q124V k),(247,[],q136V)],false,[],[]⟩
def q137p:List PE := [e124,e128]
noncomputable def q137F(k:Nat):F14:=⟨q137C k,rr q137p [(ty_17,true)] Tryz.f224,fun p=>bif Nat.beq p 14 then some (.cut [⟨2,32,.box ty_17 false,false⟩,⟨3,48,.box ty_17 false,false⟩,⟨4,64,.box ty_17 false,false⟩] 80)else none,0,[]⟩
theorem q137K(k:Nat):Contract Tryz.prog 224 (q137V k):=ctr (q137C k) (rs := [(ty_17,true)]) (ps:=q137p) (q137F k) Tryz.f224 32 ⟨tyOf_ok tys_ok,gOf_ok ⟨q135K,q124K k,q136K,trivial⟩⟩ (annl [] trivial)

noncomputable def q138V(k:Nat):Variant:=⟨[.val ty_1 true,.val ty_1 true],[(ty_1,true),(.bool,false)],fun x=>impl_sumOf k x.1 x.2.1⟩
noncomputable def q138C(k:Nat):Cfg:=⟨Tryz.prog,tyOf tys,33,gOf [(146,[],q108V),(147,[],q110V),(224,[],q137V k),(183,[],q111V k)],false,[],[]⟩
def q138p:List PE := [e35,e42]
noncomputable def q138F(k:Nat):F4:=⟨q138C k,rr q138p [(ty_1,true),(.bool,false)] Tryz.f186,fun p=>none,0,[]⟩
theorem q138K(k:Nat):Contract Tryz.prog 186 (q138V k):=ctr (q138C k) (rs := [(ty_1,true),(.bool,false)]) (ps:=q138p) (q138F k) Tryz.f186 32 ⟨tyOf_ok tys_ok,gOf_ok ⟨q108K,q110K,q137K k,q111K k,trivial⟩⟩ (annl [] trivial)

noncomputable def q139V(k:Nat):Variant:=⟨[.ptr .bool true,.val ty_1 true,.val ty_1 true],[(ty_1,true)],fun x=>impl_reckoner_sum k x.1 x.2.1 x.2.2.1⟩
noncomputable def q139C(k:Nat):Cfg:=⟨Tryz.prog,tyOf tys,14,gOf [(186,[],q138V k),(128,[],q120V)],false,[],[]⟩
def q139p:List PE := [e127,e42,e61]
noncomputable def q139F(k:Nat):F4:=⟨q139C k,rr q139p [(ty_1,true)] Tryz.f131,fun p=>none,0,[0]⟩
theorem q139K(k:Nat):Contract Tryz.prog 131 (q139V k):=ctr (q139C k) (rs := [(ty_1,true)]) (ps:=q139p) (q139F k) Tryz.f131 48 ⟨tyOf_ok tys_ok,gOf_ok ⟨q138K k,q120K,trivial⟩⟩ (annl [] trivial)

noncomputable def q140V(k:Nat):Variant:=⟨[.ptr .bool true,.val ty_10 true,.val ty_10 true],[(ty_10,true)],fun x=>impl_reckoner_add k x.1 x.2.1 x.2.2.1⟩
noncomputable def q140C(k:Nat):Cfg:=⟨Tryz.prog,tyOf tys,20,gOf [(131,[],q139V k)],false,[],[]⟩
def q140p:List PE := [e127,e60,e129]
noncomputable def q140F(k:Nat):F8:=⟨q140C k,rr q140p [(ty_10,true)] Tryz.f135,fun p=>none,0,[0]⟩
theorem q140K(k:Nat):Contract Tryz.prog 135 (q140V k):=ctr (q140C k) (rs := [(ty_10,true)]) (ps:=q140p) (q140F k) Tryz.f135 48 ⟨tyOf_ok tys_ok,gOf_ok ⟨q139K k,trivial⟩⟩ (annl [] trivial)

noncomputable def q141V:Variant:=⟨[.ptr .bool true,.val ty_10 true],[(ty_10,true),(.bool,false)],fun x=>impl_reckoner_result x.1 x.2.1⟩
noncomputable def q141C:Cfg:=⟨Tryz.prog,tyOf tys,13,gOf [],false,[],[]⟩
def q141p:List PE := [e127,e60]
noncomputable def q141F:Fn (((Int×Int)×Int×Int)×Bool×Bool):=⟨q141C,rr q141p [(ty_10,true),(.bool,false)] Tryz.f242,fun p=>none,0,[0]⟩
theorem q141K:Contract Tryz.prog 242 (q141V):=ctr q141C (rs := [(ty_10,true),(.bool,false)]) (ps:=q141p) q141F Tryz.f242 32 ⟨tyOf_ok tys_ok,gOf_ok trivial⟩ (annl [] trivial)

noncomputable def q142V(k:Nat):Variant:=⟨[.val ty_4 false,.val ty_12 false],[(ty_10,true),(.bool,false)],fun x=>impl_valueOver k x.1 x.2.1⟩
noncomputable def q142C(k:Nat):Cfg:=⟨Tryz.prog,tyOf tys,54,gOf [(112,[],q115V),(111,[],q116V),(207,[],q91V),(241,[],q133V k),(136,[],q134V k),(135,[],q140V k),(242,[],q141V)],false,[],[]⟩
def q142i1:List PE := [e62,e54,e130,e131,⟨9,96,.box ty_3 false,false⟩,⟨10,112,.box ty_10 false,false⟩,⟨16,128,.val ty_4 false,false⟩,⟨17,144,.val ty_0 false,false⟩,⟨18,160,.val ty_0 false,false⟩,⟨26,176,.val ty_12 false,false⟩,⟨27,192,.val ty_0 false,false⟩,⟨28,208,.val ty_0 false,false⟩]
def q142o1:List PE := [e62,e54,e130,e131,⟨10,96,.box ty_10 false,false⟩,⟨16,112,.val ty_4 false,false⟩,e93,⟨18,144,.val ty_0 false,false⟩]
noncomputable def q142f1(k:Nat)(n:Nat)(x10:PTe q142i1):=impl_valueOver_L125338 k n x10.1 x10.2.1 x10.2.2.1 x10.2.2.2.1 x10.2.2.2.2.1 x10.2.2.2.2.2.1 x10.2.2.2.2.2.2.1 x10.2.2.2.2.2.2.2.1 x10.2.2.2.2.2.2.2.2.1 x10.2.2.2.2.2.2.2.2.2.1 x10.2.2.2.2.2.2.2.2.2.2.1 x10.2.2.2.2.2.2.2.2.2.2.2.1
def q142i2:List PE := [e62,e54,e130,e131,⟨16,96,.val ty_4 false,false⟩,e113,⟨18,128,.val ty_0 false,false⟩]
def q142o2:List PE := [e53,⟨6,48,.box .bool false,false⟩,⟨7,64,.box ty_10 false,false⟩]
noncomputable def q142f2(k:Nat)(n:Nat)(x14:PTe q142i2):=impl_valueOver_L122 k n x14.1 x14.2.1 x14.2.2.1 x14.2.2.2.1 x14.2.2.2.2.1 x14.2.2.2.2.2.1 x14.2.2.2.2.2.2.1
def q142p:List PE := [e1,e67]
noncomputable def q142F(k:Nat):F8:=⟨q142C k,rr q142p [(ty_10,true),(.bool,false)] Tryz.f216,fun p=>bif Nat.beq p 125338 then some (.loop q142i1 q142o1 2 224 (q142f1 k k))else bif Nat.beq p 122 then some (.loop q142i2 q142o2 0 144 (q142f2 k k))else none,0,[]⟩
theorem q142K(k:Nat):Contract Tryz.prog 216 (q142V k):=ctr (q142C k) (rs := [(ty_10,true),(.bool,false)]) (ps:=q142p) (q142F k) Tryz.f216 32 ⟨tyOf_ok tys_ok,gOf_ok ⟨q115K,q116K,q91K,q133K k,q134K k,q140K k,q141K,trivial⟩⟩ (annl [122,125338] ⟨lok q142i2 q142o2 0 144 (q142f2 k) k,lok q142i1 q142o1 2 224 (q142f1 k) k,trivial⟩)

noncomputable def q143V(k:Nat):Variant:=⟨[.val ty_4 false,.ptr ty_9 false],[(ty_12,false),(.bool,false)],fun x=>impl_gradientOver k x.1 x.2.1⟩
noncomputable def q143C(k:Nat):Cfg:=⟨Tryz.prog,tyOf tys,35,gOf [(217,[],q106V k),(87,[],q114V k),(216,[],q142V k)],false,[],[]⟩
def q143i1:List PE := [e12,⟨1,48,.ptr ty_9 false,false⟩,⟨6,64,.eat ty_10,false⟩,e51,e52]
def q143o1:List PE := [e68]
noncomputable def q143f1(k:Nat)(n:Nat)(x4:PTe q143i1):=impl_gradientOver_L58 k n x4.1 x4.2.1 x4.2.2.1 x4.2.2.2.1 x4.2.2.2.2.1
def q143p:List PE := [e1,e116]
noncomputable def q143F(k:Nat):F9:=⟨q143C k,rr q143p [(ty_12,false),(.bool,false)] Tryz.f173,fun p=>bif Nat.beq p 58 then some (.loop q143i1 q143o1 0 112 (q143f1 k k))else none,0,[]⟩
theorem q143K(k:Nat):Contract Tryz.prog 173 (q143V k):=ctr (q143C k) (rs := [(ty_12,false),(.bool,false)]) (ps:=q143p) (q143F k) Tryz.f173 32 ⟨tyOf_ok tys_ok,gOf_ok ⟨q106K k,q114K k,q142K k,trivial⟩⟩ (annl [58] ⟨lok q143i1 q143o1 0 112 (q143f1 k) k,trivial⟩)

noncomputable def q144V(k:Nat):Variant:=⟨[.val ty_5 false,.ptr ty_9 false],[(ty_13,false),(.bool,false)],fun x=>impl_jacobianOver k x.1 x.2.1⟩
noncomputable def q144C(k:Nat):Cfg:=⟨Tryz.prog,tyOf tys,31,gOf [(173,[],q143V k)],false,[],[]⟩
def q144i1:List PE := [⟨1,32,.ptr ty_9 false,false⟩,e69,⟨11,64,.val ty_5 false,false⟩,e70,e71]
def q144o1:List PE := [e72]
noncomputable def q144f1(k:Nat)(n:Nat)(x2:PTe q144i1):=impl_jacobianOver_L58 k n x2.1 x2.2.1 x2.2.2.1 x2.2.2.2.1 x2.2.2.2.2.1
def q144p:List PE := [e7,e116]
noncomputable def q144F(k:Nat):F10:=⟨q144C k,rr q144p [(ty_13,false),(.bool,false)] Tryz.f109,fun p=>bif Nat.beq p 58 then some (.loop q144i1 q144o1 0 112 (q144f1 k k))else none,0,[]⟩
theorem q144K(k:Nat):Contract Tryz.prog 109 (q144V k):=ctr (q144C k) (rs := [(ty_13,false),(.bool,false)]) (ps:=q144p) (q144F k) Tryz.f109 32 ⟨tyOf_ok tys_ok,gOf_ok ⟨q143K k,trivial⟩⟩ (annl [58] ⟨lok q144i1 q144o1 0 112 (q144f1 k) k,trivial⟩)

noncomputable def q145V(k:Nat):Variant:=⟨[.val ty_1 true,.val ty_1 true],[(ty_1,true),(.bool,false)],fun x=>impl_middleOf k x.1 x.2.1⟩
noncomputable def q145C(k:Nat):Cfg:=⟨Tryz.prog,tyOf tys,34,gOf [(146,[],q108V),(147,[],q110V),(224,[],q137V k),(183,[],q111V k)],false,[],[]⟩
def q145p:List PE := [e35,e42]
noncomputable def q145F(k:Nat):F4:=⟨q145C k,rr q145p [(ty_1,true),(.bool,false)] Tryz.f212,fun p=>none,0,[]⟩
theorem q145K(k:Nat):Contract Tryz.prog 212 (q145V k):=ctr (q145C k) (rs := [(ty_1,true),(.bool,false)]) (ps:=q145p) (q145F k) Tryz.f212 32 ⟨tyOf_ok tys_ok,gOf_ok ⟨q108K,q110K,q137K k,q111K k,trivial⟩⟩ (annl [] trivial)

noncomputable def q146V(k:Nat):Variant:=⟨[.val ty_5 false,.ptr ty_9 false],[(ty_14,false),(.bool,false)],fun x=>impl_middleJacobian k x.1 x.2.1⟩
noncomputable def q146C(k:Nat):Cfg:=⟨Tryz.prog,tyOf tys,61,gOf [(109,[],q144V k),(212,[],q145V k),(128,[],q120V)],false,[],[]⟩
def q146i1:List PE := [e132,e133,⟨12,64,.eat ty_1,false⟩,e105,e79,e106,⟨31,128,.val ty_12 false,false⟩,e96,⟨33,160,.val ty_0 false,false⟩]
def q146o1:List PE := [e132,e133,⟨12,64,.eat ty_1,false⟩,e105,e79,e106]
noncomputable def q146f1(k:Nat)(n:Nat)(x4:PTe q146i1):=impl_middleJacobian_L518554 k n x4.1 x4.2.1 x4.2.2.1 x4.2.2.2.1 x4.2.2.2.2.1 x4.2.2.2.2.2.1 x4.2.2.2.2.2.2.1 x4.2.2.2.2.2.2.2.1 x4.2.2.2.2.2.2.2.2.1
def q146i2:List PE := [e132,e133,⟨25,64,.val ty_13 false,false⟩,⟨26,80,.val ty_0 false,false⟩,⟨27,96,.val ty_0 false,false⟩]
def q146o2:List PE := [e132,e133]
noncomputable def q146f2(k:Nat)(n:Nat)(x7:PTe q146i2):=impl_middleJacobian_L506 k n x7.1 x7.2.1 x7.2.2.1 x7.2.2.2.1 x7.2.2.2.2.1
def q146p:List PE := [e7,e116]
noncomputable def q146F(k:Nat):F11:=⟨q146C k,rr q146p [(ty_14,false),(.bool,false)] Tryz.f171,fun p=>bif Nat.beq p 518554 then some (.loop q146i1 q146o1 2 176 (q146f1 k k))else bif Nat.beq p 506 then some (.loop q146i2 q146o2 0 112 (q146f2 k k))else none,0,[]⟩
theorem q146K(k:Nat):Contract Tryz.prog 171 (q146V k):=ctr (q146C k) (rs := [(ty_14,false),(.bool,false)]) (ps:=q146p) (q146F k) Tryz.f171 32 ⟨tyOf_ok tys_ok,gOf_ok ⟨q144K k,q145K k,q120K,trivial⟩⟩ (annl [506,518554] ⟨lok q146i2 q146o2 0 112 (q146f2 k) k,lok q146i1 q146o1 2 176 (q146f1 k) k,trivial⟩)

noncomputable def q147V:Variant:=⟨[.lit (.slice none 0 0),.val ty_0 false],[(ty_11,false)],fun x=>slices_Grow_Dyadic_Dyadic x.1 x.2.1⟩
noncomputable def q147C:Cfg:=⟨Tryz.prog,tyOf tys,27,gOf [],true,[],[]⟩
def q147p:List PE := [⟨0,0,.lit (.slice none 0 0),false⟩,e2]
noncomputable def q147F:F12:=⟨q147C,rr q147p [(ty_11,false)] Tryz.f263,fun p=>none,0,[]⟩
theorem q147K:Contract Tryz.prog 263 (q147V):=ctr q147C (rs := [(ty_11,false)]) (ps:=q147p) q147F Tryz.f263 32 ⟨tyOf_ok tys_ok,gOf_ok trivial⟩ (annl [] trivial)

noncomputable def q148V(k:Nat):Variant:=⟨[.val ty_14 false],[(ty_11,false)],fun x=>slices_Concat_Dyadic_Dyadic k x.1⟩
noncomputable def q148C(k:Nat):Cfg:=⟨Tryz.prog,tyOf tys,36,gOf [(263,[],q147V)],false,[],[]⟩
def q148i1:List PE := [e77,e32,⟨9,48,.val ty_14 false,false⟩,e112,e38]
def q148o1:List PE := [e77,e32]
noncomputable def q148f1(k:Nat)(n:Nat)(x1:PTe q148i1):=slices_Concat_Dyadic_Dyadic_L58 k n x1.1 x1.2.1 x1.2.2.1 x1.2.2.2.1 x1.2.2.2.2.1
def q148i2:List PE := [⟨6,16,.eat ty_1,false⟩,⟨25,32,.val ty_14 false,false⟩,⟨26,48,.val ty_0 false,false⟩,⟨27,64,.val ty_0 false,false⟩]
def q148o2:List PE := [⟨6,16,.eat ty_1,false⟩]
noncomputable def q148f2(k:Nat)(n:Nat)(x5:PTe q148i2):=slices_Concat_Dyadic_Dyadic_L250 k n x5.1 x5.2.1 x5.2.2.1 x5.2.2.2.1
def q148p:List PE := [e76]
noncomputable def q148F(k:Nat):F12:=⟨q148C k,rr q148p [(ty_11,false)] Tryz.f255,fun p=>bif Nat.beq p 58 then some (.loop q148i1 q148o1 0 96 (q148f1 k k))else bif Nat.beq p 250 then some (.loop q148i2 q148o2 2 80 (q148f2 k k))else none,0,[]⟩
theorem q148K(k:Nat):Contract Tryz.prog 255 (q148V k):=ctr (q148C k) (rs := [(ty_11,false)]) (ps:=q148p) (q148F k) Tryz.f255 16 ⟨tyOf_ok tys_ok,gOf_ok ⟨q147K,trivial⟩⟩ (annl [58,250] ⟨lok q148i1 q148o1 0 96 (q148f1 k) k,lok q148i2 q148o2 2 80 (q148f2 k) k,trivial⟩)

noncomputable def q149V(k:Nat):Variant:=⟨[.val ty_14 false,.val ty_0 false,.val ty_0 false],[(ty_14,false)],fun x=>impl_part_Dyadic k x.1 x.2.1 x.2.2.1⟩
noncomputable def q149C(k:Nat):Cfg:=⟨Tryz.prog,tyOf tys,34,gOf [(255,[],q148V k)],false,[],[28]⟩
def q149i1:List PE := [e4,⟨2,64,.val ty_0 false,false⟩,⟨7,80,.eat ty_11,false⟩,⟨10,96,.val ty_14 false,false⟩,⟨11,112,.val ty_0 false,false⟩,⟨12,128,.val ty_0 false,false⟩]
def q149o1:List PE := [⟨7,48,.eat ty_11,false⟩]
noncomputable def q149f1(k:Nat)(n:Nat)(x2:PTe q149i1):=impl_part_Dyadic_L58 k n x2.1 x2.2.1 x2.2.2.1 x2.2.2.2.1 x2.2.2.2.2.1 x2.2.2.2.2.2.1
def q149p:List PE := [e76,e2,e21]
noncomputable def q149F(k:Nat):Fn (List (List (Int×Int))):=⟨q149C k,rr q149p [(ty_14,false)] Tryz.f239,fun p=>bif Nat.beq p 58 then some (.loop q149i1 q149o1 0 144 (q149f1 k k))else none,0,[]⟩
theorem q149K(k:Nat):Contract Tryz.prog 239 (q149V k):=ctr (q149C k) (rs := [(ty_14,false)]) (ps:=q149p) (q149F k) Tryz.f239 48 ⟨tyOf_ok tys_ok,gOf_ok ⟨q148K k,trivial⟩⟩ (annl [58] ⟨lok q149i1 q149o1 0 144 (q149f1 k) k,trivial⟩)

noncomputable def q150V(k:Nat):Variant:=⟨[.ptr .bool true,.val ty_11 false],[(ty_1,true)],fun x=>impl_reckoner_total k x.1 x.2.1⟩
noncomputable def q150C(k:Nat):Cfg:=⟨Tryz.prog,tyOf tys,24,gOf [(131,[],q139V k)],false,[],[]⟩
def q150i1:List PE := [e127,e43,e50,⟨12,64,.val ty_11 false,false⟩,⟨13,80,.val ty_0 false,false⟩,⟨14,96,.val ty_0 false,false⟩]
def q150o1:List PE := [e43,e50,e127]
noncomputable def q150f1(k:Nat)(n:Nat)(x2:PTe q150i1):=impl_reckoner_total_L58 k n x2.1 x2.2.1 x2.2.2.1 x2.2.2.2.1 x2.2.2.2.2.1 x2.2.2.2.2.2.1
def q150p:List PE := [e127,e98]
noncomputable def q150F(k:Nat):F4:=⟨q150C k,rr q150p [(ty_1,true)] Tryz.f116,fun p=>bif Nat.beq p 58 then some (.loop q150i1 q150o1 0 112 (q150f1 k k))else none,0,[0]⟩
theorem q150K(k:Nat):Contract Tryz.prog 116 (q150V k):=ctr (q150C k) (rs := [(ty_1,true)]) (ps:=q150p) (q150F k) Tryz.f116 32 ⟨tyOf_ok tys_ok,gOf_ok ⟨q139K k,trivial⟩⟩ (annl [58] ⟨lok q150i1 q150o1 0 112 (q150f1 k) k,trivial⟩)

noncomputable def q151V(k:Nat):Variant:=⟨[.ptr .bool true,.val ty_14 false],[(ty_1,true)],fun x=>impl_reckoner_determinant k x.1 x.2.1⟩
noncomputable def q151W(rc:Bool→(List (List (Int×Int)))→Option ((Int×Int)×Bool)):Variant:=⟨[.ptr .bool true,.val ty_14 false],[(ty_1,true)],fun x=>rc x.1 x.2.1⟩
noncomputable def q151C(k:Nat)(rc:Bool→(List (List (Int×Int)))→Option ((Int×Int)×Bool)):Cfg:=⟨Tryz.prog,tyOf tys,47,gOf [(239,[],q149V k),(213,[],q151W rc),(190,[],q121V k),(115,[],q131V),(116,[],q150V k)],false,[],[]⟩
def q151i1:List PE := [e127,⟨1,32,.val ty_14 false,false⟩,e78,⟨5,64,.eat ty_1,false⟩,⟨19,80,.val ty_11 false,false⟩,e89,e65]
def q151o1:List PE := [e127,e43,⟨5,48,.eat ty_1,false⟩]
noncomputable def q151f1(k:Nat)(rc:Bool→(List (List (Int×Int)))→Option ((Int×Int)×Bool))(n:Nat)(x7:PTe q151i1):=impl_reckoner_determinant_L122 k rc n x7.1 x7.2.1 x7.2.2.1 x7.2.2.2.1 x7.2.2.2.2.1 x7.2.2.2.2.2.1 x7.2.2.2.2.2.2.1
def q151p:List PE := [e127,⟨1,16,.val ty_14 false,false⟩]
noncomputable def q151F(k:Nat)(rc:Bool→(List (List (Int×Int)))→Option ((Int×Int)×Bool)):F4:=⟨q151C k rc,rr q151p [(ty_1,true)] Tryz.f213,fun p=>bif Nat.beq p 31334 then some (.cut [e127,⟨1,32,.val ty_14 false,false⟩,e78,⟨5,64,.eat ty_1,false⟩,e56,⟨19,96,.val ty_11 false,false⟩,e103,e64] 144)else bif Nat.beq p 122 then some (.loop q151i1 q151o1 0 128 (q151f1 k rc k))else none,0,[0]⟩
theorem q151KB(k:Nat)(rc:Bool→(List (List (Int×Int)))→Option ((Int×Int)×Bool))(hrc:Contract Tryz.prog 213 (q151W rc)):Contract Tryz.prog 213 (q151W (impl_reckoner_determinant_B k rc)):=ctr (q151C k rc) (rs := [(ty_1,true)]) (ps:=q151p) (q151F k rc) Tryz.f213 32 ⟨tyOf_ok tys_ok,gOf_ok ⟨q149K k,hrc,q121K k,q131K,q150K k,trivial⟩⟩ (annl [122] ⟨lok q151i1 q151o1 0 128 (q151f1 k rc) k,trivial⟩)
theorem q151KR(k:Nat):∀n,Contract Tryz.prog 213 (q151W (impl_reckoner_determinant_R k n))
 | 0=>contract_none fun _=>rfl
 | n+1=>q151KB k _ (q151KR k n)
theorem q151K(k:Nat):Contract Tryz.prog 213 (q151V k):=q151KR k k

noncomputable def q152V(k:Nat):Variant:=⟨[.val ty_14 false],[(ty_14,false),(.bool,false)],fun x=>impl_adjoint k x.1⟩
noncomputable def q152C(k:Nat):Cfg:=⟨Tryz.prog,tyOf tys,57,gOf [(112,[],q115V),(239,[],q149V k),(213,[],q151V k),(115,[],q131V)],false,[],[]⟩
def q152i1:List PE := [e77,e134,e135,e14,⟨7,80,.eat ty_1,false⟩,⟨19,96,.val ty_0 false,false⟩,e103,⟨24,128,.val ty_0 false,false⟩,⟨25,144,.val ty_0 false,false⟩]
def q152o1:List PE := [e77,e134,e135,e136,⟨19,80,.val ty_0 false,false⟩,e89]
noncomputable def q152f1(k:Nat)(n:Nat)(x7:PTe q152i1):=impl_adjoint_L256410 k n x7.1 x7.2.1 x7.2.2.1 x7.2.2.2.1 x7.2.2.2.2.1 x7.2.2.2.2.2.1 x7.2.2.2.2.2.2.1 x7.2.2.2.2.2.2.2.1 x7.2.2.2.2.2.2.2.2.1
def q152i2:List PE := [e77,e134,e135,⟨19,64,.val ty_0 false,false⟩,⟨20,80,.val ty_0 false,false⟩]
def q152o2:List PE := [e137,⟨5,32,.eat ty_11,false⟩]
noncomputable def q152f2(k:Nat)(n:Nat)(x10:PTe q152i2):=impl_adjoint_L250 k n x10.1 x10.2.1 x10.2.2.1 x10.2.2.2.1 x10.2.2.2.2.1
def q152p:List PE := [e76]
noncomputable def q152F(k:Nat):F11:=⟨q152C k,rr q152p [(ty_14,false),(.bool,false)] Tryz.f214,fun p=>bif Nat.beq p 65641062 then some (.cut [e77,e134,e135,e14,⟨7,80,.eat ty_1,false⟩,⟨9,96,.box ty_1 false,false⟩,e58,e74,⟨24,144,.val ty_0 false,false⟩,⟨25,160,.val ty_0 false,false⟩] 176)else bif Nat.beq p 256410 then some (.loop q152i1 q152o1 2 160 (q152f1 k k))else bif Nat.beq p 250 then some (.loop q152i2 q152o2 0 96 (q152f2 k k))else none,0,[]⟩
theorem q152K(k:Nat):Contract Tryz.prog 214 (q152V k):=ctr (q152C k) (rs := [(ty_14,false),(.bool,false)]) (ps:=q152p) (q152F k) Tryz.f214 16 ⟨tyOf_ok tys_ok,gOf_ok ⟨q115K,q149K k,q151K k,q131K,trivial⟩⟩ (annl [250,256410] ⟨lok q152i2 q152o2 0 96 (q152f2 k) k,lok q152i1 q152o1 2 160 (q152f1 k) k,trivial⟩)

noncomputable def q153V:Variant:=⟨[.val ty_15 false],[(ty_0,false)],fun x=>math_bits_Len64 x.1⟩
noncomputable def q153C:Cfg:=⟨Tryz.prog,tyOf tys,25,gOf [],false,[],[]⟩
def q153p:List PE := [e125]
noncomputable def q153F:F1:=⟨q153C,rr q153p [(ty_0,false)] Tryz.f264,fun p=>bif Nat.beq p 30 then some (.cut [e138,e21] 48)else bif Nat.beq p 14 then some (.cut [e138,e21] 48)else bif Nat.beq p 6 then some (.cut [e138,e21] 48)else none,0,[]⟩
theorem q153K:Contract Tryz.prog 264 (q153V):=ctr q153C (rs := [(ty_0,false)]) (ps:=q153p) q153F Tryz.f264 16 ⟨tyOf_ok tys_ok,gOf_ok trivial⟩ (annl [] trivial)

noncomputable def q154V:Variant:=⟨[.val ty_15 false],[(ty_0,false)],fun x=>math_bits_LeadingZeros64 x.1⟩
noncomputable def q154C:Cfg:=⟨Tryz.prog,tyOf tys,6,gOf [(264,[],q153V)],false,[],[]⟩
def q154p:List PE := [e125]
noncomputable def q154F:F1:=⟨q154C,rr q154p [(ty_0,false)] Tryz.f256,fun p=>none,0,[]⟩
theorem q154K:Contract Tryz.prog 256 (q154V):=ctr q154C (rs := [(ty_0,false)]) (ps:=q154p) q154F Tryz.f256 16 ⟨tyOf_ok tys_ok,gOf_ok ⟨q153K,trivial⟩⟩ (annl [] trivial)

noncomputable def q155V(k:Nat):Variant:=⟨[.val ty_15 false,.val ty_15 false,.val ty_15 false],[(ty_15,false),(ty_15,false)],fun x=>math_bits_Div64 k x.1 x.2.1 x.2.2.1⟩
noncomputable def q155C(k:Nat):Cfg:=⟨Tryz.prog,tyOf tys,135,gOf [(256,[],q154V)],false,[],[]⟩
def q155i1:List PE := [e139,e140,e141,e142,⟨11,112,.val ty_15 false,false⟩,⟨13,128,.val ty_15 false,false⟩,⟨14,144,.val ty_15 false,false⟩,⟨15,160,.val ty_15 false,false⟩,⟨16,176,.val ty_15 false,false⟩]
def q155o1:List PE := [e139,e140,e141,e142,⟨11,112,.val ty_15 false,false⟩,⟨13,128,.val ty_15 false,false⟩,⟨14,144,.val ty_15 false,false⟩,⟨15,160,.val ty_15 false,false⟩]
noncomputable def q155f1(k:Nat)(n:Nat)(x2:PTe q155i1):=math_bits_Div64_L131068 k n x2.1 x2.2.1 x2.2.2.1 x2.2.2.2.1 x2.2.2.2.2.1 x2.2.2.2.2.2.1 x2.2.2.2.2.2.2.1 x2.2.2.2.2.2.2.2.1 x2.2.2.2.2.2.2.2.2.1
def q155i2:List PE := [e139,e140,e141,e142,⟨14,112,.val ty_15 false,false⟩,⟨15,128,.val ty_15 false,false⟩,⟨16,144,.val ty_15 false,false⟩,⟨17,160,.val ty_15 false,false⟩,⟨18,176,.val ty_15 false,false⟩]
def q155o2:List PE := [e139,e140,⟨14,80,.val ty_15 false,false⟩,⟨15,96,.val ty_15 false,false⟩,⟨17,112,.val ty_15 false,false⟩,⟨18,128,.val ty_15 false,false⟩]
noncomputable def q155f2(k:Nat)(n:Nat)(x5:PTe q155i2):=math_bits_Div64_L2097148 k n x5.1 x5.2.1 x5.2.2.1 x5.2.2.2.1 x5.2.2.2.2.1 x5.2.2.2.2.2.1 x5.2.2.2.2.2.2.1 x5.2.2.2.2.2.2.2.1 x5.2.2.2.2.2.2.2.2.1
def q155p:List PE := [e125,e126,⟨2,32,.val ty_15 false,false⟩]
noncomputable def q155F(k:Nat):F5:=⟨q155C k,rr q155p [(ty_15,false),(ty_15,false)] Tryz.f240,fun p=>bif Nat.beq p 131068 then some (.loop q155i1 q155o1 0 192 (q155f1 k k))else bif Nat.beq p 2097148 then some (.loop q155i2 q155o2 2 192 (q155f2 k k))else none,0,[]⟩
theorem q155K(k:Nat):Contract Tryz.prog 240 (q155V k):=ctr (q155C k) (rs := [(ty_15,false),(ty_15,false)]) (ps:=q155p) (q155F k) Tryz.f240 48 ⟨tyOf_ok tys_ok,gOf_ok ⟨q154K,trivial⟩⟩ (annl [131068,2097148] ⟨lok q155i1 q155o1 0 192 (q155f1 k) k,lok q155i2 q155o2 2 192 (q155f2 k) k,trivial⟩)

noncomputable def q156V(k:Nat):Variant:=⟨[.val ty_0 false,.val ty_0 false,.val ty_0 false,.val ty_0 false],[(ty_1,true),(.bool,false)],fun x=>impl_quotientDown k x.1 x.2.1 x.2.2.1 x.2.2.2.1⟩
noncomputable def q156C(k:Nat):Cfg:=⟨Tryz.prog,tyOf tys,88,gOf [(146,[],q108V),(147,[],q110V),(197,[],q107V),(240,[],q155V k),(196,[],q124V k),(224,[],q137V k),(183,[],q111V k)],false,[],[]⟩
def q156p:List PE := [e10,e2,e21,⟨3,48,.val ty_0 false,false⟩]
noncomputable def q156F(k:Nat):F4:=⟨q156C k,rr q156p [(ty_1,true),(.bool,false)] Tryz.f215,fun p=>bif Nat.beq p 1022 then some (.cut [⟨3,64,.val ty_0 false,false⟩,e56,⟨16,96,.box ty_17 false,false⟩] 112)else bif Nat.beq p 1022 then some (.cut [⟨3,64,.val ty_0 false,false⟩,e56,⟨16,96,.box ty_17 false,false⟩] 112)else none,0,[]⟩
theorem q156K(k:Nat):Contract Tryz.prog 215 (q156V k):=ctr (q156C k) (rs := [(ty_1,true),(.bool,false)]) (ps:=q156p) (q156F k) Tryz.f215 64 ⟨tyOf_ok tys_ok,gOf_ok ⟨q108K,q110K,q107K,q155K k,q124K k,q137K k,q111K k,trivial⟩⟩ (annl [] trivial)

noncomputable def q157V(k:Nat):Variant:=⟨[.val ty_14 false,.val ty_0 false],[(ty_14,false),(.bool,false)],fun x=>impl_roundedInverse k x.1 x.2.1⟩
noncomputable def q157C(k:Nat):Cfg:=⟨Tryz.prog,tyOf tys,77,gOf [(213,[],q151V k),(214,[],q152V k),(215,[],q156V k),(128,[],q120V)],false,[11,44,51],[]⟩
def q157i1:List PE := [⟨38,48,.same 8,false⟩,⟨44,64,.same 11,false⟩,⟨11,32,.vw 8,false⟩,⟨1,80,.val ty_0 false,false⟩,⟨6,96,.box .bool false,false⟩,⟨7,112,.box ty_1 false,false⟩,⟨8,128,.eat ty_11,false⟩,⟨39,144,.val ty_0 false,false⟩,⟨40,160,.val ty_0 false,false⟩,e143,⟨46,192,.val ty_0 false,false⟩]
def q157o1:List PE := [⟨38,32,.same 8,false⟩,e4,e130,⟨7,80,.box ty_1 false,false⟩,⟨8,96,.eat ty_11,false⟩,⟨39,112,.val ty_0 false,false⟩,⟨40,128,.val ty_0 false,false⟩]
noncomputable def q157f1(k:Nat)(n:Nat)(x5:PTe q157i1):=impl_roundedInverse_L129638 k n x5.1 x5.2.1 x5.2.2.1 x5.2.2.2.1 x5.2.2.2.2.1 x5.2.2.2.2.2.1 x5.2.2.2.2.2.2.1 x5.2.2.2.2.2.2.2.1 x5.2.2.2.2.2.2.2.2.1 x5.2.2.2.2.2.2.2.2.2.1 x5.2.2.2.2.2.2.2.2.2.2.1
def q157i2:List PE := [⟨38,32,.same 8,false⟩,e4,e130,⟨7,80,.box ty_1 false,false⟩,⟨8,96,.eat ty_11,false⟩,⟨39,112,.val ty_0 false,false⟩,⟨40,128,.val ty_0 false,false⟩]
def q157o2:List PE := [e144,⟨8,48,.eat ty_11,false⟩]
noncomputable def q157f2(k:Nat)(n:Nat)(x8:PTe q157i2):=impl_roundedInverse_L506 k n x8.1 x8.2.1 x8.2.2.1 x8.2.2.2.1 x8.2.2.2.2.1 x8.2.2.2.2.2.1 x8.2.2.2.2.2.2.1
def q157p:List PE := [e76,e2]
noncomputable def q157F(k:Nat):F11:=⟨q157C k,rr q157p [(ty_14,false),(.bool,false)] Tryz.f172,fun p=>bif Nat.beq p 129638 then some (.loop q157i1 q157o1 2 208 (q157f1 k k))else bif Nat.beq p 506 then some (.loop q157i2 q157o2 0 144 (q157f2 k k))else none,0,[]⟩
theorem q157K(k:Nat):Contract Tryz.prog 172 (q157V k):=ctr (q157C k) (rs := [(ty_14,false),(.bool,false)]) (ps:=q157p) (q157F k) Tryz.f172 32 ⟨tyOf_ok tys_ok,gOf_ok ⟨q151K k,q152K k,q156K k,q120K,trivial⟩⟩ (annl [506,129638] ⟨lok q157i2 q157o2 0 144 (q157f2 k) k,lok q157i1 q157o1 2 208 (q157f1 k) k,trivial⟩)

noncomputable def q158V(k:Nat):Variant:=⟨[.val ty_5 false,.ptr ty_9 false],[(ty_14,false),(.bool,false)],fun x=>impl_inverseJacobian k x.1 x.2.1⟩
noncomputable def q158C(k:Nat):Cfg:=⟨Tryz.prog,tyOf tys,20,gOf [(171,[],q146V k),(172,[],q157V k)],false,[],[]⟩
def q158p:List PE := [e7,e116]
noncomputable def q158F(k:Nat):F11:=⟨q158C k,rr q158p [(ty_14,false),(.bool,false)] Tryz.f108,fun p=>none,0,[]⟩
theorem q158K(k:Nat):Contract Tryz.prog 108 (q158V k):=ctr (q158C k) (rs := [(ty_14,false),(.bool,false)]) (ps:=q158p) (q158F k) Tryz.f108 32 ⟨tyOf_ok tys_ok,gOf_ok ⟨q146K k,q157K k,trivial⟩⟩ (annl [] trivial)

noncomputable def q159V(k:Nat):Variant:=⟨[.ptr ty_9 false],[(ty_11,false)],fun x=>impl_Box_middle k x.1⟩
noncomputable def q159C(k:Nat):Cfg:=⟨Tryz.prog,tyOf tys,46,gOf [(146,[],q108V),(183,[],q111V k)],false,[],[]⟩
def q159i1:List PE := [e114,⟨3,32,.eat ty_1,false⟩,⟨11,48,.val ty_0 false,false⟩,⟨12,64,.val ty_0 false,false⟩]
def q159o1:List PE := [⟨3,16,.eat ty_1,false⟩]
noncomputable def q159f1(k:Nat)(n:Nat)(x3:PTe q159i1):=impl_Box_middle_L58 k n x3.1 x3.2.1 x3.2.2.1 x3.2.2.2.1
def q159p:List PE := [e115]
noncomputable def q159F(k:Nat):F12:=⟨q159C k,rr q159p [(ty_11,false)] Tryz.f127,fun p=>bif Nat.beq p 58 then some (.loop q159i1 q159o1 0 80 (q159f1 k k))else none,0,[]⟩
theorem q159K(k:Nat):Contract Tryz.prog 127 (q159V k):=ctr (q159C k) (rs := [(ty_11,false)]) (ps:=q159p) (q159F k) Tryz.f127 16 ⟨tyOf_ok tys_ok,gOf_ok ⟨q108K,q111K k,trivial⟩⟩ (annl [58] ⟨lok q159i1 q159o1 0 80 (q159f1 k) k,trivial⟩)

noncomputable def q160V(k:Nat):Variant:=⟨[.val ty_4 false,.val ty_11 false],[(ty_0,false)],fun x=>impl_scaledAt k x.1 x.2.1⟩
noncomputable def q160C(k:Nat):Cfg:=⟨Tryz.prog,tyOf tys,54,gOf [(223,[],q84V),(207,[],q91V)],false,[],[]⟩
def q160i1:List PE := [e90,e25,e30,e26,⟨11,96,.val ty_4 false,false⟩,⟨12,112,.val ty_0 false,false⟩,⟨13,128,.val ty_0 false,false⟩,⟨25,144,.val ty_2 true,false⟩,⟨26,160,.val ty_0 false,false⟩,⟨30,176,.val ty_0 false,false⟩,⟨31,192,.val ty_0 false,false⟩]
def q160o1:List PE := [e90,e25,e30,e145,e39,e146,⟨25,128,.val ty_2 true,false⟩,⟨26,144,.val ty_0 false,false⟩]
noncomputable def q160f1(k:Nat)(n:Nat)(x3:PTe q160i1):=impl_scaledAt_L15309414 k n x3.1 x3.2.1 x3.2.2.1 x3.2.2.2.1 x3.2.2.2.2.1 x3.2.2.2.2.2.1 x3.2.2.2.2.2.2.1 x3.2.2.2.2.2.2.2.1 x3.2.2.2.2.2.2.2.2.1 x3.2.2.2.2.2.2.2.2.2.1 x3.2.2.2.2.2.2.2.2.2.2.1
def q160i2:List PE := [e90,e25,e30,e145,e39,e146,⟨25,128,.val ty_2 true,false⟩,⟨26,144,.val ty_0 false,false⟩]
def q160o2:List PE := [e90,e25,e30,e145,e39,e146]
noncomputable def q160f2(k:Nat)(n:Nat)(x12:PTe q160i2):=impl_scaledAt_L59802 k n x12.1 x12.2.1 x12.2.2.1 x12.2.2.2.1 x12.2.2.2.2.1 x12.2.2.2.2.2.1 x12.2.2.2.2.2.2.1 x12.2.2.2.2.2.2.2.1
def q160i3:List PE := [e90,e25,⟨11,64,.val ty_4 false,false⟩,e70,e71]
def q160o3:List PE := [⟨5,32,.val ty_0 false,false⟩]
noncomputable def q160f3(k:Nat)(n:Nat)(x15:PTe q160i3):=impl_scaledAt_L58 k n x15.1 x15.2.1 x15.2.2.1 x15.2.2.2.1 x15.2.2.2.2.1
def q160p:List PE := [e1,e98]
noncomputable def q160F(k:Nat):F1:=⟨q160C k,rr q160p [(ty_0,false)] Tryz.f184,fun p=>bif Nat.beq p 15309414 then some (.loop q160i1 q160o1 4 208 (q160f1 k k))else bif Nat.beq p 59802 then some (.loop q160i2 q160o2 2 160 (q160f2 k k))else bif Nat.beq p 58 then some (.loop q160i3 q160o3 0 112 (q160f3 k k))else none,0,[]⟩
theorem q160K(k:Nat):Contract Tryz.prog 184 (q160V k):=ctr (q160C k) (rs := [(ty_0,false)]) (ps:=q160p) (q160F k) Tryz.f184 32 ⟨tyOf_ok tys_ok,gOf_ok ⟨q84K,q91K,trivial⟩⟩ (annl [58,59802,15309414] ⟨lok q160i3 q160o3 0 112 (q160f3 k) k,lok q160i2 q160o2 2 160 (q160f2 k) k,lok q160i1 q160o1 4 208 (q160f1 k) k,trivial⟩)

noncomputable def q161V(k:Nat):Variant:=⟨[.val ty_4 false,.val ty_11 false],[(ty_1,true),(.bool,false)],fun x=>impl_valueAt k x.1 x.2.1⟩
noncomputable def q161C(k:Nat):Cfg:=⟨Tryz.prog,tyOf tys,13,gOf [(184,[],q160V k),(146,[],q108V),(183,[],q111V k)],false,[],[]⟩
def q161p:List PE := [e1,e98]
noncomputable def q161F(k:Nat):F4:=⟨q161C k,rr q161p [(ty_1,true),(.bool,false)] Tryz.f129,fun p=>none,0,[]⟩
theorem q161K(k:Nat):Contract Tryz.prog 129 (q161V k):=ctr (q161C k) (rs := [(ty_1,true),(.bool,false)]) (ps:=q161p) (q161F k) Tryz.f129 32 ⟨tyOf_ok tys_ok,gOf_ok ⟨q160K k,q108K,q111K k,trivial⟩⟩ (annl [] trivial)

noncomputable def q162V(k:Nat):Variant:=⟨[.ptr .bool true,.val ty_11 false,.val ty_11 false],[(ty_1,true)],fun x=>impl_reckoner_inner k x.1 x.2.1 x.2.2.1⟩
noncomputable def q162C(k:Nat):Cfg:=⟨Tryz.prog,tyOf tys,31,gOf [(190,[],q121V k),(116,[],q150V k)],false,[],[]⟩
def q162i1:List PE := [e127,e88,⟨2,64,.val ty_11 false,false⟩,⟨6,80,.box ty_1 false,false⟩,⟨7,96,.eat ty_1,false⟩,⟨10,112,.val ty_0 false,false⟩,⟨11,128,.val ty_0 false,false⟩]
def q162o1:List PE := [e127,e44,e136]
noncomputable def q162f1(k:Nat)(n:Nat)(x2:PTe q162i1):=impl_reckoner_inner_L58 k n x2.1 x2.2.1 x2.2.2.1 x2.2.2.2.1 x2.2.2.2.2.1 x2.2.2.2.2.2.1 x2.2.2.2.2.2.2.1
def q162p:List PE := [e127,e98,⟨2,32,.val ty_11 false,false⟩]
noncomputable def q162F(k:Nat):F4:=⟨q162C k,rr q162p [(ty_1,true)] Tryz.f185,fun p=>bif Nat.beq p 58 then some (.loop q162i1 q162o1 0 144 (q162f1 k k))else none,0,[0]⟩
theorem q162K(k:Nat):Contract Tryz.prog 185 (q162V k):=ctr (q162C k) (rs := [(ty_1,true)]) (ps:=q162p) (q162F k) Tryz.f185 48 ⟨tyOf_ok tys_ok,gOf_ok ⟨q121K k,q150K k,trivial⟩⟩ (annl [58] ⟨lok q162i1 q162o1 0 144 (q162f1 k) k,trivial⟩)

noncomputable def q163V(k:Nat):Variant:=⟨[.val ty_14 false,.val ty_11 false],[(ty_11,false),(.bool,false)],fun x=>impl_timesPoint k x.1 x.2.1⟩
noncomputable def q163C(k:Nat):Cfg:=⟨Tryz.prog,tyOf tys,32,gOf [(185,[],q162V k)],false,[],[]⟩
def q163i1:List PE := [e90,⟨6,48,.box .bool false,false⟩,e136,⟨12,80,.val ty_14 false,false⟩,e71,e147]
def q163o1:List PE := [e144,⟨7,48,.eat ty_1,false⟩]
noncomputable def q163f1(k:Nat)(n:Nat)(x2:PTe q163i1):=impl_timesPoint_L122 k n x2.1 x2.2.1 x2.2.2.1 x2.2.2.2.1 x2.2.2.2.2.1 x2.2.2.2.2.2.1
def q163p:List PE := [e76,e98]
noncomputable def q163F(k:Nat):F13:=⟨q163C k,rr q163p [(ty_11,false),(.bool,false)] Tryz.f130,fun p=>bif Nat.beq p 122 then some (.loop q163i1 q163o1 0 128 (q163f1 k k))else none,0,[]⟩
theorem q163K(k:Nat):Contract Tryz.prog 130 (q163V k):=ctr (q163C k) (rs := [(ty_11,false),(.bool,false)]) (ps:=q163p) (q163F k) Tryz.f130 32 ⟨tyOf_ok tys_ok,gOf_ok ⟨q162K k,trivial⟩⟩ (annl [122] ⟨lok q163i1 q163o1 0 128 (q163f1 k) k,trivial⟩)

noncomputable def q164V(k:Nat):Variant:=⟨[.val ty_5 false,.ptr ty_9 false],[(ty_11,false),(.bool,false)],fun x=>impl_newtonPoint k x.1 x.2.1⟩
noncomputable def q164C(k:Nat):Cfg:=⟨Tryz.prog,tyOf tys,86,gOf [(108,[],q158V k),(127,[],q159V k),(129,[],q161V k),(128,[],q120V),(130,[],q163V k),(115,[],q131V),(131,[],q139V k)],false,[],[]⟩
def q164i1:List PE := [⟨6,32,.eat ty_11,false⟩,e148,⟨9,64,.box .bool false,false⟩,e107,⟨29,96,.val ty_5 false,false⟩,⟨30,112,.val ty_0 false,false⟩,e95]
def q164o1:List PE := [⟨6,32,.eat ty_11,false⟩,e148,⟨9,64,.box .bool false,false⟩,e107]
noncomputable def q164f1(k:Nat)(n:Nat)(x5:PTe q164i1):=impl_newtonPoint_L1018 k n x5.1 x5.2.1 x5.2.2.1 x5.2.2.2.1 x5.2.2.2.2.1 x5.2.2.2.2.2.1 x5.2.2.2.2.2.2.1
def q164i2:List PE := [⟨9,32,.box .bool false,false⟩,⟨13,48,.eat ty_1,false⟩,⟨14,64,.eat ty_1,false⟩,⟨61,80,.eat ty_1,false⟩,⟨62,96,.val ty_0 false,false⟩,⟨63,112,.val ty_0 false,false⟩]
def q164o2:List PE := [⟨9,32,.box .bool false,false⟩,⟨14,48,.eat ty_1,false⟩]
noncomputable def q164f2(k:Nat)(n:Nat)(x11:PTe q164i2):=impl_newtonPoint_L16378 k n x11.1 x11.2.1 x11.2.2.1 x11.2.2.2.1 x11.2.2.2.2.1 x11.2.2.2.2.2.1
def q164p:List PE := [e7,e116]
noncomputable def q164F(k:Nat):F13:=⟨q164C k,rr q164p [(ty_11,false),(.bool,false)] Tryz.f77,fun p=>bif Nat.beq p 1018 then some (.loop q164i1 q164o1 0 144 (q164f1 k k))else bif Nat.beq p 16378 then some (.loop q164i2 q164o2 2 128 (q164f2 k k))else none,0,[]⟩
theorem q164K(k:Nat):Contract Tryz.prog 77 (q164V k):=ctr (q164C k) (rs := [(ty_11,false),(.bool,false)]) (ps:=q164p) (q164F k) Tryz.f77 32 ⟨tyOf_ok tys_ok,gOf_ok ⟨q158K k,q159K k,q161K k,q120K,q163K k,q131K,q139K k,trivial⟩⟩ (annl [1018,16378] ⟨lok q164i1 q164o1 0 144 (q164f1 k) k,lok q164i2 q164o2 2 128 (q164f2 k) k,trivial⟩)

noncomputable def q165V(k:Nat):Variant:=⟨[.val ty_14 false,.val ty_13 false],[(ty_13,false),(.bool,false)],fun x=>impl_timesIntervals k x.1 x.2.1⟩
noncomputable def q165C(k:Nat):Cfg:=⟨Tryz.prog,tyOf tys,82,gOf [(111,[],q116V),(136,[],q134V k),(135,[],q140V k)],false,[],[]⟩
def q165i1:List PE := [e149,e150,e130,e151,e28,e152,⟨10,128,.val ty_0 false,false⟩,⟨11,144,.box ty_10 false,false⟩,⟨12,160,.val ty_0 false,false⟩,⟨16,176,.val ty_0 false,false⟩,⟨17,192,.val ty_0 false,false⟩,⟨21,208,.val ty_0 false,false⟩,⟨22,224,.val ty_0 false,false⟩]
def q165o1:List PE := [e149,e150,e130,e151,e28,e152,⟨11,128,.box ty_10 false,false⟩,⟨16,144,.val ty_0 false,false⟩,⟨17,160,.val ty_0 false,false⟩,⟨21,176,.val ty_0 false,false⟩,⟨22,192,.val ty_0 false,false⟩]
noncomputable def q165f1(k:Nat)(n:Nat)(x6:PTe q165i1):=impl_timesIntervals_L128346522 k n x6.1 x6.2.1 x6.2.2.1 x6.2.2.2.1 x6.2.2.2.2.1 x6.2.2.2.2.2.1 x6.2.2.2.2.2.2.1 x6.2.2.2.2.2.2.2.1 x6.2.2.2.2.2.2.2.2.1 x6.2.2.2.2.2.2.2.2.2.1 x6.2.2.2.2.2.2.2.2.2.2.1 x6.2.2.2.2.2.2.2.2.2.2.2.1 x6.2.2.2.2.2.2.2.2.2.2.2.2.1
def q165i2:List PE := [e149,e150,e130,e151,e28,e152,⟨16,128,.val ty_0 false,false⟩,⟨17,144,.val ty_0 false,false⟩,⟨21,160,.val ty_0 false,false⟩,⟨22,176,.val ty_0 false,false⟩]
def q165o2:List PE := [e149,e150,e130,e151,⟨9,96,.eat ty_10,false⟩,⟨16,112,.val ty_0 false,false⟩,e93]
noncomputable def q165f2(k:Nat)(n:Nat)(x9:PTe q165i2):=impl_timesIntervals_L125338 k n x9.1 x9.2.1 x9.2.2.1 x9.2.2.2.1 x9.2.2.2.2.1 x9.2.2.2.2.2.1 x9.2.2.2.2.2.2.1 x9.2.2.2.2.2.2.2.1 x9.2.2.2.2.2.2.2.2.1 x9.2.2.2.2.2.2.2.2.2.1
def q165i3:List PE := [e149,e150,e130,e151,⟨16,96,.val ty_0 false,false⟩,e113]
def q165o3:List PE := [e144,⟨7,48,.eat ty_12,false⟩]
noncomputable def q165f3(k:Nat)(n:Nat)(x12:PTe q165i3):=impl_timesIntervals_L122 k n x12.1 x12.2.1 x12.2.2.1 x12.2.2.2.1 x12.2.2.2.2.1 x12.2.2.2.2.2.1
def q165p:List PE := [e76,⟨1,16,.val ty_13 false,false⟩]
noncomputable def q165F(k:Nat):F10:=⟨q165C k,rr q165p [(ty_13,false),(.bool,false)] Tryz.f110,fun p=>bif Nat.beq p 128346522 then some (.loop q165i1 q165o1 4 240 (q165f1 k k))else bif Nat.beq p 125338 then some (.loop q165i2 q165o2 2 192 (q165f2 k k))else bif Nat.beq p 122 then some (.loop q165i3 q165o3 0 128 (q165f3 k k))else none,0,[]⟩
theorem q165K(k:Nat):Contract Tryz.prog 110 (q165V k):=ctr (q165C k) (rs := [(ty_13,false),(.bool,false)]) (ps:=q165p) (q165F k) Tryz.f110 32 ⟨tyOf_ok tys_ok,gOf_ok ⟨q116K,q134K k,q140K k,trivial⟩⟩ (annl [122,125338,128346522] ⟨lok q165i3 q165o3 0 128 (q165f3 k) k,lok q165i2 q165o2 2 192 (q165f2 k) k,lok q165i1 q165o1 4 240 (q165f1 k) k,trivial⟩)

noncomputable def q166V(k:Nat):Variant:=⟨[.ptr .bool true,.val ty_10 true,.val ty_10 true],[(ty_10,true)],fun x=>impl_reckoner_subtract k x.1 x.2.1 x.2.2.1⟩
noncomputable def q166C(k:Nat):Cfg:=⟨Tryz.prog,tyOf tys,22,gOf [(115,[],q131V),(131,[],q139V k)],false,[],[]⟩
def q166p:List PE := [e127,e60,e129]
noncomputable def q166F(k:Nat):F8:=⟨q166C k,rr q166p [(ty_10,true)] Tryz.f113,fun p=>none,0,[0]⟩
theorem q166K(k:Nat):Contract Tryz.prog 113 (q166V k):=ctr (q166C k) (rs := [(ty_10,true)]) (ps:=q166p) (q166F k) Tryz.f113 48 ⟨tyOf_ok tys_ok,gOf_ok ⟨q131K,q139K k,trivial⟩⟩ (annl [] trivial)

noncomputable def q167V(k:Nat):Variant:=⟨[.val ty_5 false,.ptr ty_9 false],[(ty_13,false),(.bool,false)],fun x=>impl_remainderTable k x.1 x.2.1⟩
noncomputable def q167C(k:Nat):Cfg:=⟨Tryz.prog,tyOf tys,81,gOf [(108,[],q158V k),(109,[],q144V k),(110,[],q165V k),(112,[],q115V),(111,[],q116V),(113,[],q166V k)],false,[14,63,67],[]⟩
def q167i1:List PE := [⟨45,48,.same 10,false⟩,⟨14,32,.vw 10,false⟩,⟨10,64,.eat ty_12,false⟩,⟨12,80,.box .bool false,false⟩,e71,⟨46,112,.val ty_0 false,false⟩,⟨47,128,.val ty_0 false,false⟩,⟨53,144,.val ty_0 false,false⟩,⟨54,160,.val ty_0 false,false⟩]
def q167o1:List PE := [⟨45,32,.same 10,false⟩,⟨10,48,.eat ty_12,false⟩,⟨12,64,.box .bool false,false⟩,⟨46,80,.val ty_0 false,false⟩,⟨47,96,.val ty_0 false,false⟩]
noncomputable def q167f1(k:Nat)(n:Nat)(x9:PTe q167i1):=impl_remainderTable_L522854 k n x9.1 x9.2.1 x9.2.2.1 x9.2.2.2.1 x9.2.2.2.2.1 x9.2.2.2.2.2.1 x9.2.2.2.2.2.2.1 x9.2.2.2.2.2.2.2.1 x9.2.2.2.2.2.2.2.2.1
def q167i2:List PE := [⟨45,32,.same 10,false⟩,⟨10,48,.eat ty_12,false⟩,⟨12,64,.box .bool false,false⟩,⟨46,80,.val ty_0 false,false⟩,⟨47,96,.val ty_0 false,false⟩]
def q167o2:List PE := [⟨10,32,.eat ty_12,false⟩,⟨12,48,.box .bool false,false⟩]
noncomputable def q167f2(k:Nat)(n:Nat)(x12:PTe q167i2):=impl_remainderTable_L2042 k n x12.1 x12.2.1 x12.2.2.1 x12.2.2.2.1 x12.2.2.2.2.1
def q167p:List PE := [e7,e116]
noncomputable def q167F(k:Nat):F10:=⟨q167C k,rr q167p [(ty_13,false),(.bool,false)] Tryz.f72,fun p=>bif Nat.beq p 133850726 then some (.cut [⟨45,48,.same 10,false⟩,⟨14,32,.vw 10,false⟩,⟨10,64,.eat ty_12,false⟩,⟨12,80,.box .bool false,false⟩,e71,⟨15,112,.val ty_0 false,false⟩,e153,⟨46,144,.val ty_0 false,false⟩,⟨47,160,.val ty_0 false,false⟩,⟨53,176,.val ty_0 false,false⟩,⟨54,192,.val ty_0 false,false⟩] 208)else bif Nat.beq p 522854 then some (.loop q167i1 q167o1 2 176 (q167f1 k k))else bif Nat.beq p 2042 then some (.loop q167i2 q167o2 0 112 (q167f2 k k))else none,0,[]⟩
theorem q167K(k:Nat):Contract Tryz.prog 72 (q167V k):=ctr (q167C k) (rs := [(ty_13,false),(.bool,false)]) (ps:=q167p) (q167F k) Tryz.f72 32 ⟨tyOf_ok tys_ok,gOf_ok ⟨q158K k,q144K k,q165K k,q115K,q116K,q166K k,trivial⟩⟩ (annl [2042,522854] ⟨lok q167i2 q167o2 0 112 (q167f2 k) k,lok q167i1 q167o1 2 176 (q167f1 k) k,trivial⟩)

noncomputable def q168V(k:Nat):Variant:=⟨[.val ty_5 false,.ptr ty_9 false],[(ty_12,false),(.bool,false)],fun x=>impl_newtonImage k x.1 x.2.1⟩
noncomputable def q168C(k:Nat):Cfg:=⟨Tryz.prog,tyOf tys,94,gOf [(77,[],q164V k),(72,[],q167V k),(127,[],q159V k),(87,[],q114V k),(111,[],q116V),(113,[],q166V k),(136,[],q134V k),(135,[],q140V k)],false,[],[]⟩
def q168i1:List PE := [e99,e154,e155,e156,e157,e147,e153,⟨43,144,.val ty_13 false,false⟩,⟨44,160,.val ty_0 false,false⟩,e143,⟨51,192,.val ty_12 false,false⟩,⟨52,208,.val ty_0 false,false⟩,⟨53,224,.val ty_0 false,false⟩]
def q168o1:List PE := [e99,e154,e155,e156,e157,e147,e153,⟨43,144,.val ty_13 false,false⟩,⟨44,160,.val ty_0 false,false⟩,e143]
noncomputable def q168f1(k:Nat)(n:Nat)(x9:PTe q168i1):=impl_newtonImage_L2091418 k n x9.1 x9.2.1 x9.2.2.1 x9.2.2.2.1 x9.2.2.2.2.1 x9.2.2.2.2.2.1 x9.2.2.2.2.2.2.1 x9.2.2.2.2.2.2.2.1 x9.2.2.2.2.2.2.2.2.1 x9.2.2.2.2.2.2.2.2.2.1 x9.2.2.2.2.2.2.2.2.2.2.1 x9.2.2.2.2.2.2.2.2.2.2.2.1 x9.2.2.2.2.2.2.2.2.2.2.2.2.1
def q168i2:List PE := [e99,e154,e155,e156,e157,⟨43,112,.val ty_13 false,false⟩,⟨44,128,.val ty_0 false,false⟩,⟨45,144,.val ty_0 false,false⟩]
def q168o2:List PE := [⟨10,32,.box .bool false,false⟩,⟨13,48,.eat ty_10,false⟩]
noncomputable def q168f2(k:Nat)(n:Nat)(x14:PTe q168i2):=impl_newtonImage_L2042 k n x14.1 x14.2.1 x14.2.2.1 x14.2.2.2.1 x14.2.2.2.2.1 x14.2.2.2.2.2.1 x14.2.2.2.2.2.2.1 x14.2.2.2.2.2.2.2.1
def q168p:List PE := [e7,e116]
noncomputable def q168F(k:Nat):F9:=⟨q168C k,rr q168p [(ty_12,false),(.bool,false)] Tryz.f81,fun p=>bif Nat.beq p 2091418 then some (.loop q168i1 q168o1 2 240 (q168f1 k k))else bif Nat.beq p 2042 then some (.loop q168i2 q168o2 0 160 (q168f2 k k))else none,0,[]⟩
theorem q168K(k:Nat):Contract Tryz.prog 81 (q168V k):=ctr (q168C k) (rs := [(ty_12,false),(.bool,false)]) (ps:=q168p) (q168F k) Tryz.f81 32 ⟨tyOf_ok tys_ok,gOf_ok ⟨q164K k,q167K k,q159K k,q114K k,q116K,q166K k,q134K k,q140K k,trivial⟩⟩ (annl [2042,2091418] ⟨lok q168i2 q168o2 0 160 (q168f2 k) k,lok q168i1 q168o1 2 240 (q168f1 k) k,trivial⟩)

noncomputable def q169V(k:Nat):Variant:=⟨[.val ty_13 false],[(.bool,false),(.bool,false)],fun x=>impl_isShrinking k x.1⟩
noncomputable def q169C(k:Nat):Cfg:=⟨Tryz.prog,tyOf tys,63,gOf [(115,[],q131V),(114,[],q128V k),(116,[],q150V k),(112,[],q115V),(91,[],q126V k)],false,[],[]⟩
def q169i1:List PE := [e137,e158,e148,e110,e51,e52,⟨19,112,.val ty_12 false,false⟩,e74,⟨21,144,.val ty_0 false,false⟩]
def q169o1:List PE := [e137,e158,e148,e110,e51,e52]
noncomputable def q169f1(k:Nat)(n:Nat)(x6:PTe q169i1):=impl_isShrinking_L125338 k n x6.1 x6.2.1 x6.2.2.1 x6.2.2.2.1 x6.2.2.2.2.1 x6.2.2.2.2.2.1 x6.2.2.2.2.2.2.1 x6.2.2.2.2.2.2.2.1 x6.2.2.2.2.2.2.2.2.1
def q169i2:List PE := [e137,e158,e109,e48,e49]
def q169o2:List PE := [e137,e158]
noncomputable def q169f2(k:Nat)(n:Nat)(x12:PTe q169i2):=impl_isShrinking_L122 k n x12.1 x12.2.1 x12.2.2.1 x12.2.2.2.1 x12.2.2.2.2.1
def q169p:List PE := [e75]
noncomputable def q169F(k:Nat):Fn (Bool×Bool):=⟨q169C k,rr q169p [(.bool,false),(.bool,false)] Tryz.f73,fun p=>bif Nat.beq p 125338 then some (.loop q169i1 q169o1 2 160 (q169f1 k k))else bif Nat.beq p 122 then some (.loop q169i2 q169o2 0 96 (q169f2 k k))else none,0,[]⟩
theorem q169K(k:Nat):Contract Tryz.prog 73 (q169V k):=ctr (q169C k) (rs := [(.bool,false),(.bool,false)]) (ps:=q169p) (q169F k) Tryz.f73 16 ⟨tyOf_ok tys_ok,gOf_ok ⟨q131K,q128K k,q150K k,q115K,q126K k,trivial⟩⟩ (annl [122,125338] ⟨lok q169i2 q169o2 0 96 (q169f2 k) k,lok q169i1 q169o1 2 160 (q169f1 k) k,trivial⟩)

noncomputable def q170V(k:Nat):Variant:=⟨[.val ty_10 true,.val ty_10 true],[(ty_10,true),(.bool,false)],fun x=>impl_commonPart k x.1 x.2.1⟩
noncomputable def q170C(k:Nat):Cfg:=⟨Tryz.prog,tyOf tys,26,gOf [(114,[],q128V k),(143,[],q127V k),(91,[],q126V k)],false,[],[]⟩
def q170p:List PE := [e45,e60]
noncomputable def q170F(k:Nat):F8:=⟨q170C k,rr q170p [(ty_10,true),(.bool,false)] Tryz.f88,fun p=>none,0,[]⟩
theorem q170K(k:Nat):Contract Tryz.prog 88 (q170V k):=ctr (q170C k) (rs := [(ty_10,true),(.bool,false)]) (ps:=q170p) (q170F k) Tryz.f88 32 ⟨tyOf_ok tys_ok,gOf_ok ⟨q128K k,q127K k,q126K k,trivial⟩⟩ (annl [] trivial)

noncomputable def q171V(k:Nat):Variant:=⟨[.val ty_5 false,.ptr ty_9 false],[(ty_0,false),(.bool,false)],fun x=>impl_newtonKind k x.1 x.2.1⟩
noncomputable def q171C(k:Nat):Cfg:=⟨Tryz.prog,tyOf tys,89,gOf [(81,[],q168V k),(72,[],q167V k),(73,[],q169V k),(87,[],q114V k),(88,[],q170V k),(91,[],q126V k)],false,[],[]⟩
def q171i1:List PE := [e68,⟨10,48,.val .bool false,false⟩,⟨12,64,.val .bool false,false⟩,⟨43,80,.eat ty_10,false⟩,⟨44,96,.val ty_0 false,false⟩,⟨45,112,.val ty_0 false,false⟩]
def q171o1:List PE := [⟨10,32,.val .bool false,false⟩,⟨12,48,.val .bool false,false⟩]
noncomputable def q171f1(k:Nat)(n:Nat)(x8:PTe q171i1):=impl_newtonKind_L2042 k n x8.1 x8.2.1 x8.2.2.1 x8.2.2.2.1 x8.2.2.2.2.1 x8.2.2.2.2.2.1
def q171p:List PE := [e7,e116]
noncomputable def q171F(k:Nat):Fn (Int×Bool):=⟨q171C k,rr q171p [(ty_0,false),(.bool,false)] Tryz.f63,fun p=>bif Nat.beq p 2042 then some (.loop q171i1 q171o1 0 128 (q171f1 k k))else none,0,[]⟩
theorem q171K(k:Nat):Contract Tryz.prog 63 (q171V k):=ctr (q171C k) (rs := [(ty_0,false),(.bool,false)]) (ps:=q171p) (q171F k) Tryz.f63 32 ⟨tyOf_ok tys_ok,gOf_ok ⟨q168K k,q167K k,q169K k,q114K k,q170K k,q126K k,trivial⟩⟩ (annl [2042] ⟨lok q171i1 q171o1 0 128 (q171f1 k) k,trivial⟩)

noncomputable def q172V(k:Nat):Variant:=⟨[.val ty_5 false,.ptr ty_9 false],[(ty_12,false),(.bool,false)],fun x=>impl_narrowedSides k x.1 x.2.1⟩
noncomputable def q172C(k:Nat):Cfg:=⟨Tryz.prog,tyOf tys,46,gOf [(81,[],q168V k),(87,[],q114V k),(88,[],q170V k)],false,[],[]⟩
def q172i1:List PE := [e68,⟨8,48,.eat ty_10,false⟩,⟨22,64,.eat ty_10,false⟩,⟨23,80,.val ty_0 false,false⟩,⟨24,96,.val ty_0 false,false⟩]
def q172o1:List PE := [⟨8,32,.eat ty_10,false⟩]
noncomputable def q172f1(k:Nat)(n:Nat)(x4:PTe q172i1):=impl_narrowedSides_L250 k n x4.1 x4.2.1 x4.2.2.1 x4.2.2.2.1 x4.2.2.2.2.1
def q172p:List PE := [e7,e116]
noncomputable def q172F(k:Nat):F9:=⟨q172C k,rr q172p [(ty_12,false),(.bool,false)] Tryz.f56,fun p=>bif Nat.beq p 250 then some (.loop q172i1 q172o1 0 112 (q172f1 k k))else none,0,[]⟩
theorem q172K(k:Nat):Contract Tryz.prog 56 (q172V k):=ctr (q172C k) (rs := [(ty_12,false),(.bool,false)]) (ps:=q172p) (q172F k) Tryz.f56 32 ⟨tyOf_ok tys_ok,gOf_ok ⟨q168K k,q114K k,q170K k,trivial⟩⟩ (annl [250] ⟨lok q172i1 q172o1 0 112 (q172f1 k) k,trivial⟩)

noncomputable def q173V(k:Nat):Variant:=⟨[.val ty_5 false,.val ty_9 true],[(ty_12,false),(.bool,false)],fun x=>impl_ZeroSides k x.1 x.2.1⟩
noncomputable def q173C(k:Nat):Cfg:=⟨Tryz.prog,tyOf tys,26,gOf [(55,[],q96V k),(63,[],q171V k),(56,[],q172V k)],false,[],[]⟩
def q173p:List PE := [e7,e34]
noncomputable def q173F(k:Nat):F9:=⟨q173C k,rr q173p [(ty_12,false),(.bool,false)] Tryz.f25,fun p=>none,0,[]⟩
theorem q173K(k:Nat):Contract Tryz.prog 25 (q173V k):=ctr (q173C k) (rs := [(ty_12,false),(.bool,false)]) (ps:=q173p) (q173F k) Tryz.f25 32 ⟨tyOf_ok tys_ok,gOf_ok ⟨q96K k,q171K k,q172K k,trivial⟩⟩ (annl [] trivial)

noncomputable def q174V:Variant:=⟨[.val ty_1 true,.val ty_1 true],[(.bool,false)],fun x=>laws_eqDyadic x.1 x.2.1⟩
noncomputable def q174C:Cfg:=⟨Tryz.prog,tyOf tys,15,gOf [],false,[],[]⟩
def q174p:List PE := [e35,e42]
noncomputable def q174F:F3:=⟨q174C,rr q174p [(.bool,false)] Tryz.f78,fun p=>none,0,[]⟩
theorem q174K:Contract Tryz.prog 78 (q174V):=ctr q174C (rs := [(.bool,false)]) (ps:=q174p) q174F Tryz.f78 32 ⟨tyOf_ok tys_ok,gOf_ok trivial⟩ (annl [] trivial)

noncomputable def q175V:Variant:=⟨[.val ty_10 true,.val ty_10 true],[(.bool,false)],fun x=>laws_eqInterval x.1 x.2.1⟩
noncomputable def q175C:Cfg:=⟨Tryz.prog,tyOf tys,17,gOf [(78,[],q174V)],false,[],[]⟩
def q175p:List PE := [e45,e60]
noncomputable def q175F:F3:=⟨q175C,rr q175p [(.bool,false)] Tryz.f57,fun p=>none,0,[]⟩
theorem q175K:Contract Tryz.prog 57 (q175V):=ctr q175C (rs := [(.bool,false)]) (ps:=q175p) q175F Tryz.f57 32 ⟨tyOf_ok tys_ok,gOf_ok ⟨q174K,trivial⟩⟩ (annl [] trivial)

noncomputable def q176V(k:Nat):Variant:=⟨[.val ty_12 false,.val ty_12 false],[(.bool,false)],fun x=>laws_eqIntervalS k x.1 x.2.1⟩
noncomputable def q176C(k:Nat):Cfg:=⟨Tryz.prog,tyOf tys,27,gOf [(57,[],q175V)],false,[],[]⟩
def q176i1:List PE := [⟨0,32,.val ty_12 false,false⟩,⟨1,48,.val ty_12 false,false⟩,e5]
def q176o1:List PE := []
noncomputable def q176f1(k:Nat)(n:Nat)(x2:PTe q176i1):=laws_eqIntervalS_L58 k n x2.1 x2.2.1 x2.2.2.1
def q176p:List PE := [⟨0,0,.val ty_12 false,false⟩,e67]
noncomputable def q176F(k:Nat):F3:=⟨q176C k,rr q176p [(.bool,false)] Tryz.f17,fun p=>bif Nat.beq p 58 then some (.loop q176i1 q176o1 0 80 (q176f1 k k))else none,0,[]⟩
theorem q176K(k:Nat):Contract Tryz.prog 17 (q176V k):=ctr (q176C k) (rs := [(.bool,false)]) (ps:=q176p) (q176F k) Tryz.f17 32 ⟨tyOf_ok tys_ok,gOf_ok ⟨q175K,trivial⟩⟩ (annl [58] ⟨lok q176i1 q176o1 0 80 (q176f1 k) k,trivial⟩)

noncomputable def q177V:Variant:=⟨[.val ty_3 true,.val ty_3 true],[(.bool,false)],fun x=>laws_eqTerm x.1 x.2.1⟩
noncomputable def q177C:Cfg:=⟨Tryz.prog,tyOf tys,25,gOf [],false,[],[]⟩
def q177p:List PE := [e11,e22]
noncomputable def q177F:F3:=⟨q177C,rr q177p [(.bool,false)] Tryz.f144,fun p=>none,0,[]⟩
theorem q177K:Contract Tryz.prog 144 (q177V):=ctr q177C (rs := [(.bool,false)]) (ps:=q177p) q177F Tryz.f144 32 ⟨tyOf_ok tys_ok,gOf_ok trivial⟩ (annl [] trivial)

noncomputable def q178V(k:Nat):Variant:=⟨[.val ty_4 false,.val ty_4 false],[(.bool,false)],fun x=>laws_eqTermS k x.1 x.2.1⟩
noncomputable def q178C(k:Nat):Cfg:=⟨Tryz.prog,tyOf tys,27,gOf [(144,[],q177V)],false,[],[]⟩
def q178i1:List PE := [e12,⟨1,48,.val ty_4 false,false⟩,e5]
def q178o1:List PE := []
noncomputable def q178f1(k:Nat)(n:Nat)(x2:PTe q178i1):=laws_eqTermS_L58 k n x2.1 x2.2.1 x2.2.2.1
def q178p:List PE := [e1,⟨1,16,.val ty_4 false,false⟩]
noncomputable def q178F(k:Nat):F3:=⟨q178C k,rr q178p [(.bool,false)] Tryz.f89,fun p=>bif Nat.beq p 58 then some (.loop q178i1 q178o1 0 80 (q178f1 k k))else none,0,[]⟩
theorem q178K(k:Nat):Contract Tryz.prog 89 (q178V k):=ctr (q178C k) (rs := [(.bool,false)]) (ps:=q178p) (q178F k) Tryz.f89 32 ⟨tyOf_ok tys_ok,gOf_ok ⟨q177K,trivial⟩⟩ (annl [58] ⟨lok q178i1 q178o1 0 80 (q178f1 k) k,trivial⟩)

noncomputable def q179V(k:Nat):Variant:=⟨[.val ty_6 false,.val ty_6 false],[(.bool,false)],fun x=>laws_intactTermS k x.1 x.2.1⟩
noncomputable def q179C(k:Nat):Cfg:=⟨Tryz.prog,tyOf tys,26,gOf [(51,[],q5V),(89,[],q178V k)],false,[],[]⟩
def q179p:List PE := [⟨0,0,.val ty_6 false,false⟩,⟨1,16,.val ty_6 false,false⟩]
noncomputable def q179F(k:Nat):F3:=⟨q179C k,rr q179p [(.bool,false)] Tryz.f58,fun p=>none,0,[]⟩
theorem q179K(k:Nat):Contract Tryz.prog 58 (q179V k):=ctr (q179C k) (rs := [(.bool,false)]) (ps:=q179p) (q179F k) Tryz.f58 32 ⟨tyOf_ok tys_ok,gOf_ok ⟨q5K,q178K k,trivial⟩⟩ (annl [] trivial)

noncomputable def q180V(k:Nat):Variant:=⟨[.val ty_5 false,.val ty_5 false],[(.bool,false)],fun x=>laws_eqTermSS k x.1 x.2.1⟩
noncomputable def q180C(k:Nat):Cfg:=⟨Tryz.prog,tyOf tys,27,gOf [(89,[],q178V k)],false,[],[]⟩
def q180i1:List PE := [e3,⟨1,48,.val ty_5 false,false⟩,e5]
def q180o1:List PE := []
noncomputable def q180f1(k:Nat)(n:Nat)(x2:PTe q180i1):=laws_eqTermSS_L58 k n x2.1 x2.2.1 x2.2.2.1
def q180p:List PE := [e7,⟨1,16,.val ty_5 false,false⟩]
noncomputable def q180F(k:Nat):F3:=⟨q180C k,rr q180p [(.bool,false)] Tryz.f59,fun p=>bif Nat.beq p 58 then some (.loop q180i1 q180o1 0 80 (q180f1 k k))else none,0,[]⟩
theorem q180K(k:Nat):Contract Tryz.prog 59 (q180V k):=ctr (q180C k) (rs := [(.bool,false)]) (ps:=q180p) (q180F k) Tryz.f59 32 ⟨tyOf_ok tys_ok,gOf_ok ⟨q178K k,trivial⟩⟩ (annl [58] ⟨lok q180i1 q180o1 0 80 (q180f1 k) k,trivial⟩)

noncomputable def q181V(k:Nat):Variant:=⟨[.val ty_18 false,.val ty_18 false],[(.bool,false)],fun x=>laws_intactTermSS k x.1 x.2.1⟩
noncomputable def q181C(k:Nat):Cfg:=⟨Tryz.prog,tyOf tys,45,gOf [(51,[],q5V),(58,[],q179V k),(59,[],q180V k)],false,[],[]⟩
def q181i1:List PE := [⟨0,32,.val ty_18 false,false⟩,⟨1,48,.val ty_18 false,false⟩,e5,e17]
def q181o1:List PE := [⟨0,32,.val ty_18 false,false⟩,⟨1,48,.val ty_18 false,false⟩,e5]
noncomputable def q181f1(k:Nat)(n:Nat)(x3:PTe q181i1):=laws_intactTermSS_L122 k n x3.1 x3.2.1 x3.2.2.1 x3.2.2.2.1
def q181p:List PE := [⟨0,0,.val ty_18 false,false⟩,⟨1,16,.val ty_18 false,false⟩]
noncomputable def q181F(k:Nat):F3:=⟨q181C k,rr q181p [(.bool,false)] Tryz.f18,fun p=>bif Nat.beq p 122 then some (.loop q181i1 q181o1 0 96 (q181f1 k k))else none,0,[]⟩
theorem q181K(k:Nat):Contract Tryz.prog 18 (q181V k):=ctr (q181C k) (rs := [(.bool,false)]) (ps:=q181p) (q181F k) Tryz.f18 32 ⟨tyOf_ok tys_ok,gOf_ok ⟨q5K,q179K k,q180K k,trivial⟩⟩ (annl [122] ⟨lok q181i1 q181o1 0 96 (q181f1 k) k,trivial⟩)

noncomputable def q182V(k:Nat):Variant:=⟨[.val ty_7 false,.val ty_7 false],[(.bool,false)],fun x=>laws_eqIntS k x.1 x.2.1⟩
noncomputable def q182C(k:Nat):Cfg:=⟨Tryz.prog,tyOf tys,26,gOf [],false,[],[]⟩
def q182i1:List PE := [e19,⟨1,48,.val ty_7 false,false⟩,e5]
def q182o1:List PE := []
noncomputable def q182f1(k:Nat)(n:Nat)(x1:PTe q182i1):=laws_eqIntS_L58 k n x1.1 x1.2.1 x1.2.2.1
def q182p:List PE := [e8,⟨1,16,.val ty_7 false,false⟩]
noncomputable def q182F(k:Nat):F3:=⟨q182C k,rr q182p [(.bool,false)] Tryz.f90,fun p=>bif Nat.beq p 58 then some (.loop q182i1 q182o1 0 80 (q182f1 k k))else none,0,[]⟩
theorem q182K(k:Nat):Contract Tryz.prog 90 (q182V k):=ctr (q182C k) (rs := [(.bool,false)]) (ps:=q182p) (q182F k) Tryz.f90 32 ⟨tyOf_ok tys_ok,gOf_ok trivial⟩ (annl [58] ⟨lok q182i1 q182o1 0 80 (q182f1 k) k,trivial⟩)

noncomputable def q183V(k:Nat):Variant:=⟨[.val ty_19 false,.val ty_19 false],[(.bool,false)],fun x=>laws_intactIntS k x.1 x.2.1⟩
noncomputable def q183C(k:Nat):Cfg:=⟨Tryz.prog,tyOf tys,26,gOf [(51,[],q5V),(90,[],q182V k)],false,[],[]⟩
def q183p:List PE := [⟨0,0,.val ty_19 false,false⟩,⟨1,16,.val ty_19 false,false⟩]
noncomputable def q183F(k:Nat):F3:=⟨q183C k,rr q183p [(.bool,false)] Tryz.f60,fun p=>none,0,[]⟩
theorem q183K(k:Nat):Contract Tryz.prog 60 (q183V k):=ctr (q183C k) (rs := [(.bool,false)]) (ps:=q183p) (q183F k) Tryz.f60 32 ⟨tyOf_ok tys_ok,gOf_ok ⟨q5K,q182K k,trivial⟩⟩ (annl [] trivial)

noncomputable def q184V(k:Nat):Variant:=⟨[.val ty_21 true,.val ty_21 true],[(.bool,false)],fun x=>laws_intactBox k x.1 x.2.1⟩
noncomputable def q184C(k:Nat):Cfg:=⟨Tryz.prog,tyOf tys,22,gOf [(60,[],q183V k)],false,[],[]⟩
def q184p:List PE := [⟨0,0,.val ty_21 true,false⟩,⟨1,16,.val ty_21 true,false⟩]
noncomputable def q184F(k:Nat):F3:=⟨q184C k,rr q184p [(.bool,false)] Tryz.f19,fun p=>none,0,[]⟩
theorem q184K(k:Nat):Contract Tryz.prog 19 (q184V k):=ctr (q184C k) (rs := [(.bool,false)]) (ps:=q184p) (q184F k) Tryz.f19 32 ⟨tyOf_ok tys_ok,gOf_ok ⟨q183K k,trivial⟩⟩ (annl [] trivial)

noncomputable def q185V(k:Nat):Variant:=⟨[.own ty_3,.val ty_0 false],[(ty_0,false)],fun x=>laws_markTermS k x.1 x.2.1⟩
noncomputable def q185C(k:Nat):Cfg:=⟨Tryz.prog,tyOf tys,41,gOf [],false,[],[]⟩
def q185i1:List PE := [e117,e6,e25]
def q185o1:List PE := [e6,e117]
noncomputable def q185f1(k:Nat)(n:Nat)(x1:PTe q185i1):=laws_markTermS_L26 k n x1.1 x1.2.1 x1.2.2.1
def q185p:List PE := [e117,e2]
noncomputable def q185F(k:Nat):Fn (Int×List (Int×Int×Int×Int)):=⟨q185C k,rr q185p [(ty_0,false)] Tryz.f61,fun p=>bif Nat.beq p 26 then some (.loop q185i1 q185o1 0 64 (q185f1 k k))else none,0,[0]⟩
theorem q185K(k:Nat):Contract Tryz.prog 61 (q185V k):=ctr (q185C k) (rs := [(ty_0,false)]) (ps:=q185p) (q185F k) Tryz.f61 32 ⟨tyOf_ok tys_ok,gOf_ok trivial⟩ (annl [26] ⟨lok q185i1 q185o1 0 64 (q185f1 k) k,trivial⟩)

noncomputable def q186V(k:Nat):Variant:=⟨[.own ty_4,.val ty_0 false],[(ty_0,false)],fun x=>laws_markTermSS k x.1 x.2.1⟩
noncomputable def q186C(k:Nat):Cfg:=⟨Tryz.prog,tyOf tys,19,gOf [(61,[],q185V k)],false,[],[]⟩
def q186i1:List PE := [e159,e6,e25]
def q186o1:List PE := [e6,e159]
noncomputable def q186f1(k:Nat)(n:Nat)(x2:PTe q186i1):=laws_markTermSS_L26 k n x2.1 x2.2.1 x2.2.2.1
def q186p:List PE := [e159,e2]
noncomputable def q186F(k:Nat):Fn (Int×List (List (Int×Int×Int×Int))):=⟨q186C k,rr q186p [(ty_0,false)] Tryz.f20,fun p=>bif Nat.beq p 26 then some (.loop q186i1 q186o1 0 64 (q186f1 k k))else none,0,[0]⟩
theorem q186K(k:Nat):Contract Tryz.prog 20 (q186V k):=ctr (q186C k) (rs := [(ty_0,false)]) (ps:=q186p) (q186F k) Tryz.f20 32 ⟨tyOf_ok tys_ok,gOf_ok ⟨q185K k,trivial⟩⟩ (annl [26] ⟨lok q186i1 q186o1 0 64 (q186f1 k) k,trivial⟩)

noncomputable def q187V(k:Nat):Variant:=⟨[.own ty_0,.val ty_0 false],[(ty_0,false)],fun x=>laws_markIntS k x.1 x.2.1⟩
noncomputable def q187C(k:Nat):Cfg:=⟨Tryz.prog,tyOf tys,19,gOf [],false,[],[]⟩
def q187i1:List PE := [e160,e6,e25]
def q187o1:List PE := [e6,e160]
noncomputable def q187f1(k:Nat)(n:Nat)(x1:PTe q187i1):=laws_markIntS_L26 k n x1.1 x1.2.1 x1.2.2.1
def q187p:List PE := [e160,e2]
noncomputable def q187F(k:Nat):Fn (Int×List Int):=⟨q187C k,rr q187p [(ty_0,false)] Tryz.f62,fun p=>bif Nat.beq p 26 then some (.loop q187i1 q187o1 0 64 (q187f1 k k))else none,0,[0]⟩
theorem q187K(k:Nat):Contract Tryz.prog 62 (q187V k):=ctr (q187C k) (rs := [(ty_0,false)]) (ps:=q187p) (q187F k) Tryz.f62 32 ⟨tyOf_ok tys_ok,gOf_ok trivial⟩ (annl [26] ⟨lok q187i1 q187o1 0 64 (q187f1 k) k,trivial⟩)

noncomputable def q188V(k:Nat):Variant:=⟨[.gob ty_9 true,.val ty_0 false],[(ty_0,false)],fun x=>laws_markBox k x.1 x.2.1⟩
noncomputable def q188C(k:Nat):Cfg:=⟨Tryz.prog,tyOf tys,14,gOf [(62,[],q187V k)],false,[],[]⟩
def q188p:List PE := [⟨0,0,.gob ty_9 true,false⟩,e2]
noncomputable def q188F(k:Nat):F1:=⟨q188C k,rr q188p [(ty_0,false)] Tryz.f21,fun p=>none,0,[]⟩
theorem q188K(k:Nat):Contract Tryz.prog 21 (q188V k):=ctr (q188C k) (rs := [(ty_0,false)]) (ps:=q188p) (q188F k) Tryz.f21 32 ⟨tyOf_ok tys_ok,gOf_ok ⟨q187K k,trivial⟩⟩ (annl [] trivial)

noncomputable def q189V(k:Nat):Variant:=⟨[.own ty_10,.val ty_0 false],[(ty_0,false)],fun x=>laws_markIntervalS k x.1 x.2.1⟩
noncomputable def q189C(k:Nat):Cfg:=⟨Tryz.prog,tyOf tys,45,gOf [],false,[],[]⟩
def q189i1:List PE := [e161,e6,e25]
def q189o1:List PE := [e6,e161]
noncomputable def q189f1(k:Nat)(n:Nat)(x1:PTe q189i1):=laws_markIntervalS_L26 k n x1.1 x1.2.1 x1.2.2.1
def q189p:List PE := [e161,e2]
noncomputable def q189F(k:Nat):Fn (Int×List ((Int×Int)×Int×Int)):=⟨q189C k,rr q189p [(ty_0,false)] Tryz.f22,fun p=>bif Nat.beq p 26 then some (.loop q189i1 q189o1 0 64 (q189f1 k k))else none,0,[0]⟩
theorem q189K(k:Nat):Contract Tryz.prog 22 (q189V k):=ctr (q189C k) (rs := [(ty_0,false)]) (ps:=q189p) (q189F k) Tryz.f22 32 ⟨tyOf_ok tys_ok,gOf_ok trivial⟩ (annl [26] ⟨lok q189i1 q189o1 0 64 (q189f1 k) k,trivial⟩)

noncomputable def q190V(k:Nat):Variant:=⟨[.val ty_12 false,.val ty_0 false],[(ty_0,false)],fun x=>laws_heldIntervalS k x.1 x.2.1⟩
noncomputable def q190C(k:Nat):Cfg:=⟨Tryz.prog,tyOf tys,53,gOf [],false,[],[]⟩
def q190i1:List PE := [⟨0,32,.val ty_12 false,false⟩,e4,e5]
def q190o1:List PE := [e6]
noncomputable def q190f1(k:Nat)(n:Nat)(x1:PTe q190i1):=laws_heldIntervalS_L26 k n x1.1 x1.2.1 x1.2.2.1
def q190p:List PE := [⟨0,0,.val ty_12 false,false⟩,e2]
noncomputable def q190F(k:Nat):F1:=⟨q190C k,rr q190p [(ty_0,false)] Tryz.f23,fun p=>bif Nat.beq p 26 then some (.loop q190i1 q190o1 0 80 (q190f1 k k))else none,0,[]⟩
theorem q190K(k:Nat):Contract Tryz.prog 23 (q190V k):=ctr (q190C k) (rs := [(ty_0,false)]) (ps:=q190p) (q190F k) Tryz.f23 32 ⟨tyOf_ok tys_ok,gOf_ok trivial⟩ (annl [26] ⟨lok q190i1 q190o1 0 80 (q190f1 k) k,trivial⟩)

noncomputable def laws_FnExactZeroSides_V(k:Nat):Variant:=⟨[.val ty_5 false,.val ty_9 true],[(.bool,false)],fun x=>laws_FnExactZeroSides k x.1 x.2.1⟩
noncomputable def laws_FnExactZeroSides_C(k:Nat):Cfg:=⟨Tryz.prog,tyOf tys,119,gOf [(11,[],q2V k),(12,[],q4V),(14,[],q9V k),(15,[],q11V k),(24,[],q82V k),(25,[],q173V k),(17,[],q176V k),(18,[],q181V k),(19,[],q184V k),(20,[],q186V k),(21,[],q188V k),(22,[],q189V k),(23,[],q190V k)],false,[],[]⟩
def laws_FnExactZeroSides_ps:List PE := [e7,e34]
noncomputable def laws_FnExactZeroSides_F(k:Nat):F3:=⟨laws_FnExactZeroSides_C k,rr laws_FnExactZeroSides_ps [(.bool,false)] Tryz.f4,fun p=>none,0,[]⟩
theorem laws_FnExactZeroSides_K(k:Nat):Contract Tryz.prog 4 (laws_FnExactZeroSides_V k):=ctr (laws_FnExactZeroSides_C k) (rs := [(.bool,false)]) (ps:=laws_FnExactZeroSides_ps) (laws_FnExactZeroSides_F k) Tryz.f4 32 ⟨tyOf_ok tys_ok,gOf_ok ⟨q2K k,q4K,q9K k,q11K k,q82K k,q173K k,q176K k,q181K k,q184K k,q186K k,q188K k,q189K k,q190K k,trivial⟩⟩ (annl [] trivial)
end Go.Ev.G
