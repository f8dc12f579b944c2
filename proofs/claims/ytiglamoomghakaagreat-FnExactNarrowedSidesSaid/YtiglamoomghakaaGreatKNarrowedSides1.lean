/- The contracts of the functions behind FnExactNarrowedSides: a call of each returns what its plain function computes; for all inputs within the sizes named. -/
import Derived.Test.YtiglamoomghakaaGreatPNarrowedSides1
import Derived.Test.YtiglamoomghakaaGreatProg
set_option linter.unusedVariables false
namespace Go.Ev.G
open Go Go.Ev Go.Proofs
set_option maxRecDepth 100000
abbrev ty_0:Ty:=(.int .i64)

abbrev ty_1:Ty:=(.pair ty_0 ty_0)

abbrev ty_2:Ty:=(.pair ty_0 ty_1)

abbrev ty_3:Ty:=(.pair ty_0 ty_2)

abbrev ty_4:Ty:=(.sl ty_3)

abbrev ty_5:Ty:=(.sl ty_4)

abbrev ty_6:Ty:=(.rm ty_3)

abbrev ty_7:Ty:=(.sl ty_0)

abbrev ty_8:Ty:=(.pair ty_7 ty_7)

abbrev ty_9:Ty:=(.pair ty_0 ty_8)

abbrev ty_10:Ty:=(.pair ty_1 ty_1)

abbrev ty_11:Ty:=(.sl ty_1)

abbrev ty_12:Ty:=(.sl ty_10)

abbrev ty_13:Ty:=(.sl ty_12)

abbrev ty_14:Ty:=(.sl ty_11)

abbrev ty_15:Ty:=(.int .u64)

abbrev ty_16:Ty:=(.pair ty_15 ty_15)

abbrev ty_17:Ty:=(.pair .bool ty_16)

abbrev ty_18:Ty:=(.rm ty_6)

abbrev ty_19:Ty:=(.rm ty_0)

abbrev ty_20:Ty:=(.pair ty_19 ty_19)

abbrev ty_21:Ty:=(.pair ty_0 ty_20)

def tys:List (TypeId×Ty) := [(3,ty_0),(28,ty_12),(56,ty_11),(70,ty_3),(78,ty_1),(80,ty_10)]

theorem tys_ok:AllT Tryz.prog tys:=⟨⟨_,_,rfl,rfl,rfl,rfl⟩,⟨_,_,rfl,rfl,rfl,rfl⟩,⟨_,_,rfl,rfl,rfl,rfl⟩,⟨_,_,rfl,rfl,rfl,rfl⟩,⟨_,_,rfl,rfl,rfl,rfl⟩,⟨_,_,rfl,rfl,rfl,rfl⟩,trivial⟩

def tysR:List (TypeId×Ty) := [(3,ty_0),(67,ty_6),(70,ty_3)]

theorem tysR_ok:AllT Tryz.prog tysR:=⟨⟨_,_,rfl,rfl,rfl,rfl⟩,⟨_,_,rfl,rfl,rfl,rfl⟩,⟨_,_,rfl,rfl,rfl,rfl⟩,trivial⟩

theorem mix_ok:Tryz.prog.follows .mixedOrders=true:=by kernel_rfl

theorem ctr{g:FuncId}(C:Cfg){rs:List (Ty×Bool)}{ps:List PE}(F:Fn (CT (rs.map (·.1)++outs (ps.map (·.b)))))(fn:Func)(nx:Nat){f:PT (ps.map (·.b))→Option (CT (rs.map (·.1)++outs (ps.map (·.b))))}
  (hC:CfgOk C) (hann:AnnOk F (codeOf fn) 1) (hP:C.P=Tryz.prog:=by rfl) (hF:F.C=C:=by rfl) (hfn:C.P.funcs[g]? = some fn:=by kernel_rfl) (hb:fn.body=some (codeOf fn):=by kernel_rfl) (hn:(fn.name == "runtime.NumGoroutine")=false:=by kernel_rfl)
  (hnt:C.ntmps=fn.ntmps:=by kernel_rfl) (hle:Nat.ble ps.length fn.ntmps=true:=by kernel_rfl) (hpar:parOk 0 ps=true:=by kernel_rfl) (hfin:F.fin=rdRes C.P ps rs fn.results.toList .ret:=by rfl)
  (hpins:F.pins=pinIds ps:=by kernel_rfl) (hnd:nodupB F.pins=true:=by kernel_rfl) (hf:∀x,evFn F (codeOf fn) ps nx x=f x:=by intro x;kernel_rfl):Contract C.P g ⟨ps.map (·.b),rs,f⟩ :=
 contract hC hF hfn hb hn hnt hle hpar hfin hpins hnd hann (hP ▸ mix_ok) hf

theorem annl{R:Type}{F:Fn R}{c:Code}(l:List Nat)(hl:AllL F (l.map fun p=>(p,loopB c p)))(h:loopsOf c 1=l.map (fun p=>(p,loopB c p)):=by kernel_rfl):AnnOk F c 1:=AnnOk_list _ h hl

theorem lok{R:Type}{F:Fn R}{c:Code}{p:Nat}(pin pout:List PE)(ex nx:Nat)(Lf:Nat→PTe pin→Option (R ⊕ PTe pout))(k:Nat)(h:F.an p=some (.loop pin pout ex nx (Lf k)):=by kernel_rfl)(h0:∀x,Lf 0 x=none:=by intro x;rfl)
  (hs:∀n x,roundOf F c p pin pout ex nx (Lf n) x=Lf (n+1) x:=by intro n x;kernel_rfl):LoopOk F c p:=LoopOk.mk (pin:=pin) (pout:=pout) h h0 hs

noncomputable def rr(ps:List PE)(rs:List (Ty×Bool))(f:Func):=rdRes Tryz.prog ps rs f.results.toList .ret

abbrev e1:PE:=⟨0,0,.val ty_4 false,false⟩
abbrev e2:PE:=⟨1,16,.val ty_0 false,false⟩
abbrev F1:Type 1:=Fn (Int)
abbrev e3:PE:=⟨0,32,.val ty_5 false,false⟩
abbrev e4:PE:=⟨1,48,.val ty_0 false,false⟩
abbrev e5:PE:=⟨5,64,.val ty_0 false,false⟩
abbrev e6:PE:=⟨1,32,.val ty_0 false,false⟩
abbrev e7:PE:=⟨0,0,.val ty_5 false,false⟩
abbrev e8:PE:=⟨0,0,.val ty_7 false,false⟩
abbrev e9:PE:=⟨0,0,.val ty_9 true,false⟩
abbrev e10:PE:=⟨0,0,.val ty_0 false,false⟩
abbrev e11:PE:=⟨0,0,.val ty_3 true,false⟩
abbrev F2:Type 1:=Fn (Int×Int×Int×Int)
abbrev e12:PE:=⟨0,32,.val ty_4 false,false⟩
abbrev e13:PE:=⟨5,48,.eat ty_3,false⟩
abbrev e14:PE:=⟨6,64,.val ty_0 false,false⟩
abbrev e15:PE:=⟨7,64,.val ty_0 false,false⟩
abbrev e16:PE:=⟨1,16,.val .bool false,false⟩
abbrev e17:PE:=⟨6,80,.val ty_0 false,false⟩
abbrev e18:PE:=⟨5,48,.eat ty_6,false⟩
abbrev e19:PE:=⟨0,32,.val ty_7 false,false⟩
abbrev e20:PE:=⟨5,48,.eat ty_0,false⟩
abbrev e21:PE:=⟨2,32,.val ty_0 false,false⟩
abbrev F3:Type 1:=Fn (Bool)
abbrev e22:PE:=⟨1,16,.val ty_3 true,false⟩
abbrev e23:PE:=⟨0,16,.val ty_4 false,false⟩
abbrev e24:PE:=⟨6,48,.val ty_0 false,false⟩
abbrev e25:PE:=⟨5,48,.val ty_0 false,false⟩
abbrev e26:PE:=⟨9,80,.val ty_0 false,false⟩
abbrev e27:PE:=⟨0,16,.val ty_5 false,false⟩
abbrev e28:PE:=⟨8,96,.val ty_0 false,false⟩
abbrev e29:PE:=⟨7,48,.val ty_0 false,false⟩
abbrev e30:PE:=⟨8,64,.val ty_0 false,false⟩
abbrev e31:PE:=⟨1,16,.box ty_9 false,false⟩
abbrev e32:PE:=⟨3,32,.val ty_0 false,false⟩
abbrev e33:PE:=⟨1,16,.val ty_9 true,false⟩
abbrev e34:PE:=⟨0,0,.val ty_1 true,false⟩
abbrev e35:PE:=⟨0,32,.val ty_0 false,false⟩
abbrev e36:PE:=⟨4,64,.box ty_1 false,false⟩
abbrev F4:Type 1:=Fn ((Int×Int)×Bool)
abbrev F5:Type 1:=Fn (Int×Int)
abbrev e37:PE:=⟨11,80,.val ty_0 false,false⟩
abbrev e38:PE:=⟨12,96,.val ty_0 false,false⟩
abbrev F6:Type 1:=Fn (List (Int×Int×Int×Int))
abbrev F7:Type 1:=Fn ((Int×Int)×Int×Int)
abbrev e39:PE:=⟨2,32,.box ty_1 false,false⟩
abbrev e40:PE:=⟨3,48,.box ty_1 false,false⟩
abbrev e41:PE:=⟨1,16,.val ty_1 true,false⟩
abbrev e42:PE:=⟨4,32,.box ty_1 false,false⟩
abbrev e43:PE:=⟨6,48,.box ty_1 false,false⟩
abbrev e44:PE:=⟨0,0,.val ty_10 true,false⟩
abbrev e45:PE:=⟨2,16,.box ty_10 false,false⟩
abbrev e46:PE:=⟨3,32,.box ty_10 false,false⟩
abbrev e47:PE:=⟨14,64,.val ty_0 false,false⟩
abbrev e48:PE:=⟨5,48,.box ty_1 false,false⟩
abbrev e49:PE:=⟨14,80,.val ty_0 false,false⟩
abbrev e50:PE:=⟨15,96,.val ty_0 false,false⟩
abbrev e51:PE:=⟨4,32,.box ty_10 false,false⟩
abbrev F8:Type 1:=Fn (((Int×Int)×Int×Int)×Bool)
abbrev e52:PE:=⟨4,48,.box ty_10 false,false⟩
abbrev e53:PE:=⟨6,64,.eat ty_1,false⟩
abbrev e54:PE:=⟨8,80,.box ty_1 false,false⟩
abbrev e55:PE:=⟨18,96,.val ty_0 false,false⟩
abbrev e56:PE:=⟨19,112,.val ty_0 false,false⟩
abbrev e57:PE:=⟨6,48,.eat ty_1,false⟩
abbrev e58:PE:=⟨1,16,.val ty_10 true,false⟩
abbrev e59:PE:=⟨2,32,.val ty_1 true,false⟩
abbrev e60:PE:=⟨1,32,.val ty_12 false,false⟩
abbrev e61:PE:=⟨6,64,.box ty_10 false,false⟩
abbrev e62:PE:=⟨21,112,.val ty_0 false,false⟩
abbrev e63:PE:=⟨1,16,.val ty_12 false,false⟩
abbrev e64:PE:=⟨6,32,.eat ty_10,false⟩
abbrev F9:Type 1:=Fn ((List ((Int×Int)×Int×Int))×Bool)
abbrev e65:PE:=⟨6,48,.eat ty_12,false⟩
abbrev e66:PE:=⟨12,80,.val ty_0 false,false⟩
abbrev e67:PE:=⟨13,96,.val ty_0 false,false⟩
abbrev e68:PE:=⟨6,32,.eat ty_12,false⟩
abbrev F10:Type 1:=Fn ((List (List ((Int×Int)×Int×Int)))×Bool)
abbrev e69:PE:=⟨4,16,.eat ty_11,false⟩
abbrev e70:PE:=⟨20,128,.val ty_0 false,false⟩
abbrev F11:Type 1:=Fn ((List (List (Int×Int)))×Bool)
abbrev e71:PE:=⟨0,0,.val ty_14 false,false⟩
abbrev e72:PE:=⟨0,16,.val ty_14 false,false⟩
abbrev e73:PE:=⟨4,48,.box ty_1 false,false⟩
abbrev e74:PE:=⟨26,96,.val ty_0 false,false⟩
abbrev e75:PE:=⟨4,32,.eat ty_11,false⟩
abbrev e76:PE:=⟨0,80,.val ty_0 false,false⟩
abbrev e77:PE:=⟨3,96,.val ty_0 false,false⟩
abbrev e78:PE:=⟨4,112,.val ty_0 false,false⟩
abbrev e79:PE:=⟨10,128,.box ty_1 false,false⟩
abbrev e80:PE:=⟨12,144,.val ty_0 false,false⟩
abbrev e81:PE:=⟨2,48,.val ty_0 false,false⟩
abbrev e82:PE:=⟨10,64,.eat ty_11,false⟩
abbrev F12:Type 1:=Fn (List (Int×Int))
abbrev e83:PE:=⟨1,48,.val ty_11 false,false⟩
abbrev e84:PE:=⟨20,96,.val ty_0 false,false⟩
abbrev e85:PE:=⟨1,32,.val ty_11 false,false⟩
abbrev e86:PE:=⟨9,64,.val ty_0 false,false⟩
abbrev e87:PE:=⟨11,80,.box ty_3 false,false⟩
abbrev e88:PE:=⟨17,128,.val ty_0 false,false⟩
abbrev e89:PE:=⟨30,112,.val ty_4 false,false⟩
abbrev e90:PE:=⟨31,128,.val ty_0 false,false⟩
abbrev e91:PE:=⟨32,144,.val ty_0 false,false⟩
abbrev e92:PE:=⟨9,48,.val ty_0 false,false⟩
abbrev e93:PE:=⟨1,16,.val ty_11 false,false⟩
abbrev e94:PE:=⟨6,32,.eat ty_1,false⟩
abbrev F13:Type 1:=Fn ((List (Int×Int))×Bool)
abbrev e95:PE:=⟨1,32,.val ty_13 false,false⟩
abbrev e96:PE:=⟨8,64,.val ty_11 false,false⟩
abbrev e97:PE:=⟨9,80,.eat ty_10,false⟩
abbrev e98:PE:=⟨20,112,.val ty_0 false,false⟩
abbrev e99:PE:=⟨8,32,.eat ty_12,false⟩
abbrev e100:PE:=⟨25,80,.val ty_13 false,false⟩
abbrev e101:PE:=⟨27,112,.val ty_0 false,false⟩
abbrev e102:PE:=⟨10,80,.eat ty_1,false⟩
abbrev e103:PE:=⟨9,48,.val ty_4 false,false⟩
abbrev e104:PE:=⟨10,64,.val ty_0 false,false⟩
abbrev e105:PE:=⟨17,112,.val ty_0 false,false⟩
abbrev e106:PE:=⟨0,16,.ptr ty_9 false,false⟩
abbrev e107:PE:=⟨0,0,.ptr ty_9 false,false⟩
abbrev e108:PE:=⟨1,16,.ptr ty_9 false,false⟩
abbrev e109:PE:=⟨0,0,.own ty_3,true⟩
abbrev e110:PE:=⟨1,64,.val ty_0 false,false⟩
abbrev e111:PE:=⟨2,80,.val ty_0 false,false⟩
abbrev e112:PE:=⟨3,96,.fn 157 [],false⟩
abbrev e113:PE:=⟨8,112,.val ty_0 false,false⟩
abbrev e114:PE:=⟨2,64,.fn 157 [],false⟩
abbrev e115:PE:=⟨7,96,.val ty_0 false,false⟩
abbrev F14:Type 1:=Fn (Bool×Int×Int)
abbrev e116:PE:=⟨0,0,.val ty_17 true,false⟩
abbrev e117:PE:=⟨0,0,.val ty_15 false,false⟩
abbrev e118:PE:=⟨1,16,.val ty_15 false,false⟩
abbrev e119:PE:=⟨0,0,.ptr .bool true,true⟩
abbrev e120:PE:=⟨1,16,.val ty_17 true,false⟩
abbrev e121:PE:=⟨2,32,.val ty_10 true,false⟩
abbrev e122:PE:=⟨6,64,.box .bool false,false⟩
abbrev e123:PE:=⟨7,80,.box ty_10 false,false⟩
abbrev e124:PE:=⟨8,32,.box .bool false,false⟩
abbrev e125:PE:=⟨9,48,.eat ty_11,false⟩
abbrev e126:PE:=⟨4,32,.box .bool false,false⟩
abbrev e127:PE:=⟨5,48,.eat ty_11,false⟩
abbrev e128:PE:=⟨7,64,.eat ty_1,false⟩
abbrev e129:PE:=⟨0,16,.val ty_15 false,false⟩
abbrev e130:PE:=⟨2,48,.val ty_15 false,false⟩
abbrev e131:PE:=⟨8,64,.val ty_15 false,false⟩
abbrev e132:PE:=⟨9,80,.val ty_15 false,false⟩
abbrev e133:PE:=⟨10,96,.val ty_15 false,false⟩
abbrev e134:PE:=⟨45,176,.val ty_0 false,false⟩
abbrev e135:PE:=⟨6,32,.box .bool false,false⟩
abbrev e136:PE:=⟨11,80,.val ty_4 false,false⟩
abbrev e137:PE:=⟨13,112,.val ty_0 false,false⟩
abbrev e138:PE:=⟨14,112,.val ty_0 false,false⟩
abbrev e139:PE:=⟨0,32,.val ty_14 false,false⟩
abbrev e140:PE:=⟨1,48,.val ty_13 false,false⟩
abbrev e141:PE:=⟨7,80,.eat ty_12,false⟩
abbrev e142:PE:=⟨9,112,.eat ty_10,false⟩
abbrev e143:PE:=⟨16,128,.box ty_10 false,false⟩
abbrev e144:PE:=⟨10,48,.box .bool false,false⟩
abbrev e145:PE:=⟨11,64,.eat ty_1,false⟩
abbrev e146:PE:=⟨12,80,.eat ty_10,false⟩
abbrev e147:PE:=⟨13,96,.eat ty_10,false⟩
abbrev e148:PE:=⟨0,0,.own ty_4,true⟩
abbrev e149:PE:=⟨0,0,.own ty_0,true⟩
abbrev e150:PE:=⟨0,0,.own ty_10,true⟩

noncomputable def q1V:Variant:=⟨[.val ty_4 false,.val ty_0 false],[(ty_0,false)],fun x=>laws_szTermS x.1 x.2.1⟩
noncomputable def q1C:Cfg:=⟨Tryz.prog,tyOf tys,12,gOf [],false,[],[]⟩
def q1p:List PE := [e1,e2]
noncomputable def q1F:F1:=⟨q1C,rr q1p [(ty_0,false)] Tryz.f47,fun p=>none,0,[]⟩
theorem q1K:Contract Tryz.prog 47 (q1V):=ctr q1C (rs := [(ty_0,false)]) (ps:=q1p) q1F Tryz.f47 32 ⟨tyOf_ok tys_ok,gOf_ok trivial⟩ (annl [] trivial)

noncomputable def q2V(k:Nat):Variant:=⟨[.val ty_5 false,.val ty_0 false],[(ty_0,false)],fun x=>laws_szTermSS k x.1 x.2.1⟩
noncomputable def q2C(k:Nat):Cfg:=⟨Tryz.prog,tyOf tys,27,gOf [(47,[],q1V)],false,[],[]⟩
def q2i1:List PE := [e3,e4,e5]
def q2o1:List PE := [e6]
noncomputable def q2f1(k:Nat)(n:Nat)(x2:PTe q2i1):=laws_szTermSS_L122 k n x2.1 x2.2.1 x2.2.2.1
def q2p:List PE := [e7,e2]
noncomputable def q2F(k:Nat):F1:=⟨q2C k,rr q2p [(ty_0,false)] Tryz.f11,fun p=>bif Nat.beq p 122 then some (.loop q2i1 q2o1 0 80 (q2f1 k k))else none,0,[]⟩
theorem q2K(k:Nat):Contract Tryz.prog 11 (q2V k):=ctr (q2C k) (rs := [(ty_0,false)]) (ps:=q2p) (q2F k) Tryz.f11 32 ⟨tyOf_ok tys_ok,gOf_ok ⟨q1K,trivial⟩⟩ (annl [122] ⟨lok q2i1 q2o1 0 80 (q2f1 k) k,trivial⟩)

noncomputable def q3V:Variant:=⟨[.val ty_7 false,.val ty_0 false],[(ty_0,false)],fun x=>laws_szIntS x.1 x.2.1⟩
noncomputable def q3C:Cfg:=⟨Tryz.prog,tyOf tys,12,gOf [],false,[],[]⟩
def q3p:List PE := [e8,e2]
noncomputable def q3F:F1:=⟨q3C,rr q3p [(ty_0,false)] Tryz.f48,fun p=>none,0,[]⟩
theorem q3K:Contract Tryz.prog 48 (q3V):=ctr q3C (rs := [(ty_0,false)]) (ps:=q3p) q3F Tryz.f48 32 ⟨tyOf_ok tys_ok,gOf_ok trivial⟩ (annl [] trivial)

noncomputable def q4V:Variant:=⟨[.val ty_9 true,.val ty_0 false],[(ty_0,false)],fun x=>laws_szBox x.1 x.2.1⟩
noncomputable def q4C:Cfg:=⟨Tryz.prog,tyOf tys,18,gOf [(48,[],q3V)],false,[],[]⟩
def q4p:List PE := [e9,e2]
noncomputable def q4F:F1:=⟨q4C,rr q4p [(ty_0,false)] Tryz.f12,fun p=>none,0,[]⟩
theorem q4K:Contract Tryz.prog 12 (q4V):=ctr q4C (rs := [(ty_0,false)]) (ps:=q4p) q4F Tryz.f12 32 ⟨tyOf_ok tys_ok,gOf_ok ⟨q3K,trivial⟩⟩ (annl [] trivial)

noncomputable def q5V:Variant:=⟨[.val ty_0 false],[(ty_0,false)],fun x=>laws_roomBehind x.1⟩
noncomputable def q5C:Cfg:=⟨Tryz.prog,tyOf tys,10,gOf [],false,[],[]⟩
def q5p:List PE := [e10]
noncomputable def q5F:F1:=⟨q5C,rr q5p [(ty_0,false)] Tryz.f51,fun p=>none,0,[]⟩
theorem q5K:Contract Tryz.prog 51 (q5V):=ctr q5C (rs := [(ty_0,false)]) (ps:=q5p) q5F Tryz.f51 16 ⟨tyOf_ok tys_ok,gOf_ok trivial⟩ (annl [] trivial)

noncomputable def q6V:Variant:=⟨[.val ty_3 true],[(ty_3,true)],fun x=>laws_toTerm x.1⟩
noncomputable def q6C:Cfg:=⟨Tryz.prog,tyOf tysR,17,gOf [],true,[],[]⟩
def q6p:List PE := [e11]
noncomputable def q6F:F2:=⟨q6C,rr q6p [(ty_3,true)] Tryz.f85,fun p=>none,0,[]⟩
theorem q6K:Contract Tryz.prog 85 (q6V):=ctr q6C (rs := [(ty_3,true)]) (ps:=q6p) q6F Tryz.f85 16 ⟨tyOf_ok tysR_ok,gOf_ok trivial⟩ (annl [] trivial)

noncomputable def q7V:Variant:=⟨[],[(ty_3,true)],fun x=>laws_fillerTerm⟩
noncomputable def q7C:Cfg:=⟨Tryz.prog,tyOf tys,2,gOf [],false,[],[]⟩
def q7p:List PE := []
noncomputable def q7F:F2:=⟨q7C,rr q7p [(ty_3,true)] Tryz.f53,fun p=>none,0,[]⟩
theorem q7K:Contract Tryz.prog 53 (q7V):=ctr q7C (rs := [(ty_3,true)]) (ps:=q7p) q7F Tryz.f53 0 ⟨tyOf_ok tys_ok,gOf_ok trivial⟩ (annl [] trivial)

noncomputable def q8V(k:Nat):Variant:=⟨[.val ty_4 false,.val .bool false],[(ty_6,false)],fun x=>laws_toTermS k x.1 x.2.1⟩
noncomputable def q8C(k:Nat):Cfg:=⟨Tryz.prog,tyOf tysR,51,gOf [(51,[],q5V),(85,[],q6V),(53,[],q7V)],true,[],[]⟩
def q8i1:List PE := [e12,e13,e14]
def q8o1:List PE := [e12,e13]
noncomputable def q8f1(k:Nat)(n:Nat)(x4:PTe q8i1):=laws_toTermS_L122 k n x4.1 x4.2.1 x4.2.2.1
def q8i2:List PE := [e12,e13,e15]
def q8o2:List PE := [e12,e13]
noncomputable def q8f2(k:Nat)(n:Nat)(x8:PTe q8i2):=laws_toTermS_L250 k n x8.1 x8.2.1 x8.2.2.1
def q8p:List PE := [e1,e16]
noncomputable def q8F(k:Nat):Fn (List (Int×Int×Int×Int)×List (Int×Int×Int×Int)):=⟨q8C k,rr q8p [(ty_6,false)] Tryz.f52,fun p=>bif Nat.beq p 122 then some (.loop q8i1 q8o1 0 80 (q8f1 k k))else bif Nat.beq p 250 then some (.loop q8i2 q8o2 2 80 (q8f2 k k))else bif Nat.beq p 6 then some (.cut [e12] 48)else none,0,[]⟩
theorem q8K(k:Nat):Contract Tryz.prog 52 (q8V k):=ctr (q8C k) (rs := [(ty_6,false)]) (ps:=q8p) (q8F k) Tryz.f52 32 ⟨tyOf_ok tysR_ok,gOf_ok ⟨q5K,q6K,q7K,trivial⟩⟩ (annl [122,250] ⟨lok q8i1 q8o1 0 80 (q8f1 k) k,lok q8i2 q8o2 2 80 (q8f2 k) k,trivial⟩)

noncomputable def q9V(k:Nat):Variant:=⟨[.val ty_5 false,.val .bool false],[(ty_18,false)],fun x=>laws_toTermSS k x.1 x.2.1⟩
noncomputable def q9C(k:Nat):Cfg:=⟨Tryz.prog,tyOf tysR,53,gOf [(51,[],q5V),(52,[],q8V k),(53,[],q7V)],true,[5,27,39,44],[]⟩
def q9i1:List PE := [e3,⟨1,48,.val .bool false,false⟩,⟨5,64,.eat ty_6,false⟩,e17]
def q9o1:List PE := [e3,e18]
noncomputable def q9f1(k:Nat)(n:Nat)(x4:PTe q9i1):=laws_toTermSS_L122 k n x4.1 x4.2.1 x4.2.2.1 x4.2.2.2.1
def q9i2:List PE := [e3,e18,e15]
def q9o2:List PE := [e3,e18]
noncomputable def q9f2(k:Nat)(n:Nat)(x8:PTe q9i2):=laws_toTermSS_L250 k n x8.1 x8.2.1 x8.2.2.1
def q9p:List PE := [e7,e16]
noncomputable def q9F(k:Nat):Fn (List (List (Int×Int×Int×Int)×List (Int×Int×Int×Int))×List (List (Int×Int×Int×Int)×List (Int×Int×Int×Int))):=⟨q9C k,rr q9p [(ty_18,false)] Tryz.f14,fun p=>bif Nat.beq p 122 then some (.loop q9i1 q9o1 0 96 (q9f1 k k))else bif Nat.beq p 250 then some (.loop q9i2 q9o2 2 80 (q9f2 k k))else bif Nat.beq p 6 then some (.cut [e3,⟨1,48,.val .bool false,false⟩] 64)else none,0,[]⟩
theorem q9K(k:Nat):Contract Tryz.prog 14 (q9V k):=ctr (q9C k) (rs := [(ty_18,false)]) (ps:=q9p) (q9F k) Tryz.f14 32 ⟨tyOf_ok tysR_ok,gOf_ok ⟨q5K,q8K k,q7K,trivial⟩⟩ (annl [122,250] ⟨lok q9i1 q9o1 0 96 (q9f1 k) k,lok q9i2 q9o2 2 80 (q9f2 k) k,trivial⟩)

noncomputable def q10V(k:Nat):Variant:=⟨[.val ty_7 false,.val .bool false],[(ty_19,false)],fun x=>laws_toIntS k x.1 x.2.1⟩
noncomputable def q10C(k:Nat):Cfg:=⟨Tryz.prog,tyOf tysR,49,gOf [(51,[],q5V)],true,[],[]⟩
def q10i1:List PE := [e19,e20,e14]
def q10o1:List PE := [e19,e20]
noncomputable def q10f1(k:Nat)(n:Nat)(x3:PTe q10i1):=laws_toIntS_L122 k n x3.1 x3.2.1 x3.2.2.1
def q10i2:List PE := [e19,e20,e15]
def q10o2:List PE := [e19,e20]
noncomputable def q10f2(k:Nat)(n:Nat)(x6:PTe q10i2):=laws_toIntS_L250 k n x6.1 x6.2.1 x6.2.2.1
def q10p:List PE := [e8,e16]
noncomputable def q10F(k:Nat):Fn (List Int×List Int):=⟨q10C k,rr q10p [(ty_19,false)] Tryz.f54,fun p=>bif Nat.beq p 122 then some (.loop q10i1 q10o1 0 80 (q10f1 k k))else bif Nat.beq p 250 then some (.loop q10i2 q10o2 2 80 (q10f2 k k))else bif Nat.beq p 6 then some (.cut [e19] 48)else none,0,[]⟩
theorem q10K(k:Nat):Contract Tryz.prog 54 (q10V k):=ctr (q10C k) (rs := [(ty_19,false)]) (ps:=q10p) (q10F k) Tryz.f54 32 ⟨tyOf_ok tysR_ok,gOf_ok ⟨q5K,trivial⟩⟩ (annl [122,250] ⟨lok q10i1 q10o1 0 80 (q10f1 k) k,lok q10i2 q10o2 2 80 (q10f2 k) k,trivial⟩)

noncomputable def q11V(k:Nat):Variant:=⟨[.val ty_9 true,.val .bool false],[(ty_21,true)],fun x=>laws_toBox k x.1 x.2.1⟩
noncomputable def q11C(k:Nat):Cfg:=⟨Tryz.prog,tyOf tysR,20,gOf [(54,[],q10V k)],true,[],[]⟩
def q11p:List PE := [e9,e16]
noncomputable def q11F(k:Nat):Fn (Int×(List Int×List Int)×List Int×List Int):=⟨q11C k,rr q11p [(ty_21,true)] Tryz.f15,fun p=>none,0,[]⟩
theorem q11K(k:Nat):Contract Tryz.prog 15 (q11V k):=ctr (q11C k) (rs := [(ty_21,true)]) (ps:=q11p) (q11F k) Tryz.f15 32 ⟨tyOf_ok tysR_ok,gOf_ok ⟨q10K k,trivial⟩⟩ (annl [] trivial)

noncomputable def q12V:Variant:=⟨[.val ty_0 false,.val ty_0 false,.val ty_0 false],[(.bool,false)],fun x=>spec_l1In x.1 x.2.1 x.2.2.1⟩
noncomputable def q12C:Cfg:=⟨Tryz.prog,tyOf tys,15,gOf [],false,[],[]⟩
def q12p:List PE := [e10,e2,e21]
noncomputable def q12F:F3:=⟨q12C,rr q12p [(.bool,false)] Tryz.f149,fun p=>none,0,[]⟩
theorem q12K:Contract Tryz.prog 149 (q12V):=ctr q12C (rs := [(.bool,false)]) (ps:=q12p) q12F Tryz.f149 48 ⟨tyOf_ok tys_ok,gOf_ok trivial⟩ (annl [] trivial)

noncomputable def q13V:Variant:=⟨[.val ty_3 true],[(.bool,false)],fun x=>spec_poTerm x.1⟩
noncomputable def q13C:Cfg:=⟨Tryz.prog,tyOf tys,32,gOf [(149,[],q12V)],false,[],[]⟩
def q13p:List PE := [e11]
noncomputable def q13F:F3:=⟨q13C,rr q13p [(.bool,false)] Tryz.f229,fun p=>none,0,[]⟩
theorem q13K:Contract Tryz.prog 229 (q13V):=ctr q13C (rs := [(.bool,false)]) (ps:=q13p) q13F Tryz.f229 16 ⟨tyOf_ok tys_ok,gOf_ok ⟨q12K,trivial⟩⟩ (annl [] trivial)

noncomputable def q14V:Variant:=⟨[.val ty_0 false],[(ty_0,false)],fun x=>spec_l1Sign x.1⟩
noncomputable def q14C:Cfg:=⟨Tryz.prog,tyOf tys,9,gOf [],false,[],[]⟩
def q14p:List PE := [e10]
noncomputable def q14F:F1:=⟨q14C,rr q14p [(ty_0,false)] Tryz.f166,fun p=>none,0,[]⟩
theorem q14K:Contract Tryz.prog 166 (q14V):=ctr q14C (rs := [(ty_0,false)]) (ps:=q14p) q14F Tryz.f166 16 ⟨tyOf_ok tys_ok,gOf_ok trivial⟩ (annl [] trivial)

noncomputable def q15V:Variant:=⟨[.val ty_3 true,.val ty_3 true],[(ty_0,false)],fun x=>spec_poOrder x.1 x.2.1⟩
noncomputable def q15C:Cfg:=⟨Tryz.prog,tyOf tys,35,gOf [(166,[],q14V)],false,[],[]⟩
def q15p:List PE := [e11,e22]
noncomputable def q15F:F1:=⟨q15C,rr q15p [(ty_0,false)] Tryz.f198,fun p=>none,0,[]⟩
theorem q15K:Contract Tryz.prog 198 (q15V):=ctr q15C (rs := [(ty_0,false)]) (ps:=q15p) q15F Tryz.f198 32 ⟨tyOf_ok tys_ok,gOf_ok ⟨q14K,trivial⟩⟩ (annl [] trivial)

noncomputable def q16V(k:Nat):Variant:=⟨[.val ty_4 false],[(.bool,false)],fun x=>spec_poGood k x.1⟩
noncomputable def q16C(k:Nat):Cfg:=⟨Tryz.prog,tyOf tys,38,gOf [(229,[],q13V),(198,[],q15V)],false,[],[]⟩
def q16i1:List PE := [e23,⟨5,32,.val ty_4 false,false⟩,e24,e15]
def q16o1:List PE := [e23]
noncomputable def q16f1(k:Nat)(n:Nat)(x3:PTe q16i1):=spec_poGood_L26 k n x3.1 x3.2.1 x3.2.2.1 x3.2.2.2.1
def q16p:List PE := [e1]
noncomputable def q16F(k:Nat):F3:=⟨q16C k,rr q16p [(.bool,false)] Tryz.f192,fun p=>bif Nat.beq p 26 then some (.loop q16i1 q16o1 0 80 (q16f1 k k))else none,0,[]⟩
theorem q16K(k:Nat):Contract Tryz.prog 192 (q16V k):=ctr (q16C k) (rs := [(.bool,false)]) (ps:=q16p) (q16F k) Tryz.f192 16 ⟨tyOf_ok tys_ok,gOf_ok ⟨q13K,q15K,trivial⟩⟩ (annl [26] ⟨lok q16i1 q16o1 0 80 (q16f1 k) k,trivial⟩)

noncomputable def q17V:Variant:=⟨[.val ty_3 true,.val ty_0 false],[(ty_0,false)],fun x=>spec_poPower x.1 x.2.1⟩
noncomputable def q17C:Cfg:=⟨Tryz.prog,tyOf tys,16,gOf [],false,[],[]⟩
def q17p:List PE := [e11,e2]
noncomputable def q17F:F1:=⟨q17C,rr q17p [(ty_0,false)] Tryz.f222,fun p=>none,0,[]⟩
theorem q17K:Contract Tryz.prog 222 (q17V):=ctr q17C (rs := [(ty_0,false)]) (ps:=q17p) q17F Tryz.f222 32 ⟨tyOf_ok tys_ok,gOf_ok trivial⟩ (annl [] trivial)

noncomputable def q18V:Variant:=⟨[.val ty_0 false,.val ty_0 false],[(ty_0,false)],fun x=>spec_l1Most x.1 x.2.1⟩
noncomputable def q18C:Cfg:=⟨Tryz.prog,tyOf tys,10,gOf [],false,[],[]⟩
def q18p:List PE := [e10,e2]
noncomputable def q18F:F1:=⟨q18C,rr q18p [(ty_0,false)] Tryz.f169,fun p=>none,0,[]⟩
theorem q18K:Contract Tryz.prog 169 (q18V):=ctr q18C (rs := [(ty_0,false)]) (ps:=q18p) q18F Tryz.f169 32 ⟨tyOf_ok tys_ok,gOf_ok trivial⟩ (annl [] trivial)

noncomputable def q19V(k:Nat):Variant:=⟨[.val ty_4 false,.val ty_0 false],[(ty_0,false)],fun x=>spec_poDegreeIn k x.1 x.2.1⟩
noncomputable def q19C(k:Nat):Cfg:=⟨Tryz.prog,tyOf tys,21,gOf [(222,[],q17V),(169,[],q18V)],false,[],[]⟩
def q19i1:List PE := [e6,e25,⟨8,64,.val ty_4 false,false⟩,e26,⟨10,96,.val ty_0 false,false⟩]
def q19o1:List PE := [⟨5,32,.val ty_0 false,false⟩]
noncomputable def q19f1(k:Nat)(n:Nat)(x3:PTe q19i1):=spec_poDegreeIn_L58 k n x3.1 x3.2.1 x3.2.2.1 x3.2.2.2.1 x3.2.2.2.2.1
def q19p:List PE := [e1,e2]
noncomputable def q19F(k:Nat):F1:=⟨q19C k,rr q19p [(ty_0,false)] Tryz.f193,fun p=>bif Nat.beq p 58 then some (.loop q19i1 q19o1 0 112 (q19f1 k k))else none,0,[]⟩
theorem q19K(k:Nat):Contract Tryz.prog 193 (q19V k):=ctr (q19C k) (rs := [(ty_0,false)]) (ps:=q19p) (q19F k) Tryz.f193 32 ⟨tyOf_ok tys_ok,gOf_ok ⟨q17K,q18K,trivial⟩⟩ (annl [58] ⟨lok q19i1 q19o1 0 112 (q19f1 k) k,trivial⟩)

noncomputable def q20V(k:Nat):Variant:=⟨[.val ty_5 false],[(.bool,false)],fun x=>spec_poSystem k x.1⟩
noncomputable def q20C(k:Nat):Cfg:=⟨Tryz.prog,tyOf tys,29,gOf [(192,[],q16V k),(193,[],q19V k),(149,[],q12V)],false,[],[]⟩
def q20i1:List PE := [e27,⟨4,32,.val ty_4 false,false⟩,e25,⟨6,64,.val ty_5 false,false⟩,⟨7,80,.val ty_0 false,false⟩,e28]
def q20o1:List PE := [e27,⟨6,32,.val ty_5 false,false⟩,e29,e30]
noncomputable def q20f1(k:Nat)(n:Nat)(x3:PTe q20i1):=spec_poSystem_L13518 k n x3.1 x3.2.1 x3.2.2.1 x3.2.2.2.1 x3.2.2.2.2.1 x3.2.2.2.2.2.1
def q20i2:List PE := [e27,⟨6,32,.val ty_5 false,false⟩,e29,e30]
def q20o2:List PE := [e27]
noncomputable def q20f2(k:Nat)(n:Nat)(x6:PTe q20i2):=spec_poSystem_L26 k n x6.1 x6.2.1 x6.2.2.1 x6.2.2.2.1
def q20p:List PE := [e7]
noncomputable def q20F(k:Nat):F3:=⟨q20C k,rr q20p [(.bool,false)] Tryz.f137,fun p=>bif Nat.beq p 13518 then some (.loop q20i1 q20o1 2 112 (q20f1 k k))else bif Nat.beq p 26 then some (.loop q20i2 q20o2 0 80 (q20f2 k k))else none,0,[]⟩
theorem q20K(k:Nat):Contract Tryz.prog 137 (q20V k):=ctr (q20C k) (rs := [(.bool,false)]) (ps:=q20p) (q20F k) Tryz.f137 16 ⟨tyOf_ok tys_ok,gOf_ok ⟨q16K k,q19K k,q12K,trivial⟩⟩ (annl [26,13518] ⟨lok q20i2 q20o2 0 80 (q20f2 k) k,lok q20i1 q20o1 2 112 (q20f1 k) k,trivial⟩)

noncomputable def q21V:Variant:=⟨[.val ty_0 false],[(ty_0,false)],fun x=>spec_dyPower x.1⟩
noncomputable def q21C:Cfg:=⟨Tryz.prog,tyOf tys,6,gOf [],false,[],[]⟩
def q21p:List PE := [e10]
noncomputable def q21F:F1:=⟨q21C,rr q21p [(ty_0,false)] Tryz.f168,fun p=>none,0,[]⟩
theorem q21K:Contract Tryz.prog 168 (q21V):=ctr q21C (rs := [(ty_0,false)]) (ps:=q21p) q21F Tryz.f168 16 ⟨tyOf_ok tys_ok,gOf_ok trivial⟩ (annl [] trivial)

noncomputable def q22V(k:Nat):Variant:=⟨[.val ty_9 true],[(.bool,false)],fun x=>spec_bxGood k x.1⟩
noncomputable def q22C(k:Nat):Cfg:=⟨Tryz.prog,tyOf tys,80,gOf [(149,[],q12V),(168,[],q21V)],false,[],[]⟩
def q22i1:List PE := [e31,e32,⟨4,48,.val .bool false,false⟩,⟨36,64,.val ty_7 false,false⟩,⟨37,80,.val ty_0 false,false⟩,⟨38,96,.val ty_0 false,false⟩]
def q22o1:List PE := [⟨4,16,.val .bool false,false⟩]
noncomputable def q22f1(k:Nat)(n:Nat)(x6:PTe q22i1):=spec_bxGood_L250 k n x6.1 x6.2.1 x6.2.2.1 x6.2.2.2.1 x6.2.2.2.2.1 x6.2.2.2.2.2.1
def q22p:List PE := [e9]
noncomputable def q22F(k:Nat):F3:=⟨q22C k,rr q22p [(.bool,false)] Tryz.f138,fun p=>bif Nat.beq p 250 then some (.loop q22i1 q22o1 0 112 (q22f1 k k))else none,0,[]⟩
theorem q22K(k:Nat):Contract Tryz.prog 138 (q22V k):=ctr (q22C k) (rs := [(.bool,false)]) (ps:=q22p) (q22F k) Tryz.f138 16 ⟨tyOf_ok tys_ok,gOf_ok ⟨q12K,q21K,trivial⟩⟩ (annl [250] ⟨lok q22i1 q22o1 0 112 (q22f1 k) k,trivial⟩)

noncomputable def q23V(k:Nat):Variant:=⟨[.val ty_5 false,.val ty_9 true],[(.bool,false)],fun x=>spec_vaBoth k x.1 x.2.1⟩
noncomputable def q23C(k:Nat):Cfg:=⟨Tryz.prog,tyOf tys,19,gOf [(137,[],q20V k),(138,[],q22V k)],false,[],[]⟩
def q23p:List PE := [e7,e33]
noncomputable def q23F(k:Nat):F3:=⟨q23C k,rr q23p [(.bool,false)] Tryz.f82,fun p=>none,0,[]⟩
theorem q23K(k:Nat):Contract Tryz.prog 82 (q23V k):=ctr (q23C k) (rs := [(.bool,false)]) (ps:=q23p) (q23F k) Tryz.f82 32 ⟨tyOf_ok tys_ok,gOf_ok ⟨q20K k,q22K k,trivial⟩⟩ (annl [] trivial)

noncomputable def q24V(k:Nat):Variant:=⟨[.val ty_5 false,.val ty_9 true],[(.bool,false)],fun x=>spec_nwGood k x.1 x.2.1⟩
noncomputable def q24C(k:Nat):Cfg:=⟨Tryz.prog,tyOf tys,13,gOf [(82,[],q23V k)],false,[],[]⟩
def q24p:List PE := [e7,e33]
noncomputable def q24F(k:Nat):F3:=⟨q24C k,rr q24p [(.bool,false)] Tryz.f49,fun p=>none,0,[]⟩
theorem q24K(k:Nat):Contract Tryz.prog 49 (q24V k):=ctr (q24C k) (rs := [(.bool,false)]) (ps:=q24p) (q24F k) Tryz.f49 32 ⟨tyOf_ok tys_ok,gOf_ok ⟨q23K k,trivial⟩⟩ (annl [] trivial)

noncomputable def q25V:Variant:=⟨[.val ty_1 true],[(.bool,false)],fun x=>spec_dyGood x.1⟩
noncomputable def q25C:Cfg:=⟨Tryz.prog,tyOf tys,22,gOf [(149,[],q12V)],false,[],[]⟩
def q25p:List PE := [e34]
noncomputable def q25F:F3:=⟨q25C,rr q25p [(.bool,false)] Tryz.f211,fun p=>none,0,[]⟩
theorem q25K:Contract Tryz.prog 211 (q25V):=ctr q25C (rs := [(.bool,false)]) (ps:=q25p) q25F Tryz.f211 16 ⟨tyOf_ok tys_ok,gOf_ok ⟨q12K,trivial⟩⟩ (annl [] trivial)

noncomputable def q26V(k:Nat):Variant:=⟨[.val ty_0 false,.val ty_0 false],[(ty_1,true),(.bool,false)],fun x=>spec_dyMake k x.1 x.2.1⟩
noncomputable def q26C(k:Nat):Cfg:=⟨Tryz.prog,tyOf tys,32,gOf [(211,[],q25V)],false,[],[]⟩
def q26i1:List PE := [e35,e4,e36]
def q26o1:List PE := [e35,e4,e36]
noncomputable def q26f1(k:Nat)(n:Nat)(x2:PTe q26i1):=spec_dyMake_L28 k n x2.1 x2.2.1 x2.2.2.1
def q26p:List PE := [e10,e2]
noncomputable def q26F(k:Nat):F4:=⟨q26C k,rr q26p [(ty_1,true),(.bool,false)] Tryz.f170,fun p=>bif Nat.beq p 28 then some (.loop q26i1 q26o1 0 80 (q26f1 k k))else bif Nat.beq p 6 then some (.cut [e35,e4,e36] 80)else none,0,[]⟩
theorem q26K(k:Nat):Contract Tryz.prog 170 (q26V k):=ctr (q26C k) (rs := [(ty_1,true),(.bool,false)]) (ps:=q26p) (q26F k) Tryz.f170 32 ⟨tyOf_ok tys_ok,gOf_ok ⟨q25K,trivial⟩⟩ (annl [28] ⟨lok q26i1 q26o1 0 80 (q26f1 k) k,trivial⟩)

noncomputable def q27V(k:Nat):Variant:=⟨[.val ty_0 false,.val ty_0 false],[(ty_1,true)],fun x=>spec_bxNumber k x.1 x.2.1⟩
noncomputable def q27C(k:Nat):Cfg:=⟨Tryz.prog,tyOf tys,14,gOf [(170,[],q26V k)],false,[],[]⟩
def q27p:List PE := [e10,e2]
noncomputable def q27F(k:Nat):F5:=⟨q27C k,rr q27p [(ty_1,true)] Tryz.f139,fun p=>none,0,[]⟩
theorem q27K(k:Nat):Contract Tryz.prog 139 (q27V k):=ctr (q27C k) (rs := [(ty_1,true)]) (ps:=q27p) (q27F k) Tryz.f139 32 ⟨tyOf_ok tys_ok,gOf_ok ⟨q26K k,trivial⟩⟩ (annl [] trivial)

noncomputable def q28V(k:Nat):Variant:=⟨[.val ty_9 true],[(ty_12,false)],fun x=>spec_vaSides k x.1⟩
noncomputable def q28C(k:Nat):Cfg:=⟨Tryz.prog,tyOf tys,32,gOf [(139,[],q27V k)],false,[],[]⟩
def q28i1:List PE := [e31,⟨3,32,.eat ty_10,false⟩,⟨7,48,.val ty_7 false,false⟩,e30,e26]
def q28o1:List PE := [⟨3,16,.eat ty_10,false⟩]
noncomputable def q28f1(k:Nat)(n:Nat)(x3:PTe q28i1):=spec_vaSides_L58 k n x3.1 x3.2.1 x3.2.2.1 x3.2.2.2.1 x3.2.2.2.2.1
def q28p:List PE := [e9]
noncomputable def q28F(k:Nat):Fn (List ((Int×Int)×Int×Int)):=⟨q28C k,rr q28p [(ty_12,false)] Tryz.f83,fun p=>bif Nat.beq p 58 then some (.loop q28i1 q28o1 0 96 (q28f1 k k))else none,0,[]⟩
theorem q28K(k:Nat):Contract Tryz.prog 83 (q28V k):=ctr (q28C k) (rs := [(ty_12,false)]) (ps:=q28p) (q28F k) Tryz.f83 16 ⟨tyOf_ok tys_ok,gOf_ok ⟨q27K k,trivial⟩⟩ (annl [58] ⟨lok q28i1 q28o1 0 96 (q28f1 k) k,trivial⟩)

noncomputable def q29V:Variant:=⟨[.val ty_3 true,.val ty_0 false,.val ty_0 false],[(ty_3,true)],fun x=>spec_poWith x.1 x.2.1 x.2.2.1⟩
noncomputable def q29C:Cfg:=⟨Tryz.prog,tyOf tys,19,gOf [],false,[],[]⟩
def q29p:List PE := [e11,e2,e21]
noncomputable def q29F:F2:=⟨q29C,rr q29p [(ty_3,true)] Tryz.f245,fun p=>none,0,[]⟩
theorem q29K:Contract Tryz.prog 245 (q29V):=ctr q29C (rs := [(ty_3,true)]) (ps:=q29p) q29F Tryz.f245 48 ⟨tyOf_ok tys_ok,gOf_ok trivial⟩ (annl [] trivial)

noncomputable def q30V(k:Nat):Variant:=⟨[.val ty_4 false,.val ty_0 false],[(ty_4,false)],fun x=>spec_poDerive k x.1 x.2.1⟩
noncomputable def q30C(k:Nat):Cfg:=⟨Tryz.prog,tyOf tys,37,gOf [(222,[],q17V),(245,[],q29V)],false,[],[]⟩
def q30i1:List PE := [e6,e13,⟨10,64,.val ty_4 false,false⟩,e37,e38]
def q30o1:List PE := [⟨5,32,.eat ty_3,false⟩]
noncomputable def q30f1(k:Nat)(n:Nat)(x3:PTe q30i1):=spec_poDerive_L58 k n x3.1 x3.2.1 x3.2.2.1 x3.2.2.2.1 x3.2.2.2.2.1
def q30p:List PE := [e1,e2]
noncomputable def q30F(k:Nat):F6:=⟨q30C k,rr q30p [(ty_4,false)] Tryz.f219,fun p=>bif Nat.beq p 58 then some (.loop q30i1 q30o1 0 112 (q30f1 k k))else none,0,[]⟩
theorem q30K(k:Nat):Contract Tryz.prog 219 (q30V k):=ctr (q30C k) (rs := [(ty_4,false)]) (ps:=q30p) (q30F k) Tryz.f219 32 ⟨tyOf_ok tys_ok,gOf_ok ⟨q17K,q29K,trivial⟩⟩ (annl [58] ⟨lok q30i1 q30o1 0 112 (q30f1 k) k,trivial⟩)

noncomputable def q31V:Variant:=⟨[.val ty_0 false],[(ty_1,true)],fun x=>spec_dyInt x.1⟩
noncomputable def q31C:Cfg:=⟨Tryz.prog,tyOf tys,5,gOf [],false,[],[]⟩
def q31p:List PE := [e10]
noncomputable def q31F:F5:=⟨q31C,rr q31p [(ty_1,true)] Tryz.f107,fun p=>none,0,[]⟩
theorem q31K:Contract Tryz.prog 107 (q31V):=ctr q31C (rs := [(ty_1,true)]) (ps:=q31p) q31F Tryz.f107 16 ⟨tyOf_ok tys_ok,gOf_ok trivial⟩ (annl [] trivial)

noncomputable def q32V:Variant:=⟨[.val ty_1 true],[(ty_10,true)],fun x=>spec_vaPure x.1⟩
noncomputable def q32C:Cfg:=⟨Tryz.prog,tyOf tys,6,gOf [],false,[],[]⟩
def q32p:List PE := [e34]
noncomputable def q32F:F7:=⟨q32C,rr q32p [(ty_10,true)] Tryz.f122,fun p=>none,0,[]⟩
theorem q32K:Contract Tryz.prog 122 (q32V):=ctr q32C (rs := [(ty_10,true)]) (ps:=q32p) q32F Tryz.f122 16 ⟨tyOf_ok tys_ok,gOf_ok trivial⟩ (annl [] trivial)

noncomputable def q33V:Variant:=⟨[.val ty_0 false],[(ty_0,false)],fun x=>spec_l1Abs x.1⟩
noncomputable def q33C:Cfg:=⟨Tryz.prog,tyOf tys,7,gOf [(169,[],q18V)],false,[],[]⟩
def q33p:List PE := [e10]
noncomputable def q33F:F1:=⟨q33C,rr q33p [(ty_0,false)] Tryz.f164,fun p=>none,0,[]⟩
theorem q33K:Contract Tryz.prog 164 (q33V):=ctr q33C (rs := [(ty_0,false)]) (ps:=q33p) q33F Tryz.f164 16 ⟨tyOf_ok tys_ok,gOf_ok ⟨q18K,trivial⟩⟩ (annl [] trivial)

noncomputable def q34V(k:Nat):Variant:=⟨[.val ty_1 true,.val ty_1 true],[(ty_1,true),(.bool,false)],fun x=>spec_dyMul k x.1 x.2.1⟩
noncomputable def q34C(k:Nat):Cfg:=⟨Tryz.prog,tyOf tys,67,gOf [(164,[],q33V),(170,[],q26V k)],false,[],[]⟩
def q34i1:List PE := [e39,e40,e36,e17]
def q34o1:List PE := [e39,e40,e36,e17]
noncomputable def q34f1(k:Nat)(n:Nat)(x1:PTe q34i1):=spec_dyMul_L60 k n x1.1 x1.2.1 x1.2.2.1 x1.2.2.2.1
def q34i2:List PE := [e39,e40,e36,e17]
def q34o2:List PE := [e39,e40,e36,e17]
noncomputable def q34f2(k:Nat)(n:Nat)(x4:PTe q34i2):=spec_dyMul_L124 k n x4.1 x4.2.1 x4.2.2.1 x4.2.2.2.1
def q34p:List PE := [e34,e41]
noncomputable def q34F(k:Nat):F4:=⟨q34C k,rr q34p [(ty_1,true),(.bool,false)] Tryz.f187,fun p=>bif Nat.beq p 60 then some (.loop q34i1 q34o1 0 96 (q34f1 k k))else bif Nat.beq p 124 then some (.loop q34i2 q34o2 2 96 (q34f2 k k))else none,0,[]⟩
theorem q34K(k:Nat):Contract Tryz.prog 187 (q34V k):=ctr (q34C k) (rs := [(ty_1,true),(.bool,false)]) (ps:=q34p) (q34F k) Tryz.f187 32 ⟨tyOf_ok tys_ok,gOf_ok ⟨q33K,q26K k,trivial⟩⟩ (annl [60,124] ⟨lok q34i1 q34o1 0 96 (q34f1 k) k,lok q34i2 q34o2 2 96 (q34f2 k) k,trivial⟩)

noncomputable def q35V(k:Nat):Variant:=⟨[.val ty_1 true,.val ty_0 false],[(ty_1,true),(.bool,false)],fun x=>spec_ivRaise k x.1 x.2.1⟩
noncomputable def q35C(k:Nat):Cfg:=⟨Tryz.prog,tyOf tys,25,gOf [(107,[],q31V),(187,[],q34V k)],false,[],[]⟩
def q35i1:List PE := [e6,⟨2,48,.box ty_1 false,false⟩,e36,⟨6,80,.box ty_1 false,false⟩]
def q35o1:List PE := [e42,e43]
noncomputable def q35f1(k:Nat)(n:Nat)(x3:PTe q35i1):=spec_ivRaise_L28 k n x3.1 x3.2.1 x3.2.2.1 x3.2.2.2.1
def q35p:List PE := [e34,e2]
noncomputable def q35F(k:Nat):F4:=⟨q35C k,rr q35p [(ty_1,true),(.bool,false)] Tryz.f257,fun p=>bif Nat.beq p 28 then some (.loop q35i1 q35o1 0 96 (q35f1 k k))else none,0,[]⟩
theorem q35K(k:Nat):Contract Tryz.prog 257 (q35V k):=ctr (q35C k) (rs := [(ty_1,true),(.bool,false)]) (ps:=q35p) (q35F k) Tryz.f257 32 ⟨tyOf_ok tys_ok,gOf_ok ⟨q31K,q34K k,trivial⟩⟩ (annl [28] ⟨lok q35i1 q35o1 0 96 (q35f1 k) k,trivial⟩)

noncomputable def q36V:Variant:=⟨[.val ty_10 true],[(.bool,false)],fun x=>spec_ivZero x.1⟩
noncomputable def q36C:Cfg:=⟨Tryz.prog,tyOf tys,13,gOf [],false,[],[]⟩
def q36p:List PE := [e44]
noncomputable def q36F:F3:=⟨q36C,rr q36p [(.bool,false)] Tryz.f258,fun p=>none,0,[]⟩
theorem q36K:Contract Tryz.prog 258 (q36V):=ctr q36C (rs := [(.bool,false)]) (ps:=q36p) q36F Tryz.f258 16 ⟨tyOf_ok tys_ok,gOf_ok trivial⟩ (annl [] trivial)

noncomputable def q37V:Variant:=⟨[.val ty_0 false,.val ty_0 false],[(ty_0,false)],fun x=>spec_dyDown x.1 x.2.1⟩
noncomputable def q37C:Cfg:=⟨Tryz.prog,tyOf tys,16,gOf [],false,[],[]⟩
def q37p:List PE := [e10,e2]
noncomputable def q37F:F1:=⟨q37C,rr q37p [(ty_0,false)] Tryz.f210,fun p=>none,0,[]⟩
theorem q37K:Contract Tryz.prog 210 (q37V):=ctr q37C (rs := [(ty_0,false)]) (ps:=q37p) q37F Tryz.f210 32 ⟨tyOf_ok tys_ok,gOf_ok trivial⟩ (annl [] trivial)

noncomputable def q38V:Variant:=⟨[.val ty_1 true],[(ty_0,false)],fun x=>spec_dyFloor x.1⟩
noncomputable def q38C:Cfg:=⟨Tryz.prog,tyOf tys,9,gOf [(168,[],q21V),(210,[],q37V)],false,[],[]⟩
def q38p:List PE := [e34]
noncomputable def q38F:F1:=⟨q38C,rr q38p [(ty_0,false)] Tryz.f165,fun p=>none,0,[]⟩
theorem q38K:Contract Tryz.prog 165 (q38V):=ctr q38C (rs := [(ty_0,false)]) (ps:=q38p) q38F Tryz.f165 16 ⟨tyOf_ok tys_ok,gOf_ok ⟨q21K,q37K,trivial⟩⟩ (annl [] trivial)

noncomputable def q39V(k:Nat):Variant:=⟨[.val ty_1 true,.val ty_0 false],[(ty_0,false),(.bool,false)],fun x=>spec_dyAt k x.1 x.2.1⟩
noncomputable def q39C(k:Nat):Cfg:=⟨Tryz.prog,tyOf tys,30,gOf [(168,[],q21V),(149,[],q12V)],false,[],[]⟩
def q39i1:List PE := [e6,⟨2,48,.box ty_1 false,false⟩,e14]
def q39o1:List PE := [e39]
noncomputable def q39f1(k:Nat)(n:Nat)(x4:PTe q39i1):=spec_dyAt_L58 k n x4.1 x4.2.1 x4.2.2.1
def q39p:List PE := [e34,e2]
noncomputable def q39F(k:Nat):Fn (Int×Bool):=⟨q39C k,rr q39p [(ty_0,false),(.bool,false)] Tryz.f167,fun p=>bif Nat.beq p 58 then some (.loop q39i1 q39o1 0 80 (q39f1 k k))else none,0,[]⟩
theorem q39K(k:Nat):Contract Tryz.prog 167 (q39V k):=ctr (q39C k) (rs := [(ty_0,false),(.bool,false)]) (ps:=q39p) (q39F k) Tryz.f167 32 ⟨tyOf_ok tys_ok,gOf_ok ⟨q21K,q12K,trivial⟩⟩ (annl [58] ⟨lok q39i1 q39o1 0 80 (q39f1 k) k,trivial⟩)

noncomputable def q40V(k:Nat):Variant:=⟨[.val ty_1 true,.val ty_1 true],[(ty_0,false)],fun x=>spec_dyCmp k x.1 x.2.1⟩
noncomputable def q40C(k:Nat):Cfg:=⟨Tryz.prog,tyOf tys,56,gOf [(165,[],q38V),(166,[],q14V),(168,[],q21V),(167,[],q39V k)],false,[],[]⟩
def q40p:List PE := [e34,e41]
noncomputable def q40F(k:Nat):F1:=⟨q40C k,rr q40p [(ty_0,false)] Tryz.f105,fun p=>none,0,[]⟩
theorem q40K(k:Nat):Contract Tryz.prog 105 (q40V k):=ctr (q40C k) (rs := [(ty_0,false)]) (ps:=q40p) (q40F k) Tryz.f105 32 ⟨tyOf_ok tys_ok,gOf_ok ⟨q38K,q14K,q21K,q39K k,trivial⟩⟩ (annl [] trivial)

noncomputable def q41V(k:Nat):Variant:=⟨[.val ty_11 false],[(ty_10,true)],fun x=>spec_ivEnds k x.1⟩
noncomputable def q41C(k:Nat):Cfg:=⟨Tryz.prog,tyOf tys,35,gOf [(105,[],q40V k)],false,[],[]⟩
def q41i1:List PE := [e45,e46,⟨13,48,.val ty_11 false,false⟩,e47,⟨15,80,.val ty_0 false,false⟩]
def q41o1:List PE := [e45,e46]
noncomputable def q41f1(k:Nat)(n:Nat)(x5:PTe q41i1):=spec_ivEnds_L58 k n x5.1 x5.2.1 x5.2.2.1 x5.2.2.2.1 x5.2.2.2.2.1
def q41p:List PE := [⟨0,0,.val ty_11 false,false⟩]
noncomputable def q41F(k:Nat):F7:=⟨q41C k,rr q41p [(ty_10,true)] Tryz.f140,fun p=>bif Nat.beq p 7474 then some (.cut [e45,e46,e48,⟨13,64,.val ty_11 false,false⟩,e49,e50] 112)else bif Nat.beq p 58 then some (.loop q41i1 q41o1 0 96 (q41f1 k k))else none,0,[]⟩
theorem q41K(k:Nat):Contract Tryz.prog 140 (q41V k):=ctr (q41C k) (rs := [(ty_10,true)]) (ps:=q41p) (q41F k) Tryz.f140 16 ⟨tyOf_ok tys_ok,gOf_ok ⟨q40K k,trivial⟩⟩ (annl [58] ⟨lok q41i1 q41o1 0 96 (q41f1 k) k,trivial⟩)

noncomputable def q42V(k:Nat):Variant:=⟨[.val ty_1 true,.val ty_0 false],[(ty_1,true)],fun x=>spec_dyRound k x.1 x.2.1⟩
noncomputable def q42C(k:Nat):Cfg:=⟨Tryz.prog,tyOf tys,26,gOf [(168,[],q21V),(210,[],q37V),(170,[],q26V k)],false,[],[]⟩
def q42p:List PE := [e34,e2]
noncomputable def q42F(k:Nat):F5:=⟨q42C k,rr q42p [(ty_1,true)] Tryz.f225,fun p=>none,0,[]⟩
theorem q42K(k:Nat):Contract Tryz.prog 225 (q42V k):=ctr (q42C k) (rs := [(ty_1,true)]) (ps:=q42p) (q42F k) Tryz.f225 32 ⟨tyOf_ok tys_ok,gOf_ok ⟨q21K,q37K,q26K k,trivial⟩⟩ (annl [] trivial)

noncomputable def q43V:Variant:=⟨[.val ty_1 true],[(ty_1,true)],fun x=>spec_dyMinus x.1⟩
noncomputable def q43C:Cfg:=⟨Tryz.prog,tyOf tys,9,gOf [],false,[],[]⟩
def q43p:List PE := [e34]
noncomputable def q43F:F5:=⟨q43C,rr q43p [(ty_1,true)] Tryz.f182,fun p=>none,0,[]⟩
theorem q43K:Contract Tryz.prog 182 (q43V):=ctr q43C (rs := [(ty_1,true)]) (ps:=q43p) q43F Tryz.f182 16 ⟨tyOf_ok tys_ok,gOf_ok trivial⟩ (annl [] trivial)

noncomputable def q44V(k:Nat):Variant:=⟨[.val ty_1 true,.val ty_0 false],[(ty_1,true)],fun x=>spec_ivUp k x.1 x.2.1⟩
noncomputable def q44C(k:Nat):Cfg:=⟨Tryz.prog,tyOf tys,10,gOf [(182,[],q43V),(225,[],q42V k)],false,[],[]⟩
def q44p:List PE := [e34,e2]
noncomputable def q44F(k:Nat):F5:=⟨q44C k,rr q44p [(ty_1,true)] Tryz.f226,fun p=>none,0,[]⟩
theorem q44K(k:Nat):Contract Tryz.prog 226 (q44V k):=ctr (q44C k) (rs := [(ty_1,true)]) (ps:=q44p) (q44F k) Tryz.f226 32 ⟨tyOf_ok tys_ok,gOf_ok ⟨q43K,q42K k,trivial⟩⟩ (annl [] trivial)

noncomputable def q45V(k:Nat):Variant:=⟨[.val ty_10 true,.val ty_0 false],[(ty_10,true)],fun x=>spec_ivRound k x.1 x.2.1⟩
noncomputable def q45C(k:Nat):Cfg:=⟨Tryz.prog,tyOf tys,14,gOf [(225,[],q42V k),(226,[],q44V k)],false,[],[]⟩
def q45p:List PE := [e44,e2]
noncomputable def q45F(k:Nat):F7:=⟨q45C k,rr q45p [(ty_10,true)] Tryz.f188,fun p=>none,0,[]⟩
theorem q45K(k:Nat):Contract Tryz.prog 188 (q45V k):=ctr (q45C k) (rs := [(ty_10,true)]) (ps:=q45p) (q45F k) Tryz.f188 32 ⟨tyOf_ok tys_ok,gOf_ok ⟨q42K k,q44K k,trivial⟩⟩ (annl [] trivial)

noncomputable def q46V(k:Nat):Variant:=⟨[.val ty_10 true,.val ty_0 false],[(ty_10,true),(.bool,false)],fun x=>spec_ivPower k x.1 x.2.1⟩
noncomputable def q46C(k:Nat):Cfg:=⟨Tryz.prog,tyOf tys,53,gOf [(257,[],q35V k),(258,[],q36V),(107,[],q31V),(140,[],q41V k),(188,[],q45V k)],false,[],[]⟩
def q46p:List PE := [e44,e2]
noncomputable def q46F(k:Nat):F8:=⟨q46C k,rr q46p [(ty_10,true),(.bool,false)] Tryz.f244,fun p=>bif Nat.beq p 126 then some (.cut [e51,⟨10,48,.eat ty_1,false⟩] 64)else none,0,[]⟩
theorem q46K(k:Nat):Contract Tryz.prog 244 (q46V k):=ctr (q46C k) (rs := [(ty_10,true),(.bool,false)]) (ps:=q46p) (q46F k) Tryz.f244 32 ⟨tyOf_ok tys_ok,gOf_ok ⟨q35K k,q36K,q31K,q41K k,q45K k,trivial⟩⟩ (annl [] trivial)

noncomputable def q47V(k:Nat):Variant:=⟨[.val ty_10 true,.val ty_10 true],[(ty_10,true),(.bool,false)],fun x=>spec_ivMul k x.1 x.2.1⟩
noncomputable def q47C(k:Nat):Cfg:=⟨Tryz.prog,tyOf tys,51,gOf [(187,[],q34V k),(140,[],q41V k),(188,[],q45V k)],false,[],[]⟩
def q47i1:List PE := [e46,e52,e53,e54,⟨17,96,.eat ty_1,false⟩,⟨18,112,.val ty_0 false,false⟩,⟨19,128,.val ty_0 false,false⟩,⟨27,144,.eat ty_1,false⟩,⟨28,160,.val ty_0 false,false⟩,⟨29,176,.val ty_0 false,false⟩]
def q47o1:List PE := [e46,e52,e53,⟨17,80,.eat ty_1,false⟩,e55,e56]
noncomputable def q47f1(k:Nat)(n:Nat)(x2:PTe q47i1):=spec_ivMul_L14950 k n x2.1 x2.2.1 x2.2.2.1 x2.2.2.2.1 x2.2.2.2.2.1 x2.2.2.2.2.2.1 x2.2.2.2.2.2.2.1 x2.2.2.2.2.2.2.2.1 x2.2.2.2.2.2.2.2.2.1 x2.2.2.2.2.2.2.2.2.2.1
def q47i2:List PE := [e46,e52,e53,⟨17,80,.eat ty_1,false⟩,e55,e56]
def q47o2:List PE := [e51,e57]
noncomputable def q47f2(k:Nat)(n:Nat)(x5:PTe q47i2):=spec_ivMul_L58 k n x5.1 x5.2.1 x5.2.2.1 x5.2.2.2.1 x5.2.2.2.2.1 x5.2.2.2.2.2.1
def q47p:List PE := [e44,e58]
noncomputable def q47F(k:Nat):F8:=⟨q47C k,rr q47p [(ty_10,true),(.bool,false)] Tryz.f133,fun p=>bif Nat.beq p 14950 then some (.loop q47i1 q47o1 2 192 (q47f1 k k))else bif Nat.beq p 58 then some (.loop q47i2 q47o2 0 128 (q47f2 k k))else none,0,[]⟩
theorem q47K(k:Nat):Contract Tryz.prog 133 (q47V k):=ctr (q47C k) (rs := [(ty_10,true),(.bool,false)]) (ps:=q47p) (q47F k) Tryz.f133 32 ⟨tyOf_ok tys_ok,gOf_ok ⟨q34K k,q41K k,q45K k,trivial⟩⟩ (annl [58,14950] ⟨lok q47i2 q47o2 0 128 (q47f2 k) k,lok q47i1 q47o1 2 192 (q47f1 k) k,trivial⟩)

noncomputable def q48V(k:Nat):Variant:=⟨[.val ty_1 true,.val ty_1 true],[(ty_1,true),(.bool,false)],fun x=>spec_dyAdd k x.1 x.2.1⟩
noncomputable def q48C(k:Nat):Cfg:=⟨Tryz.prog,tyOf tys,42,gOf [(169,[],q18V),(167,[],q39V k),(170,[],q26V k)],false,[],[]⟩
def q48p:List PE := [e34,e41]
noncomputable def q48F(k:Nat):F4:=⟨q48C k,rr q48p [(ty_1,true),(.bool,false)] Tryz.f106,fun p=>none,0,[]⟩
theorem q48K(k:Nat):Contract Tryz.prog 106 (q48V k):=ctr (q48C k) (rs := [(ty_1,true),(.bool,false)]) (ps:=q48p) (q48F k) Tryz.f106 32 ⟨tyOf_ok tys_ok,gOf_ok ⟨q18K,q39K k,q26K k,trivial⟩⟩ (annl [] trivial)

noncomputable def q49V:Variant:=⟨[.val ty_1 true,.val .bool false,.val ty_1 true,.val .bool false],[(ty_10,true),(.bool,false)],fun x=>spec_ivBoth x.1 x.2.1 x.2.2.1 x.2.2.2.1⟩
noncomputable def q49C:Cfg:=⟨Tryz.prog,tyOf tys,20,gOf [],false,[],[]⟩
def q49p:List PE := [e34,e16,e59,⟨3,48,.val .bool false,false⟩]
noncomputable def q49F:F8:=⟨q49C,rr q49p [(ty_10,true),(.bool,false)] Tryz.f189,fun p=>none,0,[]⟩
theorem q49K:Contract Tryz.prog 189 (q49V):=ctr q49C (rs := [(ty_10,true),(.bool,false)]) (ps:=q49p) q49F Tryz.f189 64 ⟨tyOf_ok tys_ok,gOf_ok trivial⟩ (annl [] trivial)

noncomputable def q50V(k:Nat):Variant:=⟨[.val ty_10 true,.val ty_10 true],[(ty_10,true),(.bool,false)],fun x=>spec_ivAdd k x.1 x.2.1⟩
noncomputable def q50C(k:Nat):Cfg:=⟨Tryz.prog,tyOf tys,33,gOf [(106,[],q48V k),(189,[],q49V)],false,[],[]⟩
def q50p:List PE := [e44,e58]
noncomputable def q50F(k:Nat):F8:=⟨q50C k,rr q50p [(ty_10,true),(.bool,false)] Tryz.f134,fun p=>none,0,[]⟩
theorem q50K(k:Nat):Contract Tryz.prog 134 (q50V k):=ctr (q50C k) (rs := [(ty_10,true),(.bool,false)]) (ps:=q50p) (q50F k) Tryz.f134 32 ⟨tyOf_ok tys_ok,gOf_ok ⟨q48K k,q49K,trivial⟩⟩ (annl [] trivial)

noncomputable def q51V(k:Nat):Variant:=⟨[.val ty_4 false,.val ty_12 false],[(ty_10,true),(.bool,false)],fun x=>spec_vaOver k x.1 x.2.1⟩
noncomputable def q51C(k:Nat):Cfg:=⟨Tryz.prog,tyOf tys,71,gOf [(107,[],q31V),(122,[],q32V),(222,[],q17V),(244,[],q46V k),(133,[],q47V k),(134,[],q50V k)],false,[],[]⟩
def q51i1:List PE := [e60,e52,e61,⟨8,80,.box ty_3 false,false⟩,⟨9,96,.box ty_10 false,false⟩,⟨20,112,.val ty_4 false,false⟩,⟨21,128,.val ty_0 false,false⟩,⟨22,144,.val ty_0 false,false⟩,⟨30,160,.val ty_12 false,false⟩,⟨31,176,.val ty_0 false,false⟩,⟨32,192,.val ty_0 false,false⟩]
def q51o1:List PE := [e60,e52,e61,⟨9,80,.box ty_10 false,false⟩,⟨20,96,.val ty_4 false,false⟩,e62,⟨22,128,.val ty_0 false,false⟩]
noncomputable def q51f1(k:Nat)(n:Nat)(x8:PTe q51i1):=spec_vaOver_L59802 k n x8.1 x8.2.1 x8.2.2.1 x8.2.2.2.1 x8.2.2.2.2.1 x8.2.2.2.2.2.1 x8.2.2.2.2.2.2.1 x8.2.2.2.2.2.2.2.1 x8.2.2.2.2.2.2.2.2.1 x8.2.2.2.2.2.2.2.2.2.1 x8.2.2.2.2.2.2.2.2.2.2.1
def q51i2:List PE := [e60,e52,e61,⟨20,80,.val ty_4 false,false⟩,⟨21,96,.val ty_0 false,false⟩,⟨22,112,.val ty_0 false,false⟩]
def q51o2:List PE := [e51,⟨6,48,.box ty_10 false,false⟩]
noncomputable def q51f2(k:Nat)(n:Nat)(x12:PTe q51i2):=spec_vaOver_L58 k n x12.1 x12.2.1 x12.2.2.1 x12.2.2.2.1 x12.2.2.2.2.1 x12.2.2.2.2.2.1
def q51p:List PE := [e1,e63]
noncomputable def q51F(k:Nat):F8:=⟨q51C k,rr q51p [(ty_10,true),(.bool,false)] Tryz.f218,fun p=>bif Nat.beq p 59802 then some (.loop q51i1 q51o1 2 208 (q51f1 k k))else bif Nat.beq p 58 then some (.loop q51i2 q51o2 0 128 (q51f2 k k))else none,0,[]⟩
theorem q51K(k:Nat):Contract Tryz.prog 218 (q51V k):=ctr (q51C k) (rs := [(ty_10,true),(.bool,false)]) (ps:=q51p) (q51F k) Tryz.f218 32 ⟨tyOf_ok tys_ok,gOf_ok ⟨q31K,q32K,q17K,q46K k,q47K k,q50K k,trivial⟩⟩ (annl [58,59802] ⟨lok q51i2 q51o2 0 128 (q51f2 k) k,lok q51i1 q51o1 2 208 (q51f1 k) k,trivial⟩)

noncomputable def q52V(k:Nat):Variant:=⟨[.val ty_4 false,.val ty_12 false],[(ty_12,false),(.bool,false)],fun x=>spec_vaGradient k x.1 x.2.1⟩
noncomputable def q52C(k:Nat):Cfg:=⟨Tryz.prog,tyOf tys,31,gOf [(219,[],q30V k),(218,[],q51V k)],false,[],[]⟩
def q52i1:List PE := [e12,⟨1,48,.val ty_12 false,false⟩,⟨6,64,.eat ty_10,false⟩,e37,e38]
def q52o1:List PE := [e64]
noncomputable def q52f1(k:Nat)(n:Nat)(x3:PTe q52i1):=spec_vaGradient_L58 k n x3.1 x3.2.1 x3.2.2.1 x3.2.2.2.1 x3.2.2.2.2.1
def q52p:List PE := [e1,e63]
noncomputable def q52F(k:Nat):F9:=⟨q52C k,rr q52p [(ty_12,false),(.bool,false)] Tryz.f174,fun p=>bif Nat.beq p 58 then some (.loop q52i1 q52o1 0 112 (q52f1 k k))else none,0,[]⟩
theorem q52K(k:Nat):Contract Tryz.prog 174 (q52V k):=ctr (q52C k) (rs := [(ty_12,false),(.bool,false)]) (ps:=q52p) (q52F k) Tryz.f174 32 ⟨tyOf_ok tys_ok,gOf_ok ⟨q30K k,q51K k,trivial⟩⟩ (annl [58] ⟨lok q52i1 q52o1 0 112 (q52f1 k) k,trivial⟩)

noncomputable def q53V(k:Nat):Variant:=⟨[.val ty_5 false,.val ty_9 true],[(ty_13,false),(.bool,false)],fun x=>spec_vaJacobian k x.1 x.2.1⟩
noncomputable def q53C(k:Nat):Cfg:=⟨Tryz.prog,tyOf tys,32,gOf [(83,[],q28V k),(174,[],q52V k)],false,[],[]⟩
def q53i1:List PE := [⟨3,32,.box ty_9 false,false⟩,e65,⟨11,64,.val ty_5 false,false⟩,e66,e67]
def q53o1:List PE := [e68]
noncomputable def q53f1(k:Nat)(n:Nat)(x3:PTe q53i1):=spec_vaJacobian_L58 k n x3.1 x3.2.1 x3.2.2.1 x3.2.2.2.1 x3.2.2.2.2.1
def q53p:List PE := [e7,e33]
noncomputable def q53F(k:Nat):F10:=⟨q53C k,rr q53p [(ty_13,false),(.bool,false)] Tryz.f117,fun p=>bif Nat.beq p 58 then some (.loop q53i1 q53o1 0 112 (q53f1 k k))else none,0,[]⟩
theorem q53K(k:Nat):Contract Tryz.prog 117 (q53V k):=ctr (q53C k) (rs := [(ty_13,false),(.bool,false)]) (ps:=q53p) (q53F k) Tryz.f117 32 ⟨tyOf_ok tys_ok,gOf_ok ⟨q28K k,q52K k,trivial⟩⟩ (annl [58] ⟨lok q53i1 q53o1 0 112 (q53f1 k) k,trivial⟩)

noncomputable def q54V(k:Nat):Variant:=⟨[.val ty_1 true,.val ty_1 true],[(ty_1,true),(.bool,false)],fun x=>spec_dyHalf k x.1 x.2.1⟩
noncomputable def q54C(k:Nat):Cfg:=⟨Tryz.prog,tyOf tys,43,gOf [(169,[],q18V),(167,[],q39V k),(170,[],q26V k)],false,[],[]⟩
def q54p:List PE := [e34,e41]
noncomputable def q54F(k:Nat):F4:=⟨q54C k,rr q54p [(ty_1,true),(.bool,false)] Tryz.f175,fun p=>none,0,[]⟩
theorem q54K(k:Nat):Contract Tryz.prog 175 (q54V k):=ctr (q54C k) (rs := [(ty_1,true),(.bool,false)]) (ps:=q54p) (q54F k) Tryz.f175 32 ⟨tyOf_ok tys_ok,gOf_ok ⟨q18K,q39K k,q26K k,trivial⟩⟩ (annl [] trivial)

noncomputable def q55V(k:Nat):Variant:=⟨[.val ty_13 false],[(ty_14,false),(.bool,false)],fun x=>spec_nwMiddle k x.1⟩
noncomputable def q55C(k:Nat):Cfg:=⟨Tryz.prog,tyOf tys,45,gOf [(175,[],q54V k)],false,[],[]⟩
def q55i1:List PE := [e69,⟨7,32,.eat ty_1,false⟩,⟨12,48,.val ty_13 false,false⟩,⟨13,64,.val ty_0 false,false⟩,e49,⟨18,96,.val ty_12 false,false⟩,e56,e70]
def q55o1:List PE := [e69,⟨7,32,.eat ty_1,false⟩,⟨12,48,.val ty_13 false,false⟩,⟨13,64,.val ty_0 false,false⟩,e49]
noncomputable def q55f1(k:Nat)(n:Nat)(x2:PTe q55i1):=spec_nwMiddle_L59802 k n x2.1 x2.2.1 x2.2.2.1 x2.2.2.2.1 x2.2.2.2.2.1 x2.2.2.2.2.2.1 x2.2.2.2.2.2.2.1 x2.2.2.2.2.2.2.2.1
def q55i2:List PE := [e69,⟨12,32,.val ty_13 false,false⟩,⟨13,48,.val ty_0 false,false⟩,e47]
def q55o2:List PE := [e69]
noncomputable def q55f2(k:Nat)(n:Nat)(x5:PTe q55i2):=spec_nwMiddle_L58 k n x5.1 x5.2.1 x5.2.2.1 x5.2.2.2.1
def q55p:List PE := [⟨0,0,.val ty_13 false,false⟩]
noncomputable def q55F(k:Nat):F11:=⟨q55C k,rr q55p [(ty_14,false),(.bool,false)] Tryz.f118,fun p=>bif Nat.beq p 59802 then some (.loop q55i1 q55o1 2 144 (q55f1 k k))else bif Nat.beq p 58 then some (.loop q55i2 q55o2 0 80 (q55f2 k k))else none,0,[]⟩
theorem q55K(k:Nat):Contract Tryz.prog 118 (q55V k):=ctr (q55C k) (rs := [(ty_14,false),(.bool,false)]) (ps:=q55p) (q55F k) Tryz.f118 16 ⟨tyOf_ok tys_ok,gOf_ok ⟨q54K k,trivial⟩⟩ (annl [58,59802] ⟨lok q55i2 q55o2 0 80 (q55f2 k) k,lok q55i1 q55o1 2 144 (q55f1 k) k,trivial⟩)

noncomputable def q56V(k:Nat):Variant:=⟨[.val ty_14 false,.val ty_0 false,.val ty_0 false],[(ty_14,false)],fun x=>spec_mxPart k x.1 x.2.1 x.2.2.1⟩
noncomputable def q56C(k:Nat):Cfg:=⟨Tryz.prog,tyOf tys,35,gOf [],false,[],[]⟩
def q56i1:List PE := [e4,⟨2,64,.val ty_0 false,false⟩,⟨7,80,.eat ty_11,false⟩,⟨10,96,.val ty_14 false,false⟩,⟨11,112,.val ty_0 false,false⟩,⟨12,128,.val ty_0 false,false⟩]
def q56o1:List PE := [⟨7,48,.eat ty_11,false⟩]
noncomputable def q56f1(k:Nat)(n:Nat)(x1:PTe q56i1):=spec_mxPart_L58 k n x1.1 x1.2.1 x1.2.2.1 x1.2.2.2.1 x1.2.2.2.2.1 x1.2.2.2.2.2.1
def q56p:List PE := [e71,e2,e21]
noncomputable def q56F(k:Nat):Fn (List (List (Int×Int))):=⟨q56C k,rr q56p [(ty_14,false)] Tryz.f220,fun p=>bif Nat.beq p 58 then some (.loop q56i1 q56o1 0 144 (q56f1 k k))else none,0,[]⟩
theorem q56K(k:Nat):Contract Tryz.prog 220 (q56V k):=ctr (q56C k) (rs := [(ty_14,false)]) (ps:=q56p) (q56F k) Tryz.f220 48 ⟨tyOf_ok tys_ok,gOf_ok trivial⟩ (annl [58] ⟨lok q56i1 q56o1 0 144 (q56f1 k) k,trivial⟩)

noncomputable def q57V(k:Nat):Variant:=⟨[.val ty_14 false],[(ty_1,true),(.bool,false)],fun x=>spec_mxDet k x.1⟩
noncomputable def q57W(rc:(List (List (Int×Int)))→Option ((Int×Int)×Bool)):Variant:=⟨[.val ty_14 false],[(ty_1,true),(.bool,false)],fun x=>rc x.1⟩
noncomputable def q57C(k:Nat)(rc:(List (List (Int×Int)))→Option ((Int×Int)×Bool)):Cfg:=⟨Tryz.prog,tyOf tys,68,gOf [(220,[],q56V k),(176,[],q57W rc),(187,[],q34V k),(182,[],q43V),(106,[],q48V k)],false,[],[]⟩
def q57i1:List PE := [e72,e39,e73,⟨24,64,.val ty_11 false,false⟩,⟨25,80,.val ty_0 false,false⟩,e74]
def q57o1:List PE := [⟨2,16,.box ty_1 false,false⟩,e42]
noncomputable def q57f1(k:Nat)(rc:(List (List (Int×Int)))→Option ((Int×Int)×Bool))(n:Nat)(x8:PTe q57i1):=spec_mxDet_L122 k rc n x8.1 x8.2.1 x8.2.2.1 x8.2.2.2.1 x8.2.2.2.2.1 x8.2.2.2.2.2.1
def q57p:List PE := [e71]
noncomputable def q57F(k:Nat)(rc:(List (List (Int×Int)))→Option ((Int×Int)×Bool)):F4:=⟨q57C k rc,rr q57p [(ty_1,true),(.bool,false)] Tryz.f176,fun p=>bif Nat.beq p 125342 then some (.cut [e72,e39,e73,⟨9,64,.box ty_1 false,false⟩,⟨10,80,.val .bool false,false⟩,⟨24,96,.val ty_11 false,false⟩,⟨25,112,.val ty_0 false,false⟩,⟨26,128,.val ty_0 false,false⟩] 144)else bif Nat.beq p 122 then some (.loop q57i1 q57o1 0 112 (q57f1 k rc k))else none,0,[]⟩
theorem q57KB(k:Nat)(rc:(List (List (Int×Int)))→Option ((Int×Int)×Bool))(hrc:Contract Tryz.prog 176 (q57W rc)):Contract Tryz.prog 176 (q57W (spec_mxDet_B k rc)):=ctr (q57C k rc) (rs := [(ty_1,true),(.bool,false)]) (ps:=q57p) (q57F k rc) Tryz.f176 16 ⟨tyOf_ok tys_ok,gOf_ok ⟨q56K k,hrc,q34K k,q43K,q48K k,trivial⟩⟩ (annl [122] ⟨lok q57i1 q57o1 0 112 (q57f1 k rc) k,trivial⟩)
theorem q57KR(k:Nat):∀n,Contract Tryz.prog 176 (q57W (spec_mxDet_R k n))
 | 0=>contract_none fun _=>rfl
 | n+1=>q57KB k _ (q57KR k n)
theorem q57K(k:Nat):Contract Tryz.prog 176 (q57V k):=q57KR k k

noncomputable def q58V(k:Nat):Variant:=⟨[.val ty_14 false],[(ty_14,false),(.bool,false)],fun x=>spec_mxAdjoint k x.1⟩
noncomputable def q58C(k:Nat):Cfg:=⟨Tryz.prog,tyOf tys,54,gOf [(107,[],q31V),(220,[],q56V k),(176,[],q57V k),(182,[],q43V)],false,[],[]⟩
def q58i1:List PE := [e72,e75,e25,e53,⟨17,80,.val ty_0 false,false⟩,e55,⟨22,112,.val ty_0 false,false⟩,⟨23,128,.val ty_0 false,false⟩]
def q58o1:List PE := [e72,e75,e57,⟨17,64,.val ty_0 false,false⟩,⟨18,80,.val ty_0 false,false⟩]
noncomputable def q58f1(k:Nat)(n:Nat)(x7:PTe q58i1):=spec_mxAdjoint_L125338 k n x7.1 x7.2.1 x7.2.2.1 x7.2.2.2.1 x7.2.2.2.2.1 x7.2.2.2.2.2.1 x7.2.2.2.2.2.2.1 x7.2.2.2.2.2.2.2.1
def q58i2:List PE := [e72,e75,⟨17,48,.val ty_0 false,false⟩,⟨18,64,.val ty_0 false,false⟩]
def q58o2:List PE := [e69]
noncomputable def q58f2(k:Nat)(n:Nat)(x10:PTe q58i2):=spec_mxAdjoint_L122 k n x10.1 x10.2.1 x10.2.2.1 x10.2.2.2.1
def q58p:List PE := [e71]
noncomputable def q58F(k:Nat):F11:=⟨q58C k,rr q58p [(ty_14,false),(.bool,false)] Tryz.f177,fun p=>bif Nat.beq p 64173262 then some (.cut [e72,e75,e25,e53,e54,⟨17,96,.val ty_0 false,false⟩,⟨18,112,.val ty_0 false,false⟩,⟨22,128,.val ty_0 false,false⟩,⟨23,144,.val ty_0 false,false⟩] 160)else bif Nat.beq p 125338 then some (.loop q58i1 q58o1 2 144 (q58f1 k k))else bif Nat.beq p 122 then some (.loop q58i2 q58o2 0 80 (q58f2 k k))else none,0,[]⟩
theorem q58K(k:Nat):Contract Tryz.prog 177 (q58V k):=ctr (q58C k) (rs := [(ty_14,false),(.bool,false)]) (ps:=q58p) (q58F k) Tryz.f177 16 ⟨tyOf_ok tys_ok,gOf_ok ⟨q31K,q56K k,q57K k,q43K,trivial⟩⟩ (annl [122,125338] ⟨lok q58i2 q58o2 0 80 (q58f2 k) k,lok q58i1 q58o1 2 144 (q58f1 k) k,trivial⟩)

noncomputable def q59V(k:Nat):Variant:=⟨[.val ty_0 false,.val ty_0 false,.val ty_0 false,.val ty_0 false,.val ty_0 false],[(ty_1,true),(.bool,false)],fun x=>spec_dyDigits k x.1 x.2.1 x.2.2.1 x.2.2.2.1 x.2.2.2.2.1⟩
noncomputable def q59C(k:Nat):Cfg:=⟨Tryz.prog,tyOf tys,65,gOf [(164,[],q33V),(168,[],q21V),(170,[],q26V k)],false,[],[]⟩
def q59i1:List PE := [e76,⟨1,96,.val ty_0 false,false⟩,⟨2,112,.val ty_0 false,false⟩,⟨3,128,.val ty_0 false,false⟩,⟨4,144,.val ty_0 false,false⟩,⟨10,160,.box ty_1 false,false⟩,⟨12,176,.val ty_0 false,false⟩,⟨13,192,.val ty_0 false,false⟩]
def q59o1:List PE := [e76,e77,e78,e79,e80]
noncomputable def q59f1(k:Nat)(n:Nat)(x1:PTe q59i1):=spec_dyDigits_L58 k n x1.1 x1.2.1 x1.2.2.1 x1.2.2.2.1 x1.2.2.2.2.1 x1.2.2.2.2.2.1 x1.2.2.2.2.2.2.1 x1.2.2.2.2.2.2.2.1
def q59i2:List PE := [e76,e77,e78,e79,e80]
def q59o2:List PE := [e76,e77,e78,e79,e80]
noncomputable def q59f2(k:Nat)(n:Nat)(x4:PTe q59i2):=spec_dyDigits_L60 k n x4.1 x4.2.1 x4.2.2.1 x4.2.2.2.1 x4.2.2.2.2.1
def q59p:List PE := [e10,e2,e21,⟨3,48,.val ty_0 false,false⟩,⟨4,64,.val ty_0 false,false⟩]
noncomputable def q59F(k:Nat):F4:=⟨q59C k,rr q59p [(ty_1,true),(.bool,false)] Tryz.f221,fun p=>bif Nat.beq p 58 then some (.loop q59i1 q59o1 0 208 (q59f1 k k))else bif Nat.beq p 60 then some (.loop q59i2 q59o2 2 160 (q59f2 k k))else none,0,[]⟩
theorem q59K(k:Nat):Contract Tryz.prog 221 (q59V k):=ctr (q59C k) (rs := [(ty_1,true),(.bool,false)]) (ps:=q59p) (q59F k) Tryz.f221 80 ⟨tyOf_ok tys_ok,gOf_ok ⟨q33K,q21K,q26K k,trivial⟩⟩ (annl [58,60] ⟨lok q59i1 q59o1 0 208 (q59f1 k) k,lok q59i2 q59o2 2 160 (q59f2 k) k,trivial⟩)

noncomputable def q60V(k:Nat):Variant:=⟨[.val ty_1 true,.val ty_1 true,.val ty_0 false],[(ty_1,true),(.bool,false)],fun x=>spec_dyDivide k x.1 x.2.1 x.2.2.1⟩
noncomputable def q60C(k:Nat):Cfg:=⟨Tryz.prog,tyOf tys,59,gOf [(182,[],q43V),(210,[],q37V),(168,[],q21V),(170,[],q26V k),(221,[],q59V k)],false,[],[]⟩
def q60p:List PE := [e34,e41,e21]
noncomputable def q60F(k:Nat):F4:=⟨q60C k,rr q60p [(ty_1,true),(.bool,false)] Tryz.f178,fun p=>bif Nat.beq p 14 then some (.cut [e81,⟨3,64,.box ty_1 false,false⟩,⟨4,80,.box ty_1 false,false⟩,⟨6,96,.box ty_1 false,false⟩] 112)else none,0,[]⟩
theorem q60K(k:Nat):Contract Tryz.prog 178 (q60V k):=ctr (q60C k) (rs := [(ty_1,true),(.bool,false)]) (ps:=q60p) (q60F k) Tryz.f178 48 ⟨tyOf_ok tys_ok,gOf_ok ⟨q43K,q37K,q21K,q26K k,q59K k,trivial⟩⟩ (annl [] trivial)

noncomputable def q61V(k:Nat):Variant:=⟨[.val ty_14 false,.val ty_0 false],[(ty_14,false),(.bool,false)],fun x=>spec_mxInverse k x.1 x.2.1⟩
noncomputable def q61C(k:Nat):Cfg:=⟨Tryz.prog,tyOf tys,71,gOf [(176,[],q57V k),(177,[],q58V k),(178,[],q60V k)],false,[],[]⟩
def q61i1:List PE := [e6,e43,e82,⟨13,80,.eat ty_1,false⟩,⟨39,96,.val ty_14 false,false⟩,⟨40,112,.val ty_0 false,false⟩,⟨41,128,.val ty_0 false,false⟩,⟨45,144,.val ty_11 false,false⟩,⟨46,160,.val ty_0 false,false⟩,⟨47,176,.val ty_0 false,false⟩]
def q61o1:List PE := [e6,e43,e82,⟨13,80,.eat ty_1,false⟩,⟨39,96,.val ty_14 false,false⟩,⟨40,112,.val ty_0 false,false⟩,⟨41,128,.val ty_0 false,false⟩]
noncomputable def q61f1(k:Nat)(n:Nat)(x4:PTe q61i1):=spec_mxInverse_L518554 k n x4.1 x4.2.1 x4.2.2.1 x4.2.2.2.1 x4.2.2.2.2.1 x4.2.2.2.2.2.1 x4.2.2.2.2.2.2.1 x4.2.2.2.2.2.2.2.1 x4.2.2.2.2.2.2.2.2.1 x4.2.2.2.2.2.2.2.2.2.1
def q61i2:List PE := [e6,e43,e82,⟨39,80,.val ty_14 false,false⟩,⟨40,96,.val ty_0 false,false⟩,⟨41,112,.val ty_0 false,false⟩]
def q61o2:List PE := [⟨10,32,.eat ty_11,false⟩]
noncomputable def q61f2(k:Nat)(n:Nat)(x7:PTe q61i2):=spec_mxInverse_L506 k n x7.1 x7.2.1 x7.2.2.1 x7.2.2.2.1 x7.2.2.2.2.1 x7.2.2.2.2.2.1
def q61p:List PE := [e71,e2]
noncomputable def q61F(k:Nat):F11:=⟨q61C k,rr q61p [(ty_14,false),(.bool,false)] Tryz.f119,fun p=>bif Nat.beq p 518554 then some (.loop q61i1 q61o1 2 192 (q61f1 k k))else bif Nat.beq p 506 then some (.loop q61i2 q61o2 0 128 (q61f2 k k))else none,0,[]⟩
theorem q61K(k:Nat):Contract Tryz.prog 119 (q61V k):=ctr (q61C k) (rs := [(ty_14,false),(.bool,false)]) (ps:=q61p) (q61F k) Tryz.f119 32 ⟨tyOf_ok tys_ok,gOf_ok ⟨q57K k,q58K k,q60K k,trivial⟩⟩ (annl [506,518554] ⟨lok q61i2 q61o2 0 128 (q61f2 k) k,lok q61i1 q61o1 2 192 (q61f1 k) k,trivial⟩)

noncomputable def q62V(k:Nat):Variant:=⟨[.val ty_5 false,.val ty_9 true],[(ty_13,false),(ty_14,false),(.bool,false)],fun x=>spec_nwInverse k x.1 x.2.1⟩
noncomputable def q62C(k:Nat):Cfg:=⟨Tryz.prog,tyOf tys,36,gOf [(117,[],q53V k),(118,[],q55V k),(119,[],q61V k)],false,[],[]⟩
def q62p:List PE := [e7,e33]
noncomputable def q62F(k:Nat):Fn ((List (List ((Int×Int)×Int×Int)))×(List (List (Int×Int)))×Bool):=⟨q62C k,rr q62p [(ty_13,false),(ty_14,false),(.bool,false)] Tryz.f74,fun p=>none,0,[]⟩
theorem q62K(k:Nat):Contract Tryz.prog 74 (q62V k):=ctr (q62C k) (rs := [(ty_13,false),(ty_14,false),(.bool,false)]) (ps:=q62p) (q62F k) Tryz.f74 32 ⟨tyOf_ok tys_ok,gOf_ok ⟨q53K k,q55K k,q61K k,trivial⟩⟩ (annl [] trivial)

noncomputable def q63V(k:Nat):Variant:=⟨[.val ty_9 true],[(ty_11,false)],fun x=>spec_bxMiddle k x.1⟩
noncomputable def q63C(k:Nat):Cfg:=⟨Tryz.prog,tyOf tys,30,gOf [(139,[],q27V k)],false,[],[]⟩
def q63i1:List PE := [e31,⟨3,32,.eat ty_1,false⟩,⟨7,48,.val ty_7 false,false⟩,e30,e26]
def q63o1:List PE := [⟨3,16,.eat ty_1,false⟩]
noncomputable def q63f1(k:Nat)(n:Nat)(x2:PTe q63i1):=spec_bxMiddle_L58 k n x2.1 x2.2.1 x2.2.2.1 x2.2.2.2.1 x2.2.2.2.2.1
def q63p:List PE := [e9]
noncomputable def q63F(k:Nat):F12:=⟨q63C k,rr q63p [(ty_11,false)] Tryz.f123,fun p=>bif Nat.beq p 58 then some (.loop q63i1 q63o1 0 96 (q63f1 k k))else none,0,[]⟩
theorem q63K(k:Nat):Contract Tryz.prog 123 (q63V k):=ctr (q63C k) (rs := [(ty_11,false)]) (ps:=q63p) (q63F k) Tryz.f123 16 ⟨tyOf_ok tys_ok,gOf_ok ⟨q27K k,trivial⟩⟩ (annl [58] ⟨lok q63i1 q63o1 0 96 (q63f1 k) k,trivial⟩)

noncomputable def q64V(k:Nat):Variant:=⟨[.val ty_4 false,.val ty_11 false],[(ty_0,false),(ty_0,false)],fun x=>spec_vaSum k x.1 x.2.1⟩
noncomputable def q64C(k:Nat):Cfg:=⟨Tryz.prog,tyOf tys,85,gOf [(169,[],q18V),(167,[],q39V k),(222,[],q17V),(168,[],q21V)],false,[],[]⟩
def q64i1:List PE := [e12,e83,e14,⟨19,80,.val ty_11 false,false⟩,e84,e62]
def q64o1:List PE := [e12,e83,e14]
noncomputable def q64f1(k:Nat)(n:Nat)(x2:PTe q64i1):=spec_vaSum_L58 k n x2.1 x2.2.1 x2.2.2.1 x2.2.2.2.1 x2.2.2.2.2.1 x2.2.2.2.2.2.1
def q64i2:List PE := [e85,e24,e86,e87,e38,⟨15,112,.val ty_0 false,false⟩,e88,⟨30,144,.val ty_4 false,false⟩,⟨31,160,.val ty_0 false,false⟩,⟨32,176,.val ty_0 false,false⟩,⟨38,192,.val ty_11 false,false⟩,⟨39,208,.val ty_0 false,false⟩,⟨40,224,.val ty_0 false,false⟩]
def q64o2:List PE := [e85,e24,e86,e87,e38,e89,e90,e91,⟨38,160,.val ty_11 false,false⟩,⟨39,176,.val ty_0 false,false⟩,⟨40,192,.val ty_0 false,false⟩]
noncomputable def q64f2(k:Nat)(n:Nat)(x7:PTe q64i2):=spec_vaSum_L131282126 k n x7.1 x7.2.1 x7.2.2.1 x7.2.2.2.1 x7.2.2.2.2.1 x7.2.2.2.2.2.1 x7.2.2.2.2.2.2.1 x7.2.2.2.2.2.2.2.1 x7.2.2.2.2.2.2.2.2.1 x7.2.2.2.2.2.2.2.2.2.1 x7.2.2.2.2.2.2.2.2.2.2.1 x7.2.2.2.2.2.2.2.2.2.2.2.1 x7.2.2.2.2.2.2.2.2.2.2.2.2.1
def q64i3:List PE := [e85,e24,e86,e87,e38,e89,e90,e91,⟨38,160,.val ty_11 false,false⟩,⟨39,176,.val ty_0 false,false⟩,⟨40,192,.val ty_0 false,false⟩]
def q64o3:List PE := [e85,e24,e86,e87,e38,e89,e90,e91]
noncomputable def q64f3(k:Nat)(n:Nat)(x10:PTe q64i3):=spec_vaSum_L256410 k n x10.1 x10.2.1 x10.2.2.1 x10.2.2.2.1 x10.2.2.2.2.1 x10.2.2.2.2.2.1 x10.2.2.2.2.2.2.1 x10.2.2.2.2.2.2.2.1 x10.2.2.2.2.2.2.2.2.1 x10.2.2.2.2.2.2.2.2.2.1 x10.2.2.2.2.2.2.2.2.2.2.1
def q64i4:List PE := [e85,e24,e86,e66,e55,e89,e90,e91]
def q64o4:List PE := [e85,e24,e86,e66,⟨30,96,.val ty_4 false,false⟩,⟨31,112,.val ty_0 false,false⟩,⟨32,128,.val ty_0 false,false⟩]
noncomputable def q64f4(k:Nat)(n:Nat)(x14:PTe q64i4):=spec_vaSum_L512826 k n x14.1 x14.2.1 x14.2.2.1 x14.2.2.2.1 x14.2.2.2.2.1 x14.2.2.2.2.2.1 x14.2.2.2.2.2.2.1 x14.2.2.2.2.2.2.2.1
def q64i5:List PE := [e85,e24,e86,⟨30,80,.val ty_4 false,false⟩,⟨31,96,.val ty_0 false,false⟩,⟨32,112,.val ty_0 false,false⟩]
def q64o5:List PE := [⟨6,32,.val ty_0 false,false⟩,e92]
noncomputable def q64f5(k:Nat)(n:Nat)(x17:PTe q64i5):=spec_vaSum_L250 k n x17.1 x17.2.1 x17.2.2.1 x17.2.2.2.1 x17.2.2.2.2.1 x17.2.2.2.2.2.1
def q64p:List PE := [e1,e93]
noncomputable def q64F(k:Nat):F5:=⟨q64C k,rr q64p [(ty_0,false),(ty_0,false)] Tryz.f180,fun p=>bif Nat.beq p 58 then some (.loop q64i1 q64o1 0 128 (q64f1 k k))else bif Nat.beq p 131282126 then some (.loop q64i2 q64o2 6 240 (q64f2 k k))else bif Nat.beq p 256410 then some (.loop q64i3 q64o3 4 208 (q64f3 k k))else bif Nat.beq p 512826 then some (.loop q64i4 q64o4 8 160 (q64f4 k k))else bif Nat.beq p 250 then some (.loop q64i5 q64o5 2 128 (q64f5 k k))else none,0,[]⟩
theorem q64K(k:Nat):Contract Tryz.prog 180 (q64V k):=ctr (q64C k) (rs := [(ty_0,false),(ty_0,false)]) (ps:=q64p) (q64F k) Tryz.f180 32 ⟨tyOf_ok tys_ok,gOf_ok ⟨q18K,q39K k,q17K,q21K,trivial⟩⟩ (annl [58,250,256410,131282126,512826] ⟨lok q64i1 q64o1 0 128 (q64f1 k) k,lok q64i5 q64o5 2 128 (q64f5 k) k,lok q64i3 q64o3 4 208 (q64f3 k) k,lok q64i2 q64o2 6 240 (q64f2 k) k,lok q64i4 q64o4 8 160 (q64f4 k) k,trivial⟩)

noncomputable def q65V(k:Nat):Variant:=⟨[.val ty_4 false,.val ty_11 false],[(ty_1,true),(.bool,false)],fun x=>spec_vaAt k x.1 x.2.1⟩
noncomputable def q65C(k:Nat):Cfg:=⟨Tryz.prog,tyOf tys,19,gOf [(180,[],q64V k),(170,[],q26V k)],false,[],[]⟩
def q65p:List PE := [e1,e93]
noncomputable def q65F(k:Nat):F4:=⟨q65C k,rr q65p [(ty_1,true),(.bool,false)] Tryz.f124,fun p=>none,0,[]⟩
theorem q65K(k:Nat):Contract Tryz.prog 124 (q65V k):=ctr (q65C k) (rs := [(ty_1,true),(.bool,false)]) (ps:=q65p) (q65F k) Tryz.f124 32 ⟨tyOf_ok tys_ok,gOf_ok ⟨q64K k,q26K k,trivial⟩⟩ (annl [] trivial)

noncomputable def q66V(k:Nat):Variant:=⟨[.val ty_11 false,.val ty_11 false],[(ty_1,true),(.bool,false)],fun x=>spec_mxSum k x.1 x.2.1⟩
noncomputable def q66C(k:Nat):Cfg:=⟨Tryz.prog,tyOf tys,46,gOf [(187,[],q34V k),(106,[],q48V k)],false,[],[]⟩
def q66i1:List PE := [e85,e73,⟨6,64,.box ty_1 false,false⟩,⟨14,80,.val ty_11 false,false⟩,e50,⟨16,112,.val ty_0 false,false⟩]
def q66o1:List PE := [e42,e43]
noncomputable def q66f1(k:Nat)(n:Nat)(x3:PTe q66i1):=spec_mxSum_L58 k n x3.1 x3.2.1 x3.2.2.1 x3.2.2.2.1 x3.2.2.2.2.1 x3.2.2.2.2.2.1
def q66p:List PE := [⟨0,0,.val ty_11 false,false⟩,e93]
noncomputable def q66F(k:Nat):F4:=⟨q66C k,rr q66p [(ty_1,true),(.bool,false)] Tryz.f181,fun p=>bif Nat.beq p 58 then some (.loop q66i1 q66o1 0 128 (q66f1 k k))else none,0,[]⟩
theorem q66K(k:Nat):Contract Tryz.prog 181 (q66V k):=ctr (q66C k) (rs := [(ty_1,true),(.bool,false)]) (ps:=q66p) (q66F k) Tryz.f181 32 ⟨tyOf_ok tys_ok,gOf_ok ⟨q34K k,q48K k,trivial⟩⟩ (annl [58] ⟨lok q66i1 q66o1 0 128 (q66f1 k) k,trivial⟩)

noncomputable def q67V(k:Nat):Variant:=⟨[.val ty_14 false,.val ty_11 false],[(ty_11,false),(.bool,false)],fun x=>spec_mxTimes k x.1 x.2.1⟩
noncomputable def q67C(k:Nat):Cfg:=⟨Tryz.prog,tyOf tys,31,gOf [(181,[],q66V k)],false,[],[]⟩
def q67i1:List PE := [e85,e57,⟨11,64,.val ty_14 false,false⟩,e66,e67]
def q67o1:List PE := [e94]
noncomputable def q67f1(k:Nat)(n:Nat)(x2:PTe q67i1):=spec_mxTimes_L58 k n x2.1 x2.2.1 x2.2.2.1 x2.2.2.2.1 x2.2.2.2.2.1
def q67p:List PE := [e71,e93]
noncomputable def q67F(k:Nat):F13:=⟨q67C k,rr q67p [(ty_11,false),(.bool,false)] Tryz.f125,fun p=>bif Nat.beq p 58 then some (.loop q67i1 q67o1 0 112 (q67f1 k k))else none,0,[]⟩
theorem q67K(k:Nat):Contract Tryz.prog 125 (q67V k):=ctr (q67C k) (rs := [(ty_11,false),(.bool,false)]) (ps:=q67p) (q67F k) Tryz.f125 32 ⟨tyOf_ok tys_ok,gOf_ok ⟨q66K k,trivial⟩⟩ (annl [58] ⟨lok q67i1 q67o1 0 112 (q67f1 k) k,trivial⟩)

noncomputable def q68V(k:Nat):Variant:=⟨[.val ty_1 true,.val ty_1 true],[(ty_1,true),(.bool,false)],fun x=>spec_dySub k x.1 x.2.1⟩
noncomputable def q68C(k:Nat):Cfg:=⟨Tryz.prog,tyOf tys,12,gOf [(182,[],q43V),(106,[],q48V k)],false,[],[]⟩
def q68p:List PE := [e34,e41]
noncomputable def q68F(k:Nat):F4:=⟨q68C k,rr q68p [(ty_1,true),(.bool,false)] Tryz.f126,fun p=>none,0,[]⟩
theorem q68K(k:Nat):Contract Tryz.prog 126 (q68V k):=ctr (q68C k) (rs := [(ty_1,true),(.bool,false)]) (ps:=q68p) (q68F k) Tryz.f126 32 ⟨tyOf_ok tys_ok,gOf_ok ⟨q43K,q48K k,trivial⟩⟩ (annl [] trivial)

noncomputable def q69V(k:Nat):Variant:=⟨[.val ty_5 false,.val ty_9 true,.val ty_14 false],[(ty_11,false),(.bool,false)],fun x=>spec_nwPoint k x.1 x.2.1 x.2.2.1⟩
noncomputable def q69C(k:Nat):Cfg:=⟨Tryz.prog,tyOf tys,74,gOf [(123,[],q63V k),(124,[],q65V k),(125,[],q67V k),(126,[],q68V k)],false,[],[]⟩
def q69i1:List PE := [⟨2,48,.val ty_14 false,false⟩,⟨8,64,.eat ty_1,false⟩,⟨9,80,.eat ty_1,false⟩,⟨23,96,.val ty_5 false,false⟩,⟨24,112,.val ty_0 false,false⟩,⟨25,128,.val ty_0 false,false⟩]
def q69o1:List PE := [⟨2,48,.val ty_14 false,false⟩,⟨8,64,.eat ty_1,false⟩,⟨9,80,.eat ty_1,false⟩]
noncomputable def q69f1(k:Nat)(n:Nat)(x3:PTe q69i1):=spec_nwPoint_L122 k n x3.1 x3.2.1 x3.2.2.1 x3.2.2.2.1 x3.2.2.2.2.1 x3.2.2.2.2.2.1
def q69i2:List PE := [⟨14,48,.eat ty_1,false⟩,⟨16,64,.eat ty_1,false⟩,⟨50,80,.eat ty_1,false⟩,⟨51,96,.val ty_0 false,false⟩,⟨52,112,.val ty_0 false,false⟩]
def q69o2:List PE := [⟨16,48,.eat ty_1,false⟩]
noncomputable def q69f2(k:Nat)(n:Nat)(x8:PTe q69i2):=spec_nwPoint_L2042 k n x8.1 x8.2.1 x8.2.2.1 x8.2.2.2.1 x8.2.2.2.2.1
def q69p:List PE := [e7,e33,⟨2,32,.val ty_14 false,false⟩]
noncomputable def q69F(k:Nat):F13:=⟨q69C k,rr q69p [(ty_11,false),(.bool,false)] Tryz.f76,fun p=>bif Nat.beq p 122 then some (.loop q69i1 q69o1 0 144 (q69f1 k k))else bif Nat.beq p 2042 then some (.loop q69i2 q69o2 2 128 (q69f2 k k))else none,0,[]⟩
theorem q69K(k:Nat):Contract Tryz.prog 76 (q69V k):=ctr (q69C k) (rs := [(ty_11,false),(.bool,false)]) (ps:=q69p) (q69F k) Tryz.f76 48 ⟨tyOf_ok tys_ok,gOf_ok ⟨q63K k,q65K k,q67K k,q68K k,trivial⟩⟩ (annl [122,2042] ⟨lok q69i1 q69o1 0 144 (q69f1 k) k,lok q69i2 q69o2 2 128 (q69f2 k) k,trivial⟩)

noncomputable def q70V(k:Nat):Variant:=⟨[.val ty_14 false,.val ty_13 false],[(ty_13,false),(.bool,false)],fun x=>spec_mxTimesIn k x.1 x.2.1⟩
noncomputable def q70C(k:Nat):Cfg:=⟨Tryz.prog,tyOf tys,74,gOf [(133,[],q47V k),(134,[],q50V k)],false,[],[]⟩
def q70i1:List PE := [e95,e65,e96,e97,⟨10,96,.val ty_0 false,false⟩,⟨11,112,.box ty_10 false,false⟩,⟨18,128,.val ty_14 false,false⟩,⟨19,144,.val ty_0 false,false⟩,⟨20,160,.val ty_0 false,false⟩,⟨25,176,.val ty_0 false,false⟩,⟨26,192,.val ty_0 false,false⟩,⟨30,208,.val ty_11 false,false⟩,⟨31,224,.val ty_0 false,false⟩,⟨32,240,.val ty_0 false,false⟩]
def q70o1:List PE := [e95,e65,e96,e97,⟨11,96,.box ty_10 false,false⟩,⟨18,112,.val ty_14 false,false⟩,⟨19,128,.val ty_0 false,false⟩,⟨20,144,.val ty_0 false,false⟩,⟨25,160,.val ty_0 false,false⟩,⟨26,176,.val ty_0 false,false⟩]
noncomputable def q70f1(k:Nat)(n:Nat)(x3:PTe q70i1):=spec_mxTimesIn_L61237658 k n x3.1 x3.2.1 x3.2.2.1 x3.2.2.2.1 x3.2.2.2.2.1 x3.2.2.2.2.2.1 x3.2.2.2.2.2.2.1 x3.2.2.2.2.2.2.2.1 x3.2.2.2.2.2.2.2.2.1 x3.2.2.2.2.2.2.2.2.2.1 x3.2.2.2.2.2.2.2.2.2.2.1 x3.2.2.2.2.2.2.2.2.2.2.2.1 x3.2.2.2.2.2.2.2.2.2.2.2.2.1 x3.2.2.2.2.2.2.2.2.2.2.2.2.2.1
def q70i2:List PE := [e95,e65,e96,e97,⟨18,96,.val ty_14 false,false⟩,e56,e70,⟨25,144,.val ty_0 false,false⟩,⟨26,160,.val ty_0 false,false⟩]
def q70o2:List PE := [e95,e65,⟨9,64,.eat ty_10,false⟩,⟨18,80,.val ty_14 false,false⟩,⟨19,96,.val ty_0 false,false⟩,e98]
noncomputable def q70f2(k:Nat)(n:Nat)(x6:PTe q70i2):=spec_mxTimesIn_L59802 k n x6.1 x6.2.1 x6.2.2.1 x6.2.2.2.1 x6.2.2.2.2.1 x6.2.2.2.2.2.1 x6.2.2.2.2.2.2.1 x6.2.2.2.2.2.2.2.1 x6.2.2.2.2.2.2.2.2.1
def q70i3:List PE := [e95,e65,⟨18,64,.val ty_14 false,false⟩,⟨19,80,.val ty_0 false,false⟩,e84]
def q70o3:List PE := [e68]
noncomputable def q70f3(k:Nat)(n:Nat)(x9:PTe q70i3):=spec_mxTimesIn_L58 k n x9.1 x9.2.1 x9.2.2.1 x9.2.2.2.1 x9.2.2.2.2.1
def q70p:List PE := [e71,⟨1,16,.val ty_13 false,false⟩]
noncomputable def q70F(k:Nat):F10:=⟨q70C k,rr q70p [(ty_13,false),(.bool,false)] Tryz.f120,fun p=>bif Nat.beq p 61237658 then some (.loop q70i1 q70o1 4 256 (q70f1 k k))else bif Nat.beq p 59802 then some (.loop q70i2 q70o2 2 176 (q70f2 k k))else bif Nat.beq p 58 then some (.loop q70i3 q70o3 0 112 (q70f3 k k))else none,0,[]⟩
theorem q70K(k:Nat):Contract Tryz.prog 120 (q70V k):=ctr (q70C k) (rs := [(ty_13,false),(.bool,false)]) (ps:=q70p) (q70F k) Tryz.f120 32 ⟨tyOf_ok tys_ok,gOf_ok ⟨q47K k,q50K k,trivial⟩⟩ (annl [58,59802,61237658] ⟨lok q70i3 q70o3 0 112 (q70f3 k) k,lok q70i2 q70o2 2 176 (q70f2 k) k,lok q70i1 q70o1 4 256 (q70f1 k) k,trivial⟩)

noncomputable def q71V:Variant:=⟨[.val ty_10 true],[(ty_10,true)],fun x=>spec_ivMinus x.1⟩
noncomputable def q71C:Cfg:=⟨Tryz.prog,tyOf tys,10,gOf [(182,[],q43V)],false,[],[]⟩
def q71p:List PE := [e44]
noncomputable def q71F:F7:=⟨q71C,rr q71p [(ty_10,true)] Tryz.f179,fun p=>none,0,[]⟩
theorem q71K:Contract Tryz.prog 179 (q71V):=ctr q71C (rs := [(ty_10,true)]) (ps:=q71p) q71F Tryz.f179 16 ⟨tyOf_ok tys_ok,gOf_ok ⟨q43K,trivial⟩⟩ (annl [] trivial)

noncomputable def q72V(k:Nat):Variant:=⟨[.val ty_10 true,.val ty_10 true],[(ty_10,true),(.bool,false)],fun x=>spec_ivSub k x.1 x.2.1⟩
noncomputable def q72C(k:Nat):Cfg:=⟨Tryz.prog,tyOf tys,12,gOf [(179,[],q71V),(134,[],q50V k)],false,[],[]⟩
def q72p:List PE := [e44,e58]
noncomputable def q72F(k:Nat):F8:=⟨q72C k,rr q72p [(ty_10,true),(.bool,false)] Tryz.f121,fun p=>none,0,[]⟩
theorem q72K(k:Nat):Contract Tryz.prog 121 (q72V k):=ctr (q72C k) (rs := [(ty_10,true),(.bool,false)]) (ps:=q72p) (q72F k) Tryz.f121 32 ⟨tyOf_ok tys_ok,gOf_ok ⟨q71K,q50K k,trivial⟩⟩ (annl [] trivial)

noncomputable def q73V(k:Nat):Variant:=⟨[.val ty_13 false,.val ty_14 false],[(ty_13,false),(.bool,false)],fun x=>spec_nwRest k x.1 x.2.1⟩
noncomputable def q73C(k:Nat):Cfg:=⟨Tryz.prog,tyOf tys,63,gOf [(120,[],q70V k),(107,[],q31V),(122,[],q32V),(121,[],q72V k)],false,[],[]⟩
def q73i1:List PE := [e99,e92,⟨11,64,.eat ty_10,false⟩,e100,e74,e101,⟨32,128,.val ty_12 false,false⟩,⟨33,144,.val ty_0 false,false⟩,⟨34,160,.val ty_0 false,false⟩]
def q73o1:List PE := [e99,⟨11,48,.eat ty_10,false⟩,⟨25,64,.val ty_13 false,false⟩,⟨26,80,.val ty_0 false,false⟩,⟨27,96,.val ty_0 false,false⟩]
noncomputable def q73f1(k:Nat)(n:Nat)(x7:PTe q73i1):=spec_nwRest_L256410 k n x7.1 x7.2.1 x7.2.2.1 x7.2.2.2.1 x7.2.2.2.2.1 x7.2.2.2.2.2.1 x7.2.2.2.2.2.2.1 x7.2.2.2.2.2.2.2.1 x7.2.2.2.2.2.2.2.2.1
def q73i2:List PE := [e99,⟨25,48,.val ty_13 false,false⟩,⟨26,64,.val ty_0 false,false⟩,⟨27,80,.val ty_0 false,false⟩]
def q73o2:List PE := [e99]
noncomputable def q73f2(k:Nat)(n:Nat)(x10:PTe q73i2):=spec_nwRest_L250 k n x10.1 x10.2.1 x10.2.2.1 x10.2.2.2.1
def q73p:List PE := [⟨0,0,.val ty_13 false,false⟩,⟨1,16,.val ty_14 false,false⟩]
noncomputable def q73F(k:Nat):F10:=⟨q73C k,rr q73p [(ty_13,false),(.bool,false)] Tryz.f75,fun p=>bif Nat.beq p 65641062 then some (.cut [e99,e92,⟨11,64,.eat ty_10,false⟩,⟨13,80,.box ty_10 false,false⟩,⟨14,96,.val ty_0 false,false⟩,⟨25,112,.val ty_13 false,false⟩,⟨26,128,.val ty_0 false,false⟩,⟨27,144,.val ty_0 false,false⟩,⟨32,160,.val ty_12 false,false⟩,⟨33,176,.val ty_0 false,false⟩,⟨34,192,.val ty_0 false,false⟩] 208)else bif Nat.beq p 256410 then some (.loop q73i1 q73o1 2 176 (q73f1 k k))else bif Nat.beq p 250 then some (.loop q73i2 q73o2 0 96 (q73f2 k k))else none,0,[]⟩
theorem q73K(k:Nat):Contract Tryz.prog 75 (q73V k):=ctr (q73C k) (rs := [(ty_13,false),(.bool,false)]) (ps:=q73p) (q73F k) Tryz.f75 32 ⟨tyOf_ok tys_ok,gOf_ok ⟨q70K k,q31K,q32K,q72K k,trivial⟩⟩ (annl [250,256410] ⟨lok q73i2 q73o2 0 96 (q73f2 k) k,lok q73i1 q73o1 2 176 (q73f1 k) k,trivial⟩)

noncomputable def q74V(k:Nat):Variant:=⟨[.val ty_5 false,.val ty_9 true],[(ty_12,false),(ty_13,false),(.bool,false)],fun x=>spec_nwImage k x.1 x.2.1⟩
noncomputable def q74C(k:Nat):Cfg:=⟨Tryz.prog,tyOf tys,128,gOf [(74,[],q62V k),(76,[],q69V k),(75,[],q73V k),(123,[],q63V k),(107,[],q31V),(122,[],q32V),(83,[],q28V k),(121,[],q72V k),(133,[],q47V k),(134,[],q50V k)],false,[],[]⟩
def q74i1:List PE := [⟨59,48,.same 12,false⟩,⟨17,32,.vw 12,false⟩,⟨3,64,.box ty_9 false,false⟩,e102,⟨12,96,.eat ty_12,false⟩,⟨14,112,.eat ty_1,false⟩,⟨15,128,.eat ty_10,false⟩,⟨16,144,.val ty_0 false,false⟩,⟨18,160,.box ty_10 false,false⟩,⟨60,176,.val ty_0 false,false⟩,⟨61,192,.val ty_0 false,false⟩,⟨69,208,.eat ty_10,false⟩,⟨70,224,.val ty_0 false,false⟩,⟨71,240,.val ty_0 false,false⟩]
def q74o1:List PE := [⟨59,32,.same 12,false⟩,⟨3,48,.box ty_9 false,false⟩,⟨10,64,.eat ty_1,false⟩,⟨12,80,.eat ty_12,false⟩,⟨14,96,.eat ty_1,false⟩,⟨15,112,.eat ty_10,false⟩,⟨16,128,.val ty_0 false,false⟩,⟨18,144,.box ty_10 false,false⟩,⟨60,160,.val ty_0 false,false⟩,⟨61,176,.val ty_0 false,false⟩]
noncomputable def q74f1(k:Nat)(n:Nat)(x12:PTe q74i1):=spec_nwImage_L4188570 k n x12.1 x12.2.1 x12.2.2.1 x12.2.2.2.1 x12.2.2.2.2.1 x12.2.2.2.2.2.1 x12.2.2.2.2.2.2.1 x12.2.2.2.2.2.2.2.1 x12.2.2.2.2.2.2.2.2.1 x12.2.2.2.2.2.2.2.2.2.1 x12.2.2.2.2.2.2.2.2.2.2.1 x12.2.2.2.2.2.2.2.2.2.2.2.1 x12.2.2.2.2.2.2.2.2.2.2.2.2.1 x12.2.2.2.2.2.2.2.2.2.2.2.2.2.1
def q74i2:List PE := [⟨59,32,.same 12,false⟩,⟨3,48,.box ty_9 false,false⟩,⟨10,64,.eat ty_1,false⟩,⟨12,80,.eat ty_12,false⟩,⟨14,96,.eat ty_1,false⟩,⟨15,112,.eat ty_10,false⟩,⟨60,128,.val ty_0 false,false⟩,⟨61,144,.val ty_0 false,false⟩]
def q74o2:List PE := [⟨12,32,.eat ty_12,false⟩,⟨15,48,.eat ty_10,false⟩]
noncomputable def q74f2(k:Nat)(n:Nat)(x17:PTe q74i2):=spec_nwImage_L4090 k n x17.1 x17.2.1 x17.2.2.1 x17.2.2.2.1 x17.2.2.2.2.1 x17.2.2.2.2.2.1 x17.2.2.2.2.2.2.1 x17.2.2.2.2.2.2.2.1
def q74p:List PE := [e7,e33]
noncomputable def q74F(k:Nat):Fn ((List ((Int×Int)×Int×Int))×(List (List ((Int×Int)×Int×Int)))×Bool):=⟨q74C k,rr q74p [(ty_12,false),(ty_13,false),(.bool,false)] Tryz.f80,fun p=>bif Nat.beq p 4188570 then some (.loop q74i1 q74o1 2 256 (q74f1 k k))else bif Nat.beq p 4090 then some (.loop q74i2 q74o2 0 160 (q74f2 k k))else none,0,[]⟩
theorem q74K(k:Nat):Contract Tryz.prog 80 (q74V k):=ctr (q74C k) (rs := [(ty_12,false),(ty_13,false),(.bool,false)]) (ps:=q74p) (q74F k) Tryz.f80 32 ⟨tyOf_ok tys_ok,gOf_ok ⟨q62K k,q69K k,q73K k,q63K k,q31K,q32K,q28K k,q72K k,q47K k,q50K k,trivial⟩⟩ (annl [4090,4188570] ⟨lok q74i2 q74o2 0 160 (q74f2 k) k,lok q74i1 q74o1 2 256 (q74f1 k) k,trivial⟩)

noncomputable def q75V(k:Nat):Variant:=⟨[.val ty_10 true,.val ty_10 true],[(ty_10,true),(.bool,false)],fun x=>spec_ivCommon k x.1 x.2.1⟩
noncomputable def q75C(k:Nat):Cfg:=⟨Tryz.prog,tyOf tys,30,gOf [(140,[],q41V k),(105,[],q40V k)],false,[],[]⟩
def q75p:List PE := [e44,e58]
noncomputable def q75F(k:Nat):F8:=⟨q75C k,rr q75p [(ty_10,true),(.bool,false)] Tryz.f84,fun p=>none,0,[]⟩
theorem q75K(k:Nat):Contract Tryz.prog 84 (q75V k):=ctr (q75C k) (rs := [(ty_10,true),(.bool,false)]) (ps:=q75p) (q75F k) Tryz.f84 32 ⟨tyOf_ok tys_ok,gOf_ok ⟨q41K k,q40K k,trivial⟩⟩ (annl [] trivial)

noncomputable def q76V(k:Nat):Variant:=⟨[.val ty_5 false,.val ty_9 true],[(ty_12,false),(.bool,false)],fun x=>spec_nwNarrow k x.1 x.2.1⟩
noncomputable def q76C(k:Nat):Cfg:=⟨Tryz.prog,tyOf tys,48,gOf [(80,[],q74V k),(83,[],q28V k),(84,[],q75V k)],false,[],[]⟩
def q76i1:List PE := [e64,⟨9,48,.eat ty_10,false⟩,⟨24,64,.eat ty_10,false⟩,⟨25,80,.val ty_0 false,false⟩,e74]
def q76o1:List PE := [⟨9,32,.eat ty_10,false⟩]
noncomputable def q76f1(k:Nat)(n:Nat)(x4:PTe q76i1):=spec_nwNarrow_L250 k n x4.1 x4.2.1 x4.2.2.1 x4.2.2.2.1 x4.2.2.2.2.1
def q76p:List PE := [e7,e33]
noncomputable def q76F(k:Nat):F9:=⟨q76C k,rr q76p [(ty_12,false),(.bool,false)] Tryz.f50,fun p=>bif Nat.beq p 250 then some (.loop q76i1 q76o1 0 112 (q76f1 k k))else none,0,[]⟩
theorem q76K(k:Nat):Contract Tryz.prog 50 (q76V k):=ctr (q76C k) (rs := [(ty_12,false),(.bool,false)]) (ps:=q76p) (q76F k) Tryz.f50 32 ⟨tyOf_ok tys_ok,gOf_ok ⟨q74K k,q28K k,q75K k,trivial⟩⟩ (annl [250] ⟨lok q76i1 q76o1 0 112 (q76f1 k) k,trivial⟩)

noncomputable def q77V(k:Nat):Variant:=⟨[.val ty_5 false,.val ty_9 true],[(ty_12,false),(.bool,false)],fun x=>spec_NarrowedSides k x.1 x.2.1⟩
noncomputable def q77C(k:Nat):Cfg:=⟨Tryz.prog,tyOf tys,15,gOf [(49,[],q24V k),(50,[],q76V k)],false,[],[]⟩
def q77p:List PE := [e7,e33]
noncomputable def q77F(k:Nat):F9:=⟨q77C k,rr q77p [(ty_12,false),(.bool,false)] Tryz.f13,fun p=>none,0,[]⟩
theorem q77K(k:Nat):Contract Tryz.prog 13 (q77V k):=ctr (q77C k) (rs := [(ty_12,false),(.bool,false)]) (ps:=q77p) (q77F k) Tryz.f13 32 ⟨tyOf_ok tys_ok,gOf_ok ⟨q24K k,q76K k,trivial⟩⟩ (annl [] trivial)

noncomputable def q78V:Variant:=⟨[.val ty_0 false,.val ty_0 false,.val ty_0 false],[(.bool,false)],fun x=>impl_inside x.1 x.2.1 x.2.2.1⟩
noncomputable def q78C:Cfg:=⟨Tryz.prog,tyOf tys,15,gOf [],false,[],[]⟩
def q78p:List PE := [e10,e2,e21]
noncomputable def q78F:F3:=⟨q78C,rr q78p [(.bool,false)] Tryz.f96,fun p=>none,0,[]⟩
theorem q78K:Contract Tryz.prog 96 (q78V):=ctr q78C (rs := [(.bool,false)]) (ps:=q78p) q78F Tryz.f96 48 ⟨tyOf_ok tys_ok,gOf_ok trivial⟩ (annl [] trivial)

noncomputable def q79V:Variant:=⟨[.val ty_3 true],[(ty_0,false)],fun x=>impl_Term_degree x.1⟩
noncomputable def q79C:Cfg:=⟨Tryz.prog,tyOf tys,11,gOf [],false,[],[]⟩
def q79p:List PE := [e11]
noncomputable def q79F:F1:=⟨q79C,rr q79p [(ty_0,false)] Tryz.f223,fun p=>none,0,[]⟩
theorem q79K:Contract Tryz.prog 223 (q79V):=ctr q79C (rs := [(ty_0,false)]) (ps:=q79p) q79F Tryz.f223 16 ⟨tyOf_ok tys_ok,gOf_ok trivial⟩ (annl [] trivial)

noncomputable def q80V:Variant:=⟨[.val ty_3 true],[(.bool,false)],fun x=>impl_hasDegree x.1⟩
noncomputable def q80C:Cfg:=⟨Tryz.prog,tyOf tys,21,gOf [(96,[],q78V),(223,[],q79V)],false,[],[]⟩
def q80p:List PE := [e11]
noncomputable def q80F:F3:=⟨q80C,rr q80p [(.bool,false)] Tryz.f206,fun p=>none,0,[]⟩
theorem q80K:Contract Tryz.prog 206 (q80V):=ctr q80C (rs := [(.bool,false)]) (ps:=q80p) q80F Tryz.f206 16 ⟨tyOf_ok tys_ok,gOf_ok ⟨q78K,q79K,trivial⟩⟩ (annl [] trivial)

noncomputable def q81V:Variant:=⟨[.val ty_0 false],[(.bool,false)],fun x=>cmp_isNaN_int x.1⟩
noncomputable def q81C:Cfg:=⟨Tryz.prog,tyOf tys,6,gOf [],false,[],[]⟩
def q81p:List PE := [e10]
noncomputable def q81F:F3:=⟨q81C,rr q81p [(.bool,false)] Tryz.f235,fun p=>none,0,[]⟩
theorem q81K:Contract Tryz.prog 235 (q81V):=ctr q81C (rs := [(.bool,false)]) (ps:=q81p) q81F Tryz.f235 16 ⟨tyOf_ok tys_ok,gOf_ok trivial⟩ (annl [] trivial)

noncomputable def q82V:Variant:=⟨[.val ty_0 false,.val ty_0 false],[(ty_0,false)],fun x=>cmp_Compare_int x.1 x.2.1⟩
noncomputable def q82C:Cfg:=⟨Tryz.prog,tyOf tys,20,gOf [(235,[],q81V)],false,[],[]⟩
def q82p:List PE := [e10,e2]
noncomputable def q82F:F1:=⟨q82C,rr q82p [(ty_0,false)] Tryz.f204,fun p=>none,0,[]⟩
theorem q82K:Contract Tryz.prog 204 (q82V):=ctr q82C (rs := [(ty_0,false)]) (ps:=q82p) q82F Tryz.f204 32 ⟨tyOf_ok tys_ok,gOf_ok ⟨q81K,trivial⟩⟩ (annl [] trivial)

noncomputable def q83V(k:Nat):Variant:=⟨[.val ty_7 false],[(ty_0,false)],fun x=>cmp_Or_int k x.1⟩
noncomputable def q83C(k:Nat):Cfg:=⟨Tryz.prog,tyOf tys,18,gOf [],false,[],[]⟩
def q83i1:List PE := [⟨3,16,.val ty_0 false,false⟩,⟨6,32,.val ty_7 false,false⟩,e29,e30]
def q83o1:List PE := [⟨3,16,.val ty_0 false,false⟩]
noncomputable def q83f1(k:Nat)(n:Nat)(x1:PTe q83i1):=cmp_Or_int_L58 k n x1.1 x1.2.1 x1.2.2.1 x1.2.2.2.1
def q83p:List PE := [e8]
noncomputable def q83F(k:Nat):F1:=⟨q83C k,rr q83p [(ty_0,false)] Tryz.f203,fun p=>bif Nat.beq p 58 then some (.loop q83i1 q83o1 0 80 (q83f1 k k))else none,0,[]⟩
theorem q83K(k:Nat):Contract Tryz.prog 203 (q83V k):=ctr (q83C k) (rs := [(ty_0,false)]) (ps:=q83p) (q83F k) Tryz.f203 16 ⟨tyOf_ok tys_ok,gOf_ok trivial⟩ (annl [58] ⟨lok q83i1 q83o1 0 80 (q83f1 k) k,trivial⟩)

noncomputable def q84V(k:Nat):Variant:=⟨[.val ty_3 true,.val ty_3 true],[(ty_0,false)],fun x=>impl_compareTerms k x.1 x.2.1⟩
noncomputable def q84C(k:Nat):Cfg:=⟨Tryz.prog,tyOf tys,22,gOf [(204,[],q82V),(203,[],q83V k)],false,[],[]⟩
def q84p:List PE := [e11,e22]
noncomputable def q84F(k:Nat):F1:=⟨q84C k,rr q84p [(ty_0,false)] Tryz.f157,fun p=>none,0,[]⟩
theorem q84K(k:Nat):Contract Tryz.prog 157 (q84V k):=ctr (q84C k) (rs := [(ty_0,false)]) (ps:=q84p) (q84F k) Tryz.f157 32 ⟨tyOf_ok tys_ok,gOf_ok ⟨q82K,q83K k,trivial⟩⟩ (annl [] trivial)

noncomputable def q85V(k:Nat):Variant:=⟨[.val ty_4 false],[(.bool,false)],fun x=>impl_isPoly k x.1⟩
noncomputable def q85C(k:Nat):Cfg:=⟨Tryz.prog,tyOf tys,44,gOf [(96,[],q78V),(206,[],q80V),(157,[],q84V k)],false,[],[]⟩
def q85i1:List PE := [e23,⟨5,32,.val ty_4 false,false⟩,e24,e15]
def q85o1:List PE := [e23]
noncomputable def q85f1(k:Nat)(n:Nat)(x4:PTe q85i1):=impl_isPoly_L26 k n x4.1 x4.2.1 x4.2.2.1 x4.2.2.2.1
def q85p:List PE := [e1]
noncomputable def q85F(k:Nat):F3:=⟨q85C k,rr q85p [(.bool,false)] Tryz.f160,fun p=>bif Nat.beq p 26 then some (.loop q85i1 q85o1 0 80 (q85f1 k k))else none,0,[]⟩
theorem q85K(k:Nat):Contract Tryz.prog 160 (q85V k):=ctr (q85C k) (rs := [(.bool,false)]) (ps:=q85p) (q85F k) Tryz.f160 16 ⟨tyOf_ok tys_ok,gOf_ok ⟨q78K,q80K,q84K k,trivial⟩⟩ (annl [26] ⟨lok q85i1 q85o1 0 80 (q85f1 k) k,trivial⟩)

noncomputable def q86V:Variant:=⟨[.val ty_3 true],[(ty_2,true)],fun x=>impl_Term_exponents x.1⟩
noncomputable def q86C:Cfg:=⟨Tryz.prog,tyOf tys,10,gOf [],false,[],[]⟩
def q86p:List PE := [e11]
noncomputable def q86F:Fn (Int×Int×Int):=⟨q86C,rr q86p [(ty_2,true)] Tryz.f207,fun p=>none,0,[]⟩
theorem q86K:Contract Tryz.prog 207 (q86V):=ctr q86C (rs := [(ty_2,true)]) (ps:=q86p) q86F Tryz.f207 16 ⟨tyOf_ok tys_ok,gOf_ok trivial⟩ (annl [] trivial)

noncomputable def q87V(k:Nat):Variant:=⟨[.val ty_4 false,.val ty_0 false],[(.bool,false)],fun x=>impl_needsAtMost k x.1 x.2.1⟩
noncomputable def q87C(k:Nat):Cfg:=⟨Tryz.prog,tyOf tys,30,gOf [(207,[],q86V)],false,[],[]⟩
def q87i1:List PE := [e6,e103,e104,e37,⟨16,96,.val ty_2 true,false⟩,e105]
def q87o1:List PE := [e6,e103,e104,e37]
noncomputable def q87f1(k:Nat)(n:Nat)(x2:PTe q87i1):=impl_needsAtMost_L6758 k n x2.1 x2.2.1 x2.2.2.1 x2.2.2.2.1 x2.2.2.2.2.1 x2.2.2.2.2.2.1
def q87i2:List PE := [e6,e103,e104,e37]
def q87o2:List PE := []
noncomputable def q87f2(k:Nat)(n:Nat)(x5:PTe q87i2):=impl_needsAtMost_L26 k n x5.1 x5.2.1 x5.2.2.1 x5.2.2.2.1
def q87p:List PE := [e1,e2]
noncomputable def q87F(k:Nat):F3:=⟨q87C k,rr q87p [(.bool,false)] Tryz.f161,fun p=>bif Nat.beq p 6758 then some (.loop q87i1 q87o1 2 128 (q87f1 k k))else bif Nat.beq p 26 then some (.loop q87i2 q87o2 0 96 (q87f2 k k))else none,0,[]⟩
theorem q87K(k:Nat):Contract Tryz.prog 161 (q87V k):=ctr (q87C k) (rs := [(.bool,false)]) (ps:=q87p) (q87F k) Tryz.f161 32 ⟨tyOf_ok tys_ok,gOf_ok ⟨q86K,trivial⟩⟩ (annl [26,6758] ⟨lok q87i2 q87o2 0 96 (q87f2 k) k,lok q87i1 q87o1 2 128 (q87f1 k) k,trivial⟩)

noncomputable def q88V(k:Nat):Variant:=⟨[.val ty_5 false],[(.bool,false)],fun x=>impl_isSystem k x.1⟩
noncomputable def q88C(k:Nat):Cfg:=⟨Tryz.prog,tyOf tys,25,gOf [(160,[],q85V k),(161,[],q87V k),(96,[],q78V)],false,[],[]⟩
def q88i1:List PE := [e27,⟨5,32,.val ty_5 false,false⟩,e24,e15]
def q88o1:List PE := [e27]
noncomputable def q88f1(k:Nat)(n:Nat)(x3:PTe q88i1):=impl_isSystem_L26 k n x3.1 x3.2.1 x3.2.2.1 x3.2.2.2.1
def q88p:List PE := [e7]
noncomputable def q88F(k:Nat):F3:=⟨q88C k,rr q88p [(.bool,false)] Tryz.f99,fun p=>bif Nat.beq p 26 then some (.loop q88i1 q88o1 0 80 (q88f1 k k))else none,0,[]⟩
theorem q88K(k:Nat):Contract Tryz.prog 99 (q88V k):=ctr (q88C k) (rs := [(.bool,false)]) (ps:=q88p) (q88F k) Tryz.f99 16 ⟨tyOf_ok tys_ok,gOf_ok ⟨q85K k,q87K k,q78K,trivial⟩⟩ (annl [26] ⟨lok q88i1 q88o1 0 80 (q88f1 k) k,trivial⟩)

noncomputable def q89V(k:Nat):Variant:=⟨[.ptr ty_9 false],[(.bool,false)],fun x=>impl_isBox k x.1⟩
noncomputable def q89C(k:Nat):Cfg:=⟨Tryz.prog,tyOf tys,94,gOf [(96,[],q78V)],false,[],[]⟩
def q89i1:List PE := [e106,e32,⟨4,48,.val .bool false,false⟩,⟨48,64,.val ty_7 false,false⟩,⟨49,80,.val ty_0 false,false⟩,⟨50,96,.val ty_0 false,false⟩]
def q89o1:List PE := [⟨4,16,.val .bool false,false⟩]
noncomputable def q89f1(k:Nat)(n:Nat)(x5:PTe q89i1):=impl_isBox_L122 k n x5.1 x5.2.1 x5.2.2.1 x5.2.2.2.1 x5.2.2.2.2.1 x5.2.2.2.2.2.1
def q89p:List PE := [e107]
noncomputable def q89F(k:Nat):F3:=⟨q89C k,rr q89p [(.bool,false)] Tryz.f141,fun p=>bif Nat.beq p 122 then some (.loop q89i1 q89o1 0 112 (q89f1 k k))else none,0,[]⟩
theorem q89K(k:Nat):Contract Tryz.prog 141 (q89V k):=ctr (q89C k) (rs := [(.bool,false)]) (ps:=q89p) (q89F k) Tryz.f141 16 ⟨tyOf_ok tys_ok,gOf_ok ⟨q78K,trivial⟩⟩ (annl [122] ⟨lok q89i1 q89o1 0 112 (q89f1 k) k,trivial⟩)

noncomputable def q90V(k:Nat):Variant:=⟨[.val ty_5 false,.ptr ty_9 false],[(.bool,false)],fun x=>impl_systemOver k x.1 x.2.1⟩
noncomputable def q90C(k:Nat):Cfg:=⟨Tryz.prog,tyOf tys,21,gOf [(99,[],q88V k),(141,[],q89V k)],false,[],[]⟩
def q90p:List PE := [e7,e108]
noncomputable def q90F(k:Nat):F3:=⟨q90C k,rr q90p [(.bool,false)] Tryz.f86,fun p=>none,0,[]⟩
theorem q90K(k:Nat):Contract Tryz.prog 86 (q90V k):=ctr (q90C k) (rs := [(.bool,false)]) (ps:=q90p) (q90F k) Tryz.f86 32 ⟨tyOf_ok tys_ok,gOf_ok ⟨q88K k,q89K k,trivial⟩⟩ (annl [] trivial)

noncomputable def q91V(k:Nat):Variant:=⟨[.val ty_5 false,.ptr ty_9 false],[(.bool,false)],fun x=>impl_newtonFits k x.1 x.2.1⟩
noncomputable def q91C(k:Nat):Cfg:=⟨Tryz.prog,tyOf tys,15,gOf [(86,[],q90V k)],false,[],[]⟩
def q91p:List PE := [e7,e108]
noncomputable def q91F(k:Nat):F3:=⟨q91C k,rr q91p [(.bool,false)] Tryz.f55,fun p=>none,0,[]⟩
theorem q91K(k:Nat):Contract Tryz.prog 55 (q91V k):=ctr (q91C k) (rs := [(.bool,false)]) (ps:=q91p) (q91F k) Tryz.f55 32 ⟨tyOf_ok tys_ok,gOf_ok ⟨q90K k,trivial⟩⟩ (annl [] trivial)

noncomputable def q92V:Variant:=⟨[.val ty_0 false,.val ty_2 true],[(ty_3,true)],fun x=>impl_termOf x.1 x.2.1⟩
noncomputable def q92C:Cfg:=⟨Tryz.prog,tyOf tys,13,gOf [],false,[],[]⟩
def q92p:List PE := [e10,⟨1,16,.val ty_2 true,false⟩]
noncomputable def q92F:F2:=⟨q92C,rr q92p [(ty_3,true)] Tryz.f243,fun p=>none,0,[]⟩
theorem q92K:Contract Tryz.prog 243 (q92V):=ctr q92C (rs := [(ty_3,true)]) (ps:=q92p) q92F Tryz.f243 32 ⟨tyOf_ok tys_ok,gOf_ok trivial⟩ (annl [] trivial)

noncomputable def q93V:Variant:=⟨[.val ty_4 false],[(ty_4,false)],fun x=>slices_Clone_Term_Term x.1⟩
noncomputable def q93C:Cfg:=⟨Tryz.prog,tyOf tys,8,gOf [],false,[],[]⟩
def q93p:List PE := [e1]
noncomputable def q93F:F6:=⟨q93C,rr q93p [(ty_4,false)] Tryz.f155,fun p=>none,0,[]⟩
theorem q93eq(x:PTe q93p):evFnN false (q93F) (codeOf Tryz.f155) q93p 16 x=slices_Clone_Term_Term x.1:=by kernel_rfl
theorem q93e0(x:(Unit)):evFnN true (q93F) (codeOf Tryz.f155) q93p 16 (([]:List (Int×Int×Int×Int)),x)=slices_Clone_Term_Term []:=by kernel_rfl
theorem q93K:Contract Tryz.prog 155 (q93V) :=
 contractN (C:=q93C) (F:=q93F) (fn:=Tryz.f155) (ps:=q93p) (rs := [(ty_4,false)]) (nx:=16) rfl ⟨tyOf_ok tys_ok,gOf_ok trivial⟩ rfl (by kernel_rfl) (by kernel_rfl) (by kernel_rfl) (by kernel_rfl) (by kernel_rfl) (by kernel_rfl) rfl (by kernel_rfl) (by kernel_rfl) (AnnOk_list [] (by kernel_rfl) trivial) mix_ok (q93eq) (fun x h=>by obtain⟨x1,x2⟩:=x;have h:x1 = []:=h;subst h;exact q93e0 x2)

noncomputable def q94V(k:Nat):Variant:=⟨[.own ty_3,.val ty_0 false,.val ty_0 false,.fn 157 []],[],fun x=>slices_insertionSortCmpFunc_Term_impl_compareTerms k x.1 x.2.1 x.2.2.1 x.2.2.2.1⟩
noncomputable def q94C(k:Nat):Cfg:=⟨Tryz.prog,tyOf tys,53,gOf [(157,[],q84V k)],false,[],[]⟩
def q94i1:List PE := [e109,e110,e111,e112,e113,⟨9,128,.val ty_0 false,false⟩]
def q94o1:List PE := [e109,e110,e111,e112,e113]
noncomputable def q94f1(k:Nat)(n:Nat)(x2:PTe q94i1):=slices_insertionSortCmpFunc_Term_impl_compareTerms_L402 k n x2.1 x2.2.1 x2.2.2.1 x2.2.2.2.1 x2.2.2.2.2.1 x2.2.2.2.2.2.1
def q94i2:List PE := [e109,e110,e111,e112,e113]
def q94o2:List PE := [e109]
noncomputable def q94f2(k:Nat)(n:Nat)(x5:PTe q94i2):=slices_insertionSortCmpFunc_Term_impl_compareTerms_L6 k n x5.1 x5.2.1 x5.2.2.1 x5.2.2.2.1 x5.2.2.2.2.1
def q94p:List PE := [e109,e2,e21,⟨3,48,.fn 157 [],false⟩]
noncomputable def q94F(k:Nat):F6:=⟨q94C k,rr q94p [] Tryz.f233,fun p=>bif Nat.beq p 402 then some (.loop q94i1 q94o1 2 144 (q94f1 k k))else bif Nat.beq p 6 then some (.loop q94i2 q94o2 0 128 (q94f2 k k))else none,0,[0]⟩
theorem q94K(k:Nat):Contract Tryz.prog 233 (q94V k):=ctr (q94C k) (rs := []) (ps:=q94p) (q94F k) Tryz.f233 64 ⟨tyOf_ok tys_ok,gOf_ok ⟨q84K k,trivial⟩⟩ (annl [6,402] ⟨lok q94i2 q94o2 0 128 (q94f2 k) k,lok q94i1 q94o1 2 144 (q94f1 k) k,trivial⟩)

noncomputable def q95V(k:Nat):Variant:=⟨[.own ty_3,.val ty_0 false,.fn 157 []],[],fun x=>slices_stableCmpFunc_Term_impl_compareTerms k x.1 x.2.1 x.2.2.1⟩
noncomputable def q95C(k:Nat):Cfg:=⟨Tryz.prog,tyOf tys,63,gOf [(233,[157],q94V k)],false,[],[]⟩
def q95i1:List PE := [e109,e4,e114,e17,e115,e113]
def q95o1:List PE := [e109,e4,e114,e17,e115]
noncomputable def q95f1(k:Nat)(n:Nat)(x2:PTe q95i1):=slices_stableCmpFunc_Term_impl_compareTerms_L28 k n x2.1 x2.2.1 x2.2.2.1 x2.2.2.2.1 x2.2.2.2.2.1 x2.2.2.2.2.2.1
def q95i2:List PE := [e109,e4,e114,e17,e115,e113]
def q95o2:List PE := [e109,e4,e114,e17,e115]
noncomputable def q95f2(k:Nat)(n:Nat)(x6:PTe q95i2):=slices_stableCmpFunc_Term_impl_compareTerms_L3988 k n x6.1 x6.2.1 x6.2.2.1 x6.2.2.2.1 x6.2.2.2.2.1 x6.2.2.2.2.2.1
def q95i3:List PE := [e109,e4,e114,e17]
def q95o3:List PE := [e109]
noncomputable def q95f3(k:Nat)(n:Nat)(x9:PTe q95i3):=slices_stableCmpFunc_Term_impl_compareTerms_L62 k n x9.1 x9.2.1 x9.2.2.1 x9.2.2.2.1
def q95p:List PE := [e109,e2,⟨2,32,.fn 157 [],false⟩]
noncomputable def q95F(k:Nat):F6:=⟨q95C k,rr q95p [] Tryz.f202,fun p=>bif Nat.beq p 28 then some (.loop q95i1 q95o1 0 128 (q95f1 k k))else bif Nat.beq p 3988 then some (.loop q95i2 q95o2 4 128 (q95f2 k k))else bif Nat.beq p 62 then some (.loop q95i3 q95o3 2 96 (q95f3 k k))else none,0,[0]⟩
theorem q95K(k:Nat):Contract Tryz.prog 202 (q95V k):=ctr (q95C k) (rs := []) (ps:=q95p) (q95F k) Tryz.f202 48 ⟨tyOf_ok tys_ok,gOf_ok ⟨q94K k,trivial⟩⟩ (annl [28,62,3988] ⟨lok q95i1 q95o1 0 128 (q95f1 k) k,lok q95i3 q95o3 2 96 (q95f3 k) k,lok q95i2 q95o2 4 128 (q95f2 k) k,trivial⟩)

noncomputable def q96V(k:Nat):Variant:=⟨[.own ty_3,.fn 157 []],[],fun x=>slices_SortStableFunc_Term_Term_impl_compareTerms k x.1 x.2.1⟩
noncomputable def q96C(k:Nat):Cfg:=⟨Tryz.prog,tyOf tys,9,gOf [(202,[157],q95V k)],false,[],[]⟩
def q96p:List PE := [e109,⟨1,16,.fn 157 [],false⟩]
noncomputable def q96F(k:Nat):F6:=⟨q96C k,rr q96p [] Tryz.f156,fun p=>none,0,[0]⟩
theorem q96K(k:Nat):Contract Tryz.prog 156 (q96V k):=ctr (q96C k) (rs := []) (ps:=q96p) (q96F k) Tryz.f156 32 ⟨tyOf_ok tys_ok,gOf_ok ⟨q95K k,trivial⟩⟩ (annl [] trivial)

noncomputable def q97V:Variant:=⟨[.val ty_3 true],[(.bool,false)],fun x=>impl_collect_1 x.1⟩
noncomputable def q97C:Cfg:=⟨Tryz.prog,tyOf tys,6,gOf [],false,[],[]⟩
def q97p:List PE := [e11]
noncomputable def q97F:F3:=⟨q97C,rr q97p [(.bool,false)] Tryz.f159,fun p=>none,0,[]⟩
theorem q97K:Contract Tryz.prog 159 (q97V):=ctr q97C (rs := [(.bool,false)]) (ps:=q97p) q97F Tryz.f159 16 ⟨tyOf_ok tys_ok,gOf_ok trivial⟩ (annl [] trivial)

noncomputable def q98V(k:Nat):Variant:=⟨[.val ty_4 false,.fn 159 []],[(ty_0,false)],fun x=>slices_IndexFunc_Term_Term_impl_collect_1 k x.1 x.2.1⟩
noncomputable def q98C(k:Nat):Cfg:=⟨Tryz.prog,tyOf tys,19,gOf [(159,[],q97V)],false,[],[]⟩
def q98i1:List PE := [e12,⟨1,48,.fn 159 [],false⟩,e15,⟨8,80,.val ty_0 false,false⟩]
def q98o1:List PE := []
noncomputable def q98f1(k:Nat)(n:Nat)(x2:PTe q98i1):=slices_IndexFunc_Term_Term_impl_collect_1_L26 k n x2.1 x2.2.1 x2.2.2.1 x2.2.2.2.1
def q98p:List PE := [e1,⟨1,16,.fn 159 [],false⟩]
noncomputable def q98F(k:Nat):F1:=⟨q98C k,rr q98p [(ty_0,false)] Tryz.f205,fun p=>bif Nat.beq p 26 then some (.loop q98i1 q98o1 0 96 (q98f1 k k))else none,0,[]⟩
theorem q98K(k:Nat):Contract Tryz.prog 205 (q98V k):=ctr (q98C k) (rs := [(ty_0,false)]) (ps:=q98p) (q98F k) Tryz.f205 32 ⟨tyOf_ok tys_ok,gOf_ok ⟨q97K,trivial⟩⟩ (annl [26] ⟨lok q98i1 q98o1 0 96 (q98f1 k) k,trivial⟩)

noncomputable def q99V(k:Nat):Variant:=⟨[.eat ty_3,.fn 159 []],[(ty_4,false)],fun x=>slices_DeleteFunc_Term_Term_impl_collect_1 k x.1 x.2.1⟩
noncomputable def q99C(k:Nat):Cfg:=⟨Tryz.prog,tyOf tys,42,gOf [(205,[159],q98V k),(159,[],q97V)],true,[],[]⟩
def q99i1:List PE := [⟨0,32,.eat ty_3,false⟩,⟨1,48,.fn 159 [],false⟩,e5,e17]
def q99o1:List PE := [⟨0,32,.eat ty_3,false⟩,e25]
noncomputable def q99f1(k:Nat)(n:Nat)(x3:PTe q99i1):=slices_DeleteFunc_Term_Term_impl_collect_1_L122 k n x3.1 x3.2.1 x3.2.2.1 x3.2.2.2.1
def q99p:List PE := [⟨0,0,.eat ty_3,false⟩,⟨1,16,.fn 159 [],false⟩]
noncomputable def q99F(k:Nat):F6:=⟨q99C k,rr q99p [(ty_4,false)] Tryz.f158,fun p=>bif Nat.beq p 122 then some (.loop q99i1 q99o1 0 96 (q99f1 k k))else none,0,[]⟩
theorem q99K(k:Nat):Contract Tryz.prog 158 (q99V k):=ctr (q99C k) (rs := [(ty_4,false)]) (ps:=q99p) (q99F k) Tryz.f158 32 ⟨tyOf_ok tys_ok,gOf_ok ⟨q98K k,q97K,trivial⟩⟩ (annl [122] ⟨lok q99i1 q99o1 0 96 (q99f1 k) k,trivial⟩)

noncomputable def q100V(k:Nat):Variant:=⟨[.val ty_4 false],[(ty_4,false)],fun x=>impl_collect k x.1⟩
noncomputable def q100C(k:Nat):Cfg:=⟨Tryz.prog,tyOf tys,50,gOf [(155,[],q93V),(156,[157],q96V k),(157,[],q84V k),(158,[159],q99V k)],false,[],[]⟩
def q100i1:List PE := [⟨4,16,.eat ty_3,false⟩,⟨12,32,.eat ty_3,false⟩,⟨13,48,.val ty_0 false,false⟩,e47]
def q100o1:List PE := [⟨4,16,.eat ty_3,false⟩]
noncomputable def q100f1(k:Nat)(n:Nat)(x4:PTe q100i1):=impl_collect_L250 k n x4.1 x4.2.1 x4.2.2.1 x4.2.2.2.1
def q100p:List PE := [e1]
noncomputable def q100F(k:Nat):F6:=⟨q100C k,rr q100p [(ty_4,false)] Tryz.f98,fun p=>bif Nat.beq p 250 then some (.loop q100i1 q100o1 0 80 (q100f1 k k))else none,0,[]⟩
theorem q100K(k:Nat):Contract Tryz.prog 98 (q100V k):=ctr (q100C k) (rs := [(ty_4,false)]) (ps:=q100p) (q100F k) Tryz.f98 16 ⟨tyOf_ok tys_ok,gOf_ok ⟨q93K,q96K k,q84K k,q99K k,trivial⟩⟩ (annl [250] ⟨lok q100i1 q100o1 0 80 (q100f1 k) k,trivial⟩)

noncomputable def q101V(k:Nat):Variant:=⟨[.val ty_4 false,.val ty_0 false],[(ty_4,false)],fun x=>impl_derive k x.1 x.2.1⟩
noncomputable def q101C(k:Nat):Cfg:=⟨Tryz.prog,tyOf tys,40,gOf [(207,[],q86V),(243,[],q92V),(98,[],q100V k)],false,[],[]⟩
def q101i1:List PE := [e6,e13,⟨10,64,.val ty_4 false,false⟩,e37,e38]
def q101o1:List PE := [⟨5,32,.eat ty_3,false⟩]
noncomputable def q101f1(k:Nat)(n:Nat)(x29:PTe q101i1):=impl_derive_L58 k n x29.1 x29.2.1 x29.2.2.1 x29.2.2.2.1 x29.2.2.2.2.1
def q101p:List PE := [e1,e2]
noncomputable def q101F(k:Nat):F6:=⟨q101C k,rr q101p [(ty_4,false)] Tryz.f217,fun p=>bif Nat.beq p 58 then some (.loop q101i1 q101o1 0 112 (q101f1 k k))else none,0,[]⟩
theorem q101K(k:Nat):Contract Tryz.prog 217 (q101V k):=ctr (q101C k) (rs := [(ty_4,false)]) (ps:=q101p) (q101F k) Tryz.f217 32 ⟨tyOf_ok tys_ok,gOf_ok ⟨q86K,q92K,q100K k,trivial⟩⟩ (annl [58] ⟨lok q101i1 q101o1 0 112 (q101f1 k) k,trivial⟩)

noncomputable def q102V:Variant:=⟨[.val ty_0 false],[(ty_15,false)],fun x=>impl_size x.1⟩
noncomputable def q102C:Cfg:=⟨Tryz.prog,tyOf tys,10,gOf [],false,[],[]⟩
def q102p:List PE := [e10]
noncomputable def q102F:F1:=⟨q102C,rr q102p [(ty_15,false)] Tryz.f197,fun p=>none,0,[]⟩
theorem q102K:Contract Tryz.prog 197 (q102V):=ctr q102C (rs := [(ty_15,false)]) (ps:=q102p) q102F Tryz.f197 16 ⟨tyOf_ok tys_ok,gOf_ok trivial⟩ (annl [] trivial)

noncomputable def q103V:Variant:=⟨[.val ty_0 false],[(ty_17,true)],fun x=>impl_wideOf x.1⟩
noncomputable def q103C:Cfg:=⟨Tryz.prog,tyOf tys,8,gOf [(197,[],q102V)],false,[],[]⟩
def q103p:List PE := [e10]
noncomputable def q103F:F14:=⟨q103C,rr q103p [(ty_17,true)] Tryz.f146,fun p=>none,0,[]⟩
theorem q103K:Contract Tryz.prog 146 (q103V):=ctr q103C (rs := [(ty_17,true)]) (ps:=q103p) q103F Tryz.f146 16 ⟨tyOf_ok tys_ok,gOf_ok ⟨q102K,trivial⟩⟩ (annl [] trivial)

noncomputable def q104V:Variant:=⟨[.val ty_17 true],[(.bool,false)],fun x=>impl_wide_isZero x.1⟩
noncomputable def q104C:Cfg:=⟨Tryz.prog,tyOf tys,11,gOf [],false,[],[]⟩
def q104p:List PE := [e116]
noncomputable def q104F:F3:=⟨q104C,rr q104p [(.bool,false)] Tryz.f195,fun p=>none,0,[]⟩
theorem q104K:Contract Tryz.prog 195 (q104V):=ctr q104C (rs := [(.bool,false)]) (ps:=q104p) q104F Tryz.f195 16 ⟨tyOf_ok tys_ok,gOf_ok trivial⟩ (annl [] trivial)

noncomputable def q105V:Variant:=⟨[.val ty_17 true,.val ty_0 false],[(ty_17,true)],fun x=>impl_wide_shift x.1 x.2.1⟩
noncomputable def q105C:Cfg:=⟨Tryz.prog,tyOf tys,63,gOf [],false,[],[]⟩
def q105p:List PE := [e116,e2]
noncomputable def q105F:F14:=⟨q105C,rr q105p [(ty_17,true)] Tryz.f147,fun p=>none,0,[]⟩
theorem q105K:Contract Tryz.prog 147 (q105V):=ctr q105C (rs := [(ty_17,true)]) (ps:=q105p) q105F Tryz.f147 32 ⟨tyOf_ok tys_ok,gOf_ok trivial⟩ (annl [] trivial)

noncomputable def q106V(k:Nat):Variant:=⟨[.val ty_17 true,.val ty_0 false],[(ty_1,true),(.bool,false)],fun x=>impl_wide_fit k x.1 x.2.1⟩
noncomputable def q106C(k:Nat):Cfg:=⟨Tryz.prog,tyOf tys,45,gOf [(195,[],q104V),(147,[],q105V)],false,[],[]⟩
def q106i1:List PE := [e6,⟨2,48,.box ty_17 false,false⟩,e36]
def q106o1:List PE := [e6,⟨2,48,.box ty_17 false,false⟩,e36]
noncomputable def q106f1(k:Nat)(n:Nat)(x3:PTe q106i1):=impl_wide_fit_L28 k n x3.1 x3.2.1 x3.2.2.1
def q106p:List PE := [e116,e2]
noncomputable def q106F(k:Nat):F4:=⟨q106C k,rr q106p [(ty_1,true),(.bool,false)] Tryz.f183,fun p=>bif Nat.beq p 28 then some (.loop q106i1 q106o1 0 80 (q106f1 k k))else none,0,[]⟩
theorem q106K(k:Nat):Contract Tryz.prog 183 (q106V k):=ctr (q106C k) (rs := [(ty_1,true),(.bool,false)]) (ps:=q106p) (q106F k) Tryz.f183 32 ⟨tyOf_ok tys_ok,gOf_ok ⟨q104K,q105K,trivial⟩⟩ (annl [28] ⟨lok q106i1 q106o1 0 80 (q106f1 k) k,trivial⟩)

noncomputable def q107V(k:Nat):Variant:=⟨[.ptr ty_9 false,.val ty_0 false],[(ty_1,true)],fun x=>impl_Box_dyadic k x.1 x.2.1⟩
noncomputable def q107C(k:Nat):Cfg:=⟨Tryz.prog,tyOf tys,18,gOf [(146,[],q103V),(183,[],q106V k)],false,[],[]⟩
def q107p:List PE := [e107,e2]
noncomputable def q107F(k:Nat):F5:=⟨q107C k,rr q107p [(ty_1,true)] Tryz.f194,fun p=>none,0,[]⟩
theorem q107K(k:Nat):Contract Tryz.prog 194 (q107V k):=ctr (q107C k) (rs := [(ty_1,true)]) (ps:=q107p) (q107F k) Tryz.f194 32 ⟨tyOf_ok tys_ok,gOf_ok ⟨q103K,q106K k,trivial⟩⟩ (annl [] trivial)

noncomputable def q108V(k:Nat):Variant:=⟨[.ptr ty_9 false,.val ty_0 false],[(ty_1,true),(ty_1,true)],fun x=>impl_Box_side k x.1 x.2.1⟩
noncomputable def q108C(k:Nat):Cfg:=⟨Tryz.prog,tyOf tys,24,gOf [(194,[],q107V k)],false,[],[]⟩
def q108p:List PE := [e107,e2]
noncomputable def q108F(k:Nat):F7:=⟨q108C k,rr q108p [(ty_1,true),(ty_1,true)] Tryz.f142,fun p=>none,0,[]⟩
theorem q108K(k:Nat):Contract Tryz.prog 142 (q108V k):=ctr (q108C k) (rs := [(ty_1,true),(ty_1,true)]) (ps:=q108p) (q108F k) Tryz.f142 32 ⟨tyOf_ok tys_ok,gOf_ok ⟨q107K k,trivial⟩⟩ (annl [] trivial)

noncomputable def q109V(k:Nat):Variant:=⟨[.ptr ty_9 false],[(ty_12,false)],fun x=>impl_Box_sides k x.1⟩
noncomputable def q109C(k:Nat):Cfg:=⟨Tryz.prog,tyOf tys,29,gOf [(142,[],q108V k)],false,[],[]⟩
def q109i1:List PE := [e106,⟨3,32,.eat ty_10,false⟩,⟨11,48,.val ty_0 false,false⟩,⟨12,64,.val ty_0 false,false⟩]
def q109o1:List PE := [⟨3,16,.eat ty_10,false⟩]
noncomputable def q109f1(k:Nat)(n:Nat)(x2:PTe q109i1):=impl_Box_sides_L58 k n x2.1 x2.2.1 x2.2.2.1 x2.2.2.2.1
def q109p:List PE := [e107]
noncomputable def q109F(k:Nat):Fn (List ((Int×Int)×Int×Int)):=⟨q109C k,rr q109p [(ty_12,false)] Tryz.f87,fun p=>bif Nat.beq p 58 then some (.loop q109i1 q109o1 0 80 (q109f1 k k))else none,0,[]⟩
theorem q109K(k:Nat):Contract Tryz.prog 87 (q109V k):=ctr (q109C k) (rs := [(ty_12,false)]) (ps:=q109p) (q109F k) Tryz.f87 16 ⟨tyOf_ok tys_ok,gOf_ok ⟨q108K k,trivial⟩⟩ (annl [58] ⟨lok q109i1 q109o1 0 80 (q109f1 k) k,trivial⟩)

noncomputable def q110V:Variant:=⟨[.val ty_0 false],[(ty_1,true)],fun x=>impl_integer x.1⟩
noncomputable def q110C:Cfg:=⟨Tryz.prog,tyOf tys,5,gOf [],false,[],[]⟩
def q110p:List PE := [e10]
noncomputable def q110F:F5:=⟨q110C,rr q110p [(ty_1,true)] Tryz.f112,fun p=>none,0,[]⟩
theorem q110K:Contract Tryz.prog 112 (q110V):=ctr q110C (rs := [(ty_1,true)]) (ps:=q110p) q110F Tryz.f112 16 ⟨tyOf_ok tys_ok,gOf_ok trivial⟩ (annl [] trivial)

noncomputable def q111V:Variant:=⟨[.val ty_1 true],[(ty_10,true)],fun x=>impl_single x.1⟩
noncomputable def q111C:Cfg:=⟨Tryz.prog,tyOf tys,6,gOf [],false,[],[]⟩
def q111p:List PE := [e34]
noncomputable def q111F:F7:=⟨q111C,rr q111p [(ty_10,true)] Tryz.f111,fun p=>none,0,[]⟩
theorem q111K:Contract Tryz.prog 111 (q111V):=ctr q111C (rs := [(ty_10,true)]) (ps:=q111p) q111F Tryz.f111 16 ⟨tyOf_ok tys_ok,gOf_ok trivial⟩ (annl [] trivial)

noncomputable def q112V:Variant:=⟨[.val ty_15 false,.val ty_15 false],[(ty_15,false),(ty_15,false)],fun x=>math_bits_Mul64 x.1 x.2.1⟩
noncomputable def q112C:Cfg:=⟨Tryz.prog,tyOf tys,51,gOf [],false,[],[]⟩
def q112p:List PE := [e117,e118]
noncomputable def q112F:F5:=⟨q112C,rr q112p [(ty_15,false),(ty_15,false)] Tryz.f259,fun p=>none,0,[]⟩
theorem q112K:Contract Tryz.prog 259 (q112V):=ctr q112C (rs := [(ty_15,false),(ty_15,false)]) (ps:=q112p) q112F Tryz.f259 32 ⟨tyOf_ok tys_ok,gOf_ok trivial⟩ (annl [] trivial)

noncomputable def q113V:Variant:=⟨[.val ty_0 false,.val ty_0 false],[(ty_17,true)],fun x=>impl_timesWide x.1 x.2.1⟩
noncomputable def q113C:Cfg:=⟨Tryz.prog,tyOf tys,23,gOf [(197,[],q102V),(259,[],q112V)],false,[],[]⟩
def q113p:List PE := [e10,e2]
noncomputable def q113F:F14:=⟨q113C,rr q113p [(ty_17,true)] Tryz.f248,fun p=>none,0,[]⟩
theorem q113K:Contract Tryz.prog 248 (q113V):=ctr q113C (rs := [(ty_17,true)]) (ps:=q113p) q113F Tryz.f248 32 ⟨tyOf_ok tys_ok,gOf_ok ⟨q102K,q112K,trivial⟩⟩ (annl [] trivial)

noncomputable def q114V(k:Nat):Variant:=⟨[.val ty_1 true,.val ty_1 true],[(ty_1,true),(.bool,false)],fun x=>impl_productOf k x.1 x.2.1⟩
noncomputable def q114C(k:Nat):Cfg:=⟨Tryz.prog,tyOf tys,19,gOf [(248,[],q113V),(183,[],q106V k)],false,[],[]⟩
def q114p:List PE := [e34,e41]
noncomputable def q114F(k:Nat):F4:=⟨q114C k,rr q114p [(ty_1,true),(.bool,false)] Tryz.f227,fun p=>none,0,[]⟩
theorem q114K(k:Nat):Contract Tryz.prog 227 (q114V k):=ctr (q114C k) (rs := [(ty_1,true),(.bool,false)]) (ps:=q114p) (q114F k) Tryz.f227 32 ⟨tyOf_ok tys_ok,gOf_ok ⟨q113K,q106K k,trivial⟩⟩ (annl [] trivial)

noncomputable def q115V:Variant:=⟨[.ptr .bool true,.val ty_1 true,.val .bool false],[(ty_1,true)],fun x=>impl_reckoner_keep x.1 x.2.1 x.2.2.1⟩
noncomputable def q115C:Cfg:=⟨Tryz.prog,tyOf tys,24,gOf [],false,[],[]⟩
def q115p:List PE := [e119,e41,⟨2,32,.val .bool false,false⟩]
noncomputable def q115F:F4:=⟨q115C,rr q115p [(ty_1,true)] Tryz.f128,fun p=>none,0,[0]⟩
theorem q115K:Contract Tryz.prog 128 (q115V):=ctr q115C (rs := [(ty_1,true)]) (ps:=q115p) q115F Tryz.f128 48 ⟨tyOf_ok tys_ok,gOf_ok trivial⟩ (annl [] trivial)

noncomputable def q116V(k:Nat):Variant:=⟨[.ptr .bool true,.val ty_1 true,.val ty_1 true],[(ty_1,true)],fun x=>impl_reckoner_product k x.1 x.2.1 x.2.2.1⟩
noncomputable def q116C(k:Nat):Cfg:=⟨Tryz.prog,tyOf tys,14,gOf [(227,[],q114V k),(128,[],q115V)],false,[],[]⟩
def q116p:List PE := [e119,e41,e59]
noncomputable def q116F(k:Nat):F4:=⟨q116C k,rr q116p [(ty_1,true)] Tryz.f190,fun p=>none,0,[0]⟩
theorem q116K(k:Nat):Contract Tryz.prog 190 (q116V k):=ctr (q116C k) (rs := [(ty_1,true)]) (ps:=q116p) (q116F k) Tryz.f190 48 ⟨tyOf_ok tys_ok,gOf_ok ⟨q114K k,q115K,trivial⟩⟩ (annl [] trivial)

noncomputable def q117V:Variant:=⟨[.val ty_15 false],[(.bool,false)],fun x=>cmp_isNaN_uint64 x.1⟩
noncomputable def q117C:Cfg:=⟨Tryz.prog,tyOf tys,6,gOf [],false,[],[]⟩
def q117p:List PE := [e117]
noncomputable def q117F:F3:=⟨q117C,rr q117p [(.bool,false)] Tryz.f249,fun p=>none,0,[]⟩
theorem q117K:Contract Tryz.prog 249 (q117V):=ctr q117C (rs := [(.bool,false)]) (ps:=q117p) q117F Tryz.f249 16 ⟨tyOf_ok tys_ok,gOf_ok trivial⟩ (annl [] trivial)

noncomputable def q118V:Variant:=⟨[.val ty_15 false,.val ty_15 false],[(ty_0,false)],fun x=>cmp_Compare_uint64 x.1 x.2.1⟩
noncomputable def q118C:Cfg:=⟨Tryz.prog,tyOf tys,20,gOf [(249,[],q117V)],false,[],[]⟩
def q118p:List PE := [e117,e118]
noncomputable def q118F:F1:=⟨q118C,rr q118p [(ty_0,false)] Tryz.f230,fun p=>none,0,[]⟩
theorem q118K:Contract Tryz.prog 230 (q118V):=ctr q118C (rs := [(ty_0,false)]) (ps:=q118p) q118F Tryz.f230 32 ⟨tyOf_ok tys_ok,gOf_ok ⟨q117K,trivial⟩⟩ (annl [] trivial)

noncomputable def q119V(k:Nat):Variant:=⟨[.val ty_17 true,.val ty_17 true],[(ty_0,false)],fun x=>impl_compareSizes k x.1 x.2.1⟩
noncomputable def q119C(k:Nat):Cfg:=⟨Tryz.prog,tyOf tys,17,gOf [(230,[],q118V),(203,[],q83V k)],false,[],[]⟩
def q119p:List PE := [e116,e120]
noncomputable def q119F(k:Nat):F1:=⟨q119C k,rr q119p [(ty_0,false)] Tryz.f196,fun p=>none,0,[]⟩
theorem q119K(k:Nat):Contract Tryz.prog 196 (q119V k):=ctr (q119C k) (rs := [(ty_0,false)]) (ps:=q119p) (q119F k) Tryz.f196 32 ⟨tyOf_ok tys_ok,gOf_ok ⟨q118K,q83K k,trivial⟩⟩ (annl [] trivial)

noncomputable def q120V(k:Nat):Variant:=⟨[.val ty_17 true,.val ty_17 true],[(ty_0,false)],fun x=>impl_compareWide k x.1 x.2.1⟩
noncomputable def q120C(k:Nat):Cfg:=⟨Tryz.prog,tyOf tys,29,gOf [(195,[],q104V),(196,[],q119V k)],false,[],[]⟩
def q120p:List PE := [e116,e120]
noncomputable def q120F(k:Nat):F1:=⟨q120C k,rr q120p [(ty_0,false)] Tryz.f145,fun p=>bif Nat.beq p 6 then some (.cut [⟨2,32,.box ty_17 false,false⟩,⟨3,48,.box ty_17 false,false⟩] 64)else none,0,[]⟩
theorem q120K(k:Nat):Contract Tryz.prog 145 (q120V k):=ctr (q120C k) (rs := [(ty_0,false)]) (ps:=q120p) (q120F k) Tryz.f145 32 ⟨tyOf_ok tys_ok,gOf_ok ⟨q104K,q119K k,trivial⟩⟩ (annl [] trivial)

noncomputable def q121V(k:Nat):Variant:=⟨[.val ty_1 true,.val ty_1 true],[(ty_0,false)],fun x=>impl_compareD k x.1 x.2.1⟩
noncomputable def q121C(k:Nat):Cfg:=⟨Tryz.prog,tyOf tys,28,gOf [(146,[],q103V),(147,[],q105V),(145,[],q120V k)],false,[],[]⟩
def q121p:List PE := [e34,e41]
noncomputable def q121F(k:Nat):F1:=⟨q121C k,rr q121p [(ty_0,false)] Tryz.f91,fun p=>none,0,[]⟩
theorem q121K(k:Nat):Contract Tryz.prog 91 (q121V k):=ctr (q121C k) (rs := [(ty_0,false)]) (ps:=q121p) (q121F k) Tryz.f91 32 ⟨tyOf_ok tys_ok,gOf_ok ⟨q103K,q105K,q120K k,trivial⟩⟩ (annl [] trivial)

noncomputable def q122V(k:Nat):Variant:=⟨[.val ty_1 true,.val ty_1 true],[(ty_1,true)],fun x=>impl_lesser k x.1 x.2.1⟩
noncomputable def q122C(k:Nat):Cfg:=⟨Tryz.prog,tyOf tys,11,gOf [(91,[],q121V k)],false,[],[]⟩
def q122p:List PE := [e34,e41]
noncomputable def q122F(k:Nat):F5:=⟨q122C k,rr q122p [(ty_1,true)] Tryz.f143,fun p=>none,0,[]⟩
theorem q122K(k:Nat):Contract Tryz.prog 143 (q122V k):=ctr (q122C k) (rs := [(ty_1,true)]) (ps:=q122p) (q122F k) Tryz.f143 32 ⟨tyOf_ok tys_ok,gOf_ok ⟨q121K k,trivial⟩⟩ (annl [] trivial)

noncomputable def q123V(k:Nat):Variant:=⟨[.val ty_1 true,.val ty_1 true],[(ty_1,true)],fun x=>impl_greater k x.1 x.2.1⟩
noncomputable def q123C(k:Nat):Cfg:=⟨Tryz.prog,tyOf tys,11,gOf [(91,[],q121V k)],false,[],[]⟩
def q123p:List PE := [e34,e41]
noncomputable def q123F(k:Nat):F5:=⟨q123C k,rr q123p [(ty_1,true)] Tryz.f114,fun p=>none,0,[]⟩
theorem q123K(k:Nat):Contract Tryz.prog 114 (q123V k):=ctr (q123C k) (rs := [(ty_1,true)]) (ps:=q123p) (q123F k) Tryz.f114 32 ⟨tyOf_ok tys_ok,gOf_ok ⟨q121K k,trivial⟩⟩ (annl [] trivial)

noncomputable def q124V:Variant:=⟨[.val ty_10 true],[(ty_0,false)],fun x=>impl_signOf x.1⟩
noncomputable def q124C:Cfg:=⟨Tryz.prog,tyOf tys,13,gOf [],false,[],[]⟩
def q124p:List PE := [e44]
noncomputable def q124F:F1:=⟨q124C,rr q124p [(ty_0,false)] Tryz.f254,fun p=>none,0,[]⟩
theorem q124K:Contract Tryz.prog 254 (q124V):=ctr q124C (rs := [(ty_0,false)]) (ps:=q124p) q124F Tryz.f254 16 ⟨tyOf_ok tys_ok,gOf_ok trivial⟩ (annl [] trivial)

noncomputable def q125V(k:Nat):Variant:=⟨[.val ty_1 true,.val ty_0 false],[(ty_1,true)],fun x=>impl_roundDown k x.1 x.2.1⟩
noncomputable def q125C(k:Nat):Cfg:=⟨Tryz.prog,tyOf tys,26,gOf [(146,[],q103V),(183,[],q106V k)],false,[],[]⟩
def q125p:List PE := [e34,e2]
noncomputable def q125F(k:Nat):F5:=⟨q125C k,rr q125p [(ty_1,true)] Tryz.f228,fun p=>none,0,[]⟩
theorem q125K(k:Nat):Contract Tryz.prog 228 (q125V k):=ctr (q125C k) (rs := [(ty_1,true)]) (ps:=q125p) (q125F k) Tryz.f228 32 ⟨tyOf_ok tys_ok,gOf_ok ⟨q103K,q106K k,trivial⟩⟩ (annl [] trivial)

noncomputable def q126V:Variant:=⟨[.val ty_1 true],[(ty_1,true)],fun x=>impl_minus x.1⟩
noncomputable def q126C:Cfg:=⟨Tryz.prog,tyOf tys,9,gOf [],false,[],[]⟩
def q126p:List PE := [e34]
noncomputable def q126F:F5:=⟨q126C,rr q126p [(ty_1,true)] Tryz.f115,fun p=>none,0,[]⟩
theorem q126K:Contract Tryz.prog 115 (q126V):=ctr q126C (rs := [(ty_1,true)]) (ps:=q126p) q126F Tryz.f115 16 ⟨tyOf_ok tys_ok,gOf_ok trivial⟩ (annl [] trivial)

noncomputable def q127V(k:Nat):Variant:=⟨[.val ty_10 true,.val ty_0 false],[(ty_10,true)],fun x=>impl_roundOut k x.1 x.2.1⟩
noncomputable def q127C(k:Nat):Cfg:=⟨Tryz.prog,tyOf tys,16,gOf [(228,[],q125V k),(115,[],q126V)],false,[],[]⟩
def q127p:List PE := [e44,e2]
noncomputable def q127F(k:Nat):F7:=⟨q127C k,rr q127p [(ty_10,true)] Tryz.f191,fun p=>none,0,[]⟩
theorem q127K(k:Nat):Contract Tryz.prog 191 (q127V k):=ctr (q127C k) (rs := [(ty_10,true)]) (ps:=q127p) (q127F k) Tryz.f191 32 ⟨tyOf_ok tys_ok,gOf_ok ⟨q125K k,q126K,trivial⟩⟩ (annl [] trivial)

noncomputable def q128V(k:Nat):Variant:=⟨[.ptr .bool true,.val ty_10 true,.val ty_0 false],[(ty_10,true)],fun x=>impl_reckoner_power k x.1 x.2.1 x.2.2.1⟩
noncomputable def q128C(k:Nat):Cfg:=⟨Tryz.prog,tyOf tys,49,gOf [(112,[],q110V),(111,[],q111V),(190,[],q116V k),(143,[],q122V k),(114,[],q123V k),(254,[],q124V),(191,[],q127V k)],false,[],[]⟩
def q128i1:List PE := [e119,e81,⟨4,64,.box ty_10 false,false⟩,⟨6,80,.box ty_10 false,false⟩,⟨7,96,.box ty_1 false,false⟩,⟨8,112,.box ty_1 false,false⟩,⟨18,128,.val ty_0 false,false⟩,⟨19,144,.val ty_0 false,false⟩]
def q128o1:List PE := [e81,⟨4,64,.box ty_10 false,false⟩,⟨6,80,.box ty_10 false,false⟩,⟨7,96,.box ty_1 false,false⟩,⟨8,112,.box ty_1 false,false⟩,e119]
noncomputable def q128f1(k:Nat)(n:Nat)(x5:PTe q128i1):=impl_reckoner_power_L122 k n x5.1 x5.2.1 x5.2.2.1 x5.2.2.2.1 x5.2.2.2.2.1 x5.2.2.2.2.2.1 x5.2.2.2.2.2.2.1 x5.2.2.2.2.2.2.2.1
def q128p:List PE := [e119,e58,e21]
noncomputable def q128F(k:Nat):F8:=⟨q128C k,rr q128p [(ty_10,true)] Tryz.f241,fun p=>bif Nat.beq p 122 then some (.loop q128i1 q128o1 0 160 (q128f1 k k))else bif Nat.beq p 62 then some (.cut [⟨6,48,.box ty_10 false,false⟩,⟨7,64,.box ty_1 false,false⟩,e54,e119] 96)else none,0,[0]⟩
theorem q128K(k:Nat):Contract Tryz.prog 241 (q128V k):=ctr (q128C k) (rs := [(ty_10,true)]) (ps:=q128p) (q128F k) Tryz.f241 48 ⟨tyOf_ok tys_ok,gOf_ok ⟨q110K,q111K,q116K k,q122K k,q123K k,q124K,q127K k,trivial⟩⟩ (annl [122] ⟨lok q128i1 q128o1 0 160 (q128f1 k) k,trivial⟩)

noncomputable def q129V(k:Nat):Variant:=⟨[.ptr .bool true,.val ty_10 true,.val ty_10 true],[(ty_10,true)],fun x=>impl_reckoner_multiply k x.1 x.2.1 x.2.2.1⟩
noncomputable def q129C(k:Nat):Cfg:=⟨Tryz.prog,tyOf tys,51,gOf [(190,[],q116V k),(143,[],q122V k),(114,[],q123V k),(191,[],q127V k)],false,[],[]⟩
def q129p:List PE := [e119,e58,e121]
noncomputable def q129F(k:Nat):F8:=⟨q129C k,rr q129p [(ty_10,true)] Tryz.f136,fun p=>none,0,[0]⟩
theorem q129K(k:Nat):Contract Tryz.prog 136 (q129V k):=ctr (q129C k) (rs := [(ty_10,true)]) (ps:=q129p) (q129F k) Tryz.f136 48 ⟨tyOf_ok tys_ok,gOf_ok ⟨q116K k,q122K k,q123K k,q127K k,trivial⟩⟩ (annl [] trivial)

noncomputable def q130V:Variant:=V64 math_bits_Add64
theorem q130K:Contract Tryz.prog 246 q130V:=contractAdd64 (fn:=Tryz.f246) (by kernel_rfl) (by kernel_rfl) (by kernel_rfl) (by kernel_rfl) (by kernel_rfl)

noncomputable def q131V:Variant:=V64 math_bits_Sub64
theorem q131K:Contract Tryz.prog 247 q131V:=contractSub64 (fn:=Tryz.f247) (by kernel_rfl) (by kernel_rfl) (by kernel_rfl) (by kernel_rfl) (by kernel_rfl)

noncomputable def q132V(k:Nat):Variant:=⟨[.val ty_17 true,.val ty_17 true],[(ty_17,true)],fun x=>impl_wide_add k x.1 x.2.1⟩
noncomputable def q132C(k:Nat):Cfg:=⟨Tryz.prog,tyOf tys,68,gOf [(246,[],q130V),(196,[],q119V k),(247,[],q131V)],false,[],[]⟩
def q132p:List PE := [e116,e120]
noncomputable def q132F(k:Nat):F14:=⟨q132C k,rr q132p [(ty_17,true)] Tryz.f224,fun p=>bif Nat.beq p 14 then some (.cut [⟨2,32,.box ty_17 false,false⟩,⟨3,48,.box ty_17 false,false⟩,⟨4,64,.box ty_17 false,false⟩] 80)else none,0,[]⟩
theorem q132K(k:Nat):Contract Tryz.prog 224 (q132V k):=ctr (q132C k) (rs := [(ty_17,true)]) (ps:=q132p) (q132F k) Tryz.f224 32 ⟨tyOf_ok tys_ok,gOf_ok ⟨q130K,q119K k,q131K,trivial⟩⟩ (annl [] trivial)

noncomputable def q133V(k:Nat):Variant:=⟨[.val ty_1 true,.val ty_1 true],[(ty_1,true),(.bool,false)],fun x=>impl_sumOf k x.1 x.2.1⟩
noncomputable def q133C(k:Nat):Cfg:=⟨Tryz.prog,tyOf tys,33,gOf [(146,[],q103V),(147,[],q105V),(224,[],q132V k),(183,[],q106V k)],false,[],[]⟩
def q133p:List PE := [e34,e41]
noncomputable def q133F(k:Nat):F4:=⟨q133C k,rr q133p [(ty_1,true),(.bool,false)] Tryz.f186,fun p=>none,0,[]⟩
theorem q133K(k:Nat):Contract Tryz.prog 186 (q133V k):=ctr (q133C k) (rs := [(ty_1,true),(.bool,false)]) (ps:=q133p) (q133F k) Tryz.f186 32 ⟨tyOf_ok tys_ok,gOf_ok ⟨q103K,q105K,q132K k,q106K k,trivial⟩⟩ (annl [] trivial)

noncomputable def q134V(k:Nat):Variant:=⟨[.ptr .bool true,.val ty_1 true,.val ty_1 true],[(ty_1,true)],fun x=>impl_reckoner_sum k x.1 x.2.1 x.2.2.1⟩
noncomputable def q134C(k:Nat):Cfg:=⟨Tryz.prog,tyOf tys,14,gOf [(186,[],q133V k),(128,[],q115V)],false,[],[]⟩
def q134p:List PE := [e119,e41,e59]
noncomputable def q134F(k:Nat):F4:=⟨q134C k,rr q134p [(ty_1,true)] Tryz.f131,fun p=>none,0,[0]⟩
theorem q134K(k:Nat):Contract Tryz.prog 131 (q134V k):=ctr (q134C k) (rs := [(ty_1,true)]) (ps:=q134p) (q134F k) Tryz.f131 48 ⟨tyOf_ok tys_ok,gOf_ok ⟨q133K k,q115K,trivial⟩⟩ (annl [] trivial)

noncomputable def q135V(k:Nat):Variant:=⟨[.ptr .bool true,.val ty_10 true,.val ty_10 true],[(ty_10,true)],fun x=>impl_reckoner_add k x.1 x.2.1 x.2.2.1⟩
noncomputable def q135C(k:Nat):Cfg:=⟨Tryz.prog,tyOf tys,20,gOf [(131,[],q134V k)],false,[],[]⟩
def q135p:List PE := [e119,e58,e121]
noncomputable def q135F(k:Nat):F8:=⟨q135C k,rr q135p [(ty_10,true)] Tryz.f135,fun p=>none,0,[0]⟩
theorem q135K(k:Nat):Contract Tryz.prog 135 (q135V k):=ctr (q135C k) (rs := [(ty_10,true)]) (ps:=q135p) (q135F k) Tryz.f135 48 ⟨tyOf_ok tys_ok,gOf_ok ⟨q134K k,trivial⟩⟩ (annl [] trivial)

noncomputable def q136V:Variant:=⟨[.ptr .bool true,.val ty_10 true],[(ty_10,true),(.bool,false)],fun x=>impl_reckoner_result x.1 x.2.1⟩
noncomputable def q136C:Cfg:=⟨Tryz.prog,tyOf tys,13,gOf [],false,[],[]⟩
def q136p:List PE := [e119,e58]
noncomputable def q136F:Fn (((Int×Int)×Int×Int)×Bool×Bool):=⟨q136C,rr q136p [(ty_10,true),(.bool,false)] Tryz.f242,fun p=>none,0,[0]⟩
theorem q136K:Contract Tryz.prog 242 (q136V):=ctr q136C (rs := [(ty_10,true),(.bool,false)]) (ps:=q136p) q136F Tryz.f242 32 ⟨tyOf_ok tys_ok,gOf_ok trivial⟩ (annl [] trivial)

noncomputable def q137V(k:Nat):Variant:=⟨[.val ty_4 false,.val ty_12 false],[(ty_10,true),(.bool,false)],fun x=>impl_valueOver k x.1 x.2.1⟩
noncomputable def q137C(k:Nat):Cfg:=⟨Tryz.prog,tyOf tys,54,gOf [(112,[],q110V),(111,[],q111V),(207,[],q86V),(241,[],q128V k),(136,[],q129V k),(135,[],q135V k),(242,[],q136V)],false,[],[]⟩
def q137i1:List PE := [e60,e52,e122,e123,⟨9,96,.box ty_3 false,false⟩,⟨10,112,.box ty_10 false,false⟩,⟨16,128,.val ty_4 false,false⟩,⟨17,144,.val ty_0 false,false⟩,⟨18,160,.val ty_0 false,false⟩,⟨26,176,.val ty_12 false,false⟩,⟨27,192,.val ty_0 false,false⟩,⟨28,208,.val ty_0 false,false⟩]
def q137o1:List PE := [e60,e52,e122,e123,⟨10,96,.box ty_10 false,false⟩,⟨16,112,.val ty_4 false,false⟩,e88,⟨18,144,.val ty_0 false,false⟩]
noncomputable def q137f1(k:Nat)(n:Nat)(x10:PTe q137i1):=impl_valueOver_L125338 k n x10.1 x10.2.1 x10.2.2.1 x10.2.2.2.1 x10.2.2.2.2.1 x10.2.2.2.2.2.1 x10.2.2.2.2.2.2.1 x10.2.2.2.2.2.2.2.1 x10.2.2.2.2.2.2.2.2.1 x10.2.2.2.2.2.2.2.2.2.1 x10.2.2.2.2.2.2.2.2.2.2.1 x10.2.2.2.2.2.2.2.2.2.2.2.1
def q137i2:List PE := [e60,e52,e122,e123,⟨16,96,.val ty_4 false,false⟩,e105,⟨18,128,.val ty_0 false,false⟩]
def q137o2:List PE := [e51,⟨6,48,.box .bool false,false⟩,⟨7,64,.box ty_10 false,false⟩]
noncomputable def q137f2(k:Nat)(n:Nat)(x14:PTe q137i2):=impl_valueOver_L122 k n x14.1 x14.2.1 x14.2.2.1 x14.2.2.2.1 x14.2.2.2.2.1 x14.2.2.2.2.2.1 x14.2.2.2.2.2.2.1
def q137p:List PE := [e1,e63]
noncomputable def q137F(k:Nat):F8:=⟨q137C k,rr q137p [(ty_10,true),(.bool,false)] Tryz.f216,fun p=>bif Nat.beq p 125338 then some (.loop q137i1 q137o1 2 224 (q137f1 k k))else bif Nat.beq p 122 then some (.loop q137i2 q137o2 0 144 (q137f2 k k))else none,0,[]⟩
theorem q137K(k:Nat):Contract Tryz.prog 216 (q137V k):=ctr (q137C k) (rs := [(ty_10,true),(.bool,false)]) (ps:=q137p) (q137F k) Tryz.f216 32 ⟨tyOf_ok tys_ok,gOf_ok ⟨q110K,q111K,q86K,q128K k,q129K k,q135K k,q136K,trivial⟩⟩ (annl [122,125338] ⟨lok q137i2 q137o2 0 144 (q137f2 k) k,lok q137i1 q137o1 2 224 (q137f1 k) k,trivial⟩)

noncomputable def q138V(k:Nat):Variant:=⟨[.val ty_4 false,.ptr ty_9 false],[(ty_12,false),(.bool,false)],fun x=>impl_gradientOver k x.1 x.2.1⟩
noncomputable def q138C(k:Nat):Cfg:=⟨Tryz.prog,tyOf tys,35,gOf [(217,[],q101V k),(87,[],q109V k),(216,[],q137V k)],false,[],[]⟩
def q138i1:List PE := [e12,⟨1,48,.ptr ty_9 false,false⟩,⟨6,64,.eat ty_10,false⟩,e49,e50]
def q138o1:List PE := [e64]
noncomputable def q138f1(k:Nat)(n:Nat)(x4:PTe q138i1):=impl_gradientOver_L58 k n x4.1 x4.2.1 x4.2.2.1 x4.2.2.2.1 x4.2.2.2.2.1
def q138p:List PE := [e1,e108]
noncomputable def q138F(k:Nat):F9:=⟨q138C k,rr q138p [(ty_12,false),(.bool,false)] Tryz.f173,fun p=>bif Nat.beq p 58 then some (.loop q138i1 q138o1 0 112 (q138f1 k k))else none,0,[]⟩
theorem q138K(k:Nat):Contract Tryz.prog 173 (q138V k):=ctr (q138C k) (rs := [(ty_12,false),(.bool,false)]) (ps:=q138p) (q138F k) Tryz.f173 32 ⟨tyOf_ok tys_ok,gOf_ok ⟨q101K k,q109K k,q137K k,trivial⟩⟩ (annl [58] ⟨lok q138i1 q138o1 0 112 (q138f1 k) k,trivial⟩)

noncomputable def q139V(k:Nat):Variant:=⟨[.val ty_5 false,.ptr ty_9 false],[(ty_13,false),(.bool,false)],fun x=>impl_jacobianOver k x.1 x.2.1⟩
noncomputable def q139C(k:Nat):Cfg:=⟨Tryz.prog,tyOf tys,31,gOf [(173,[],q138V k)],false,[],[]⟩
def q139i1:List PE := [⟨1,32,.ptr ty_9 false,false⟩,e65,⟨11,64,.val ty_5 false,false⟩,e66,e67]
def q139o1:List PE := [e68]
noncomputable def q139f1(k:Nat)(n:Nat)(x2:PTe q139i1):=impl_jacobianOver_L58 k n x2.1 x2.2.1 x2.2.2.1 x2.2.2.2.1 x2.2.2.2.2.1
def q139p:List PE := [e7,e108]
noncomputable def q139F(k:Nat):F10:=⟨q139C k,rr q139p [(ty_13,false),(.bool,false)] Tryz.f109,fun p=>bif Nat.beq p 58 then some (.loop q139i1 q139o1 0 112 (q139f1 k k))else none,0,[]⟩
theorem q139K(k:Nat):Contract Tryz.prog 109 (q139V k):=ctr (q139C k) (rs := [(ty_13,false),(.bool,false)]) (ps:=q139p) (q139F k) Tryz.f109 32 ⟨tyOf_ok tys_ok,gOf_ok ⟨q138K k,trivial⟩⟩ (annl [58] ⟨lok q139i1 q139o1 0 112 (q139f1 k) k,trivial⟩)

noncomputable def q140V(k:Nat):Variant:=⟨[.val ty_1 true,.val ty_1 true],[(ty_1,true),(.bool,false)],fun x=>impl_middleOf k x.1 x.2.1⟩
noncomputable def q140C(k:Nat):Cfg:=⟨Tryz.prog,tyOf tys,34,gOf [(146,[],q103V),(147,[],q105V),(224,[],q132V k),(183,[],q106V k)],false,[],[]⟩
def q140p:List PE := [e34,e41]
noncomputable def q140F(k:Nat):F4:=⟨q140C k,rr q140p [(ty_1,true),(.bool,false)] Tryz.f212,fun p=>none,0,[]⟩
theorem q140K(k:Nat):Contract Tryz.prog 212 (q140V k):=ctr (q140C k) (rs := [(ty_1,true),(.bool,false)]) (ps:=q140p) (q140F k) Tryz.f212 32 ⟨tyOf_ok tys_ok,gOf_ok ⟨q103K,q105K,q132K k,q106K k,trivial⟩⟩ (annl [] trivial)

noncomputable def q141V(k:Nat):Variant:=⟨[.val ty_5 false,.ptr ty_9 false],[(ty_14,false),(.bool,false)],fun x=>impl_middleJacobian k x.1 x.2.1⟩
noncomputable def q141C(k:Nat):Cfg:=⟨Tryz.prog,tyOf tys,61,gOf [(109,[],q139V k),(212,[],q140V k),(128,[],q115V)],false,[],[]⟩
def q141i1:List PE := [e124,e125,⟨12,64,.eat ty_1,false⟩,e100,e74,e101,⟨31,128,.val ty_12 false,false⟩,e91,⟨33,160,.val ty_0 false,false⟩]
def q141o1:List PE := [e124,e125,⟨12,64,.eat ty_1,false⟩,e100,e74,e101]
noncomputable def q141f1(k:Nat)(n:Nat)(x4:PTe q141i1):=impl_middleJacobian_L518554 k n x4.1 x4.2.1 x4.2.2.1 x4.2.2.2.1 x4.2.2.2.2.1 x4.2.2.2.2.2.1 x4.2.2.2.2.2.2.1 x4.2.2.2.2.2.2.2.1 x4.2.2.2.2.2.2.2.2.1
def q141i2:List PE := [e124,e125,⟨25,64,.val ty_13 false,false⟩,⟨26,80,.val ty_0 false,false⟩,⟨27,96,.val ty_0 false,false⟩]
def q141o2:List PE := [e124,e125]
noncomputable def q141f2(k:Nat)(n:Nat)(x7:PTe q141i2):=impl_middleJacobian_L506 k n x7.1 x7.2.1 x7.2.2.1 x7.2.2.2.1 x7.2.2.2.2.1
def q141p:List PE := [e7,e108]
noncomputable def q141F(k:Nat):F11:=⟨q141C k,rr q141p [(ty_14,false),(.bool,false)] Tryz.f171,fun p=>bif Nat.beq p 518554 then some (.loop q141i1 q141o1 2 176 (q141f1 k k))else bif Nat.beq p 506 then some (.loop q141i2 q141o2 0 112 (q141f2 k k))else none,0,[]⟩
theorem q141K(k:Nat):Contract Tryz.prog 171 (q141V k):=ctr (q141C k) (rs := [(ty_14,false),(.bool,false)]) (ps:=q141p) (q141F k) Tryz.f171 32 ⟨tyOf_ok tys_ok,gOf_ok ⟨q139K k,q140K k,q115K,trivial⟩⟩ (annl [506,518554] ⟨lok q141i2 q141o2 0 112 (q141f2 k) k,lok q141i1 q141o1 2 176 (q141f1 k) k,trivial⟩)

noncomputable def q142V:Variant:=⟨[.lit (.slice none 0 0),.val ty_0 false],[(ty_11,false)],fun x=>slices_Grow_Dyadic_Dyadic x.1 x.2.1⟩
noncomputable def q142C:Cfg:=⟨Tryz.prog,tyOf tys,27,gOf [],true,[],[]⟩
def q142p:List PE := [⟨0,0,.lit (.slice none 0 0),false⟩,e2]
noncomputable def q142F:F12:=⟨q142C,rr q142p [(ty_11,false)] Tryz.f263,fun p=>none,0,[]⟩
theorem q142K:Contract Tryz.prog 263 (q142V):=ctr q142C (rs := [(ty_11,false)]) (ps:=q142p) q142F Tryz.f263 32 ⟨tyOf_ok tys_ok,gOf_ok trivial⟩ (annl [] trivial)

noncomputable def q143V(k:Nat):Variant:=⟨[.val ty_14 false],[(ty_11,false)],fun x=>slices_Concat_Dyadic_Dyadic k x.1⟩
noncomputable def q143C(k:Nat):Cfg:=⟨Tryz.prog,tyOf tys,36,gOf [(263,[],q142V)],false,[],[]⟩
def q143i1:List PE := [e72,e32,⟨9,48,.val ty_14 false,false⟩,e104,e37]
def q143o1:List PE := [e72,e32]
noncomputable def q143f1(k:Nat)(n:Nat)(x1:PTe q143i1):=slices_Concat_Dyadic_Dyadic_L58 k n x1.1 x1.2.1 x1.2.2.1 x1.2.2.2.1 x1.2.2.2.2.1
def q143i2:List PE := [⟨6,16,.eat ty_1,false⟩,⟨25,32,.val ty_14 false,false⟩,⟨26,48,.val ty_0 false,false⟩,⟨27,64,.val ty_0 false,false⟩]
def q143o2:List PE := [⟨6,16,.eat ty_1,false⟩]
noncomputable def q143f2(k:Nat)(n:Nat)(x5:PTe q143i2):=slices_Concat_Dyadic_Dyadic_L250 k n x5.1 x5.2.1 x5.2.2.1 x5.2.2.2.1
def q143p:List PE := [e71]
noncomputable def q143F(k:Nat):F12:=⟨q143C k,rr q143p [(ty_11,false)] Tryz.f255,fun p=>bif Nat.beq p 58 then some (.loop q143i1 q143o1 0 96 (q143f1 k k))else bif Nat.beq p 250 then some (.loop q143i2 q143o2 2 80 (q143f2 k k))else none,0,[]⟩
theorem q143K(k:Nat):Contract Tryz.prog 255 (q143V k):=ctr (q143C k) (rs := [(ty_11,false)]) (ps:=q143p) (q143F k) Tryz.f255 16 ⟨tyOf_ok tys_ok,gOf_ok ⟨q142K,trivial⟩⟩ (annl [58,250] ⟨lok q143i1 q143o1 0 96 (q143f1 k) k,lok q143i2 q143o2 2 80 (q143f2 k) k,trivial⟩)

noncomputable def q144V(k:Nat):Variant:=⟨[.val ty_14 false,.val ty_0 false,.val ty_0 false],[(ty_14,false)],fun x=>impl_part_Dyadic k x.1 x.2.1 x.2.2.1⟩
noncomputable def q144C(k:Nat):Cfg:=⟨Tryz.prog,tyOf tys,34,gOf [(255,[],q143V k)],false,[],[28]⟩
def q144i1:List PE := [e4,⟨2,64,.val ty_0 false,false⟩,⟨7,80,.eat ty_11,false⟩,⟨10,96,.val ty_14 false,false⟩,⟨11,112,.val ty_0 false,false⟩,⟨12,128,.val ty_0 false,false⟩]
def q144o1:List PE := [⟨7,48,.eat ty_11,false⟩]
noncomputable def q144f1(k:Nat)(n:Nat)(x2:PTe q144i1):=impl_part_Dyadic_L58 k n x2.1 x2.2.1 x2.2.2.1 x2.2.2.2.1 x2.2.2.2.2.1 x2.2.2.2.2.2.1
def q144p:List PE := [e71,e2,e21]
noncomputable def q144F(k:Nat):Fn (List (List (Int×Int))):=⟨q144C k,rr q144p [(ty_14,false)] Tryz.f239,fun p=>bif Nat.beq p 58 then some (.loop q144i1 q144o1 0 144 (q144f1 k k))else none,0,[]⟩
theorem q144K(k:Nat):Contract Tryz.prog 239 (q144V k):=ctr (q144C k) (rs := [(ty_14,false)]) (ps:=q144p) (q144F k) Tryz.f239 48 ⟨tyOf_ok tys_ok,gOf_ok ⟨q143K k,trivial⟩⟩ (annl [58] ⟨lok q144i1 q144o1 0 144 (q144f1 k) k,trivial⟩)

noncomputable def q145V(k:Nat):Variant:=⟨[.ptr .bool true,.val ty_11 false],[(ty_1,true)],fun x=>impl_reckoner_total k x.1 x.2.1⟩
noncomputable def q145C(k:Nat):Cfg:=⟨Tryz.prog,tyOf tys,24,gOf [(131,[],q134V k)],false,[],[]⟩
def q145i1:List PE := [e119,e42,e48,⟨12,64,.val ty_11 false,false⟩,⟨13,80,.val ty_0 false,false⟩,⟨14,96,.val ty_0 false,false⟩]
def q145o1:List PE := [e42,e48,e119]
noncomputable def q145f1(k:Nat)(n:Nat)(x2:PTe q145i1):=impl_reckoner_total_L58 k n x2.1 x2.2.1 x2.2.2.1 x2.2.2.2.1 x2.2.2.2.2.1 x2.2.2.2.2.2.1
def q145p:List PE := [e119,e93]
noncomputable def q145F(k:Nat):F4:=⟨q145C k,rr q145p [(ty_1,true)] Tryz.f116,fun p=>bif Nat.beq p 58 then some (.loop q145i1 q145o1 0 112 (q145f1 k k))else none,0,[0]⟩
theorem q145K(k:Nat):Contract Tryz.prog 116 (q145V k):=ctr (q145C k) (rs := [(ty_1,true)]) (ps:=q145p) (q145F k) Tryz.f116 32 ⟨tyOf_ok tys_ok,gOf_ok ⟨q134K k,trivial⟩⟩ (annl [58] ⟨lok q145i1 q145o1 0 112 (q145f1 k) k,trivial⟩)

noncomputable def q146V(k:Nat):Variant:=⟨[.ptr .bool true,.val ty_14 false],[(ty_1,true)],fun x=>impl_reckoner_determinant k x.1 x.2.1⟩
noncomputable def q146W(rc:Bool→(List (List (Int×Int)))→Option ((Int×Int)×Bool)):Variant:=⟨[.ptr .bool true,.val ty_14 false],[(ty_1,true)],fun x=>rc x.1 x.2.1⟩
noncomputable def q146C(k:Nat)(rc:Bool→(List (List (Int×Int)))→Option ((Int×Int)×Bool)):Cfg:=⟨Tryz.prog,tyOf tys,47,gOf [(239,[],q144V k),(213,[],q146W rc),(190,[],q116V k),(115,[],q126V),(116,[],q145V k)],false,[],[]⟩
def q146i1:List PE := [e119,⟨1,32,.val ty_14 false,false⟩,e73,⟨5,64,.eat ty_1,false⟩,⟨19,80,.val ty_11 false,false⟩,e84,e62]
def q146o1:List PE := [e119,e42,⟨5,48,.eat ty_1,false⟩]
noncomputable def q146f1(k:Nat)(rc:Bool→(List (List (Int×Int)))→Option ((Int×Int)×Bool))(n:Nat)(x7:PTe q146i1):=impl_reckoner_determinant_L122 k rc n x7.1 x7.2.1 x7.2.2.1 x7.2.2.2.1 x7.2.2.2.2.1 x7.2.2.2.2.2.1 x7.2.2.2.2.2.2.1
def q146p:List PE := [e119,⟨1,16,.val ty_14 false,false⟩]
noncomputable def q146F(k:Nat)(rc:Bool→(List (List (Int×Int)))→Option ((Int×Int)×Bool)):F4:=⟨q146C k rc,rr q146p [(ty_1,true)] Tryz.f213,fun p=>bif Nat.beq p 31334 then some (.cut [e119,⟨1,32,.val ty_14 false,false⟩,e73,⟨5,64,.eat ty_1,false⟩,e54,⟨19,96,.val ty_11 false,false⟩,e98,⟨21,128,.val ty_0 false,false⟩] 144)else bif Nat.beq p 122 then some (.loop q146i1 q146o1 0 128 (q146f1 k rc k))else none,0,[0]⟩
theorem q146KB(k:Nat)(rc:Bool→(List (List (Int×Int)))→Option ((Int×Int)×Bool))(hrc:Contract Tryz.prog 213 (q146W rc)):Contract Tryz.prog 213 (q146W (impl_reckoner_determinant_B k rc)):=ctr (q146C k rc) (rs := [(ty_1,true)]) (ps:=q146p) (q146F k rc) Tryz.f213 32 ⟨tyOf_ok tys_ok,gOf_ok ⟨q144K k,hrc,q116K k,q126K,q145K k,trivial⟩⟩ (annl [122] ⟨lok q146i1 q146o1 0 128 (q146f1 k rc) k,trivial⟩)
theorem q146KR(k:Nat):∀n,Contract Tryz.prog 213 (q146W (impl_reckoner_determinant_R k n))
 | 0=>contract_none fun _=>rfl
 | n+1=>q146KB k _ (q146KR k n)
theorem q146K(k:Nat):Contract Tryz.prog 213 (q146V k):=q146KR k k

noncomputable def q147V(k:Nat):Variant:=⟨[.val ty_14 false],[(ty_14,false),(.bool,false)],fun x=>impl_adjoint k x.1⟩
noncomputable def q147C(k:Nat):Cfg:=⟨Tryz.prog,tyOf tys,57,gOf [(112,[],q110V),(239,[],q144V k),(213,[],q146V k),(115,[],q126V)],false,[],[]⟩
def q147i1:List PE := [e72,e126,e127,e14,⟨7,80,.eat ty_1,false⟩,⟨19,96,.val ty_0 false,false⟩,e98,⟨24,128,.val ty_0 false,false⟩,⟨25,144,.val ty_0 false,false⟩]
def q147o1:List PE := [e72,e126,e127,e128,⟨19,80,.val ty_0 false,false⟩,e84]
noncomputable def q147f1(k:Nat)(n:Nat)(x7:PTe q147i1):=impl_adjoint_L256410 k n x7.1 x7.2.1 x7.2.2.1 x7.2.2.2.1 x7.2.2.2.2.1 x7.2.2.2.2.2.1 x7.2.2.2.2.2.2.1 x7.2.2.2.2.2.2.2.1 x7.2.2.2.2.2.2.2.2.1
def q147i2:List PE := [e72,e126,e127,⟨19,64,.val ty_0 false,false⟩,⟨20,80,.val ty_0 false,false⟩]
def q147o2:List PE := [⟨4,16,.box .bool false,false⟩,⟨5,32,.eat ty_11,false⟩]
noncomputable def q147f2(k:Nat)(n:Nat)(x10:PTe q147i2):=impl_adjoint_L250 k n x10.1 x10.2.1 x10.2.2.1 x10.2.2.2.1 x10.2.2.2.2.1
def q147p:List PE := [e71]
noncomputable def q147F(k:Nat):F11:=⟨q147C k,rr q147p [(ty_14,false),(.bool,false)] Tryz.f214,fun p=>bif Nat.beq p 65641062 then some (.cut [e72,e126,e127,e14,⟨7,80,.eat ty_1,false⟩,⟨9,96,.box ty_1 false,false⟩,e56,e70,⟨24,144,.val ty_0 false,false⟩,⟨25,160,.val ty_0 false,false⟩] 176)else bif Nat.beq p 256410 then some (.loop q147i1 q147o1 2 160 (q147f1 k k))else bif Nat.beq p 250 then some (.loop q147i2 q147o2 0 96 (q147f2 k k))else none,0,[]⟩
theorem q147K(k:Nat):Contract Tryz.prog 214 (q147V k):=ctr (q147C k) (rs := [(ty_14,false),(.bool,false)]) (ps:=q147p) (q147F k) Tryz.f214 16 ⟨tyOf_ok tys_ok,gOf_ok ⟨q110K,q144K k,q146K k,q126K,trivial⟩⟩ (annl [250,256410] ⟨lok q147i2 q147o2 0 96 (q147f2 k) k,lok q147i1 q147o1 2 160 (q147f1 k) k,trivial⟩)

noncomputable def q148V:Variant:=⟨[.val ty_15 false],[(ty_0,false)],fun x=>math_bits_Len64 x.1⟩
noncomputable def q148C:Cfg:=⟨Tryz.prog,tyOf tys,25,gOf [],false,[],[]⟩
def q148p:List PE := [e117]
noncomputable def q148F:F1:=⟨q148C,rr q148p [(ty_0,false)] Tryz.f264,fun p=>bif Nat.beq p 30 then some (.cut [e129,e21] 48)else bif Nat.beq p 14 then some (.cut [e129,e21] 48)else bif Nat.beq p 6 then some (.cut [e129,e21] 48)else none,0,[]⟩
theorem q148K:Contract Tryz.prog 264 (q148V):=ctr q148C (rs := [(ty_0,false)]) (ps:=q148p) q148F Tryz.f264 16 ⟨tyOf_ok tys_ok,gOf_ok trivial⟩ (annl [] trivial)

noncomputable def q149V:Variant:=⟨[.val ty_15 false],[(ty_0,false)],fun x=>math_bits_LeadingZeros64 x.1⟩
noncomputable def q149C:Cfg:=⟨Tryz.prog,tyOf tys,6,gOf [(264,[],q148V)],false,[],[]⟩
def q149p:List PE := [e117]
noncomputable def q149F:F1:=⟨q149C,rr q149p [(ty_0,false)] Tryz.f256,fun p=>none,0,[]⟩
theorem q149K:Contract Tryz.prog 256 (q149V):=ctr q149C (rs := [(ty_0,false)]) (ps:=q149p) q149F Tryz.f256 16 ⟨tyOf_ok tys_ok,gOf_ok ⟨q148K,trivial⟩⟩ (annl [] trivial)

noncomputable def q150V(k:Nat):Variant:=⟨[.val ty_15 false,.val ty_15 false,.val ty_15 false],[(ty_15,false),(ty_15,false)],fun x=>math_bits_Div64 k x.1 x.2.1 x.2.2.1⟩
noncomputable def q150C(k:Nat):Cfg:=⟨Tryz.prog,tyOf tys,135,gOf [(256,[],q149V)],false,[],[]⟩
def q150i1:List PE := [e130,e131,e132,e133,⟨11,112,.val ty_15 false,false⟩,⟨13,128,.val ty_15 false,false⟩,⟨14,144,.val ty_15 false,false⟩,⟨15,160,.val ty_15 false,false⟩,⟨16,176,.val ty_15 false,false⟩]
def q150o1:List PE := [e130,e131,e132,e133,⟨11,112,.val ty_15 false,false⟩,⟨13,128,.val ty_15 false,false⟩,⟨14,144,.val ty_15 false,false⟩,⟨15,160,.val ty_15 false,false⟩]
noncomputable def q150f1(k:Nat)(n:Nat)(x2:PTe q150i1):=math_bits_Div64_L131068 k n x2.1 x2.2.1 x2.2.2.1 x2.2.2.2.1 x2.2.2.2.2.1 x2.2.2.2.2.2.1 x2.2.2.2.2.2.2.1 x2.2.2.2.2.2.2.2.1 x2.2.2.2.2.2.2.2.2.1
def q150i2:List PE := [e130,e131,e132,e133,⟨14,112,.val ty_15 false,false⟩,⟨15,128,.val ty_15 false,false⟩,⟨16,144,.val ty_15 false,false⟩,⟨17,160,.val ty_15 false,false⟩,⟨18,176,.val ty_15 false,false⟩]
def q150o2:List PE := [e130,e131,⟨14,80,.val ty_15 false,false⟩,⟨15,96,.val ty_15 false,false⟩,⟨17,112,.val ty_15 false,false⟩,⟨18,128,.val ty_15 false,false⟩]
noncomputable def q150f2(k:Nat)(n:Nat)(x5:PTe q150i2):=math_bits_Div64_L2097148 k n x5.1 x5.2.1 x5.2.2.1 x5.2.2.2.1 x5.2.2.2.2.1 x5.2.2.2.2.2.1 x5.2.2.2.2.2.2.1 x5.2.2.2.2.2.2.2.1 x5.2.2.2.2.2.2.2.2.1
def q150p:List PE := [e117,e118,⟨2,32,.val ty_15 false,false⟩]
noncomputable def q150F(k:Nat):F5:=⟨q150C k,rr q150p [(ty_15,false),(ty_15,false)] Tryz.f240,fun p=>bif Nat.beq p 131068 then some (.loop q150i1 q150o1 0 192 (q150f1 k k))else bif Nat.beq p 2097148 then some (.loop q150i2 q150o2 2 192 (q150f2 k k))else none,0,[]⟩
theorem q150K(k:Nat):Contract Tryz.prog 240 (q150V k):=ctr (q150C k) (rs := [(ty_15,false),(ty_15,false)]) (ps:=q150p) (q150F k) Tryz.f240 48 ⟨tyOf_ok tys_ok,gOf_ok ⟨q149K,trivial⟩⟩ (annl [131068,2097148] ⟨lok q150i1 q150o1 0 192 (q150f1 k) k,lok q150i2 q150o2 2 192 (q150f2 k) k,trivial⟩)

noncomputable def q151V(k:Nat):Variant:=⟨[.val ty_0 false,.val ty_0 false,.val ty_0 false,.val ty_0 false],[(ty_1,true),(.bool,false)],fun x=>impl_quotientDown k x.1 x.2.1 x.2.2.1 x.2.2.2.1⟩
noncomputable def q151C(k:Nat):Cfg:=⟨Tryz.prog,tyOf tys,88,gOf [(146,[],q103V),(147,[],q105V),(197,[],q102V),(240,[],q150V k),(196,[],q119V k),(224,[],q132V k),(183,[],q106V k)],false,[],[]⟩
def q151p:List PE := [e10,e2,e21,⟨3,48,.val ty_0 false,false⟩]
noncomputable def q151F(k:Nat):F4:=⟨q151C k,rr q151p [(ty_1,true),(.bool,false)] Tryz.f215,fun p=>bif Nat.beq p 1022 then some (.cut [⟨3,64,.val ty_0 false,false⟩,e54,⟨16,96,.box ty_17 false,false⟩] 112)else bif Nat.beq p 1022 then some (.cut [⟨3,64,.val ty_0 false,false⟩,e54,⟨16,96,.box ty_17 false,false⟩] 112)else none,0,[]⟩
theorem q151K(k:Nat):Contract Tryz.prog 215 (q151V k):=ctr (q151C k) (rs := [(ty_1,true),(.bool,false)]) (ps:=q151p) (q151F k) Tryz.f215 64 ⟨tyOf_ok tys_ok,gOf_ok ⟨q103K,q105K,q102K,q150K k,q119K k,q132K k,q106K k,trivial⟩⟩ (annl [] trivial)

noncomputable def q152V(k:Nat):Variant:=⟨[.val ty_14 false,.val ty_0 false],[(ty_14,false),(.bool,false)],fun x=>impl_roundedInverse k x.1 x.2.1⟩
noncomputable def q152C(k:Nat):Cfg:=⟨Tryz.prog,tyOf tys,77,gOf [(213,[],q146V k),(214,[],q147V k),(215,[],q151V k),(128,[],q115V)],false,[11,44,51],[]⟩
def q152i1:List PE := [⟨38,48,.same 8,false⟩,⟨44,64,.same 11,false⟩,⟨11,32,.vw 8,false⟩,⟨1,80,.val ty_0 false,false⟩,⟨6,96,.box .bool false,false⟩,⟨7,112,.box ty_1 false,false⟩,⟨8,128,.eat ty_11,false⟩,⟨39,144,.val ty_0 false,false⟩,⟨40,160,.val ty_0 false,false⟩,e134,⟨46,192,.val ty_0 false,false⟩]
def q152o1:List PE := [⟨38,32,.same 8,false⟩,e4,e122,⟨7,80,.box ty_1 false,false⟩,⟨8,96,.eat ty_11,false⟩,⟨39,112,.val ty_0 false,false⟩,⟨40,128,.val ty_0 false,false⟩]
noncomputable def q152f1(k:Nat)(n:Nat)(x5:PTe q152i1):=impl_roundedInverse_L129638 k n x5.1 x5.2.1 x5.2.2.1 x5.2.2.2.1 x5.2.2.2.2.1 x5.2.2.2.2.2.1 x5.2.2.2.2.2.2.1 x5.2.2.2.2.2.2.2.1 x5.2.2.2.2.2.2.2.2.1 x5.2.2.2.2.2.2.2.2.2.1 x5.2.2.2.2.2.2.2.2.2.2.1
def q152i2:List PE := [⟨38,32,.same 8,false⟩,e4,e122,⟨7,80,.box ty_1 false,false⟩,⟨8,96,.eat ty_11,false⟩,⟨39,112,.val ty_0 false,false⟩,⟨40,128,.val ty_0 false,false⟩]
def q152o2:List PE := [e135,⟨8,48,.eat ty_11,false⟩]
noncomputable def q152f2(k:Nat)(n:Nat)(x8:PTe q152i2):=impl_roundedInverse_L506 k n x8.1 x8.2.1 x8.2.2.1 x8.2.2.2.1 x8.2.2.2.2.1 x8.2.2.2.2.2.1 x8.2.2.2.2.2.2.1
def q152p:List PE := [e71,e2]
noncomputable def q152F(k:Nat):F11:=⟨q152C k,rr q152p [(ty_14,false),(.bool,false)] Tryz.f172,fun p=>bif Nat.beq p 129638 then some (.loop q152i1 q152o1 2 208 (q152f1 k k))else bif Nat.beq p 506 then some (.loop q152i2 q152o2 0 144 (q152f2 k k))else none,0,[]⟩
theorem q152K(k:Nat):Contract Tryz.prog 172 (q152V k):=ctr (q152C k) (rs := [(ty_14,false),(.bool,false)]) (ps:=q152p) (q152F k) Tryz.f172 32 ⟨tyOf_ok tys_ok,gOf_ok ⟨q146K k,q147K k,q151K k,q115K,trivial⟩⟩ (annl [506,129638] ⟨lok q152i2 q152o2 0 144 (q152f2 k) k,lok q152i1 q152o1 2 208 (q152f1 k) k,trivial⟩)

noncomputable def q153V(k:Nat):Variant:=⟨[.val ty_5 false,.ptr ty_9 false],[(ty_14,false),(.bool,false)],fun x=>impl_inverseJacobian k x.1 x.2.1⟩
noncomputable def q153C(k:Nat):Cfg:=⟨Tryz.prog,tyOf tys,20,gOf [(171,[],q141V k),(172,[],q152V k)],false,[],[]⟩
def q153p:List PE := [e7,e108]
noncomputable def q153F(k:Nat):F11:=⟨q153C k,rr q153p [(ty_14,false),(.bool,false)] Tryz.f108,fun p=>none,0,[]⟩
theorem q153K(k:Nat):Contract Tryz.prog 108 (q153V k):=ctr (q153C k) (rs := [(ty_14,false),(.bool,false)]) (ps:=q153p) (q153F k) Tryz.f108 32 ⟨tyOf_ok tys_ok,gOf_ok ⟨q141K k,q152K k,trivial⟩⟩ (annl [] trivial)

noncomputable def q154V(k:Nat):Variant:=⟨[.ptr ty_9 false],[(ty_11,false)],fun x=>impl_Box_middle k x.1⟩
noncomputable def q154C(k:Nat):Cfg:=⟨Tryz.prog,tyOf tys,46,gOf [(146,[],q103V),(183,[],q106V k)],false,[],[]⟩
def q154i1:List PE := [e106,⟨3,32,.eat ty_1,false⟩,⟨11,48,.val ty_0 false,false⟩,⟨12,64,.val ty_0 false,false⟩]
def q154o1:List PE := [⟨3,16,.eat ty_1,false⟩]
noncomputable def q154f1(k:Nat)(n:Nat)(x3:PTe q154i1):=impl_Box_middle_L58 k n x3.1 x3.2.1 x3.2.2.1 x3.2.2.2.1
def q154p:List PE := [e107]
noncomputable def q154F(k:Nat):F12:=⟨q154C k,rr q154p [(ty_11,false)] Tryz.f127,fun p=>bif Nat.beq p 58 then some (.loop q154i1 q154o1 0 80 (q154f1 k k))else none,0,[]⟩
theorem q154K(k:Nat):Contract Tryz.prog 127 (q154V k):=ctr (q154C k) (rs := [(ty_11,false)]) (ps:=q154p) (q154F k) Tryz.f127 16 ⟨tyOf_ok tys_ok,gOf_ok ⟨q103K,q106K k,trivial⟩⟩ (annl [58] ⟨lok q154i1 q154o1 0 80 (q154f1 k) k,trivial⟩)

noncomputable def q155V(k:Nat):Variant:=⟨[.val ty_4 false,.val ty_11 false],[(ty_0,false)],fun x=>impl_scaledAt k x.1 x.2.1⟩
noncomputable def q155C(k:Nat):Cfg:=⟨Tryz.prog,tyOf tys,54,gOf [(223,[],q79V),(207,[],q86V)],false,[],[]⟩
def q155i1:List PE := [e85,e25,e30,e26,⟨11,96,.val ty_4 false,false⟩,⟨12,112,.val ty_0 false,false⟩,⟨13,128,.val ty_0 false,false⟩,⟨25,144,.val ty_2 true,false⟩,⟨26,160,.val ty_0 false,false⟩,⟨30,176,.val ty_0 false,false⟩,⟨31,192,.val ty_0 false,false⟩]
def q155o1:List PE := [e85,e25,e30,e136,e38,e137,⟨25,128,.val ty_2 true,false⟩,⟨26,144,.val ty_0 false,false⟩]
noncomputable def q155f1(k:Nat)(n:Nat)(x3:PTe q155i1):=impl_scaledAt_L15309414 k n x3.1 x3.2.1 x3.2.2.1 x3.2.2.2.1 x3.2.2.2.2.1 x3.2.2.2.2.2.1 x3.2.2.2.2.2.2.1 x3.2.2.2.2.2.2.2.1 x3.2.2.2.2.2.2.2.2.1 x3.2.2.2.2.2.2.2.2.2.1 x3.2.2.2.2.2.2.2.2.2.2.1
def q155i2:List PE := [e85,e25,e30,e136,e38,e137,⟨25,128,.val ty_2 true,false⟩,⟨26,144,.val ty_0 false,false⟩]
def q155o2:List PE := [e85,e25,e30,e136,e38,e137]
noncomputable def q155f2(k:Nat)(n:Nat)(x12:PTe q155i2):=impl_scaledAt_L59802 k n x12.1 x12.2.1 x12.2.2.1 x12.2.2.2.1 x12.2.2.2.2.1 x12.2.2.2.2.2.1 x12.2.2.2.2.2.2.1 x12.2.2.2.2.2.2.2.1
def q155i3:List PE := [e85,e25,⟨11,64,.val ty_4 false,false⟩,e66,e67]
def q155o3:List PE := [⟨5,32,.val ty_0 false,false⟩]
noncomputable def q155f3(k:Nat)(n:Nat)(x15:PTe q155i3):=impl_scaledAt_L58 k n x15.1 x15.2.1 x15.2.2.1 x15.2.2.2.1 x15.2.2.2.2.1
def q155p:List PE := [e1,e93]
noncomputable def q155F(k:Nat):F1:=⟨q155C k,rr q155p [(ty_0,false)] Tryz.f184,fun p=>bif Nat.beq p 15309414 then some (.loop q155i1 q155o1 4 208 (q155f1 k k))else bif Nat.beq p 59802 then some (.loop q155i2 q155o2 2 160 (q155f2 k k))else bif Nat.beq p 58 then some (.loop q155i3 q155o3 0 112 (q155f3 k k))else none,0,[]⟩
theorem q155K(k:Nat):Contract Tryz.prog 184 (q155V k):=ctr (q155C k) (rs := [(ty_0,false)]) (ps:=q155p) (q155F k) Tryz.f184 32 ⟨tyOf_ok tys_ok,gOf_ok ⟨q79K,q86K,trivial⟩⟩ (annl [58,59802,15309414] ⟨lok q155i3 q155o3 0 112 (q155f3 k) k,lok q155i2 q155o2 2 160 (q155f2 k) k,lok q155i1 q155o1 4 208 (q155f1 k) k,trivial⟩)

noncomputable def q156V(k:Nat):Variant:=⟨[.val ty_4 false,.val ty_11 false],[(ty_1,true),(.bool,false)],fun x=>impl_valueAt k x.1 x.2.1⟩
noncomputable def q156C(k:Nat):Cfg:=⟨Tryz.prog,tyOf tys,13,gOf [(184,[],q155V k),(146,[],q103V),(183,[],q106V k)],false,[],[]⟩
def q156p:List PE := [e1,e93]
noncomputable def q156F(k:Nat):F4:=⟨q156C k,rr q156p [(ty_1,true),(.bool,false)] Tryz.f129,fun p=>none,0,[]⟩
theorem q156K(k:Nat):Contract Tryz.prog 129 (q156V k):=ctr (q156C k) (rs := [(ty_1,true),(.bool,false)]) (ps:=q156p) (q156F k) Tryz.f129 32 ⟨tyOf_ok tys_ok,gOf_ok ⟨q155K k,q103K,q106K k,trivial⟩⟩ (annl [] trivial)

noncomputable def q157V(k:Nat):Variant:=⟨[.ptr .bool true,.val ty_11 false,.val ty_11 false],[(ty_1,true)],fun x=>impl_reckoner_inner k x.1 x.2.1 x.2.2.1⟩
noncomputable def q157C(k:Nat):Cfg:=⟨Tryz.prog,tyOf tys,31,gOf [(190,[],q116V k),(116,[],q145V k)],false,[],[]⟩
def q157i1:List PE := [e119,e83,⟨2,64,.val ty_11 false,false⟩,⟨6,80,.box ty_1 false,false⟩,⟨7,96,.eat ty_1,false⟩,⟨10,112,.val ty_0 false,false⟩,⟨11,128,.val ty_0 false,false⟩]
def q157o1:List PE := [e119,e43,e128]
noncomputable def q157f1(k:Nat)(n:Nat)(x2:PTe q157i1):=impl_reckoner_inner_L58 k n x2.1 x2.2.1 x2.2.2.1 x2.2.2.2.1 x2.2.2.2.2.1 x2.2.2.2.2.2.1 x2.2.2.2.2.2.2.1
def q157p:List PE := [e119,e93,⟨2,32,.val ty_11 false,false⟩]
noncomputable def q157F(k:Nat):F4:=⟨q157C k,rr q157p [(ty_1,true)] Tryz.f185,fun p=>bif Nat.beq p 58 then some (.loop q157i1 q157o1 0 144 (q157f1 k k))else none,0,[0]⟩
theorem q157K(k:Nat):Contract Tryz.prog 185 (q157V k):=ctr (q157C k) (rs := [(ty_1,true)]) (ps:=q157p) (q157F k) Tryz.f185 48 ⟨tyOf_ok tys_ok,gOf_ok ⟨q116K k,q145K k,trivial⟩⟩ (annl [58] ⟨lok q157i1 q157o1 0 144 (q157f1 k) k,trivial⟩)

noncomputable def q158V(k:Nat):Variant:=⟨[.val ty_14 false,.val ty_11 false],[(ty_11,false),(.bool,false)],fun x=>impl_timesPoint k x.1 x.2.1⟩
noncomputable def q158C(k:Nat):Cfg:=⟨Tryz.prog,tyOf tys,32,gOf [(185,[],q157V k)],false,[],[]⟩
def q158i1:List PE := [e85,⟨6,48,.box .bool false,false⟩,e128,⟨12,80,.val ty_14 false,false⟩,e67,e138]
def q158o1:List PE := [e135,⟨7,48,.eat ty_1,false⟩]
noncomputable def q158f1(k:Nat)(n:Nat)(x2:PTe q158i1):=impl_timesPoint_L122 k n x2.1 x2.2.1 x2.2.2.1 x2.2.2.2.1 x2.2.2.2.2.1 x2.2.2.2.2.2.1
def q158p:List PE := [e71,e93]
noncomputable def q158F(k:Nat):F13:=⟨q158C k,rr q158p [(ty_11,false),(.bool,false)] Tryz.f130,fun p=>bif Nat.beq p 122 then some (.loop q158i1 q158o1 0 128 (q158f1 k k))else none,0,[]⟩
theorem q158K(k:Nat):Contract Tryz.prog 130 (q158V k):=ctr (q158C k) (rs := [(ty_11,false),(.bool,false)]) (ps:=q158p) (q158F k) Tryz.f130 32 ⟨tyOf_ok tys_ok,gOf_ok ⟨q157K k,trivial⟩⟩ (annl [122] ⟨lok q158i1 q158o1 0 128 (q158f1 k) k,trivial⟩)

noncomputable def q159V(k:Nat):Variant:=⟨[.val ty_5 false,.ptr ty_9 false],[(ty_11,false),(.bool,false)],fun x=>impl_newtonPoint k x.1 x.2.1⟩
noncomputable def q159C(k:Nat):Cfg:=⟨Tryz.prog,tyOf tys,86,gOf [(108,[],q153V k),(127,[],q154V k),(129,[],q156V k),(128,[],q115V),(130,[],q158V k),(115,[],q126V),(131,[],q134V k)],false,[],[]⟩
def q159i1:List PE := [⟨6,32,.eat ty_11,false⟩,⟨8,48,.eat ty_1,false⟩,⟨9,64,.box .bool false,false⟩,e102,⟨29,96,.val ty_5 false,false⟩,⟨30,112,.val ty_0 false,false⟩,e90]
def q159o1:List PE := [⟨6,32,.eat ty_11,false⟩,⟨8,48,.eat ty_1,false⟩,⟨9,64,.box .bool false,false⟩,e102]
noncomputable def q159f1(k:Nat)(n:Nat)(x5:PTe q159i1):=impl_newtonPoint_L1018 k n x5.1 x5.2.1 x5.2.2.1 x5.2.2.2.1 x5.2.2.2.2.1 x5.2.2.2.2.2.1 x5.2.2.2.2.2.2.1
def q159i2:List PE := [⟨9,32,.box .bool false,false⟩,⟨13,48,.eat ty_1,false⟩,⟨14,64,.eat ty_1,false⟩,⟨61,80,.eat ty_1,false⟩,⟨62,96,.val ty_0 false,false⟩,⟨63,112,.val ty_0 false,false⟩]
def q159o2:List PE := [⟨9,32,.box .bool false,false⟩,⟨14,48,.eat ty_1,false⟩]
noncomputable def q159f2(k:Nat)(n:Nat)(x11:PTe q159i2):=impl_newtonPoint_L16378 k n x11.1 x11.2.1 x11.2.2.1 x11.2.2.2.1 x11.2.2.2.2.1 x11.2.2.2.2.2.1
def q159p:List PE := [e7,e108]
noncomputable def q159F(k:Nat):F13:=⟨q159C k,rr q159p [(ty_11,false),(.bool,false)] Tryz.f77,fun p=>bif Nat.beq p 1018 then some (.loop q159i1 q159o1 0 144 (q159f1 k k))else bif Nat.beq p 16378 then some (.loop q159i2 q159o2 2 128 (q159f2 k k))else none,0,[]⟩
theorem q159K(k:Nat):Contract Tryz.prog 77 (q159V k):=ctr (q159C k) (rs := [(ty_11,false),(.bool,false)]) (ps:=q159p) (q159F k) Tryz.f77 32 ⟨tyOf_ok tys_ok,gOf_ok ⟨q153K k,q154K k,q156K k,q115K,q158K k,q126K,q134K k,trivial⟩⟩ (annl [1018,16378] ⟨lok q159i1 q159o1 0 144 (q159f1 k) k,lok q159i2 q159o2 2 128 (q159f2 k) k,trivial⟩)

noncomputable def q160V(k:Nat):Variant:=⟨[.val ty_14 false,.val ty_13 false],[(ty_13,false),(.bool,false)],fun x=>impl_timesIntervals k x.1 x.2.1⟩
noncomputable def q160C(k:Nat):Cfg:=⟨Tryz.prog,tyOf tys,82,gOf [(111,[],q111V),(136,[],q129V k),(135,[],q135V k)],false,[],[]⟩
def q160i1:List PE := [e139,e140,e122,e141,e28,e142,⟨10,128,.val ty_0 false,false⟩,⟨11,144,.box ty_10 false,false⟩,⟨12,160,.val ty_0 false,false⟩,⟨16,176,.val ty_0 false,false⟩,⟨17,192,.val ty_0 false,false⟩,⟨21,208,.val ty_0 false,false⟩,⟨22,224,.val ty_0 false,false⟩]
def q160o1:List PE := [e139,e140,e122,e141,e28,e142,⟨11,128,.box ty_10 false,false⟩,⟨16,144,.val ty_0 false,false⟩,⟨17,160,.val ty_0 false,false⟩,⟨21,176,.val ty_0 false,false⟩,⟨22,192,.val ty_0 false,false⟩]
noncomputable def q160f1(k:Nat)(n:Nat)(x6:PTe q160i1):=impl_timesIntervals_L128346522 k n x6.1 x6.2.1 x6.2.2.1 x6.2.2.2.1 x6.2.2.2.2.1 x6.2.2.2.2.2.1 x6.2.2.2.2.2.2.1 x6.2.2.2.2.2.2.2.1 x6.2.2.2.2.2.2.2.2.1 x6.2.2.2.2.2.2.2.2.2.1 x6.2.2.2.2.2.2.2.2.2.2.1 x6.2.2.2.2.2.2.2.2.2.2.2.1 x6.2.2.2.2.2.2.2.2.2.2.2.2.1
def q160i2:List PE := [e139,e140,e122,e141,e28,e142,⟨16,128,.val ty_0 false,false⟩,⟨17,144,.val ty_0 false,false⟩,⟨21,160,.val ty_0 false,false⟩,⟨22,176,.val ty_0 false,false⟩]
def q160o2:List PE := [e139,e140,e122,e141,⟨9,96,.eat ty_10,false⟩,⟨16,112,.val ty_0 false,false⟩,e88]
noncomputable def q160f2(k:Nat)(n:Nat)(x9:PTe q160i2):=impl_timesIntervals_L125338 k n x9.1 x9.2.1 x9.2.2.1 x9.2.2.2.1 x9.2.2.2.2.1 x9.2.2.2.2.2.1 x9.2.2.2.2.2.2.1 x9.2.2.2.2.2.2.2.1 x9.2.2.2.2.2.2.2.2.1 x9.2.2.2.2.2.2.2.2.2.1
def q160i3:List PE := [e139,e140,e122,e141,⟨16,96,.val ty_0 false,false⟩,e105]
def q160o3:List PE := [e135,⟨7,48,.eat ty_12,false⟩]
noncomputable def q160f3(k:Nat)(n:Nat)(x12:PTe q160i3):=impl_timesIntervals_L122 k n x12.1 x12.2.1 x12.2.2.1 x12.2.2.2.1 x12.2.2.2.2.1 x12.2.2.2.2.2.1
def q160p:List PE := [e71,⟨1,16,.val ty_13 false,false⟩]
noncomputable def q160F(k:Nat):F10:=⟨q160C k,rr q160p [(ty_13,false),(.bool,false)] Tryz.f110,fun p=>bif Nat.beq p 128346522 then some (.loop q160i1 q160o1 4 240 (q160f1 k k))else bif Nat.beq p 125338 then some (.loop q160i2 q160o2 2 192 (q160f2 k k))else bif Nat.beq p 122 then some (.loop q160i3 q160o3 0 128 (q160f3 k k))else none,0,[]⟩
theorem q160K(k:Nat):Contract Tryz.prog 110 (q160V k):=ctr (q160C k) (rs := [(ty_13,false),(.bool,false)]) (ps:=q160p) (q160F k) Tryz.f110 32 ⟨tyOf_ok tys_ok,gOf_ok ⟨q111K,q129K k,q135K k,trivial⟩⟩ (annl [122,125338,128346522] ⟨lok q160i3 q160o3 0 128 (q160f3 k) k,lok q160i2 q160o2 2 192 (q160f2 k) k,lok q160i1 q160o1 4 240 (q160f1 k) k,trivial⟩)

noncomputable def q161V(k:Nat):Variant:=⟨[.ptr .bool true,.val ty_10 true,.val ty_10 true],[(ty_10,true)],fun x=>impl_reckoner_subtract k x.1 x.2.1 x.2.2.1⟩
noncomputable def q161C(k:Nat):Cfg:=⟨Tryz.prog,tyOf tys,22,gOf [(115,[],q126V),(131,[],q134V k)],false,[],[]⟩
def q161p:List PE := [e119,e58,e121]
noncomputable def q161F(k:Nat):F8:=⟨q161C k,rr q161p [(ty_10,true)] Tryz.f113,fun p=>none,0,[0]⟩
theorem q161K(k:Nat):Contract Tryz.prog 113 (q161V k):=ctr (q161C k) (rs := [(ty_10,true)]) (ps:=q161p) (q161F k) Tryz.f113 48 ⟨tyOf_ok tys_ok,gOf_ok ⟨q126K,q134K k,trivial⟩⟩ (annl [] trivial)

noncomputable def q162V(k:Nat):Variant:=⟨[.val ty_5 false,.ptr ty_9 false],[(ty_13,false),(.bool,false)],fun x=>impl_remainderTable k x.1 x.2.1⟩
noncomputable def q162C(k:Nat):Cfg:=⟨Tryz.prog,tyOf tys,81,gOf [(108,[],q153V k),(109,[],q139V k),(110,[],q160V k),(112,[],q110V),(111,[],q111V),(113,[],q161V k)],false,[14,63,67],[]⟩
def q162i1:List PE := [⟨45,48,.same 10,false⟩,⟨14,32,.vw 10,false⟩,⟨10,64,.eat ty_12,false⟩,⟨12,80,.box .bool false,false⟩,e67,⟨46,112,.val ty_0 false,false⟩,⟨47,128,.val ty_0 false,false⟩,⟨53,144,.val ty_0 false,false⟩,⟨54,160,.val ty_0 false,false⟩]
def q162o1:List PE := [⟨45,32,.same 10,false⟩,⟨10,48,.eat ty_12,false⟩,⟨12,64,.box .bool false,false⟩,⟨46,80,.val ty_0 false,false⟩,⟨47,96,.val ty_0 false,false⟩]
noncomputable def q162f1(k:Nat)(n:Nat)(x9:PTe q162i1):=impl_remainderTable_L522854 k n x9.1 x9.2.1 x9.2.2.1 x9.2.2.2.1 x9.2.2.2.2.1 x9.2.2.2.2.2.1 x9.2.2.2.2.2.2.1 x9.2.2.2.2.2.2.2.1 x9.2.2.2.2.2.2.2.2.1
def q162i2:List PE := [⟨45,32,.same 10,false⟩,⟨10,48,.eat ty_12,false⟩,⟨12,64,.box .bool false,false⟩,⟨46,80,.val ty_0 false,false⟩,⟨47,96,.val ty_0 false,false⟩]
def q162o2:List PE := [⟨10,32,.eat ty_12,false⟩,⟨12,48,.box .bool false,false⟩]
noncomputable def q162f2(k:Nat)(n:Nat)(x12:PTe q162i2):=impl_remainderTable_L2042 k n x12.1 x12.2.1 x12.2.2.1 x12.2.2.2.1 x12.2.2.2.2.1
def q162p:List PE := [e7,e108]
noncomputable def q162F(k:Nat):F10:=⟨q162C k,rr q162p [(ty_13,false),(.bool,false)] Tryz.f72,fun p=>bif Nat.beq p 133850726 then some (.cut [⟨45,48,.same 10,false⟩,⟨14,32,.vw 10,false⟩,⟨10,64,.eat ty_12,false⟩,⟨12,80,.box .bool false,false⟩,e67,⟨15,112,.val ty_0 false,false⟩,e143,⟨46,144,.val ty_0 false,false⟩,⟨47,160,.val ty_0 false,false⟩,⟨53,176,.val ty_0 false,false⟩,⟨54,192,.val ty_0 false,false⟩] 208)else bif Nat.beq p 522854 then some (.loop q162i1 q162o1 2 176 (q162f1 k k))else bif Nat.beq p 2042 then some (.loop q162i2 q162o2 0 112 (q162f2 k k))else none,0,[]⟩
theorem q162K(k:Nat):Contract Tryz.prog 72 (q162V k):=ctr (q162C k) (rs := [(ty_13,false),(.bool,false)]) (ps:=q162p) (q162F k) Tryz.f72 32 ⟨tyOf_ok tys_ok,gOf_ok ⟨q153K k,q139K k,q160K k,q110K,q111K,q161K k,trivial⟩⟩ (annl [2042,522854] ⟨lok q162i2 q162o2 0 112 (q162f2 k) k,lok q162i1 q162o1 2 176 (q162f1 k) k,trivial⟩)

noncomputable def q163V(k:Nat):Variant:=⟨[.val ty_5 false,.ptr ty_9 false],[(ty_12,false),(.bool,false)],fun x=>impl_newtonImage k x.1 x.2.1⟩
noncomputable def q163C(k:Nat):Cfg:=⟨Tryz.prog,tyOf tys,94,gOf [(77,[],q159V k),(72,[],q162V k),(127,[],q154V k),(87,[],q109V k),(111,[],q111V),(113,[],q161V k),(136,[],q129V k),(135,[],q135V k)],false,[],[]⟩
def q163i1:List PE := [e94,e144,e145,e146,e147,e138,e143,⟨43,144,.val ty_13 false,false⟩,⟨44,160,.val ty_0 false,false⟩,e134,⟨51,192,.val ty_12 false,false⟩,⟨52,208,.val ty_0 false,false⟩,⟨53,224,.val ty_0 false,false⟩]
def q163o1:List PE := [e94,e144,e145,e146,e147,e138,e143,⟨43,144,.val ty_13 false,false⟩,⟨44,160,.val ty_0 false,false⟩,e134]
noncomputable def q163f1(k:Nat)(n:Nat)(x9:PTe q163i1):=impl_newtonImage_L2091418 k n x9.1 x9.2.1 x9.2.2.1 x9.2.2.2.1 x9.2.2.2.2.1 x9.2.2.2.2.2.1 x9.2.2.2.2.2.2.1 x9.2.2.2.2.2.2.2.1 x9.2.2.2.2.2.2.2.2.1 x9.2.2.2.2.2.2.2.2.2.1 x9.2.2.2.2.2.2.2.2.2.2.1 x9.2.2.2.2.2.2.2.2.2.2.2.1 x9.2.2.2.2.2.2.2.2.2.2.2.2.1
def q163i2:List PE := [e94,e144,e145,e146,e147,⟨43,112,.val ty_13 false,false⟩,⟨44,128,.val ty_0 false,false⟩,⟨45,144,.val ty_0 false,false⟩]
def q163o2:List PE := [⟨10,32,.box .bool false,false⟩,⟨13,48,.eat ty_10,false⟩]
noncomputable def q163f2(k:Nat)(n:Nat)(x14:PTe q163i2):=impl_newtonImage_L2042 k n x14.1 x14.2.1 x14.2.2.1 x14.2.2.2.1 x14.2.2.2.2.1 x14.2.2.2.2.2.1 x14.2.2.2.2.2.2.1 x14.2.2.2.2.2.2.2.1
def q163p:List PE := [e7,e108]
noncomputable def q163F(k:Nat):F9:=⟨q163C k,rr q163p [(ty_12,false),(.bool,false)] Tryz.f81,fun p=>bif Nat.beq p 2091418 then some (.loop q163i1 q163o1 2 240 (q163f1 k k))else bif Nat.beq p 2042 then some (.loop q163i2 q163o2 0 160 (q163f2 k k))else none,0,[]⟩
theorem q163K(k:Nat):Contract Tryz.prog 81 (q163V k):=ctr (q163C k) (rs := [(ty_12,false),(.bool,false)]) (ps:=q163p) (q163F k) Tryz.f81 32 ⟨tyOf_ok tys_ok,gOf_ok ⟨q159K k,q162K k,q154K k,q109K k,q111K,q161K k,q129K k,q135K k,trivial⟩⟩ (annl [2042,2091418] ⟨lok q163i2 q163o2 0 160 (q163f2 k) k,lok q163i1 q163o1 2 240 (q163f1 k) k,trivial⟩)

noncomputable def q164V(k:Nat):Variant:=⟨[.val ty_10 true,.val ty_10 true],[(ty_10,true),(.bool,false)],fun x=>impl_commonPart k x.1 x.2.1⟩
noncomputable def q164C(k:Nat):Cfg:=⟨Tryz.prog,tyOf tys,26,gOf [(114,[],q123V k),(143,[],q122V k),(91,[],q121V k)],false,[],[]⟩
def q164p:List PE := [e44,e58]
noncomputable def q164F(k:Nat):F8:=⟨q164C k,rr q164p [(ty_10,true),(.bool,false)] Tryz.f88,fun p=>none,0,[]⟩
theorem q164K(k:Nat):Contract Tryz.prog 88 (q164V k):=ctr (q164C k) (rs := [(ty_10,true),(.bool,false)]) (ps:=q164p) (q164F k) Tryz.f88 32 ⟨tyOf_ok tys_ok,gOf_ok ⟨q123K k,q122K k,q121K k,trivial⟩⟩ (annl [] trivial)

noncomputable def q165V(k:Nat):Variant:=⟨[.val ty_5 false,.ptr ty_9 false],[(ty_12,false),(.bool,false)],fun x=>impl_narrowedSides k x.1 x.2.1⟩
noncomputable def q165C(k:Nat):Cfg:=⟨Tryz.prog,tyOf tys,46,gOf [(81,[],q163V k),(87,[],q109V k),(88,[],q164V k)],false,[],[]⟩
def q165i1:List PE := [e64,⟨8,48,.eat ty_10,false⟩,⟨22,64,.eat ty_10,false⟩,⟨23,80,.val ty_0 false,false⟩,⟨24,96,.val ty_0 false,false⟩]
def q165o1:List PE := [⟨8,32,.eat ty_10,false⟩]
noncomputable def q165f1(k:Nat)(n:Nat)(x4:PTe q165i1):=impl_narrowedSides_L250 k n x4.1 x4.2.1 x4.2.2.1 x4.2.2.2.1 x4.2.2.2.2.1
def q165p:List PE := [e7,e108]
noncomputable def q165F(k:Nat):F9:=⟨q165C k,rr q165p [(ty_12,false),(.bool,false)] Tryz.f56,fun p=>bif Nat.beq p 250 then some (.loop q165i1 q165o1 0 112 (q165f1 k k))else none,0,[]⟩
theorem q165K(k:Nat):Contract Tryz.prog 56 (q165V k):=ctr (q165C k) (rs := [(ty_12,false),(.bool,false)]) (ps:=q165p) (q165F k) Tryz.f56 32 ⟨tyOf_ok tys_ok,gOf_ok ⟨q163K k,q109K k,q164K k,trivial⟩⟩ (annl [250] ⟨lok q165i1 q165o1 0 112 (q165f1 k) k,trivial⟩)

noncomputable def q166V(k:Nat):Variant:=⟨[.val ty_5 false,.val ty_9 true],[(ty_12,false),(.bool,false)],fun x=>impl_NarrowedSides k x.1 x.2.1⟩
noncomputable def q166C(k:Nat):Cfg:=⟨Tryz.prog,tyOf tys,13,gOf [(55,[],q91V k),(56,[],q165V k)],false,[],[]⟩
def q166p:List PE := [e7,e33]
noncomputable def q166F(k:Nat):F9:=⟨q166C k,rr q166p [(ty_12,false),(.bool,false)] Tryz.f16,fun p=>none,0,[]⟩
theorem q166K(k:Nat):Contract Tryz.prog 16 (q166V k):=ctr (q166C k) (rs := [(ty_12,false),(.bool,false)]) (ps:=q166p) (q166F k) Tryz.f16 32 ⟨tyOf_ok tys_ok,gOf_ok ⟨q91K k,q165K k,trivial⟩⟩ (annl [] trivial)

noncomputable def q167V:Variant:=⟨[.val ty_1 true,.val ty_1 true],[(.bool,false)],fun x=>laws_eqDyadic x.1 x.2.1⟩
noncomputable def q167C:Cfg:=⟨Tryz.prog,tyOf tys,15,gOf [],false,[],[]⟩
def q167p:List PE := [e34,e41]
noncomputable def q167F:F3:=⟨q167C,rr q167p [(.bool,false)] Tryz.f78,fun p=>none,0,[]⟩
theorem q167K:Contract Tryz.prog 78 (q167V):=ctr q167C (rs := [(.bool,false)]) (ps:=q167p) q167F Tryz.f78 32 ⟨tyOf_ok tys_ok,gOf_ok trivial⟩ (annl [] trivial)

noncomputable def q168V:Variant:=⟨[.val ty_10 true,.val ty_10 true],[(.bool,false)],fun x=>laws_eqInterval x.1 x.2.1⟩
noncomputable def q168C:Cfg:=⟨Tryz.prog,tyOf tys,17,gOf [(78,[],q167V)],false,[],[]⟩
def q168p:List PE := [e44,e58]
noncomputable def q168F:F3:=⟨q168C,rr q168p [(.bool,false)] Tryz.f57,fun p=>none,0,[]⟩
theorem q168K:Contract Tryz.prog 57 (q168V):=ctr q168C (rs := [(.bool,false)]) (ps:=q168p) q168F Tryz.f57 32 ⟨tyOf_ok tys_ok,gOf_ok ⟨q167K,trivial⟩⟩ (annl [] trivial)

noncomputable def q169V(k:Nat):Variant:=⟨[.val ty_12 false,.val ty_12 false],[(.bool,false)],fun x=>laws_eqIntervalS k x.1 x.2.1⟩
noncomputable def q169C(k:Nat):Cfg:=⟨Tryz.prog,tyOf tys,27,gOf [(57,[],q168V)],false,[],[]⟩
def q169i1:List PE := [⟨0,32,.val ty_12 false,false⟩,⟨1,48,.val ty_12 false,false⟩,e5]
def q169o1:List PE := []
noncomputable def q169f1(k:Nat)(n:Nat)(x2:PTe q169i1):=laws_eqIntervalS_L58 k n x2.1 x2.2.1 x2.2.2.1
def q169p:List PE := [⟨0,0,.val ty_12 false,false⟩,e63]
noncomputable def q169F(k:Nat):F3:=⟨q169C k,rr q169p [(.bool,false)] Tryz.f17,fun p=>bif Nat.beq p 58 then some (.loop q169i1 q169o1 0 80 (q169f1 k k))else none,0,[]⟩
theorem q169K(k:Nat):Contract Tryz.prog 17 (q169V k):=ctr (q169C k) (rs := [(.bool,false)]) (ps:=q169p) (q169F k) Tryz.f17 32 ⟨tyOf_ok tys_ok,gOf_ok ⟨q168K,trivial⟩⟩ (annl [58] ⟨lok q169i1 q169o1 0 80 (q169f1 k) k,trivial⟩)

noncomputable def q170V:Variant:=⟨[.val ty_3 true,.val ty_3 true],[(.bool,false)],fun x=>laws_eqTerm x.1 x.2.1⟩
noncomputable def q170C:Cfg:=⟨Tryz.prog,tyOf tys,25,gOf [],false,[],[]⟩
def q170p:List PE := [e11,e22]
noncomputable def q170F:F3:=⟨q170C,rr q170p [(.bool,false)] Tryz.f144,fun p=>none,0,[]⟩
theorem q170K:Contract Tryz.prog 144 (q170V):=ctr q170C (rs := [(.bool,false)]) (ps:=q170p) q170F Tryz.f144 32 ⟨tyOf_ok tys_ok,gOf_ok trivial⟩ (annl [] trivial)

noncomputable def q171V(k:Nat):Variant:=⟨[.val ty_4 false,.val ty_4 false],[(.bool,false)],fun x=>laws_eqTermS k x.1 x.2.1⟩
noncomputable def q171C(k:Nat):Cfg:=⟨Tryz.prog,tyOf tys,27,gOf [(144,[],q170V)],false,[],[]⟩
def q171i1:List PE := [e12,⟨1,48,.val ty_4 false,false⟩,e5]
def q171o1:List PE := []
noncomputable def q171f1(k:Nat)(n:Nat)(x2:PTe q171i1):=laws_eqTermS_L58 k n x2.1 x2.2.1 x2.2.2.1
def q171p:List PE := [e1,⟨1,16,.val ty_4 false,false⟩]
noncomputable def q171F(k:Nat):F3:=⟨q171C k,rr q171p [(.bool,false)] Tryz.f89,fun p=>bif Nat.beq p 58 then some (.loop q171i1 q171o1 0 80 (q171f1 k k))else none,0,[]⟩
theorem q171K(k:Nat):Contract Tryz.prog 89 (q171V k):=ctr (q171C k) (rs := [(.bool,false)]) (ps:=q171p) (q171F k) Tryz.f89 32 ⟨tyOf_ok tys_ok,gOf_ok ⟨q170K,trivial⟩⟩ (annl [58] ⟨lok q171i1 q171o1 0 80 (q171f1 k) k,trivial⟩)

noncomputable def q172V(k:Nat):Variant:=⟨[.val ty_6 false,.val ty_6 false],[(.bool,false)],fun x=>laws_intactTermS k x.1 x.2.1⟩
noncomputable def q172C(k:Nat):Cfg:=⟨Tryz.prog,tyOf tys,26,gOf [(51,[],q5V),(89,[],q171V k)],false,[],[]⟩
def q172p:List PE := [⟨0,0,.val ty_6 false,false⟩,⟨1,16,.val ty_6 false,false⟩]
noncomputable def q172F(k:Nat):F3:=⟨q172C k,rr q172p [(.bool,false)] Tryz.f58,fun p=>none,0,[]⟩
theorem q172K(k:Nat):Contract Tryz.prog 58 (q172V k):=ctr (q172C k) (rs := [(.bool,false)]) (ps:=q172p) (q172F k) Tryz.f58 32 ⟨tyOf_ok tys_ok,gOf_ok ⟨q5K,q171K k,trivial⟩⟩ (annl [] trivial)

noncomputable def q173V(k:Nat):Variant:=⟨[.val ty_5 false,.val ty_5 false],[(.bool,false)],fun x=>laws_eqTermSS k x.1 x.2.1⟩
noncomputable def q173C(k:Nat):Cfg:=⟨Tryz.prog,tyOf tys,27,gOf [(89,[],q171V k)],false,[],[]⟩
def q173i1:List PE := [e3,⟨1,48,.val ty_5 false,false⟩,e5]
def q173o1:List PE := []
noncomputable def q173f1(k:Nat)(n:Nat)(x2:PTe q173i1):=laws_eqTermSS_L58 k n x2.1 x2.2.1 x2.2.2.1
def q173p:List PE := [e7,⟨1,16,.val ty_5 false,false⟩]
noncomputable def q173F(k:Nat):F3:=⟨q173C k,rr q173p [(.bool,false)] Tryz.f59,fun p=>bif Nat.beq p 58 then some (.loop q173i1 q173o1 0 80 (q173f1 k k))else none,0,[]⟩
theorem q173K(k:Nat):Contract Tryz.prog 59 (q173V k):=ctr (q173C k) (rs := [(.bool,false)]) (ps:=q173p) (q173F k) Tryz.f59 32 ⟨tyOf_ok tys_ok,gOf_ok ⟨q171K k,trivial⟩⟩ (annl [58] ⟨lok q173i1 q173o1 0 80 (q173f1 k) k,trivial⟩)

noncomputable def q174V(k:Nat):Variant:=⟨[.val ty_18 false,.val ty_18 false],[(.bool,false)],fun x=>laws_intactTermSS k x.1 x.2.1⟩
noncomputable def q174C(k:Nat):Cfg:=⟨Tryz.prog,tyOf tys,45,gOf [(51,[],q5V),(58,[],q172V k),(59,[],q173V k)],false,[],[]⟩
def q174i1:List PE := [⟨0,32,.val ty_18 false,false⟩,⟨1,48,.val ty_18 false,false⟩,e5,e17]
def q174o1:List PE := [⟨0,32,.val ty_18 false,false⟩,⟨1,48,.val ty_18 false,false⟩,e5]
noncomputable def q174f1(k:Nat)(n:Nat)(x3:PTe q174i1):=laws_intactTermSS_L122 k n x3.1 x3.2.1 x3.2.2.1 x3.2.2.2.1
def q174p:List PE := [⟨0,0,.val ty_18 false,false⟩,⟨1,16,.val ty_18 false,false⟩]
noncomputable def q174F(k:Nat):F3:=⟨q174C k,rr q174p [(.bool,false)] Tryz.f18,fun p=>bif Nat.beq p 122 then some (.loop q174i1 q174o1 0 96 (q174f1 k k))else none,0,[]⟩
theorem q174K(k:Nat):Contract Tryz.prog 18 (q174V k):=ctr (q174C k) (rs := [(.bool,false)]) (ps:=q174p) (q174F k) Tryz.f18 32 ⟨tyOf_ok tys_ok,gOf_ok ⟨q5K,q172K k,q173K k,trivial⟩⟩ (annl [122] ⟨lok q174i1 q174o1 0 96 (q174f1 k) k,trivial⟩)

noncomputable def q175V(k:Nat):Variant:=⟨[.val ty_7 false,.val ty_7 false],[(.bool,false)],fun x=>laws_eqIntS k x.1 x.2.1⟩
noncomputable def q175C(k:Nat):Cfg:=⟨Tryz.prog,tyOf tys,26,gOf [],false,[],[]⟩
def q175i1:List PE := [e19,⟨1,48,.val ty_7 false,false⟩,e5]
def q175o1:List PE := []
noncomputable def q175f1(k:Nat)(n:Nat)(x1:PTe q175i1):=laws_eqIntS_L58 k n x1.1 x1.2.1 x1.2.2.1
def q175p:List PE := [e8,⟨1,16,.val ty_7 false,false⟩]
noncomputable def q175F(k:Nat):F3:=⟨q175C k,rr q175p [(.bool,false)] Tryz.f90,fun p=>bif Nat.beq p 58 then some (.loop q175i1 q175o1 0 80 (q175f1 k k))else none,0,[]⟩
theorem q175K(k:Nat):Contract Tryz.prog 90 (q175V k):=ctr (q175C k) (rs := [(.bool,false)]) (ps:=q175p) (q175F k) Tryz.f90 32 ⟨tyOf_ok tys_ok,gOf_ok trivial⟩ (annl [58] ⟨lok q175i1 q175o1 0 80 (q175f1 k) k,trivial⟩)

noncomputable def q176V(k:Nat):Variant:=⟨[.val ty_19 false,.val ty_19 false],[(.bool,false)],fun x=>laws_intactIntS k x.1 x.2.1⟩
noncomputable def q176C(k:Nat):Cfg:=⟨Tryz.prog,tyOf tys,26,gOf [(51,[],q5V),(90,[],q175V k)],false,[],[]⟩
def q176p:List PE := [⟨0,0,.val ty_19 false,false⟩,⟨1,16,.val ty_19 false,false⟩]
noncomputable def q176F(k:Nat):F3:=⟨q176C k,rr q176p [(.bool,false)] Tryz.f60,fun p=>none,0,[]⟩
theorem q176K(k:Nat):Contract Tryz.prog 60 (q176V k):=ctr (q176C k) (rs := [(.bool,false)]) (ps:=q176p) (q176F k) Tryz.f60 32 ⟨tyOf_ok tys_ok,gOf_ok ⟨q5K,q175K k,trivial⟩⟩ (annl [] trivial)

noncomputable def q177V(k:Nat):Variant:=⟨[.val ty_21 true,.val ty_21 true],[(.bool,false)],fun x=>laws_intactBox k x.1 x.2.1⟩
noncomputable def q177C(k:Nat):Cfg:=⟨Tryz.prog,tyOf tys,22,gOf [(60,[],q176V k)],false,[],[]⟩
def q177p:List PE := [⟨0,0,.val ty_21 true,false⟩,⟨1,16,.val ty_21 true,false⟩]
noncomputable def q177F(k:Nat):F3:=⟨q177C k,rr q177p [(.bool,false)] Tryz.f19,fun p=>none,0,[]⟩
theorem q177K(k:Nat):Contract Tryz.prog 19 (q177V k):=ctr (q177C k) (rs := [(.bool,false)]) (ps:=q177p) (q177F k) Tryz.f19 32 ⟨tyOf_ok tys_ok,gOf_ok ⟨q176K k,trivial⟩⟩ (annl [] trivial)

noncomputable def q178V(k:Nat):Variant:=⟨[.own ty_3,.val ty_0 false],[(ty_0,false)],fun x=>laws_markTermS k x.1 x.2.1⟩
noncomputable def q178C(k:Nat):Cfg:=⟨Tryz.prog,tyOf tys,41,gOf [],false,[],[]⟩
def q178i1:List PE := [e109,e6,e25]
def q178o1:List PE := [e6,e109]
noncomputable def q178f1(k:Nat)(n:Nat)(x1:PTe q178i1):=laws_markTermS_L26 k n x1.1 x1.2.1 x1.2.2.1
def q178p:List PE := [e109,e2]
noncomputable def q178F(k:Nat):Fn (Int×List (Int×Int×Int×Int)):=⟨q178C k,rr q178p [(ty_0,false)] Tryz.f61,fun p=>bif Nat.beq p 26 then some (.loop q178i1 q178o1 0 64 (q178f1 k k))else none,0,[0]⟩
theorem q178K(k:Nat):Contract Tryz.prog 61 (q178V k):=ctr (q178C k) (rs := [(ty_0,false)]) (ps:=q178p) (q178F k) Tryz.f61 32 ⟨tyOf_ok tys_ok,gOf_ok trivial⟩ (annl [26] ⟨lok q178i1 q178o1 0 64 (q178f1 k) k,trivial⟩)

noncomputable def q179V(k:Nat):Variant:=⟨[.own ty_4,.val ty_0 false],[(ty_0,false)],fun x=>laws_markTermSS k x.1 x.2.1⟩
noncomputable def q179C(k:Nat):Cfg:=⟨Tryz.prog,tyOf tys,19,gOf [(61,[],q178V k)],false,[],[]⟩
def q179i1:List PE := [e148,e6,e25]
def q179o1:List PE := [e6,e148]
noncomputable def q179f1(k:Nat)(n:Nat)(x2:PTe q179i1):=laws_markTermSS_L26 k n x2.1 x2.2.1 x2.2.2.1
def q179p:List PE := [e148,e2]
noncomputable def q179F(k:Nat):Fn (Int×List (List (Int×Int×Int×Int))):=⟨q179C k,rr q179p [(ty_0,false)] Tryz.f20,fun p=>bif Nat.beq p 26 then some (.loop q179i1 q179o1 0 64 (q179f1 k k))else none,0,[0]⟩
theorem q179K(k:Nat):Contract Tryz.prog 20 (q179V k):=ctr (q179C k) (rs := [(ty_0,false)]) (ps:=q179p) (q179F k) Tryz.f20 32 ⟨tyOf_ok tys_ok,gOf_ok ⟨q178K k,trivial⟩⟩ (annl [26] ⟨lok q179i1 q179o1 0 64 (q179f1 k) k,trivial⟩)

noncomputable def q180V(k:Nat):Variant:=⟨[.own ty_0,.val ty_0 false],[(ty_0,false)],fun x=>laws_markIntS k x.1 x.2.1⟩
noncomputable def q180C(k:Nat):Cfg:=⟨Tryz.prog,tyOf tys,19,gOf [],false,[],[]⟩
def q180i1:List PE := [e149,e6,e25]
def q180o1:List PE := [e6,e149]
noncomputable def q180f1(k:Nat)(n:Nat)(x1:PTe q180i1):=laws_markIntS_L26 k n x1.1 x1.2.1 x1.2.2.1
def q180p:List PE := [e149,e2]
noncomputable def q180F(k:Nat):Fn (Int×List Int):=⟨q180C k,rr q180p [(ty_0,false)] Tryz.f62,fun p=>bif Nat.beq p 26 then some (.loop q180i1 q180o1 0 64 (q180f1 k k))else none,0,[0]⟩
theorem q180K(k:Nat):Contract Tryz.prog 62 (q180V k):=ctr (q180C k) (rs := [(ty_0,false)]) (ps:=q180p) (q180F k) Tryz.f62 32 ⟨tyOf_ok tys_ok,gOf_ok trivial⟩ (annl [26] ⟨lok q180i1 q180o1 0 64 (q180f1 k) k,trivial⟩)

noncomputable def q181V(k:Nat):Variant:=⟨[.gob ty_9 true,.val ty_0 false],[(ty_0,false)],fun x=>laws_markBox k x.1 x.2.1⟩
noncomputable def q181C(k:Nat):Cfg:=⟨Tryz.prog,tyOf tys,14,gOf [(62,[],q180V k)],false,[],[]⟩
def q181p:List PE := [⟨0,0,.gob ty_9 true,false⟩,e2]
noncomputable def q181F(k:Nat):F1:=⟨q181C k,rr q181p [(ty_0,false)] Tryz.f21,fun p=>none,0,[]⟩
theorem q181K(k:Nat):Contract Tryz.prog 21 (q181V k):=ctr (q181C k) (rs := [(ty_0,false)]) (ps:=q181p) (q181F k) Tryz.f21 32 ⟨tyOf_ok tys_ok,gOf_ok ⟨q180K k,trivial⟩⟩ (annl [] trivial)

noncomputable def q182V(k:Nat):Variant:=⟨[.own ty_10,.val ty_0 false],[(ty_0,false)],fun x=>laws_markIntervalS k x.1 x.2.1⟩
noncomputable def q182C(k:Nat):Cfg:=⟨Tryz.prog,tyOf tys,45,gOf [],false,[],[]⟩
def q182i1:List PE := [e150,e6,e25]
def q182o1:List PE := [e6,e150]
noncomputable def q182f1(k:Nat)(n:Nat)(x1:PTe q182i1):=laws_markIntervalS_L26 k n x1.1 x1.2.1 x1.2.2.1
def q182p:List PE := [e150,e2]
noncomputable def q182F(k:Nat):Fn (Int×List ((Int×Int)×Int×Int)):=⟨q182C k,rr q182p [(ty_0,false)] Tryz.f22,fun p=>bif Nat.beq p 26 then some (.loop q182i1 q182o1 0 64 (q182f1 k k))else none,0,[0]⟩
theorem q182K(k:Nat):Contract Tryz.prog 22 (q182V k):=ctr (q182C k) (rs := [(ty_0,false)]) (ps:=q182p) (q182F k) Tryz.f22 32 ⟨tyOf_ok tys_ok,gOf_ok trivial⟩ (annl [26] ⟨lok q182i1 q182o1 0 64 (q182f1 k) k,trivial⟩)

noncomputable def q183V(k:Nat):Variant:=⟨[.val ty_12 false,.val ty_0 false],[(ty_0,false)],fun x=>laws_heldIntervalS k x.1 x.2.1⟩
noncomputable def q183C(k:Nat):Cfg:=⟨Tryz.prog,tyOf tys,53,gOf [],false,[],[]⟩
def q183i1:List PE := [⟨0,32,.val ty_12 false,false⟩,e4,e5]
def q183o1:List PE := [e6]
noncomputable def q183f1(k:Nat)(n:Nat)(x1:PTe q183i1):=laws_heldIntervalS_L26 k n x1.1 x1.2.1 x1.2.2.1
def q183p:List PE := [⟨0,0,.val ty_12 false,false⟩,e2]
noncomputable def q183F(k:Nat):F1:=⟨q183C k,rr q183p [(ty_0,false)] Tryz.f23,fun p=>bif Nat.beq p 26 then some (.loop q183i1 q183o1 0 80 (q183f1 k k))else none,0,[]⟩
theorem q183K(k:Nat):Contract Tryz.prog 23 (q183V k):=ctr (q183C k) (rs := [(ty_0,false)]) (ps:=q183p) (q183F k) Tryz.f23 32 ⟨tyOf_ok tys_ok,gOf_ok trivial⟩ (annl [26] ⟨lok q183i1 q183o1 0 80 (q183f1 k) k,trivial⟩)

noncomputable def laws_FnExactNarrowedSides_V(k:Nat):Variant:=⟨[.val ty_5 false,.val ty_9 true],[(.bool,false)],fun x=>laws_FnExactNarrowedSides k x.1 x.2.1⟩
noncomputable def laws_FnExactNarrowedSides_C(k:Nat):Cfg:=⟨Tryz.prog,tyOf tys,119,gOf [(11,[],q2V k),(12,[],q4V),(14,[],q9V k),(15,[],q11V k),(13,[],q77V k),(16,[],q166V k),(17,[],q169V k),(18,[],q174V k),(19,[],q177V k),(20,[],q179V k),(21,[],q181V k),(22,[],q182V k),(23,[],q183V k)],false,[],[]⟩
def laws_FnExactNarrowedSides_ps:List PE := [e7,e33]
noncomputable def laws_FnExactNarrowedSides_F(k:Nat):F3:=⟨laws_FnExactNarrowedSides_C k,rr laws_FnExactNarrowedSides_ps [(.bool,false)] Tryz.f3,fun p=>none,0,[]⟩
theorem laws_FnExactNarrowedSides_K(k:Nat):Contract Tryz.prog 3 (laws_FnExactNarrowedSides_V k):=ctr (laws_FnExactNarrowedSides_C k) (rs := [(.bool,false)]) (ps:=laws_FnExactNarrowedSides_ps) (laws_FnExactNarrowedSides_F k) Tryz.f3 32 ⟨tyOf_ok tys_ok,gOf_ok ⟨q2K k,q4K,q9K k,q11K k,q77K k,q166K k,q169K k,q174K k,q177K k,q179K k,q181K k,q182K k,q183K k,trivial⟩⟩ (annl [] trivial)
end Go.Ev.G
