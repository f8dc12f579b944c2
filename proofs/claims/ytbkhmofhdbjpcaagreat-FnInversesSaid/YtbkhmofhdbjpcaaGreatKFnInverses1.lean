/- The contracts of the functions behind FnInverses: a call of each returns what its plain function computes; for all inputs within the sizes named. -/
import Derived.Test.YtbkhmofhdbjpcaaGreatPFnInverses2
import Derived.Test.YtbkhmofhdbjpcaaGreatProg
set_option linter.unusedVariables false
set_option linter.unusedSectionVars false
namespace Go.Ev.G
open Go Go.Ev Go.Proofs
set_option maxRecDepth 100000
variable [KSl]
abbrev ty_0:Ty:=(.int .i64)

abbrev ty_1:Ty:=(.int .u64)

abbrev ty_2:Ty:=(.pair ty_0 ty_1)

abbrev ty_3:Ty:=(.pair .ks ty_2)

abbrev ty_4:Ty:=(.int .u8)

abbrev ty_5:Ty:=(.pair ty_0 ty_0)

abbrev ty_6:Ty:=(.pair ty_0 ty_5)

abbrev ty_7:Ty:=(.pair ty_0 ty_6)

abbrev ty_8:Ty:=(.sl ty_7)

abbrev ty_9:Ty:=(.sl ty_0)

abbrev ty_10:Ty:=(.pair ty_9 ty_9)

abbrev ty_11:Ty:=(.pair ty_0 ty_10)

abbrev ty_12:Ty:=(.sl ty_8)

abbrev ty_13:Ty:=(.pair ty_1 ty_1)

abbrev ty_14:Ty:=(.pair .bool ty_13)

abbrev ty_15:Ty:=(.pair ty_5 ty_5)

abbrev ty_16:Ty:=(.sl ty_15)

abbrev ty_17:Ty:=(.sl ty_5)

abbrev ty_18:Ty:=(.sl ty_16)

abbrev ty_19:Ty:=(.sl ty_17)

abbrev ty_20:Ty:=(.sl ty_4)

def tys:List (TypeId×Ty) := [(3,ty_0),(5,ty_4),(27,ty_5),(29,ty_15),(36,ty_16),(37,ty_17),(147,ty_8),(150,ty_7)]

theorem tys_ok:AllT Tryz.prog tys:=⟨⟨_,_,rfl,rfl,rfl,rfl⟩,⟨_,_,rfl,rfl,rfl,rfl⟩,⟨_,_,rfl,rfl,rfl,rfl⟩,⟨_,_,rfl,rfl,rfl,rfl⟩,⟨_,_,rfl,rfl,rfl,rfl⟩,⟨_,_,rfl,rfl,rfl,rfl⟩,⟨_,_,rfl,rfl,rfl,rfl⟩,⟨_,_,rfl,rfl,rfl,rfl⟩,trivial⟩

def tysR:List (TypeId×Ty) := []

theorem tysR_ok:AllT Tryz.prog tysR:=trivial

theorem mix_ok:Tryz.prog.follows .mixedOrders=true:=by kernel_rfl

theorem ctr{g:FuncId}(C:Cfg){rs:List (Ty×Bool)}{ps:List PE}(F:Fn (CT (rs.map (·.1)++outs (ps.map (·.b)))))(fn:Func)(nx:Nat){f:PT (ps.map (·.b))→Option (CT (rs.map (·.1)++outs (ps.map (·.b))))}
  (hC:CfgOk C) (hann:AnnOk F (codeOf fn) 1) (hP:C.P=Tryz.prog:=by rfl) (hF:F.C=C:=by rfl) (hfn:C.P.funcs[g]? = some fn:=by kernel_rfl) (hb:fn.body=some (codeOf fn):=by kernel_rfl) (hn:(fn.name == "runtime.NumGoroutine")=false:=by kernel_rfl)
  (hnt:C.ntmps=fn.ntmps:=by kernel_rfl) (hle:Nat.ble ps.length fn.ntmps=true:=by kernel_rfl) (hpar:parOk 0 ps=true:=by kernel_rfl) (hfin:F.fin=rdRes C.P ps rs fn.results.toList .ret:=by rfl)
  (hpins:F.pins=pinIds ps:=by kernel_rfl) (hnd:nodupB F.pins=true:=by kernel_rfl) (hf:∀x,evFn F (codeOf fn) ps nx x=f x:=by intro x;kernel_rfl):Contract C.P g ⟨ps.map (·.b),rs,f⟩ :=
 contract hC hF hfn hb hn hnt hle hpar hfin hpins hnd hann (hP ▸ mix_ok) hf

theorem annl{R:Type}{F:Fn R}{c:Code}(l:List Nat)(hl:AllL F (l.map fun p=>(p,loopB c p)))(h:loopsOf c 1=l.map (fun p=>(p,loopB c p)):=by kernel_rfl):AnnOk F c 1:=AnnOk_list _ h hl

theorem lok{R:Type}{F:Fn R}{c:Code}{p:Nat}(pin pout:List PE)(ex nx:Nat)(Lf:Nat→PTe pin→Option (R ⊕ PTe pout))(k:Nat)(h:F.an p=some (.loop pin pout ex nx (Lf k)):=by kernel_rfl)(h0:∀x,Lf 0 x=none:=by intro x;rfl)
  (hs:∀n x,roundOf F c p pin pout ex nx (Lf n) x=Lf (n+1) x:=by intro n x;kernel_rfl):LoopOk F c p:=LoopOk.mk (pin:=pin) (pout:=pout) h h0 hs

noncomputable def rr(ps:List PE)(rs:List (Ty×Bool))(f:Func):=rdRes Tryz.prog ps rs f.results.toList .ret

abbrev e1:PE:=⟨0,0,.ptr ty_3 true,true⟩
abbrev e2:PE:=⟨3,16,.val ty_0 false,false⟩
abbrev F1:Type 1:=Fn (Int×Unit×Int×Int)
abbrev e3:PE:=⟨1,16,.val ty_0 false,false⟩
abbrev e4:PE:=⟨0,0,.val ty_7 true,false⟩
abbrev e5:PE:=⟨2,32,.val ty_0 false,false⟩
abbrev e6:PE:=⟨1,32,.val ty_0 false,false⟩
abbrev e7:PE:=⟨6,80,.val ty_0 false,false⟩
abbrev e8:PE:=⟨7,96,.val ty_0 false,false⟩
abbrev e9:PE:=⟨8,112,.val ty_0 false,false⟩
abbrev e10:PE:=⟨0,0,.val ty_0 false,false⟩
abbrev F2:Type 1:=Fn (Int)
abbrev e11:PE:=⟨1,16,.val ty_7 true,false⟩
abbrev e12:PE:=⟨0,32,.val ty_8 false,false⟩
abbrev e13:PE:=⟨3,48,.box ty_7 false,false⟩
abbrev e14:PE:=⟨5,64,.val ty_0 false,false⟩
abbrev e15:PE:=⟨0,0,.val ty_8 false,false⟩
abbrev F3:Type 1:=Fn (List (Int×Int×Int×Int))
abbrev F4:Type 1:=Fn (Bool)
abbrev e16:PE:=⟨0,16,.val ty_8 false,false⟩
abbrev e17:PE:=⟨6,48,.val ty_0 false,false⟩
abbrev e18:PE:=⟨7,64,.val ty_0 false,false⟩
abbrev e19:PE:=⟨4,16,.eat ty_7,false⟩
abbrev e20:PE:=⟨9,64,.val ty_0 false,false⟩
abbrev F5:Type 1:=Fn ((List (Int×Int×Int×Int))×Bool)
abbrev e21:PE:=⟨5,48,.eat ty_7,false⟩
abbrev e22:PE:=⟨6,64,.val ty_0 false,false⟩
abbrev e23:PE:=⟨5,32,.eat ty_7,false⟩
abbrev F6:Type 1:=Fn ((List (Int×Int×Int×Int))×Unit×Int×Int)
abbrev e24:PE:=⟨5,32,.eat ty_8,false⟩
abbrev F7:Type 1:=Fn ((List (List (Int×Int×Int×Int)))×Unit×Int×Int)
abbrev e25:PE:=⟨8,80,.val ty_0 false,false⟩
abbrev e26:PE:=⟨1,16,.box ty_11 false,false⟩
abbrev e27:PE:=⟨7,48,.val ty_0 false,false⟩
abbrev e28:PE:=⟨8,64,.val ty_0 false,false⟩
abbrev e29:PE:=⟨0,0,.val ty_11 true,false⟩
abbrev e30:PE:=⟨3,32,.val ty_0 false,false⟩
abbrev e31:PE:=⟨6,48,.box ty_11 true,false⟩
abbrev e32:PE:=⟨8,64,.box ty_11 true,false⟩
abbrev e33:PE:=⟨4,48,.box ty_11 true,false⟩
abbrev F8:Type 1:=Fn ((Int×(List Int)×List Int)×Unit×Int×Int)
abbrev e34:PE:=⟨3,16,.box ty_11 true,false⟩
abbrev F9:Type 1:=Fn ((List (List (Int×Int×Int×Int)))×Int×(List Int)×List Int)
abbrev F10:Type 1:=Fn ((List (List (Int×Int×Int×Int)))×(Int×(List Int)×List Int)×Unit×Int×Int)
abbrev e35:PE:=⟨10,32,.val ty_0 false,false⟩
abbrev e36:PE:=⟨11,48,.eat ty_8,false⟩
abbrev e37:PE:=⟨12,64,.val ty_0 false,false⟩
abbrev e38:PE:=⟨19,80,.val ty_0 false,false⟩
abbrev e39:PE:=⟨0,0,.val ty_20 false,false⟩
abbrev e40:PE:=⟨9,48,.val ty_8 false,false⟩
abbrev e41:PE:=⟨10,64,.val ty_0 false,false⟩
abbrev e42:PE:=⟨11,80,.val ty_0 false,false⟩
abbrev e43:PE:=⟨17,112,.val ty_0 false,false⟩
abbrev e44:PE:=⟨0,16,.val ty_12 false,false⟩
abbrev e45:PE:=⟨0,0,.val ty_12 false,false⟩
abbrev e46:PE:=⟨0,16,.ptr ty_11 false,false⟩
abbrev e47:PE:=⟨0,0,.ptr ty_11 false,false⟩
abbrev e48:PE:=⟨1,16,.ptr ty_11 false,false⟩
abbrev e49:PE:=⟨0,0,.own ty_7,true⟩
abbrev e50:PE:=⟨1,64,.val ty_0 false,false⟩
abbrev e51:PE:=⟨2,80,.val ty_0 false,false⟩
abbrev e52:PE:=⟨3,96,.fn 342 [],false⟩
abbrev e53:PE:=⟨1,48,.val ty_0 false,false⟩
abbrev e54:PE:=⟨2,64,.fn 342 [],false⟩
abbrev e55:PE:=⟨5,48,.val ty_0 false,false⟩
abbrev e56:PE:=⟨14,64,.val ty_0 false,false⟩
abbrev e57:PE:=⟨12,96,.val ty_0 false,false⟩
abbrev F11:Type 1:=Fn (Bool×Int×Int)
abbrev e58:PE:=⟨0,0,.val ty_14 true,false⟩
abbrev e59:PE:=⟨4,64,.box ty_5 false,false⟩
abbrev F12:Type 1:=Fn ((Int×Int)×Bool)
abbrev F13:Type 1:=Fn (Int×Int)
abbrev F14:Type 1:=Fn ((Int×Int)×Int×Int)
abbrev e60:PE:=⟨0,0,.val ty_5 true,false⟩
abbrev e61:PE:=⟨0,0,.val ty_1 false,false⟩
abbrev e62:PE:=⟨1,16,.val ty_1 false,false⟩
abbrev e63:PE:=⟨1,16,.val ty_5 true,false⟩
abbrev e64:PE:=⟨0,0,.ptr .bool true,true⟩
abbrev e65:PE:=⟨2,32,.val ty_5 true,false⟩
abbrev e66:PE:=⟨1,16,.val ty_14 true,false⟩
abbrev e67:PE:=⟨0,0,.val ty_15 true,false⟩
abbrev e68:PE:=⟨2,48,.val ty_0 false,false⟩
abbrev e69:PE:=⟨1,16,.val ty_15 true,false⟩
abbrev e70:PE:=⟨8,80,.box ty_5 false,false⟩
abbrev F15:Type 1:=Fn (((Int×Int)×Int×Int)×Bool)
abbrev e71:PE:=⟨2,32,.val ty_15 true,false⟩
abbrev e72:PE:=⟨1,32,.val ty_16 false,false⟩
abbrev e73:PE:=⟨4,48,.box ty_15 false,false⟩
abbrev e74:PE:=⟨6,64,.box .bool false,false⟩
abbrev e75:PE:=⟨7,80,.box ty_15 false,false⟩
abbrev e76:PE:=⟨17,128,.val ty_0 false,false⟩
abbrev e77:PE:=⟨4,32,.box ty_15 false,false⟩
abbrev e78:PE:=⟨1,16,.val ty_16 false,false⟩
abbrev e79:PE:=⟨14,80,.val ty_0 false,false⟩
abbrev e80:PE:=⟨15,96,.val ty_0 false,false⟩
abbrev F16:Type 1:=Fn ((List ((Int×Int)×Int×Int))×Bool)
abbrev e81:PE:=⟨6,48,.eat ty_16,false⟩
abbrev e82:PE:=⟨12,80,.val ty_0 false,false⟩
abbrev e83:PE:=⟨13,96,.val ty_0 false,false⟩
abbrev e84:PE:=⟨6,32,.eat ty_16,false⟩
abbrev F17:Type 1:=Fn ((List (List ((Int×Int)×Int×Int)))×Bool)
abbrev e85:PE:=⟨8,32,.box .bool false,false⟩
abbrev e86:PE:=⟨9,48,.eat ty_17,false⟩
abbrev e87:PE:=⟨25,80,.val ty_18 false,false⟩
abbrev e88:PE:=⟨26,96,.val ty_0 false,false⟩
abbrev e89:PE:=⟨27,112,.val ty_0 false,false⟩
abbrev e90:PE:=⟨32,144,.val ty_0 false,false⟩
abbrev F18:Type 1:=Fn ((List (List (Int×Int)))×Bool)
abbrev e91:PE:=⟨1,16,.val ty_11 true,false⟩
abbrev e92:PE:=⟨9,80,.val ty_0 false,false⟩
abbrev e93:PE:=⟨8,96,.val ty_0 false,false⟩
abbrev e94:PE:=⟨0,32,.val ty_0 false,false⟩
abbrev e95:PE:=⟨2,32,.box ty_5 false,false⟩
abbrev e96:PE:=⟨3,48,.box ty_5 false,false⟩
abbrev e97:PE:=⟨4,32,.box ty_5 false,false⟩
abbrev e98:PE:=⟨6,48,.box ty_5 false,false⟩
abbrev e99:PE:=⟨2,16,.box ty_15 false,false⟩
abbrev e100:PE:=⟨3,32,.box ty_15 false,false⟩
abbrev e101:PE:=⟨0,0,.val ty_17 false,false⟩
abbrev e102:PE:=⟨5,48,.box ty_5 false,false⟩
abbrev e103:PE:=⟨6,64,.eat ty_5,false⟩
abbrev e104:PE:=⟨18,96,.val ty_0 false,false⟩
abbrev e105:PE:=⟨19,112,.val ty_0 false,false⟩
abbrev e106:PE:=⟨6,48,.eat ty_5,false⟩
abbrev e107:PE:=⟨6,64,.box ty_15 false,false⟩
abbrev e108:PE:=⟨21,112,.val ty_0 false,false⟩
abbrev e109:PE:=⟨4,16,.eat ty_17,false⟩
abbrev e110:PE:=⟨20,128,.val ty_0 false,false⟩
abbrev e111:PE:=⟨0,0,.val ty_18 false,false⟩
abbrev F19:Type 1:=Fn (List (Int×Int))
abbrev e112:PE:=⟨0,16,.val ty_19 false,false⟩
abbrev e113:PE:=⟨0,0,.val ty_19 false,false⟩
abbrev e114:PE:=⟨13,80,.val ty_0 false,false⟩
abbrev e115:PE:=⟨1,16,.val ty_17 false,false⟩
abbrev e116:PE:=⟨4,48,.box ty_5 false,false⟩
abbrev e117:PE:=⟨20,96,.val ty_0 false,false⟩
abbrev e118:PE:=⟨1,16,.val ty_19 false,false⟩
abbrev e119:PE:=⟨20,112,.val ty_0 false,false⟩
abbrev e120:PE:=⟨4,32,.box .bool false,false⟩
abbrev e121:PE:=⟨5,48,.eat ty_17,false⟩
abbrev e122:PE:=⟨7,64,.eat ty_5,false⟩
abbrev e123:PE:=⟨4,16,.box .bool false,false⟩
abbrev e124:PE:=⟨0,16,.val ty_1 false,false⟩
abbrev e125:PE:=⟨2,48,.val ty_1 false,false⟩
abbrev e126:PE:=⟨8,64,.val ty_1 false,false⟩
abbrev e127:PE:=⟨9,80,.val ty_1 false,false⟩
abbrev e128:PE:=⟨10,96,.val ty_1 false,false⟩
abbrev e129:PE:=⟨6,32,.box .bool false,false⟩
abbrev e130:PE:=⟨4,32,.eat ty_17,false⟩
abbrev e131:PE:=⟨0,80,.val ty_0 false,false⟩
abbrev e132:PE:=⟨3,96,.val ty_0 false,false⟩
abbrev e133:PE:=⟨4,112,.val ty_0 false,false⟩
abbrev e134:PE:=⟨10,128,.box ty_5 false,false⟩
abbrev e135:PE:=⟨12,144,.val ty_0 false,false⟩
abbrev e136:PE:=⟨10,64,.eat ty_17,false⟩
abbrev e137:PE:=⟨1,32,.val ty_17 false,false⟩
abbrev e138:PE:=⟨11,80,.val ty_8 false,false⟩
abbrev e139:PE:=⟨13,112,.val ty_0 false,false⟩
abbrev e140:PE:=⟨1,48,.val ty_17 false,false⟩
abbrev F20:Type 1:=Fn ((List (Int×Int))×Bool)
abbrev e141:PE:=⟨8,48,.eat ty_5,false⟩
abbrev e142:PE:=⟨31,128,.val ty_0 false,false⟩
abbrev e143:PE:=⟨11,80,.box ty_7 false,false⟩
abbrev e144:PE:=⟨30,112,.val ty_8 false,false⟩
abbrev e145:PE:=⟨9,48,.val ty_0 false,false⟩
abbrev e146:PE:=⟨0,32,.val ty_19 false,false⟩
abbrev e147:PE:=⟨1,48,.val ty_18 false,false⟩
abbrev e148:PE:=⟨7,80,.eat ty_16,false⟩
abbrev e149:PE:=⟨9,112,.eat ty_15,false⟩
abbrev e150:PE:=⟨1,16,.val ty_18 false,false⟩
abbrev e151:PE:=⟨1,32,.val ty_18 false,false⟩
abbrev e152:PE:=⟨8,64,.val ty_17 false,false⟩
abbrev e153:PE:=⟨9,80,.eat ty_15,false⟩
abbrev e154:PE:=⟨8,32,.eat ty_16,false⟩
abbrev e155:PE:=⟨0,0,.val ty_16 false,false⟩
abbrev e156:PE:=⟨5,32,.val .bool false,false⟩
abbrev e157:PE:=⟨7,64,.eat ty_17,false⟩
abbrev e158:PE:=⟨12,80,.val .bool false,false⟩
abbrev e159:PE:=⟨13,96,.eat ty_17,false⟩
abbrev e160:PE:=⟨19,112,.eat ty_16,false⟩
abbrev e161:PE:=⟨20,128,.val .bool false,false⟩
abbrev e162:PE:=⟨29,144,.eat ty_16,false⟩

noncomputable def q1V:Variant:=⟨[.ptr ty_3 true],[(ty_0,false)],fun x=>spec_l1Cur_next KSl.xs x.1⟩
noncomputable def q1C:Cfg:=⟨Tryz.prog,tyOf tys,62,gOf [],false,[],[]⟩
def q1p:List PE := [e1]
noncomputable def q1F:F1:=⟨q1C,rr q1p [(ty_0,false)] Tryz.f225,fun p=>bif Nat.beq p 14 then some (.cut [e1,e2] 32)else none,0,[0]⟩
theorem q1K:Contract Tryz.prog 225 (q1V):=ctr q1C (rs := [(ty_0,false)]) (ps:=q1p) q1F Tryz.f225 16 ⟨tyOf_ok tys_ok,gOf_ok trivial⟩ (annl [] trivial)

noncomputable def q2V:Variant:=⟨[.ptr ty_3 true,.val ty_0 false],[(ty_0,false)],fun x=>spec_l1Cur_pick KSl.xs x.1 x.2.1⟩
noncomputable def q2C:Cfg:=⟨Tryz.prog,tyOf tys,20,gOf [(225,[],q1V)],false,[],[]⟩
def q2p:List PE := [e1,e3]
noncomputable def q2F:F1:=⟨q2C,rr q2p [(ty_0,false)] Tryz.f129,fun p=>none,0,[0]⟩
theorem q2K:Contract Tryz.prog 129 (q2V):=ctr q2C (rs := [(ty_0,false)]) (ps:=q2p) q2F Tryz.f129 32 ⟨tyOf_ok tys_ok,gOf_ok ⟨q1K,trivial⟩⟩ (annl [] trivial)

noncomputable def q3V:Variant:=⟨[.ptr ty_3 true,.val ty_0 false],[(.bool,false)],fun x=>spec_l1Cur_one KSl.xs x.1 x.2.1⟩
noncomputable def q3C:Cfg:=⟨Tryz.prog,tyOf tys,9,gOf [(129,[],q2V)],false,[],[]⟩
def q3p:List PE := [e1,e3]
noncomputable def q3F:Fn (Bool×Unit×Int×Int):=⟨q3C,rr q3p [(.bool,false)] Tryz.f91,fun p=>none,0,[0]⟩
theorem q3K:Contract Tryz.prog 91 (q3V):=ctr q3C (rs := [(.bool,false)]) (ps:=q3p) q3F Tryz.f91 32 ⟨tyOf_ok tys_ok,gOf_ok ⟨q2K,trivial⟩⟩ (annl [] trivial)

noncomputable def q4V(k:Nat):Variant:=⟨[.ptr ty_3 true],[(ty_20,false)],fun x=>spec_l1Cur_rest k KSl.xs x.1⟩
noncomputable def q4C(k:Nat):Cfg:=⟨Tryz.prog,tyOf tys,16,gOf [(129,[],q2V)],false,[],[]⟩
def q4i1:List PE := [e1,⟨3,16,.eat ty_4,false⟩,⟨4,32,.val ty_0 false,false⟩]
def q4o1:List PE := [⟨3,16,.eat ty_4,false⟩,e1]
noncomputable def q4f1(k:Nat)(n:Nat)(x2:PTe q4i1):=spec_l1Cur_rest_L58 k KSl.xs n x2.1 x2.2.1 x2.2.2.1
def q4p:List PE := [e1]
noncomputable def q4F(k:Nat):Fn ((List Int)×Unit×Int×Int):=⟨q4C k,rr q4p [(ty_20,false)] Tryz.f332,fun p=>bif Nat.beq p 58 then some (.loop q4i1 q4o1 0 48 (q4f1 k k))else none,0,[0]⟩
theorem q4K(k:Nat):Contract Tryz.prog 332 (q4V k):=ctr (q4C k) (rs := [(ty_20,false)]) (ps:=q4p) (q4F k) Tryz.f332 16 ⟨tyOf_ok tys_ok,gOf_ok ⟨q2K,trivial⟩⟩ (annl [58] ⟨lok q4i1 q4o1 0 48 (q4f1 k) k,trivial⟩)

noncomputable def q5V:Variant:=⟨[.ptr ty_3 true,.val ty_9 false],[(ty_0,false)],fun x=>spec_l1Cur_among KSl.xs x.1 x.2.1⟩
noncomputable def q5C:Cfg:=⟨Tryz.prog,tyOf tys,12,gOf [(129,[],q2V)],false,[],[]⟩
def q5p:List PE := [e1,⟨1,16,.val ty_9 false,false⟩]
noncomputable def q5F:F1:=⟨q5C,rr q5p [(ty_0,false)] Tryz.f70,fun p=>none,0,[0]⟩
theorem q5K:Contract Tryz.prog 70 (q5V):=ctr q5C (rs := [(ty_0,false)]) (ps:=q5p) q5F Tryz.f70 32 ⟨tyOf_ok tys_ok,gOf_ok ⟨q2K,trivial⟩⟩ (annl [] trivial)

noncomputable def q6V:Variant:=⟨[.val ty_7 true,.val ty_0 false,.val ty_0 false],[(ty_7,true)],fun x=>spec_poWith x.1 x.2.1 x.2.2.1⟩
noncomputable def q6C:Cfg:=⟨Tryz.prog,tyOf tys,19,gOf [],false,[],[]⟩
def q6p:List PE := [e4,e3,e5]
noncomputable def q6F:Fn (Int×Int×Int×Int):=⟨q6C,rr q6p [(ty_7,true)] Tryz.f279,fun p=>none,0,[]⟩
theorem q6K:Contract Tryz.prog 279 (q6V):=ctr q6C (rs := [(ty_7,true)]) (ps:=q6p) q6F Tryz.f279 48 ⟨tyOf_ok tys_ok,gOf_ok trivial⟩ (annl [] trivial)

noncomputable def q7V(k:Nat):Variant:=⟨[.ptr ty_3 true,.val ty_0 false],[(ty_7,true)],fun x=>spec_l1Cur_term k KSl.xs x.1 x.2.1⟩
noncomputable def q7C(k:Nat):Cfg:=⟨Tryz.prog,tyOf tys,46,gOf [(129,[],q2V),(70,[],q5V),(279,[],q6V),(91,[],q3V)],false,[],[]⟩
def q7i1:List PE := [e1,e6,⟨4,48,.box ty_7 false,false⟩,⟨5,64,.box ty_7 false,false⟩,e7,e8]
def q7o1:List PE := [e1,⟨4,32,.box ty_7 false,false⟩,⟨5,48,.box ty_7 false,false⟩]
noncomputable def q7f1(k:Nat)(n:Nat)(x8:PTe q7i1):=spec_l1Cur_term_L122 k KSl.xs n x8.1 x8.2.1 x8.2.2.1 x8.2.2.2.1 x8.2.2.2.2.1 x8.2.2.2.2.2.1
def q7p:List PE := [e1,e3]
noncomputable def q7F(k:Nat):Fn ((Int×Int×Int×Int)×Unit×Int×Int):=⟨q7C k,rr q7p [(ty_7,true)] Tryz.f357,fun p=>bif Nat.beq p 7826 then some (.cut [e1,e6,⟨4,48,.box ty_7 false,false⟩,⟨5,64,.box ty_7 false,false⟩,e7,e8,e9] 128)else bif Nat.beq p 122 then some (.loop q7i1 q7o1 0 112 (q7f1 k k))else none,0,[0]⟩
theorem q7K(k:Nat):Contract Tryz.prog 357 (q7V k):=ctr (q7C k) (rs := [(ty_7,true)]) (ps:=q7p) (q7F k) Tryz.f357 32 ⟨tyOf_ok tys_ok,gOf_ok ⟨q2K,q5K,q6K,q3K,trivial⟩⟩ (annl [122] ⟨lok q7i1 q7o1 0 112 (q7f1 k) k,trivial⟩)

noncomputable def q8V:Variant:=⟨[.val ty_0 false],[(ty_0,false)],fun x=>spec_l1Sign x.1⟩
noncomputable def q8C:Cfg:=⟨Tryz.prog,tyOf tys,9,gOf [],false,[],[]⟩
def q8p:List PE := [e10]
noncomputable def q8F:F2:=⟨q8C,rr q8p [(ty_0,false)] Tryz.f266,fun p=>none,0,[]⟩
theorem q8K:Contract Tryz.prog 266 (q8V):=ctr q8C (rs := [(ty_0,false)]) (ps:=q8p) q8F Tryz.f266 16 ⟨tyOf_ok tys_ok,gOf_ok trivial⟩ (annl [] trivial)

noncomputable def q9V:Variant:=⟨[.val ty_7 true,.val ty_7 true],[(ty_0,false)],fun x=>spec_poOrder x.1 x.2.1⟩
noncomputable def q9C:Cfg:=⟨Tryz.prog,tyOf tys,35,gOf [(266,[],q8V)],false,[],[]⟩
def q9p:List PE := [e4,e11]
noncomputable def q9F:F2:=⟨q9C,rr q9p [(ty_0,false)] Tryz.f338,fun p=>none,0,[]⟩
theorem q9K:Contract Tryz.prog 338 (q9V):=ctr q9C (rs := [(ty_0,false)]) (ps:=q9p) q9F Tryz.f338 32 ⟨tyOf_ok tys_ok,gOf_ok ⟨q8K,trivial⟩⟩ (annl [] trivial)

noncomputable def q10V(k:Nat):Variant:=⟨[.val ty_8 false,.val ty_7 true],[(ty_8,false)],fun x=>spec_poPut k x.1 x.2.1⟩
noncomputable def q10C(k:Nat):Cfg:=⟨Tryz.prog,tyOf tys,67,gOf [(338,[],q9V)],false,[],[]⟩
def q10i1:List PE := [e12,e13,e14]
def q10o1:List PE := [e12,e13,e14]
noncomputable def q10f1(k:Nat)(n:Nat)(x2:PTe q10i1):=spec_poPut_L28 k n x2.1 x2.2.1 x2.2.2.1
def q10p:List PE := [e15,e11]
noncomputable def q10F(k:Nat):F3:=⟨q10C k,rr q10p [(ty_8,false)] Tryz.f340,fun p=>bif Nat.beq p 28 then some (.loop q10i1 q10o1 0 80 (q10f1 k k))else bif Nat.beq p 254 then some (.cut [⟨6,32,.val ty_8 false,false⟩,⟨7,48,.eat ty_7,false⟩] 64)else bif Nat.beq p 62 then some (.cut [e12,e13,e14,⟨6,80,.val ty_8 false,false⟩] 96)else none,0,[]⟩
theorem q10K(k:Nat):Contract Tryz.prog 340 (q10V k):=ctr (q10C k) (rs := [(ty_8,false)]) (ps:=q10p) (q10F k) Tryz.f340 32 ⟨tyOf_ok tys_ok,gOf_ok ⟨q9K,trivial⟩⟩ (annl [28] ⟨lok q10i1 q10o1 0 80 (q10f1 k) k,trivial⟩)

noncomputable def q11V:Variant:=⟨[.val ty_0 false,.val ty_0 false,.val ty_0 false],[(.bool,false)],fun x=>spec_l1In x.1 x.2.1 x.2.2.1⟩
noncomputable def q11C:Cfg:=⟨Tryz.prog,tyOf tys,15,gOf [],false,[],[]⟩
def q11p:List PE := [e10,e3,e5]
noncomputable def q11F:F4:=⟨q11C,rr q11p [(.bool,false)] Tryz.f98,fun p=>none,0,[]⟩
theorem q11K:Contract Tryz.prog 98 (q11V):=ctr q11C (rs := [(.bool,false)]) (ps:=q11p) q11F Tryz.f98 48 ⟨tyOf_ok tys_ok,gOf_ok trivial⟩ (annl [] trivial)

noncomputable def q12V:Variant:=⟨[.val ty_7 true],[(.bool,false)],fun x=>spec_poTerm x.1⟩
noncomputable def q12C:Cfg:=⟨Tryz.prog,tyOf tys,32,gOf [(98,[],q11V)],false,[],[]⟩
def q12p:List PE := [e4]
noncomputable def q12F:F4:=⟨q12C,rr q12p [(.bool,false)] Tryz.f337,fun p=>none,0,[]⟩
theorem q12K:Contract Tryz.prog 337 (q12V):=ctr q12C (rs := [(.bool,false)]) (ps:=q12p) q12F Tryz.f337 16 ⟨tyOf_ok tys_ok,gOf_ok ⟨q11K,trivial⟩⟩ (annl [] trivial)

noncomputable def q13V(k:Nat):Variant:=⟨[.val ty_8 false],[(.bool,false)],fun x=>spec_poGood k x.1⟩
noncomputable def q13C(k:Nat):Cfg:=⟨Tryz.prog,tyOf tys,38,gOf [(337,[],q12V),(338,[],q9V)],false,[],[]⟩
def q13i1:List PE := [e16,⟨5,32,.val ty_8 false,false⟩,e17,e18]
def q13o1:List PE := [e16]
noncomputable def q13f1(k:Nat)(n:Nat)(x3:PTe q13i1):=spec_poGood_L26 k n x3.1 x3.2.1 x3.2.2.1 x3.2.2.2.1
def q13p:List PE := [e15]
noncomputable def q13F(k:Nat):F4:=⟨q13C k,rr q13p [(.bool,false)] Tryz.f287,fun p=>bif Nat.beq p 26 then some (.loop q13i1 q13o1 0 80 (q13f1 k k))else none,0,[]⟩
theorem q13K(k:Nat):Contract Tryz.prog 287 (q13V k):=ctr (q13C k) (rs := [(.bool,false)]) (ps:=q13p) (q13F k) Tryz.f287 16 ⟨tyOf_ok tys_ok,gOf_ok ⟨q12K,q9K,trivial⟩⟩ (annl [26] ⟨lok q13i1 q13o1 0 80 (q13f1 k) k,trivial⟩)

noncomputable def q14V(k:Nat):Variant:=⟨[.val ty_8 false],[(ty_8,false),(.bool,false)],fun x=>spec_poSum k x.1⟩
noncomputable def q14C(k:Nat):Cfg:=⟨Tryz.prog,tyOf tys,21,gOf [(340,[],q10V k),(287,[],q13V k)],false,[],[]⟩
def q14i1:List PE := [e19,⟨7,32,.val ty_8 false,false⟩,⟨8,48,.val ty_0 false,false⟩,e20]
def q14o1:List PE := [e19]
noncomputable def q14f1(k:Nat)(n:Nat)(x2:PTe q14i1):=spec_poSum_L58 k n x2.1 x2.2.1 x2.2.2.1 x2.2.2.2.1
def q14p:List PE := [e15]
noncomputable def q14F(k:Nat):F5:=⟨q14C k,rr q14p [(ty_8,false),(.bool,false)] Tryz.f293,fun p=>bif Nat.beq p 58 then some (.loop q14i1 q14o1 0 80 (q14f1 k k))else none,0,[]⟩
theorem q14K(k:Nat):Contract Tryz.prog 293 (q14V k):=ctr (q14C k) (rs := [(ty_8,false),(.bool,false)]) (ps:=q14p) (q14F k) Tryz.f293 16 ⟨tyOf_ok tys_ok,gOf_ok ⟨q10K k,q13K k,trivial⟩⟩ (annl [58] ⟨lok q14i1 q14o1 0 80 (q14f1 k) k,trivial⟩)

noncomputable def q15V(k:Nat):Variant:=⟨[.val ty_8 false,.val ty_8 false],[(ty_8,false),(.bool,false)],fun x=>spec_poAdd k x.1 x.2.1⟩
noncomputable def q15C(k:Nat):Cfg:=⟨Tryz.prog,tyOf tys,14,gOf [(293,[],q14V k)],false,[],[]⟩
def q15p:List PE := [e15,⟨1,16,.val ty_8 false,false⟩]
noncomputable def q15F(k:Nat):F5:=⟨q15C k,rr q15p [(ty_8,false),(.bool,false)] Tryz.f211,fun p=>none,0,[]⟩
theorem q15K(k:Nat):Contract Tryz.prog 211 (q15V k):=ctr (q15C k) (rs := [(ty_8,false),(.bool,false)]) (ps:=q15p) (q15F k) Tryz.f211 32 ⟨tyOf_ok tys_ok,gOf_ok ⟨q14K k,trivial⟩⟩ (annl [] trivial)

noncomputable def q16V(k:Nat):Variant:=⟨[.ptr ty_3 true,.val ty_0 false],[(ty_8,false)],fun x=>spec_l1Cur_poly k KSl.xs x.1 x.2.1⟩
noncomputable def q16C(k:Nat):Cfg:=⟨Tryz.prog,tyOf tys,34,gOf [(129,[],q2V),(91,[],q3V),(357,[],q7V k),(211,[],q15V k)],false,[],[]⟩
def q16i1:List PE := [e1,e6,e21,e22,⟨7,80,.val ty_0 false,false⟩]
def q16o1:List PE := [e1,e23]
noncomputable def q16f1(k:Nat)(n:Nat)(x6:PTe q16i1):=spec_l1Cur_poly_L250 k KSl.xs n x6.1 x6.2.1 x6.2.2.1 x6.2.2.2.1 x6.2.2.2.2.1
def q16p:List PE := [e1,e3]
noncomputable def q16F(k:Nat):F6:=⟨q16C k,rr q16p [(ty_8,false)] Tryz.f339,fun p=>bif Nat.beq p 250 then some (.loop q16i1 q16o1 0 96 (q16f1 k k))else bif Nat.beq p 30 then some (.cut [e1,e6,e21,e22] 80)else none,0,[0]⟩
theorem q16K(k:Nat):Contract Tryz.prog 339 (q16V k):=ctr (q16C k) (rs := [(ty_8,false)]) (ps:=q16p) (q16F k) Tryz.f339 32 ⟨tyOf_ok tys_ok,gOf_ok ⟨q2K,q3K,q7K k,q15K k,trivial⟩⟩ (annl [250] ⟨lok q16i1 q16o1 0 96 (q16f1 k) k,trivial⟩)

noncomputable def q17V(k:Nat):Variant:=⟨[.ptr ty_3 true,.val ty_0 false],[(ty_12,false)],fun x=>spec_l1Cur_system k KSl.xs x.1 x.2.1⟩
noncomputable def q17C(k:Nat):Cfg:=⟨Tryz.prog,tyOf tys,17,gOf [(339,[],q16V k)],false,[],[]⟩
def q17i1:List PE := [e1,e6,⟨5,48,.eat ty_8,false⟩]
def q17o1:List PE := [e24,e1]
noncomputable def q17f1(k:Nat)(n:Nat)(x2:PTe q17i1):=spec_l1Cur_system_L28 k KSl.xs n x2.1 x2.2.1 x2.2.2.1
def q17p:List PE := [e1,e3]
noncomputable def q17F(k:Nat):F7:=⟨q17C k,rr q17p [(ty_12,false)] Tryz.f289,fun p=>bif Nat.beq p 28 then some (.loop q17i1 q17o1 0 64 (q17f1 k k))else none,0,[0]⟩
theorem q17K(k:Nat):Contract Tryz.prog 289 (q17V k):=ctr (q17C k) (rs := [(ty_12,false)]) (ps:=q17p) (q17F k) Tryz.f289 32 ⟨tyOf_ok tys_ok,gOf_ok ⟨q16K k,trivial⟩⟩ (annl [28] ⟨lok q17i1 q17o1 0 64 (q17f1 k) k,trivial⟩)

noncomputable def q18V(k:Nat):Variant:=⟨[.ptr ty_3 true,.val ty_0 false],[(ty_8,false)],fun x=>spec_l1Cur_anyPoly k KSl.xs x.1 x.2.1⟩
noncomputable def q18C(k:Nat):Cfg:=⟨Tryz.prog,tyOf tys,76,gOf [(339,[],q16V k),(129,[],q2V),(70,[],q5V)],false,[],[]⟩
def q18i1:List PE := [e1,e23,e17,e18,e25]
def q18o1:List PE := [e1,e23,e17,e18]
noncomputable def q18f1(k:Nat)(n:Nat)(x7:PTe q18i1):=spec_l1Cur_anyPoly_L494888082 k KSl.xs n x7.1 x7.2.1 x7.2.2.1 x7.2.2.2.1 x7.2.2.2.2.1
def q18i2:List PE := [e1,e23,e17,e18]
def q18o2:List PE := [e1,e23,e17]
noncomputable def q18f2(k:Nat)(n:Nat)(x10:PTe q18i2):=spec_l1Cur_anyPoly_L7732626 k KSl.xs n x10.1 x10.2.1 x10.2.2.1 x10.2.2.2.1
def q18i3:List PE := [e1,e23,e17]
def q18o3:List PE := [e23,e1]
noncomputable def q18f3(k:Nat)(n:Nat)(x13:PTe q18i3):=spec_l1Cur_anyPoly_L120822 k KSl.xs n x13.1 x13.2.1 x13.2.2.1
def q18p:List PE := [e1,e3]
noncomputable def q18F(k:Nat):F6:=⟨q18C k,rr q18p [(ty_8,false)] Tryz.f290,fun p=>bif Nat.beq p 494888082 then some (.loop q18i1 q18o1 5 96 (q18f1 k k))else bif Nat.beq p 7732626 then some (.loop q18i2 q18o2 3 80 (q18f2 k k))else bif Nat.beq p 120822 then some (.loop q18i3 q18o3 1 64 (q18f3 k k))else none,0,[0]⟩
theorem q18K(k:Nat):Contract Tryz.prog 290 (q18V k):=ctr (q18C k) (rs := [(ty_8,false)]) (ps:=q18p) (q18F k) Tryz.f290 32 ⟨tyOf_ok tys_ok,gOf_ok ⟨q16K k,q2K,q5K,trivial⟩⟩ (annl [120822,7732626,494888082] ⟨lok q18i3 q18o3 1 64 (q18f3 k) k,lok q18i2 q18o2 3 80 (q18f2 k) k,lok q18i1 q18o1 5 96 (q18f1 k) k,trivial⟩)

noncomputable def q19V(k:Nat):Variant:=⟨[.ptr ty_3 true],[(ty_12,false)],fun x=>spec_l1Cur_anySystem k KSl.xs x.1⟩
noncomputable def q19C(k:Nat):Cfg:=⟨Tryz.prog,tyOf tys,29,gOf [(70,[],q5V),(289,[],q17V k),(129,[],q2V),(290,[],q18V k)],false,[4,10,15],[]⟩
def q19p:List PE := [e1]
noncomputable def q19F(k:Nat):F7:=⟨q19C k,rr q19p [(ty_12,false)] Tryz.f209,fun p=>none,0,[0]⟩
theorem q19K(k:Nat):Contract Tryz.prog 209 (q19V k):=ctr (q19C k) (rs := [(ty_12,false)]) (ps:=q19p) (q19F k) Tryz.f209 16 ⟨tyOf_ok tys_ok,gOf_ok ⟨q5K,q17K k,q2K,q18K k,trivial⟩⟩ (annl [] trivial)

noncomputable def q20V:Variant:=⟨[.val ty_0 false,.val ty_0 false],[(ty_0,false)],fun x=>spec_l1Least x.1 x.2.1⟩
noncomputable def q20C:Cfg:=⟨Tryz.prog,tyOf tys,10,gOf [],false,[],[]⟩
def q20p:List PE := [e10,e3]
noncomputable def q20F:F2:=⟨q20C,rr q20p [(ty_0,false)] Tryz.f292,fun p=>none,0,[]⟩
theorem q20K:Contract Tryz.prog 292 (q20V):=ctr q20C (rs := [(ty_0,false)]) (ps:=q20p) q20F Tryz.f292 32 ⟨tyOf_ok tys_ok,gOf_ok trivial⟩ (annl [] trivial)

noncomputable def q21V:Variant:=⟨[.val ty_0 false,.val ty_0 false],[(ty_0,false)],fun x=>spec_l1Most x.1 x.2.1⟩
noncomputable def q21C:Cfg:=⟨Tryz.prog,tyOf tys,10,gOf [],false,[],[]⟩
def q21p:List PE := [e10,e3]
noncomputable def q21F:F2:=⟨q21C,rr q21p [(ty_0,false)] Tryz.f183,fun p=>none,0,[]⟩
theorem q21K:Contract Tryz.prog 183 (q21V):=ctr q21C (rs := [(ty_0,false)]) (ps:=q21p) q21F Tryz.f183 32 ⟨tyOf_ok tys_ok,gOf_ok trivial⟩ (annl [] trivial)

noncomputable def q22V:Variant:=⟨[.ptr ty_3 true],[(ty_0,false)],fun x=>spec_l1Cur_sides KSl.xs x.1⟩
noncomputable def q22C:Cfg:=⟨Tryz.prog,tyOf tys,6,gOf [(70,[],q5V)],false,[],[]⟩
def q22p:List PE := [e1]
noncomputable def q22F:F1:=⟨q22C,rr q22p [(ty_0,false)] Tryz.f89,fun p=>none,0,[0]⟩
theorem q22K:Contract Tryz.prog 89 (q22V):=ctr q22C (rs := [(ty_0,false)]) (ps:=q22p) q22F Tryz.f89 16 ⟨tyOf_ok tys_ok,gOf_ok ⟨q5K,trivial⟩⟩ (annl [] trivial)

noncomputable def q23V:Variant:=⟨[.val ty_0 false],[(ty_0,false)],fun x=>spec_dyPower x.1⟩
noncomputable def q23C:Cfg:=⟨Tryz.prog,tyOf tys,6,gOf [],false,[],[]⟩
def q23p:List PE := [e10]
noncomputable def q23F:F2:=⟨q23C,rr q23p [(ty_0,false)] Tryz.f218,fun p=>none,0,[]⟩
theorem q23K:Contract Tryz.prog 218 (q23V):=ctr q23C (rs := [(ty_0,false)]) (ps:=q23p) q23F Tryz.f218 16 ⟨tyOf_ok tys_ok,gOf_ok trivial⟩ (annl [] trivial)

noncomputable def q24V:Variant:=⟨[.val ty_9 false],[(ty_9,false)],fun x=>spec_l1Own x.1⟩
noncomputable def q24C:Cfg:=⟨Tryz.prog,tyOf tys,6,gOf [],false,[],[]⟩
def q24p:List PE := [⟨0,0,.val ty_9 false,false⟩]
noncomputable def q24F:Fn (List Int):=⟨q24C,rr q24p [(ty_9,false)] Tryz.f238,fun p=>none,0,[]⟩
theorem q24K:Contract Tryz.prog 238 (q24V):=ctr q24C (rs := [(ty_9,false)]) (ps:=q24p) q24F Tryz.f238 16 ⟨tyOf_ok tys_ok,gOf_ok trivial⟩ (annl [] trivial)

noncomputable def q25V(k:Nat):Variant:=⟨[.val ty_11 true],[(.bool,false)],fun x=>spec_bxEven k x.1⟩
noncomputable def q25C(k:Nat):Cfg:=⟨Tryz.prog,tyOf tys,26,gOf [],false,[],[]⟩
def q25i1:List PE := [e26,⟨6,32,.val ty_9 false,false⟩,e27,e28]
def q25o1:List PE := []
noncomputable def q25f1(k:Nat)(n:Nat)(x1:PTe q25i1):=spec_bxEven_L26 k n x1.1 x1.2.1 x1.2.2.1 x1.2.2.2.1
def q25p:List PE := [e29]
noncomputable def q25F(k:Nat):F4:=⟨q25C k,rr q25p [(.bool,false)] Tryz.f333,fun p=>bif Nat.beq p 26 then some (.loop q25i1 q25o1 0 80 (q25f1 k k))else none,0,[]⟩
theorem q25K(k:Nat):Contract Tryz.prog 333 (q25V k):=ctr (q25C k) (rs := [(.bool,false)]) (ps:=q25p) (q25F k) Tryz.f333 16 ⟨tyOf_ok tys_ok,gOf_ok trivial⟩ (annl [26] ⟨lok q25i1 q25o1 0 80 (q25f1 k) k,trivial⟩)

noncomputable def q26V(k:Nat):Variant:=⟨[.val ty_11 true],[(.bool,false)],fun x=>spec_bxGood k x.1⟩
noncomputable def q26C(k:Nat):Cfg:=⟨Tryz.prog,tyOf tys,80,gOf [(98,[],q11V),(218,[],q23V)],false,[],[]⟩
def q26i1:List PE := [e26,e30,⟨4,48,.val .bool false,false⟩,⟨36,64,.val ty_9 false,false⟩,⟨37,80,.val ty_0 false,false⟩,⟨38,96,.val ty_0 false,false⟩]
def q26o1:List PE := [⟨4,16,.val .bool false,false⟩]
noncomputable def q26f1(k:Nat)(n:Nat)(x6:PTe q26i1):=spec_bxGood_L250 k n x6.1 x6.2.1 x6.2.2.1 x6.2.2.2.1 x6.2.2.2.2.1 x6.2.2.2.2.2.1
def q26p:List PE := [e29]
noncomputable def q26F(k:Nat):F4:=⟨q26C k,rr q26p [(.bool,false)] Tryz.f208,fun p=>bif Nat.beq p 250 then some (.loop q26i1 q26o1 0 112 (q26f1 k k))else none,0,[]⟩
theorem q26K(k:Nat):Contract Tryz.prog 208 (q26V k):=ctr (q26C k) (rs := [(.bool,false)]) (ps:=q26p) (q26F k) Tryz.f208 16 ⟨tyOf_ok tys_ok,gOf_ok ⟨q11K,q23K,trivial⟩⟩ (annl [250] ⟨lok q26i1 q26o1 0 112 (q26f1 k) k,trivial⟩)

noncomputable def q27V(k:Nat):Variant:=⟨[.val ty_0 false,.val ty_9 false,.val ty_9 false],[(ty_11,true),(.bool,false)],fun x=>spec_bxMake k x.1 x.2.1 x.2.2.1⟩
noncomputable def q27C(k:Nat):Cfg:=⟨Tryz.prog,tyOf tys,53,gOf [(238,[],q24V),(333,[],q25V k),(208,[],q26V k)],false,[],[]⟩
def q27i1:List PE := [e31,e32,⟨29,80,.val ty_0 false,false⟩,⟨30,96,.val ty_0 false,false⟩]
def q27o1:List PE := [e31,e32]
noncomputable def q27f1(k:Nat)(n:Nat)(x4:PTe q27i1):=spec_bxMake_L1814 k n x4.1 x4.2.1 x4.2.2.1 x4.2.2.2.1
def q27i2:List PE := [e31,e32]
def q27o2:List PE := [e31,e32]
noncomputable def q27f2(k:Nat)(n:Nat)(x7:PTe q27i2):=spec_bxMake_L28 k n x7.1 x7.2.1
def q27p:List PE := [e10,⟨1,16,.val ty_9 false,false⟩,⟨2,32,.val ty_9 false,false⟩]
noncomputable def q27F(k:Nat):Fn ((Int×(List Int)×List Int)×Bool):=⟨q27C k,rr q27p [(ty_11,true),(.bool,false)] Tryz.f278,fun p=>bif Nat.beq p 1814 then some (.loop q27i1 q27o1 2 112 (q27f1 k k))else bif Nat.beq p 28 then some (.loop q27i2 q27o2 0 80 (q27f2 k k))else none,0,[]⟩
theorem q27K(k:Nat):Contract Tryz.prog 278 (q27V k):=ctr (q27C k) (rs := [(ty_11,true),(.bool,false)]) (ps:=q27p) (q27F k) Tryz.f278 48 ⟨tyOf_ok tys_ok,gOf_ok ⟨q24K,q25K k,q26K k,trivial⟩⟩ (annl [28,1814] ⟨lok q27i2 q27o2 0 80 (q27f2 k) k,lok q27i1 q27o1 2 112 (q27f1 k) k,trivial⟩)

noncomputable def q28V(k:Nat):Variant:=⟨[.ptr ty_3 true,.val ty_0 false],[(ty_11,true)],fun x=>spec_l1Cur_box k KSl.xs x.1 x.2.1⟩
noncomputable def q28C(k:Nat):Cfg:=⟨Tryz.prog,tyOf tys,98,gOf [(70,[],q5V),(218,[],q23V),(129,[],q2V),(292,[],q20V),(183,[],q21V),(278,[],q27V k)],false,[],[]⟩
def q28i1:List PE := [e1,e6,e33,e14,e7,⟨7,96,.eat ty_0,false⟩,⟨8,112,.eat ty_0,false⟩]
def q28o1:List PE := [e6,e33,e14,⟨7,80,.eat ty_0,false⟩,⟨8,96,.eat ty_0,false⟩,e1]
noncomputable def q28f1(k:Nat)(n:Nat)(x16:PTe q28i1):=spec_l1Cur_box_L124 k KSl.xs n x16.1 x16.2.1 x16.2.2.1 x16.2.2.2.1 x16.2.2.2.2.1 x16.2.2.2.2.2.1 x16.2.2.2.2.2.2.1
def q28i2:List PE := [e6,e33,⟨13,64,.eat ty_0,false⟩,⟨14,80,.eat ty_0,false⟩,e1]
def q28o2:List PE := [⟨4,32,.box ty_11 true,false⟩,⟨13,48,.eat ty_0,false⟩,⟨14,64,.eat ty_0,false⟩,e1]
noncomputable def q28f2(k:Nat)(n:Nat)(x20:PTe q28i2):=spec_l1Cur_box_L8148 k KSl.xs n x20.1 x20.2.1 x20.2.2.1 x20.2.2.2.1 x20.2.2.2.2.1
def q28p:List PE := [e1,e3]
noncomputable def q28F(k:Nat):F8:=⟨q28C k,rr q28p [(ty_11,true)] Tryz.f291,fun p=>bif Nat.beq p 124 then some (.loop q28i1 q28o1 0 128 (q28f1 k k))else bif Nat.beq p 8148 then some (.loop q28i2 q28o2 2 96 (q28f2 k k))else none,0,[0]⟩
theorem q28K(k:Nat):Contract Tryz.prog 291 (q28V k):=ctr (q28C k) (rs := [(ty_11,true)]) (ps:=q28p) (q28F k) Tryz.f291 32 ⟨tyOf_ok tys_ok,gOf_ok ⟨q5K,q23K,q2K,q20K,q21K,q27K k,trivial⟩⟩ (annl [124,8148] ⟨lok q28i1 q28o1 0 128 (q28f1 k) k,lok q28i2 q28o2 2 96 (q28f2 k) k,trivial⟩)

noncomputable def q29V(k:Nat):Variant:=⟨[.ptr ty_3 true,.val ty_0 false],[(ty_11,true)],fun x=>spec_l1Cur_anyBox k KSl.xs x.1 x.2.1⟩
noncomputable def q29C(k:Nat):Cfg:=⟨Tryz.prog,tyOf tys,65,gOf [(291,[],q28V k),(129,[],q2V),(70,[],q5V),(292,[],q20V),(183,[],q21V),(218,[],q23V)],true,[],[]⟩
def q29p:List PE := [e1,e3]
noncomputable def q29F(k:Nat):F8:=⟨q29C k,rr q29p [(ty_11,true)] Tryz.f210,fun p=>none,0,[0]⟩
theorem q29K(k:Nat):Contract Tryz.prog 210 (q29V k):=ctr (q29C k) (rs := [(ty_11,true)]) (ps:=q29p) (q29F k) Tryz.f210 32 ⟨tyOf_ok tys_ok,gOf_ok ⟨q28K k,q2K,q5K,q20K,q21K,q23K,trivial⟩⟩ (annl [] trivial)

noncomputable def q30V(k:Nat):Variant:=⟨[.val (.sl (.int .u8)) false],[(ty_12,false),(ty_11,true)],fun x=>spec_DrawSystemOver k x.1⟩
noncomputable def spec_DrawSystemOver_V0(k:Nat):Variant:=⟨[.val .ks false],[(ty_12,false),(ty_11,true)],fun _=>spec_DrawSystemOver k KSl.xs⟩
noncomputable def q30C(k:Nat):Cfg:=⟨Tryz.prog,tyOf tys,24,gOf [(209,[],q19V k),(292,[],q20V),(183,[],q21V),(91,[],q3V),(89,[],q22V),(210,[],q29V k)],false,[],[]⟩
def q30p:List PE := [⟨0,0,.val .ks false,false⟩]
noncomputable def q30F(k:Nat):F9:=⟨q30C k,rr q30p [(ty_12,false),(ty_11,true)] Tryz.f331,fun p=>bif Nat.beq p 62 then some (.cut [e34,⟨4,32,.box ty_3 false,false⟩,⟨5,48,.eat ty_8,false⟩,e22] 80)else none,0,[]⟩
theorem spec_DrawSystemOver_K0(k:Nat):Contract Tryz.prog 331 (spec_DrawSystemOver_V0 k):=ctr (q30C k) (rs := [(ty_12,false),(ty_11,true)]) (ps:=q30p) (q30F k) Tryz.f331 16 ⟨tyOf_ok tys_ok,gOf_ok ⟨q19K k,q20K,q21K,q3K,q22K,q29K k,trivial⟩⟩ (annl [] trivial)
theorem q30K(k:Nat):Contract Tryz.prog 331 (q30V k):=contractDraw (by kernel_rfl) (fun kk => @spec_DrawSystemOver_K0 kk k)

noncomputable def q31V(k:Nat):Variant:=⟨[.ptr ty_3 true,.val ty_0 false],[(ty_11,true)],fun x=>spec_l1Cur_coarse k KSl.xs x.1 x.2.1⟩
noncomputable def q31C(k:Nat):Cfg:=⟨Tryz.prog,tyOf tys,82,gOf [(70,[],q5V),(218,[],q23V),(129,[],q2V),(292,[],q20V),(183,[],q21V),(278,[],q27V k),(291,[],q28V k)],false,[],[]⟩
def q31i1:List PE := [e1,e6,e33,e14,e7,⟨7,96,.eat ty_0,false⟩,⟨8,112,.eat ty_0,false⟩]
def q31o1:List PE := [e1,e6,e33,e14,⟨7,80,.eat ty_0,false⟩,⟨8,96,.eat ty_0,false⟩]
noncomputable def q31f1(k:Nat)(n:Nat)(x14:PTe q31i1):=spec_l1Cur_coarse_L124 k KSl.xs n x14.1 x14.2.1 x14.2.2.1 x14.2.2.2.1 x14.2.2.2.2.1 x14.2.2.2.2.2.1 x14.2.2.2.2.2.2.1
def q31p:List PE := [e1,e3]
noncomputable def q31F(k:Nat):F8:=⟨q31C k,rr q31p [(ty_11,true)] Tryz.f212,fun p=>bif Nat.beq p 124 then some (.loop q31i1 q31o1 0 128 (q31f1 k k))else none,0,[0]⟩
theorem q31K(k:Nat):Contract Tryz.prog 212 (q31V k):=ctr (q31C k) (rs := [(ty_11,true)]) (ps:=q31p) (q31F k) Tryz.f212 32 ⟨tyOf_ok tys_ok,gOf_ok ⟨q5K,q23K,q2K,q20K,q21K,q27K k,q28K k,trivial⟩⟩ (annl [124] ⟨lok q31i1 q31o1 0 128 (q31f1 k) k,trivial⟩)

noncomputable def q32V(k:Nat):Variant:=⟨[.ptr ty_3 true],[(ty_12,false),(ty_11,true)],fun x=>spec_l1Cur_excluded k KSl.xs x.1⟩
noncomputable def q32C(k:Nat):Cfg:=⟨Tryz.prog,tyOf tys,29,gOf [(91,[],q3V),(332,[],q4V k),(331,[],q30V k),(70,[],q5V),(289,[],q17V k),(212,[],q31V k),(291,[],q28V k)],false,[],[]⟩
def q32p:List PE := [e1]
noncomputable def q32F(k:Nat):F10:=⟨q32C k,rr q32p [(ty_12,false),(ty_11,true)] Tryz.f277,fun p=>none,0,[0]⟩
theorem q32K(k:Nat):Contract Tryz.prog 277 (q32V k):=ctr (q32C k) (rs := [(ty_12,false),(ty_11,true)]) (ps:=q32p) (q32F k) Tryz.f277 16 ⟨tyOf_ok tys_ok,gOf_ok ⟨q3K,q4K k,q30K k,q5K,q17K k,q31K k,q28K k,trivial⟩⟩ (annl [] trivial)

noncomputable def q33V(k:Nat):Variant:=⟨[.ptr ty_3 true],[(ty_12,false),(ty_11,true)],fun x=>spec_l1Cur_newtonPair k KSl.xs x.1⟩
noncomputable def q33C(k:Nat):Cfg:=⟨Tryz.prog,tyOf tys,179,gOf [(129,[],q2V),(277,[],q32V k),(70,[],q5V),(218,[],q23V),(278,[],q27V k),(279,[],q6V),(211,[],q15V k),(91,[],q3V),(212,[],q31V k)],false,[],[]⟩
def q33i1:List PE := [e1,e34,e35,e36,e37,⟨13,80,.eat ty_7,false⟩,⟨112,96,.eat ty_7,false⟩,⟨113,112,.val ty_0 false,false⟩,⟨114,128,.val ty_0 false,false⟩]
def q33o1:List PE := [e1,e34,e35,e36,e37,⟨13,80,.eat ty_7,false⟩]
noncomputable def q33f1(k:Nat)(n:Nat)(x22:PTe q33i1):=spec_l1Cur_newtonPair_L64074 k KSl.xs n x22.1 x22.2.1 x22.2.2.1 x22.2.2.2.1 x22.2.2.2.2.1 x22.2.2.2.2.2.1 x22.2.2.2.2.2.2.1 x22.2.2.2.2.2.2.2.1 x22.2.2.2.2.2.2.2.2.1
def q33i2:List PE := [e1,e34,e35,e36,e37]
def q33o2:List PE := [e1,e34,e35,e36]
noncomputable def q33f2(k:Nat)(n:Nat)(x25:PTe q33i2):=spec_l1Cur_newtonPair_L250 k KSl.xs n x25.1 x25.2.1 x25.2.2.1 x25.2.2.2.1 x25.2.2.2.2.1
def q33i3:List PE := [e1,e34,e35,e36,⟨18,64,.box ty_11 true,false⟩,e38,⟨20,96,.eat ty_0,false⟩,⟨21,112,.eat ty_0,false⟩]
def q33o3:List PE := [e34,⟨11,32,.eat ty_8,false⟩,⟨18,48,.box ty_11 true,false⟩,⟨19,64,.val ty_0 false,false⟩,⟨20,80,.eat ty_0,false⟩,⟨21,96,.eat ty_0,false⟩,e1]
noncomputable def q33f3(k:Nat)(n:Nat)(x35:PTe q33i3):=spec_l1Cur_newtonPair_L16300 k KSl.xs n x35.1 x35.2.1 x35.2.2.1 x35.2.2.2.1 x35.2.2.2.2.1 x35.2.2.2.2.2.1 x35.2.2.2.2.2.2.1 x35.2.2.2.2.2.2.2.1
def q33p:List PE := [e1]
noncomputable def q33F(k:Nat):F10:=⟨q33C k,rr q33p [(ty_12,false),(ty_11,true)] Tryz.f192,fun p=>bif Nat.beq p 3446 then some (.cut [e1,e34,e24] 48)else bif Nat.beq p 64074 then some (.loop q33i1 q33o1 3 144 (q33f1 k k))else bif Nat.beq p 250 then some (.loop q33i2 q33o2 1 80 (q33f2 k k))else bif Nat.beq p 16300 then some (.loop q33i3 q33o3 5 128 (q33f3 k k))else none,0,[0]⟩
theorem q33K(k:Nat):Contract Tryz.prog 192 (q33V k):=ctr (q33C k) (rs := [(ty_12,false),(ty_11,true)]) (ps:=q33p) (q33F k) Tryz.f192 16 ⟨tyOf_ok tys_ok,gOf_ok ⟨q2K,q32K k,q5K,q23K,q27K k,q6K,q15K k,q3K,q31K k,trivial⟩⟩ (annl [250,64074,16300] ⟨lok q33i2 q33o2 1 80 (q33f2 k) k,lok q33i1 q33o1 3 144 (q33f1 k) k,lok q33i3 q33o3 5 128 (q33f3 k) k,trivial⟩)

noncomputable def q34V(k:Nat):Variant:=⟨[.val (.sl (.int .u8)) false],[(ty_12,false),(ty_11,true)],fun x=>spec_DrawMiddleJacobian k x.1⟩
noncomputable def spec_DrawMiddleJacobian_V0(k:Nat):Variant:=⟨[.val .ks false],[(ty_12,false),(ty_11,true)],fun _=>spec_DrawMiddleJacobian k KSl.xs⟩
noncomputable def q34C(k:Nat):Cfg:=⟨Tryz.prog,tyOf tys,12,gOf [(192,[],q33V k)],false,[],[]⟩
def q34p:List PE := [⟨0,0,.val .ks false,false⟩]
noncomputable def q34F(k:Nat):F9:=⟨q34C k,rr q34p [(ty_12,false),(ty_11,true)] Tryz.f100,fun p=>none,0,[]⟩
theorem spec_DrawMiddleJacobian_K0(k:Nat):Contract Tryz.prog 100 (spec_DrawMiddleJacobian_V0 k):=ctr (q34C k) (rs := [(ty_12,false),(ty_11,true)]) (ps:=q34p) (q34F k) Tryz.f100 16 ⟨tyOf_ok tys_ok,gOf_ok ⟨q33K k,trivial⟩⟩ (annl [] trivial)
theorem q34K(k:Nat):Contract Tryz.prog 100 (q34V k):=contractDraw (by kernel_rfl) (fun kk => @spec_DrawMiddleJacobian_K0 kk k)

noncomputable def q35V(k:Nat):Variant:=⟨[.val ty_20 false],[(ty_12,false),(ty_11,true)],fun x=>spec_DrawInverseJacobian k x.1⟩
noncomputable def q35C(k:Nat):Cfg:=⟨Tryz.prog,tyOf tys,8,gOf [(100,[],q34V k)],false,[],[]⟩
def q35p:List PE := [e39]
noncomputable def q35F(k:Nat):F9:=⟨q35C k,rr q35p [(ty_12,false),(ty_11,true)] Tryz.f28,fun p=>none,0,[]⟩
theorem q35K(k:Nat):Contract Tryz.prog 28 (q35V k):=ctr (q35C k) (rs := [(ty_12,false),(ty_11,true)]) (ps:=q35p) (q35F k) Tryz.f28 16 ⟨tyOf_ok tys_ok,gOf_ok ⟨q34K k,trivial⟩⟩ (annl [] trivial)

noncomputable def q36V:Variant:=⟨[.val ty_0 false,.val ty_0 false,.val ty_0 false],[(.bool,false)],fun x=>impl_inside x.1 x.2.1 x.2.2.1⟩
noncomputable def q36C:Cfg:=⟨Tryz.prog,tyOf tys,15,gOf [],false,[],[]⟩
def q36p:List PE := [e10,e3,e5]
noncomputable def q36F:F4:=⟨q36C,rr q36p [(.bool,false)] Tryz.f118,fun p=>none,0,[]⟩
theorem q36K:Contract Tryz.prog 118 (q36V):=ctr q36C (rs := [(.bool,false)]) (ps:=q36p) q36F Tryz.f118 48 ⟨tyOf_ok tys_ok,gOf_ok trivial⟩ (annl [] trivial)

noncomputable def q37V:Variant:=⟨[.val ty_7 true],[(ty_0,false)],fun x=>impl_Term_degree x.1⟩
noncomputable def q37C:Cfg:=⟨Tryz.prog,tyOf tys,11,gOf [],false,[],[]⟩
def q37p:List PE := [e4]
noncomputable def q37F:F2:=⟨q37C,rr q37p [(ty_0,false)] Tryz.f336,fun p=>none,0,[]⟩
theorem q37K:Contract Tryz.prog 336 (q37V):=ctr q37C (rs := [(ty_0,false)]) (ps:=q37p) q37F Tryz.f336 16 ⟨tyOf_ok tys_ok,gOf_ok trivial⟩ (annl [] trivial)

noncomputable def q38V:Variant:=⟨[.val ty_7 true],[(.bool,false)],fun x=>impl_hasDegree x.1⟩
noncomputable def q38C:Cfg:=⟨Tryz.prog,tyOf tys,21,gOf [(118,[],q36V),(336,[],q37V)],false,[],[]⟩
def q38p:List PE := [e4]
noncomputable def q38F:F4:=⟨q38C,rr q38p [(.bool,false)] Tryz.f341,fun p=>none,0,[]⟩
theorem q38K:Contract Tryz.prog 341 (q38V):=ctr q38C (rs := [(.bool,false)]) (ps:=q38p) q38F Tryz.f341 16 ⟨tyOf_ok tys_ok,gOf_ok ⟨q36K,q37K,trivial⟩⟩ (annl [] trivial)

noncomputable def q39V:Variant:=⟨[.val ty_0 false],[(.bool,false)],fun x=>cmp_isNaN_int x.1⟩
noncomputable def q39C:Cfg:=⟨Tryz.prog,tyOf tys,6,gOf [],false,[],[]⟩
def q39p:List PE := [e10]
noncomputable def q39F:F4:=⟨q39C,rr q39p [(.bool,false)] Tryz.f368,fun p=>none,0,[]⟩
theorem q39K:Contract Tryz.prog 368 (q39V):=ctr q39C (rs := [(.bool,false)]) (ps:=q39p) q39F Tryz.f368 16 ⟨tyOf_ok tys_ok,gOf_ok trivial⟩ (annl [] trivial)

noncomputable def q40V:Variant:=⟨[.val ty_0 false,.val ty_0 false],[(ty_0,false)],fun x=>cmp_Compare_int x.1 x.2.1⟩
noncomputable def q40C:Cfg:=⟨Tryz.prog,tyOf tys,20,gOf [(368,[],q39V)],false,[],[]⟩
def q40p:List PE := [e10,e3]
noncomputable def q40F:F2:=⟨q40C,rr q40p [(ty_0,false)] Tryz.f358,fun p=>none,0,[]⟩
theorem q40K:Contract Tryz.prog 358 (q40V):=ctr q40C (rs := [(ty_0,false)]) (ps:=q40p) q40F Tryz.f358 32 ⟨tyOf_ok tys_ok,gOf_ok ⟨q39K,trivial⟩⟩ (annl [] trivial)

noncomputable def q41V(k:Nat):Variant:=⟨[.val ty_9 false],[(ty_0,false)],fun x=>cmp_Or_int k x.1⟩
noncomputable def q41C(k:Nat):Cfg:=⟨Tryz.prog,tyOf tys,18,gOf [],false,[],[]⟩
def q41i1:List PE := [e2,⟨6,32,.val ty_9 false,false⟩,e27,e28]
def q41o1:List PE := [e2]
noncomputable def q41f1(k:Nat)(n:Nat)(x1:PTe q41i1):=cmp_Or_int_L58 k n x1.1 x1.2.1 x1.2.2.1 x1.2.2.2.1
def q41p:List PE := [⟨0,0,.val ty_9 false,false⟩]
noncomputable def q41F(k:Nat):F2:=⟨q41C k,rr q41p [(ty_0,false)] Tryz.f327,fun p=>bif Nat.beq p 58 then some (.loop q41i1 q41o1 0 80 (q41f1 k k))else none,0,[]⟩
theorem q41K(k:Nat):Contract Tryz.prog 327 (q41V k):=ctr (q41C k) (rs := [(ty_0,false)]) (ps:=q41p) (q41F k) Tryz.f327 16 ⟨tyOf_ok tys_ok,gOf_ok trivial⟩ (annl [58] ⟨lok q41i1 q41o1 0 80 (q41f1 k) k,trivial⟩)

noncomputable def q42V(k:Nat):Variant:=⟨[.val ty_7 true,.val ty_7 true],[(ty_0,false)],fun x=>impl_compareTerms k x.1 x.2.1⟩
noncomputable def q42C(k:Nat):Cfg:=⟨Tryz.prog,tyOf tys,22,gOf [(358,[],q40V),(327,[],q41V k)],false,[],[]⟩
def q42p:List PE := [e4,e11]
noncomputable def q42F(k:Nat):F2:=⟨q42C k,rr q42p [(ty_0,false)] Tryz.f342,fun p=>none,0,[]⟩
theorem q42K(k:Nat):Contract Tryz.prog 342 (q42V k):=ctr (q42C k) (rs := [(ty_0,false)]) (ps:=q42p) (q42F k) Tryz.f342 32 ⟨tyOf_ok tys_ok,gOf_ok ⟨q40K,q41K k,trivial⟩⟩ (annl [] trivial)

noncomputable def q43V(k:Nat):Variant:=⟨[.val ty_8 false],[(.bool,false)],fun x=>impl_isPoly k x.1⟩
noncomputable def q43C(k:Nat):Cfg:=⟨Tryz.prog,tyOf tys,44,gOf [(118,[],q36V),(341,[],q38V),(342,[],q42V k)],false,[],[]⟩
def q43i1:List PE := [e16,⟨5,32,.val ty_8 false,false⟩,e17,e18]
def q43o1:List PE := [e16]
noncomputable def q43f1(k:Nat)(n:Nat)(x4:PTe q43i1):=impl_isPoly_L26 k n x4.1 x4.2.1 x4.2.2.1 x4.2.2.2.1
def q43p:List PE := [e15]
noncomputable def q43F(k:Nat):F4:=⟨q43C k,rr q43p [(.bool,false)] Tryz.f294,fun p=>bif Nat.beq p 26 then some (.loop q43i1 q43o1 0 80 (q43f1 k k))else none,0,[]⟩
theorem q43K(k:Nat):Contract Tryz.prog 294 (q43V k):=ctr (q43C k) (rs := [(.bool,false)]) (ps:=q43p) (q43F k) Tryz.f294 16 ⟨tyOf_ok tys_ok,gOf_ok ⟨q36K,q38K,q42K k,trivial⟩⟩ (annl [26] ⟨lok q43i1 q43o1 0 80 (q43f1 k) k,trivial⟩)

noncomputable def q44V:Variant:=⟨[.val ty_7 true],[(ty_6,true)],fun x=>impl_Term_exponents x.1⟩
noncomputable def q44C:Cfg:=⟨Tryz.prog,tyOf tys,10,gOf [],false,[],[]⟩
def q44p:List PE := [e4]
noncomputable def q44F:Fn (Int×Int×Int):=⟨q44C,rr q44p [(ty_6,true)] Tryz.f306,fun p=>none,0,[]⟩
theorem q44K:Contract Tryz.prog 306 (q44V):=ctr q44C (rs := [(ty_6,true)]) (ps:=q44p) q44F Tryz.f306 16 ⟨tyOf_ok tys_ok,gOf_ok trivial⟩ (annl [] trivial)

noncomputable def q45V(k:Nat):Variant:=⟨[.val ty_8 false,.val ty_0 false],[(.bool,false)],fun x=>impl_needsAtMost k x.1 x.2.1⟩
noncomputable def q45C(k:Nat):Cfg:=⟨Tryz.prog,tyOf tys,30,gOf [(306,[],q44V)],false,[],[]⟩
def q45i1:List PE := [e6,e40,e41,e42,⟨16,96,.val ty_6 true,false⟩,e43]
def q45o1:List PE := [e6,e40,e41,e42]
noncomputable def q45f1(k:Nat)(n:Nat)(x2:PTe q45i1):=impl_needsAtMost_L6758 k n x2.1 x2.2.1 x2.2.2.1 x2.2.2.2.1 x2.2.2.2.2.1 x2.2.2.2.2.2.1
def q45i2:List PE := [e6,e40,e41,e42]
def q45o2:List PE := []
noncomputable def q45f2(k:Nat)(n:Nat)(x5:PTe q45i2):=impl_needsAtMost_L26 k n x5.1 x5.2.1 x5.2.2.1 x5.2.2.2.1
def q45p:List PE := [e15,e3]
noncomputable def q45F(k:Nat):F4:=⟨q45C k,rr q45p [(.bool,false)] Tryz.f295,fun p=>bif Nat.beq p 6758 then some (.loop q45i1 q45o1 2 128 (q45f1 k k))else bif Nat.beq p 26 then some (.loop q45i2 q45o2 0 96 (q45f2 k k))else none,0,[]⟩
theorem q45K(k:Nat):Contract Tryz.prog 295 (q45V k):=ctr (q45C k) (rs := [(.bool,false)]) (ps:=q45p) (q45F k) Tryz.f295 32 ⟨tyOf_ok tys_ok,gOf_ok ⟨q44K,trivial⟩⟩ (annl [26,6758] ⟨lok q45i2 q45o2 0 96 (q45f2 k) k,lok q45i1 q45o1 2 128 (q45f1 k) k,trivial⟩)

noncomputable def q46V(k:Nat):Variant:=⟨[.val ty_12 false],[(.bool,false)],fun x=>impl_isSystem k x.1⟩
noncomputable def q46C(k:Nat):Cfg:=⟨Tryz.prog,tyOf tys,25,gOf [(294,[],q43V k),(295,[],q45V k),(118,[],q36V)],false,[],[]⟩
def q46i1:List PE := [e44,⟨5,32,.val ty_12 false,false⟩,e17,e18]
def q46o1:List PE := [e44]
noncomputable def q46f1(k:Nat)(n:Nat)(x3:PTe q46i1):=impl_isSystem_L26 k n x3.1 x3.2.1 x3.2.2.1 x3.2.2.2.1
def q46p:List PE := [e45]
noncomputable def q46F(k:Nat):F4:=⟨q46C k,rr q46p [(.bool,false)] Tryz.f213,fun p=>bif Nat.beq p 26 then some (.loop q46i1 q46o1 0 80 (q46f1 k k))else none,0,[]⟩
theorem q46K(k:Nat):Contract Tryz.prog 213 (q46V k):=ctr (q46C k) (rs := [(.bool,false)]) (ps:=q46p) (q46F k) Tryz.f213 16 ⟨tyOf_ok tys_ok,gOf_ok ⟨q43K k,q45K k,q36K,trivial⟩⟩ (annl [26] ⟨lok q46i1 q46o1 0 80 (q46f1 k) k,trivial⟩)

noncomputable def q47V(k:Nat):Variant:=⟨[.ptr ty_11 false],[(.bool,false)],fun x=>impl_isBox k x.1⟩
noncomputable def q47C(k:Nat):Cfg:=⟨Tryz.prog,tyOf tys,94,gOf [(118,[],q36V)],false,[],[]⟩
def q47i1:List PE := [e46,e30,⟨4,48,.val .bool false,false⟩,⟨48,64,.val ty_9 false,false⟩,⟨49,80,.val ty_0 false,false⟩,⟨50,96,.val ty_0 false,false⟩]
def q47o1:List PE := [⟨4,16,.val .bool false,false⟩]
noncomputable def q47f1(k:Nat)(n:Nat)(x5:PTe q47i1):=impl_isBox_L122 k n x5.1 x5.2.1 x5.2.2.1 x5.2.2.2.1 x5.2.2.2.2.1 x5.2.2.2.2.2.1
def q47p:List PE := [e47]
noncomputable def q47F(k:Nat):F4:=⟨q47C k,rr q47p [(.bool,false)] Tryz.f280,fun p=>bif Nat.beq p 122 then some (.loop q47i1 q47o1 0 112 (q47f1 k k))else none,0,[]⟩
theorem q47K(k:Nat):Contract Tryz.prog 280 (q47V k):=ctr (q47C k) (rs := [(.bool,false)]) (ps:=q47p) (q47F k) Tryz.f280 16 ⟨tyOf_ok tys_ok,gOf_ok ⟨q36K,trivial⟩⟩ (annl [122] ⟨lok q47i1 q47o1 0 112 (q47f1 k) k,trivial⟩)

noncomputable def q48V(k:Nat):Variant:=⟨[.val ty_12 false,.ptr ty_11 false],[(.bool,false)],fun x=>impl_systemOver k x.1 x.2.1⟩
noncomputable def q48C(k:Nat):Cfg:=⟨Tryz.prog,tyOf tys,21,gOf [(213,[],q46V k),(280,[],q47V k)],false,[],[]⟩
def q48p:List PE := [e45,e48]
noncomputable def q48F(k:Nat):F4:=⟨q48C k,rr q48p [(.bool,false)] Tryz.f193,fun p=>none,0,[]⟩
theorem q48K(k:Nat):Contract Tryz.prog 193 (q48V k):=ctr (q48C k) (rs := [(.bool,false)]) (ps:=q48p) (q48F k) Tryz.f193 32 ⟨tyOf_ok tys_ok,gOf_ok ⟨q46K k,q47K k,trivial⟩⟩ (annl [] trivial)

noncomputable def q49V(k:Nat):Variant:=⟨[.val ty_12 false,.ptr ty_11 false],[(.bool,false)],fun x=>impl_newtonFits k x.1 x.2.1⟩
noncomputable def q49C(k:Nat):Cfg:=⟨Tryz.prog,tyOf tys,15,gOf [(193,[],q48V k)],false,[],[]⟩
def q49p:List PE := [e45,e48]
noncomputable def q49F(k:Nat):F4:=⟨q49C k,rr q49p [(.bool,false)] Tryz.f101,fun p=>none,0,[]⟩
theorem q49K(k:Nat):Contract Tryz.prog 101 (q49V k):=ctr (q49C k) (rs := [(.bool,false)]) (ps:=q49p) (q49F k) Tryz.f101 32 ⟨tyOf_ok tys_ok,gOf_ok ⟨q48K k,trivial⟩⟩ (annl [] trivial)

noncomputable def q50V:Variant:=⟨[.val ty_0 false,.val ty_6 true],[(ty_7,true)],fun x=>impl_termOf x.1 x.2.1⟩
noncomputable def q50C:Cfg:=⟨Tryz.prog,tyOf tys,13,gOf [],false,[],[]⟩
def q50p:List PE := [e10,⟨1,16,.val ty_6 true,false⟩]
noncomputable def q50F:Fn (Int×Int×Int×Int):=⟨q50C,rr q50p [(ty_7,true)] Tryz.f354,fun p=>none,0,[]⟩
theorem q50K:Contract Tryz.prog 354 (q50V):=ctr q50C (rs := [(ty_7,true)]) (ps:=q50p) q50F Tryz.f354 32 ⟨tyOf_ok tys_ok,gOf_ok trivial⟩ (annl [] trivial)

noncomputable def q51V:Variant:=⟨[.val ty_8 false],[(ty_8,false)],fun x=>slices_Clone_Term_Term x.1⟩
noncomputable def q51C:Cfg:=⟨Tryz.prog,tyOf tys,8,gOf [],false,[],[]⟩
def q51p:List PE := [e15]
noncomputable def q51F:F3:=⟨q51C,rr q51p [(ty_8,false)] Tryz.f363,fun p=>none,0,[]⟩
theorem q51eq(x:PTe q51p):evFnN false (q51F) (codeOf Tryz.f363) q51p 16 x=slices_Clone_Term_Term x.1:=by kernel_rfl
theorem q51e0(x:(Unit)):evFnN true (q51F) (codeOf Tryz.f363) q51p 16 (([]:List (Int×Int×Int×Int)),x)=slices_Clone_Term_Term []:=by kernel_rfl
theorem q51K:Contract Tryz.prog 363 (q51V) :=
 contractN (C:=q51C) (F:=q51F) (fn:=Tryz.f363) (ps:=q51p) (rs := [(ty_8,false)]) (nx:=16) rfl ⟨tyOf_ok tys_ok,gOf_ok trivial⟩ rfl (by kernel_rfl) (by kernel_rfl) (by kernel_rfl) (by kernel_rfl) (by kernel_rfl) (by kernel_rfl) rfl (by kernel_rfl) (by kernel_rfl) (AnnOk_list [] (by kernel_rfl) trivial) mix_ok (q51eq) (fun x h=>by obtain⟨x1,x2⟩:=x;have h:x1 = []:=h;subst h;exact q51e0 x2)

noncomputable def q52V(k:Nat):Variant:=⟨[.own ty_7,.val ty_0 false,.val ty_0 false,.fn 342 []],[],fun x=>slices_insertionSortCmpFunc_Term_impl_compareTerms k x.1 x.2.1 x.2.2.1 x.2.2.2.1⟩
noncomputable def q52C(k:Nat):Cfg:=⟨Tryz.prog,tyOf tys,53,gOf [(342,[],q42V k)],false,[],[]⟩
def q52i1:List PE := [e49,e50,e51,e52,e9,⟨9,128,.val ty_0 false,false⟩]
def q52o1:List PE := [e49,e50,e51,e52,e9]
noncomputable def q52f1(k:Nat)(n:Nat)(x2:PTe q52i1):=slices_insertionSortCmpFunc_Term_impl_compareTerms_L402 k n x2.1 x2.2.1 x2.2.2.1 x2.2.2.2.1 x2.2.2.2.2.1 x2.2.2.2.2.2.1
def q52i2:List PE := [e49,e50,e51,e52,e9]
def q52o2:List PE := [e49]
noncomputable def q52f2(k:Nat)(n:Nat)(x5:PTe q52i2):=slices_insertionSortCmpFunc_Term_impl_compareTerms_L6 k n x5.1 x5.2.1 x5.2.2.1 x5.2.2.2.1 x5.2.2.2.2.1
def q52p:List PE := [e49,e3,e5,⟨3,48,.fn 342 [],false⟩]
noncomputable def q52F(k:Nat):F3:=⟨q52C k,rr q52p [] Tryz.f376,fun p=>bif Nat.beq p 402 then some (.loop q52i1 q52o1 2 144 (q52f1 k k))else bif Nat.beq p 6 then some (.loop q52i2 q52o2 0 128 (q52f2 k k))else none,0,[0]⟩
theorem q52K(k:Nat):Contract Tryz.prog 376 (q52V k):=ctr (q52C k) (rs := []) (ps:=q52p) (q52F k) Tryz.f376 64 ⟨tyOf_ok tys_ok,gOf_ok ⟨q42K k,trivial⟩⟩ (annl [6,402] ⟨lok q52i2 q52o2 0 128 (q52f2 k) k,lok q52i1 q52o1 2 144 (q52f1 k) k,trivial⟩)

noncomputable def q53V(k:Nat):Variant:=⟨[.own ty_7,.val ty_0 false,.fn 342 []],[],fun x=>slices_stableCmpFunc_Term_impl_compareTerms k x.1 x.2.1 x.2.2.1⟩
noncomputable def q53C(k:Nat):Cfg:=⟨Tryz.prog,tyOf tys,63,gOf [(376,[342],q52V k)],false,[],[]⟩
def q53i1:List PE := [e49,e53,e54,e7,e8,e9]
def q53o1:List PE := [e49,e53,e54,e7,e8]
noncomputable def q53f1(k:Nat)(n:Nat)(x2:PTe q53i1):=slices_stableCmpFunc_Term_impl_compareTerms_L28 k n x2.1 x2.2.1 x2.2.2.1 x2.2.2.2.1 x2.2.2.2.2.1 x2.2.2.2.2.2.1
def q53i2:List PE := [e49,e53,e54,e7,e8,e9]
def q53o2:List PE := [e49,e53,e54,e7,e8]
noncomputable def q53f2(k:Nat)(n:Nat)(x6:PTe q53i2):=slices_stableCmpFunc_Term_impl_compareTerms_L3988 k n x6.1 x6.2.1 x6.2.2.1 x6.2.2.2.1 x6.2.2.2.2.1 x6.2.2.2.2.2.1
def q53i3:List PE := [e49,e53,e54,e7]
def q53o3:List PE := [e49]
noncomputable def q53f3(k:Nat)(n:Nat)(x9:PTe q53i3):=slices_stableCmpFunc_Term_impl_compareTerms_L62 k n x9.1 x9.2.1 x9.2.2.1 x9.2.2.2.1
def q53p:List PE := [e49,e3,⟨2,32,.fn 342 [],false⟩]
noncomputable def q53F(k:Nat):F3:=⟨q53C k,rr q53p [] Tryz.f372,fun p=>bif Nat.beq p 28 then some (.loop q53i1 q53o1 0 128 (q53f1 k k))else bif Nat.beq p 3988 then some (.loop q53i2 q53o2 4 128 (q53f2 k k))else bif Nat.beq p 62 then some (.loop q53i3 q53o3 2 96 (q53f3 k k))else none,0,[0]⟩
theorem q53K(k:Nat):Contract Tryz.prog 372 (q53V k):=ctr (q53C k) (rs := []) (ps:=q53p) (q53F k) Tryz.f372 48 ⟨tyOf_ok tys_ok,gOf_ok ⟨q52K k,trivial⟩⟩ (annl [28,62,3988] ⟨lok q53i1 q53o1 0 128 (q53f1 k) k,lok q53i3 q53o3 2 96 (q53f3 k) k,lok q53i2 q53o2 4 128 (q53f2 k) k,trivial⟩)

noncomputable def q54V(k:Nat):Variant:=⟨[.own ty_7,.fn 342 []],[],fun x=>slices_SortStableFunc_Term_Term_impl_compareTerms k x.1 x.2.1⟩
noncomputable def q54C(k:Nat):Cfg:=⟨Tryz.prog,tyOf tys,9,gOf [(372,[342],q53V k)],false,[],[]⟩
def q54p:List PE := [e49,⟨1,16,.fn 342 [],false⟩]
noncomputable def q54F(k:Nat):F3:=⟨q54C k,rr q54p [] Tryz.f364,fun p=>none,0,[0]⟩
theorem q54K(k:Nat):Contract Tryz.prog 364 (q54V k):=ctr (q54C k) (rs := []) (ps:=q54p) (q54F k) Tryz.f364 32 ⟨tyOf_ok tys_ok,gOf_ok ⟨q53K k,trivial⟩⟩ (annl [] trivial)

noncomputable def q55V:Variant:=⟨[.val ty_7 true],[(.bool,false)],fun x=>impl_collect_1 x.1⟩
noncomputable def q55C:Cfg:=⟨Tryz.prog,tyOf tys,6,gOf [],false,[],[]⟩
def q55p:List PE := [e4]
noncomputable def q55F:F4:=⟨q55C,rr q55p [(.bool,false)] Tryz.f366,fun p=>none,0,[]⟩
theorem q55K:Contract Tryz.prog 366 (q55V):=ctr q55C (rs := [(.bool,false)]) (ps:=q55p) q55F Tryz.f366 16 ⟨tyOf_ok tys_ok,gOf_ok trivial⟩ (annl [] trivial)

noncomputable def q56V(k:Nat):Variant:=⟨[.val ty_8 false,.fn 366 []],[(ty_0,false)],fun x=>slices_IndexFunc_Term_Term_impl_collect_1 k x.1 x.2.1⟩
noncomputable def q56C(k:Nat):Cfg:=⟨Tryz.prog,tyOf tys,19,gOf [(366,[],q55V)],false,[],[]⟩
def q56i1:List PE := [e12,⟨1,48,.fn 366 [],false⟩,e18,e25]
def q56o1:List PE := []
noncomputable def q56f1(k:Nat)(n:Nat)(x2:PTe q56i1):=slices_IndexFunc_Term_Term_impl_collect_1_L26 k n x2.1 x2.2.1 x2.2.2.1 x2.2.2.2.1
def q56p:List PE := [e15,⟨1,16,.fn 366 [],false⟩]
noncomputable def q56F(k:Nat):F2:=⟨q56C k,rr q56p [(ty_0,false)] Tryz.f373,fun p=>bif Nat.beq p 26 then some (.loop q56i1 q56o1 0 96 (q56f1 k k))else none,0,[]⟩
theorem q56K(k:Nat):Contract Tryz.prog 373 (q56V k):=ctr (q56C k) (rs := [(ty_0,false)]) (ps:=q56p) (q56F k) Tryz.f373 32 ⟨tyOf_ok tys_ok,gOf_ok ⟨q55K,trivial⟩⟩ (annl [26] ⟨lok q56i1 q56o1 0 96 (q56f1 k) k,trivial⟩)

noncomputable def q57V(k:Nat):Variant:=⟨[.eat ty_7,.fn 366 []],[(ty_8,false)],fun x=>slices_DeleteFunc_Term_Term_impl_collect_1 k x.1 x.2.1⟩
noncomputable def q57C(k:Nat):Cfg:=⟨Tryz.prog,tyOf tys,42,gOf [(373,[366],q56V k),(366,[],q55V)],true,[],[]⟩
def q57i1:List PE := [⟨0,32,.eat ty_7,false⟩,⟨1,48,.fn 366 [],false⟩,e14,e7]
def q57o1:List PE := [⟨0,32,.eat ty_7,false⟩,e55]
noncomputable def q57f1(k:Nat)(n:Nat)(x3:PTe q57i1):=slices_DeleteFunc_Term_Term_impl_collect_1_L122 k n x3.1 x3.2.1 x3.2.2.1 x3.2.2.2.1
def q57p:List PE := [⟨0,0,.eat ty_7,false⟩,⟨1,16,.fn 366 [],false⟩]
noncomputable def q57F(k:Nat):F3:=⟨q57C k,rr q57p [(ty_8,false)] Tryz.f365,fun p=>bif Nat.beq p 122 then some (.loop q57i1 q57o1 0 96 (q57f1 k k))else none,0,[]⟩
theorem q57K(k:Nat):Contract Tryz.prog 365 (q57V k):=ctr (q57C k) (rs := [(ty_8,false)]) (ps:=q57p) (q57F k) Tryz.f365 32 ⟨tyOf_ok tys_ok,gOf_ok ⟨q56K k,q55K,trivial⟩⟩ (annl [122] ⟨lok q57i1 q57o1 0 96 (q57f1 k) k,trivial⟩)

noncomputable def q58V(k:Nat):Variant:=⟨[.val ty_8 false],[(ty_8,false)],fun x=>impl_collect k x.1⟩
noncomputable def q58C(k:Nat):Cfg:=⟨Tryz.prog,tyOf tys,50,gOf [(363,[],q51V),(364,[342],q54V k),(342,[],q42V k),(365,[366],q57V k)],false,[],[]⟩
def q58i1:List PE := [e19,⟨12,32,.eat ty_7,false⟩,⟨13,48,.val ty_0 false,false⟩,e56]
def q58o1:List PE := [e19]
noncomputable def q58f1(k:Nat)(n:Nat)(x4:PTe q58i1):=impl_collect_L250 k n x4.1 x4.2.1 x4.2.2.1 x4.2.2.2.1
def q58p:List PE := [e15]
noncomputable def q58F(k:Nat):F3:=⟨q58C k,rr q58p [(ty_8,false)] Tryz.f355,fun p=>bif Nat.beq p 250 then some (.loop q58i1 q58o1 0 80 (q58f1 k k))else none,0,[]⟩
theorem q58K(k:Nat):Contract Tryz.prog 355 (q58V k):=ctr (q58C k) (rs := [(ty_8,false)]) (ps:=q58p) (q58F k) Tryz.f355 16 ⟨tyOf_ok tys_ok,gOf_ok ⟨q51K,q54K k,q42K k,q57K k,trivial⟩⟩ (annl [250] ⟨lok q58i1 q58o1 0 80 (q58f1 k) k,trivial⟩)

noncomputable def q59V(k:Nat):Variant:=⟨[.val ty_8 false,.val ty_0 false],[(ty_8,false)],fun x=>impl_derive k x.1 x.2.1⟩
noncomputable def q59C(k:Nat):Cfg:=⟨Tryz.prog,tyOf tys,40,gOf [(306,[],q44V),(354,[],q50V),(355,[],q58V k)],false,[],[]⟩
def q59i1:List PE := [e6,e21,⟨10,64,.val ty_8 false,false⟩,e42,e57]
def q59o1:List PE := [e23]
noncomputable def q59f1(k:Nat)(n:Nat)(x29:PTe q59i1):=impl_derive_L58 k n x29.1 x29.2.1 x29.2.2.1 x29.2.2.2.1 x29.2.2.2.2.1
def q59p:List PE := [e15,e3]
noncomputable def q59F(k:Nat):F3:=⟨q59C k,rr q59p [(ty_8,false)] Tryz.f334,fun p=>bif Nat.beq p 58 then some (.loop q59i1 q59o1 0 112 (q59f1 k k))else none,0,[]⟩
theorem q59K(k:Nat):Contract Tryz.prog 334 (q59V k):=ctr (q59C k) (rs := [(ty_8,false)]) (ps:=q59p) (q59F k) Tryz.f334 32 ⟨tyOf_ok tys_ok,gOf_ok ⟨q44K,q50K,q58K k,trivial⟩⟩ (annl [58] ⟨lok q59i1 q59o1 0 112 (q59f1 k) k,trivial⟩)

noncomputable def q60V:Variant:=⟨[.val ty_0 false],[(ty_1,false)],fun x=>impl_size x.1⟩
noncomputable def q60C:Cfg:=⟨Tryz.prog,tyOf tys,10,gOf [],false,[],[]⟩
def q60p:List PE := [e10]
noncomputable def q60F:F2:=⟨q60C,rr q60p [(ty_1,false)] Tryz.f272,fun p=>none,0,[]⟩
theorem q60K:Contract Tryz.prog 272 (q60V):=ctr q60C (rs := [(ty_1,false)]) (ps:=q60p) q60F Tryz.f272 16 ⟨tyOf_ok tys_ok,gOf_ok trivial⟩ (annl [] trivial)

noncomputable def q61V:Variant:=⟨[.val ty_0 false],[(ty_14,true)],fun x=>impl_wideOf x.1⟩
noncomputable def q61C:Cfg:=⟨Tryz.prog,tyOf tys,8,gOf [(272,[],q60V)],false,[],[]⟩
def q61p:List PE := [e10]
noncomputable def q61F:F11:=⟨q61C,rr q61p [(ty_14,true)] Tryz.f230,fun p=>none,0,[]⟩
theorem q61K:Contract Tryz.prog 230 (q61V):=ctr q61C (rs := [(ty_14,true)]) (ps:=q61p) q61F Tryz.f230 16 ⟨tyOf_ok tys_ok,gOf_ok ⟨q60K,trivial⟩⟩ (annl [] trivial)

noncomputable def q62V:Variant:=⟨[.val ty_14 true],[(.bool,false)],fun x=>impl_wide_isZero x.1⟩
noncomputable def q62C:Cfg:=⟨Tryz.prog,tyOf tys,11,gOf [],false,[],[]⟩
def q62p:List PE := [e58]
noncomputable def q62F:F4:=⟨q62C,rr q62p [(.bool,false)] Tryz.f307,fun p=>none,0,[]⟩
theorem q62K:Contract Tryz.prog 307 (q62V):=ctr q62C (rs := [(.bool,false)]) (ps:=q62p) q62F Tryz.f307 16 ⟨tyOf_ok tys_ok,gOf_ok trivial⟩ (annl [] trivial)

noncomputable def q63V:Variant:=⟨[.val ty_14 true,.val ty_0 false],[(ty_14,true)],fun x=>impl_wide_shift x.1 x.2.1⟩
noncomputable def q63C:Cfg:=⟨Tryz.prog,tyOf tys,63,gOf [],false,[],[]⟩
def q63p:List PE := [e58,e3]
noncomputable def q63F:F11:=⟨q63C,rr q63p [(ty_14,true)] Tryz.f264,fun p=>none,0,[]⟩
theorem q63K:Contract Tryz.prog 264 (q63V):=ctr q63C (rs := [(ty_14,true)]) (ps:=q63p) q63F Tryz.f264 32 ⟨tyOf_ok tys_ok,gOf_ok trivial⟩ (annl [] trivial)

noncomputable def q64V(k:Nat):Variant:=⟨[.val ty_14 true,.val ty_0 false],[(ty_5,true),(.bool,false)],fun x=>impl_wide_fit k x.1 x.2.1⟩
noncomputable def q64C(k:Nat):Cfg:=⟨Tryz.prog,tyOf tys,45,gOf [(307,[],q62V),(264,[],q63V)],false,[],[]⟩
def q64i1:List PE := [e6,⟨2,48,.box ty_14 false,false⟩,e59]
def q64o1:List PE := [e6,⟨2,48,.box ty_14 false,false⟩,e59]
noncomputable def q64f1(k:Nat)(n:Nat)(x3:PTe q64i1):=impl_wide_fit_L28 k n x3.1 x3.2.1 x3.2.2.1
def q64p:List PE := [e58,e3]
noncomputable def q64F(k:Nat):F12:=⟨q64C k,rr q64p [(ty_5,true),(.bool,false)] Tryz.f231,fun p=>bif Nat.beq p 28 then some (.loop q64i1 q64o1 0 80 (q64f1 k k))else none,0,[]⟩
theorem q64K(k:Nat):Contract Tryz.prog 231 (q64V k):=ctr (q64C k) (rs := [(ty_5,true),(.bool,false)]) (ps:=q64p) (q64F k) Tryz.f231 32 ⟨tyOf_ok tys_ok,gOf_ok ⟨q62K,q63K,trivial⟩⟩ (annl [28] ⟨lok q64i1 q64o1 0 80 (q64f1 k) k,trivial⟩)

noncomputable def q65V(k:Nat):Variant:=⟨[.ptr ty_11 false,.val ty_0 false],[(ty_5,true)],fun x=>impl_Box_dyadic k x.1 x.2.1⟩
noncomputable def q65C(k:Nat):Cfg:=⟨Tryz.prog,tyOf tys,18,gOf [(230,[],q61V),(231,[],q64V k)],false,[],[]⟩
def q65p:List PE := [e47,e3]
noncomputable def q65F(k:Nat):F13:=⟨q65C k,rr q65p [(ty_5,true)] Tryz.f367,fun p=>none,0,[]⟩
theorem q65K(k:Nat):Contract Tryz.prog 367 (q65V k):=ctr (q65C k) (rs := [(ty_5,true)]) (ps:=q65p) (q65F k) Tryz.f367 32 ⟨tyOf_ok tys_ok,gOf_ok ⟨q61K,q64K k,trivial⟩⟩ (annl [] trivial)

noncomputable def q66V(k:Nat):Variant:=⟨[.ptr ty_11 false,.val ty_0 false],[(ty_5,true),(ty_5,true)],fun x=>impl_Box_side k x.1 x.2.1⟩
noncomputable def q66C(k:Nat):Cfg:=⟨Tryz.prog,tyOf tys,24,gOf [(367,[],q65V k)],false,[],[]⟩
def q66p:List PE := [e47,e3]
noncomputable def q66F(k:Nat):F14:=⟨q66C k,rr q66p [(ty_5,true),(ty_5,true)] Tryz.f356,fun p=>none,0,[]⟩
theorem q66K(k:Nat):Contract Tryz.prog 356 (q66V k):=ctr (q66C k) (rs := [(ty_5,true),(ty_5,true)]) (ps:=q66p) (q66F k) Tryz.f356 32 ⟨tyOf_ok tys_ok,gOf_ok ⟨q65K k,trivial⟩⟩ (annl [] trivial)

noncomputable def q67V(k:Nat):Variant:=⟨[.ptr ty_11 false],[(ty_16,false)],fun x=>impl_Box_sides k x.1⟩
noncomputable def q67C(k:Nat):Cfg:=⟨Tryz.prog,tyOf tys,29,gOf [(356,[],q66V k)],false,[],[]⟩
def q67i1:List PE := [e46,⟨3,32,.eat ty_15,false⟩,⟨11,48,.val ty_0 false,false⟩,e37]
def q67o1:List PE := [⟨3,16,.eat ty_15,false⟩]
noncomputable def q67f1(k:Nat)(n:Nat)(x2:PTe q67i1):=impl_Box_sides_L58 k n x2.1 x2.2.1 x2.2.2.1 x2.2.2.2.1
def q67p:List PE := [e47]
noncomputable def q67F(k:Nat):Fn (List ((Int×Int)×Int×Int)):=⟨q67C k,rr q67p [(ty_16,false)] Tryz.f335,fun p=>bif Nat.beq p 58 then some (.loop q67i1 q67o1 0 80 (q67f1 k k))else none,0,[]⟩
theorem q67K(k:Nat):Contract Tryz.prog 335 (q67V k):=ctr (q67C k) (rs := [(ty_16,false)]) (ps:=q67p) (q67F k) Tryz.f335 16 ⟨tyOf_ok tys_ok,gOf_ok ⟨q66K k,trivial⟩⟩ (annl [58] ⟨lok q67i1 q67o1 0 80 (q67f1 k) k,trivial⟩)

noncomputable def q68V:Variant:=⟨[.val ty_0 false],[(ty_5,true)],fun x=>impl_integer x.1⟩
noncomputable def q68C:Cfg:=⟨Tryz.prog,tyOf tys,5,gOf [],false,[],[]⟩
def q68p:List PE := [e10]
noncomputable def q68F:F13:=⟨q68C,rr q68p [(ty_5,true)] Tryz.f169,fun p=>none,0,[]⟩
theorem q68K:Contract Tryz.prog 169 (q68V):=ctr q68C (rs := [(ty_5,true)]) (ps:=q68p) q68F Tryz.f169 16 ⟨tyOf_ok tys_ok,gOf_ok trivial⟩ (annl [] trivial)

noncomputable def q69V:Variant:=⟨[.val ty_5 true],[(ty_15,true)],fun x=>impl_single x.1⟩
noncomputable def q69C:Cfg:=⟨Tryz.prog,tyOf tys,6,gOf [],false,[],[]⟩
def q69p:List PE := [e60]
noncomputable def q69F:F14:=⟨q69C,rr q69p [(ty_15,true)] Tryz.f186,fun p=>none,0,[]⟩
theorem q69K:Contract Tryz.prog 186 (q69V):=ctr q69C (rs := [(ty_15,true)]) (ps:=q69p) q69F Tryz.f186 16 ⟨tyOf_ok tys_ok,gOf_ok trivial⟩ (annl [] trivial)

noncomputable def q70V:Variant:=⟨[.val ty_1 false,.val ty_1 false],[(ty_1,false),(ty_1,false)],fun x=>math_bits_Mul64 x.1 x.2.1⟩
noncomputable def q70C:Cfg:=⟨Tryz.prog,tyOf tys,51,gOf [],false,[],[]⟩
def q70p:List PE := [e61,e62]
noncomputable def q70F:F13:=⟨q70C,rr q70p [(ty_1,false),(ty_1,false)] Tryz.f351,fun p=>none,0,[]⟩
theorem q70K:Contract Tryz.prog 351 (q70V):=ctr q70C (rs := [(ty_1,false),(ty_1,false)]) (ps:=q70p) q70F Tryz.f351 32 ⟨tyOf_ok tys_ok,gOf_ok trivial⟩ (annl [] trivial)

noncomputable def q71V:Variant:=⟨[.val ty_0 false,.val ty_0 false],[(ty_14,true)],fun x=>impl_timesWide x.1 x.2.1⟩
noncomputable def q71C:Cfg:=⟨Tryz.prog,tyOf tys,23,gOf [(272,[],q60V),(351,[],q70V)],false,[],[]⟩
def q71p:List PE := [e10,e3]
noncomputable def q71F:F11:=⟨q71C,rr q71p [(ty_14,true)] Tryz.f324,fun p=>none,0,[]⟩
theorem q71K:Contract Tryz.prog 324 (q71V):=ctr q71C (rs := [(ty_14,true)]) (ps:=q71p) q71F Tryz.f324 32 ⟨tyOf_ok tys_ok,gOf_ok ⟨q60K,q70K,trivial⟩⟩ (annl [] trivial)

noncomputable def q72V(k:Nat):Variant:=⟨[.val ty_5 true,.val ty_5 true],[(ty_5,true),(.bool,false)],fun x=>impl_productOf k x.1 x.2.1⟩
noncomputable def q72C(k:Nat):Cfg:=⟨Tryz.prog,tyOf tys,19,gOf [(324,[],q71V),(231,[],q64V k)],false,[],[]⟩
def q72p:List PE := [e60,e63]
noncomputable def q72F(k:Nat):F12:=⟨q72C k,rr q72p [(ty_5,true),(.bool,false)] Tryz.f268,fun p=>none,0,[]⟩
theorem q72K(k:Nat):Contract Tryz.prog 268 (q72V k):=ctr (q72C k) (rs := [(ty_5,true),(.bool,false)]) (ps:=q72p) (q72F k) Tryz.f268 32 ⟨tyOf_ok tys_ok,gOf_ok ⟨q71K,q64K k,trivial⟩⟩ (annl [] trivial)

noncomputable def q73V:Variant:=⟨[.ptr .bool true,.val ty_5 true,.val .bool false],[(ty_5,true)],fun x=>impl_reckoner_keep x.1 x.2.1 x.2.2.1⟩
noncomputable def q73C:Cfg:=⟨Tryz.prog,tyOf tys,24,gOf [],false,[],[]⟩
def q73p:List PE := [e64,e63,⟨2,32,.val .bool false,false⟩]
noncomputable def q73F:F12:=⟨q73C,rr q73p [(ty_5,true)] Tryz.f188,fun p=>none,0,[0]⟩
theorem q73K:Contract Tryz.prog 188 (q73V):=ctr q73C (rs := [(ty_5,true)]) (ps:=q73p) q73F Tryz.f188 48 ⟨tyOf_ok tys_ok,gOf_ok trivial⟩ (annl [] trivial)

noncomputable def q74V(k:Nat):Variant:=⟨[.ptr .bool true,.val ty_5 true,.val ty_5 true],[(ty_5,true)],fun x=>impl_reckoner_product k x.1 x.2.1 x.2.2.1⟩
noncomputable def q74C(k:Nat):Cfg:=⟨Tryz.prog,tyOf tys,14,gOf [(268,[],q72V k),(188,[],q73V)],false,[],[]⟩
def q74p:List PE := [e64,e63,e65]
noncomputable def q74F(k:Nat):F12:=⟨q74C k,rr q74p [(ty_5,true)] Tryz.f175,fun p=>none,0,[0]⟩
theorem q74K(k:Nat):Contract Tryz.prog 175 (q74V k):=ctr (q74C k) (rs := [(ty_5,true)]) (ps:=q74p) (q74F k) Tryz.f175 48 ⟨tyOf_ok tys_ok,gOf_ok ⟨q72K k,q73K,trivial⟩⟩ (annl [] trivial)

noncomputable def q75V:Variant:=⟨[.val ty_1 false],[(.bool,false)],fun x=>cmp_isNaN_uint64 x.1⟩
noncomputable def q75C:Cfg:=⟨Tryz.prog,tyOf tys,6,gOf [],false,[],[]⟩
def q75p:List PE := [e61]
noncomputable def q75F:F4:=⟨q75C,rr q75p [(.bool,false)] Tryz.f353,fun p=>none,0,[]⟩
theorem q75K:Contract Tryz.prog 353 (q75V):=ctr q75C (rs := [(.bool,false)]) (ps:=q75p) q75F Tryz.f353 16 ⟨tyOf_ok tys_ok,gOf_ok trivial⟩ (annl [] trivial)

noncomputable def q76V:Variant:=⟨[.val ty_1 false,.val ty_1 false],[(ty_0,false)],fun x=>cmp_Compare_uint64 x.1 x.2.1⟩
noncomputable def q76C:Cfg:=⟨Tryz.prog,tyOf tys,20,gOf [(353,[],q75V)],false,[],[]⟩
def q76p:List PE := [e61,e62]
noncomputable def q76F:F2:=⟨q76C,rr q76p [(ty_0,false)] Tryz.f328,fun p=>none,0,[]⟩
theorem q76K:Contract Tryz.prog 328 (q76V):=ctr q76C (rs := [(ty_0,false)]) (ps:=q76p) q76F Tryz.f328 32 ⟨tyOf_ok tys_ok,gOf_ok ⟨q75K,trivial⟩⟩ (annl [] trivial)

noncomputable def q77V(k:Nat):Variant:=⟨[.val ty_14 true,.val ty_14 true],[(ty_0,false)],fun x=>impl_compareSizes k x.1 x.2.1⟩
noncomputable def q77C(k:Nat):Cfg:=⟨Tryz.prog,tyOf tys,17,gOf [(328,[],q76V),(327,[],q41V k)],false,[],[]⟩
def q77p:List PE := [e58,e66]
noncomputable def q77F(k:Nat):F2:=⟨q77C k,rr q77p [(ty_0,false)] Tryz.f273,fun p=>none,0,[]⟩
theorem q77K(k:Nat):Contract Tryz.prog 273 (q77V k):=ctr (q77C k) (rs := [(ty_0,false)]) (ps:=q77p) (q77F k) Tryz.f273 32 ⟨tyOf_ok tys_ok,gOf_ok ⟨q76K,q41K k,trivial⟩⟩ (annl [] trivial)

noncomputable def q78V(k:Nat):Variant:=⟨[.val ty_14 true,.val ty_14 true],[(ty_0,false)],fun x=>impl_compareWide k x.1 x.2.1⟩
noncomputable def q78C(k:Nat):Cfg:=⟨Tryz.prog,tyOf tys,29,gOf [(307,[],q62V),(273,[],q77V k)],false,[],[]⟩
def q78p:List PE := [e58,e66]
noncomputable def q78F(k:Nat):F2:=⟨q78C k,rr q78p [(ty_0,false)] Tryz.f263,fun p=>bif Nat.beq p 6 then some (.cut [⟨2,32,.box ty_14 false,false⟩,⟨3,48,.box ty_14 false,false⟩] 64)else none,0,[]⟩
theorem q78K(k:Nat):Contract Tryz.prog 263 (q78V k):=ctr (q78C k) (rs := [(ty_0,false)]) (ps:=q78p) (q78F k) Tryz.f263 32 ⟨tyOf_ok tys_ok,gOf_ok ⟨q62K,q77K k,trivial⟩⟩ (annl [] trivial)

noncomputable def q79V(k:Nat):Variant:=⟨[.val ty_5 true,.val ty_5 true],[(ty_0,false)],fun x=>impl_compareD k x.1 x.2.1⟩
noncomputable def q79C(k:Nat):Cfg:=⟨Tryz.prog,tyOf tys,28,gOf [(230,[],q61V),(264,[],q63V),(263,[],q78V k)],false,[],[]⟩
def q79p:List PE := [e60,e63]
noncomputable def q79F(k:Nat):F2:=⟨q79C k,rr q79p [(ty_0,false)] Tryz.f168,fun p=>none,0,[]⟩
theorem q79K(k:Nat):Contract Tryz.prog 168 (q79V k):=ctr (q79C k) (rs := [(ty_0,false)]) (ps:=q79p) (q79F k) Tryz.f168 32 ⟨tyOf_ok tys_ok,gOf_ok ⟨q61K,q63K,q78K k,trivial⟩⟩ (annl [] trivial)

noncomputable def q80V(k:Nat):Variant:=⟨[.val ty_5 true,.val ty_5 true],[(ty_5,true)],fun x=>impl_lesser k x.1 x.2.1⟩
noncomputable def q80C(k:Nat):Cfg:=⟨Tryz.prog,tyOf tys,11,gOf [(168,[],q79V k)],false,[],[]⟩
def q80p:List PE := [e60,e63]
noncomputable def q80F(k:Nat):F13:=⟨q80C k,rr q80p [(ty_5,true)] Tryz.f256,fun p=>none,0,[]⟩
theorem q80K(k:Nat):Contract Tryz.prog 256 (q80V k):=ctr (q80C k) (rs := [(ty_5,true)]) (ps:=q80p) (q80F k) Tryz.f256 32 ⟨tyOf_ok tys_ok,gOf_ok ⟨q79K k,trivial⟩⟩ (annl [] trivial)

noncomputable def q81V(k:Nat):Variant:=⟨[.val ty_5 true,.val ty_5 true],[(ty_5,true)],fun x=>impl_greater k x.1 x.2.1⟩
noncomputable def q81C(k:Nat):Cfg:=⟨Tryz.prog,tyOf tys,11,gOf [(168,[],q79V k)],false,[],[]⟩
def q81p:List PE := [e60,e63]
noncomputable def q81F(k:Nat):F13:=⟨q81C k,rr q81p [(ty_5,true)] Tryz.f84,fun p=>none,0,[]⟩
theorem q81K(k:Nat):Contract Tryz.prog 84 (q81V k):=ctr (q81C k) (rs := [(ty_5,true)]) (ps:=q81p) (q81F k) Tryz.f84 32 ⟨tyOf_ok tys_ok,gOf_ok ⟨q79K k,trivial⟩⟩ (annl [] trivial)

noncomputable def q82V:Variant:=⟨[.val ty_15 true],[(ty_0,false)],fun x=>impl_signOf x.1⟩
noncomputable def q82C:Cfg:=⟨Tryz.prog,tyOf tys,13,gOf [],false,[],[]⟩
def q82p:List PE := [e67]
noncomputable def q82F:F2:=⟨q82C,rr q82p [(ty_0,false)] Tryz.f227,fun p=>none,0,[]⟩
theorem q82K:Contract Tryz.prog 227 (q82V):=ctr q82C (rs := [(ty_0,false)]) (ps:=q82p) q82F Tryz.f227 16 ⟨tyOf_ok tys_ok,gOf_ok trivial⟩ (annl [] trivial)

noncomputable def q83V(k:Nat):Variant:=⟨[.val ty_5 true,.val ty_0 false],[(ty_5,true)],fun x=>impl_roundDown k x.1 x.2.1⟩
noncomputable def q83C(k:Nat):Cfg:=⟨Tryz.prog,tyOf tys,26,gOf [(230,[],q61V),(231,[],q64V k)],false,[],[]⟩
def q83p:List PE := [e60,e3]
noncomputable def q83F(k:Nat):F13:=⟨q83C k,rr q83p [(ty_5,true)] Tryz.f320,fun p=>none,0,[]⟩
theorem q83K(k:Nat):Contract Tryz.prog 320 (q83V k):=ctr (q83C k) (rs := [(ty_5,true)]) (ps:=q83p) (q83F k) Tryz.f320 32 ⟨tyOf_ok tys_ok,gOf_ok ⟨q61K,q64K k,trivial⟩⟩ (annl [] trivial)

noncomputable def q84V:Variant:=⟨[.val ty_5 true],[(ty_5,true)],fun x=>impl_minus x.1⟩
noncomputable def q84C:Cfg:=⟨Tryz.prog,tyOf tys,9,gOf [],false,[],[]⟩
def q84p:List PE := [e60]
noncomputable def q84F:F13:=⟨q84C,rr q84p [(ty_5,true)] Tryz.f85,fun p=>none,0,[]⟩
theorem q84K:Contract Tryz.prog 85 (q84V):=ctr q84C (rs := [(ty_5,true)]) (ps:=q84p) q84F Tryz.f85 16 ⟨tyOf_ok tys_ok,gOf_ok trivial⟩ (annl [] trivial)

noncomputable def q85V(k:Nat):Variant:=⟨[.val ty_15 true,.val ty_0 false],[(ty_15,true)],fun x=>impl_roundOut k x.1 x.2.1⟩
noncomputable def q85C(k:Nat):Cfg:=⟨Tryz.prog,tyOf tys,16,gOf [(320,[],q83V k),(85,[],q84V)],false,[],[]⟩
def q85p:List PE := [e67,e3]
noncomputable def q85F(k:Nat):F14:=⟨q85C k,rr q85p [(ty_15,true)] Tryz.f255,fun p=>none,0,[]⟩
theorem q85K(k:Nat):Contract Tryz.prog 255 (q85V k):=ctr (q85C k) (rs := [(ty_15,true)]) (ps:=q85p) (q85F k) Tryz.f255 32 ⟨tyOf_ok tys_ok,gOf_ok ⟨q83K k,q84K,trivial⟩⟩ (annl [] trivial)

noncomputable def q86V(k:Nat):Variant:=⟨[.ptr .bool true,.val ty_15 true,.val ty_0 false],[(ty_15,true)],fun x=>impl_reckoner_power k x.1 x.2.1 x.2.2.1⟩
noncomputable def q86C(k:Nat):Cfg:=⟨Tryz.prog,tyOf tys,49,gOf [(169,[],q68V),(186,[],q69V),(175,[],q74V k),(256,[],q80V k),(84,[],q81V k),(227,[],q82V),(255,[],q85V k)],false,[],[]⟩
def q86i1:List PE := [e64,e68,⟨4,64,.box ty_15 false,false⟩,⟨6,80,.box ty_15 false,false⟩,⟨7,96,.box ty_5 false,false⟩,⟨8,112,.box ty_5 false,false⟩,⟨18,128,.val ty_0 false,false⟩,⟨19,144,.val ty_0 false,false⟩]
def q86o1:List PE := [e68,⟨4,64,.box ty_15 false,false⟩,⟨6,80,.box ty_15 false,false⟩,⟨7,96,.box ty_5 false,false⟩,⟨8,112,.box ty_5 false,false⟩,e64]
noncomputable def q86f1(k:Nat)(n:Nat)(x5:PTe q86i1):=impl_reckoner_power_L122 k n x5.1 x5.2.1 x5.2.2.1 x5.2.2.2.1 x5.2.2.2.2.1 x5.2.2.2.2.2.1 x5.2.2.2.2.2.2.1 x5.2.2.2.2.2.2.2.1
def q86p:List PE := [e64,e69,e5]
noncomputable def q86F(k:Nat):F15:=⟨q86C k,rr q86p [(ty_15,true)] Tryz.f305,fun p=>bif Nat.beq p 122 then some (.loop q86i1 q86o1 0 160 (q86f1 k k))else bif Nat.beq p 62 then some (.cut [⟨6,48,.box ty_15 false,false⟩,⟨7,64,.box ty_5 false,false⟩,e70,e64] 96)else none,0,[0]⟩
theorem q86K(k:Nat):Contract Tryz.prog 305 (q86V k):=ctr (q86C k) (rs := [(ty_15,true)]) (ps:=q86p) (q86F k) Tryz.f305 48 ⟨tyOf_ok tys_ok,gOf_ok ⟨q68K,q69K,q74K k,q80K k,q81K k,q82K,q85K k,trivial⟩⟩ (annl [122] ⟨lok q86i1 q86o1 0 160 (q86f1 k) k,trivial⟩)

noncomputable def q87V(k:Nat):Variant:=⟨[.ptr .bool true,.val ty_15 true,.val ty_15 true],[(ty_15,true)],fun x=>impl_reckoner_multiply k x.1 x.2.1 x.2.2.1⟩
noncomputable def q87C(k:Nat):Cfg:=⟨Tryz.prog,tyOf tys,51,gOf [(175,[],q74V k),(256,[],q80V k),(84,[],q81V k),(255,[],q85V k)],false,[],[]⟩
def q87p:List PE := [e64,e69,e71]
noncomputable def q87F(k:Nat):F15:=⟨q87C k,rr q87p [(ty_15,true)] Tryz.f158,fun p=>none,0,[0]⟩
theorem q87K(k:Nat):Contract Tryz.prog 158 (q87V k):=ctr (q87C k) (rs := [(ty_15,true)]) (ps:=q87p) (q87F k) Tryz.f158 48 ⟨tyOf_ok tys_ok,gOf_ok ⟨q74K k,q80K k,q81K k,q85K k,trivial⟩⟩ (annl [] trivial)

noncomputable def q88V:Variant:=V64 math_bits_Add64
theorem q88K:Contract Tryz.prog 329 q88V:=contractAdd64 (fn:=Tryz.f329) (by kernel_rfl) (by kernel_rfl) (by kernel_rfl) (by kernel_rfl) (by kernel_rfl)

noncomputable def q89V:Variant:=V64 math_bits_Sub64
theorem q89K:Contract Tryz.prog 330 q89V:=contractSub64 (fn:=Tryz.f330) (by kernel_rfl) (by kernel_rfl) (by kernel_rfl) (by kernel_rfl) (by kernel_rfl)

noncomputable def q90V(k:Nat):Variant:=⟨[.val ty_14 true,.val ty_14 true],[(ty_14,true)],fun x=>impl_wide_add k x.1 x.2.1⟩
noncomputable def q90C(k:Nat):Cfg:=⟨Tryz.prog,tyOf tys,68,gOf [(329,[],q88V),(273,[],q77V k),(330,[],q89V)],false,[],[]⟩
def q90p:List PE := [e58,e66]
noncomputable def q90F(k:Nat):F11:=⟨q90C k,rr q90p [(ty_14,true)] Tryz.f274,fun p=>bif Nat.beq p 14 then some (.cut [⟨2,32,.box ty_14 false,false⟩,⟨3,48,.box ty_14 false,false⟩,⟨4,64,.box ty_14 false,false⟩] 80)else none,0,[]⟩
theorem q90K(k:Nat):Contract Tryz.prog 274 (q90V k):=ctr (q90C k) (rs := [(ty_14,true)]) (ps:=q90p) (q90F k) Tryz.f274 32 ⟨tyOf_ok tys_ok,gOf_ok ⟨q88K,q77K k,q89K,trivial⟩⟩ (annl [] trivial)

noncomputable def q91V(k:Nat):Variant:=⟨[.val ty_5 true,.val ty_5 true],[(ty_5,true),(.bool,false)],fun x=>impl_sumOf k x.1 x.2.1⟩
noncomputable def q91C(k:Nat):Cfg:=⟨Tryz.prog,tyOf tys,33,gOf [(230,[],q61V),(264,[],q63V),(274,[],q90V k),(231,[],q64V k)],false,[],[]⟩
def q91p:List PE := [e60,e63]
noncomputable def q91F(k:Nat):F12:=⟨q91C k,rr q91p [(ty_5,true),(.bool,false)] Tryz.f270,fun p=>none,0,[]⟩
theorem q91K(k:Nat):Contract Tryz.prog 270 (q91V k):=ctr (q91C k) (rs := [(ty_5,true),(.bool,false)]) (ps:=q91p) (q91F k) Tryz.f270 32 ⟨tyOf_ok tys_ok,gOf_ok ⟨q61K,q63K,q90K k,q64K k,trivial⟩⟩ (annl [] trivial)

noncomputable def q92V(k:Nat):Variant:=⟨[.ptr .bool true,.val ty_5 true,.val ty_5 true],[(ty_5,true)],fun x=>impl_reckoner_sum k x.1 x.2.1 x.2.2.1⟩
noncomputable def q92C(k:Nat):Cfg:=⟨Tryz.prog,tyOf tys,14,gOf [(270,[],q91V k),(188,[],q73V)],false,[],[]⟩
def q92p:List PE := [e64,e63,e65]
noncomputable def q92F(k:Nat):F12:=⟨q92C k,rr q92p [(ty_5,true)] Tryz.f182,fun p=>none,0,[0]⟩
theorem q92K(k:Nat):Contract Tryz.prog 182 (q92V k):=ctr (q92C k) (rs := [(ty_5,true)]) (ps:=q92p) (q92F k) Tryz.f182 48 ⟨tyOf_ok tys_ok,gOf_ok ⟨q91K k,q73K,trivial⟩⟩ (annl [] trivial)

noncomputable def q93V(k:Nat):Variant:=⟨[.ptr .bool true,.val ty_15 true,.val ty_15 true],[(ty_15,true)],fun x=>impl_reckoner_add k x.1 x.2.1 x.2.2.1⟩
noncomputable def q93C(k:Nat):Cfg:=⟨Tryz.prog,tyOf tys,20,gOf [(182,[],q92V k)],false,[],[]⟩
def q93p:List PE := [e64,e69,e71]
noncomputable def q93F(k:Nat):F15:=⟨q93C k,rr q93p [(ty_15,true)] Tryz.f161,fun p=>none,0,[0]⟩
theorem q93K(k:Nat):Contract Tryz.prog 161 (q93V k):=ctr (q93C k) (rs := [(ty_15,true)]) (ps:=q93p) (q93F k) Tryz.f161 48 ⟨tyOf_ok tys_ok,gOf_ok ⟨q92K k,trivial⟩⟩ (annl [] trivial)

noncomputable def q94V:Variant:=⟨[.ptr .bool true,.val ty_15 true],[(ty_15,true),(.bool,false)],fun x=>impl_reckoner_result x.1 x.2.1⟩
noncomputable def q94C:Cfg:=⟨Tryz.prog,tyOf tys,13,gOf [],false,[],[]⟩
def q94p:List PE := [e64,e69]
noncomputable def q94F:Fn (((Int×Int)×Int×Int)×Bool×Bool):=⟨q94C,rr q94p [(ty_15,true),(.bool,false)] Tryz.f72,fun p=>none,0,[0]⟩
theorem q94K:Contract Tryz.prog 72 (q94V):=ctr q94C (rs := [(ty_15,true),(.bool,false)]) (ps:=q94p) q94F Tryz.f72 32 ⟨tyOf_ok tys_ok,gOf_ok trivial⟩ (annl [] trivial)

noncomputable def q95V(k:Nat):Variant:=⟨[.val ty_8 false,.val ty_16 false],[(ty_15,true),(.bool,false)],fun x=>impl_valueOver k x.1 x.2.1⟩
noncomputable def q95C(k:Nat):Cfg:=⟨Tryz.prog,tyOf tys,54,gOf [(169,[],q68V),(186,[],q69V),(306,[],q44V),(305,[],q86V k),(158,[],q87V k),(161,[],q93V k),(72,[],q94V)],false,[],[]⟩
def q95i1:List PE := [e72,e73,e74,e75,⟨9,96,.box ty_7 false,false⟩,⟨10,112,.box ty_15 false,false⟩,⟨16,128,.val ty_8 false,false⟩,⟨17,144,.val ty_0 false,false⟩,⟨18,160,.val ty_0 false,false⟩,⟨26,176,.val ty_16 false,false⟩,⟨27,192,.val ty_0 false,false⟩,⟨28,208,.val ty_0 false,false⟩]
def q95o1:List PE := [e72,e73,e74,e75,⟨10,96,.box ty_15 false,false⟩,⟨16,112,.val ty_8 false,false⟩,e76,⟨18,144,.val ty_0 false,false⟩]
noncomputable def q95f1(k:Nat)(n:Nat)(x10:PTe q95i1):=impl_valueOver_L125338 k n x10.1 x10.2.1 x10.2.2.1 x10.2.2.2.1 x10.2.2.2.2.1 x10.2.2.2.2.2.1 x10.2.2.2.2.2.2.1 x10.2.2.2.2.2.2.2.1 x10.2.2.2.2.2.2.2.2.1 x10.2.2.2.2.2.2.2.2.2.1 x10.2.2.2.2.2.2.2.2.2.2.1 x10.2.2.2.2.2.2.2.2.2.2.2.1
def q95i2:List PE := [e72,e73,e74,e75,⟨16,96,.val ty_8 false,false⟩,e43,⟨18,128,.val ty_0 false,false⟩]
def q95o2:List PE := [e77,⟨6,48,.box .bool false,false⟩,⟨7,64,.box ty_15 false,false⟩]
noncomputable def q95f2(k:Nat)(n:Nat)(x14:PTe q95i2):=impl_valueOver_L122 k n x14.1 x14.2.1 x14.2.2.1 x14.2.2.2.1 x14.2.2.2.2.1 x14.2.2.2.2.2.1 x14.2.2.2.2.2.2.1
def q95p:List PE := [e15,e78]
noncomputable def q95F(k:Nat):F15:=⟨q95C k,rr q95p [(ty_15,true),(.bool,false)] Tryz.f226,fun p=>bif Nat.beq p 125338 then some (.loop q95i1 q95o1 2 224 (q95f1 k k))else bif Nat.beq p 122 then some (.loop q95i2 q95o2 0 144 (q95f2 k k))else none,0,[]⟩
theorem q95K(k:Nat):Contract Tryz.prog 226 (q95V k):=ctr (q95C k) (rs := [(ty_15,true),(.bool,false)]) (ps:=q95p) (q95F k) Tryz.f226 32 ⟨tyOf_ok tys_ok,gOf_ok ⟨q68K,q69K,q44K,q86K k,q87K k,q93K k,q94K,trivial⟩⟩ (annl [122,125338] ⟨lok q95i2 q95o2 0 144 (q95f2 k) k,lok q95i1 q95o1 2 224 (q95f1 k) k,trivial⟩)

noncomputable def q96V(k:Nat):Variant:=⟨[.val ty_8 false,.ptr ty_11 false],[(ty_16,false),(.bool,false)],fun x=>impl_gradientOver k x.1 x.2.1⟩
noncomputable def q96C(k:Nat):Cfg:=⟨Tryz.prog,tyOf tys,35,gOf [(334,[],q59V k),(335,[],q67V k),(226,[],q95V k)],false,[],[]⟩
def q96i1:List PE := [e12,⟨1,48,.ptr ty_11 false,false⟩,⟨6,64,.eat ty_15,false⟩,e79,e80]
def q96o1:List PE := [⟨6,32,.eat ty_15,false⟩]
noncomputable def q96f1(k:Nat)(n:Nat)(x4:PTe q96i1):=impl_gradientOver_L58 k n x4.1 x4.2.1 x4.2.2.1 x4.2.2.2.1 x4.2.2.2.2.1
def q96p:List PE := [e15,e48]
noncomputable def q96F(k:Nat):F16:=⟨q96C k,rr q96p [(ty_16,false),(.bool,false)] Tryz.f281,fun p=>bif Nat.beq p 58 then some (.loop q96i1 q96o1 0 112 (q96f1 k k))else none,0,[]⟩
theorem q96K(k:Nat):Contract Tryz.prog 281 (q96V k):=ctr (q96C k) (rs := [(ty_16,false),(.bool,false)]) (ps:=q96p) (q96F k) Tryz.f281 32 ⟨tyOf_ok tys_ok,gOf_ok ⟨q59K k,q67K k,q95K k,trivial⟩⟩ (annl [58] ⟨lok q96i1 q96o1 0 112 (q96f1 k) k,trivial⟩)

noncomputable def q97V(k:Nat):Variant:=⟨[.val ty_12 false,.ptr ty_11 false],[(ty_18,false),(.bool,false)],fun x=>impl_jacobianOver k x.1 x.2.1⟩
noncomputable def q97C(k:Nat):Cfg:=⟨Tryz.prog,tyOf tys,31,gOf [(281,[],q96V k)],false,[],[]⟩
def q97i1:List PE := [⟨1,32,.ptr ty_11 false,false⟩,e81,⟨11,64,.val ty_12 false,false⟩,e82,e83]
def q97o1:List PE := [e84]
noncomputable def q97f1(k:Nat)(n:Nat)(x2:PTe q97i1):=impl_jacobianOver_L58 k n x2.1 x2.2.1 x2.2.2.1 x2.2.2.2.1 x2.2.2.2.2.1
def q97p:List PE := [e45,e48]
noncomputable def q97F(k:Nat):F17:=⟨q97C k,rr q97p [(ty_18,false),(.bool,false)] Tryz.f194,fun p=>bif Nat.beq p 58 then some (.loop q97i1 q97o1 0 112 (q97f1 k k))else none,0,[]⟩
theorem q97K(k:Nat):Contract Tryz.prog 194 (q97V k):=ctr (q97C k) (rs := [(ty_18,false),(.bool,false)]) (ps:=q97p) (q97F k) Tryz.f194 32 ⟨tyOf_ok tys_ok,gOf_ok ⟨q96K k,trivial⟩⟩ (annl [58] ⟨lok q97i1 q97o1 0 112 (q97f1 k) k,trivial⟩)

noncomputable def q98V(k:Nat):Variant:=⟨[.val ty_5 true,.val ty_5 true],[(ty_5,true),(.bool,false)],fun x=>impl_middleOf k x.1 x.2.1⟩
noncomputable def q98C(k:Nat):Cfg:=⟨Tryz.prog,tyOf tys,34,gOf [(230,[],q61V),(264,[],q63V),(274,[],q90V k),(231,[],q64V k)],false,[],[]⟩
def q98p:List PE := [e60,e63]
noncomputable def q98F(k:Nat):F12:=⟨q98C k,rr q98p [(ty_5,true),(.bool,false)] Tryz.f195,fun p=>none,0,[]⟩
theorem q98K(k:Nat):Contract Tryz.prog 195 (q98V k):=ctr (q98C k) (rs := [(ty_5,true),(.bool,false)]) (ps:=q98p) (q98F k) Tryz.f195 32 ⟨tyOf_ok tys_ok,gOf_ok ⟨q61K,q63K,q90K k,q64K k,trivial⟩⟩ (annl [] trivial)

noncomputable def q99V(k:Nat):Variant:=⟨[.val ty_12 false,.ptr ty_11 false],[(ty_19,false),(.bool,false)],fun x=>impl_middleJacobian k x.1 x.2.1⟩
noncomputable def q99C(k:Nat):Cfg:=⟨Tryz.prog,tyOf tys,61,gOf [(194,[],q97V k),(195,[],q98V k),(188,[],q73V)],false,[],[]⟩
def q99i1:List PE := [e85,e86,⟨12,64,.eat ty_5,false⟩,e87,e88,e89,⟨31,128,.val ty_16 false,false⟩,e90,⟨33,160,.val ty_0 false,false⟩]
def q99o1:List PE := [e85,e86,⟨12,64,.eat ty_5,false⟩,e87,e88,e89]
noncomputable def q99f1(k:Nat)(n:Nat)(x4:PTe q99i1):=impl_middleJacobian_L518554 k n x4.1 x4.2.1 x4.2.2.1 x4.2.2.2.1 x4.2.2.2.2.1 x4.2.2.2.2.2.1 x4.2.2.2.2.2.2.1 x4.2.2.2.2.2.2.2.1 x4.2.2.2.2.2.2.2.2.1
def q99i2:List PE := [e85,e86,⟨25,64,.val ty_18 false,false⟩,⟨26,80,.val ty_0 false,false⟩,⟨27,96,.val ty_0 false,false⟩]
def q99o2:List PE := [e85,e86]
noncomputable def q99f2(k:Nat)(n:Nat)(x7:PTe q99i2):=impl_middleJacobian_L506 k n x7.1 x7.2.1 x7.2.2.1 x7.2.2.2.1 x7.2.2.2.2.1
def q99p:List PE := [e45,e48]
noncomputable def q99F(k:Nat):F18:=⟨q99C k,rr q99p [(ty_19,false),(.bool,false)] Tryz.f102,fun p=>bif Nat.beq p 518554 then some (.loop q99i1 q99o1 2 176 (q99f1 k k))else bif Nat.beq p 506 then some (.loop q99i2 q99o2 0 112 (q99f2 k k))else none,0,[]⟩
theorem q99K(k:Nat):Contract Tryz.prog 102 (q99V k):=ctr (q99C k) (rs := [(ty_19,false),(.bool,false)]) (ps:=q99p) (q99F k) Tryz.f102 32 ⟨tyOf_ok tys_ok,gOf_ok ⟨q97K k,q98K k,q73K,trivial⟩⟩ (annl [506,518554] ⟨lok q99i2 q99o2 0 112 (q99f2 k) k,lok q99i1 q99o1 2 176 (q99f1 k) k,trivial⟩)

noncomputable def q100V(k:Nat):Variant:=⟨[.val ty_12 false,.val ty_11 true],[(ty_19,false),(.bool,false)],fun x=>impl_MiddleJacobian k x.1 x.2.1⟩
noncomputable def q100C(k:Nat):Cfg:=⟨Tryz.prog,tyOf tys,13,gOf [(101,[],q49V k),(102,[],q99V k)],false,[],[]⟩
def q100p:List PE := [e45,e91]
noncomputable def q100F(k:Nat):F18:=⟨q100C k,rr q100p [(ty_19,false),(.bool,false)] Tryz.f29,fun p=>none,0,[]⟩
theorem q100K(k:Nat):Contract Tryz.prog 29 (q100V k):=ctr (q100C k) (rs := [(ty_19,false),(.bool,false)]) (ps:=q100p) (q100F k) Tryz.f29 32 ⟨tyOf_ok tys_ok,gOf_ok ⟨q49K k,q99K k,trivial⟩⟩ (annl [] trivial)

noncomputable def q101V:Variant:=⟨[.val ty_7 true,.val ty_0 false],[(ty_0,false)],fun x=>spec_poPower x.1 x.2.1⟩
noncomputable def q101C:Cfg:=⟨Tryz.prog,tyOf tys,16,gOf [],false,[],[]⟩
def q101p:List PE := [e4,e3]
noncomputable def q101F:F2:=⟨q101C,rr q101p [(ty_0,false)] Tryz.f309,fun p=>none,0,[]⟩
theorem q101K:Contract Tryz.prog 309 (q101V):=ctr q101C (rs := [(ty_0,false)]) (ps:=q101p) q101F Tryz.f309 32 ⟨tyOf_ok tys_ok,gOf_ok trivial⟩ (annl [] trivial)

noncomputable def q102V(k:Nat):Variant:=⟨[.val ty_8 false,.val ty_0 false],[(ty_0,false)],fun x=>spec_poDegreeIn k x.1 x.2.1⟩
noncomputable def q102C(k:Nat):Cfg:=⟨Tryz.prog,tyOf tys,21,gOf [(309,[],q101V),(183,[],q21V)],false,[],[]⟩
def q102i1:List PE := [e6,e55,⟨8,64,.val ty_8 false,false⟩,e92,⟨10,96,.val ty_0 false,false⟩]
def q102o1:List PE := [⟨5,32,.val ty_0 false,false⟩]
noncomputable def q102f1(k:Nat)(n:Nat)(x3:PTe q102i1):=spec_poDegreeIn_L58 k n x3.1 x3.2.1 x3.2.2.1 x3.2.2.2.1 x3.2.2.2.2.1
def q102p:List PE := [e15,e3]
noncomputable def q102F(k:Nat):F2:=⟨q102C k,rr q102p [(ty_0,false)] Tryz.f288,fun p=>bif Nat.beq p 58 then some (.loop q102i1 q102o1 0 112 (q102f1 k k))else none,0,[]⟩
theorem q102K(k:Nat):Contract Tryz.prog 288 (q102V k):=ctr (q102C k) (rs := [(ty_0,false)]) (ps:=q102p) (q102F k) Tryz.f288 32 ⟨tyOf_ok tys_ok,gOf_ok ⟨q101K,q21K,trivial⟩⟩ (annl [58] ⟨lok q102i1 q102o1 0 112 (q102f1 k) k,trivial⟩)

noncomputable def q103V(k:Nat):Variant:=⟨[.val ty_12 false],[(.bool,false)],fun x=>spec_poSystem k x.1⟩
noncomputable def q103C(k:Nat):Cfg:=⟨Tryz.prog,tyOf tys,29,gOf [(287,[],q13V k),(288,[],q102V k),(98,[],q11V)],false,[],[]⟩
def q103i1:List PE := [e44,⟨4,32,.val ty_8 false,false⟩,e55,⟨6,64,.val ty_12 false,false⟩,⟨7,80,.val ty_0 false,false⟩,e93]
def q103o1:List PE := [e44,⟨6,32,.val ty_12 false,false⟩,e27,e28]
noncomputable def q103f1(k:Nat)(n:Nat)(x3:PTe q103i1):=spec_poSystem_L13518 k n x3.1 x3.2.1 x3.2.2.1 x3.2.2.2.1 x3.2.2.2.2.1 x3.2.2.2.2.2.1
def q103i2:List PE := [e44,⟨6,32,.val ty_12 false,false⟩,e27,e28]
def q103o2:List PE := [e44]
noncomputable def q103f2(k:Nat)(n:Nat)(x6:PTe q103i2):=spec_poSystem_L26 k n x6.1 x6.2.1 x6.2.2.1 x6.2.2.2.1
def q103p:List PE := [e45]
noncomputable def q103F(k:Nat):F4:=⟨q103C k,rr q103p [(.bool,false)] Tryz.f207,fun p=>bif Nat.beq p 13518 then some (.loop q103i1 q103o1 2 112 (q103f1 k k))else bif Nat.beq p 26 then some (.loop q103i2 q103o2 0 80 (q103f2 k k))else none,0,[]⟩
theorem q103K(k:Nat):Contract Tryz.prog 207 (q103V k):=ctr (q103C k) (rs := [(.bool,false)]) (ps:=q103p) (q103F k) Tryz.f207 16 ⟨tyOf_ok tys_ok,gOf_ok ⟨q13K k,q102K k,q11K,trivial⟩⟩ (annl [26,13518] ⟨lok q103i2 q103o2 0 80 (q103f2 k) k,lok q103i1 q103o1 2 112 (q103f1 k) k,trivial⟩)

noncomputable def q104V(k:Nat):Variant:=⟨[.val ty_12 false,.val ty_11 true],[(.bool,false)],fun x=>spec_vaBoth k x.1 x.2.1⟩
noncomputable def q104C(k:Nat):Cfg:=⟨Tryz.prog,tyOf tys,19,gOf [(207,[],q103V k),(208,[],q26V k)],false,[],[]⟩
def q104p:List PE := [e45,e91]
noncomputable def q104F(k:Nat):F4:=⟨q104C k,rr q104p [(.bool,false)] Tryz.f113,fun p=>none,0,[]⟩
theorem q104K(k:Nat):Contract Tryz.prog 113 (q104V k):=ctr (q104C k) (rs := [(.bool,false)]) (ps:=q104p) (q104F k) Tryz.f113 32 ⟨tyOf_ok tys_ok,gOf_ok ⟨q103K k,q26K k,trivial⟩⟩ (annl [] trivial)

noncomputable def q105V(k:Nat):Variant:=⟨[.val ty_12 false,.val ty_11 true],[(.bool,false)],fun x=>spec_nwGood k x.1 x.2.1⟩
noncomputable def q105C(k:Nat):Cfg:=⟨Tryz.prog,tyOf tys,13,gOf [(113,[],q104V k)],false,[],[]⟩
def q105p:List PE := [e45,e91]
noncomputable def q105F(k:Nat):F4:=⟨q105C k,rr q105p [(.bool,false)] Tryz.f103,fun p=>none,0,[]⟩
theorem q105K(k:Nat):Contract Tryz.prog 103 (q105V k):=ctr (q105C k) (rs := [(.bool,false)]) (ps:=q105p) (q105F k) Tryz.f103 32 ⟨tyOf_ok tys_ok,gOf_ok ⟨q104K k,trivial⟩⟩ (annl [] trivial)

noncomputable def q106V:Variant:=⟨[.val ty_5 true],[(.bool,false)],fun x=>spec_dyGood x.1⟩
noncomputable def q106C:Cfg:=⟨Tryz.prog,tyOf tys,22,gOf [(98,[],q11V)],false,[],[]⟩
def q106p:List PE := [e60]
noncomputable def q106F:F4:=⟨q106C,rr q106p [(.bool,false)] Tryz.f177,fun p=>none,0,[]⟩
theorem q106K:Contract Tryz.prog 177 (q106V):=ctr q106C (rs := [(.bool,false)]) (ps:=q106p) q106F Tryz.f177 16 ⟨tyOf_ok tys_ok,gOf_ok ⟨q11K,trivial⟩⟩ (annl [] trivial)

noncomputable def q107V(k:Nat):Variant:=⟨[.val ty_0 false,.val ty_0 false],[(ty_5,true),(.bool,false)],fun x=>spec_dyMake k x.1 x.2.1⟩
noncomputable def q107C(k:Nat):Cfg:=⟨Tryz.prog,tyOf tys,32,gOf [(177,[],q106V)],false,[],[]⟩
def q107i1:List PE := [e94,e53,e59]
def q107o1:List PE := [e94,e53,e59]
noncomputable def q107f1(k:Nat)(n:Nat)(x2:PTe q107i1):=spec_dyMake_L28 k n x2.1 x2.2.1 x2.2.2.1
def q107p:List PE := [e10,e3]
noncomputable def q107F(k:Nat):F12:=⟨q107C k,rr q107p [(ty_5,true),(.bool,false)] Tryz.f154,fun p=>bif Nat.beq p 28 then some (.loop q107i1 q107o1 0 80 (q107f1 k k))else bif Nat.beq p 6 then some (.cut [e94,e53,e59] 80)else none,0,[]⟩
theorem q107K(k:Nat):Contract Tryz.prog 154 (q107V k):=ctr (q107C k) (rs := [(ty_5,true),(.bool,false)]) (ps:=q107p) (q107F k) Tryz.f154 32 ⟨tyOf_ok tys_ok,gOf_ok ⟨q106K,trivial⟩⟩ (annl [28] ⟨lok q107i1 q107o1 0 80 (q107f1 k) k,trivial⟩)

noncomputable def q108V(k:Nat):Variant:=⟨[.val ty_0 false,.val ty_0 false],[(ty_5,true)],fun x=>spec_bxNumber k x.1 x.2.1⟩
noncomputable def q108C(k:Nat):Cfg:=⟨Tryz.prog,tyOf tys,14,gOf [(154,[],q107V k)],false,[],[]⟩
def q108p:List PE := [e10,e3]
noncomputable def q108F(k:Nat):F13:=⟨q108C k,rr q108p [(ty_5,true)] Tryz.f235,fun p=>none,0,[]⟩
theorem q108K(k:Nat):Contract Tryz.prog 235 (q108V k):=ctr (q108C k) (rs := [(ty_5,true)]) (ps:=q108p) (q108F k) Tryz.f235 32 ⟨tyOf_ok tys_ok,gOf_ok ⟨q107K k,trivial⟩⟩ (annl [] trivial)

noncomputable def q109V(k:Nat):Variant:=⟨[.val ty_11 true],[(ty_16,false)],fun x=>spec_vaSides k x.1⟩
noncomputable def q109C(k:Nat):Cfg:=⟨Tryz.prog,tyOf tys,32,gOf [(235,[],q108V k)],false,[],[]⟩
def q109i1:List PE := [e26,⟨3,32,.eat ty_15,false⟩,⟨7,48,.val ty_9 false,false⟩,e28,e92]
def q109o1:List PE := [⟨3,16,.eat ty_15,false⟩]
noncomputable def q109f1(k:Nat)(n:Nat)(x3:PTe q109i1):=spec_vaSides_L58 k n x3.1 x3.2.1 x3.2.2.1 x3.2.2.2.1 x3.2.2.2.2.1
def q109p:List PE := [e29]
noncomputable def q109F(k:Nat):Fn (List ((Int×Int)×Int×Int)):=⟨q109C k,rr q109p [(ty_16,false)] Tryz.f197,fun p=>bif Nat.beq p 58 then some (.loop q109i1 q109o1 0 96 (q109f1 k k))else none,0,[]⟩
theorem q109K(k:Nat):Contract Tryz.prog 197 (q109V k):=ctr (q109C k) (rs := [(ty_16,false)]) (ps:=q109p) (q109F k) Tryz.f197 16 ⟨tyOf_ok tys_ok,gOf_ok ⟨q108K k,trivial⟩⟩ (annl [58] ⟨lok q109i1 q109o1 0 96 (q109f1 k) k,trivial⟩)

noncomputable def q110V(k:Nat):Variant:=⟨[.val ty_8 false,.val ty_0 false],[(ty_8,false)],fun x=>spec_poDerive k x.1 x.2.1⟩
noncomputable def q110C(k:Nat):Cfg:=⟨Tryz.prog,tyOf tys,37,gOf [(309,[],q101V),(279,[],q6V)],false,[],[]⟩
def q110i1:List PE := [e6,e21,⟨10,64,.val ty_8 false,false⟩,e42,e57]
def q110o1:List PE := [e23]
noncomputable def q110f1(k:Nat)(n:Nat)(x3:PTe q110i1):=spec_poDerive_L58 k n x3.1 x3.2.1 x3.2.2.1 x3.2.2.2.1 x3.2.2.2.2.1
def q110p:List PE := [e15,e3]
noncomputable def q110F(k:Nat):F3:=⟨q110C k,rr q110p [(ty_8,false)] Tryz.f282,fun p=>bif Nat.beq p 58 then some (.loop q110i1 q110o1 0 112 (q110f1 k k))else none,0,[]⟩
theorem q110K(k:Nat):Contract Tryz.prog 282 (q110V k):=ctr (q110C k) (rs := [(ty_8,false)]) (ps:=q110p) (q110F k) Tryz.f282 32 ⟨tyOf_ok tys_ok,gOf_ok ⟨q101K,q6K,trivial⟩⟩ (annl [58] ⟨lok q110i1 q110o1 0 112 (q110f1 k) k,trivial⟩)

noncomputable def q111V:Variant:=⟨[.val ty_0 false],[(ty_5,true)],fun x=>spec_dyInt x.1⟩
noncomputable def q111C:Cfg:=⟨Tryz.prog,tyOf tys,5,gOf [],false,[],[]⟩
def q111p:List PE := [e10]
noncomputable def q111F:F13:=⟨q111C,rr q111p [(ty_5,true)] Tryz.f171,fun p=>none,0,[]⟩
theorem q111K:Contract Tryz.prog 171 (q111V):=ctr q111C (rs := [(ty_5,true)]) (ps:=q111p) q111F Tryz.f171 16 ⟨tyOf_ok tys_ok,gOf_ok trivial⟩ (annl [] trivial)

noncomputable def q112V:Variant:=⟨[.val ty_5 true],[(ty_15,true)],fun x=>spec_vaPure x.1⟩
noncomputable def q112C:Cfg:=⟨Tryz.prog,tyOf tys,6,gOf [],false,[],[]⟩
def q112p:List PE := [e60]
noncomputable def q112F:F14:=⟨q112C,rr q112p [(ty_15,true)] Tryz.f206,fun p=>none,0,[]⟩
theorem q112K:Contract Tryz.prog 206 (q112V):=ctr q112C (rs := [(ty_15,true)]) (ps:=q112p) q112F Tryz.f206 16 ⟨tyOf_ok tys_ok,gOf_ok trivial⟩ (annl [] trivial)

noncomputable def q113V:Variant:=⟨[.val ty_0 false],[(ty_0,false)],fun x=>spec_l1Abs x.1⟩
noncomputable def q113C:Cfg:=⟨Tryz.prog,tyOf tys,7,gOf [(183,[],q21V)],false,[],[]⟩
def q113p:List PE := [e10]
noncomputable def q113F:F2:=⟨q113C,rr q113p [(ty_0,false)] Tryz.f185,fun p=>none,0,[]⟩
theorem q113K:Contract Tryz.prog 185 (q113V):=ctr q113C (rs := [(ty_0,false)]) (ps:=q113p) q113F Tryz.f185 16 ⟨tyOf_ok tys_ok,gOf_ok ⟨q21K,trivial⟩⟩ (annl [] trivial)

noncomputable def q114V(k:Nat):Variant:=⟨[.val ty_5 true,.val ty_5 true],[(ty_5,true),(.bool,false)],fun x=>spec_dyMul k x.1 x.2.1⟩
noncomputable def q114C(k:Nat):Cfg:=⟨Tryz.prog,tyOf tys,67,gOf [(185,[],q113V),(154,[],q107V k)],false,[],[]⟩
def q114i1:List PE := [e95,e96,e59,e7]
def q114o1:List PE := [e95,e96,e59,e7]
noncomputable def q114f1(k:Nat)(n:Nat)(x1:PTe q114i1):=spec_dyMul_L60 k n x1.1 x1.2.1 x1.2.2.1 x1.2.2.2.1
def q114i2:List PE := [e95,e96,e59,e7]
def q114o2:List PE := [e95,e96,e59,e7]
noncomputable def q114f2(k:Nat)(n:Nat)(x4:PTe q114i2):=spec_dyMul_L124 k n x4.1 x4.2.1 x4.2.2.1 x4.2.2.2.1
def q114p:List PE := [e60,e63]
noncomputable def q114F(k:Nat):F12:=⟨q114C k,rr q114p [(ty_5,true),(.bool,false)] Tryz.f179,fun p=>bif Nat.beq p 60 then some (.loop q114i1 q114o1 0 96 (q114f1 k k))else bif Nat.beq p 124 then some (.loop q114i2 q114o2 2 96 (q114f2 k k))else none,0,[]⟩
theorem q114K(k:Nat):Contract Tryz.prog 179 (q114V k):=ctr (q114C k) (rs := [(ty_5,true),(.bool,false)]) (ps:=q114p) (q114F k) Tryz.f179 32 ⟨tyOf_ok tys_ok,gOf_ok ⟨q113K,q107K k,trivial⟩⟩ (annl [60,124] ⟨lok q114i1 q114o1 0 96 (q114f1 k) k,lok q114i2 q114o2 2 96 (q114f2 k) k,trivial⟩)

noncomputable def q115V(k:Nat):Variant:=⟨[.val ty_5 true,.val ty_0 false],[(ty_5,true),(.bool,false)],fun x=>spec_ivRaise k x.1 x.2.1⟩
noncomputable def q115C(k:Nat):Cfg:=⟨Tryz.prog,tyOf tys,25,gOf [(171,[],q111V),(179,[],q114V k)],false,[],[]⟩
def q115i1:List PE := [e6,⟨2,48,.box ty_5 false,false⟩,e59,⟨6,80,.box ty_5 false,false⟩]
def q115o1:List PE := [e97,e98]
noncomputable def q115f1(k:Nat)(n:Nat)(x3:PTe q115i1):=spec_ivRaise_L28 k n x3.1 x3.2.1 x3.2.2.1 x3.2.2.2.1
def q115p:List PE := [e60,e3]
noncomputable def q115F(k:Nat):F12:=⟨q115C k,rr q115p [(ty_5,true),(.bool,false)] Tryz.f343,fun p=>bif Nat.beq p 28 then some (.loop q115i1 q115o1 0 96 (q115f1 k k))else none,0,[]⟩
theorem q115K(k:Nat):Contract Tryz.prog 343 (q115V k):=ctr (q115C k) (rs := [(ty_5,true),(.bool,false)]) (ps:=q115p) (q115F k) Tryz.f343 32 ⟨tyOf_ok tys_ok,gOf_ok ⟨q111K,q114K k,trivial⟩⟩ (annl [28] ⟨lok q115i1 q115o1 0 96 (q115f1 k) k,trivial⟩)

noncomputable def q116V:Variant:=⟨[.val ty_15 true],[(.bool,false)],fun x=>spec_ivZero x.1⟩
noncomputable def q116C:Cfg:=⟨Tryz.prog,tyOf tys,13,gOf [],false,[],[]⟩
def q116p:List PE := [e67]
noncomputable def q116F:F4:=⟨q116C,rr q116p [(.bool,false)] Tryz.f310,fun p=>none,0,[]⟩
theorem q116K:Contract Tryz.prog 310 (q116V):=ctr q116C (rs := [(.bool,false)]) (ps:=q116p) q116F Tryz.f310 16 ⟨tyOf_ok tys_ok,gOf_ok trivial⟩ (annl [] trivial)

noncomputable def q117V:Variant:=⟨[.val ty_0 false,.val ty_0 false],[(ty_0,false)],fun x=>spec_dyDown x.1 x.2.1⟩
noncomputable def q117C:Cfg:=⟨Tryz.prog,tyOf tys,16,gOf [],false,[],[]⟩
def q117p:List PE := [e10,e3]
noncomputable def q117F:F2:=⟨q117C,rr q117p [(ty_0,false)] Tryz.f275,fun p=>none,0,[]⟩
theorem q117K:Contract Tryz.prog 275 (q117V):=ctr q117C (rs := [(ty_0,false)]) (ps:=q117p) q117F Tryz.f275 32 ⟨tyOf_ok tys_ok,gOf_ok trivial⟩ (annl [] trivial)

noncomputable def q118V:Variant:=⟨[.val ty_5 true],[(ty_0,false)],fun x=>spec_dyFloor x.1⟩
noncomputable def q118C:Cfg:=⟨Tryz.prog,tyOf tys,9,gOf [(218,[],q23V),(275,[],q117V)],false,[],[]⟩
def q118p:List PE := [e60]
noncomputable def q118F:F2:=⟨q118C,rr q118p [(ty_0,false)] Tryz.f265,fun p=>none,0,[]⟩
theorem q118K:Contract Tryz.prog 265 (q118V):=ctr q118C (rs := [(ty_0,false)]) (ps:=q118p) q118F Tryz.f265 16 ⟨tyOf_ok tys_ok,gOf_ok ⟨q23K,q117K,trivial⟩⟩ (annl [] trivial)

noncomputable def q119V(k:Nat):Variant:=⟨[.val ty_5 true,.val ty_0 false],[(ty_0,false),(.bool,false)],fun x=>spec_dyAt k x.1 x.2.1⟩
noncomputable def q119C(k:Nat):Cfg:=⟨Tryz.prog,tyOf tys,30,gOf [(218,[],q23V),(98,[],q11V)],false,[],[]⟩
def q119i1:List PE := [e6,⟨2,48,.box ty_5 false,false⟩,e22]
def q119o1:List PE := [e95]
noncomputable def q119f1(k:Nat)(n:Nat)(x4:PTe q119i1):=spec_dyAt_L58 k n x4.1 x4.2.1 x4.2.2.1
def q119p:List PE := [e60,e3]
noncomputable def q119F(k:Nat):Fn (Int×Bool):=⟨q119C k,rr q119p [(ty_0,false),(.bool,false)] Tryz.f184,fun p=>bif Nat.beq p 58 then some (.loop q119i1 q119o1 0 80 (q119f1 k k))else none,0,[]⟩
theorem q119K(k:Nat):Contract Tryz.prog 184 (q119V k):=ctr (q119C k) (rs := [(ty_0,false),(.bool,false)]) (ps:=q119p) (q119F k) Tryz.f184 32 ⟨tyOf_ok tys_ok,gOf_ok ⟨q23K,q11K,trivial⟩⟩ (annl [58] ⟨lok q119i1 q119o1 0 80 (q119f1 k) k,trivial⟩)

noncomputable def q120V(k:Nat):Variant:=⟨[.val ty_5 true,.val ty_5 true],[(ty_0,false)],fun x=>spec_dyCmp k x.1 x.2.1⟩
noncomputable def q120C(k:Nat):Cfg:=⟨Tryz.prog,tyOf tys,56,gOf [(265,[],q118V),(266,[],q8V),(218,[],q23V),(184,[],q119V k)],false,[],[]⟩
def q120p:List PE := [e60,e63]
noncomputable def q120F(k:Nat):F2:=⟨q120C k,rr q120p [(ty_0,false)] Tryz.f170,fun p=>none,0,[]⟩
theorem q120K(k:Nat):Contract Tryz.prog 170 (q120V k):=ctr (q120C k) (rs := [(ty_0,false)]) (ps:=q120p) (q120F k) Tryz.f170 32 ⟨tyOf_ok tys_ok,gOf_ok ⟨q118K,q8K,q23K,q119K k,trivial⟩⟩ (annl [] trivial)

noncomputable def q121V(k:Nat):Variant:=⟨[.val ty_17 false],[(ty_15,true)],fun x=>spec_ivEnds k x.1⟩
noncomputable def q121C(k:Nat):Cfg:=⟨Tryz.prog,tyOf tys,35,gOf [(170,[],q120V k)],false,[],[]⟩
def q121i1:List PE := [e99,e100,⟨13,48,.val ty_17 false,false⟩,e56,⟨15,80,.val ty_0 false,false⟩]
def q121o1:List PE := [e99,e100]
noncomputable def q121f1(k:Nat)(n:Nat)(x5:PTe q121i1):=spec_ivEnds_L58 k n x5.1 x5.2.1 x5.2.2.1 x5.2.2.2.1 x5.2.2.2.2.1
def q121p:List PE := [e101]
noncomputable def q121F(k:Nat):F14:=⟨q121C k,rr q121p [(ty_15,true)] Tryz.f260,fun p=>bif Nat.beq p 7474 then some (.cut [e99,e100,e102,⟨13,64,.val ty_17 false,false⟩,e79,e80] 112)else bif Nat.beq p 58 then some (.loop q121i1 q121o1 0 96 (q121f1 k k))else none,0,[]⟩
theorem q121K(k:Nat):Contract Tryz.prog 260 (q121V k):=ctr (q121C k) (rs := [(ty_15,true)]) (ps:=q121p) (q121F k) Tryz.f260 16 ⟨tyOf_ok tys_ok,gOf_ok ⟨q120K k,trivial⟩⟩ (annl [58] ⟨lok q121i1 q121o1 0 96 (q121f1 k) k,trivial⟩)

noncomputable def q122V(k:Nat):Variant:=⟨[.val ty_5 true,.val ty_0 false],[(ty_5,true)],fun x=>spec_dyRound k x.1 x.2.1⟩
noncomputable def q122C(k:Nat):Cfg:=⟨Tryz.prog,tyOf tys,26,gOf [(218,[],q23V),(275,[],q117V),(154,[],q107V k)],false,[],[]⟩
def q122p:List PE := [e60,e3]
noncomputable def q122F(k:Nat):F13:=⟨q122C k,rr q122p [(ty_5,true)] Tryz.f322,fun p=>none,0,[]⟩
theorem q122K(k:Nat):Contract Tryz.prog 322 (q122V k):=ctr (q122C k) (rs := [(ty_5,true)]) (ps:=q122p) (q122F k) Tryz.f322 32 ⟨tyOf_ok tys_ok,gOf_ok ⟨q23K,q117K,q107K k,trivial⟩⟩ (annl [] trivial)

noncomputable def q123V:Variant:=⟨[.val ty_5 true],[(ty_5,true)],fun x=>spec_dyMinus x.1⟩
noncomputable def q123C:Cfg:=⟨Tryz.prog,tyOf tys,9,gOf [],false,[],[]⟩
def q123p:List PE := [e60]
noncomputable def q123F:F13:=⟨q123C,rr q123p [(ty_5,true)] Tryz.f180,fun p=>none,0,[]⟩
theorem q123K:Contract Tryz.prog 180 (q123V):=ctr q123C (rs := [(ty_5,true)]) (ps:=q123p) q123F Tryz.f180 16 ⟨tyOf_ok tys_ok,gOf_ok trivial⟩ (annl [] trivial)

noncomputable def q124V(k:Nat):Variant:=⟨[.val ty_5 true,.val ty_0 false],[(ty_5,true)],fun x=>spec_ivUp k x.1 x.2.1⟩
noncomputable def q124C(k:Nat):Cfg:=⟨Tryz.prog,tyOf tys,10,gOf [(180,[],q123V),(322,[],q122V k)],false,[],[]⟩
def q124p:List PE := [e60,e3]
noncomputable def q124F(k:Nat):F13:=⟨q124C k,rr q124p [(ty_5,true)] Tryz.f323,fun p=>none,0,[]⟩
theorem q124K(k:Nat):Contract Tryz.prog 323 (q124V k):=ctr (q124C k) (rs := [(ty_5,true)]) (ps:=q124p) (q124F k) Tryz.f323 32 ⟨tyOf_ok tys_ok,gOf_ok ⟨q123K,q122K k,trivial⟩⟩ (annl [] trivial)

noncomputable def q125V(k:Nat):Variant:=⟨[.val ty_15 true,.val ty_0 false],[(ty_15,true)],fun x=>spec_ivRound k x.1 x.2.1⟩
noncomputable def q125C(k:Nat):Cfg:=⟨Tryz.prog,tyOf tys,14,gOf [(322,[],q122V k),(323,[],q124V k)],false,[],[]⟩
def q125p:List PE := [e67,e3]
noncomputable def q125F(k:Nat):F14:=⟨q125C k,rr q125p [(ty_15,true)] Tryz.f259,fun p=>none,0,[]⟩
theorem q125K(k:Nat):Contract Tryz.prog 259 (q125V k):=ctr (q125C k) (rs := [(ty_15,true)]) (ps:=q125p) (q125F k) Tryz.f259 32 ⟨tyOf_ok tys_ok,gOf_ok ⟨q122K k,q124K k,trivial⟩⟩ (annl [] trivial)

noncomputable def q126V(k:Nat):Variant:=⟨[.val ty_15 true,.val ty_0 false],[(ty_15,true),(.bool,false)],fun x=>spec_ivPower k x.1 x.2.1⟩
noncomputable def q126C(k:Nat):Cfg:=⟨Tryz.prog,tyOf tys,53,gOf [(343,[],q115V k),(310,[],q116V),(171,[],q111V),(260,[],q121V k),(259,[],q125V k)],false,[],[]⟩
def q126p:List PE := [e67,e3]
noncomputable def q126F(k:Nat):F15:=⟨q126C k,rr q126p [(ty_15,true),(.bool,false)] Tryz.f308,fun p=>bif Nat.beq p 126 then some (.cut [e77,⟨10,48,.eat ty_5,false⟩] 64)else none,0,[]⟩
theorem q126K(k:Nat):Contract Tryz.prog 308 (q126V k):=ctr (q126C k) (rs := [(ty_15,true),(.bool,false)]) (ps:=q126p) (q126F k) Tryz.f308 32 ⟨tyOf_ok tys_ok,gOf_ok ⟨q115K k,q116K,q111K,q121K k,q125K k,trivial⟩⟩ (annl [] trivial)

noncomputable def q127V(k:Nat):Variant:=⟨[.val ty_15 true,.val ty_15 true],[(ty_15,true),(.bool,false)],fun x=>spec_ivMul k x.1 x.2.1⟩
noncomputable def q127C(k:Nat):Cfg:=⟨Tryz.prog,tyOf tys,51,gOf [(179,[],q114V k),(260,[],q121V k),(259,[],q125V k)],false,[],[]⟩
def q127i1:List PE := [e100,e73,e103,e70,⟨17,96,.eat ty_5,false⟩,⟨18,112,.val ty_0 false,false⟩,⟨19,128,.val ty_0 false,false⟩,⟨27,144,.eat ty_5,false⟩,⟨28,160,.val ty_0 false,false⟩,⟨29,176,.val ty_0 false,false⟩]
def q127o1:List PE := [e100,e73,e103,⟨17,80,.eat ty_5,false⟩,e104,e105]
noncomputable def q127f1(k:Nat)(n:Nat)(x2:PTe q127i1):=spec_ivMul_L14950 k n x2.1 x2.2.1 x2.2.2.1 x2.2.2.2.1 x2.2.2.2.2.1 x2.2.2.2.2.2.1 x2.2.2.2.2.2.2.1 x2.2.2.2.2.2.2.2.1 x2.2.2.2.2.2.2.2.2.1 x2.2.2.2.2.2.2.2.2.2.1
def q127i2:List PE := [e100,e73,e103,⟨17,80,.eat ty_5,false⟩,e104,e105]
def q127o2:List PE := [e77,e106]
noncomputable def q127f2(k:Nat)(n:Nat)(x5:PTe q127i2):=spec_ivMul_L58 k n x5.1 x5.2.1 x5.2.2.1 x5.2.2.2.1 x5.2.2.2.2.1 x5.2.2.2.2.2.1
def q127p:List PE := [e67,e69]
noncomputable def q127F(k:Nat):F15:=⟨q127C k,rr q127p [(ty_15,true),(.bool,false)] Tryz.f165,fun p=>bif Nat.beq p 14950 then some (.loop q127i1 q127o1 2 192 (q127f1 k k))else bif Nat.beq p 58 then some (.loop q127i2 q127o2 0 128 (q127f2 k k))else none,0,[]⟩
theorem q127K(k:Nat):Contract Tryz.prog 165 (q127V k):=ctr (q127C k) (rs := [(ty_15,true),(.bool,false)]) (ps:=q127p) (q127F k) Tryz.f165 32 ⟨tyOf_ok tys_ok,gOf_ok ⟨q114K k,q121K k,q125K k,trivial⟩⟩ (annl [58,14950] ⟨lok q127i2 q127o2 0 128 (q127f2 k) k,lok q127i1 q127o1 2 192 (q127f1 k) k,trivial⟩)

noncomputable def q128V(k:Nat):Variant:=⟨[.val ty_5 true,.val ty_5 true],[(ty_5,true),(.bool,false)],fun x=>spec_dyAdd k x.1 x.2.1⟩
noncomputable def q128C(k:Nat):Cfg:=⟨Tryz.prog,tyOf tys,42,gOf [(183,[],q21V),(184,[],q119V k),(154,[],q107V k)],false,[],[]⟩
def q128p:List PE := [e60,e63]
noncomputable def q128F(k:Nat):F12:=⟨q128C k,rr q128p [(ty_5,true),(.bool,false)] Tryz.f87,fun p=>none,0,[]⟩
theorem q128K(k:Nat):Contract Tryz.prog 87 (q128V k):=ctr (q128C k) (rs := [(ty_5,true),(.bool,false)]) (ps:=q128p) (q128F k) Tryz.f87 32 ⟨tyOf_ok tys_ok,gOf_ok ⟨q21K,q119K k,q107K k,trivial⟩⟩ (annl [] trivial)

noncomputable def q129V:Variant:=⟨[.val ty_5 true,.val .bool false,.val ty_5 true,.val .bool false],[(ty_15,true),(.bool,false)],fun x=>spec_ivBoth x.1 x.2.1 x.2.2.1 x.2.2.2.1⟩
noncomputable def q129C:Cfg:=⟨Tryz.prog,tyOf tys,20,gOf [],false,[],[]⟩
def q129p:List PE := [e60,⟨1,16,.val .bool false,false⟩,e65,⟨3,48,.val .bool false,false⟩]
noncomputable def q129F:F15:=⟨q129C,rr q129p [(ty_15,true),(.bool,false)] Tryz.f261,fun p=>none,0,[]⟩
theorem q129K:Contract Tryz.prog 261 (q129V):=ctr q129C (rs := [(ty_15,true),(.bool,false)]) (ps:=q129p) q129F Tryz.f261 64 ⟨tyOf_ok tys_ok,gOf_ok trivial⟩ (annl [] trivial)

noncomputable def q130V(k:Nat):Variant:=⟨[.val ty_15 true,.val ty_15 true],[(ty_15,true),(.bool,false)],fun x=>spec_ivAdd k x.1 x.2.1⟩
noncomputable def q130C(k:Nat):Cfg:=⟨Tryz.prog,tyOf tys,33,gOf [(87,[],q128V k),(261,[],q129V)],false,[],[]⟩
def q130p:List PE := [e67,e69]
noncomputable def q130F(k:Nat):F15:=⟨q130C k,rr q130p [(ty_15,true),(.bool,false)] Tryz.f166,fun p=>none,0,[]⟩
theorem q130K(k:Nat):Contract Tryz.prog 166 (q130V k):=ctr (q130C k) (rs := [(ty_15,true),(.bool,false)]) (ps:=q130p) (q130F k) Tryz.f166 32 ⟨tyOf_ok tys_ok,gOf_ok ⟨q128K k,q129K,trivial⟩⟩ (annl [] trivial)

noncomputable def q131V(k:Nat):Variant:=⟨[.val ty_8 false,.val ty_16 false],[(ty_15,true),(.bool,false)],fun x=>spec_vaOver k x.1 x.2.1⟩
noncomputable def q131C(k:Nat):Cfg:=⟨Tryz.prog,tyOf tys,71,gOf [(171,[],q111V),(206,[],q112V),(309,[],q101V),(308,[],q126V k),(165,[],q127V k),(166,[],q130V k)],false,[],[]⟩
def q131i1:List PE := [e72,e73,e107,⟨8,80,.box ty_7 false,false⟩,⟨9,96,.box ty_15 false,false⟩,⟨20,112,.val ty_8 false,false⟩,⟨21,128,.val ty_0 false,false⟩,⟨22,144,.val ty_0 false,false⟩,⟨30,160,.val ty_16 false,false⟩,⟨31,176,.val ty_0 false,false⟩,⟨32,192,.val ty_0 false,false⟩]
def q131o1:List PE := [e72,e73,e107,⟨9,80,.box ty_15 false,false⟩,⟨20,96,.val ty_8 false,false⟩,e108,⟨22,128,.val ty_0 false,false⟩]
noncomputable def q131f1(k:Nat)(n:Nat)(x8:PTe q131i1):=spec_vaOver_L59802 k n x8.1 x8.2.1 x8.2.2.1 x8.2.2.2.1 x8.2.2.2.2.1 x8.2.2.2.2.2.1 x8.2.2.2.2.2.2.1 x8.2.2.2.2.2.2.2.1 x8.2.2.2.2.2.2.2.2.1 x8.2.2.2.2.2.2.2.2.2.1 x8.2.2.2.2.2.2.2.2.2.2.1
def q131i2:List PE := [e72,e73,e107,⟨20,80,.val ty_8 false,false⟩,⟨21,96,.val ty_0 false,false⟩,⟨22,112,.val ty_0 false,false⟩]
def q131o2:List PE := [e77,⟨6,48,.box ty_15 false,false⟩]
noncomputable def q131f2(k:Nat)(n:Nat)(x12:PTe q131i2):=spec_vaOver_L58 k n x12.1 x12.2.1 x12.2.2.1 x12.2.2.2.1 x12.2.2.2.2.1 x12.2.2.2.2.2.1
def q131p:List PE := [e15,e78]
noncomputable def q131F(k:Nat):F15:=⟨q131C k,rr q131p [(ty_15,true),(.bool,false)] Tryz.f232,fun p=>bif Nat.beq p 59802 then some (.loop q131i1 q131o1 2 208 (q131f1 k k))else bif Nat.beq p 58 then some (.loop q131i2 q131o2 0 128 (q131f2 k k))else none,0,[]⟩
theorem q131K(k:Nat):Contract Tryz.prog 232 (q131V k):=ctr (q131C k) (rs := [(ty_15,true),(.bool,false)]) (ps:=q131p) (q131F k) Tryz.f232 32 ⟨tyOf_ok tys_ok,gOf_ok ⟨q111K,q112K,q101K,q126K k,q127K k,q130K k,trivial⟩⟩ (annl [58,59802] ⟨lok q131i2 q131o2 0 128 (q131f2 k) k,lok q131i1 q131o1 2 208 (q131f1 k) k,trivial⟩)

noncomputable def q132V(k:Nat):Variant:=⟨[.val ty_8 false,.val ty_16 false],[(ty_16,false),(.bool,false)],fun x=>spec_vaGradient k x.1 x.2.1⟩
noncomputable def q132C(k:Nat):Cfg:=⟨Tryz.prog,tyOf tys,31,gOf [(282,[],q110V k),(232,[],q131V k)],false,[],[]⟩
def q132i1:List PE := [e12,⟨1,48,.val ty_16 false,false⟩,⟨6,64,.eat ty_15,false⟩,e42,e57]
def q132o1:List PE := [⟨6,32,.eat ty_15,false⟩]
noncomputable def q132f1(k:Nat)(n:Nat)(x3:PTe q132i1):=spec_vaGradient_L58 k n x3.1 x3.2.1 x3.2.2.1 x3.2.2.2.1 x3.2.2.2.2.1
def q132p:List PE := [e15,e78]
noncomputable def q132F(k:Nat):F16:=⟨q132C k,rr q132p [(ty_16,false),(.bool,false)] Tryz.f196,fun p=>bif Nat.beq p 58 then some (.loop q132i1 q132o1 0 112 (q132f1 k k))else none,0,[]⟩
theorem q132K(k:Nat):Contract Tryz.prog 196 (q132V k):=ctr (q132C k) (rs := [(ty_16,false),(.bool,false)]) (ps:=q132p) (q132F k) Tryz.f196 32 ⟨tyOf_ok tys_ok,gOf_ok ⟨q110K k,q131K k,trivial⟩⟩ (annl [58] ⟨lok q132i1 q132o1 0 112 (q132f1 k) k,trivial⟩)

noncomputable def q133V(k:Nat):Variant:=⟨[.val ty_12 false,.val ty_11 true],[(ty_18,false),(.bool,false)],fun x=>spec_vaJacobian k x.1 x.2.1⟩
noncomputable def q133C(k:Nat):Cfg:=⟨Tryz.prog,tyOf tys,32,gOf [(197,[],q109V k),(196,[],q132V k)],false,[],[]⟩
def q133i1:List PE := [⟨3,32,.box ty_11 false,false⟩,e81,⟨11,64,.val ty_12 false,false⟩,e82,e83]
def q133o1:List PE := [e84]
noncomputable def q133f1(k:Nat)(n:Nat)(x3:PTe q133i1):=spec_vaJacobian_L58 k n x3.1 x3.2.1 x3.2.2.1 x3.2.2.2.1 x3.2.2.2.2.1
def q133p:List PE := [e45,e91]
noncomputable def q133F(k:Nat):F17:=⟨q133C k,rr q133p [(ty_18,false),(.bool,false)] Tryz.f104,fun p=>bif Nat.beq p 58 then some (.loop q133i1 q133o1 0 112 (q133f1 k k))else none,0,[]⟩
theorem q133K(k:Nat):Contract Tryz.prog 104 (q133V k):=ctr (q133C k) (rs := [(ty_18,false),(.bool,false)]) (ps:=q133p) (q133F k) Tryz.f104 32 ⟨tyOf_ok tys_ok,gOf_ok ⟨q109K k,q132K k,trivial⟩⟩ (annl [58] ⟨lok q133i1 q133o1 0 112 (q133f1 k) k,trivial⟩)

noncomputable def q134V(k:Nat):Variant:=⟨[.val ty_5 true,.val ty_5 true],[(ty_5,true),(.bool,false)],fun x=>spec_dyHalf k x.1 x.2.1⟩
noncomputable def q134C(k:Nat):Cfg:=⟨Tryz.prog,tyOf tys,43,gOf [(183,[],q21V),(184,[],q119V k),(154,[],q107V k)],false,[],[]⟩
def q134p:List PE := [e60,e63]
noncomputable def q134F(k:Nat):F12:=⟨q134C k,rr q134p [(ty_5,true),(.bool,false)] Tryz.f198,fun p=>none,0,[]⟩
theorem q134K(k:Nat):Contract Tryz.prog 198 (q134V k):=ctr (q134C k) (rs := [(ty_5,true),(.bool,false)]) (ps:=q134p) (q134F k) Tryz.f198 32 ⟨tyOf_ok tys_ok,gOf_ok ⟨q21K,q119K k,q107K k,trivial⟩⟩ (annl [] trivial)

noncomputable def q135V(k:Nat):Variant:=⟨[.val ty_18 false],[(ty_19,false),(.bool,false)],fun x=>spec_nwMiddle k x.1⟩
noncomputable def q135C(k:Nat):Cfg:=⟨Tryz.prog,tyOf tys,45,gOf [(198,[],q134V k)],false,[],[]⟩
def q135i1:List PE := [e109,⟨7,32,.eat ty_5,false⟩,⟨12,48,.val ty_18 false,false⟩,⟨13,64,.val ty_0 false,false⟩,e79,⟨18,96,.val ty_16 false,false⟩,e105,e110]
def q135o1:List PE := [e109,⟨7,32,.eat ty_5,false⟩,⟨12,48,.val ty_18 false,false⟩,⟨13,64,.val ty_0 false,false⟩,e79]
noncomputable def q135f1(k:Nat)(n:Nat)(x2:PTe q135i1):=spec_nwMiddle_L59802 k n x2.1 x2.2.1 x2.2.2.1 x2.2.2.2.1 x2.2.2.2.2.1 x2.2.2.2.2.2.1 x2.2.2.2.2.2.2.1 x2.2.2.2.2.2.2.2.1
def q135i2:List PE := [e109,⟨12,32,.val ty_18 false,false⟩,⟨13,48,.val ty_0 false,false⟩,e56]
def q135o2:List PE := [e109]
noncomputable def q135f2(k:Nat)(n:Nat)(x5:PTe q135i2):=spec_nwMiddle_L58 k n x5.1 x5.2.1 x5.2.2.1 x5.2.2.2.1
def q135p:List PE := [e111]
noncomputable def q135F(k:Nat):F18:=⟨q135C k,rr q135p [(ty_19,false),(.bool,false)] Tryz.f105,fun p=>bif Nat.beq p 59802 then some (.loop q135i1 q135o1 2 144 (q135f1 k k))else bif Nat.beq p 58 then some (.loop q135i2 q135o2 0 80 (q135f2 k k))else none,0,[]⟩
theorem q135K(k:Nat):Contract Tryz.prog 105 (q135V k):=ctr (q135C k) (rs := [(ty_19,false),(.bool,false)]) (ps:=q135p) (q135F k) Tryz.f105 16 ⟨tyOf_ok tys_ok,gOf_ok ⟨q134K k,trivial⟩⟩ (annl [58,59802] ⟨lok q135i2 q135o2 0 80 (q135f2 k) k,lok q135i1 q135o1 2 144 (q135f1 k) k,trivial⟩)

noncomputable def q136V(k:Nat):Variant:=⟨[.val ty_12 false,.val ty_11 true],[(ty_19,false),(.bool,false)],fun x=>spec_MiddleJacobian k x.1 x.2.1⟩
noncomputable def q136C(k:Nat):Cfg:=⟨Tryz.prog,tyOf tys,24,gOf [(103,[],q105V k),(104,[],q133V k),(105,[],q135V k)],false,[],[]⟩
def q136p:List PE := [e45,e91]
noncomputable def q136F(k:Nat):F18:=⟨q136C k,rr q136p [(ty_19,false),(.bool,false)] Tryz.f30,fun p=>none,0,[]⟩
theorem q136K(k:Nat):Contract Tryz.prog 30 (q136V k):=ctr (q136C k) (rs := [(ty_19,false),(.bool,false)]) (ps:=q136p) (q136F k) Tryz.f30 32 ⟨tyOf_ok tys_ok,gOf_ok ⟨q105K k,q133K k,q135K k,trivial⟩⟩ (annl [] trivial)

noncomputable def q137V:Variant:=⟨[.lit (.slice none 0 0),.val ty_0 false],[(ty_17,false)],fun x=>slices_Grow_Dyadic_Dyadic x.1 x.2.1⟩
noncomputable def q137C:Cfg:=⟨Tryz.prog,tyOf tys,27,gOf [],true,[],[]⟩
def q137p:List PE := [⟨0,0,.lit (.slice none 0 0),false⟩,e3]
noncomputable def q137F:F19:=⟨q137C,rr q137p [(ty_17,false)] Tryz.f325,fun p=>none,0,[]⟩
theorem q137K:Contract Tryz.prog 325 (q137V):=ctr q137C (rs := [(ty_17,false)]) (ps:=q137p) q137F Tryz.f325 32 ⟨tyOf_ok tys_ok,gOf_ok trivial⟩ (annl [] trivial)

noncomputable def q138V(k:Nat):Variant:=⟨[.val ty_19 false],[(ty_17,false)],fun x=>slices_Concat_Dyadic_Dyadic k x.1⟩
noncomputable def q138C(k:Nat):Cfg:=⟨Tryz.prog,tyOf tys,36,gOf [(325,[],q137V)],false,[],[]⟩
def q138i1:List PE := [e112,e30,⟨9,48,.val ty_19 false,false⟩,e41,e42]
def q138o1:List PE := [e112,e30]
noncomputable def q138f1(k:Nat)(n:Nat)(x1:PTe q138i1):=slices_Concat_Dyadic_Dyadic_L58 k n x1.1 x1.2.1 x1.2.2.1 x1.2.2.2.1 x1.2.2.2.2.1
def q138i2:List PE := [⟨6,16,.eat ty_5,false⟩,⟨25,32,.val ty_19 false,false⟩,⟨26,48,.val ty_0 false,false⟩,⟨27,64,.val ty_0 false,false⟩]
def q138o2:List PE := [⟨6,16,.eat ty_5,false⟩]
noncomputable def q138f2(k:Nat)(n:Nat)(x5:PTe q138i2):=slices_Concat_Dyadic_Dyadic_L250 k n x5.1 x5.2.1 x5.2.2.1 x5.2.2.2.1
def q138p:List PE := [e113]
noncomputable def q138F(k:Nat):F19:=⟨q138C k,rr q138p [(ty_17,false)] Tryz.f269,fun p=>bif Nat.beq p 58 then some (.loop q138i1 q138o1 0 96 (q138f1 k k))else bif Nat.beq p 250 then some (.loop q138i2 q138o2 2 80 (q138f2 k k))else none,0,[]⟩
theorem q138K(k:Nat):Contract Tryz.prog 269 (q138V k):=ctr (q138C k) (rs := [(ty_17,false)]) (ps:=q138p) (q138F k) Tryz.f269 16 ⟨tyOf_ok tys_ok,gOf_ok ⟨q137K,trivial⟩⟩ (annl [58,250] ⟨lok q138i1 q138o1 0 96 (q138f1 k) k,lok q138i2 q138o2 2 80 (q138f2 k) k,trivial⟩)

noncomputable def q139V(k:Nat):Variant:=⟨[.val ty_19 false,.val ty_0 false,.val ty_0 false],[(ty_19,false)],fun x=>impl_part_Dyadic k x.1 x.2.1 x.2.2.1⟩
noncomputable def q139C(k:Nat):Cfg:=⟨Tryz.prog,tyOf tys,34,gOf [(269,[],q138V k)],false,[],[28]⟩
def q139i1:List PE := [e53,⟨2,64,.val ty_0 false,false⟩,⟨7,80,.eat ty_17,false⟩,⟨10,96,.val ty_19 false,false⟩,⟨11,112,.val ty_0 false,false⟩,⟨12,128,.val ty_0 false,false⟩]
def q139o1:List PE := [⟨7,48,.eat ty_17,false⟩]
noncomputable def q139f1(k:Nat)(n:Nat)(x2:PTe q139i1):=impl_part_Dyadic_L58 k n x2.1 x2.2.1 x2.2.2.1 x2.2.2.2.1 x2.2.2.2.2.1 x2.2.2.2.2.2.1
def q139p:List PE := [e113,e3,e5]
noncomputable def q139F(k:Nat):Fn (List (List (Int×Int))):=⟨q139C k,rr q139p [(ty_19,false)] Tryz.f176,fun p=>bif Nat.beq p 58 then some (.loop q139i1 q139o1 0 144 (q139f1 k k))else none,0,[]⟩
theorem q139K(k:Nat):Contract Tryz.prog 176 (q139V k):=ctr (q139C k) (rs := [(ty_19,false)]) (ps:=q139p) (q139F k) Tryz.f176 48 ⟨tyOf_ok tys_ok,gOf_ok ⟨q138K k,trivial⟩⟩ (annl [58] ⟨lok q139i1 q139o1 0 144 (q139f1 k) k,trivial⟩)

noncomputable def q140V(k:Nat):Variant:=⟨[.ptr .bool true,.val ty_17 false],[(ty_5,true)],fun x=>impl_reckoner_total k x.1 x.2.1⟩
noncomputable def q140C(k:Nat):Cfg:=⟨Tryz.prog,tyOf tys,24,gOf [(182,[],q92V k)],false,[],[]⟩
def q140i1:List PE := [e64,e97,e102,⟨12,64,.val ty_17 false,false⟩,e114,⟨14,96,.val ty_0 false,false⟩]
def q140o1:List PE := [e97,e102,e64]
noncomputable def q140f1(k:Nat)(n:Nat)(x2:PTe q140i1):=impl_reckoner_total_L58 k n x2.1 x2.2.1 x2.2.2.1 x2.2.2.2.1 x2.2.2.2.2.1 x2.2.2.2.2.2.1
def q140p:List PE := [e64,e115]
noncomputable def q140F(k:Nat):F12:=⟨q140C k,rr q140p [(ty_5,true)] Tryz.f86,fun p=>bif Nat.beq p 58 then some (.loop q140i1 q140o1 0 112 (q140f1 k k))else none,0,[0]⟩
theorem q140K(k:Nat):Contract Tryz.prog 86 (q140V k):=ctr (q140C k) (rs := [(ty_5,true)]) (ps:=q140p) (q140F k) Tryz.f86 32 ⟨tyOf_ok tys_ok,gOf_ok ⟨q92K k,trivial⟩⟩ (annl [58] ⟨lok q140i1 q140o1 0 112 (q140f1 k) k,trivial⟩)

noncomputable def q141V(k:Nat):Variant:=⟨[.ptr .bool true,.val ty_19 false],[(ty_5,true)],fun x=>impl_reckoner_determinant k x.1 x.2.1⟩
noncomputable def q141W(rc:Bool→(List (List (Int×Int)))→Option ((Int×Int)×Bool)):Variant:=⟨[.ptr .bool true,.val ty_19 false],[(ty_5,true)],fun x=>rc x.1 x.2.1⟩
noncomputable def q141C(k:Nat)(rc:Bool→(List (List (Int×Int)))→Option ((Int×Int)×Bool)):Cfg:=⟨Tryz.prog,tyOf tys,47,gOf [(176,[],q139V k),(80,[],q141W rc),(175,[],q74V k),(85,[],q84V),(86,[],q140V k)],false,[],[]⟩
def q141i1:List PE := [e64,⟨1,32,.val ty_19 false,false⟩,e116,⟨5,64,.eat ty_5,false⟩,⟨19,80,.val ty_17 false,false⟩,e117,e108]
def q141o1:List PE := [e64,e97,⟨5,48,.eat ty_5,false⟩]
noncomputable def q141f1(k:Nat)(rc:Bool→(List (List (Int×Int)))→Option ((Int×Int)×Bool))(n:Nat)(x7:PTe q141i1):=impl_reckoner_determinant_L122 k rc n x7.1 x7.2.1 x7.2.2.1 x7.2.2.2.1 x7.2.2.2.2.1 x7.2.2.2.2.2.1 x7.2.2.2.2.2.2.1
def q141p:List PE := [e64,e118]
noncomputable def q141F(k:Nat)(rc:Bool→(List (List (Int×Int)))→Option ((Int×Int)×Bool)):F12:=⟨q141C k rc,rr q141p [(ty_5,true)] Tryz.f80,fun p=>bif Nat.beq p 31334 then some (.cut [e64,⟨1,32,.val ty_19 false,false⟩,e116,⟨5,64,.eat ty_5,false⟩,e70,⟨19,96,.val ty_17 false,false⟩,e119,⟨21,128,.val ty_0 false,false⟩] 144)else bif Nat.beq p 122 then some (.loop q141i1 q141o1 0 128 (q141f1 k rc k))else none,0,[0]⟩
theorem q141KB(k:Nat)(rc:Bool→(List (List (Int×Int)))→Option ((Int×Int)×Bool))(hrc:Contract Tryz.prog 80 (q141W rc)):Contract Tryz.prog 80 (q141W (impl_reckoner_determinant_B k rc)):=ctr (q141C k rc) (rs := [(ty_5,true)]) (ps:=q141p) (q141F k rc) Tryz.f80 32 ⟨tyOf_ok tys_ok,gOf_ok ⟨q139K k,hrc,q74K k,q84K,q140K k,trivial⟩⟩ (annl [122] ⟨lok q141i1 q141o1 0 128 (q141f1 k rc) k,trivial⟩)
theorem q141KR(k:Nat):∀n,Contract Tryz.prog 80 (q141W (impl_reckoner_determinant_R k n))
 | 0=>contract_none fun _=>rfl
 | n+1=>q141KB k _ (q141KR k n)
theorem q141K(k:Nat):Contract Tryz.prog 80 (q141V k):=q141KR k k

noncomputable def q142V(k:Nat):Variant:=⟨[.val ty_19 false],[(ty_19,false),(.bool,false)],fun x=>impl_adjoint k x.1⟩
noncomputable def q142C(k:Nat):Cfg:=⟨Tryz.prog,tyOf tys,57,gOf [(169,[],q68V),(176,[],q139V k),(80,[],q141V k),(85,[],q84V)],false,[],[]⟩
def q142i1:List PE := [e112,e120,e121,e22,⟨7,80,.eat ty_5,false⟩,⟨19,96,.val ty_0 false,false⟩,e119,⟨24,128,.val ty_0 false,false⟩,⟨25,144,.val ty_0 false,false⟩]
def q142o1:List PE := [e112,e120,e121,e122,e38,e117]
noncomputable def q142f1(k:Nat)(n:Nat)(x7:PTe q142i1):=impl_adjoint_L256410 k n x7.1 x7.2.1 x7.2.2.1 x7.2.2.2.1 x7.2.2.2.2.1 x7.2.2.2.2.2.1 x7.2.2.2.2.2.2.1 x7.2.2.2.2.2.2.2.1 x7.2.2.2.2.2.2.2.2.1
def q142i2:List PE := [e112,e120,e121,⟨19,64,.val ty_0 false,false⟩,⟨20,80,.val ty_0 false,false⟩]
def q142o2:List PE := [e123,⟨5,32,.eat ty_17,false⟩]
noncomputable def q142f2(k:Nat)(n:Nat)(x10:PTe q142i2):=impl_adjoint_L250 k n x10.1 x10.2.1 x10.2.2.1 x10.2.2.2.1 x10.2.2.2.2.1
def q142p:List PE := [e113]
noncomputable def q142F(k:Nat):F18:=⟨q142C k,rr q142p [(ty_19,false),(.bool,false)] Tryz.f187,fun p=>bif Nat.beq p 65641062 then some (.cut [e112,e120,e121,e22,⟨7,80,.eat ty_5,false⟩,⟨9,96,.box ty_5 false,false⟩,e105,e110,⟨24,144,.val ty_0 false,false⟩,⟨25,160,.val ty_0 false,false⟩] 176)else bif Nat.beq p 256410 then some (.loop q142i1 q142o1 2 160 (q142f1 k k))else bif Nat.beq p 250 then some (.loop q142i2 q142o2 0 96 (q142f2 k k))else none,0,[]⟩
theorem q142K(k:Nat):Contract Tryz.prog 187 (q142V k):=ctr (q142C k) (rs := [(ty_19,false),(.bool,false)]) (ps:=q142p) (q142F k) Tryz.f187 16 ⟨tyOf_ok tys_ok,gOf_ok ⟨q68K,q139K k,q141K k,q84K,trivial⟩⟩ (annl [250,256410] ⟨lok q142i2 q142o2 0 96 (q142f2 k) k,lok q142i1 q142o1 2 160 (q142f1 k) k,trivial⟩)

noncomputable def q143V:Variant:=⟨[.val ty_1 false],[(ty_0,false)],fun x=>math_bits_Len64 x.1⟩
noncomputable def q143C:Cfg:=⟨Tryz.prog,tyOf tys,25,gOf [],false,[],[]⟩
def q143p:List PE := [e61]
noncomputable def q143F:F2:=⟨q143C,rr q143p [(ty_0,false)] Tryz.f352,fun p=>bif Nat.beq p 30 then some (.cut [e124,e5] 48)else bif Nat.beq p 14 then some (.cut [e124,e5] 48)else bif Nat.beq p 6 then some (.cut [e124,e5] 48)else none,0,[]⟩
theorem q143K:Contract Tryz.prog 352 (q143V):=ctr q143C (rs := [(ty_0,false)]) (ps:=q143p) q143F Tryz.f352 16 ⟨tyOf_ok tys_ok,gOf_ok trivial⟩ (annl [] trivial)

noncomputable def q144V:Variant:=⟨[.val ty_1 false],[(ty_0,false)],fun x=>math_bits_LeadingZeros64 x.1⟩
noncomputable def q144C:Cfg:=⟨Tryz.prog,tyOf tys,6,gOf [(352,[],q143V)],false,[],[]⟩
def q144p:List PE := [e61]
noncomputable def q144F:F2:=⟨q144C,rr q144p [(ty_0,false)] Tryz.f326,fun p=>none,0,[]⟩
theorem q144K:Contract Tryz.prog 326 (q144V):=ctr q144C (rs := [(ty_0,false)]) (ps:=q144p) q144F Tryz.f326 16 ⟨tyOf_ok tys_ok,gOf_ok ⟨q143K,trivial⟩⟩ (annl [] trivial)

noncomputable def q145V(k:Nat):Variant:=⟨[.val ty_1 false,.val ty_1 false,.val ty_1 false],[(ty_1,false),(ty_1,false)],fun x=>math_bits_Div64 k x.1 x.2.1 x.2.2.1⟩
noncomputable def q145C(k:Nat):Cfg:=⟨Tryz.prog,tyOf tys,135,gOf [(326,[],q144V)],false,[],[]⟩
def q145i1:List PE := [e125,e126,e127,e128,⟨11,112,.val ty_1 false,false⟩,⟨13,128,.val ty_1 false,false⟩,⟨14,144,.val ty_1 false,false⟩,⟨15,160,.val ty_1 false,false⟩,⟨16,176,.val ty_1 false,false⟩]
def q145o1:List PE := [e125,e126,e127,e128,⟨11,112,.val ty_1 false,false⟩,⟨13,128,.val ty_1 false,false⟩,⟨14,144,.val ty_1 false,false⟩,⟨15,160,.val ty_1 false,false⟩]
noncomputable def q145f1(k:Nat)(n:Nat)(x2:PTe q145i1):=math_bits_Div64_L131068 k n x2.1 x2.2.1 x2.2.2.1 x2.2.2.2.1 x2.2.2.2.2.1 x2.2.2.2.2.2.1 x2.2.2.2.2.2.2.1 x2.2.2.2.2.2.2.2.1 x2.2.2.2.2.2.2.2.2.1
def q145i2:List PE := [e125,e126,e127,e128,⟨14,112,.val ty_1 false,false⟩,⟨15,128,.val ty_1 false,false⟩,⟨16,144,.val ty_1 false,false⟩,⟨17,160,.val ty_1 false,false⟩,⟨18,176,.val ty_1 false,false⟩]
def q145o2:List PE := [e125,e126,⟨14,80,.val ty_1 false,false⟩,⟨15,96,.val ty_1 false,false⟩,⟨17,112,.val ty_1 false,false⟩,⟨18,128,.val ty_1 false,false⟩]
noncomputable def q145f2(k:Nat)(n:Nat)(x5:PTe q145i2):=math_bits_Div64_L2097148 k n x5.1 x5.2.1 x5.2.2.1 x5.2.2.2.1 x5.2.2.2.2.1 x5.2.2.2.2.2.1 x5.2.2.2.2.2.2.1 x5.2.2.2.2.2.2.2.1 x5.2.2.2.2.2.2.2.2.1
def q145p:List PE := [e61,e62,⟨2,32,.val ty_1 false,false⟩]
noncomputable def q145F(k:Nat):F13:=⟨q145C k,rr q145p [(ty_1,false),(ty_1,false)] Tryz.f271,fun p=>bif Nat.beq p 131068 then some (.loop q145i1 q145o1 0 192 (q145f1 k k))else bif Nat.beq p 2097148 then some (.loop q145i2 q145o2 2 192 (q145f2 k k))else none,0,[]⟩
theorem q145K(k:Nat):Contract Tryz.prog 271 (q145V k):=ctr (q145C k) (rs := [(ty_1,false),(ty_1,false)]) (ps:=q145p) (q145F k) Tryz.f271 48 ⟨tyOf_ok tys_ok,gOf_ok ⟨q144K,trivial⟩⟩ (annl [131068,2097148] ⟨lok q145i1 q145o1 0 192 (q145f1 k) k,lok q145i2 q145o2 2 192 (q145f2 k) k,trivial⟩)

noncomputable def q146V(k:Nat):Variant:=⟨[.val ty_0 false,.val ty_0 false,.val ty_0 false,.val ty_0 false],[(ty_5,true),(.bool,false)],fun x=>impl_quotientDown k x.1 x.2.1 x.2.2.1 x.2.2.2.1⟩
noncomputable def q146C(k:Nat):Cfg:=⟨Tryz.prog,tyOf tys,88,gOf [(230,[],q61V),(264,[],q63V),(272,[],q60V),(271,[],q145V k),(273,[],q77V k),(274,[],q90V k),(231,[],q64V k)],false,[],[]⟩
def q146p:List PE := [e10,e3,e5,⟨3,48,.val ty_0 false,false⟩]
noncomputable def q146F(k:Nat):F12:=⟨q146C k,rr q146p [(ty_5,true),(.bool,false)] Tryz.f189,fun p=>bif Nat.beq p 1022 then some (.cut [⟨3,64,.val ty_0 false,false⟩,e70,⟨16,96,.box ty_14 false,false⟩] 112)else bif Nat.beq p 1022 then some (.cut [⟨3,64,.val ty_0 false,false⟩,e70,⟨16,96,.box ty_14 false,false⟩] 112)else none,0,[]⟩
theorem q146K(k:Nat):Contract Tryz.prog 189 (q146V k):=ctr (q146C k) (rs := [(ty_5,true),(.bool,false)]) (ps:=q146p) (q146F k) Tryz.f189 64 ⟨tyOf_ok tys_ok,gOf_ok ⟨q61K,q63K,q60K,q145K k,q77K k,q90K k,q64K k,trivial⟩⟩ (annl [] trivial)

noncomputable def q147V(k:Nat):Variant:=⟨[.val ty_19 false,.val ty_0 false],[(ty_19,false),(.bool,false)],fun x=>impl_roundedInverse k x.1 x.2.1⟩
noncomputable def q147C(k:Nat):Cfg:=⟨Tryz.prog,tyOf tys,77,gOf [(80,[],q141V k),(187,[],q142V k),(189,[],q146V k),(188,[],q73V)],false,[11,44,51],[]⟩
def q147i1:List PE := [⟨38,48,.same 8,false⟩,⟨44,64,.same 11,false⟩,⟨11,32,.vw 8,false⟩,⟨1,80,.val ty_0 false,false⟩,⟨6,96,.box .bool false,false⟩,⟨7,112,.box ty_5 false,false⟩,⟨8,128,.eat ty_17,false⟩,⟨39,144,.val ty_0 false,false⟩,⟨40,160,.val ty_0 false,false⟩,⟨45,176,.val ty_0 false,false⟩,⟨46,192,.val ty_0 false,false⟩]
def q147o1:List PE := [⟨38,32,.same 8,false⟩,e53,e74,⟨7,80,.box ty_5 false,false⟩,⟨8,96,.eat ty_17,false⟩,⟨39,112,.val ty_0 false,false⟩,⟨40,128,.val ty_0 false,false⟩]
noncomputable def q147f1(k:Nat)(n:Nat)(x5:PTe q147i1):=impl_roundedInverse_L129638 k n x5.1 x5.2.1 x5.2.2.1 x5.2.2.2.1 x5.2.2.2.2.1 x5.2.2.2.2.2.1 x5.2.2.2.2.2.2.1 x5.2.2.2.2.2.2.2.1 x5.2.2.2.2.2.2.2.2.1 x5.2.2.2.2.2.2.2.2.2.1 x5.2.2.2.2.2.2.2.2.2.2.1
def q147i2:List PE := [⟨38,32,.same 8,false⟩,e53,e74,⟨7,80,.box ty_5 false,false⟩,⟨8,96,.eat ty_17,false⟩,⟨39,112,.val ty_0 false,false⟩,⟨40,128,.val ty_0 false,false⟩]
def q147o2:List PE := [e129,⟨8,48,.eat ty_17,false⟩]
noncomputable def q147f2(k:Nat)(n:Nat)(x8:PTe q147i2):=impl_roundedInverse_L506 k n x8.1 x8.2.1 x8.2.2.1 x8.2.2.2.1 x8.2.2.2.2.1 x8.2.2.2.2.2.1 x8.2.2.2.2.2.2.1
def q147p:List PE := [e113,e3]
noncomputable def q147F(k:Nat):F18:=⟨q147C k,rr q147p [(ty_19,false),(.bool,false)] Tryz.f97,fun p=>bif Nat.beq p 129638 then some (.loop q147i1 q147o1 2 208 (q147f1 k k))else bif Nat.beq p 506 then some (.loop q147i2 q147o2 0 144 (q147f2 k k))else none,0,[]⟩
theorem q147K(k:Nat):Contract Tryz.prog 97 (q147V k):=ctr (q147C k) (rs := [(ty_19,false),(.bool,false)]) (ps:=q147p) (q147F k) Tryz.f97 32 ⟨tyOf_ok tys_ok,gOf_ok ⟨q141K k,q142K k,q146K k,q73K,trivial⟩⟩ (annl [506,129638] ⟨lok q147i2 q147o2 0 144 (q147f2 k) k,lok q147i1 q147o1 2 208 (q147f1 k) k,trivial⟩)

noncomputable def q148V(k:Nat):Variant:=⟨[.val ty_12 false,.ptr ty_11 false],[(ty_19,false),(.bool,false)],fun x=>impl_inverseJacobian k x.1 x.2.1⟩
noncomputable def q148C(k:Nat):Cfg:=⟨Tryz.prog,tyOf tys,20,gOf [(102,[],q99V k),(97,[],q147V k)],false,[],[]⟩
def q148p:List PE := [e45,e48]
noncomputable def q148F(k:Nat):F18:=⟨q148C k,rr q148p [(ty_19,false),(.bool,false)] Tryz.f106,fun p=>none,0,[]⟩
theorem q148K(k:Nat):Contract Tryz.prog 106 (q148V k):=ctr (q148C k) (rs := [(ty_19,false),(.bool,false)]) (ps:=q148p) (q148F k) Tryz.f106 32 ⟨tyOf_ok tys_ok,gOf_ok ⟨q99K k,q147K k,trivial⟩⟩ (annl [] trivial)

noncomputable def q149V(k:Nat):Variant:=⟨[.val ty_12 false,.val ty_11 true],[(ty_19,false),(.bool,false)],fun x=>impl_InverseJacobian k x.1 x.2.1⟩
noncomputable def q149C(k:Nat):Cfg:=⟨Tryz.prog,tyOf tys,13,gOf [(101,[],q49V k),(106,[],q148V k)],false,[],[]⟩
def q149p:List PE := [e45,e91]
noncomputable def q149F(k:Nat):F18:=⟨q149C k,rr q149p [(ty_19,false),(.bool,false)] Tryz.f31,fun p=>none,0,[]⟩
theorem q149K(k:Nat):Contract Tryz.prog 31 (q149V k):=ctr (q149C k) (rs := [(ty_19,false),(.bool,false)]) (ps:=q149p) (q149F k) Tryz.f31 32 ⟨tyOf_ok tys_ok,gOf_ok ⟨q49K k,q148K k,trivial⟩⟩ (annl [] trivial)

noncomputable def q150V(k:Nat):Variant:=⟨[.val ty_19 false,.val ty_0 false,.val ty_0 false],[(ty_19,false)],fun x=>spec_mxPart k x.1 x.2.1 x.2.2.1⟩
noncomputable def q150C(k:Nat):Cfg:=⟨Tryz.prog,tyOf tys,35,gOf [],false,[],[]⟩
def q150i1:List PE := [e53,⟨2,64,.val ty_0 false,false⟩,⟨7,80,.eat ty_17,false⟩,⟨10,96,.val ty_19 false,false⟩,⟨11,112,.val ty_0 false,false⟩,⟨12,128,.val ty_0 false,false⟩]
def q150o1:List PE := [⟨7,48,.eat ty_17,false⟩]
noncomputable def q150f1(k:Nat)(n:Nat)(x1:PTe q150i1):=spec_mxPart_L58 k n x1.1 x1.2.1 x1.2.2.1 x1.2.2.2.1 x1.2.2.2.2.1 x1.2.2.2.2.2.1
def q150p:List PE := [e113,e3,e5]
noncomputable def q150F(k:Nat):Fn (List (List (Int×Int))):=⟨q150C k,rr q150p [(ty_19,false)] Tryz.f178,fun p=>bif Nat.beq p 58 then some (.loop q150i1 q150o1 0 144 (q150f1 k k))else none,0,[]⟩
theorem q150K(k:Nat):Contract Tryz.prog 178 (q150V k):=ctr (q150C k) (rs := [(ty_19,false)]) (ps:=q150p) (q150F k) Tryz.f178 48 ⟨tyOf_ok tys_ok,gOf_ok trivial⟩ (annl [58] ⟨lok q150i1 q150o1 0 144 (q150f1 k) k,trivial⟩)

noncomputable def q151V(k:Nat):Variant:=⟨[.val ty_19 false],[(ty_5,true),(.bool,false)],fun x=>spec_mxDet k x.1⟩
noncomputable def q151W(rc:(List (List (Int×Int)))→Option ((Int×Int)×Bool)):Variant:=⟨[.val ty_19 false],[(ty_5,true),(.bool,false)],fun x=>rc x.1⟩
noncomputable def q151C(k:Nat)(rc:(List (List (Int×Int)))→Option ((Int×Int)×Bool)):Cfg:=⟨Tryz.prog,tyOf tys,68,gOf [(178,[],q150V k),(82,[],q151W rc),(179,[],q114V k),(180,[],q123V),(87,[],q128V k)],false,[],[]⟩
def q151i1:List PE := [e112,e95,e116,⟨24,64,.val ty_17 false,false⟩,⟨25,80,.val ty_0 false,false⟩,e88]
def q151o1:List PE := [⟨2,16,.box ty_5 false,false⟩,e97]
noncomputable def q151f1(k:Nat)(rc:(List (List (Int×Int)))→Option ((Int×Int)×Bool))(n:Nat)(x8:PTe q151i1):=spec_mxDet_L122 k rc n x8.1 x8.2.1 x8.2.2.1 x8.2.2.2.1 x8.2.2.2.2.1 x8.2.2.2.2.2.1
def q151p:List PE := [e113]
noncomputable def q151F(k:Nat)(rc:(List (List (Int×Int)))→Option ((Int×Int)×Bool)):F12:=⟨q151C k rc,rr q151p [(ty_5,true),(.bool,false)] Tryz.f82,fun p=>bif Nat.beq p 125342 then some (.cut [e112,e95,e116,⟨9,64,.box ty_5 false,false⟩,⟨10,80,.val .bool false,false⟩,⟨24,96,.val ty_17 false,false⟩,⟨25,112,.val ty_0 false,false⟩,⟨26,128,.val ty_0 false,false⟩] 144)else bif Nat.beq p 122 then some (.loop q151i1 q151o1 0 112 (q151f1 k rc k))else none,0,[]⟩
theorem q151KB(k:Nat)(rc:(List (List (Int×Int)))→Option ((Int×Int)×Bool))(hrc:Contract Tryz.prog 82 (q151W rc)):Contract Tryz.prog 82 (q151W (spec_mxDet_B k rc)):=ctr (q151C k rc) (rs := [(ty_5,true),(.bool,false)]) (ps:=q151p) (q151F k rc) Tryz.f82 16 ⟨tyOf_ok tys_ok,gOf_ok ⟨q150K k,hrc,q114K k,q123K,q128K k,trivial⟩⟩ (annl [122] ⟨lok q151i1 q151o1 0 112 (q151f1 k rc) k,trivial⟩)
theorem q151KR(k:Nat):∀n,Contract Tryz.prog 82 (q151W (spec_mxDet_R k n))
 | 0=>contract_none fun _=>rfl
 | n+1=>q151KB k _ (q151KR k n)
theorem q151K(k:Nat):Contract Tryz.prog 82 (q151V k):=q151KR k k

noncomputable def q152V(k:Nat):Variant:=⟨[.val ty_19 false],[(ty_19,false),(.bool,false)],fun x=>spec_mxAdjoint k x.1⟩
noncomputable def q152C(k:Nat):Cfg:=⟨Tryz.prog,tyOf tys,54,gOf [(171,[],q111V),(178,[],q150V k),(82,[],q151V k),(180,[],q123V)],false,[],[]⟩
def q152i1:List PE := [e112,e130,e55,e103,⟨17,80,.val ty_0 false,false⟩,e104,⟨22,112,.val ty_0 false,false⟩,⟨23,128,.val ty_0 false,false⟩]
def q152o1:List PE := [e112,e130,e106,⟨17,64,.val ty_0 false,false⟩,⟨18,80,.val ty_0 false,false⟩]
noncomputable def q152f1(k:Nat)(n:Nat)(x7:PTe q152i1):=spec_mxAdjoint_L125338 k n x7.1 x7.2.1 x7.2.2.1 x7.2.2.2.1 x7.2.2.2.2.1 x7.2.2.2.2.2.1 x7.2.2.2.2.2.2.1 x7.2.2.2.2.2.2.2.1
def q152i2:List PE := [e112,e130,⟨17,48,.val ty_0 false,false⟩,⟨18,64,.val ty_0 false,false⟩]
def q152o2:List PE := [e109]
noncomputable def q152f2(k:Nat)(n:Nat)(x10:PTe q152i2):=spec_mxAdjoint_L122 k n x10.1 x10.2.1 x10.2.2.1 x10.2.2.2.1
def q152p:List PE := [e113]
noncomputable def q152F(k:Nat):F18:=⟨q152C k,rr q152p [(ty_19,false),(.bool,false)] Tryz.f190,fun p=>bif Nat.beq p 64173262 then some (.cut [e112,e130,e55,e103,e70,⟨17,96,.val ty_0 false,false⟩,⟨18,112,.val ty_0 false,false⟩,⟨22,128,.val ty_0 false,false⟩,⟨23,144,.val ty_0 false,false⟩] 160)else bif Nat.beq p 125338 then some (.loop q152i1 q152o1 2 144 (q152f1 k k))else bif Nat.beq p 122 then some (.loop q152i2 q152o2 0 80 (q152f2 k k))else none,0,[]⟩
theorem q152K(k:Nat):Contract Tryz.prog 190 (q152V k):=ctr (q152C k) (rs := [(ty_19,false),(.bool,false)]) (ps:=q152p) (q152F k) Tryz.f190 16 ⟨tyOf_ok tys_ok,gOf_ok ⟨q111K,q150K k,q151K k,q123K,trivial⟩⟩ (annl [122,125338] ⟨lok q152i2 q152o2 0 80 (q152f2 k) k,lok q152i1 q152o1 2 144 (q152f1 k) k,trivial⟩)

noncomputable def q153V(k:Nat):Variant:=⟨[.val ty_0 false,.val ty_0 false,.val ty_0 false,.val ty_0 false,.val ty_0 false],[(ty_5,true),(.bool,false)],fun x=>spec_dyDigits k x.1 x.2.1 x.2.2.1 x.2.2.2.1 x.2.2.2.2.1⟩
noncomputable def q153C(k:Nat):Cfg:=⟨Tryz.prog,tyOf tys,65,gOf [(185,[],q113V),(218,[],q23V),(154,[],q107V k)],false,[],[]⟩
def q153i1:List PE := [e131,⟨1,96,.val ty_0 false,false⟩,⟨2,112,.val ty_0 false,false⟩,⟨3,128,.val ty_0 false,false⟩,⟨4,144,.val ty_0 false,false⟩,⟨10,160,.box ty_5 false,false⟩,⟨12,176,.val ty_0 false,false⟩,⟨13,192,.val ty_0 false,false⟩]
def q153o1:List PE := [e131,e132,e133,e134,e135]
noncomputable def q153f1(k:Nat)(n:Nat)(x1:PTe q153i1):=spec_dyDigits_L58 k n x1.1 x1.2.1 x1.2.2.1 x1.2.2.2.1 x1.2.2.2.2.1 x1.2.2.2.2.2.1 x1.2.2.2.2.2.2.1 x1.2.2.2.2.2.2.2.1
def q153i2:List PE := [e131,e132,e133,e134,e135]
def q153o2:List PE := [e131,e132,e133,e134,e135]
noncomputable def q153f2(k:Nat)(n:Nat)(x4:PTe q153i2):=spec_dyDigits_L60 k n x4.1 x4.2.1 x4.2.2.1 x4.2.2.2.1 x4.2.2.2.2.1
def q153p:List PE := [e10,e3,e5,⟨3,48,.val ty_0 false,false⟩,⟨4,64,.val ty_0 false,false⟩]
noncomputable def q153F(k:Nat):F12:=⟨q153C k,rr q153p [(ty_5,true),(.bool,false)] Tryz.f276,fun p=>bif Nat.beq p 58 then some (.loop q153i1 q153o1 0 208 (q153f1 k k))else bif Nat.beq p 60 then some (.loop q153i2 q153o2 2 160 (q153f2 k k))else none,0,[]⟩
theorem q153K(k:Nat):Contract Tryz.prog 276 (q153V k):=ctr (q153C k) (rs := [(ty_5,true),(.bool,false)]) (ps:=q153p) (q153F k) Tryz.f276 80 ⟨tyOf_ok tys_ok,gOf_ok ⟨q113K,q23K,q107K k,trivial⟩⟩ (annl [58,60] ⟨lok q153i1 q153o1 0 208 (q153f1 k) k,lok q153i2 q153o2 2 160 (q153f2 k) k,trivial⟩)

noncomputable def q154V(k:Nat):Variant:=⟨[.val ty_5 true,.val ty_5 true,.val ty_0 false],[(ty_5,true),(.bool,false)],fun x=>spec_dyDivide k x.1 x.2.1 x.2.2.1⟩
noncomputable def q154C(k:Nat):Cfg:=⟨Tryz.prog,tyOf tys,59,gOf [(180,[],q123V),(275,[],q117V),(218,[],q23V),(154,[],q107V k),(276,[],q153V k)],false,[],[]⟩
def q154p:List PE := [e60,e63,e5]
noncomputable def q154F(k:Nat):F12:=⟨q154C k,rr q154p [(ty_5,true),(.bool,false)] Tryz.f191,fun p=>bif Nat.beq p 14 then some (.cut [e68,⟨3,64,.box ty_5 false,false⟩,⟨4,80,.box ty_5 false,false⟩,⟨6,96,.box ty_5 false,false⟩] 112)else none,0,[]⟩
theorem q154K(k:Nat):Contract Tryz.prog 191 (q154V k):=ctr (q154C k) (rs := [(ty_5,true),(.bool,false)]) (ps:=q154p) (q154F k) Tryz.f191 48 ⟨tyOf_ok tys_ok,gOf_ok ⟨q123K,q117K,q23K,q107K k,q153K k,trivial⟩⟩ (annl [] trivial)

noncomputable def q155V(k:Nat):Variant:=⟨[.val ty_19 false,.val ty_0 false],[(ty_19,false),(.bool,false)],fun x=>spec_mxInverse k x.1 x.2.1⟩
noncomputable def q155C(k:Nat):Cfg:=⟨Tryz.prog,tyOf tys,71,gOf [(82,[],q151V k),(190,[],q152V k),(191,[],q154V k)],false,[],[]⟩
def q155i1:List PE := [e6,e98,e136,⟨13,80,.eat ty_5,false⟩,⟨39,96,.val ty_19 false,false⟩,⟨40,112,.val ty_0 false,false⟩,⟨41,128,.val ty_0 false,false⟩,⟨45,144,.val ty_17 false,false⟩,⟨46,160,.val ty_0 false,false⟩,⟨47,176,.val ty_0 false,false⟩]
def q155o1:List PE := [e6,e98,e136,⟨13,80,.eat ty_5,false⟩,⟨39,96,.val ty_19 false,false⟩,⟨40,112,.val ty_0 false,false⟩,⟨41,128,.val ty_0 false,false⟩]
noncomputable def q155f1(k:Nat)(n:Nat)(x4:PTe q155i1):=spec_mxInverse_L518554 k n x4.1 x4.2.1 x4.2.2.1 x4.2.2.2.1 x4.2.2.2.2.1 x4.2.2.2.2.2.1 x4.2.2.2.2.2.2.1 x4.2.2.2.2.2.2.2.1 x4.2.2.2.2.2.2.2.2.1 x4.2.2.2.2.2.2.2.2.2.1
def q155i2:List PE := [e6,e98,e136,⟨39,80,.val ty_19 false,false⟩,⟨40,96,.val ty_0 false,false⟩,⟨41,112,.val ty_0 false,false⟩]
def q155o2:List PE := [⟨10,32,.eat ty_17,false⟩]
noncomputable def q155f2(k:Nat)(n:Nat)(x7:PTe q155i2):=spec_mxInverse_L506 k n x7.1 x7.2.1 x7.2.2.1 x7.2.2.2.1 x7.2.2.2.2.1 x7.2.2.2.2.2.1
def q155p:List PE := [e113,e3]
noncomputable def q155F(k:Nat):F18:=⟨q155C k,rr q155p [(ty_19,false),(.bool,false)] Tryz.f99,fun p=>bif Nat.beq p 518554 then some (.loop q155i1 q155o1 2 192 (q155f1 k k))else bif Nat.beq p 506 then some (.loop q155i2 q155o2 0 128 (q155f2 k k))else none,0,[]⟩
theorem q155K(k:Nat):Contract Tryz.prog 99 (q155V k):=ctr (q155C k) (rs := [(ty_19,false),(.bool,false)]) (ps:=q155p) (q155F k) Tryz.f99 32 ⟨tyOf_ok tys_ok,gOf_ok ⟨q151K k,q152K k,q154K k,trivial⟩⟩ (annl [506,518554] ⟨lok q155i2 q155o2 0 128 (q155f2 k) k,lok q155i1 q155o1 2 192 (q155f1 k) k,trivial⟩)

noncomputable def q156V(k:Nat):Variant:=⟨[.val ty_12 false,.val ty_11 true],[(ty_18,false),(ty_19,false),(.bool,false)],fun x=>spec_nwInverse k x.1 x.2.1⟩
noncomputable def q156C(k:Nat):Cfg:=⟨Tryz.prog,tyOf tys,36,gOf [(104,[],q133V k),(105,[],q135V k),(99,[],q155V k)],false,[],[]⟩
def q156p:List PE := [e45,e91]
noncomputable def q156F(k:Nat):Fn ((List (List ((Int×Int)×Int×Int)))×(List (List (Int×Int)))×Bool):=⟨q156C k,rr q156p [(ty_18,false),(ty_19,false),(.bool,false)] Tryz.f107,fun p=>none,0,[]⟩
theorem q156K(k:Nat):Contract Tryz.prog 107 (q156V k):=ctr (q156C k) (rs := [(ty_18,false),(ty_19,false),(.bool,false)]) (ps:=q156p) (q156F k) Tryz.f107 32 ⟨tyOf_ok tys_ok,gOf_ok ⟨q133K k,q135K k,q155K k,trivial⟩⟩ (annl [] trivial)

noncomputable def q157V(k:Nat):Variant:=⟨[.val ty_12 false,.val ty_11 true],[(ty_19,false),(.bool,false)],fun x=>spec_InverseJacobian k x.1 x.2.1⟩
noncomputable def q157C(k:Nat):Cfg:=⟨Tryz.prog,tyOf tys,22,gOf [(103,[],q105V k),(107,[],q156V k)],false,[],[]⟩
def q157p:List PE := [e45,e91]
noncomputable def q157F(k:Nat):F18:=⟨q157C k,rr q157p [(ty_19,false),(.bool,false)] Tryz.f32,fun p=>none,0,[]⟩
theorem q157K(k:Nat):Contract Tryz.prog 32 (q157V k):=ctr (q157C k) (rs := [(ty_19,false),(.bool,false)]) (ps:=q157p) (q157F k) Tryz.f32 32 ⟨tyOf_ok tys_ok,gOf_ok ⟨q105K k,q156K k,trivial⟩⟩ (annl [] trivial)

noncomputable def q158V(k:Nat):Variant:=⟨[.ptr ty_11 false],[(ty_17,false)],fun x=>impl_Box_middle k x.1⟩
noncomputable def q158C(k:Nat):Cfg:=⟨Tryz.prog,tyOf tys,46,gOf [(230,[],q61V),(231,[],q64V k)],false,[],[]⟩
def q158i1:List PE := [e46,⟨3,32,.eat ty_5,false⟩,⟨11,48,.val ty_0 false,false⟩,e37]
def q158o1:List PE := [⟨3,16,.eat ty_5,false⟩]
noncomputable def q158f1(k:Nat)(n:Nat)(x3:PTe q158i1):=impl_Box_middle_L58 k n x3.1 x3.2.1 x3.2.2.1 x3.2.2.2.1
def q158p:List PE := [e47]
noncomputable def q158F(k:Nat):F19:=⟨q158C k,rr q158p [(ty_17,false)] Tryz.f199,fun p=>bif Nat.beq p 58 then some (.loop q158i1 q158o1 0 80 (q158f1 k k))else none,0,[]⟩
theorem q158K(k:Nat):Contract Tryz.prog 199 (q158V k):=ctr (q158C k) (rs := [(ty_17,false)]) (ps:=q158p) (q158F k) Tryz.f199 16 ⟨tyOf_ok tys_ok,gOf_ok ⟨q61K,q64K k,trivial⟩⟩ (annl [58] ⟨lok q158i1 q158o1 0 80 (q158f1 k) k,trivial⟩)

noncomputable def q159V(k:Nat):Variant:=⟨[.val ty_8 false,.val ty_17 false],[(ty_0,false)],fun x=>impl_scaledAt k x.1 x.2.1⟩
noncomputable def q159C(k:Nat):Cfg:=⟨Tryz.prog,tyOf tys,54,gOf [(336,[],q37V),(306,[],q44V)],false,[],[]⟩
def q159i1:List PE := [e137,e55,e28,e92,⟨11,96,.val ty_8 false,false⟩,⟨12,112,.val ty_0 false,false⟩,⟨13,128,.val ty_0 false,false⟩,⟨25,144,.val ty_6 true,false⟩,⟨26,160,.val ty_0 false,false⟩,⟨30,176,.val ty_0 false,false⟩,⟨31,192,.val ty_0 false,false⟩]
def q159o1:List PE := [e137,e55,e28,e138,e57,e139,⟨25,128,.val ty_6 true,false⟩,⟨26,144,.val ty_0 false,false⟩]
noncomputable def q159f1(k:Nat)(n:Nat)(x3:PTe q159i1):=impl_scaledAt_L15309414 k n x3.1 x3.2.1 x3.2.2.1 x3.2.2.2.1 x3.2.2.2.2.1 x3.2.2.2.2.2.1 x3.2.2.2.2.2.2.1 x3.2.2.2.2.2.2.2.1 x3.2.2.2.2.2.2.2.2.1 x3.2.2.2.2.2.2.2.2.2.1 x3.2.2.2.2.2.2.2.2.2.2.1
def q159i2:List PE := [e137,e55,e28,e138,e57,e139,⟨25,128,.val ty_6 true,false⟩,⟨26,144,.val ty_0 false,false⟩]
def q159o2:List PE := [e137,e55,e28,e138,e57,e139]
noncomputable def q159f2(k:Nat)(n:Nat)(x12:PTe q159i2):=impl_scaledAt_L59802 k n x12.1 x12.2.1 x12.2.2.1 x12.2.2.2.1 x12.2.2.2.2.1 x12.2.2.2.2.2.1 x12.2.2.2.2.2.2.1 x12.2.2.2.2.2.2.2.1
def q159i3:List PE := [e137,e55,⟨11,64,.val ty_8 false,false⟩,e82,e83]
def q159o3:List PE := [⟨5,32,.val ty_0 false,false⟩]
noncomputable def q159f3(k:Nat)(n:Nat)(x15:PTe q159i3):=impl_scaledAt_L58 k n x15.1 x15.2.1 x15.2.2.1 x15.2.2.2.1 x15.2.2.2.2.1
def q159p:List PE := [e15,e115]
noncomputable def q159F(k:Nat):F2:=⟨q159C k,rr q159p [(ty_0,false)] Tryz.f283,fun p=>bif Nat.beq p 15309414 then some (.loop q159i1 q159o1 4 208 (q159f1 k k))else bif Nat.beq p 59802 then some (.loop q159i2 q159o2 2 160 (q159f2 k k))else bif Nat.beq p 58 then some (.loop q159i3 q159o3 0 112 (q159f3 k k))else none,0,[]⟩
theorem q159K(k:Nat):Contract Tryz.prog 283 (q159V k):=ctr (q159C k) (rs := [(ty_0,false)]) (ps:=q159p) (q159F k) Tryz.f283 32 ⟨tyOf_ok tys_ok,gOf_ok ⟨q37K,q44K,trivial⟩⟩ (annl [58,59802,15309414] ⟨lok q159i3 q159o3 0 112 (q159f3 k) k,lok q159i2 q159o2 2 160 (q159f2 k) k,lok q159i1 q159o1 4 208 (q159f1 k) k,trivial⟩)

noncomputable def q160V(k:Nat):Variant:=⟨[.val ty_8 false,.val ty_17 false],[(ty_5,true),(.bool,false)],fun x=>impl_valueAt k x.1 x.2.1⟩
noncomputable def q160C(k:Nat):Cfg:=⟨Tryz.prog,tyOf tys,13,gOf [(283,[],q159V k),(230,[],q61V),(231,[],q64V k)],false,[],[]⟩
def q160p:List PE := [e15,e115]
noncomputable def q160F(k:Nat):F12:=⟨q160C k,rr q160p [(ty_5,true),(.bool,false)] Tryz.f200,fun p=>none,0,[]⟩
theorem q160K(k:Nat):Contract Tryz.prog 200 (q160V k):=ctr (q160C k) (rs := [(ty_5,true),(.bool,false)]) (ps:=q160p) (q160F k) Tryz.f200 32 ⟨tyOf_ok tys_ok,gOf_ok ⟨q159K k,q61K,q64K k,trivial⟩⟩ (annl [] trivial)

noncomputable def q161V(k:Nat):Variant:=⟨[.ptr .bool true,.val ty_17 false,.val ty_17 false],[(ty_5,true)],fun x=>impl_reckoner_inner k x.1 x.2.1 x.2.2.1⟩
noncomputable def q161C(k:Nat):Cfg:=⟨Tryz.prog,tyOf tys,31,gOf [(175,[],q74V k),(86,[],q140V k)],false,[],[]⟩
def q161i1:List PE := [e64,e140,⟨2,64,.val ty_17 false,false⟩,⟨6,80,.box ty_5 false,false⟩,⟨7,96,.eat ty_5,false⟩,⟨10,112,.val ty_0 false,false⟩,⟨11,128,.val ty_0 false,false⟩]
def q161o1:List PE := [e64,e98,e122]
noncomputable def q161f1(k:Nat)(n:Nat)(x2:PTe q161i1):=impl_reckoner_inner_L58 k n x2.1 x2.2.1 x2.2.2.1 x2.2.2.2.1 x2.2.2.2.2.1 x2.2.2.2.2.2.1 x2.2.2.2.2.2.2.1
def q161p:List PE := [e64,e115,⟨2,32,.val ty_17 false,false⟩]
noncomputable def q161F(k:Nat):F12:=⟨q161C k,rr q161p [(ty_5,true)] Tryz.f284,fun p=>bif Nat.beq p 58 then some (.loop q161i1 q161o1 0 144 (q161f1 k k))else none,0,[0]⟩
theorem q161K(k:Nat):Contract Tryz.prog 284 (q161V k):=ctr (q161C k) (rs := [(ty_5,true)]) (ps:=q161p) (q161F k) Tryz.f284 48 ⟨tyOf_ok tys_ok,gOf_ok ⟨q74K k,q140K k,trivial⟩⟩ (annl [58] ⟨lok q161i1 q161o1 0 144 (q161f1 k) k,trivial⟩)

noncomputable def q162V(k:Nat):Variant:=⟨[.val ty_19 false,.val ty_17 false],[(ty_17,false),(.bool,false)],fun x=>impl_timesPoint k x.1 x.2.1⟩
noncomputable def q162C(k:Nat):Cfg:=⟨Tryz.prog,tyOf tys,32,gOf [(284,[],q161V k)],false,[],[]⟩
def q162i1:List PE := [e137,⟨6,48,.box .bool false,false⟩,e122,⟨12,80,.val ty_19 false,false⟩,e83,⟨14,112,.val ty_0 false,false⟩]
def q162o1:List PE := [e129,⟨7,48,.eat ty_5,false⟩]
noncomputable def q162f1(k:Nat)(n:Nat)(x2:PTe q162i1):=impl_timesPoint_L122 k n x2.1 x2.2.1 x2.2.2.1 x2.2.2.2.1 x2.2.2.2.2.1 x2.2.2.2.2.2.1
def q162p:List PE := [e113,e115]
noncomputable def q162F(k:Nat):F20:=⟨q162C k,rr q162p [(ty_17,false),(.bool,false)] Tryz.f201,fun p=>bif Nat.beq p 122 then some (.loop q162i1 q162o1 0 128 (q162f1 k k))else none,0,[]⟩
theorem q162K(k:Nat):Contract Tryz.prog 201 (q162V k):=ctr (q162C k) (rs := [(ty_17,false),(.bool,false)]) (ps:=q162p) (q162F k) Tryz.f201 32 ⟨tyOf_ok tys_ok,gOf_ok ⟨q161K k,trivial⟩⟩ (annl [122] ⟨lok q162i1 q162o1 0 128 (q162f1 k) k,trivial⟩)

noncomputable def q163V(k:Nat):Variant:=⟨[.val ty_12 false,.ptr ty_11 false],[(ty_17,false),(.bool,false)],fun x=>impl_newtonPoint k x.1 x.2.1⟩
noncomputable def q163C(k:Nat):Cfg:=⟨Tryz.prog,tyOf tys,86,gOf [(106,[],q148V k),(199,[],q158V k),(200,[],q160V k),(188,[],q73V),(201,[],q162V k),(85,[],q84V),(182,[],q92V k)],false,[],[]⟩
def q163i1:List PE := [⟨6,32,.eat ty_17,false⟩,e141,⟨9,64,.box .bool false,false⟩,⟨10,80,.eat ty_5,false⟩,⟨29,96,.val ty_12 false,false⟩,⟨30,112,.val ty_0 false,false⟩,e142]
def q163o1:List PE := [⟨6,32,.eat ty_17,false⟩,e141,⟨9,64,.box .bool false,false⟩,⟨10,80,.eat ty_5,false⟩]
noncomputable def q163f1(k:Nat)(n:Nat)(x5:PTe q163i1):=impl_newtonPoint_L1018 k n x5.1 x5.2.1 x5.2.2.1 x5.2.2.2.1 x5.2.2.2.2.1 x5.2.2.2.2.2.1 x5.2.2.2.2.2.2.1
def q163i2:List PE := [⟨9,32,.box .bool false,false⟩,⟨13,48,.eat ty_5,false⟩,⟨14,64,.eat ty_5,false⟩,⟨61,80,.eat ty_5,false⟩,⟨62,96,.val ty_0 false,false⟩,⟨63,112,.val ty_0 false,false⟩]
def q163o2:List PE := [⟨9,32,.box .bool false,false⟩,⟨14,48,.eat ty_5,false⟩]
noncomputable def q163f2(k:Nat)(n:Nat)(x11:PTe q163i2):=impl_newtonPoint_L16378 k n x11.1 x11.2.1 x11.2.2.1 x11.2.2.2.1 x11.2.2.2.2.1 x11.2.2.2.2.2.1
def q163p:List PE := [e45,e48]
noncomputable def q163F(k:Nat):F20:=⟨q163C k,rr q163p [(ty_17,false),(.bool,false)] Tryz.f108,fun p=>bif Nat.beq p 1018 then some (.loop q163i1 q163o1 0 144 (q163f1 k k))else bif Nat.beq p 16378 then some (.loop q163i2 q163o2 2 128 (q163f2 k k))else none,0,[]⟩
theorem q163K(k:Nat):Contract Tryz.prog 108 (q163V k):=ctr (q163C k) (rs := [(ty_17,false),(.bool,false)]) (ps:=q163p) (q163F k) Tryz.f108 32 ⟨tyOf_ok tys_ok,gOf_ok ⟨q148K k,q158K k,q160K k,q73K,q162K k,q84K,q92K k,trivial⟩⟩ (annl [1018,16378] ⟨lok q163i1 q163o1 0 144 (q163f1 k) k,lok q163i2 q163o2 2 128 (q163f2 k) k,trivial⟩)

noncomputable def q164V(k:Nat):Variant:=⟨[.val ty_12 false,.val ty_11 true],[(ty_17,false),(.bool,false)],fun x=>impl_NewtonPoint k x.1 x.2.1⟩
noncomputable def q164C(k:Nat):Cfg:=⟨Tryz.prog,tyOf tys,13,gOf [(101,[],q49V k),(108,[],q163V k)],false,[],[]⟩
def q164p:List PE := [e45,e91]
noncomputable def q164F(k:Nat):F20:=⟨q164C k,rr q164p [(ty_17,false),(.bool,false)] Tryz.f33,fun p=>none,0,[]⟩
theorem q164K(k:Nat):Contract Tryz.prog 33 (q164V k):=ctr (q164C k) (rs := [(ty_17,false),(.bool,false)]) (ps:=q164p) (q164F k) Tryz.f33 32 ⟨tyOf_ok tys_ok,gOf_ok ⟨q49K k,q163K k,trivial⟩⟩ (annl [] trivial)

noncomputable def q165V(k:Nat):Variant:=⟨[.val ty_11 true],[(ty_17,false)],fun x=>spec_bxMiddle k x.1⟩
noncomputable def q165C(k:Nat):Cfg:=⟨Tryz.prog,tyOf tys,30,gOf [(235,[],q108V k)],false,[],[]⟩
def q165i1:List PE := [e26,⟨3,32,.eat ty_5,false⟩,⟨7,48,.val ty_9 false,false⟩,e28,e92]
def q165o1:List PE := [⟨3,16,.eat ty_5,false⟩]
noncomputable def q165f1(k:Nat)(n:Nat)(x2:PTe q165i1):=spec_bxMiddle_L58 k n x2.1 x2.2.1 x2.2.2.1 x2.2.2.2.1 x2.2.2.2.2.1
def q165p:List PE := [e29]
noncomputable def q165F(k:Nat):F19:=⟨q165C k,rr q165p [(ty_17,false)] Tryz.f202,fun p=>bif Nat.beq p 58 then some (.loop q165i1 q165o1 0 96 (q165f1 k k))else none,0,[]⟩
theorem q165K(k:Nat):Contract Tryz.prog 202 (q165V k):=ctr (q165C k) (rs := [(ty_17,false)]) (ps:=q165p) (q165F k) Tryz.f202 16 ⟨tyOf_ok tys_ok,gOf_ok ⟨q108K k,trivial⟩⟩ (annl [58] ⟨lok q165i1 q165o1 0 96 (q165f1 k) k,trivial⟩)

noncomputable def q166V(k:Nat):Variant:=⟨[.val ty_8 false,.val ty_17 false],[(ty_0,false),(ty_0,false)],fun x=>spec_vaSum k x.1 x.2.1⟩
noncomputable def q166C(k:Nat):Cfg:=⟨Tryz.prog,tyOf tys,85,gOf [(183,[],q21V),(184,[],q119V k),(309,[],q101V),(218,[],q23V)],false,[],[]⟩
def q166i1:List PE := [e12,e140,e22,⟨19,80,.val ty_17 false,false⟩,e117,e108]
def q166o1:List PE := [e12,e140,e22]
noncomputable def q166f1(k:Nat)(n:Nat)(x2:PTe q166i1):=spec_vaSum_L58 k n x2.1 x2.2.1 x2.2.2.1 x2.2.2.2.1 x2.2.2.2.2.1 x2.2.2.2.2.2.1
def q166i2:List PE := [e137,e17,e20,e143,e57,⟨15,112,.val ty_0 false,false⟩,e76,⟨30,144,.val ty_8 false,false⟩,⟨31,160,.val ty_0 false,false⟩,⟨32,176,.val ty_0 false,false⟩,⟨38,192,.val ty_17 false,false⟩,⟨39,208,.val ty_0 false,false⟩,⟨40,224,.val ty_0 false,false⟩]
def q166o2:List PE := [e137,e17,e20,e143,e57,e144,e142,e90,⟨38,160,.val ty_17 false,false⟩,⟨39,176,.val ty_0 false,false⟩,⟨40,192,.val ty_0 false,false⟩]
noncomputable def q166f2(k:Nat)(n:Nat)(x7:PTe q166i2):=spec_vaSum_L131282126 k n x7.1 x7.2.1 x7.2.2.1 x7.2.2.2.1 x7.2.2.2.2.1 x7.2.2.2.2.2.1 x7.2.2.2.2.2.2.1 x7.2.2.2.2.2.2.2.1 x7.2.2.2.2.2.2.2.2.1 x7.2.2.2.2.2.2.2.2.2.1 x7.2.2.2.2.2.2.2.2.2.2.1 x7.2.2.2.2.2.2.2.2.2.2.2.1 x7.2.2.2.2.2.2.2.2.2.2.2.2.1
def q166i3:List PE := [e137,e17,e20,e143,e57,e144,e142,e90,⟨38,160,.val ty_17 false,false⟩,⟨39,176,.val ty_0 false,false⟩,⟨40,192,.val ty_0 false,false⟩]
def q166o3:List PE := [e137,e17,e20,e143,e57,e144,e142,e90]
noncomputable def q166f3(k:Nat)(n:Nat)(x10:PTe q166i3):=spec_vaSum_L256410 k n x10.1 x10.2.1 x10.2.2.1 x10.2.2.2.1 x10.2.2.2.2.1 x10.2.2.2.2.2.1 x10.2.2.2.2.2.2.1 x10.2.2.2.2.2.2.2.1 x10.2.2.2.2.2.2.2.2.1 x10.2.2.2.2.2.2.2.2.2.1 x10.2.2.2.2.2.2.2.2.2.2.1
def q166i4:List PE := [e137,e17,e20,e82,e104,e144,e142,e90]
def q166o4:List PE := [e137,e17,e20,e82,⟨30,96,.val ty_8 false,false⟩,⟨31,112,.val ty_0 false,false⟩,⟨32,128,.val ty_0 false,false⟩]
noncomputable def q166f4(k:Nat)(n:Nat)(x14:PTe q166i4):=spec_vaSum_L512826 k n x14.1 x14.2.1 x14.2.2.1 x14.2.2.2.1 x14.2.2.2.2.1 x14.2.2.2.2.2.1 x14.2.2.2.2.2.2.1 x14.2.2.2.2.2.2.2.1
def q166i5:List PE := [e137,e17,e20,⟨30,80,.val ty_8 false,false⟩,⟨31,96,.val ty_0 false,false⟩,⟨32,112,.val ty_0 false,false⟩]
def q166o5:List PE := [⟨6,32,.val ty_0 false,false⟩,e145]
noncomputable def q166f5(k:Nat)(n:Nat)(x17:PTe q166i5):=spec_vaSum_L250 k n x17.1 x17.2.1 x17.2.2.1 x17.2.2.2.1 x17.2.2.2.2.1 x17.2.2.2.2.2.1
def q166p:List PE := [e15,e115]
noncomputable def q166F(k:Nat):F13:=⟨q166C k,rr q166p [(ty_0,false),(ty_0,false)] Tryz.f285,fun p=>bif Nat.beq p 58 then some (.loop q166i1 q166o1 0 128 (q166f1 k k))else bif Nat.beq p 131282126 then some (.loop q166i2 q166o2 6 240 (q166f2 k k))else bif Nat.beq p 256410 then some (.loop q166i3 q166o3 4 208 (q166f3 k k))else bif Nat.beq p 512826 then some (.loop q166i4 q166o4 8 160 (q166f4 k k))else bif Nat.beq p 250 then some (.loop q166i5 q166o5 2 128 (q166f5 k k))else none,0,[]⟩
theorem q166K(k:Nat):Contract Tryz.prog 285 (q166V k):=ctr (q166C k) (rs := [(ty_0,false),(ty_0,false)]) (ps:=q166p) (q166F k) Tryz.f285 32 ⟨tyOf_ok tys_ok,gOf_ok ⟨q21K,q119K k,q101K,q23K,trivial⟩⟩ (annl [58,250,256410,131282126,512826] ⟨lok q166i1 q166o1 0 128 (q166f1 k) k,lok q166i5 q166o5 2 128 (q166f5 k) k,lok q166i3 q166o3 4 208 (q166f3 k) k,lok q166i2 q166o2 6 240 (q166f2 k) k,lok q166i4 q166o4 8 160 (q166f4 k) k,trivial⟩)

noncomputable def q167V(k:Nat):Variant:=⟨[.val ty_8 false,.val ty_17 false],[(ty_5,true),(.bool,false)],fun x=>spec_vaAt k x.1 x.2.1⟩
noncomputable def q167C(k:Nat):Cfg:=⟨Tryz.prog,tyOf tys,19,gOf [(285,[],q166V k),(154,[],q107V k)],false,[],[]⟩
def q167p:List PE := [e15,e115]
noncomputable def q167F(k:Nat):F12:=⟨q167C k,rr q167p [(ty_5,true),(.bool,false)] Tryz.f203,fun p=>none,0,[]⟩
theorem q167K(k:Nat):Contract Tryz.prog 203 (q167V k):=ctr (q167C k) (rs := [(ty_5,true),(.bool,false)]) (ps:=q167p) (q167F k) Tryz.f203 32 ⟨tyOf_ok tys_ok,gOf_ok ⟨q166K k,q107K k,trivial⟩⟩ (annl [] trivial)

noncomputable def q168V(k:Nat):Variant:=⟨[.val ty_17 false,.val ty_17 false],[(ty_5,true),(.bool,false)],fun x=>spec_mxSum k x.1 x.2.1⟩
noncomputable def q168C(k:Nat):Cfg:=⟨Tryz.prog,tyOf tys,46,gOf [(179,[],q114V k),(87,[],q128V k)],false,[],[]⟩
def q168i1:List PE := [e137,e116,⟨6,64,.box ty_5 false,false⟩,⟨14,80,.val ty_17 false,false⟩,e80,⟨16,112,.val ty_0 false,false⟩]
def q168o1:List PE := [e97,e98]
noncomputable def q168f1(k:Nat)(n:Nat)(x3:PTe q168i1):=spec_mxSum_L58 k n x3.1 x3.2.1 x3.2.2.1 x3.2.2.2.1 x3.2.2.2.2.1 x3.2.2.2.2.2.1
def q168p:List PE := [e101,e115]
noncomputable def q168F(k:Nat):F12:=⟨q168C k,rr q168p [(ty_5,true),(.bool,false)] Tryz.f286,fun p=>bif Nat.beq p 58 then some (.loop q168i1 q168o1 0 128 (q168f1 k k))else none,0,[]⟩
theorem q168K(k:Nat):Contract Tryz.prog 286 (q168V k):=ctr (q168C k) (rs := [(ty_5,true),(.bool,false)]) (ps:=q168p) (q168F k) Tryz.f286 32 ⟨tyOf_ok tys_ok,gOf_ok ⟨q114K k,q128K k,trivial⟩⟩ (annl [58] ⟨lok q168i1 q168o1 0 128 (q168f1 k) k,trivial⟩)

noncomputable def q169V(k:Nat):Variant:=⟨[.val ty_19 false,.val ty_17 false],[(ty_17,false),(.bool,false)],fun x=>spec_mxTimes k x.1 x.2.1⟩
noncomputable def q169C(k:Nat):Cfg:=⟨Tryz.prog,tyOf tys,31,gOf [(286,[],q168V k)],false,[],[]⟩
def q169i1:List PE := [e137,e106,⟨11,64,.val ty_19 false,false⟩,e82,e83]
def q169o1:List PE := [⟨6,32,.eat ty_5,false⟩]
noncomputable def q169f1(k:Nat)(n:Nat)(x2:PTe q169i1):=spec_mxTimes_L58 k n x2.1 x2.2.1 x2.2.2.1 x2.2.2.2.1 x2.2.2.2.2.1
def q169p:List PE := [e113,e115]
noncomputable def q169F(k:Nat):F20:=⟨q169C k,rr q169p [(ty_17,false),(.bool,false)] Tryz.f204,fun p=>bif Nat.beq p 58 then some (.loop q169i1 q169o1 0 112 (q169f1 k k))else none,0,[]⟩
theorem q169K(k:Nat):Contract Tryz.prog 204 (q169V k):=ctr (q169C k) (rs := [(ty_17,false),(.bool,false)]) (ps:=q169p) (q169F k) Tryz.f204 32 ⟨tyOf_ok tys_ok,gOf_ok ⟨q168K k,trivial⟩⟩ (annl [58] ⟨lok q169i1 q169o1 0 112 (q169f1 k) k,trivial⟩)

noncomputable def q170V(k:Nat):Variant:=⟨[.val ty_5 true,.val ty_5 true],[(ty_5,true),(.bool,false)],fun x=>spec_dySub k x.1 x.2.1⟩
noncomputable def q170C(k:Nat):Cfg:=⟨Tryz.prog,tyOf tys,12,gOf [(180,[],q123V),(87,[],q128V k)],false,[],[]⟩
def q170p:List PE := [e60,e63]
noncomputable def q170F(k:Nat):F12:=⟨q170C k,rr q170p [(ty_5,true),(.bool,false)] Tryz.f205,fun p=>none,0,[]⟩
theorem q170K(k:Nat):Contract Tryz.prog 205 (q170V k):=ctr (q170C k) (rs := [(ty_5,true),(.bool,false)]) (ps:=q170p) (q170F k) Tryz.f205 32 ⟨tyOf_ok tys_ok,gOf_ok ⟨q123K,q128K k,trivial⟩⟩ (annl [] trivial)

noncomputable def q171V(k:Nat):Variant:=⟨[.val ty_12 false,.val ty_11 true,.val ty_19 false],[(ty_17,false),(.bool,false)],fun x=>spec_nwPoint k x.1 x.2.1 x.2.2.1⟩
noncomputable def q171C(k:Nat):Cfg:=⟨Tryz.prog,tyOf tys,74,gOf [(202,[],q165V k),(203,[],q167V k),(204,[],q169V k),(205,[],q170V k)],false,[],[]⟩
def q171i1:List PE := [⟨2,48,.val ty_19 false,false⟩,⟨8,64,.eat ty_5,false⟩,⟨9,80,.eat ty_5,false⟩,⟨23,96,.val ty_12 false,false⟩,⟨24,112,.val ty_0 false,false⟩,⟨25,128,.val ty_0 false,false⟩]
def q171o1:List PE := [⟨2,48,.val ty_19 false,false⟩,⟨8,64,.eat ty_5,false⟩,⟨9,80,.eat ty_5,false⟩]
noncomputable def q171f1(k:Nat)(n:Nat)(x3:PTe q171i1):=spec_nwPoint_L122 k n x3.1 x3.2.1 x3.2.2.1 x3.2.2.2.1 x3.2.2.2.2.1 x3.2.2.2.2.2.1
def q171i2:List PE := [⟨14,48,.eat ty_5,false⟩,⟨16,64,.eat ty_5,false⟩,⟨50,80,.eat ty_5,false⟩,⟨51,96,.val ty_0 false,false⟩,⟨52,112,.val ty_0 false,false⟩]
def q171o2:List PE := [⟨16,48,.eat ty_5,false⟩]
noncomputable def q171f2(k:Nat)(n:Nat)(x8:PTe q171i2):=spec_nwPoint_L2042 k n x8.1 x8.2.1 x8.2.2.1 x8.2.2.2.1 x8.2.2.2.2.1
def q171p:List PE := [e45,e91,⟨2,32,.val ty_19 false,false⟩]
noncomputable def q171F(k:Nat):F20:=⟨q171C k,rr q171p [(ty_17,false),(.bool,false)] Tryz.f109,fun p=>bif Nat.beq p 122 then some (.loop q171i1 q171o1 0 144 (q171f1 k k))else bif Nat.beq p 2042 then some (.loop q171i2 q171o2 2 128 (q171f2 k k))else none,0,[]⟩
theorem q171K(k:Nat):Contract Tryz.prog 109 (q171V k):=ctr (q171C k) (rs := [(ty_17,false),(.bool,false)]) (ps:=q171p) (q171F k) Tryz.f109 48 ⟨tyOf_ok tys_ok,gOf_ok ⟨q165K k,q167K k,q169K k,q170K k,trivial⟩⟩ (annl [122,2042] ⟨lok q171i1 q171o1 0 144 (q171f1 k) k,lok q171i2 q171o2 2 128 (q171f2 k) k,trivial⟩)

noncomputable def q172V(k:Nat):Variant:=⟨[.val ty_12 false,.val ty_11 true],[(ty_17,false),(.bool,false)],fun x=>spec_NewtonPoint k x.1 x.2.1⟩
noncomputable def q172C(k:Nat):Cfg:=⟨Tryz.prog,tyOf tys,28,gOf [(103,[],q105V k),(107,[],q156V k),(109,[],q171V k)],false,[],[]⟩
def q172p:List PE := [e45,e91]
noncomputable def q172F(k:Nat):F20:=⟨q172C k,rr q172p [(ty_17,false),(.bool,false)] Tryz.f34,fun p=>none,0,[]⟩
theorem q172K(k:Nat):Contract Tryz.prog 34 (q172V k):=ctr (q172C k) (rs := [(ty_17,false),(.bool,false)]) (ps:=q172p) (q172F k) Tryz.f34 32 ⟨tyOf_ok tys_ok,gOf_ok ⟨q105K k,q156K k,q171K k,trivial⟩⟩ (annl [] trivial)

noncomputable def q173V(k:Nat):Variant:=⟨[.val ty_19 false,.val ty_18 false],[(ty_18,false),(.bool,false)],fun x=>impl_timesIntervals k x.1 x.2.1⟩
noncomputable def q173C(k:Nat):Cfg:=⟨Tryz.prog,tyOf tys,82,gOf [(186,[],q69V),(158,[],q87V k),(161,[],q93V k)],false,[],[]⟩
def q173i1:List PE := [e146,e147,e74,e148,e93,e149,⟨10,128,.val ty_0 false,false⟩,⟨11,144,.box ty_15 false,false⟩,⟨12,160,.val ty_0 false,false⟩,⟨16,176,.val ty_0 false,false⟩,⟨17,192,.val ty_0 false,false⟩,⟨21,208,.val ty_0 false,false⟩,⟨22,224,.val ty_0 false,false⟩]
def q173o1:List PE := [e146,e147,e74,e148,e93,e149,⟨11,128,.box ty_15 false,false⟩,⟨16,144,.val ty_0 false,false⟩,⟨17,160,.val ty_0 false,false⟩,⟨21,176,.val ty_0 false,false⟩,⟨22,192,.val ty_0 false,false⟩]
noncomputable def q173f1(k:Nat)(n:Nat)(x6:PTe q173i1):=impl_timesIntervals_L128346522 k n x6.1 x6.2.1 x6.2.2.1 x6.2.2.2.1 x6.2.2.2.2.1 x6.2.2.2.2.2.1 x6.2.2.2.2.2.2.1 x6.2.2.2.2.2.2.2.1 x6.2.2.2.2.2.2.2.2.1 x6.2.2.2.2.2.2.2.2.2.1 x6.2.2.2.2.2.2.2.2.2.2.1 x6.2.2.2.2.2.2.2.2.2.2.2.1 x6.2.2.2.2.2.2.2.2.2.2.2.2.1
def q173i2:List PE := [e146,e147,e74,e148,e93,e149,⟨16,128,.val ty_0 false,false⟩,⟨17,144,.val ty_0 false,false⟩,⟨21,160,.val ty_0 false,false⟩,⟨22,176,.val ty_0 false,false⟩]
def q173o2:List PE := [e146,e147,e74,e148,⟨9,96,.eat ty_15,false⟩,⟨16,112,.val ty_0 false,false⟩,e76]
noncomputable def q173f2(k:Nat)(n:Nat)(x9:PTe q173i2):=impl_timesIntervals_L125338 k n x9.1 x9.2.1 x9.2.2.1 x9.2.2.2.1 x9.2.2.2.2.1 x9.2.2.2.2.2.1 x9.2.2.2.2.2.2.1 x9.2.2.2.2.2.2.2.1 x9.2.2.2.2.2.2.2.2.1 x9.2.2.2.2.2.2.2.2.2.1
def q173i3:List PE := [e146,e147,e74,e148,⟨16,96,.val ty_0 false,false⟩,e43]
def q173o3:List PE := [e129,⟨7,48,.eat ty_16,false⟩]
noncomputable def q173f3(k:Nat)(n:Nat)(x12:PTe q173i3):=impl_timesIntervals_L122 k n x12.1 x12.2.1 x12.2.2.1 x12.2.2.2.1 x12.2.2.2.2.1 x12.2.2.2.2.2.1
def q173p:List PE := [e113,e150]
noncomputable def q173F(k:Nat):F17:=⟨q173C k,rr q173p [(ty_18,false),(.bool,false)] Tryz.f92,fun p=>bif Nat.beq p 128346522 then some (.loop q173i1 q173o1 4 240 (q173f1 k k))else bif Nat.beq p 125338 then some (.loop q173i2 q173o2 2 192 (q173f2 k k))else bif Nat.beq p 122 then some (.loop q173i3 q173o3 0 128 (q173f3 k k))else none,0,[]⟩
theorem q173K(k:Nat):Contract Tryz.prog 92 (q173V k):=ctr (q173C k) (rs := [(ty_18,false),(.bool,false)]) (ps:=q173p) (q173F k) Tryz.f92 32 ⟨tyOf_ok tys_ok,gOf_ok ⟨q69K,q87K k,q93K k,trivial⟩⟩ (annl [122,125338,128346522] ⟨lok q173i3 q173o3 0 128 (q173f3 k) k,lok q173i2 q173o2 2 192 (q173f2 k) k,lok q173i1 q173o1 4 240 (q173f1 k) k,trivial⟩)

noncomputable def q174V(k:Nat):Variant:=⟨[.ptr .bool true,.val ty_15 true,.val ty_15 true],[(ty_15,true)],fun x=>impl_reckoner_subtract k x.1 x.2.1 x.2.2.1⟩
noncomputable def q174C(k:Nat):Cfg:=⟨Tryz.prog,tyOf tys,22,gOf [(85,[],q84V),(182,[],q92V k)],false,[],[]⟩
def q174p:List PE := [e64,e69,e71]
noncomputable def q174F(k:Nat):F15:=⟨q174C k,rr q174p [(ty_15,true)] Tryz.f160,fun p=>none,0,[0]⟩
theorem q174K(k:Nat):Contract Tryz.prog 160 (q174V k):=ctr (q174C k) (rs := [(ty_15,true)]) (ps:=q174p) (q174F k) Tryz.f160 48 ⟨tyOf_ok tys_ok,gOf_ok ⟨q84K,q92K k,trivial⟩⟩ (annl [] trivial)

noncomputable def q175V(k:Nat):Variant:=⟨[.val ty_12 false,.ptr ty_11 false],[(ty_18,false),(.bool,false)],fun x=>impl_remainderTable k x.1 x.2.1⟩
noncomputable def q175C(k:Nat):Cfg:=⟨Tryz.prog,tyOf tys,81,gOf [(106,[],q148V k),(194,[],q97V k),(92,[],q173V k),(169,[],q68V),(186,[],q69V),(160,[],q174V k)],false,[14,63,67],[]⟩
def q175i1:List PE := [⟨45,48,.same 10,false⟩,⟨14,32,.vw 10,false⟩,⟨10,64,.eat ty_16,false⟩,⟨12,80,.box .bool false,false⟩,e83,⟨46,112,.val ty_0 false,false⟩,⟨47,128,.val ty_0 false,false⟩,⟨53,144,.val ty_0 false,false⟩,⟨54,160,.val ty_0 false,false⟩]
def q175o1:List PE := [⟨45,32,.same 10,false⟩,⟨10,48,.eat ty_16,false⟩,⟨12,64,.box .bool false,false⟩,⟨46,80,.val ty_0 false,false⟩,⟨47,96,.val ty_0 false,false⟩]
noncomputable def q175f1(k:Nat)(n:Nat)(x9:PTe q175i1):=impl_remainderTable_L522854 k n x9.1 x9.2.1 x9.2.2.1 x9.2.2.2.1 x9.2.2.2.2.1 x9.2.2.2.2.2.1 x9.2.2.2.2.2.2.1 x9.2.2.2.2.2.2.2.1 x9.2.2.2.2.2.2.2.2.1
def q175i2:List PE := [⟨45,32,.same 10,false⟩,⟨10,48,.eat ty_16,false⟩,⟨12,64,.box .bool false,false⟩,⟨46,80,.val ty_0 false,false⟩,⟨47,96,.val ty_0 false,false⟩]
def q175o2:List PE := [⟨10,32,.eat ty_16,false⟩,⟨12,48,.box .bool false,false⟩]
noncomputable def q175f2(k:Nat)(n:Nat)(x12:PTe q175i2):=impl_remainderTable_L2042 k n x12.1 x12.2.1 x12.2.2.1 x12.2.2.2.1 x12.2.2.2.2.1
def q175p:List PE := [e45,e48]
noncomputable def q175F(k:Nat):F17:=⟨q175C k,rr q175p [(ty_18,false),(.bool,false)] Tryz.f110,fun p=>bif Nat.beq p 133850726 then some (.cut [⟨45,48,.same 10,false⟩,⟨14,32,.vw 10,false⟩,⟨10,64,.eat ty_16,false⟩,⟨12,80,.box .bool false,false⟩,e83,⟨15,112,.val ty_0 false,false⟩,⟨16,128,.box ty_15 false,false⟩,⟨46,144,.val ty_0 false,false⟩,⟨47,160,.val ty_0 false,false⟩,⟨53,176,.val ty_0 false,false⟩,⟨54,192,.val ty_0 false,false⟩] 208)else bif Nat.beq p 522854 then some (.loop q175i1 q175o1 2 176 (q175f1 k k))else bif Nat.beq p 2042 then some (.loop q175i2 q175o2 0 112 (q175f2 k k))else none,0,[]⟩
theorem q175K(k:Nat):Contract Tryz.prog 110 (q175V k):=ctr (q175C k) (rs := [(ty_18,false),(.bool,false)]) (ps:=q175p) (q175F k) Tryz.f110 32 ⟨tyOf_ok tys_ok,gOf_ok ⟨q148K k,q97K k,q173K k,q68K,q69K,q174K k,trivial⟩⟩ (annl [2042,522854] ⟨lok q175i2 q175o2 0 112 (q175f2 k) k,lok q175i1 q175o1 2 176 (q175f1 k) k,trivial⟩)

noncomputable def q176V(k:Nat):Variant:=⟨[.val ty_12 false,.val ty_11 true],[(ty_18,false),(.bool,false)],fun x=>impl_RemainderTable k x.1 x.2.1⟩
noncomputable def q176C(k:Nat):Cfg:=⟨Tryz.prog,tyOf tys,13,gOf [(101,[],q49V k),(110,[],q175V k)],false,[],[]⟩
def q176p:List PE := [e45,e91]
noncomputable def q176F(k:Nat):F17:=⟨q176C k,rr q176p [(ty_18,false),(.bool,false)] Tryz.f35,fun p=>none,0,[]⟩
theorem q176K(k:Nat):Contract Tryz.prog 35 (q176V k):=ctr (q176C k) (rs := [(ty_18,false),(.bool,false)]) (ps:=q176p) (q176F k) Tryz.f35 32 ⟨tyOf_ok tys_ok,gOf_ok ⟨q49K k,q175K k,trivial⟩⟩ (annl [] trivial)

noncomputable def q177V(k:Nat):Variant:=⟨[.val ty_19 false,.val ty_18 false],[(ty_18,false),(.bool,false)],fun x=>spec_mxTimesIn k x.1 x.2.1⟩
noncomputable def q177C(k:Nat):Cfg:=⟨Tryz.prog,tyOf tys,74,gOf [(165,[],q127V k),(166,[],q130V k)],false,[],[]⟩
def q177i1:List PE := [e151,e81,e152,e153,⟨10,96,.val ty_0 false,false⟩,⟨11,112,.box ty_15 false,false⟩,⟨18,128,.val ty_19 false,false⟩,⟨19,144,.val ty_0 false,false⟩,⟨20,160,.val ty_0 false,false⟩,⟨25,176,.val ty_0 false,false⟩,⟨26,192,.val ty_0 false,false⟩,⟨30,208,.val ty_17 false,false⟩,⟨31,224,.val ty_0 false,false⟩,⟨32,240,.val ty_0 false,false⟩]
def q177o1:List PE := [e151,e81,e152,e153,⟨11,96,.box ty_15 false,false⟩,⟨18,112,.val ty_19 false,false⟩,⟨19,128,.val ty_0 false,false⟩,⟨20,144,.val ty_0 false,false⟩,⟨25,160,.val ty_0 false,false⟩,⟨26,176,.val ty_0 false,false⟩]
noncomputable def q177f1(k:Nat)(n:Nat)(x3:PTe q177i1):=spec_mxTimesIn_L61237658 k n x3.1 x3.2.1 x3.2.2.1 x3.2.2.2.1 x3.2.2.2.2.1 x3.2.2.2.2.2.1 x3.2.2.2.2.2.2.1 x3.2.2.2.2.2.2.2.1 x3.2.2.2.2.2.2.2.2.1 x3.2.2.2.2.2.2.2.2.2.1 x3.2.2.2.2.2.2.2.2.2.2.1 x3.2.2.2.2.2.2.2.2.2.2.2.1 x3.2.2.2.2.2.2.2.2.2.2.2.2.1 x3.2.2.2.2.2.2.2.2.2.2.2.2.2.1
def q177i2:List PE := [e151,e81,e152,e153,⟨18,96,.val ty_19 false,false⟩,e105,e110,⟨25,144,.val ty_0 false,false⟩,⟨26,160,.val ty_0 false,false⟩]
def q177o2:List PE := [e151,e81,⟨9,64,.eat ty_15,false⟩,⟨18,80,.val ty_19 false,false⟩,⟨19,96,.val ty_0 false,false⟩,e119]
noncomputable def q177f2(k:Nat)(n:Nat)(x6:PTe q177i2):=spec_mxTimesIn_L59802 k n x6.1 x6.2.1 x6.2.2.1 x6.2.2.2.1 x6.2.2.2.2.1 x6.2.2.2.2.2.1 x6.2.2.2.2.2.2.1 x6.2.2.2.2.2.2.2.1 x6.2.2.2.2.2.2.2.2.1
def q177i3:List PE := [e151,e81,⟨18,64,.val ty_19 false,false⟩,e38,e117]
def q177o3:List PE := [e84]
noncomputable def q177f3(k:Nat)(n:Nat)(x9:PTe q177i3):=spec_mxTimesIn_L58 k n x9.1 x9.2.1 x9.2.2.1 x9.2.2.2.1 x9.2.2.2.2.1
def q177p:List PE := [e113,e150]
noncomputable def q177F(k:Nat):F17:=⟨q177C k,rr q177p [(ty_18,false),(.bool,false)] Tryz.f93,fun p=>bif Nat.beq p 61237658 then some (.loop q177i1 q177o1 4 256 (q177f1 k k))else bif Nat.beq p 59802 then some (.loop q177i2 q177o2 2 176 (q177f2 k k))else bif Nat.beq p 58 then some (.loop q177i3 q177o3 0 112 (q177f3 k k))else none,0,[]⟩
theorem q177K(k:Nat):Contract Tryz.prog 93 (q177V k):=ctr (q177C k) (rs := [(ty_18,false),(.bool,false)]) (ps:=q177p) (q177F k) Tryz.f93 32 ⟨tyOf_ok tys_ok,gOf_ok ⟨q127K k,q130K k,trivial⟩⟩ (annl [58,59802,61237658] ⟨lok q177i3 q177o3 0 112 (q177f3 k) k,lok q177i2 q177o2 2 176 (q177f2 k) k,lok q177i1 q177o1 4 256 (q177f1 k) k,trivial⟩)

noncomputable def q178V:Variant:=⟨[.val ty_15 true],[(ty_15,true)],fun x=>spec_ivMinus x.1⟩
noncomputable def q178C:Cfg:=⟨Tryz.prog,tyOf tys,10,gOf [(180,[],q123V)],false,[],[]⟩
def q178p:List PE := [e67]
noncomputable def q178F:F14:=⟨q178C,rr q178p [(ty_15,true)] Tryz.f262,fun p=>none,0,[]⟩
theorem q178K:Contract Tryz.prog 262 (q178V):=ctr q178C (rs := [(ty_15,true)]) (ps:=q178p) q178F Tryz.f262 16 ⟨tyOf_ok tys_ok,gOf_ok ⟨q123K,trivial⟩⟩ (annl [] trivial)

noncomputable def q179V(k:Nat):Variant:=⟨[.val ty_15 true,.val ty_15 true],[(ty_15,true),(.bool,false)],fun x=>spec_ivSub k x.1 x.2.1⟩
noncomputable def q179C(k:Nat):Cfg:=⟨Tryz.prog,tyOf tys,12,gOf [(262,[],q178V),(166,[],q130V k)],false,[],[]⟩
def q179p:List PE := [e67,e69]
noncomputable def q179F(k:Nat):F15:=⟨q179C k,rr q179p [(ty_15,true),(.bool,false)] Tryz.f167,fun p=>none,0,[]⟩
theorem q179K(k:Nat):Contract Tryz.prog 167 (q179V k):=ctr (q179C k) (rs := [(ty_15,true),(.bool,false)]) (ps:=q179p) (q179F k) Tryz.f167 32 ⟨tyOf_ok tys_ok,gOf_ok ⟨q178K,q130K k,trivial⟩⟩ (annl [] trivial)

noncomputable def q180V(k:Nat):Variant:=⟨[.val ty_18 false,.val ty_19 false],[(ty_18,false),(.bool,false)],fun x=>spec_nwRest k x.1 x.2.1⟩
noncomputable def q180C(k:Nat):Cfg:=⟨Tryz.prog,tyOf tys,63,gOf [(93,[],q177V k),(171,[],q111V),(206,[],q112V),(167,[],q179V k)],false,[],[]⟩
def q180i1:List PE := [e154,e145,⟨11,64,.eat ty_15,false⟩,e87,e88,e89,⟨32,128,.val ty_16 false,false⟩,⟨33,144,.val ty_0 false,false⟩,⟨34,160,.val ty_0 false,false⟩]
def q180o1:List PE := [e154,⟨11,48,.eat ty_15,false⟩,⟨25,64,.val ty_18 false,false⟩,⟨26,80,.val ty_0 false,false⟩,⟨27,96,.val ty_0 false,false⟩]
noncomputable def q180f1(k:Nat)(n:Nat)(x7:PTe q180i1):=spec_nwRest_L256410 k n x7.1 x7.2.1 x7.2.2.1 x7.2.2.2.1 x7.2.2.2.2.1 x7.2.2.2.2.2.1 x7.2.2.2.2.2.2.1 x7.2.2.2.2.2.2.2.1 x7.2.2.2.2.2.2.2.2.1
def q180i2:List PE := [e154,⟨25,48,.val ty_18 false,false⟩,⟨26,64,.val ty_0 false,false⟩,⟨27,80,.val ty_0 false,false⟩]
def q180o2:List PE := [e154]
noncomputable def q180f2(k:Nat)(n:Nat)(x10:PTe q180i2):=spec_nwRest_L250 k n x10.1 x10.2.1 x10.2.2.1 x10.2.2.2.1
def q180p:List PE := [e111,e118]
noncomputable def q180F(k:Nat):F17:=⟨q180C k,rr q180p [(ty_18,false),(.bool,false)] Tryz.f111,fun p=>bif Nat.beq p 65641062 then some (.cut [e154,e145,⟨11,64,.eat ty_15,false⟩,⟨13,80,.box ty_15 false,false⟩,⟨14,96,.val ty_0 false,false⟩,⟨25,112,.val ty_18 false,false⟩,⟨26,128,.val ty_0 false,false⟩,⟨27,144,.val ty_0 false,false⟩,⟨32,160,.val ty_16 false,false⟩,⟨33,176,.val ty_0 false,false⟩,⟨34,192,.val ty_0 false,false⟩] 208)else bif Nat.beq p 256410 then some (.loop q180i1 q180o1 2 176 (q180f1 k k))else bif Nat.beq p 250 then some (.loop q180i2 q180o2 0 96 (q180f2 k k))else none,0,[]⟩
theorem q180K(k:Nat):Contract Tryz.prog 111 (q180V k):=ctr (q180C k) (rs := [(ty_18,false),(.bool,false)]) (ps:=q180p) (q180F k) Tryz.f111 32 ⟨tyOf_ok tys_ok,gOf_ok ⟨q177K k,q111K,q112K,q179K k,trivial⟩⟩ (annl [250,256410] ⟨lok q180i2 q180o2 0 96 (q180f2 k) k,lok q180i1 q180o1 2 176 (q180f1 k) k,trivial⟩)

noncomputable def q181V(k:Nat):Variant:=⟨[.val ty_12 false,.val ty_11 true],[(ty_18,false),(.bool,false)],fun x=>spec_RemainderTable k x.1 x.2.1⟩
noncomputable def q181C(k:Nat):Cfg:=⟨Tryz.prog,tyOf tys,27,gOf [(103,[],q105V k),(107,[],q156V k),(111,[],q180V k)],false,[],[]⟩
def q181p:List PE := [e45,e91]
noncomputable def q181F(k:Nat):F17:=⟨q181C k,rr q181p [(ty_18,false),(.bool,false)] Tryz.f36,fun p=>none,0,[]⟩
theorem q181K(k:Nat):Contract Tryz.prog 36 (q181V k):=ctr (q181C k) (rs := [(ty_18,false),(.bool,false)]) (ps:=q181p) (q181F k) Tryz.f36 32 ⟨tyOf_ok tys_ok,gOf_ok ⟨q105K k,q156K k,q180K k,trivial⟩⟩ (annl [] trivial)

noncomputable def q182V(k:Nat):Variant:=⟨[.val ty_20 false],[(ty_12,false),(ty_11,true)],fun x=>spec_DrawNewtonPoint k x.1⟩
noncomputable def q182C(k:Nat):Cfg:=⟨Tryz.prog,tyOf tys,8,gOf [(100,[],q34V k)],false,[],[]⟩
def q182p:List PE := [e39]
noncomputable def q182F(k:Nat):F9:=⟨q182C k,rr q182p [(ty_12,false),(ty_11,true)] Tryz.f37,fun p=>none,0,[]⟩
theorem q182K(k:Nat):Contract Tryz.prog 37 (q182V k):=ctr (q182C k) (rs := [(ty_12,false),(ty_11,true)]) (ps:=q182p) (q182F k) Tryz.f37 16 ⟨tyOf_ok tys_ok,gOf_ok ⟨q34K k,trivial⟩⟩ (annl [] trivial)

noncomputable def q183V(k:Nat):Variant:=⟨[.val ty_17 false,.val ty_17 false],[(.bool,false)],fun x=>laws_qNumbers k x.1 x.2.1⟩
noncomputable def q183C(k:Nat):Cfg:=⟨Tryz.prog,tyOf tys,26,gOf [],false,[],[]⟩
def q183i1:List PE := [⟨0,32,.val ty_17 false,false⟩,e140,e37,e114]
def q183o1:List PE := []
noncomputable def q183f1(k:Nat)(n:Nat)(x1:PTe q183i1):=laws_qNumbers_L58 k n x1.1 x1.2.1 x1.2.2.1 x1.2.2.2.1
def q183p:List PE := [e101,e115]
noncomputable def q183F(k:Nat):F4:=⟨q183C k,rr q183p [(.bool,false)] Tryz.f39,fun p=>bif Nat.beq p 58 then some (.loop q183i1 q183o1 0 96 (q183f1 k k))else none,0,[]⟩
theorem q183K(k:Nat):Contract Tryz.prog 39 (q183V k):=ctr (q183C k) (rs := [(.bool,false)]) (ps:=q183p) (q183F k) Tryz.f39 32 ⟨tyOf_ok tys_ok,gOf_ok trivial⟩ (annl [58] ⟨lok q183i1 q183o1 0 96 (q183f1 k) k,trivial⟩)

noncomputable def q184V(k:Nat):Variant:=⟨[.val ty_19 false,.val ty_19 false],[(.bool,false)],fun x=>laws_qDyadics k x.1 x.2.1⟩
noncomputable def q184C(k:Nat):Cfg:=⟨Tryz.prog,tyOf tys,27,gOf [(39,[],q183V k)],false,[],[]⟩
def q184i1:List PE := [e146,⟨1,48,.val ty_19 false,false⟩,e37,e114]
def q184o1:List PE := []
noncomputable def q184f1(k:Nat)(n:Nat)(x2:PTe q184i1):=laws_qDyadics_L58 k n x2.1 x2.2.1 x2.2.2.1 x2.2.2.2.1
def q184p:List PE := [e113,e118]
noncomputable def q184F(k:Nat):F4:=⟨q184C k,rr q184p [(.bool,false)] Tryz.f38,fun p=>bif Nat.beq p 58 then some (.loop q184i1 q184o1 0 96 (q184f1 k k))else none,0,[]⟩
theorem q184K(k:Nat):Contract Tryz.prog 38 (q184V k):=ctr (q184C k) (rs := [(.bool,false)]) (ps:=q184p) (q184F k) Tryz.f38 32 ⟨tyOf_ok tys_ok,gOf_ok ⟨q183K k,trivial⟩⟩ (annl [58] ⟨lok q184i1 q184o1 0 96 (q184f1 k) k,trivial⟩)

noncomputable def q185V(k:Nat):Variant:=⟨[.val ty_16 false,.val ty_16 false],[(.bool,false)],fun x=>laws_qIntervals k x.1 x.2.1⟩
noncomputable def q185C(k:Nat):Cfg:=⟨Tryz.prog,tyOf tys,26,gOf [],false,[],[]⟩
def q185i1:List PE := [⟨0,32,.val ty_16 false,false⟩,⟨1,48,.val ty_16 false,false⟩,e37,e114]
def q185o1:List PE := []
noncomputable def q185f1(k:Nat)(n:Nat)(x1:PTe q185i1):=laws_qIntervals_L58 k n x1.1 x1.2.1 x1.2.2.1 x1.2.2.2.1
def q185p:List PE := [e155,e78]
noncomputable def q185F(k:Nat):F4:=⟨q185C k,rr q185p [(.bool,false)] Tryz.f112,fun p=>bif Nat.beq p 58 then some (.loop q185i1 q185o1 0 96 (q185f1 k k))else none,0,[]⟩
theorem q185K(k:Nat):Contract Tryz.prog 112 (q185V k):=ctr (q185C k) (rs := [(.bool,false)]) (ps:=q185p) (q185F k) Tryz.f112 32 ⟨tyOf_ok tys_ok,gOf_ok trivial⟩ (annl [58] ⟨lok q185i1 q185o1 0 96 (q185f1 k) k,trivial⟩)

noncomputable def q186V(k:Nat):Variant:=⟨[.val ty_18 false,.val ty_18 false],[(.bool,false)],fun x=>laws_qTable k x.1 x.2.1⟩
noncomputable def q186C(k:Nat):Cfg:=⟨Tryz.prog,tyOf tys,27,gOf [(112,[],q185V k)],false,[],[]⟩
def q186i1:List PE := [⟨0,32,.val ty_18 false,false⟩,e147,e37,e114]
def q186o1:List PE := []
noncomputable def q186f1(k:Nat)(n:Nat)(x2:PTe q186i1):=laws_qTable_L58 k n x2.1 x2.2.1 x2.2.2.1 x2.2.2.2.1
def q186p:List PE := [e111,e150]
noncomputable def q186F(k:Nat):F4:=⟨q186C k,rr q186p [(.bool,false)] Tryz.f40,fun p=>bif Nat.beq p 58 then some (.loop q186i1 q186o1 0 96 (q186f1 k k))else none,0,[]⟩
theorem q186K(k:Nat):Contract Tryz.prog 40 (q186V k):=ctr (q186C k) (rs := [(.bool,false)]) (ps:=q186p) (q186F k) Tryz.f40 32 ⟨tyOf_ok tys_ok,gOf_ok ⟨q185K k,trivial⟩⟩ (annl [58] ⟨lok q186i1 q186o1 0 96 (q186f1 k) k,trivial⟩)

noncomputable def q187V(k:Nat):Variant:=⟨[.val ty_12 false,.val ty_11 true],[(ty_18,false),(.bool,false)],fun x=>spec_JacobianOver k x.1 x.2.1⟩
noncomputable def q187C(k:Nat):Cfg:=⟨Tryz.prog,tyOf tys,15,gOf [(113,[],q104V k),(104,[],q133V k)],false,[],[]⟩
def q187p:List PE := [e45,e91]
noncomputable def q187F(k:Nat):F17:=⟨q187C k,rr q187p [(ty_18,false),(.bool,false)] Tryz.f41,fun p=>none,0,[]⟩
theorem q187K(k:Nat):Contract Tryz.prog 41 (q187V k):=ctr (q187C k) (rs := [(ty_18,false),(.bool,false)]) (ps:=q187p) (q187F k) Tryz.f41 32 ⟨tyOf_ok tys_ok,gOf_ok ⟨q104K k,q133K k,trivial⟩⟩ (annl [] trivial)

noncomputable def q188V:Variant:=⟨[.val ty_5 true,.val ty_5 true],[(.bool,false)],fun x=>spec_dyTwo x.1 x.2.1⟩
noncomputable def q188C:Cfg:=⟨Tryz.prog,tyOf tys,11,gOf [(177,[],q106V)],false,[],[]⟩
def q188p:List PE := [e60,e63]
noncomputable def q188F:F4:=⟨q188C,rr q188p [(.bool,false)] Tryz.f181,fun p=>none,0,[]⟩
theorem q188K:Contract Tryz.prog 181 (q188V):=ctr q188C (rs := [(.bool,false)]) (ps:=q188p) q188F Tryz.f181 32 ⟨tyOf_ok tys_ok,gOf_ok ⟨q106K,trivial⟩⟩ (annl [] trivial)

noncomputable def q189V(k:Nat):Variant:=⟨[.val ty_5 true,.val ty_5 true],[(ty_0,false),(.bool,false)],fun x=>spec_CompareDyadic k x.1 x.2.1⟩
noncomputable def q189C(k:Nat):Cfg:=⟨Tryz.prog,tyOf tys,13,gOf [(181,[],q188V),(170,[],q120V k)],false,[],[]⟩
def q189p:List PE := [e60,e63]
noncomputable def q189F(k:Nat):Fn (Int×Bool):=⟨q189C k,rr q189p [(ty_0,false),(.bool,false)] Tryz.f83,fun p=>none,0,[]⟩
theorem q189K(k:Nat):Contract Tryz.prog 83 (q189V k):=ctr (q189C k) (rs := [(ty_0,false),(.bool,false)]) (ps:=q189p) (q189F k) Tryz.f83 32 ⟨tyOf_ok tys_ok,gOf_ok ⟨q188K,q120K k,trivial⟩⟩ (annl [] trivial)

noncomputable def q190V(k:Nat):Variant:=⟨[.val ty_5 true,.val ty_5 true],[(ty_0,false)],fun x=>laws_qUp k x.1 x.2.1⟩
noncomputable def q190C(k:Nat):Cfg:=⟨Tryz.prog,tyOf tys,14,gOf [(83,[],q189V k)],false,[],[]⟩
def q190p:List PE := [e60,e63]
noncomputable def q190F(k:Nat):F2:=⟨q190C k,rr q190p [(ty_0,false)] Tryz.f114,fun p=>none,0,[]⟩
theorem q190K(k:Nat):Contract Tryz.prog 114 (q190V k):=ctr (q190C k) (rs := [(ty_0,false)]) (ps:=q190p) (q190F k) Tryz.f114 32 ⟨tyOf_ok tys_ok,gOf_ok ⟨q189K k,trivial⟩⟩ (annl [] trivial)

noncomputable def q191V(k:Nat):Variant:=⟨[.val ty_15 true,.val ty_5 true],[(.bool,false)],fun x=>laws_qIn k x.1 x.2.1⟩
noncomputable def q191C(k:Nat):Cfg:=⟨Tryz.prog,tyOf tys,17,gOf [(114,[],q190V k)],false,[],[]⟩
def q191p:List PE := [e67,e63]
noncomputable def q191F(k:Nat):F4:=⟨q191C k,rr q191p [(.bool,false)] Tryz.f42,fun p=>none,0,[]⟩
theorem q191K(k:Nat):Contract Tryz.prog 42 (q191V k):=ctr (q191C k) (rs := [(.bool,false)]) (ps:=q191p) (q191F k) Tryz.f42 32 ⟨tyOf_ok tys_ok,gOf_ok ⟨q190K k,trivial⟩⟩ (annl [] trivial)

noncomputable def q192V:Variant:=⟨[.val ty_0 false],[(.bool,false)],fun x=>impl_isPlaces x.1⟩
noncomputable def q192C:Cfg:=⟨Tryz.prog,tyOf tys,5,gOf [(118,[],q36V)],false,[],[]⟩
def q192p:List PE := [e10]
noncomputable def q192F:F4:=⟨q192C,rr q192p [(.bool,false)] Tryz.f96,fun p=>none,0,[]⟩
theorem q192K:Contract Tryz.prog 96 (q192V):=ctr q192C (rs := [(.bool,false)]) (ps:=q192p) q192F Tryz.f96 16 ⟨tyOf_ok tys_ok,gOf_ok ⟨q36K,trivial⟩⟩ (annl [] trivial)

noncomputable def q193V:Variant:=⟨[.val ty_5 true],[(.bool,false)],fun x=>impl_isDyadic x.1⟩
noncomputable def q193C:Cfg:=⟨Tryz.prog,tyOf tys,22,gOf [(96,[],q192V),(118,[],q36V)],false,[],[]⟩
def q193p:List PE := [e60]
noncomputable def q193F:F4:=⟨q193C,rr q193p [(.bool,false)] Tryz.f172,fun p=>none,0,[]⟩
theorem q193K:Contract Tryz.prog 172 (q193V):=ctr q193C (rs := [(.bool,false)]) (ps:=q193p) q193F Tryz.f172 16 ⟨tyOf_ok tys_ok,gOf_ok ⟨q192K,q36K,trivial⟩⟩ (annl [] trivial)

noncomputable def q194V:Variant:=⟨[.val ty_5 true],[(.bool,false)],fun x=>impl_isTable_1 x.1⟩
noncomputable def q194C:Cfg:=⟨Tryz.prog,tyOf tys,6,gOf [(172,[],q193V)],false,[],[]⟩
def q194p:List PE := [e60]
noncomputable def q194F:F4:=⟨q194C,rr q194p [(.bool,false)] Tryz.f174,fun p=>none,0,[]⟩
theorem q194K:Contract Tryz.prog 174 (q194V):=ctr q194C (rs := [(.bool,false)]) (ps:=q194p) q194F Tryz.f174 16 ⟨tyOf_ok tys_ok,gOf_ok ⟨q193K,trivial⟩⟩ (annl [] trivial)

noncomputable def q195V(k:Nat):Variant:=⟨[.val ty_17 false,.fn 174 []],[(ty_0,false)],fun x=>slices_IndexFunc_Dyadic_Dyadic_impl_isTable_1 k x.1 x.2.1⟩
noncomputable def q195C(k:Nat):Cfg:=⟨Tryz.prog,tyOf tys,19,gOf [(174,[],q194V)],false,[],[]⟩
def q195i1:List PE := [⟨0,32,.val ty_17 false,false⟩,⟨1,48,.fn 174 [],false⟩,e18,e25]
def q195o1:List PE := []
noncomputable def q195f1(k:Nat)(n:Nat)(x2:PTe q195i1):=slices_IndexFunc_Dyadic_Dyadic_impl_isTable_1_L26 k n x2.1 x2.2.1 x2.2.2.1 x2.2.2.2.1
def q195p:List PE := [e101,⟨1,16,.fn 174 [],false⟩]
noncomputable def q195F(k:Nat):F2:=⟨q195C k,rr q195p [(ty_0,false)] Tryz.f267,fun p=>bif Nat.beq p 26 then some (.loop q195i1 q195o1 0 96 (q195f1 k k))else none,0,[]⟩
theorem q195K(k:Nat):Contract Tryz.prog 267 (q195V k):=ctr (q195C k) (rs := [(ty_0,false)]) (ps:=q195p) (q195F k) Tryz.f267 32 ⟨tyOf_ok tys_ok,gOf_ok ⟨q194K,trivial⟩⟩ (annl [26] ⟨lok q195i1 q195o1 0 96 (q195f1 k) k,trivial⟩)

noncomputable def q196V(k:Nat):Variant:=⟨[.val ty_17 false,.fn 174 []],[(.bool,false)],fun x=>slices_ContainsFunc_Dyadic_Dyadic_impl_isTable_1 k x.1 x.2.1⟩
noncomputable def q196C(k:Nat):Cfg:=⟨Tryz.prog,tyOf tys,9,gOf [(267,[174],q195V k)],false,[],[]⟩
def q196p:List PE := [e101,⟨1,16,.fn 174 [],false⟩]
noncomputable def q196F(k:Nat):F4:=⟨q196C k,rr q196p [(.bool,false)] Tryz.f173,fun p=>none,0,[]⟩
theorem q196K(k:Nat):Contract Tryz.prog 173 (q196V k):=ctr (q196C k) (rs := [(.bool,false)]) (ps:=q196p) (q196F k) Tryz.f173 32 ⟨tyOf_ok tys_ok,gOf_ok ⟨q195K k,trivial⟩⟩ (annl [] trivial)

noncomputable def q197V(k:Nat):Variant:=⟨[.val ty_19 false],[(.bool,false)],fun x=>impl_isTable k x.1⟩
noncomputable def q197C(k:Nat):Cfg:=⟨Tryz.prog,tyOf tys,24,gOf [(173,[174],q196V k),(118,[],q36V)],false,[],[]⟩
def q197i1:List PE := [e112,⟨5,32,.val ty_19 false,false⟩,e17,e18]
def q197o1:List PE := [e112]
noncomputable def q197f1(k:Nat)(n:Nat)(x2:PTe q197i1):=impl_isTable_L26 k n x2.1 x2.2.1 x2.2.2.1 x2.2.2.2.1
def q197p:List PE := [e113]
noncomputable def q197F(k:Nat):F4:=⟨q197C k,rr q197p [(.bool,false)] Tryz.f79,fun p=>bif Nat.beq p 26 then some (.loop q197i1 q197o1 0 80 (q197f1 k k))else none,0,[]⟩
theorem q197K(k:Nat):Contract Tryz.prog 79 (q197V k):=ctr (q197C k) (rs := [(.bool,false)]) (ps:=q197p) (q197F k) Tryz.f79 16 ⟨tyOf_ok tys_ok,gOf_ok ⟨q196K k,q36K,trivial⟩⟩ (annl [26] ⟨lok q197i1 q197o1 0 80 (q197f1 k) k,trivial⟩)

noncomputable def q198V(k:Nat):Variant:=⟨[.val ty_19 false,.val ty_0 false],[(ty_19,false),(.bool,false)],fun x=>impl_RoundedInverse k x.1 x.2.1⟩
noncomputable def q198C(k:Nat):Cfg:=⟨Tryz.prog,tyOf tys,19,gOf [(79,[],q197V k),(96,[],q192V),(97,[],q147V k)],false,[],[]⟩
def q198p:List PE := [e113,e3]
noncomputable def q198F(k:Nat):F18:=⟨q198C k,rr q198p [(ty_19,false),(.bool,false)] Tryz.f25,fun p=>none,0,[]⟩
theorem q198K(k:Nat):Contract Tryz.prog 25 (q198V k):=ctr (q198C k) (rs := [(ty_19,false),(.bool,false)]) (ps:=q198p) (q198F k) Tryz.f25 32 ⟨tyOf_ok tys_ok,gOf_ok ⟨q197K k,q192K,q147K k,trivial⟩⟩ (annl [] trivial)

noncomputable def q199V(k:Nat):Variant:=⟨[.val ty_15 true],[(.bool,false)],fun x=>impl_isInterval k x.1⟩
noncomputable def q199C(k:Nat):Cfg:=⟨Tryz.prog,tyOf tys,19,gOf [(172,[],q193V),(168,[],q79V k)],false,[],[]⟩
def q199p:List PE := [e67]
noncomputable def q199F(k:Nat):F4:=⟨q199C k,rr q199p [(.bool,false)] Tryz.f78,fun p=>none,0,[]⟩
theorem q199K(k:Nat):Contract Tryz.prog 78 (q199V k):=ctr (q199C k) (rs := [(.bool,false)]) (ps:=q199p) (q199F k) Tryz.f78 16 ⟨tyOf_ok tys_ok,gOf_ok ⟨q193K,q79K k,trivial⟩⟩ (annl [] trivial)

noncomputable def q200V(k:Nat):Variant:=⟨[.val ty_15 true],[(.bool,false)],fun x=>impl_isIntervalTable_1 k x.1⟩
noncomputable def q200C(k:Nat):Cfg:=⟨Tryz.prog,tyOf tys,6,gOf [(78,[],q199V k)],false,[],[]⟩
def q200p:List PE := [e67]
noncomputable def q200F(k:Nat):F4:=⟨q200C k,rr q200p [(.bool,false)] Tryz.f157,fun p=>none,0,[]⟩
theorem q200K(k:Nat):Contract Tryz.prog 157 (q200V k):=ctr (q200C k) (rs := [(.bool,false)]) (ps:=q200p) (q200F k) Tryz.f157 16 ⟨tyOf_ok tys_ok,gOf_ok ⟨q199K k,trivial⟩⟩ (annl [] trivial)

noncomputable def q201V(k:Nat):Variant:=⟨[.val ty_16 false,.fn 157 []],[(ty_0,false)],fun x=>slices_IndexFunc_Interval_Interval_impl_isIntervalTable_1 k x.1 x.2.1⟩
noncomputable def q201C(k:Nat):Cfg:=⟨Tryz.prog,tyOf tys,19,gOf [(157,[],q200V k)],false,[],[]⟩
def q201i1:List PE := [⟨0,32,.val ty_16 false,false⟩,⟨1,48,.fn 157 [],false⟩,e18,e25]
def q201o1:List PE := []
noncomputable def q201f1(k:Nat)(n:Nat)(x2:PTe q201i1):=slices_IndexFunc_Interval_Interval_impl_isIntervalTable_1_L26 k n x2.1 x2.2.1 x2.2.2.1 x2.2.2.2.1
def q201p:List PE := [e155,⟨1,16,.fn 157 [],false⟩]
noncomputable def q201F(k:Nat):F2:=⟨q201C k,rr q201p [(ty_0,false)] Tryz.f254,fun p=>bif Nat.beq p 26 then some (.loop q201i1 q201o1 0 96 (q201f1 k k))else none,0,[]⟩
theorem q201K(k:Nat):Contract Tryz.prog 254 (q201V k):=ctr (q201C k) (rs := [(ty_0,false)]) (ps:=q201p) (q201F k) Tryz.f254 32 ⟨tyOf_ok tys_ok,gOf_ok ⟨q200K k,trivial⟩⟩ (annl [26] ⟨lok q201i1 q201o1 0 96 (q201f1 k) k,trivial⟩)

noncomputable def q202V(k:Nat):Variant:=⟨[.val ty_16 false,.fn 157 []],[(.bool,false)],fun x=>slices_ContainsFunc_Interval_Interval_impl_isIntervalTable_1 k x.1 x.2.1⟩
noncomputable def q202C(k:Nat):Cfg:=⟨Tryz.prog,tyOf tys,9,gOf [(254,[157],q201V k)],false,[],[]⟩
def q202p:List PE := [e155,⟨1,16,.fn 157 [],false⟩]
noncomputable def q202F(k:Nat):F4:=⟨q202C k,rr q202p [(.bool,false)] Tryz.f156,fun p=>none,0,[]⟩
theorem q202K(k:Nat):Contract Tryz.prog 156 (q202V k):=ctr (q202C k) (rs := [(.bool,false)]) (ps:=q202p) (q202F k) Tryz.f156 32 ⟨tyOf_ok tys_ok,gOf_ok ⟨q201K k,trivial⟩⟩ (annl [] trivial)

noncomputable def q203V(k:Nat):Variant:=⟨[.val ty_18 false],[(.bool,false)],fun x=>impl_isIntervalTable k x.1⟩
noncomputable def q203C(k:Nat):Cfg:=⟨Tryz.prog,tyOf tys,24,gOf [(156,[157],q202V k),(118,[],q36V)],false,[],[]⟩
def q203i1:List PE := [⟨0,16,.val ty_18 false,false⟩,⟨5,32,.val ty_18 false,false⟩,e17,e18]
def q203o1:List PE := [⟨0,16,.val ty_18 false,false⟩]
noncomputable def q203f1(k:Nat)(n:Nat)(x2:PTe q203i1):=impl_isIntervalTable_L26 k n x2.1 x2.2.1 x2.2.2.1 x2.2.2.2.1
def q203p:List PE := [e111]
noncomputable def q203F(k:Nat):F4:=⟨q203C k,rr q203p [(.bool,false)] Tryz.f71,fun p=>bif Nat.beq p 26 then some (.loop q203i1 q203o1 0 80 (q203f1 k k))else none,0,[]⟩
theorem q203K(k:Nat):Contract Tryz.prog 71 (q203V k):=ctr (q203C k) (rs := [(.bool,false)]) (ps:=q203p) (q203F k) Tryz.f71 16 ⟨tyOf_ok tys_ok,gOf_ok ⟨q202K k,q36K,trivial⟩⟩ (annl [26] ⟨lok q203i1 q203o1 0 80 (q203f1 k) k,trivial⟩)

noncomputable def q204V(k:Nat):Variant:=⟨[.val ty_18 false],[(.bool,false),(.bool,false)],fun x=>impl_isShrinking k x.1⟩
noncomputable def q204C(k:Nat):Cfg:=⟨Tryz.prog,tyOf tys,63,gOf [(85,[],q84V),(84,[],q81V k),(86,[],q140V k),(169,[],q68V),(168,[],q79V k)],false,[],[]⟩
def q204i1:List PE := [e123,e156,e141,⟨13,64,.val ty_18 false,false⟩,e79,e80,⟨19,112,.val ty_16 false,false⟩,e110,⟨21,144,.val ty_0 false,false⟩]
def q204o1:List PE := [e123,e156,e141,⟨13,64,.val ty_18 false,false⟩,e79,e80]
noncomputable def q204f1(k:Nat)(n:Nat)(x6:PTe q204i1):=impl_isShrinking_L125338 k n x6.1 x6.2.1 x6.2.2.1 x6.2.2.2.1 x6.2.2.2.2.1 x6.2.2.2.2.2.1 x6.2.2.2.2.2.2.1 x6.2.2.2.2.2.2.2.1 x6.2.2.2.2.2.2.2.2.1
def q204i2:List PE := [e123,e156,⟨13,48,.val ty_18 false,false⟩,e56,⟨15,80,.val ty_0 false,false⟩]
def q204o2:List PE := [e123,e156]
noncomputable def q204f2(k:Nat)(n:Nat)(x12:PTe q204i2):=impl_isShrinking_L122 k n x12.1 x12.2.1 x12.2.2.1 x12.2.2.2.1 x12.2.2.2.2.1
def q204p:List PE := [e111]
noncomputable def q204F(k:Nat):Fn (Bool×Bool):=⟨q204C k,rr q204p [(.bool,false),(.bool,false)] Tryz.f76,fun p=>bif Nat.beq p 125338 then some (.loop q204i1 q204o1 2 160 (q204f1 k k))else bif Nat.beq p 122 then some (.loop q204i2 q204o2 0 96 (q204f2 k k))else none,0,[]⟩
theorem q204K(k:Nat):Contract Tryz.prog 76 (q204V k):=ctr (q204C k) (rs := [(.bool,false),(.bool,false)]) (ps:=q204p) (q204F k) Tryz.f76 16 ⟨tyOf_ok tys_ok,gOf_ok ⟨q84K,q81K k,q140K k,q68K,q79K k,trivial⟩⟩ (annl [122,125338] ⟨lok q204i2 q204o2 0 96 (q204f2 k) k,lok q204i1 q204o1 2 160 (q204f1 k) k,trivial⟩)

noncomputable def q205V(k:Nat):Variant:=⟨[.val ty_18 false],[(.bool,false),(.bool,false)],fun x=>impl_IsShrinking k x.1⟩
noncomputable def q205C(k:Nat):Cfg:=⟨Tryz.prog,tyOf tys,11,gOf [(71,[],q203V k),(76,[],q204V k)],false,[],[]⟩
def q205p:List PE := [e111]
noncomputable def q205F(k:Nat):Fn (Bool×Bool):=⟨q205C k,rr q205p [(.bool,false),(.bool,false)] Tryz.f11,fun p=>none,0,[]⟩
theorem q205K(k:Nat):Contract Tryz.prog 11 (q205V k):=ctr (q205C k) (rs := [(.bool,false),(.bool,false)]) (ps:=q205p) (q205F k) Tryz.f11 16 ⟨tyOf_ok tys_ok,gOf_ok ⟨q203K k,q204K k,trivial⟩⟩ (annl [] trivial)

noncomputable def q206V(k:Nat):Variant:=⟨[.val ty_12 false,.val ty_11 true],[(.bool,false),(.bool,false)],fun x=>impl_IsContracting k x.1 x.2.1⟩
noncomputable def q206C(k:Nat):Cfg:=⟨Tryz.prog,tyOf tys,22,gOf [(101,[],q49V k),(110,[],q175V k),(76,[],q204V k)],false,[],[]⟩
def q206p:List PE := [e45,e91]
noncomputable def q206F(k:Nat):Fn (Bool×Bool):=⟨q206C k,rr q206p [(.bool,false),(.bool,false)] Tryz.f43,fun p=>none,0,[]⟩
theorem q206K(k:Nat):Contract Tryz.prog 43 (q206V k):=ctr (q206C k) (rs := [(.bool,false),(.bool,false)]) (ps:=q206p) (q206F k) Tryz.f43 32 ⟨tyOf_ok tys_ok,gOf_ok ⟨q49K k,q175K k,q204K k,trivial⟩⟩ (annl [] trivial)

noncomputable def laws_FnInverses_V(k:Nat):Variant:=⟨[.val ty_20 false,.val ty_20 false],[(.bool,false)],fun x=>laws_FnInverses k x.1 x.2.1⟩
noncomputable def laws_FnInverses_C(k:Nat):Cfg:=⟨Tryz.prog,tyOf tys,260,gOf [(28,[],q35V k),(29,[],q100V k),(30,[],q136V k),(31,[],q149V k),(32,[],q157V k),(33,[],q164V k),(34,[],q172V k),(35,[],q176V k),(36,[],q181V k),(37,[],q182V k),(38,[],q184V k),(39,[],q183V k),(40,[],q186V k),(41,[],q187V k),(42,[],q191V k),(25,[],q198V k),(11,[],q205V k),(43,[],q206V k)],false,[],[]⟩
def laws_FnInverses_i2147462758:List PE := [e24,e31,e157,e158,e159,e160,e161,e162,⟨31,160,.val ty_0 false,false⟩,⟨200,176,.val ty_19 false,false⟩,⟨201,192,.val ty_0 false,false⟩,⟨202,208,.val ty_0 false,false⟩,⟨207,224,.val ty_17 false,false⟩,⟨208,240,.val ty_0 false,false⟩,⟨209,256,.val ty_0 false,false⟩]
def laws_FnInverses_o2147462758:List PE := [e24,e31,e157,e158,e159,e160,e161,e162,⟨200,160,.val ty_19 false,false⟩,⟨201,176,.val ty_0 false,false⟩,⟨202,192,.val ty_0 false,false⟩]
noncomputable def laws_FnInverses_f2147462758(k:Nat)(n:Nat)(x21:PTe laws_FnInverses_i2147462758):=laws_FnInverses_L2147462758 k n x21.1 x21.2.1 x21.2.2.1 x21.2.2.2.1 x21.2.2.2.2.1 x21.2.2.2.2.2.1 x21.2.2.2.2.2.2.1 x21.2.2.2.2.2.2.2.1 x21.2.2.2.2.2.2.2.2.1 x21.2.2.2.2.2.2.2.2.2.1 x21.2.2.2.2.2.2.2.2.2.2.1 x21.2.2.2.2.2.2.2.2.2.2.2.1 x21.2.2.2.2.2.2.2.2.2.2.2.2.1 x21.2.2.2.2.2.2.2.2.2.2.2.2.2.1 x21.2.2.2.2.2.2.2.2.2.2.2.2.2.2.1
def laws_FnInverses_i8388526:List PE := [e24,e31,e157,e158,e159,e160,e161,e162,⟨200,160,.val ty_19 false,false⟩,⟨201,176,.val ty_0 false,false⟩,⟨202,192,.val ty_0 false,false⟩]
def laws_FnInverses_o8388526:List PE := [e24,e31,e157,e158,e159,e160,e161]
noncomputable def laws_FnInverses_f8388526(k:Nat)(n:Nat)(x24:PTe laws_FnInverses_i8388526):=laws_FnInverses_L8388526 k n x24.1 x24.2.1 x24.2.2.1 x24.2.2.2.1 x24.2.2.2.2.1 x24.2.2.2.2.2.1 x24.2.2.2.2.2.2.1 x24.2.2.2.2.2.2.2.1 x24.2.2.2.2.2.2.2.2.1 x24.2.2.2.2.2.2.2.2.2.1 x24.2.2.2.2.2.2.2.2.2.2.1
def laws_FnInverses_ps:List PE := [e39,⟨1,16,.val ty_20 false,false⟩]
noncomputable def laws_FnInverses_F(k:Nat):F4:=⟨laws_FnInverses_C k,rr laws_FnInverses_ps [(.bool,false)] Tryz.f4,fun p=>bif Nat.beq p 2147462758 then some (.loop laws_FnInverses_i2147462758 laws_FnInverses_o2147462758 2 272 (laws_FnInverses_f2147462758 k k))else bif Nat.beq p 8388526 then some (.loop laws_FnInverses_i8388526 laws_FnInverses_o8388526 0 208 (laws_FnInverses_f8388526 k k))else bif Nat.beq p 262142 then some (.cut [e24,e31,⟨19,64,.eat ty_16,false⟩,⟨20,80,.val .bool false,false⟩] 96)else bif Nat.beq p 131070 then some (.cut [e24,e31,e157,e158,e159,e160,e161] 144)else bif Nat.beq p 65534 then some (.cut [e24,e31,e157,⟨8,80,.val .bool false,false⟩,⟨9,96,.eat ty_17,false⟩,⟨12,112,.val .bool false,false⟩,⟨13,128,.eat ty_17,false⟩,⟨19,144,.eat ty_16,false⟩,⟨20,160,.val .bool false,false⟩] 176)else none,0,[]⟩
theorem laws_FnInverses_K(k:Nat):Contract Tryz.prog 4 (laws_FnInverses_V k):=ctr (laws_FnInverses_C k) (rs := [(.bool,false)]) (ps:=laws_FnInverses_ps) (laws_FnInverses_F k) Tryz.f4 32 ⟨tyOf_ok tys_ok,gOf_ok ⟨q35K k,q100K k,q136K k,q149K k,q157K k,q164K k,q172K k,q176K k,q181K k,q182K k,q184K k,q183K k,q186K k,q187K k,q191K k,q198K k,q205K k,q206K k,trivial⟩⟩ (annl [8388526,2147462758] ⟨lok laws_FnInverses_i8388526 laws_FnInverses_o8388526 0 208 (laws_FnInverses_f8388526 k) k,lok laws_FnInverses_i2147462758 laws_FnInverses_o2147462758 2 272 (laws_FnInverses_f2147462758 k) k,trivial⟩)
end Go.Ev.G
