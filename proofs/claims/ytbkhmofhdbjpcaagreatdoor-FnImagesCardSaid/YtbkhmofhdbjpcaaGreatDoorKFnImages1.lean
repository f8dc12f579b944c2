/- The contracts of the functions behind FnImages: a call of each returns what its plain function computes; for all inputs within the sizes named. -/
import Derived.Test.YtbkhmofhdbjpcaaGreatDoorPFnImages1
import Derived.Test.YtbkhmofhdbjpcaaGreatDoorProg
set_option linter.unusedVariables false
set_option linter.unusedSectionVars false
namespace Go.Ev.G
open Go Go.Ev Go.Proofs
set_option maxRecDepth 100000
variable [KSl]
abbrev ty_0:Ty:=(.int .i64)

abbrev ty_1:Ty:=(.int .u64)

abbrev ty_2:Ty:=(.pair ty_0 ty_1)

abbrev ty_3:Ty:=(.pair .ks ty_2)

abbrev ty_4:Ty:=(.pair ty_0 ty_0)

abbrev ty_5:Ty:=(.pair ty_0 ty_4)

abbrev ty_6:Ty:=(.pair ty_0 ty_5)

abbrev ty_7:Ty:=(.sl ty_6)

abbrev ty_8:Ty:=(.sl ty_7)

abbrev ty_9:Ty:=(.sl ty_0)

abbrev ty_10:Ty:=(.pair ty_9 ty_9)

abbrev ty_11:Ty:=(.pair ty_0 ty_10)

abbrev ty_12:Ty:=(.pair ty_1 ty_1)

abbrev ty_13:Ty:=(.pair .bool ty_12)

abbrev ty_14:Ty:=(.pair ty_4 ty_4)

abbrev ty_15:Ty:=(.pair ty_4 ty_14)

abbrev ty_16:Ty:=(.pair ty_0 ty_15)

abbrev ty_17:Ty:=(.sl ty_14)

abbrev ty_18:Ty:=(.sl ty_4)

abbrev ty_19:Ty:=(.sl ty_16)

abbrev ty_20:Ty:=(.int .u8)

abbrev ty_21:Ty:=(.pair ty_20 ty_20)

abbrev ty_22:Ty:=(.pair ty_20 ty_21)

abbrev ty_23:Ty:=(.pair ty_20 ty_22)

abbrev ty_24:Ty:=(.pair ty_20 ty_23)

abbrev ty_25:Ty:=(.pair ty_20 ty_24)

abbrev ty_26:Ty:=(.pair ty_20 ty_25)

abbrev ty_27:Ty:=(.pair ty_20 ty_26)

abbrev ty_28:Ty:=(.pair ty_20 ty_27)

abbrev ty_29:Ty:=(.pair ty_20 ty_28)

abbrev ty_30:Ty:=(.pair ty_20 ty_29)

abbrev ty_31:Ty:=(.pair ty_20 ty_30)

abbrev ty_32:Ty:=(.pair ty_20 ty_31)

abbrev ty_33:Ty:=(.pair ty_20 ty_32)

abbrev ty_34:Ty:=(.pair ty_20 ty_33)

abbrev ty_35:Ty:=(.pair ty_20 ty_34)

abbrev ty_36:Ty:=(.pair ty_20 ty_35)

abbrev ty_37:Ty:=(.pair ty_20 ty_36)

abbrev ty_38:Ty:=(.pair ty_20 ty_37)

abbrev ty_39:Ty:=(.pair ty_20 ty_38)

abbrev ty_40:Ty:=(.pair ty_20 ty_39)

abbrev ty_41:Ty:=(.pair ty_20 ty_40)

abbrev ty_42:Ty:=(.pair ty_20 ty_41)

abbrev ty_43:Ty:=(.pair ty_20 ty_42)

abbrev ty_44:Ty:=(.sl ty_20)

def tys:List (TypeId×Ty) := [(3,ty_0),(23,ty_8),(67,ty_4),(69,ty_14),(87,ty_16),(95,ty_7),(123,ty_6)]

theorem tys_ok:AllT Tryz.prog tys:=⟨⟨_,_,rfl,rfl,rfl,rfl⟩,⟨_,_,rfl,rfl,rfl,rfl⟩,⟨_,_,rfl,rfl,rfl,rfl⟩,⟨_,_,rfl,rfl,rfl,rfl⟩,⟨_,_,rfl,rfl,rfl,rfl⟩,⟨_,_,rfl,rfl,rfl,rfl⟩,⟨_,_,rfl,rfl,rfl,rfl⟩,trivial⟩

def tysR:List (TypeId×Ty) := []

theorem tysR_ok:AllT Tryz.prog tysR:=trivial

theorem mix_ok:Tryz.prog.follows .mixedOrders=true:=by kernel_rfl

theorem ctr{g:FuncId}(C:Cfg){rs:List (Ty×Bool)}{ps:List PE}(F:Fn (CT (rs.map (·.1)++outs (ps.map (·.b)))))(fn:Func)(nx:Nat){f:PT (ps.map (·.b))→Option (CT (rs.map (·.1)++outs (ps.map (·.b))))}
  (hC:CfgOk C) (hann:AnnOk F (codeOf fn) 1) (hP:C.P=Tryz.prog:=by rfl) (hF:F.C=C:=by rfl) (hfn:C.P.funcs[g]? = some fn:=by kernel_rfl) (hb:fn.body=some (codeOf fn):=by kernel_rfl) (hn:(fn.name == "runtime.NumGoroutine")=false:=by kernel_rfl)
  (hnt:C.ntmps=fn.ntmps:=by kernel_rfl) (hle:Nat.ble ps.length fn.ntmps=true:=by kernel_rfl) (hpar:parOk 0 ps=true:=by kernel_rfl) (hfin:F.fin=rdRes C.P ps rs fn.results.toList .ret:=by rfl)
  (hpins:F.pins=pinIds ps:=by kernel_rfl) (hnd:nodupB F.pins=true:=by kernel_rfl) (hf:∀x,evFn F (codeOf fn) ps nx x=f x:=by intro x;kernel_rfl):Contract C.P g ⟨ps.map (·.b),rs,f⟩ :=
 contract hC hF hfn hb hn hnt hle hpar hfin hpins hnd hann (hP ▸ mix_ok) hf

theorem annl{R:Type}{F:Fn R}{c:Code}(l:List Nat)(hl:AllL F (l.map fun p=>(p,loopB c p)))(h:loopsOf c 1=l.map (fun p=>(p,loopB c p)):=by kernel_rfl):AnnOk F c 1:=AnnOk_list _ h hl

theorem lok{R:Type}{F:Fn R}{c:Code}{p:Nat}(pin pout:List PE)(ex nx:Nat)(Lf:Nat→PTe pin→Option (R ⊕ PTe pout))(k:Nat)(h:F.an p=some (.loop pin pout ex nx (Lf k)):=by kernel_rfl)(h0:∀x,Lf 0 x=none:=by intro x;rfl)
  (hs:∀n x,roundOf F c p pin pout ex nx (Lf n) x=Lf (n+1) x:=by intro n x;kernel_rfl):LoopOk F c p:=LoopOk.mk (pin:=pin) (pout:=pout) h h0 hs

noncomputable def rr(ps:List PE)(rs:List (Ty×Bool))(f:Func):=rdRes Tryz.prog ps rs f.results.toList .ret

abbrev e1:PE:=⟨0,0,.ptr ty_3 true,true⟩
abbrev e2:PE:=⟨3,16,.val ty_0 false,false⟩
abbrev F1:Type 1:=Fn (Int×Unit×Int×Int)
abbrev e3:PE:=⟨1,16,.val ty_0 false,false⟩
abbrev e4:PE:=⟨1,16,.val ty_9 false,false⟩
abbrev e5:PE:=⟨0,0,.val ty_6 true,false⟩
abbrev e6:PE:=⟨2,32,.val ty_0 false,false⟩
abbrev e7:PE:=⟨1,32,.val ty_0 false,false⟩
abbrev e8:PE:=⟨6,80,.val ty_0 false,false⟩
abbrev e9:PE:=⟨0,0,.val ty_0 false,false⟩
abbrev F2:Type 1:=Fn (Int)
abbrev e10:PE:=⟨1,16,.val ty_6 true,false⟩
abbrev e11:PE:=⟨0,32,.val ty_7 false,false⟩
abbrev e12:PE:=⟨3,48,.box ty_6 false,false⟩
abbrev e13:PE:=⟨5,64,.val ty_0 false,false⟩
abbrev e14:PE:=⟨0,0,.val ty_7 false,false⟩
abbrev F3:Type 1:=Fn (Bool)
abbrev e15:PE:=⟨0,16,.val ty_7 false,false⟩
abbrev e16:PE:=⟨6,48,.val ty_0 false,false⟩
abbrev e17:PE:=⟨7,64,.val ty_0 false,false⟩
abbrev e18:PE:=⟨9,64,.val ty_0 false,false⟩
abbrev F4:Type 1:=Fn ((List (Int×Int×Int×Int))×Bool)
abbrev e19:PE:=⟨6,64,.val ty_0 false,false⟩
abbrev e20:PE:=⟨5,32,.eat ty_6,false⟩
abbrev F5:Type 1:=Fn ((List (Int×Int×Int×Int))×Unit×Int×Int)
abbrev F6:Type 1:=Fn ((List (List (Int×Int×Int×Int)))×Unit×Int×Int)
abbrev e21:PE:=⟨8,80,.val ty_0 false,false⟩
abbrev e22:PE:=⟨4,32,.val ty_0 false,false⟩
abbrev e23:PE:=⟨6,48,.eat ty_7,false⟩
abbrev e24:PE:=⟨62,80,.val ty_8 false,false⟩
abbrev e25:PE:=⟨63,96,.val ty_0 false,false⟩
abbrev e26:PE:=⟨64,112,.val ty_0 false,false⟩
abbrev e27:PE:=⟨0,0,.val ty_9 false,false⟩
abbrev e28:PE:=⟨6,32,.val ty_9 false,false⟩
abbrev e29:PE:=⟨7,48,.val ty_0 false,false⟩
abbrev e30:PE:=⟨8,64,.val ty_0 false,false⟩
abbrev e31:PE:=⟨0,0,.val ty_11 true,false⟩
abbrev e32:PE:=⟨6,48,.box ty_11 true,false⟩
abbrev e33:PE:=⟨8,64,.box ty_11 true,false⟩
abbrev e34:PE:=⟨2,32,.val ty_9 false,false⟩
abbrev e35:PE:=⟨4,48,.box ty_11 true,false⟩
abbrev F7:Type 1:=Fn ((Int×(List Int)×List Int)×Unit×Int×Int)
abbrev e36:PE:=⟨9,48,.val ty_7 false,false⟩
abbrev e37:PE:=⟨10,64,.val ty_0 false,false⟩
abbrev e38:PE:=⟨11,80,.val ty_0 false,false⟩
abbrev e39:PE:=⟨0,16,.val ty_8 false,false⟩
abbrev e40:PE:=⟨0,0,.val ty_8 false,false⟩
abbrev e41:PE:=⟨0,0,.ptr ty_11 false,false⟩
abbrev e42:PE:=⟨1,16,.ptr ty_11 false,false⟩
abbrev F8:Type 1:=Fn (Bool×Int×Int)
abbrev e43:PE:=⟨0,0,.val ty_13 true,false⟩
abbrev e44:PE:=⟨4,64,.box ty_4 false,false⟩
abbrev F9:Type 1:=Fn ((Int×Int)×Bool)
abbrev F10:Type 1:=Fn (Int×Int)
abbrev e45:PE:=⟨5,32,.ptr ty_0 false,false⟩
abbrev e46:PE:=⟨6,48,.fn 108 [(ty_11,.pp),(ty_0,.pr),(ty_0,.pr)],false⟩
abbrev e47:PE:=⟨7,64,.eat ty_16,false⟩
abbrev e48:PE:=⟨9,96,.val ty_0 false,false⟩
abbrev e49:PE:=⟨10,112,.box ty_4 false,false⟩
abbrev e50:PE:=⟨17,128,.val ty_0 false,false⟩
abbrev F11:Type 1:=Fn (List (Int×(Int×Int)×(Int×Int)×Int×Int))
abbrev e51:PE:=⟨0,0,.val ty_4 true,false⟩
abbrev F12:Type 1:=Fn ((Int×Int)×Int×Int)
abbrev e52:PE:=⟨0,0,.val ty_1 false,false⟩
abbrev e53:PE:=⟨1,16,.val ty_13 true,false⟩
abbrev e54:PE:=⟨1,16,.val ty_4 true,false⟩
abbrev e55:PE:=⟨0,0,.ptr .bool true,true⟩
abbrev e56:PE:=⟨2,32,.val ty_4 true,false⟩
abbrev e57:PE:=⟨0,0,.val ty_14 true,false⟩
abbrev e58:PE:=⟨1,16,.val ty_14 true,false⟩
abbrev F13:Type 1:=Fn (((Int×Int)×Int×Int)×Bool)
abbrev e59:PE:=⟨1,32,.val ty_17 false,false⟩
abbrev e60:PE:=⟨4,48,.box ty_14 false,false⟩
abbrev e61:PE:=⟨6,64,.box .bool false,false⟩
abbrev e62:PE:=⟨7,80,.box ty_14 false,false⟩
abbrev e63:PE:=⟨4,32,.box ty_14 false,false⟩
abbrev e64:PE:=⟨1,16,.val ty_17 false,false⟩
abbrev e65:PE:=⟨0,48,.val ty_8 false,false⟩
abbrev e66:PE:=⟨0,32,.val ty_8 false,false⟩
abbrev e67:PE:=⟨8,64,.eat ty_0,false⟩
abbrev e68:PE:=⟨15,96,.val ty_0 false,false⟩
abbrev e69:PE:=⟨8,48,.eat ty_0,false⟩
abbrev F14:Type 1:=Fn ((List Int)×Bool)
abbrev e70:PE:=⟨1,16,.val ty_11 true,false⟩
abbrev e71:PE:=⟨5,48,.val ty_0 false,false⟩
abbrev e72:PE:=⟨9,80,.val ty_0 false,false⟩
abbrev e73:PE:=⟨0,32,.val ty_0 false,false⟩
abbrev e74:PE:=⟨1,48,.val ty_0 false,false⟩
abbrev e75:PE:=⟨2,32,.box ty_4 false,false⟩
abbrev F15:Type 1:=Fn (Int×Bool)
abbrev e76:PE:=⟨2,16,.box ty_14 false,false⟩
abbrev e77:PE:=⟨3,32,.box ty_14 false,false⟩
abbrev e78:PE:=⟨3,48,.box ty_4 false,false⟩
abbrev e79:PE:=⟨6,64,.eat ty_4,false⟩
abbrev e80:PE:=⟨18,96,.val ty_0 false,false⟩
abbrev e81:PE:=⟨6,64,.box ty_14 false,false⟩
abbrev e82:PE:=⟨1,32,.val ty_18 false,false⟩
abbrev e83:PE:=⟨11,80,.val ty_7 false,false⟩
abbrev e84:PE:=⟨12,96,.val ty_0 false,false⟩
abbrev e85:PE:=⟨13,112,.val ty_0 false,false⟩
abbrev e86:PE:=⟨12,80,.val ty_0 false,false⟩
abbrev e87:PE:=⟨1,16,.val ty_18 false,false⟩
abbrev e88:PE:=⟨11,80,.box ty_6 false,false⟩
abbrev e89:PE:=⟨30,112,.val ty_7 false,false⟩
abbrev e90:PE:=⟨31,128,.val ty_0 false,false⟩
abbrev e91:PE:=⟨32,144,.val ty_0 false,false⟩
abbrev F16:Type 1:=Fn (ByteArray)

noncomputable def q1V:Variant:=⟨[.ptr ty_3 true],[(ty_0,false)],fun x=>spec_l1Cur_next KSl.xs x.1⟩
noncomputable def q1C:Cfg:=⟨Tryz.prog,tyOf tys,62,gOf [],false,[],[]⟩
def q1p:List PE := [e1]
noncomputable def q1F:F1:=⟨q1C,rr q1p [(ty_0,false)] Tryz.f141,fun p=>bif Nat.beq p 14 then some (.cut [e1,e2] 32)else none,0,[0]⟩
theorem q1K:Contract Tryz.prog 141 (q1V):=ctr q1C (rs := [(ty_0,false)]) (ps:=q1p) q1F Tryz.f141 16 ⟨tyOf_ok tys_ok,gOf_ok trivial⟩ (annl [] trivial)

noncomputable def q2V:Variant:=⟨[.ptr ty_3 true,.val ty_0 false],[(ty_0,false)],fun x=>spec_l1Cur_pick KSl.xs x.1 x.2.1⟩
noncomputable def q2C:Cfg:=⟨Tryz.prog,tyOf tys,20,gOf [(141,[],q1V)],false,[],[]⟩
def q2p:List PE := [e1,e3]
noncomputable def q2F:F1:=⟨q2C,rr q2p [(ty_0,false)] Tryz.f93,fun p=>none,0,[0]⟩
theorem q2K:Contract Tryz.prog 93 (q2V):=ctr q2C (rs := [(ty_0,false)]) (ps:=q2p) q2F Tryz.f93 32 ⟨tyOf_ok tys_ok,gOf_ok ⟨q1K,trivial⟩⟩ (annl [] trivial)

noncomputable def q3V:Variant:=⟨[.ptr ty_3 true,.val ty_0 false],[(.bool,false)],fun x=>spec_l1Cur_one KSl.xs x.1 x.2.1⟩
noncomputable def q3C:Cfg:=⟨Tryz.prog,tyOf tys,9,gOf [(93,[],q2V)],false,[],[]⟩
def q3p:List PE := [e1,e3]
noncomputable def q3F:Fn (Bool×Unit×Int×Int):=⟨q3C,rr q3p [(.bool,false)] Tryz.f85,fun p=>none,0,[0]⟩
theorem q3K:Contract Tryz.prog 85 (q3V):=ctr q3C (rs := [(.bool,false)]) (ps:=q3p) q3F Tryz.f85 32 ⟨tyOf_ok tys_ok,gOf_ok ⟨q2K,trivial⟩⟩ (annl [] trivial)

noncomputable def q4V:Variant:=⟨[.ptr ty_3 true,.val ty_9 false],[(ty_0,false)],fun x=>spec_l1Cur_among KSl.xs x.1 x.2.1⟩
noncomputable def q4C:Cfg:=⟨Tryz.prog,tyOf tys,12,gOf [(93,[],q2V)],false,[],[]⟩
def q4p:List PE := [e1,e4]
noncomputable def q4F:F1:=⟨q4C,rr q4p [(ty_0,false)] Tryz.f100,fun p=>none,0,[0]⟩
theorem q4K:Contract Tryz.prog 100 (q4V):=ctr q4C (rs := [(ty_0,false)]) (ps:=q4p) q4F Tryz.f100 32 ⟨tyOf_ok tys_ok,gOf_ok ⟨q2K,trivial⟩⟩ (annl [] trivial)

noncomputable def q5V:Variant:=⟨[.val ty_6 true,.val ty_0 false,.val ty_0 false],[(ty_6,true)],fun x=>spec_poWith x.1 x.2.1 x.2.2.1⟩
noncomputable def q5C:Cfg:=⟨Tryz.prog,tyOf tys,19,gOf [],false,[],[]⟩
def q5p:List PE := [e5,e3,e6]
noncomputable def q5F:Fn (Int×Int×Int×Int):=⟨q5C,rr q5p [(ty_6,true)] Tryz.f218,fun p=>none,0,[]⟩
theorem q5K:Contract Tryz.prog 218 (q5V):=ctr q5C (rs := [(ty_6,true)]) (ps:=q5p) q5F Tryz.f218 48 ⟨tyOf_ok tys_ok,gOf_ok trivial⟩ (annl [] trivial)

noncomputable def q6V(k:Nat):Variant:=⟨[.ptr ty_3 true,.val ty_0 false],[(ty_6,true)],fun x=>spec_l1Cur_term k KSl.xs x.1 x.2.1⟩
noncomputable def q6C(k:Nat):Cfg:=⟨Tryz.prog,tyOf tys,46,gOf [(93,[],q2V),(100,[],q4V),(218,[],q5V),(85,[],q3V)],false,[],[]⟩
def q6i1:List PE := [e1,e7,⟨4,48,.box ty_6 false,false⟩,⟨5,64,.box ty_6 false,false⟩,e8,⟨7,96,.val ty_0 false,false⟩]
def q6o1:List PE := [e1,⟨4,32,.box ty_6 false,false⟩,⟨5,48,.box ty_6 false,false⟩]
noncomputable def q6f1(k:Nat)(n:Nat)(x8:PTe q6i1):=spec_l1Cur_term_L122 k KSl.xs n x8.1 x8.2.1 x8.2.2.1 x8.2.2.2.1 x8.2.2.2.2.1 x8.2.2.2.2.2.1
def q6p:List PE := [e1,e3]
noncomputable def q6F(k:Nat):Fn ((Int×Int×Int×Int)×Unit×Int×Int):=⟨q6C k,rr q6p [(ty_6,true)] Tryz.f201,fun p=>bif Nat.beq p 7826 then some (.cut [e1,e7,⟨4,48,.box ty_6 false,false⟩,⟨5,64,.box ty_6 false,false⟩,e8,⟨7,96,.val ty_0 false,false⟩,⟨8,112,.val ty_0 false,false⟩] 128)else bif Nat.beq p 122 then some (.loop q6i1 q6o1 0 112 (q6f1 k k))else none,0,[0]⟩
theorem q6K(k:Nat):Contract Tryz.prog 201 (q6V k):=ctr (q6C k) (rs := [(ty_6,true)]) (ps:=q6p) (q6F k) Tryz.f201 32 ⟨tyOf_ok tys_ok,gOf_ok ⟨q2K,q4K,q5K,q3K,trivial⟩⟩ (annl [122] ⟨lok q6i1 q6o1 0 112 (q6f1 k) k,trivial⟩)

noncomputable def q7V:Variant:=⟨[.val ty_0 false],[(ty_0,false)],fun x=>spec_l1Sign x.1⟩
noncomputable def q7C:Cfg:=⟨Tryz.prog,tyOf tys,9,gOf [],false,[],[]⟩
def q7p:List PE := [e9]
noncomputable def q7F:F2:=⟨q7C,rr q7p [(ty_0,false)] Tryz.f120,fun p=>none,0,[]⟩
theorem q7K:Contract Tryz.prog 120 (q7V):=ctr q7C (rs := [(ty_0,false)]) (ps:=q7p) q7F Tryz.f120 16 ⟨tyOf_ok tys_ok,gOf_ok trivial⟩ (annl [] trivial)

noncomputable def q8V:Variant:=⟨[.val ty_6 true,.val ty_6 true],[(ty_0,false)],fun x=>spec_poOrder x.1 x.2.1⟩
noncomputable def q8C:Cfg:=⟨Tryz.prog,tyOf tys,35,gOf [(120,[],q7V)],false,[],[]⟩
def q8p:List PE := [e5,e10]
noncomputable def q8F:F2:=⟨q8C,rr q8p [(ty_0,false)] Tryz.f146,fun p=>none,0,[]⟩
theorem q8K:Contract Tryz.prog 146 (q8V):=ctr q8C (rs := [(ty_0,false)]) (ps:=q8p) q8F Tryz.f146 32 ⟨tyOf_ok tys_ok,gOf_ok ⟨q7K,trivial⟩⟩ (annl [] trivial)

noncomputable def q9V(k:Nat):Variant:=⟨[.val ty_7 false,.val ty_6 true],[(ty_7,false)],fun x=>spec_poPut k x.1 x.2.1⟩
noncomputable def q9C(k:Nat):Cfg:=⟨Tryz.prog,tyOf tys,67,gOf [(146,[],q8V)],false,[],[]⟩
def q9i1:List PE := [e11,e12,e13]
def q9o1:List PE := [e11,e12,e13]
noncomputable def q9f1(k:Nat)(n:Nat)(x2:PTe q9i1):=spec_poPut_L28 k n x2.1 x2.2.1 x2.2.2.1
def q9p:List PE := [e14,e10]
noncomputable def q9F(k:Nat):Fn (List (Int×Int×Int×Int)):=⟨q9C k,rr q9p [(ty_7,false)] Tryz.f102,fun p=>bif Nat.beq p 28 then some (.loop q9i1 q9o1 0 80 (q9f1 k k))else bif Nat.beq p 254 then some (.cut [⟨6,32,.val ty_7 false,false⟩,⟨7,48,.eat ty_6,false⟩] 64)else bif Nat.beq p 62 then some (.cut [e11,e12,e13,⟨6,80,.val ty_7 false,false⟩] 96)else none,0,[]⟩
theorem q9K(k:Nat):Contract Tryz.prog 102 (q9V k):=ctr (q9C k) (rs := [(ty_7,false)]) (ps:=q9p) (q9F k) Tryz.f102 32 ⟨tyOf_ok tys_ok,gOf_ok ⟨q8K,trivial⟩⟩ (annl [28] ⟨lok q9i1 q9o1 0 80 (q9f1 k) k,trivial⟩)

noncomputable def q10V:Variant:=⟨[.val ty_0 false,.val ty_0 false,.val ty_0 false],[(.bool,false)],fun x=>spec_l1In x.1 x.2.1 x.2.2.1⟩
noncomputable def q10C:Cfg:=⟨Tryz.prog,tyOf tys,15,gOf [],false,[],[]⟩
def q10p:List PE := [e9,e3,e6]
noncomputable def q10F:F3:=⟨q10C,rr q10p [(.bool,false)] Tryz.f126,fun p=>none,0,[]⟩
theorem q10K:Contract Tryz.prog 126 (q10V):=ctr q10C (rs := [(.bool,false)]) (ps:=q10p) q10F Tryz.f126 48 ⟨tyOf_ok tys_ok,gOf_ok trivial⟩ (annl [] trivial)

noncomputable def q11V:Variant:=⟨[.val ty_6 true],[(.bool,false)],fun x=>spec_poTerm x.1⟩
noncomputable def q11C:Cfg:=⟨Tryz.prog,tyOf tys,32,gOf [(126,[],q10V)],false,[],[]⟩
def q11p:List PE := [e5]
noncomputable def q11F:F3:=⟨q11C,rr q11p [(.bool,false)] Tryz.f191,fun p=>none,0,[]⟩
theorem q11K:Contract Tryz.prog 191 (q11V):=ctr q11C (rs := [(.bool,false)]) (ps:=q11p) q11F Tryz.f191 16 ⟨tyOf_ok tys_ok,gOf_ok ⟨q10K,trivial⟩⟩ (annl [] trivial)

noncomputable def q12V(k:Nat):Variant:=⟨[.val ty_7 false],[(.bool,false)],fun x=>spec_poGood k x.1⟩
noncomputable def q12C(k:Nat):Cfg:=⟨Tryz.prog,tyOf tys,38,gOf [(191,[],q11V),(146,[],q8V)],false,[],[]⟩
def q12i1:List PE := [e15,⟨5,32,.val ty_7 false,false⟩,e16,e17]
def q12o1:List PE := [e15]
noncomputable def q12f1(k:Nat)(n:Nat)(x3:PTe q12i1):=spec_poGood_L26 k n x3.1 x3.2.1 x3.2.2.1 x3.2.2.2.1
def q12p:List PE := [e14]
noncomputable def q12F(k:Nat):F3:=⟨q12C k,rr q12p [(.bool,false)] Tryz.f166,fun p=>bif Nat.beq p 26 then some (.loop q12i1 q12o1 0 80 (q12f1 k k))else none,0,[]⟩
theorem q12K(k:Nat):Contract Tryz.prog 166 (q12V k):=ctr (q12C k) (rs := [(.bool,false)]) (ps:=q12p) (q12F k) Tryz.f166 16 ⟨tyOf_ok tys_ok,gOf_ok ⟨q11K,q8K,trivial⟩⟩ (annl [26] ⟨lok q12i1 q12o1 0 80 (q12f1 k) k,trivial⟩)

noncomputable def q13V(k:Nat):Variant:=⟨[.val ty_7 false],[(ty_7,false),(.bool,false)],fun x=>spec_poSum k x.1⟩
noncomputable def q13C(k:Nat):Cfg:=⟨Tryz.prog,tyOf tys,21,gOf [(102,[],q9V k),(166,[],q12V k)],false,[],[]⟩
def q13i1:List PE := [⟨4,16,.eat ty_6,false⟩,⟨7,32,.val ty_7 false,false⟩,⟨8,48,.val ty_0 false,false⟩,e18]
def q13o1:List PE := [⟨4,16,.eat ty_6,false⟩]
noncomputable def q13f1(k:Nat)(n:Nat)(x2:PTe q13i1):=spec_poSum_L58 k n x2.1 x2.2.1 x2.2.2.1 x2.2.2.2.1
def q13p:List PE := [e14]
noncomputable def q13F(k:Nat):F4:=⟨q13C k,rr q13p [(ty_7,false),(.bool,false)] Tryz.f145,fun p=>bif Nat.beq p 58 then some (.loop q13i1 q13o1 0 80 (q13f1 k k))else none,0,[]⟩
theorem q13K(k:Nat):Contract Tryz.prog 145 (q13V k):=ctr (q13C k) (rs := [(ty_7,false),(.bool,false)]) (ps:=q13p) (q13F k) Tryz.f145 16 ⟨tyOf_ok tys_ok,gOf_ok ⟨q9K k,q12K k,trivial⟩⟩ (annl [58] ⟨lok q13i1 q13o1 0 80 (q13f1 k) k,trivial⟩)

noncomputable def q14V(k:Nat):Variant:=⟨[.val ty_7 false,.val ty_7 false],[(ty_7,false),(.bool,false)],fun x=>spec_poAdd k x.1 x.2.1⟩
noncomputable def q14C(k:Nat):Cfg:=⟨Tryz.prog,tyOf tys,14,gOf [(145,[],q13V k)],false,[],[]⟩
def q14p:List PE := [e14,⟨1,16,.val ty_7 false,false⟩]
noncomputable def q14F(k:Nat):F4:=⟨q14C k,rr q14p [(ty_7,false),(.bool,false)] Tryz.f101,fun p=>none,0,[]⟩
theorem q14K(k:Nat):Contract Tryz.prog 101 (q14V k):=ctr (q14C k) (rs := [(ty_7,false),(.bool,false)]) (ps:=q14p) (q14F k) Tryz.f101 32 ⟨tyOf_ok tys_ok,gOf_ok ⟨q13K k,trivial⟩⟩ (annl [] trivial)

noncomputable def q15V(k:Nat):Variant:=⟨[.ptr ty_3 true,.val ty_0 false],[(ty_7,false)],fun x=>spec_l1Cur_poly k KSl.xs x.1 x.2.1⟩
noncomputable def q15C(k:Nat):Cfg:=⟨Tryz.prog,tyOf tys,34,gOf [(93,[],q2V),(85,[],q3V),(201,[],q6V k),(101,[],q14V k)],false,[],[]⟩
def q15i1:List PE := [e1,e7,⟨5,48,.eat ty_6,false⟩,e19,⟨7,80,.val ty_0 false,false⟩]
def q15o1:List PE := [e1,e20]
noncomputable def q15f1(k:Nat)(n:Nat)(x6:PTe q15i1):=spec_l1Cur_poly_L250 k KSl.xs n x6.1 x6.2.1 x6.2.2.1 x6.2.2.2.1 x6.2.2.2.2.1
def q15p:List PE := [e1,e3]
noncomputable def q15F(k:Nat):F5:=⟨q15C k,rr q15p [(ty_7,false)] Tryz.f182,fun p=>bif Nat.beq p 250 then some (.loop q15i1 q15o1 0 96 (q15f1 k k))else bif Nat.beq p 30 then some (.cut [e1,e7,⟨5,48,.eat ty_6,false⟩,e19] 80)else none,0,[0]⟩
theorem q15K(k:Nat):Contract Tryz.prog 182 (q15V k):=ctr (q15C k) (rs := [(ty_7,false)]) (ps:=q15p) (q15F k) Tryz.f182 32 ⟨tyOf_ok tys_ok,gOf_ok ⟨q2K,q3K,q6K k,q14K k,trivial⟩⟩ (annl [250] ⟨lok q15i1 q15o1 0 96 (q15f1 k) k,trivial⟩)

noncomputable def q16V(k:Nat):Variant:=⟨[.ptr ty_3 true,.val ty_0 false],[(ty_8,false)],fun x=>spec_l1Cur_system k KSl.xs x.1 x.2.1⟩
noncomputable def q16C(k:Nat):Cfg:=⟨Tryz.prog,tyOf tys,17,gOf [(182,[],q15V k)],false,[],[]⟩
def q16i1:List PE := [e1,e7,⟨5,48,.eat ty_7,false⟩]
def q16o1:List PE := [⟨5,32,.eat ty_7,false⟩,e1]
noncomputable def q16f1(k:Nat)(n:Nat)(x2:PTe q16i1):=spec_l1Cur_system_L28 k KSl.xs n x2.1 x2.2.1 x2.2.2.1
def q16p:List PE := [e1,e3]
noncomputable def q16F(k:Nat):F6:=⟨q16C k,rr q16p [(ty_8,false)] Tryz.f143,fun p=>bif Nat.beq p 28 then some (.loop q16i1 q16o1 0 64 (q16f1 k k))else none,0,[0]⟩
theorem q16K(k:Nat):Contract Tryz.prog 143 (q16V k):=ctr (q16C k) (rs := [(ty_8,false)]) (ps:=q16p) (q16F k) Tryz.f143 32 ⟨tyOf_ok tys_ok,gOf_ok ⟨q15K k,trivial⟩⟩ (annl [28] ⟨lok q16i1 q16o1 0 64 (q16f1 k) k,trivial⟩)

noncomputable def q17V(k:Nat):Variant:=⟨[.ptr ty_3 true,.val ty_0 false],[(ty_7,false)],fun x=>spec_l1Cur_anyPoly k KSl.xs x.1 x.2.1⟩
noncomputable def q17C(k:Nat):Cfg:=⟨Tryz.prog,tyOf tys,76,gOf [(182,[],q15V k),(93,[],q2V),(100,[],q4V)],false,[],[]⟩
def q17i1:List PE := [e1,e20,e16,e17,e21]
def q17o1:List PE := [e1,e20,e16,e17]
noncomputable def q17f1(k:Nat)(n:Nat)(x7:PTe q17i1):=spec_l1Cur_anyPoly_L494888082 k KSl.xs n x7.1 x7.2.1 x7.2.2.1 x7.2.2.2.1 x7.2.2.2.2.1
def q17i2:List PE := [e1,e20,e16,e17]
def q17o2:List PE := [e1,e20,e16]
noncomputable def q17f2(k:Nat)(n:Nat)(x10:PTe q17i2):=spec_l1Cur_anyPoly_L7732626 k KSl.xs n x10.1 x10.2.1 x10.2.2.1 x10.2.2.2.1
def q17i3:List PE := [e1,e20,e16]
def q17o3:List PE := [e20,e1]
noncomputable def q17f3(k:Nat)(n:Nat)(x13:PTe q17i3):=spec_l1Cur_anyPoly_L120822 k KSl.xs n x13.1 x13.2.1 x13.2.2.1
def q17p:List PE := [e1,e3]
noncomputable def q17F(k:Nat):F5:=⟨q17C k,rr q17p [(ty_7,false)] Tryz.f144,fun p=>bif Nat.beq p 494888082 then some (.loop q17i1 q17o1 5 96 (q17f1 k k))else bif Nat.beq p 7732626 then some (.loop q17i2 q17o2 3 80 (q17f2 k k))else bif Nat.beq p 120822 then some (.loop q17i3 q17o3 1 64 (q17f3 k k))else none,0,[0]⟩
theorem q17K(k:Nat):Contract Tryz.prog 144 (q17V k):=ctr (q17C k) (rs := [(ty_7,false)]) (ps:=q17p) (q17F k) Tryz.f144 32 ⟨tyOf_ok tys_ok,gOf_ok ⟨q15K k,q2K,q4K,trivial⟩⟩ (annl [120822,7732626,494888082] ⟨lok q17i3 q17o3 1 64 (q17f3 k) k,lok q17i2 q17o2 3 80 (q17f2 k) k,lok q17i1 q17o1 5 96 (q17f1 k) k,trivial⟩)

noncomputable def q18V(k:Nat):Variant:=⟨[.ptr ty_3 true],[(ty_8,false)],fun x=>spec_l1Cur_anySystem k KSl.xs x.1⟩
noncomputable def q18C(k:Nat):Cfg:=⟨Tryz.prog,tyOf tys,29,gOf [(100,[],q4V),(143,[],q16V k),(93,[],q2V),(144,[],q17V k)],false,[4,10,15],[]⟩
def q18p:List PE := [e1]
noncomputable def q18F(k:Nat):F6:=⟨q18C k,rr q18p [(ty_8,false)] Tryz.f99,fun p=>none,0,[0]⟩
theorem q18K(k:Nat):Contract Tryz.prog 99 (q18V k):=ctr (q18C k) (rs := [(ty_8,false)]) (ps:=q18p) (q18F k) Tryz.f99 16 ⟨tyOf_ok tys_ok,gOf_ok ⟨q4K,q16K k,q2K,q17K k,trivial⟩⟩ (annl [] trivial)

noncomputable def q19V(k:Nat):Variant:=⟨[.ptr ty_3 true],[(ty_8,false)],fun x=>spec_l1Cur_planeSystem k KSl.xs x.1⟩
noncomputable def q19C(k:Nat):Cfg:=⟨Tryz.prog,tyOf tys,105,gOf [(85,[],q3V),(99,[],q18V k),(100,[],q4V),(93,[],q2V),(101,[],q14V k),(102,[],q9V k)],false,[],[]⟩
def q19i1:List PE := [e2,e22,e23,⟨12,64,.eat ty_6,false⟩,e24,e25,e26,⟨89,128,.val ty_7 false,false⟩,⟨90,144,.val ty_0 false,false⟩,⟨91,160,.val ty_0 false,false⟩,e1]
def q19o1:List PE := [e2,e22,e23,⟨12,64,.eat ty_6,false⟩,e24,e25,e26,e1]
noncomputable def q19f1(k:Nat)(n:Nat)(x9:PTe q19i1):=spec_l1Cur_planeSystem_L4171386 k KSl.xs n x9.1 x9.2.1 x9.2.2.1 x9.2.2.2.1 x9.2.2.2.2.1 x9.2.2.2.2.2.1 x9.2.2.2.2.2.2.1 x9.2.2.2.2.2.2.2.1 x9.2.2.2.2.2.2.2.2.1 x9.2.2.2.2.2.2.2.2.2.1 x9.2.2.2.2.2.2.2.2.2.2.1
def q19i2:List PE := [e2,e22,e23,⟨62,64,.val ty_8 false,false⟩,⟨63,80,.val ty_0 false,false⟩,⟨64,96,.val ty_0 false,false⟩,e1]
def q19o2:List PE := [⟨6,16,.eat ty_7,false⟩,e1]
noncomputable def q19f2(k:Nat)(n:Nat)(x13:PTe q19i2):=spec_l1Cur_planeSystem_L1018 k KSl.xs n x13.1 x13.2.1 x13.2.2.1 x13.2.2.2.1 x13.2.2.2.2.1 x13.2.2.2.2.2.1 x13.2.2.2.2.2.2.1
def q19p:List PE := [e1]
noncomputable def q19F(k:Nat):F6:=⟨q19C k,rr q19p [(ty_8,false)] Tryz.f42,fun p=>bif Nat.beq p 4171386 then some (.loop q19i1 q19o1 2 176 (q19f1 k k))else bif Nat.beq p 260710 then some (.cut [e2,e22,e23,⟨8,64,.val ty_7 false,false⟩,e24,e25,e26,e1] 128)else bif Nat.beq p 1018 then some (.loop q19i2 q19o2 0 112 (q19f2 k k))else none,0,[0]⟩
theorem q19K(k:Nat):Contract Tryz.prog 42 (q19V k):=ctr (q19C k) (rs := [(ty_8,false)]) (ps:=q19p) (q19F k) Tryz.f42 16 ⟨tyOf_ok tys_ok,gOf_ok ⟨q3K,q18K k,q4K,q2K,q14K k,q9K k,trivial⟩⟩ (annl [1018,4171386] ⟨lok q19i2 q19o2 0 112 (q19f2 k) k,lok q19i1 q19o1 2 176 (q19f1 k) k,trivial⟩)

noncomputable def q20V:Variant:=⟨[.val ty_0 false],[(ty_0,false)],fun x=>spec_dyPower x.1⟩
noncomputable def q20C:Cfg:=⟨Tryz.prog,tyOf tys,6,gOf [],false,[],[]⟩
def q20p:List PE := [e9]
noncomputable def q20F:F2:=⟨q20C,rr q20p [(ty_0,false)] Tryz.f57,fun p=>none,0,[]⟩
theorem q20K:Contract Tryz.prog 57 (q20V):=ctr q20C (rs := [(ty_0,false)]) (ps:=q20p) q20F Tryz.f57 16 ⟨tyOf_ok tys_ok,gOf_ok trivial⟩ (annl [] trivial)

noncomputable def q21V:Variant:=⟨[.val ty_0 false,.val ty_0 false],[(ty_0,false)],fun x=>spec_l1Least x.1 x.2.1⟩
noncomputable def q21C:Cfg:=⟨Tryz.prog,tyOf tys,10,gOf [],false,[],[]⟩
def q21p:List PE := [e9,e3]
noncomputable def q21F:F2:=⟨q21C,rr q21p [(ty_0,false)] Tryz.f149,fun p=>none,0,[]⟩
theorem q21K:Contract Tryz.prog 149 (q21V):=ctr q21C (rs := [(ty_0,false)]) (ps:=q21p) q21F Tryz.f149 32 ⟨tyOf_ok tys_ok,gOf_ok trivial⟩ (annl [] trivial)

noncomputable def q22V:Variant:=⟨[.val ty_0 false,.val ty_0 false],[(ty_0,false)],fun x=>spec_l1Most x.1 x.2.1⟩
noncomputable def q22C:Cfg:=⟨Tryz.prog,tyOf tys,10,gOf [],false,[],[]⟩
def q22p:List PE := [e9,e3]
noncomputable def q22F:F2:=⟨q22C,rr q22p [(ty_0,false)] Tryz.f148,fun p=>none,0,[]⟩
theorem q22K:Contract Tryz.prog 148 (q22V):=ctr q22C (rs := [(ty_0,false)]) (ps:=q22p) q22F Tryz.f148 32 ⟨tyOf_ok tys_ok,gOf_ok trivial⟩ (annl [] trivial)

noncomputable def q23V:Variant:=⟨[.val ty_9 false],[(ty_9,false)],fun x=>spec_l1Own x.1⟩
noncomputable def q23C:Cfg:=⟨Tryz.prog,tyOf tys,6,gOf [],false,[],[]⟩
def q23p:List PE := [e27]
noncomputable def q23F:Fn (List Int):=⟨q23C,rr q23p [(ty_9,false)] Tryz.f150,fun p=>none,0,[]⟩
theorem q23K:Contract Tryz.prog 150 (q23V):=ctr q23C (rs := [(ty_9,false)]) (ps:=q23p) q23F Tryz.f150 16 ⟨tyOf_ok tys_ok,gOf_ok trivial⟩ (annl [] trivial)

noncomputable def q24V(k:Nat):Variant:=⟨[.val ty_11 true],[(.bool,false)],fun x=>spec_bxEven k x.1⟩
noncomputable def q24C(k:Nat):Cfg:=⟨Tryz.prog,tyOf tys,26,gOf [],false,[],[]⟩
def q24i1:List PE := [⟨1,16,.box ty_11 false,false⟩,e28,e29,e30]
def q24o1:List PE := []
noncomputable def q24f1(k:Nat)(n:Nat)(x1:PTe q24i1):=spec_bxEven_L26 k n x1.1 x1.2.1 x1.2.2.1 x1.2.2.2.1
def q24p:List PE := [e31]
noncomputable def q24F(k:Nat):F3:=⟨q24C k,rr q24p [(.bool,false)] Tryz.f151,fun p=>bif Nat.beq p 26 then some (.loop q24i1 q24o1 0 80 (q24f1 k k))else none,0,[]⟩
theorem q24K(k:Nat):Contract Tryz.prog 151 (q24V k):=ctr (q24C k) (rs := [(.bool,false)]) (ps:=q24p) (q24F k) Tryz.f151 16 ⟨tyOf_ok tys_ok,gOf_ok trivial⟩ (annl [26] ⟨lok q24i1 q24o1 0 80 (q24f1 k) k,trivial⟩)

noncomputable def q25V(k:Nat):Variant:=⟨[.val ty_11 true],[(.bool,false)],fun x=>spec_bxGood k x.1⟩
noncomputable def q25C(k:Nat):Cfg:=⟨Tryz.prog,tyOf tys,80,gOf [(126,[],q10V),(57,[],q20V)],false,[],[]⟩
def q25i1:List PE := [⟨1,16,.box ty_11 false,false⟩,⟨3,32,.val ty_0 false,false⟩,⟨4,48,.val .bool false,false⟩,⟨36,64,.val ty_9 false,false⟩,⟨37,80,.val ty_0 false,false⟩,⟨38,96,.val ty_0 false,false⟩]
def q25o1:List PE := [⟨4,16,.val .bool false,false⟩]
noncomputable def q25f1(k:Nat)(n:Nat)(x6:PTe q25i1):=spec_bxGood_L250 k n x6.1 x6.2.1 x6.2.2.1 x6.2.2.2.1 x6.2.2.2.2.1 x6.2.2.2.2.2.1
def q25p:List PE := [e31]
noncomputable def q25F(k:Nat):F3:=⟨q25C k,rr q25p [(.bool,false)] Tryz.f96,fun p=>bif Nat.beq p 250 then some (.loop q25i1 q25o1 0 112 (q25f1 k k))else none,0,[]⟩
theorem q25K(k:Nat):Contract Tryz.prog 96 (q25V k):=ctr (q25C k) (rs := [(.bool,false)]) (ps:=q25p) (q25F k) Tryz.f96 16 ⟨tyOf_ok tys_ok,gOf_ok ⟨q10K,q20K,trivial⟩⟩ (annl [250] ⟨lok q25i1 q25o1 0 112 (q25f1 k) k,trivial⟩)

noncomputable def q26V(k:Nat):Variant:=⟨[.val ty_0 false,.val ty_9 false,.val ty_9 false],[(ty_11,true),(.bool,false)],fun x=>spec_bxMake k x.1 x.2.1 x.2.2.1⟩
noncomputable def q26C(k:Nat):Cfg:=⟨Tryz.prog,tyOf tys,53,gOf [(150,[],q23V),(151,[],q24V k),(96,[],q25V k)],false,[],[]⟩
def q26i1:List PE := [e32,e33,⟨29,80,.val ty_0 false,false⟩,⟨30,96,.val ty_0 false,false⟩]
def q26o1:List PE := [e32,e33]
noncomputable def q26f1(k:Nat)(n:Nat)(x4:PTe q26i1):=spec_bxMake_L1814 k n x4.1 x4.2.1 x4.2.2.1 x4.2.2.2.1
def q26i2:List PE := [e32,e33]
def q26o2:List PE := [e32,e33]
noncomputable def q26f2(k:Nat)(n:Nat)(x7:PTe q26i2):=spec_bxMake_L28 k n x7.1 x7.2.1
def q26p:List PE := [e9,e4,e34]
noncomputable def q26F(k:Nat):Fn ((Int×(List Int)×List Int)×Bool):=⟨q26C k,rr q26p [(ty_11,true),(.bool,false)] Tryz.f104,fun p=>bif Nat.beq p 1814 then some (.loop q26i1 q26o1 2 112 (q26f1 k k))else bif Nat.beq p 28 then some (.loop q26i2 q26o2 0 80 (q26f2 k k))else none,0,[]⟩
theorem q26K(k:Nat):Contract Tryz.prog 104 (q26V k):=ctr (q26C k) (rs := [(ty_11,true),(.bool,false)]) (ps:=q26p) (q26F k) Tryz.f104 48 ⟨tyOf_ok tys_ok,gOf_ok ⟨q23K,q24K k,q25K k,trivial⟩⟩ (annl [28,1814] ⟨lok q26i2 q26o2 0 80 (q26f2 k) k,lok q26i1 q26o1 2 112 (q26f1 k) k,trivial⟩)

noncomputable def q27V(k:Nat):Variant:=⟨[.ptr ty_3 true,.val ty_0 false],[(ty_11,true)],fun x=>spec_l1Cur_box k KSl.xs x.1 x.2.1⟩
noncomputable def q27C(k:Nat):Cfg:=⟨Tryz.prog,tyOf tys,98,gOf [(100,[],q4V),(57,[],q20V),(93,[],q2V),(149,[],q21V),(148,[],q22V),(104,[],q26V k)],false,[],[]⟩
def q27i1:List PE := [e1,e7,e35,e13,e8,⟨7,96,.eat ty_0,false⟩,⟨8,112,.eat ty_0,false⟩]
def q27o1:List PE := [e7,e35,e13,⟨7,80,.eat ty_0,false⟩,⟨8,96,.eat ty_0,false⟩,e1]
noncomputable def q27f1(k:Nat)(n:Nat)(x16:PTe q27i1):=spec_l1Cur_box_L124 k KSl.xs n x16.1 x16.2.1 x16.2.2.1 x16.2.2.2.1 x16.2.2.2.2.1 x16.2.2.2.2.2.1 x16.2.2.2.2.2.2.1
def q27i2:List PE := [e7,e35,⟨13,64,.eat ty_0,false⟩,⟨14,80,.eat ty_0,false⟩,e1]
def q27o2:List PE := [⟨4,32,.box ty_11 true,false⟩,⟨13,48,.eat ty_0,false⟩,⟨14,64,.eat ty_0,false⟩,e1]
noncomputable def q27f2(k:Nat)(n:Nat)(x20:PTe q27i2):=spec_l1Cur_box_L8148 k KSl.xs n x20.1 x20.2.1 x20.2.2.1 x20.2.2.2.1 x20.2.2.2.2.1
def q27p:List PE := [e1,e3]
noncomputable def q27F(k:Nat):F7:=⟨q27C k,rr q27p [(ty_11,true)] Tryz.f147,fun p=>bif Nat.beq p 124 then some (.loop q27i1 q27o1 0 128 (q27f1 k k))else bif Nat.beq p 8148 then some (.loop q27i2 q27o2 2 96 (q27f2 k k))else none,0,[0]⟩
theorem q27K(k:Nat):Contract Tryz.prog 147 (q27V k):=ctr (q27C k) (rs := [(ty_11,true)]) (ps:=q27p) (q27F k) Tryz.f147 32 ⟨tyOf_ok tys_ok,gOf_ok ⟨q4K,q20K,q2K,q21K,q22K,q26K k,trivial⟩⟩ (annl [124,8148] ⟨lok q27i1 q27o1 0 128 (q27f1 k) k,lok q27i2 q27o2 2 96 (q27f2 k) k,trivial⟩)

noncomputable def q28V(k:Nat):Variant:=⟨[.ptr ty_3 true,.val ty_0 false],[(ty_11,true)],fun x=>spec_l1Cur_anyBox k KSl.xs x.1 x.2.1⟩
noncomputable def q28C(k:Nat):Cfg:=⟨Tryz.prog,tyOf tys,65,gOf [(147,[],q27V k),(93,[],q2V),(100,[],q4V),(149,[],q21V),(148,[],q22V),(57,[],q20V)],true,[],[]⟩
def q28p:List PE := [e1,e3]
noncomputable def q28F(k:Nat):F7:=⟨q28C k,rr q28p [(ty_11,true)] Tryz.f103,fun p=>none,0,[0]⟩
theorem q28K(k:Nat):Contract Tryz.prog 103 (q28V k):=ctr (q28C k) (rs := [(ty_11,true)]) (ps:=q28p) (q28F k) Tryz.f103 32 ⟨tyOf_ok tys_ok,gOf_ok ⟨q27K k,q2K,q4K,q21K,q22K,q20K,trivial⟩⟩ (annl [] trivial)

noncomputable def q29V(k:Nat):Variant:=⟨[.ptr ty_3 true],[(ty_11,true)],fun x=>spec_l1Cur_planeBox k KSl.xs x.1⟩
noncomputable def q29C(k:Nat):Cfg:=⟨Tryz.prog,tyOf tys,56,gOf [(85,[],q3V),(100,[],q4V),(103,[],q28V k),(93,[],q2V),(57,[],q20V),(104,[],q26V k)],false,[],[]⟩
def q29p:List PE := [e1]
noncomputable def q29F(k:Nat):F7:=⟨q29C k,rr q29p [(ty_11,true)] Tryz.f43,fun p=>none,0,[0]⟩
theorem q29K(k:Nat):Contract Tryz.prog 43 (q29V k):=ctr (q29C k) (rs := [(ty_11,true)]) (ps:=q29p) (q29F k) Tryz.f43 16 ⟨tyOf_ok tys_ok,gOf_ok ⟨q3K,q4K,q28K k,q2K,q20K,q26K k,trivial⟩⟩ (annl [] trivial)

noncomputable def q30V:Variant:=⟨[.ptr ty_3 true],[(ty_0,false)],fun x=>spec_l1Cur_edgeDepth KSl.xs x.1⟩
noncomputable def q30C:Cfg:=⟨Tryz.prog,tyOf tys,9,gOf [(100,[],q4V)],false,[],[]⟩
def q30p:List PE := [e1]
noncomputable def q30F:F1:=⟨q30C,rr q30p [(ty_0,false)] Tryz.f44,fun p=>none,0,[0]⟩
theorem q30K:Contract Tryz.prog 44 (q30V):=ctr q30C (rs := [(ty_0,false)]) (ps:=q30p) q30F Tryz.f44 16 ⟨tyOf_ok tys_ok,gOf_ok ⟨q4K,trivial⟩⟩ (annl [] trivial)

noncomputable def q31V(k:Nat):Variant:=⟨[.val (.sl (.int .u8)) false],[(ty_8,false),(ty_11,true),(ty_0,false)],fun x=>spec_DrawBoundaryReasons k x.1⟩
noncomputable def spec_DrawBoundaryReasons_V0(k:Nat):Variant:=⟨[.val .ks false],[(ty_8,false),(ty_11,true),(ty_0,false)],fun _=>spec_DrawBoundaryReasons k KSl.xs⟩
noncomputable def q31C(k:Nat):Cfg:=⟨Tryz.prog,tyOf tys,15,gOf [(42,[],q19V k),(43,[],q29V k),(44,[],q30V)],false,[],[]⟩
def q31p:List PE := [⟨0,0,.val .ks false,false⟩]
noncomputable def q31F(k:Nat):Fn ((List (List (Int×Int×Int×Int)))×(Int×(List Int)×List Int)×Int):=⟨q31C k,rr q31p [(ty_8,false),(ty_11,true),(ty_0,false)] Tryz.f5,fun p=>none,0,[]⟩
theorem spec_DrawBoundaryReasons_K0(k:Nat):Contract Tryz.prog 5 (spec_DrawBoundaryReasons_V0 k):=ctr (q31C k) (rs := [(ty_8,false),(ty_11,true),(ty_0,false)]) (ps:=q31p) (q31F k) Tryz.f5 16 ⟨tyOf_ok tys_ok,gOf_ok ⟨q19K k,q29K k,q30K,trivial⟩⟩ (annl [] trivial)
theorem q31K(k:Nat):Contract Tryz.prog 5 (q31V k):=contractDraw (by kernel_rfl) (fun kk => @spec_DrawBoundaryReasons_K0 kk k)

noncomputable def q32V:Variant:=⟨[.val ty_0 false,.val ty_0 false,.val ty_0 false],[(.bool,false)],fun x=>impl_inside x.1 x.2.1 x.2.2.1⟩
noncomputable def q32C:Cfg:=⟨Tryz.prog,tyOf tys,15,gOf [],false,[],[]⟩
def q32p:List PE := [e9,e3,e6]
noncomputable def q32F:F3:=⟨q32C,rr q32p [(.bool,false)] Tryz.f46,fun p=>none,0,[]⟩
theorem q32K:Contract Tryz.prog 46 (q32V):=ctr q32C (rs := [(.bool,false)]) (ps:=q32p) q32F Tryz.f46 48 ⟨tyOf_ok tys_ok,gOf_ok trivial⟩ (annl [] trivial)

noncomputable def q33V:Variant:=⟨[.val ty_6 true],[(ty_0,false)],fun x=>impl_Term_degree x.1⟩
noncomputable def q33C:Cfg:=⟨Tryz.prog,tyOf tys,11,gOf [],false,[],[]⟩
def q33p:List PE := [e5]
noncomputable def q33F:F2:=⟨q33C,rr q33p [(ty_0,false)] Tryz.f115,fun p=>none,0,[]⟩
theorem q33K:Contract Tryz.prog 115 (q33V):=ctr q33C (rs := [(ty_0,false)]) (ps:=q33p) q33F Tryz.f115 16 ⟨tyOf_ok tys_ok,gOf_ok trivial⟩ (annl [] trivial)

noncomputable def q34V:Variant:=⟨[.val ty_6 true],[(.bool,false)],fun x=>impl_hasDegree x.1⟩
noncomputable def q34C:Cfg:=⟨Tryz.prog,tyOf tys,21,gOf [(46,[],q32V),(115,[],q33V)],false,[],[]⟩
def q34p:List PE := [e5]
noncomputable def q34F:F3:=⟨q34C,rr q34p [(.bool,false)] Tryz.f193,fun p=>none,0,[]⟩
theorem q34K:Contract Tryz.prog 193 (q34V):=ctr q34C (rs := [(.bool,false)]) (ps:=q34p) q34F Tryz.f193 16 ⟨tyOf_ok tys_ok,gOf_ok ⟨q32K,q33K,trivial⟩⟩ (annl [] trivial)

noncomputable def q35V:Variant:=⟨[.val ty_0 false],[(.bool,false)],fun x=>cmp_isNaN_int x.1⟩
noncomputable def q35C:Cfg:=⟨Tryz.prog,tyOf tys,6,gOf [],false,[],[]⟩
def q35p:List PE := [e9]
noncomputable def q35F:F3:=⟨q35C,rr q35p [(.bool,false)] Tryz.f231,fun p=>none,0,[]⟩
theorem q35K:Contract Tryz.prog 231 (q35V):=ctr q35C (rs := [(.bool,false)]) (ps:=q35p) q35F Tryz.f231 16 ⟨tyOf_ok tys_ok,gOf_ok trivial⟩ (annl [] trivial)

noncomputable def q36V:Variant:=⟨[.val ty_0 false,.val ty_0 false],[(ty_0,false)],fun x=>cmp_Compare_int x.1 x.2.1⟩
noncomputable def q36C:Cfg:=⟨Tryz.prog,tyOf tys,20,gOf [(231,[],q35V)],false,[],[]⟩
def q36p:List PE := [e9,e3]
noncomputable def q36F:F2:=⟨q36C,rr q36p [(ty_0,false)] Tryz.f212,fun p=>none,0,[]⟩
theorem q36K:Contract Tryz.prog 212 (q36V):=ctr q36C (rs := [(ty_0,false)]) (ps:=q36p) q36F Tryz.f212 32 ⟨tyOf_ok tys_ok,gOf_ok ⟨q35K,trivial⟩⟩ (annl [] trivial)

noncomputable def q37V(k:Nat):Variant:=⟨[.val ty_9 false],[(ty_0,false)],fun x=>cmp_Or_int k x.1⟩
noncomputable def q37C(k:Nat):Cfg:=⟨Tryz.prog,tyOf tys,18,gOf [],false,[],[]⟩
def q37i1:List PE := [e2,e28,e29,e30]
def q37o1:List PE := [e2]
noncomputable def q37f1(k:Nat)(n:Nat)(x1:PTe q37i1):=cmp_Or_int_L58 k n x1.1 x1.2.1 x1.2.2.1 x1.2.2.2.1
def q37p:List PE := [e27]
noncomputable def q37F(k:Nat):F2:=⟨q37C k,rr q37p [(ty_0,false)] Tryz.f211,fun p=>bif Nat.beq p 58 then some (.loop q37i1 q37o1 0 80 (q37f1 k k))else none,0,[]⟩
theorem q37K(k:Nat):Contract Tryz.prog 211 (q37V k):=ctr (q37C k) (rs := [(ty_0,false)]) (ps:=q37p) (q37F k) Tryz.f211 16 ⟨tyOf_ok tys_ok,gOf_ok trivial⟩ (annl [58] ⟨lok q37i1 q37o1 0 80 (q37f1 k) k,trivial⟩)

noncomputable def q38V(k:Nat):Variant:=⟨[.val ty_6 true,.val ty_6 true],[(ty_0,false)],fun x=>impl_compareTerms k x.1 x.2.1⟩
noncomputable def q38C(k:Nat):Cfg:=⟨Tryz.prog,tyOf tys,22,gOf [(212,[],q36V),(211,[],q37V k)],false,[],[]⟩
def q38p:List PE := [e5,e10]
noncomputable def q38F(k:Nat):F2:=⟨q38C k,rr q38p [(ty_0,false)] Tryz.f194,fun p=>none,0,[]⟩
theorem q38K(k:Nat):Contract Tryz.prog 194 (q38V k):=ctr (q38C k) (rs := [(ty_0,false)]) (ps:=q38p) (q38F k) Tryz.f194 32 ⟨tyOf_ok tys_ok,gOf_ok ⟨q36K,q37K k,trivial⟩⟩ (annl [] trivial)

noncomputable def q39V(k:Nat):Variant:=⟨[.val ty_7 false],[(.bool,false)],fun x=>impl_isPoly k x.1⟩
noncomputable def q39C(k:Nat):Cfg:=⟨Tryz.prog,tyOf tys,44,gOf [(46,[],q32V),(193,[],q34V),(194,[],q38V k)],false,[],[]⟩
def q39i1:List PE := [e15,⟨5,32,.val ty_7 false,false⟩,e16,e17]
def q39o1:List PE := [e15]
noncomputable def q39f1(k:Nat)(n:Nat)(x4:PTe q39i1):=impl_isPoly_L26 k n x4.1 x4.2.1 x4.2.2.1 x4.2.2.2.1
def q39p:List PE := [e14]
noncomputable def q39F(k:Nat):F3:=⟨q39C k,rr q39p [(.bool,false)] Tryz.f170,fun p=>bif Nat.beq p 26 then some (.loop q39i1 q39o1 0 80 (q39f1 k k))else none,0,[]⟩
theorem q39K(k:Nat):Contract Tryz.prog 170 (q39V k):=ctr (q39C k) (rs := [(.bool,false)]) (ps:=q39p) (q39F k) Tryz.f170 16 ⟨tyOf_ok tys_ok,gOf_ok ⟨q32K,q34K,q38K k,trivial⟩⟩ (annl [26] ⟨lok q39i1 q39o1 0 80 (q39f1 k) k,trivial⟩)

noncomputable def q40V:Variant:=⟨[.val ty_6 true],[(ty_5,true)],fun x=>impl_Term_exponents x.1⟩
noncomputable def q40C:Cfg:=⟨Tryz.prog,tyOf tys,10,gOf [],false,[],[]⟩
def q40p:List PE := [e5]
noncomputable def q40F:Fn (Int×Int×Int):=⟨q40C,rr q40p [(ty_5,true)] Tryz.f116,fun p=>none,0,[]⟩
theorem q40K:Contract Tryz.prog 116 (q40V):=ctr q40C (rs := [(ty_5,true)]) (ps:=q40p) q40F Tryz.f116 16 ⟨tyOf_ok tys_ok,gOf_ok trivial⟩ (annl [] trivial)

noncomputable def q41V(k:Nat):Variant:=⟨[.val ty_7 false,.val ty_0 false],[(.bool,false)],fun x=>impl_needsAtMost k x.1 x.2.1⟩
noncomputable def q41C(k:Nat):Cfg:=⟨Tryz.prog,tyOf tys,30,gOf [(116,[],q40V)],false,[],[]⟩
def q41i1:List PE := [e7,e36,e37,e38,⟨16,96,.val ty_5 true,false⟩,⟨17,112,.val ty_0 false,false⟩]
def q41o1:List PE := [e7,e36,e37,e38]
noncomputable def q41f1(k:Nat)(n:Nat)(x2:PTe q41i1):=impl_needsAtMost_L6758 k n x2.1 x2.2.1 x2.2.2.1 x2.2.2.2.1 x2.2.2.2.2.1 x2.2.2.2.2.2.1
def q41i2:List PE := [e7,e36,e37,e38]
def q41o2:List PE := []
noncomputable def q41f2(k:Nat)(n:Nat)(x5:PTe q41i2):=impl_needsAtMost_L26 k n x5.1 x5.2.1 x5.2.2.1 x5.2.2.2.1
def q41p:List PE := [e14,e3]
noncomputable def q41F(k:Nat):F3:=⟨q41C k,rr q41p [(.bool,false)] Tryz.f171,fun p=>bif Nat.beq p 6758 then some (.loop q41i1 q41o1 2 128 (q41f1 k k))else bif Nat.beq p 26 then some (.loop q41i2 q41o2 0 96 (q41f2 k k))else none,0,[]⟩
theorem q41K(k:Nat):Contract Tryz.prog 171 (q41V k):=ctr (q41C k) (rs := [(.bool,false)]) (ps:=q41p) (q41F k) Tryz.f171 32 ⟨tyOf_ok tys_ok,gOf_ok ⟨q40K,trivial⟩⟩ (annl [26,6758] ⟨lok q41i2 q41o2 0 96 (q41f2 k) k,lok q41i1 q41o1 2 128 (q41f1 k) k,trivial⟩)

noncomputable def q42V(k:Nat):Variant:=⟨[.val ty_8 false],[(.bool,false)],fun x=>impl_isSystem k x.1⟩
noncomputable def q42C(k:Nat):Cfg:=⟨Tryz.prog,tyOf tys,25,gOf [(170,[],q39V k),(171,[],q41V k),(46,[],q32V)],false,[],[]⟩
def q42i1:List PE := [e39,⟨5,32,.val ty_8 false,false⟩,e16,e17]
def q42o1:List PE := [e39]
noncomputable def q42f1(k:Nat)(n:Nat)(x3:PTe q42i1):=impl_isSystem_L26 k n x3.1 x3.2.1 x3.2.2.1 x3.2.2.2.1
def q42p:List PE := [e40]
noncomputable def q42F(k:Nat):F3:=⟨q42C k,rr q42p [(.bool,false)] Tryz.f131,fun p=>bif Nat.beq p 26 then some (.loop q42i1 q42o1 0 80 (q42f1 k k))else none,0,[]⟩
theorem q42K(k:Nat):Contract Tryz.prog 131 (q42V k):=ctr (q42C k) (rs := [(.bool,false)]) (ps:=q42p) (q42F k) Tryz.f131 16 ⟨tyOf_ok tys_ok,gOf_ok ⟨q39K k,q41K k,q32K,trivial⟩⟩ (annl [26] ⟨lok q42i1 q42o1 0 80 (q42f1 k) k,trivial⟩)

noncomputable def q43V(k:Nat):Variant:=⟨[.val ty_8 false],[(.bool,false)],fun x=>impl_isTwo k x.1⟩
noncomputable def q43C(k:Nat):Cfg:=⟨Tryz.prog,tyOf tys,10,gOf [(131,[],q42V k)],false,[],[]⟩
def q43p:List PE := [e40]
noncomputable def q43F(k:Nat):F3:=⟨q43C k,rr q43p [(.bool,false)] Tryz.f105,fun p=>none,0,[]⟩
theorem q43K(k:Nat):Contract Tryz.prog 105 (q43V k):=ctr (q43C k) (rs := [(.bool,false)]) (ps:=q43p) (q43F k) Tryz.f105 16 ⟨tyOf_ok tys_ok,gOf_ok ⟨q42K k,trivial⟩⟩ (annl [] trivial)

noncomputable def q44V(k:Nat):Variant:=⟨[.ptr ty_11 false],[(.bool,false)],fun x=>impl_isBox k x.1⟩
noncomputable def q44C(k:Nat):Cfg:=⟨Tryz.prog,tyOf tys,94,gOf [(46,[],q32V)],false,[],[]⟩
def q44i1:List PE := [⟨0,16,.ptr ty_11 false,false⟩,⟨3,32,.val ty_0 false,false⟩,⟨4,48,.val .bool false,false⟩,⟨48,64,.val ty_9 false,false⟩,⟨49,80,.val ty_0 false,false⟩,⟨50,96,.val ty_0 false,false⟩]
def q44o1:List PE := [⟨4,16,.val .bool false,false⟩]
noncomputable def q44f1(k:Nat)(n:Nat)(x5:PTe q44i1):=impl_isBox_L122 k n x5.1 x5.2.1 x5.2.2.1 x5.2.2.2.1 x5.2.2.2.2.1 x5.2.2.2.2.2.1
def q44p:List PE := [e41]
noncomputable def q44F(k:Nat):F3:=⟨q44C k,rr q44p [(.bool,false)] Tryz.f128,fun p=>bif Nat.beq p 122 then some (.loop q44i1 q44o1 0 112 (q44f1 k k))else none,0,[]⟩
theorem q44K(k:Nat):Contract Tryz.prog 128 (q44V k):=ctr (q44C k) (rs := [(.bool,false)]) (ps:=q44p) (q44F k) Tryz.f128 16 ⟨tyOf_ok tys_ok,gOf_ok ⟨q32K,trivial⟩⟩ (annl [122] ⟨lok q44i1 q44o1 0 112 (q44f1 k) k,trivial⟩)

noncomputable def q45V(k:Nat):Variant:=⟨[.ptr ty_11 false],[(.bool,false)],fun x=>impl_isPlaneBox k x.1⟩
noncomputable def q45C(k:Nat):Cfg:=⟨Tryz.prog,tyOf tys,20,gOf [(128,[],q44V k)],false,[],[]⟩
def q45p:List PE := [e41]
noncomputable def q45F(k:Nat):F3:=⟨q45C k,rr q45p [(.bool,false)] Tryz.f106,fun p=>none,0,[]⟩
theorem q45K(k:Nat):Contract Tryz.prog 106 (q45V k):=ctr (q45C k) (rs := [(.bool,false)]) (ps:=q45p) (q45F k) Tryz.f106 16 ⟨tyOf_ok tys_ok,gOf_ok ⟨q44K k,trivial⟩⟩ (annl [] trivial)

noncomputable def q46V(k:Nat):Variant:=⟨[.val ty_8 false,.ptr ty_11 false],[(.bool,false)],fun x=>impl_isPlane k x.1 x.2.1⟩
noncomputable def q46C(k:Nat):Cfg:=⟨Tryz.prog,tyOf tys,11,gOf [(105,[],q43V k),(106,[],q45V k)],false,[],[]⟩
def q46p:List PE := [e40,e42]
noncomputable def q46F(k:Nat):F3:=⟨q46C k,rr q46p [(.bool,false)] Tryz.f45,fun p=>none,0,[]⟩
theorem q46K(k:Nat):Contract Tryz.prog 45 (q46V k):=ctr (q46C k) (rs := [(.bool,false)]) (ps:=q46p) (q46F k) Tryz.f45 32 ⟨tyOf_ok tys_ok,gOf_ok ⟨q43K k,q45K k,trivial⟩⟩ (annl [] trivial)

noncomputable def q47V:Variant:=⟨[.ptr ty_11 false,.val ty_0 false],[(ty_0,false)],fun x=>impl_Box_length x.1 x.2.1⟩
noncomputable def q47C:Cfg:=⟨Tryz.prog,tyOf tys,20,gOf [],false,[],[]⟩
def q47p:List PE := [e41,e3]
noncomputable def q47F:F2:=⟨q47C,rr q47p [(ty_0,false)] Tryz.f110,fun p=>none,0,[]⟩
theorem q47K:Contract Tryz.prog 110 (q47V):=ctr q47C (rs := [(ty_0,false)]) (ps:=q47p) q47F Tryz.f110 32 ⟨tyOf_ok tys_ok,gOf_ok trivial⟩ (annl [] trivial)

noncomputable def q48V:Variant:=⟨[.val ty_0 false],[(ty_1,false)],fun x=>impl_size x.1⟩
noncomputable def q48C:Cfg:=⟨Tryz.prog,tyOf tys,10,gOf [],false,[],[]⟩
def q48p:List PE := [e9]
noncomputable def q48F:F2:=⟨q48C,rr q48p [(ty_1,false)] Tryz.f152,fun p=>none,0,[]⟩
theorem q48K:Contract Tryz.prog 152 (q48V):=ctr q48C (rs := [(ty_1,false)]) (ps:=q48p) q48F Tryz.f152 16 ⟨tyOf_ok tys_ok,gOf_ok trivial⟩ (annl [] trivial)

noncomputable def q49V:Variant:=⟨[.val ty_0 false],[(ty_13,true)],fun x=>impl_wideOf x.1⟩
noncomputable def q49C:Cfg:=⟨Tryz.prog,tyOf tys,8,gOf [(152,[],q48V)],false,[],[]⟩
def q49p:List PE := [e9]
noncomputable def q49F:F8:=⟨q49C,rr q49p [(ty_13,true)] Tryz.f109,fun p=>none,0,[]⟩
theorem q49K:Contract Tryz.prog 109 (q49V):=ctr q49C (rs := [(ty_13,true)]) (ps:=q49p) q49F Tryz.f109 16 ⟨tyOf_ok tys_ok,gOf_ok ⟨q48K,trivial⟩⟩ (annl [] trivial)

noncomputable def q50V:Variant:=⟨[.val ty_13 true],[(.bool,false)],fun x=>impl_wide_isZero x.1⟩
noncomputable def q50C:Cfg:=⟨Tryz.prog,tyOf tys,11,gOf [],false,[],[]⟩
def q50p:List PE := [e43]
noncomputable def q50F:F3:=⟨q50C,rr q50p [(.bool,false)] Tryz.f153,fun p=>none,0,[]⟩
theorem q50K:Contract Tryz.prog 153 (q50V):=ctr q50C (rs := [(.bool,false)]) (ps:=q50p) q50F Tryz.f153 16 ⟨tyOf_ok tys_ok,gOf_ok trivial⟩ (annl [] trivial)

noncomputable def q51V:Variant:=⟨[.val ty_13 true,.val ty_0 false],[(ty_13,true)],fun x=>impl_wide_shift x.1 x.2.1⟩
noncomputable def q51C:Cfg:=⟨Tryz.prog,tyOf tys,63,gOf [],false,[],[]⟩
def q51p:List PE := [e43,e3]
noncomputable def q51F:F8:=⟨q51C,rr q51p [(ty_13,true)] Tryz.f154,fun p=>none,0,[]⟩
theorem q51K:Contract Tryz.prog 154 (q51V):=ctr q51C (rs := [(ty_13,true)]) (ps:=q51p) q51F Tryz.f154 32 ⟨tyOf_ok tys_ok,gOf_ok trivial⟩ (annl [] trivial)

noncomputable def q52V(k:Nat):Variant:=⟨[.val ty_13 true,.val ty_0 false],[(ty_4,true),(.bool,false)],fun x=>impl_wide_fit k x.1 x.2.1⟩
noncomputable def q52C(k:Nat):Cfg:=⟨Tryz.prog,tyOf tys,45,gOf [(153,[],q50V),(154,[],q51V)],false,[],[]⟩
def q52i1:List PE := [e7,⟨2,48,.box ty_13 false,false⟩,e44]
def q52o1:List PE := [e7,⟨2,48,.box ty_13 false,false⟩,e44]
noncomputable def q52f1(k:Nat)(n:Nat)(x3:PTe q52i1):=impl_wide_fit_L28 k n x3.1 x3.2.1 x3.2.2.1
def q52p:List PE := [e43,e3]
noncomputable def q52F(k:Nat):F9:=⟨q52C k,rr q52p [(ty_4,true),(.bool,false)] Tryz.f111,fun p=>bif Nat.beq p 28 then some (.loop q52i1 q52o1 0 80 (q52f1 k k))else none,0,[]⟩
theorem q52K(k:Nat):Contract Tryz.prog 111 (q52V k):=ctr (q52C k) (rs := [(ty_4,true),(.bool,false)]) (ps:=q52p) (q52F k) Tryz.f111 32 ⟨tyOf_ok tys_ok,gOf_ok ⟨q50K,q51K,trivial⟩⟩ (annl [28] ⟨lok q52i1 q52o1 0 80 (q52f1 k) k,trivial⟩)

noncomputable def q53V(k:Nat):Variant:=⟨[.val ty_0 false,.val ty_0 false,.pp ty_11,.ptr ty_0 false,.ptr ty_0 false],[(ty_4,true)],fun x=>impl_boundaryEdges_1 k x.1 x.2.1 x.2.2.1 x.2.2.2.1 x.2.2.2.2.1⟩
noncomputable def q53C(k:Nat):Cfg:=⟨Tryz.prog,tyOf tys,37,gOf [(110,[],q47V),(109,[],q49V),(111,[],q52V k)],false,[],[]⟩
def q53p:List PE := [e9,e3,⟨2,32,.pp ty_11,false⟩,⟨3,48,.ptr ty_0 false,false⟩,⟨4,64,.ptr ty_0 false,false⟩]
noncomputable def q53F(k:Nat):F10:=⟨q53C k,rr q53p [(ty_4,true)] Tryz.f108,fun p=>none,0,[]⟩
theorem q53K(k:Nat):Contract Tryz.prog 108 (q53V k):=ctr (q53C k) (rs := [(ty_4,true)]) (ps:=q53p) (q53F k) Tryz.f108 80 ⟨tyOf_ok tys_ok,gOf_ok ⟨q47K,q49K,q52K k,trivial⟩⟩ (annl [] trivial)

noncomputable def q54V(k:Nat):Variant:=⟨[.ptr ty_11 false,.val ty_0 false],[(ty_19,false)],fun x=>impl_boundaryEdges k x.1 x.2.1⟩
noncomputable def q54C(k:Nat):Cfg:=⟨Tryz.prog,tyOf tys,71,gOf [(108,[],q53V k)],false,[],[]⟩
def q54i1:List PE := [e45,e46,e47,e21,e48,e49,e50,⟨36,144,.val ty_0 false,false⟩,⟨37,160,.val ty_0 false,false⟩]
def q54o1:List PE := [e45,e46,e47,⟨17,80,.val ty_0 false,false⟩]
noncomputable def q54f1(k:Nat)(n:Nat)(x9:PTe q54i1):=impl_boundaryEdges_L512830 k n x9.1 x9.2.1 x9.2.2.1 x9.2.2.2.1 x9.2.2.2.2.1 x9.2.2.2.2.2.1 x9.2.2.2.2.2.2.1 x9.2.2.2.2.2.2.2.1 x9.2.2.2.2.2.2.2.2.1
def q54i2:List PE := [e45,e46,e47,⟨17,80,.val ty_0 false,false⟩]
def q54o2:List PE := [⟨7,32,.eat ty_16,false⟩]
noncomputable def q54f2(k:Nat)(n:Nat)(x13:PTe q54i2):=impl_boundaryEdges_L250 k n x13.1 x13.2.1 x13.2.2.1 x13.2.2.2.1
def q54p:List PE := [e41,e3]
noncomputable def q54F(k:Nat):F11:=⟨q54C k,rr q54p [(ty_19,false)] Tryz.f53,fun p=>bif Nat.beq p 131284582 then some (.cut [e45,e46,e47,e21,e48,e49,⟨12,128,.val ty_0 false,false⟩,⟨13,144,.val ty_0 false,false⟩,⟨17,160,.val ty_0 false,false⟩,⟨36,176,.val ty_0 false,false⟩,⟨37,192,.val ty_0 false,false⟩] 208)else bif Nat.beq p 512830 then some (.loop q54i1 q54o1 2 176 (q54f1 k k))else bif Nat.beq p 128206 then some (.cut [e45,e46,e47,e21,e48,e49,e50] 144)else bif Nat.beq p 250 then some (.loop q54i2 q54o2 0 96 (q54f2 k k))else none,0,[]⟩
theorem q54K(k:Nat):Contract Tryz.prog 53 (q54V k):=ctr (q54C k) (rs := [(ty_19,false)]) (ps:=q54p) (q54F k) Tryz.f53 32 ⟨tyOf_ok tys_ok,gOf_ok ⟨q53K k,trivial⟩⟩ (annl [250,512830] ⟨lok q54i2 q54o2 0 96 (q54f2 k) k,lok q54i1 q54o1 2 176 (q54f1 k) k,trivial⟩)

noncomputable def q55V:Variant:=⟨[.val ty_4 true],[(ty_14,true)],fun x=>impl_single x.1⟩
noncomputable def q55C:Cfg:=⟨Tryz.prog,tyOf tys,6,gOf [],false,[],[]⟩
def q55p:List PE := [e51]
noncomputable def q55F:F12:=⟨q55C,rr q55p [(ty_14,true)] Tryz.f155,fun p=>none,0,[]⟩
theorem q55K:Contract Tryz.prog 155 (q55V):=ctr q55C (rs := [(ty_14,true)]) (ps:=q55p) q55F Tryz.f155 16 ⟨tyOf_ok tys_ok,gOf_ok trivial⟩ (annl [] trivial)

noncomputable def q56V:Variant:=⟨[.val ty_1 false],[(.bool,false)],fun x=>cmp_isNaN_uint64 x.1⟩
noncomputable def q56C:Cfg:=⟨Tryz.prog,tyOf tys,6,gOf [],false,[],[]⟩
def q56p:List PE := [e52]
noncomputable def q56F:F3:=⟨q56C,rr q56p [(.bool,false)] Tryz.f241,fun p=>none,0,[]⟩
theorem q56K:Contract Tryz.prog 241 (q56V):=ctr q56C (rs := [(.bool,false)]) (ps:=q56p) q56F Tryz.f241 16 ⟨tyOf_ok tys_ok,gOf_ok trivial⟩ (annl [] trivial)

noncomputable def q57V:Variant:=⟨[.val ty_1 false,.val ty_1 false],[(ty_0,false)],fun x=>cmp_Compare_uint64 x.1 x.2.1⟩
noncomputable def q57C:Cfg:=⟨Tryz.prog,tyOf tys,20,gOf [(241,[],q56V)],false,[],[]⟩
def q57p:List PE := [e52,⟨1,16,.val ty_1 false,false⟩]
noncomputable def q57F:F2:=⟨q57C,rr q57p [(ty_0,false)] Tryz.f235,fun p=>none,0,[]⟩
theorem q57K:Contract Tryz.prog 235 (q57V):=ctr q57C (rs := [(ty_0,false)]) (ps:=q57p) q57F Tryz.f235 32 ⟨tyOf_ok tys_ok,gOf_ok ⟨q56K,trivial⟩⟩ (annl [] trivial)

noncomputable def q58V(k:Nat):Variant:=⟨[.val ty_13 true,.val ty_13 true],[(ty_0,false)],fun x=>impl_compareSizes k x.1 x.2.1⟩
noncomputable def q58C(k:Nat):Cfg:=⟨Tryz.prog,tyOf tys,17,gOf [(235,[],q57V),(211,[],q37V k)],false,[],[]⟩
def q58p:List PE := [e43,e53]
noncomputable def q58F(k:Nat):F2:=⟨q58C k,rr q58p [(ty_0,false)] Tryz.f219,fun p=>none,0,[]⟩
theorem q58K(k:Nat):Contract Tryz.prog 219 (q58V k):=ctr (q58C k) (rs := [(ty_0,false)]) (ps:=q58p) (q58F k) Tryz.f219 32 ⟨tyOf_ok tys_ok,gOf_ok ⟨q57K,q37K k,trivial⟩⟩ (annl [] trivial)

noncomputable def q59V(k:Nat):Variant:=⟨[.val ty_13 true,.val ty_13 true],[(ty_0,false)],fun x=>impl_compareWide k x.1 x.2.1⟩
noncomputable def q59C(k:Nat):Cfg:=⟨Tryz.prog,tyOf tys,29,gOf [(153,[],q50V),(219,[],q58V k)],false,[],[]⟩
def q59p:List PE := [e43,e53]
noncomputable def q59F(k:Nat):F2:=⟨q59C k,rr q59p [(ty_0,false)] Tryz.f202,fun p=>bif Nat.beq p 6 then some (.cut [⟨2,32,.box ty_13 false,false⟩,⟨3,48,.box ty_13 false,false⟩] 64)else none,0,[]⟩
theorem q59K(k:Nat):Contract Tryz.prog 202 (q59V k):=ctr (q59C k) (rs := [(ty_0,false)]) (ps:=q59p) (q59F k) Tryz.f202 32 ⟨tyOf_ok tys_ok,gOf_ok ⟨q50K,q58K k,trivial⟩⟩ (annl [] trivial)

noncomputable def q60V(k:Nat):Variant:=⟨[.val ty_4 true,.val ty_4 true],[(ty_0,false)],fun x=>impl_compareD k x.1 x.2.1⟩
noncomputable def q60C(k:Nat):Cfg:=⟨Tryz.prog,tyOf tys,28,gOf [(109,[],q49V),(154,[],q51V),(202,[],q59V k)],false,[],[]⟩
def q60p:List PE := [e51,e54]
noncomputable def q60F(k:Nat):F2:=⟨q60C k,rr q60p [(ty_0,false)] Tryz.f183,fun p=>none,0,[]⟩
theorem q60K(k:Nat):Contract Tryz.prog 183 (q60V k):=ctr (q60C k) (rs := [(ty_0,false)]) (ps:=q60p) (q60F k) Tryz.f183 32 ⟨tyOf_ok tys_ok,gOf_ok ⟨q49K,q51K,q59K k,trivial⟩⟩ (annl [] trivial)

noncomputable def q61V(k:Nat):Variant:=⟨[.val ty_4 true,.val ty_4 true],[(ty_4,true)],fun x=>impl_lesser k x.1 x.2.1⟩
noncomputable def q61C(k:Nat):Cfg:=⟨Tryz.prog,tyOf tys,11,gOf [(183,[],q60V k)],false,[],[]⟩
def q61p:List PE := [e51,e54]
noncomputable def q61F(k:Nat):F10:=⟨q61C k,rr q61p [(ty_4,true)] Tryz.f156,fun p=>none,0,[]⟩
theorem q61K(k:Nat):Contract Tryz.prog 156 (q61V k):=ctr (q61C k) (rs := [(ty_4,true)]) (ps:=q61p) (q61F k) Tryz.f156 32 ⟨tyOf_ok tys_ok,gOf_ok ⟨q60K k,trivial⟩⟩ (annl [] trivial)

noncomputable def q62V(k:Nat):Variant:=⟨[.val ty_4 true,.val ty_4 true],[(ty_4,true)],fun x=>impl_greater k x.1 x.2.1⟩
noncomputable def q62C(k:Nat):Cfg:=⟨Tryz.prog,tyOf tys,11,gOf [(183,[],q60V k)],false,[],[]⟩
def q62p:List PE := [e51,e54]
noncomputable def q62F(k:Nat):F10:=⟨q62C k,rr q62p [(ty_4,true)] Tryz.f157,fun p=>none,0,[]⟩
theorem q62K(k:Nat):Contract Tryz.prog 157 (q62V k):=ctr (q62C k) (rs := [(ty_4,true)]) (ps:=q62p) (q62F k) Tryz.f157 32 ⟨tyOf_ok tys_ok,gOf_ok ⟨q60K k,trivial⟩⟩ (annl [] trivial)

noncomputable def q63V:Variant:=⟨[.val ty_0 false],[(ty_4,true)],fun x=>impl_integer x.1⟩
noncomputable def q63C:Cfg:=⟨Tryz.prog,tyOf tys,5,gOf [],false,[],[]⟩
def q63p:List PE := [e9]
noncomputable def q63F:F10:=⟨q63C,rr q63p [(ty_4,true)] Tryz.f184,fun p=>none,0,[]⟩
theorem q63K:Contract Tryz.prog 184 (q63V):=ctr q63C (rs := [(ty_4,true)]) (ps:=q63p) q63F Tryz.f184 16 ⟨tyOf_ok tys_ok,gOf_ok trivial⟩ (annl [] trivial)

noncomputable def q64V:Variant:=⟨[.val ty_1 false,.val ty_1 false],[(ty_1,false),(ty_1,false)],fun x=>math_bits_Mul64 x.1 x.2.1⟩
noncomputable def q64C:Cfg:=⟨Tryz.prog,tyOf tys,51,gOf [],false,[],[]⟩
def q64p:List PE := [e52,⟨1,16,.val ty_1 false,false⟩]
noncomputable def q64F:F10:=⟨q64C,rr q64p [(ty_1,false),(ty_1,false)] Tryz.f242,fun p=>none,0,[]⟩
theorem q64K:Contract Tryz.prog 242 (q64V):=ctr q64C (rs := [(ty_1,false),(ty_1,false)]) (ps:=q64p) q64F Tryz.f242 32 ⟨tyOf_ok tys_ok,gOf_ok trivial⟩ (annl [] trivial)

noncomputable def q65V:Variant:=⟨[.val ty_0 false,.val ty_0 false],[(ty_13,true)],fun x=>impl_timesWide x.1 x.2.1⟩
noncomputable def q65C:Cfg:=⟨Tryz.prog,tyOf tys,23,gOf [(152,[],q48V),(242,[],q64V)],false,[],[]⟩
def q65p:List PE := [e9,e3]
noncomputable def q65F:F8:=⟨q65C,rr q65p [(ty_13,true)] Tryz.f236,fun p=>none,0,[]⟩
theorem q65K:Contract Tryz.prog 236 (q65V):=ctr q65C (rs := [(ty_13,true)]) (ps:=q65p) q65F Tryz.f236 32 ⟨tyOf_ok tys_ok,gOf_ok ⟨q48K,q64K,trivial⟩⟩ (annl [] trivial)

noncomputable def q66V(k:Nat):Variant:=⟨[.val ty_4 true,.val ty_4 true],[(ty_4,true),(.bool,false)],fun x=>impl_productOf k x.1 x.2.1⟩
noncomputable def q66C(k:Nat):Cfg:=⟨Tryz.prog,tyOf tys,19,gOf [(236,[],q65V),(111,[],q52V k)],false,[],[]⟩
def q66p:List PE := [e51,e54]
noncomputable def q66F(k:Nat):F9:=⟨q66C k,rr q66p [(ty_4,true),(.bool,false)] Tryz.f221,fun p=>none,0,[]⟩
theorem q66K(k:Nat):Contract Tryz.prog 221 (q66V k):=ctr (q66C k) (rs := [(ty_4,true),(.bool,false)]) (ps:=q66p) (q66F k) Tryz.f221 32 ⟨tyOf_ok tys_ok,gOf_ok ⟨q65K,q52K k,trivial⟩⟩ (annl [] trivial)

noncomputable def q67V:Variant:=⟨[.ptr .bool true,.val ty_4 true,.val .bool false],[(ty_4,true)],fun x=>impl_reckoner_keep x.1 x.2.1 x.2.2.1⟩
noncomputable def q67C:Cfg:=⟨Tryz.prog,tyOf tys,24,gOf [],false,[],[]⟩
def q67p:List PE := [e55,e54,⟨2,32,.val .bool false,false⟩]
noncomputable def q67F:F9:=⟨q67C,rr q67p [(ty_4,true)] Tryz.f220,fun p=>none,0,[0]⟩
theorem q67K:Contract Tryz.prog 220 (q67V):=ctr q67C (rs := [(ty_4,true)]) (ps:=q67p) q67F Tryz.f220 48 ⟨tyOf_ok tys_ok,gOf_ok trivial⟩ (annl [] trivial)

noncomputable def q68V(k:Nat):Variant:=⟨[.ptr .bool true,.val ty_4 true,.val ty_4 true],[(ty_4,true)],fun x=>impl_reckoner_product k x.1 x.2.1 x.2.2.1⟩
noncomputable def q68C(k:Nat):Cfg:=⟨Tryz.prog,tyOf tys,14,gOf [(221,[],q66V k),(220,[],q67V)],false,[],[]⟩
def q68p:List PE := [e55,e54,e56]
noncomputable def q68F(k:Nat):F9:=⟨q68C k,rr q68p [(ty_4,true)] Tryz.f203,fun p=>none,0,[0]⟩
theorem q68K(k:Nat):Contract Tryz.prog 203 (q68V k):=ctr (q68C k) (rs := [(ty_4,true)]) (ps:=q68p) (q68F k) Tryz.f203 48 ⟨tyOf_ok tys_ok,gOf_ok ⟨q66K k,q67K,trivial⟩⟩ (annl [] trivial)

noncomputable def q69V:Variant:=⟨[.val ty_14 true],[(ty_0,false)],fun x=>impl_signOf x.1⟩
noncomputable def q69C:Cfg:=⟨Tryz.prog,tyOf tys,13,gOf [],false,[],[]⟩
def q69p:List PE := [e57]
noncomputable def q69F:F2:=⟨q69C,rr q69p [(ty_0,false)] Tryz.f159,fun p=>none,0,[]⟩
theorem q69K:Contract Tryz.prog 159 (q69V):=ctr q69C (rs := [(ty_0,false)]) (ps:=q69p) q69F Tryz.f159 16 ⟨tyOf_ok tys_ok,gOf_ok trivial⟩ (annl [] trivial)

noncomputable def q70V(k:Nat):Variant:=⟨[.val ty_4 true,.val ty_0 false],[(ty_4,true)],fun x=>impl_roundDown k x.1 x.2.1⟩
noncomputable def q70C(k:Nat):Cfg:=⟨Tryz.prog,tyOf tys,26,gOf [(109,[],q49V),(111,[],q52V k)],false,[],[]⟩
def q70p:List PE := [e51,e3]
noncomputable def q70F(k:Nat):F10:=⟨q70C k,rr q70p [(ty_4,true)] Tryz.f222,fun p=>none,0,[]⟩
theorem q70K(k:Nat):Contract Tryz.prog 222 (q70V k):=ctr (q70C k) (rs := [(ty_4,true)]) (ps:=q70p) (q70F k) Tryz.f222 32 ⟨tyOf_ok tys_ok,gOf_ok ⟨q49K,q52K k,trivial⟩⟩ (annl [] trivial)

noncomputable def q71V:Variant:=⟨[.val ty_4 true],[(ty_4,true)],fun x=>impl_minus x.1⟩
noncomputable def q71C:Cfg:=⟨Tryz.prog,tyOf tys,9,gOf [],false,[],[]⟩
def q71p:List PE := [e51]
noncomputable def q71F:F10:=⟨q71C,rr q71p [(ty_4,true)] Tryz.f223,fun p=>none,0,[]⟩
theorem q71K:Contract Tryz.prog 223 (q71V):=ctr q71C (rs := [(ty_4,true)]) (ps:=q71p) q71F Tryz.f223 16 ⟨tyOf_ok tys_ok,gOf_ok trivial⟩ (annl [] trivial)

noncomputable def q72V(k:Nat):Variant:=⟨[.val ty_14 true,.val ty_0 false],[(ty_14,true)],fun x=>impl_roundOut k x.1 x.2.1⟩
noncomputable def q72C(k:Nat):Cfg:=⟨Tryz.prog,tyOf tys,16,gOf [(222,[],q70V k),(223,[],q71V)],false,[],[]⟩
def q72p:List PE := [e57,e3]
noncomputable def q72F(k:Nat):F12:=⟨q72C k,rr q72p [(ty_14,true)] Tryz.f204,fun p=>none,0,[]⟩
theorem q72K(k:Nat):Contract Tryz.prog 204 (q72V k):=ctr (q72C k) (rs := [(ty_14,true)]) (ps:=q72p) (q72F k) Tryz.f204 32 ⟨tyOf_ok tys_ok,gOf_ok ⟨q70K k,q71K,trivial⟩⟩ (annl [] trivial)

noncomputable def q73V(k:Nat):Variant:=⟨[.ptr .bool true,.val ty_14 true,.val ty_0 false],[(ty_14,true)],fun x=>impl_reckoner_power k x.1 x.2.1 x.2.2.1⟩
noncomputable def q73C(k:Nat):Cfg:=⟨Tryz.prog,tyOf tys,49,gOf [(184,[],q63V),(155,[],q55V),(203,[],q68V k),(156,[],q61V k),(157,[],q62V k),(159,[],q69V),(204,[],q72V k)],false,[],[]⟩
def q73i1:List PE := [e55,⟨2,48,.val ty_0 false,false⟩,⟨4,64,.box ty_14 false,false⟩,⟨6,80,.box ty_14 false,false⟩,⟨7,96,.box ty_4 false,false⟩,⟨8,112,.box ty_4 false,false⟩,⟨18,128,.val ty_0 false,false⟩,⟨19,144,.val ty_0 false,false⟩]
def q73o1:List PE := [⟨2,48,.val ty_0 false,false⟩,⟨4,64,.box ty_14 false,false⟩,⟨6,80,.box ty_14 false,false⟩,⟨7,96,.box ty_4 false,false⟩,⟨8,112,.box ty_4 false,false⟩,e55]
noncomputable def q73f1(k:Nat)(n:Nat)(x5:PTe q73i1):=impl_reckoner_power_L122 k n x5.1 x5.2.1 x5.2.2.1 x5.2.2.2.1 x5.2.2.2.2.1 x5.2.2.2.2.2.1 x5.2.2.2.2.2.2.1 x5.2.2.2.2.2.2.2.1
def q73p:List PE := [e55,e58,e6]
noncomputable def q73F(k:Nat):F13:=⟨q73C k,rr q73p [(ty_14,true)] Tryz.f186,fun p=>bif Nat.beq p 122 then some (.loop q73i1 q73o1 0 160 (q73f1 k k))else bif Nat.beq p 62 then some (.cut [⟨6,48,.box ty_14 false,false⟩,⟨7,64,.box ty_4 false,false⟩,⟨8,80,.box ty_4 false,false⟩,e55] 96)else none,0,[0]⟩
theorem q73K(k:Nat):Contract Tryz.prog 186 (q73V k):=ctr (q73C k) (rs := [(ty_14,true)]) (ps:=q73p) (q73F k) Tryz.f186 48 ⟨tyOf_ok tys_ok,gOf_ok ⟨q63K,q55K,q68K k,q61K k,q62K k,q69K,q72K k,trivial⟩⟩ (annl [122] ⟨lok q73i1 q73o1 0 160 (q73f1 k) k,trivial⟩)

noncomputable def q74V(k:Nat):Variant:=⟨[.ptr .bool true,.val ty_14 true,.val ty_14 true],[(ty_14,true)],fun x=>impl_reckoner_multiply k x.1 x.2.1 x.2.2.1⟩
noncomputable def q74C(k:Nat):Cfg:=⟨Tryz.prog,tyOf tys,51,gOf [(203,[],q68V k),(156,[],q61V k),(157,[],q62V k),(204,[],q72V k)],false,[],[]⟩
def q74p:List PE := [e55,e58,⟨2,32,.val ty_14 true,false⟩]
noncomputable def q74F(k:Nat):F13:=⟨q74C k,rr q74p [(ty_14,true)] Tryz.f185,fun p=>none,0,[0]⟩
theorem q74K(k:Nat):Contract Tryz.prog 185 (q74V k):=ctr (q74C k) (rs := [(ty_14,true)]) (ps:=q74p) (q74F k) Tryz.f185 48 ⟨tyOf_ok tys_ok,gOf_ok ⟨q68K k,q61K k,q62K k,q72K k,trivial⟩⟩ (annl [] trivial)

noncomputable def q75V:Variant:=V64 math_bits_Add64
theorem q75K:Contract Tryz.prog 243 q75V:=contractAdd64 (fn:=Tryz.f243) (by kernel_rfl) (by kernel_rfl) (by kernel_rfl) (by kernel_rfl) (by kernel_rfl)

noncomputable def q76V:Variant:=V64 math_bits_Sub64
theorem q76K:Contract Tryz.prog 244 q76V:=contractSub64 (fn:=Tryz.f244) (by kernel_rfl) (by kernel_rfl) (by kernel_rfl) (by kernel_rfl) (by kernel_rfl)

noncomputable def q77V(k:Nat):Variant:=⟨[.val ty_13 true,.val ty_13 true],[(ty_13,true)],fun x=>impl_wide_add k x.1 x.2.1⟩
noncomputable def q77C(k:Nat):Cfg:=⟨Tryz.prog,tyOf tys,68,gOf [(243,[],q75V),(219,[],q58V k),(244,[],q76V)],false,[],[]⟩
def q77p:List PE := [e43,e53]
noncomputable def q77F(k:Nat):F8:=⟨q77C k,rr q77p [(ty_13,true)] Tryz.f237,fun p=>bif Nat.beq p 14 then some (.cut [⟨2,32,.box ty_13 false,false⟩,⟨3,48,.box ty_13 false,false⟩,⟨4,64,.box ty_13 false,false⟩] 80)else none,0,[]⟩
theorem q77K(k:Nat):Contract Tryz.prog 237 (q77V k):=ctr (q77C k) (rs := [(ty_13,true)]) (ps:=q77p) (q77F k) Tryz.f237 32 ⟨tyOf_ok tys_ok,gOf_ok ⟨q75K,q58K k,q76K,trivial⟩⟩ (annl [] trivial)

noncomputable def q78V(k:Nat):Variant:=⟨[.val ty_4 true,.val ty_4 true],[(ty_4,true),(.bool,false)],fun x=>impl_sumOf k x.1 x.2.1⟩
noncomputable def q78C(k:Nat):Cfg:=⟨Tryz.prog,tyOf tys,33,gOf [(109,[],q49V),(154,[],q51V),(237,[],q77V k),(111,[],q52V k)],false,[],[]⟩
def q78p:List PE := [e51,e54]
noncomputable def q78F(k:Nat):F9:=⟨q78C k,rr q78p [(ty_4,true),(.bool,false)] Tryz.f224,fun p=>none,0,[]⟩
theorem q78K(k:Nat):Contract Tryz.prog 224 (q78V k):=ctr (q78C k) (rs := [(ty_4,true),(.bool,false)]) (ps:=q78p) (q78F k) Tryz.f224 32 ⟨tyOf_ok tys_ok,gOf_ok ⟨q49K,q51K,q77K k,q52K k,trivial⟩⟩ (annl [] trivial)

noncomputable def q79V(k:Nat):Variant:=⟨[.ptr .bool true,.val ty_4 true,.val ty_4 true],[(ty_4,true)],fun x=>impl_reckoner_sum k x.1 x.2.1 x.2.2.1⟩
noncomputable def q79C(k:Nat):Cfg:=⟨Tryz.prog,tyOf tys,14,gOf [(224,[],q78V k),(220,[],q67V)],false,[],[]⟩
def q79p:List PE := [e55,e54,e56]
noncomputable def q79F(k:Nat):F9:=⟨q79C k,rr q79p [(ty_4,true)] Tryz.f205,fun p=>none,0,[0]⟩
theorem q79K(k:Nat):Contract Tryz.prog 205 (q79V k):=ctr (q79C k) (rs := [(ty_4,true)]) (ps:=q79p) (q79F k) Tryz.f205 48 ⟨tyOf_ok tys_ok,gOf_ok ⟨q78K k,q67K,trivial⟩⟩ (annl [] trivial)

noncomputable def q80V(k:Nat):Variant:=⟨[.ptr .bool true,.val ty_14 true,.val ty_14 true],[(ty_14,true)],fun x=>impl_reckoner_add k x.1 x.2.1 x.2.2.1⟩
noncomputable def q80C(k:Nat):Cfg:=⟨Tryz.prog,tyOf tys,20,gOf [(205,[],q79V k)],false,[],[]⟩
def q80p:List PE := [e55,e58,⟨2,32,.val ty_14 true,false⟩]
noncomputable def q80F(k:Nat):F13:=⟨q80C k,rr q80p [(ty_14,true)] Tryz.f187,fun p=>none,0,[0]⟩
theorem q80K(k:Nat):Contract Tryz.prog 187 (q80V k):=ctr (q80C k) (rs := [(ty_14,true)]) (ps:=q80p) (q80F k) Tryz.f187 48 ⟨tyOf_ok tys_ok,gOf_ok ⟨q79K k,trivial⟩⟩ (annl [] trivial)

noncomputable def q81V:Variant:=⟨[.ptr .bool true,.val ty_14 true],[(ty_14,true),(.bool,false)],fun x=>impl_reckoner_result x.1 x.2.1⟩
noncomputable def q81C:Cfg:=⟨Tryz.prog,tyOf tys,13,gOf [],false,[],[]⟩
def q81p:List PE := [e55,e58]
noncomputable def q81F:Fn (((Int×Int)×Int×Int)×Bool×Bool):=⟨q81C,rr q81p [(ty_14,true),(.bool,false)] Tryz.f188,fun p=>none,0,[0]⟩
theorem q81K:Contract Tryz.prog 188 (q81V):=ctr q81C (rs := [(ty_14,true),(.bool,false)]) (ps:=q81p) q81F Tryz.f188 32 ⟨tyOf_ok tys_ok,gOf_ok trivial⟩ (annl [] trivial)

noncomputable def q82V(k:Nat):Variant:=⟨[.val ty_7 false,.val ty_17 false],[(ty_14,true),(.bool,false)],fun x=>impl_valueOver k x.1 x.2.1⟩
noncomputable def q82C(k:Nat):Cfg:=⟨Tryz.prog,tyOf tys,54,gOf [(184,[],q63V),(155,[],q55V),(116,[],q40V),(186,[],q73V k),(185,[],q74V k),(187,[],q80V k),(188,[],q81V)],false,[],[]⟩
def q82i1:List PE := [e59,e60,e61,e62,⟨9,96,.box ty_6 false,false⟩,⟨10,112,.box ty_14 false,false⟩,⟨16,128,.val ty_7 false,false⟩,⟨17,144,.val ty_0 false,false⟩,⟨18,160,.val ty_0 false,false⟩,⟨26,176,.val ty_17 false,false⟩,⟨27,192,.val ty_0 false,false⟩,⟨28,208,.val ty_0 false,false⟩]
def q82o1:List PE := [e59,e60,e61,e62,⟨10,96,.box ty_14 false,false⟩,⟨16,112,.val ty_7 false,false⟩,e50,⟨18,144,.val ty_0 false,false⟩]
noncomputable def q82f1(k:Nat)(n:Nat)(x10:PTe q82i1):=impl_valueOver_L125338 k n x10.1 x10.2.1 x10.2.2.1 x10.2.2.2.1 x10.2.2.2.2.1 x10.2.2.2.2.2.1 x10.2.2.2.2.2.2.1 x10.2.2.2.2.2.2.2.1 x10.2.2.2.2.2.2.2.2.1 x10.2.2.2.2.2.2.2.2.2.1 x10.2.2.2.2.2.2.2.2.2.2.1 x10.2.2.2.2.2.2.2.2.2.2.2.1
def q82i2:List PE := [e59,e60,e61,e62,⟨16,96,.val ty_7 false,false⟩,⟨17,112,.val ty_0 false,false⟩,⟨18,128,.val ty_0 false,false⟩]
def q82o2:List PE := [e63,⟨6,48,.box .bool false,false⟩,⟨7,64,.box ty_14 false,false⟩]
noncomputable def q82f2(k:Nat)(n:Nat)(x14:PTe q82i2):=impl_valueOver_L122 k n x14.1 x14.2.1 x14.2.2.1 x14.2.2.2.1 x14.2.2.2.2.1 x14.2.2.2.2.2.1 x14.2.2.2.2.2.2.1
def q82p:List PE := [e14,e64]
noncomputable def q82F(k:Nat):F13:=⟨q82C k,rr q82p [(ty_14,true),(.bool,false)] Tryz.f158,fun p=>bif Nat.beq p 125338 then some (.loop q82i1 q82o1 2 224 (q82f1 k k))else bif Nat.beq p 122 then some (.loop q82i2 q82o2 0 144 (q82f2 k k))else none,0,[]⟩
theorem q82K(k:Nat):Contract Tryz.prog 158 (q82V k):=ctr (q82C k) (rs := [(ty_14,true),(.bool,false)]) (ps:=q82p) (q82F k) Tryz.f158 32 ⟨tyOf_ok tys_ok,gOf_ok ⟨q63K,q55K,q40K,q73K k,q74K k,q80K k,q81K,trivial⟩⟩ (annl [122,125338] ⟨lok q82i2 q82o2 0 144 (q82f2 k) k,lok q82i1 q82o1 2 224 (q82f1 k) k,trivial⟩)

noncomputable def q83V(k:Nat):Variant:=⟨[.val ty_8 false,.val ty_16 true,.val ty_0 false],[(.bool,false)],fun x=>impl_edgeHolds k x.1 x.2.1 x.2.2.1⟩
noncomputable def q83C(k:Nat):Cfg:=⟨Tryz.prog,tyOf tys,58,gOf [(155,[],q55V),(156,[],q61V k),(157,[],q62V k),(158,[],q82V k),(159,[],q69V)],false,[],[]⟩
def q83p:List PE := [e40,⟨1,16,.val ty_16 true,false⟩,e6]
noncomputable def q83F(k:Nat):F3:=⟨q83C k,rr q83p [(.bool,false)] Tryz.f112,fun p=>bif Nat.beq p 14 then some (.cut [e65,⟨2,64,.val ty_0 false,false⟩,⟨7,80,.eat ty_14,false⟩] 96)else none,0,[]⟩
theorem q83K(k:Nat):Contract Tryz.prog 112 (q83V k):=ctr (q83C k) (rs := [(.bool,false)]) (ps:=q83p) (q83F k) Tryz.f112 48 ⟨tyOf_ok tys_ok,gOf_ok ⟨q55K,q61K k,q62K k,q82K k,q69K,trivial⟩⟩ (annl [] trivial)

noncomputable def q84V(k:Nat):Variant:=⟨[.val ty_8 false,.val ty_16 true],[(ty_0,false)],fun x=>impl_edgeReason k x.1 x.2.1⟩
noncomputable def q84C(k:Nat):Cfg:=⟨Tryz.prog,tyOf tys,15,gOf [(112,[],q83V k)],false,[],[]⟩
def q84i1:List PE := [e66,⟨3,48,.box ty_16 false,false⟩,e19]
def q84o1:List PE := []
noncomputable def q84f1(k:Nat)(n:Nat)(x2:PTe q84i1):=impl_edgeReason_L26 k n x2.1 x2.2.1 x2.2.2.1
def q84p:List PE := [e40,⟨1,16,.val ty_16 true,false⟩]
noncomputable def q84F(k:Nat):F2:=⟨q84C k,rr q84p [(ty_0,false)] Tryz.f55,fun p=>bif Nat.beq p 26 then some (.loop q84i1 q84o1 0 80 (q84f1 k k))else none,0,[]⟩
theorem q84K(k:Nat):Contract Tryz.prog 55 (q84V k):=ctr (q84C k) (rs := [(ty_0,false)]) (ps:=q84p) (q84F k) Tryz.f55 32 ⟨tyOf_ok tys_ok,gOf_ok ⟨q83K k,trivial⟩⟩ (annl [26] ⟨lok q84i1 q84o1 0 80 (q84f1 k) k,trivial⟩)

noncomputable def q85V(k:Nat):Variant:=⟨[.val ty_8 false,.ptr ty_11 false,.val ty_0 false],[(ty_9,false),(.bool,false)],fun x=>impl_boundaryReasons k x.1 x.2.1 x.2.2.1⟩
noncomputable def q85C(k:Nat):Cfg:=⟨Tryz.prog,tyOf tys,31,gOf [(53,[],q54V k),(55,[],q84V k)],false,[],[]⟩
def q85i1:List PE := [e65,e67,⟨14,80,.eat ty_16,false⟩,e68,⟨16,112,.val ty_0 false,false⟩]
def q85o1:List PE := [e69]
noncomputable def q85f1(k:Nat)(n:Nat)(x3:PTe q85i1):=impl_boundaryReasons_L58 k n x3.1 x3.2.1 x3.2.2.1 x3.2.2.2.1 x3.2.2.2.2.1
def q85p:List PE := [e40,e42,e6]
noncomputable def q85F(k:Nat):F14:=⟨q85C k,rr q85p [(ty_9,false),(.bool,false)] Tryz.f47,fun p=>bif Nat.beq p 58 then some (.loop q85i1 q85o1 0 128 (q85f1 k k))else none,0,[]⟩
theorem q85K(k:Nat):Contract Tryz.prog 47 (q85V k):=ctr (q85C k) (rs := [(ty_9,false),(.bool,false)]) (ps:=q85p) (q85F k) Tryz.f47 48 ⟨tyOf_ok tys_ok,gOf_ok ⟨q54K k,q84K k,trivial⟩⟩ (annl [58] ⟨lok q85i1 q85o1 0 128 (q85f1 k) k,trivial⟩)

noncomputable def q86V(k:Nat):Variant:=⟨[.val ty_8 false,.val ty_11 true,.val ty_0 false],[(ty_9,false),(.bool,false)],fun x=>impl_BoundaryReasons k x.1 x.2.1 x.2.2.1⟩
noncomputable def q86C(k:Nat):Cfg:=⟨Tryz.prog,tyOf tys,21,gOf [(45,[],q46V k),(46,[],q32V),(47,[],q85V k)],false,[],[]⟩
def q86p:List PE := [e40,e70,e6]
noncomputable def q86F(k:Nat):F14:=⟨q86C k,rr q86p [(ty_9,false),(.bool,false)] Tryz.f6,fun p=>none,0,[]⟩
theorem q86K(k:Nat):Contract Tryz.prog 6 (q86V k):=ctr (q86C k) (rs := [(ty_9,false),(.bool,false)]) (ps:=q86p) (q86F k) Tryz.f6 48 ⟨tyOf_ok tys_ok,gOf_ok ⟨q46K k,q32K,q85K k,trivial⟩⟩ (annl [] trivial)

noncomputable def q87V:Variant:=⟨[.val ty_6 true,.val ty_0 false],[(ty_0,false)],fun x=>spec_poPower x.1 x.2.1⟩
noncomputable def q87C:Cfg:=⟨Tryz.prog,tyOf tys,16,gOf [],false,[],[]⟩
def q87p:List PE := [e5,e3]
noncomputable def q87F:F2:=⟨q87C,rr q87p [(ty_0,false)] Tryz.f165,fun p=>none,0,[]⟩
theorem q87K:Contract Tryz.prog 165 (q87V):=ctr q87C (rs := [(ty_0,false)]) (ps:=q87p) q87F Tryz.f165 32 ⟨tyOf_ok tys_ok,gOf_ok trivial⟩ (annl [] trivial)

noncomputable def q88V(k:Nat):Variant:=⟨[.val ty_7 false,.val ty_0 false],[(ty_0,false)],fun x=>spec_poDegreeIn k x.1 x.2.1⟩
noncomputable def q88C(k:Nat):Cfg:=⟨Tryz.prog,tyOf tys,21,gOf [(165,[],q87V),(148,[],q22V)],false,[],[]⟩
def q88i1:List PE := [e7,e71,⟨8,64,.val ty_7 false,false⟩,e72,⟨10,96,.val ty_0 false,false⟩]
def q88o1:List PE := [⟨5,32,.val ty_0 false,false⟩]
noncomputable def q88f1(k:Nat)(n:Nat)(x3:PTe q88i1):=spec_poDegreeIn_L58 k n x3.1 x3.2.1 x3.2.2.1 x3.2.2.2.1 x3.2.2.2.2.1
def q88p:List PE := [e14,e3]
noncomputable def q88F(k:Nat):F2:=⟨q88C k,rr q88p [(ty_0,false)] Tryz.f167,fun p=>bif Nat.beq p 58 then some (.loop q88i1 q88o1 0 112 (q88f1 k k))else none,0,[]⟩
theorem q88K(k:Nat):Contract Tryz.prog 167 (q88V k):=ctr (q88C k) (rs := [(ty_0,false)]) (ps:=q88p) (q88F k) Tryz.f167 32 ⟨tyOf_ok tys_ok,gOf_ok ⟨q87K,q22K,trivial⟩⟩ (annl [58] ⟨lok q88i1 q88o1 0 112 (q88f1 k) k,trivial⟩)

noncomputable def q89V(k:Nat):Variant:=⟨[.val ty_8 false],[(.bool,false)],fun x=>spec_poSystem k x.1⟩
noncomputable def q89C(k:Nat):Cfg:=⟨Tryz.prog,tyOf tys,29,gOf [(166,[],q12V k),(167,[],q88V k),(126,[],q10V)],false,[],[]⟩
def q89i1:List PE := [e39,⟨4,32,.val ty_7 false,false⟩,e71,⟨6,64,.val ty_8 false,false⟩,⟨7,80,.val ty_0 false,false⟩,⟨8,96,.val ty_0 false,false⟩]
def q89o1:List PE := [e39,⟨6,32,.val ty_8 false,false⟩,e29,e30]
noncomputable def q89f1(k:Nat)(n:Nat)(x3:PTe q89i1):=spec_poSystem_L13518 k n x3.1 x3.2.1 x3.2.2.1 x3.2.2.2.1 x3.2.2.2.2.1 x3.2.2.2.2.2.1
def q89i2:List PE := [e39,⟨6,32,.val ty_8 false,false⟩,e29,e30]
def q89o2:List PE := [e39]
noncomputable def q89f2(k:Nat)(n:Nat)(x6:PTe q89i2):=spec_poSystem_L26 k n x6.1 x6.2.1 x6.2.2.1 x6.2.2.2.1
def q89p:List PE := [e40]
noncomputable def q89F(k:Nat):F3:=⟨q89C k,rr q89p [(.bool,false)] Tryz.f121,fun p=>bif Nat.beq p 13518 then some (.loop q89i1 q89o1 2 112 (q89f1 k k))else bif Nat.beq p 26 then some (.loop q89i2 q89o2 0 80 (q89f2 k k))else none,0,[]⟩
theorem q89K(k:Nat):Contract Tryz.prog 121 (q89V k):=ctr (q89C k) (rs := [(.bool,false)]) (ps:=q89p) (q89F k) Tryz.f121 16 ⟨tyOf_ok tys_ok,gOf_ok ⟨q12K k,q88K k,q10K,trivial⟩⟩ (annl [26,13518] ⟨lok q89i2 q89o2 0 80 (q89f2 k) k,lok q89i1 q89o1 2 112 (q89f1 k) k,trivial⟩)

noncomputable def q90V(k:Nat):Variant:=⟨[.val ty_11 true],[(.bool,false)],fun x=>spec_imBox k x.1⟩
noncomputable def q90C(k:Nat):Cfg:=⟨Tryz.prog,tyOf tys,16,gOf [(96,[],q25V k)],false,[],[]⟩
def q90p:List PE := [e31]
noncomputable def q90F(k:Nat):F3:=⟨q90C k,rr q90p [(.bool,false)] Tryz.f122,fun p=>none,0,[]⟩
theorem q90K(k:Nat):Contract Tryz.prog 122 (q90V k):=ctr (q90C k) (rs := [(.bool,false)]) (ps:=q90p) (q90F k) Tryz.f122 16 ⟨tyOf_ok tys_ok,gOf_ok ⟨q25K k,trivial⟩⟩ (annl [] trivial)

noncomputable def q91V(k:Nat):Variant:=⟨[.val ty_8 false,.val ty_11 true],[(.bool,false)],fun x=>spec_imGood k x.1 x.2.1⟩
noncomputable def q91C(k:Nat):Cfg:=⟨Tryz.prog,tyOf tys,16,gOf [(121,[],q89V k),(122,[],q90V k)],false,[],[]⟩
def q91p:List PE := [e40,e70]
noncomputable def q91F(k:Nat):F3:=⟨q91C k,rr q91p [(.bool,false)] Tryz.f64,fun p=>none,0,[]⟩
theorem q91K(k:Nat):Contract Tryz.prog 64 (q91V k):=ctr (q91C k) (rs := [(.bool,false)]) (ps:=q91p) (q91F k) Tryz.f64 32 ⟨tyOf_ok tys_ok,gOf_ok ⟨q89K k,q90K k,trivial⟩⟩ (annl [] trivial)

noncomputable def q92V:Variant:=⟨[.val ty_0 false],[(.bool,false)],fun x=>spec_imDepth x.1⟩
noncomputable def q92C:Cfg:=⟨Tryz.prog,tyOf tys,5,gOf [(126,[],q10V)],false,[],[]⟩
def q92p:List PE := [e9]
noncomputable def q92F:F3:=⟨q92C,rr q92p [(.bool,false)] Tryz.f107,fun p=>none,0,[]⟩
theorem q92K:Contract Tryz.prog 107 (q92V):=ctr q92C (rs := [(.bool,false)]) (ps:=q92p) q92F Tryz.f107 16 ⟨tyOf_ok tys_ok,gOf_ok ⟨q10K,trivial⟩⟩ (annl [] trivial)

noncomputable def q93V(k:Nat):Variant:=⟨[.val ty_8 false,.val ty_11 true,.val ty_0 false],[(.bool,false)],fun x=>spec_imAsked k x.1 x.2.1 x.2.2.1⟩
noncomputable def q93C(k:Nat):Cfg:=⟨Tryz.prog,tyOf tys,14,gOf [(64,[],q91V k),(107,[],q92V)],false,[],[]⟩
def q93p:List PE := [e40,e70,e6]
noncomputable def q93F(k:Nat):F3:=⟨q93C k,rr q93p [(.bool,false)] Tryz.f48,fun p=>none,0,[]⟩
theorem q93K(k:Nat):Contract Tryz.prog 48 (q93V k):=ctr (q93C k) (rs := [(.bool,false)]) (ps:=q93p) (q93F k) Tryz.f48 48 ⟨tyOf_ok tys_ok,gOf_ok ⟨q91K k,q92K,trivial⟩⟩ (annl [] trivial)

noncomputable def q94V:Variant:=⟨[.val ty_4 true],[(.bool,false)],fun x=>spec_dyGood x.1⟩
noncomputable def q94C:Cfg:=⟨Tryz.prog,tyOf tys,22,gOf [(126,[],q10V)],false,[],[]⟩
def q94p:List PE := [e51]
noncomputable def q94F:F3:=⟨q94C,rr q94p [(.bool,false)] Tryz.f190,fun p=>none,0,[]⟩
theorem q94K:Contract Tryz.prog 190 (q94V):=ctr q94C (rs := [(.bool,false)]) (ps:=q94p) q94F Tryz.f190 16 ⟨tyOf_ok tys_ok,gOf_ok ⟨q10K,trivial⟩⟩ (annl [] trivial)

noncomputable def q95V(k:Nat):Variant:=⟨[.val ty_0 false,.val ty_0 false],[(ty_4,true),(.bool,false)],fun x=>spec_dyMake k x.1 x.2.1⟩
noncomputable def q95C(k:Nat):Cfg:=⟨Tryz.prog,tyOf tys,32,gOf [(190,[],q94V)],false,[],[]⟩
def q95i1:List PE := [e73,e74,e44]
def q95o1:List PE := [e73,e74,e44]
noncomputable def q95f1(k:Nat)(n:Nat)(x2:PTe q95i1):=spec_dyMake_L28 k n x2.1 x2.2.1 x2.2.2.1
def q95p:List PE := [e9,e3]
noncomputable def q95F(k:Nat):F9:=⟨q95C k,rr q95p [(ty_4,true),(.bool,false)] Tryz.f163,fun p=>bif Nat.beq p 28 then some (.loop q95i1 q95o1 0 80 (q95f1 k k))else bif Nat.beq p 6 then some (.cut [e73,e74,e44] 80)else none,0,[]⟩
theorem q95K(k:Nat):Contract Tryz.prog 163 (q95V k):=ctr (q95C k) (rs := [(ty_4,true),(.bool,false)]) (ps:=q95p) (q95F k) Tryz.f163 32 ⟨tyOf_ok tys_ok,gOf_ok ⟨q94K,trivial⟩⟩ (annl [28] ⟨lok q95i1 q95o1 0 80 (q95f1 k) k,trivial⟩)

noncomputable def q96V(k:Nat):Variant:=⟨[.val ty_0 false,.val ty_0 false],[(ty_4,true)],fun x=>spec_bxNumber k x.1 x.2.1⟩
noncomputable def q96C(k:Nat):Cfg:=⟨Tryz.prog,tyOf tys,14,gOf [(163,[],q95V k)],false,[],[]⟩
def q96p:List PE := [e9,e3]
noncomputable def q96F(k:Nat):F10:=⟨q96C k,rr q96p [(ty_4,true)] Tryz.f118,fun p=>none,0,[]⟩
theorem q96K(k:Nat):Contract Tryz.prog 118 (q96V k):=ctr (q96C k) (rs := [(ty_4,true)]) (ps:=q96p) (q96F k) Tryz.f118 32 ⟨tyOf_ok tys_ok,gOf_ok ⟨q95K k,trivial⟩⟩ (annl [] trivial)

noncomputable def q97V(k:Nat):Variant:=⟨[.val ty_0 false,.val ty_4 true,.val ty_0 false,.val ty_0 false,.val ty_0 false,.val ty_0 false],[(ty_19,false)],fun x=>spec_imWay k x.1 x.2.1 x.2.2.1 x.2.2.2.1 x.2.2.2.2.1 x.2.2.2.2.2.1⟩
noncomputable def q97C(k:Nat):Cfg:=⟨Tryz.prog,tyOf tys,61,gOf [(57,[],q20V),(118,[],q96V k)],false,[],[]⟩
def q97i1:List PE := [⟨0,96,.val ty_0 false,false⟩,⟨2,112,.val ty_0 false,false⟩,⟨3,128,.val ty_0 false,false⟩,⟨4,144,.val ty_0 false,false⟩,⟨5,160,.val ty_0 false,false⟩,⟨7,176,.box ty_4 false,false⟩,⟨13,192,.eat ty_16,false⟩,⟨14,208,.val ty_0 false,false⟩,⟨15,224,.val ty_0 false,false⟩]
def q97o1:List PE := [⟨13,96,.eat ty_16,false⟩]
noncomputable def q97f1(k:Nat)(n:Nat)(x4:PTe q97i1):=spec_imWay_L122 k n x4.1 x4.2.1 x4.2.2.1 x4.2.2.2.1 x4.2.2.2.2.1 x4.2.2.2.2.2.1 x4.2.2.2.2.2.2.1 x4.2.2.2.2.2.2.2.1 x4.2.2.2.2.2.2.2.2.1
def q97p:List PE := [e9,e54,e6,⟨3,48,.val ty_0 false,false⟩,⟨4,64,.val ty_0 false,false⟩,⟨5,80,.val ty_0 false,false⟩]
noncomputable def q97F(k:Nat):F11:=⟨q97C k,rr q97p [(ty_19,false)] Tryz.f117,fun p=>bif Nat.beq p 122 then some (.loop q97i1 q97o1 0 240 (q97f1 k k))else none,0,[]⟩
theorem q97K(k:Nat):Contract Tryz.prog 117 (q97V k):=ctr (q97C k) (rs := [(ty_19,false)]) (ps:=q97p) (q97F k) Tryz.f117 96 ⟨tyOf_ok tys_ok,gOf_ok ⟨q20K,q96K k,trivial⟩⟩ (annl [122] ⟨lok q97i1 q97o1 0 240 (q97f1 k) k,trivial⟩)

noncomputable def q98V(k:Nat):Variant:=⟨[.val ty_11 true,.val ty_0 false],[(ty_19,false)],fun x=>spec_imEdges k x.1 x.2.1⟩
noncomputable def q98C(k:Nat):Cfg:=⟨Tryz.prog,tyOf tys,72,gOf [(118,[],q96V k),(117,[],q97V k)],false,[],[]⟩
def q98p:List PE := [e31,e3]
noncomputable def q98F(k:Nat):F11:=⟨q98C k,rr q98p [(ty_19,false)] Tryz.f60,fun p=>none,0,[]⟩
theorem q98K(k:Nat):Contract Tryz.prog 60 (q98V k):=ctr (q98C k) (rs := [(ty_19,false)]) (ps:=q98p) (q98F k) Tryz.f60 32 ⟨tyOf_ok tys_ok,gOf_ok ⟨q96K k,q97K k,trivial⟩⟩ (annl [] trivial)

noncomputable def q99V:Variant:=⟨[.val ty_0 false,.val ty_0 false],[(ty_0,false)],fun x=>spec_dyDown x.1 x.2.1⟩
noncomputable def q99C:Cfg:=⟨Tryz.prog,tyOf tys,16,gOf [],false,[],[]⟩
def q99p:List PE := [e9,e3]
noncomputable def q99F:F2:=⟨q99C,rr q99p [(ty_0,false)] Tryz.f225,fun p=>none,0,[]⟩
theorem q99K:Contract Tryz.prog 225 (q99V):=ctr q99C (rs := [(ty_0,false)]) (ps:=q99p) q99F Tryz.f225 32 ⟨tyOf_ok tys_ok,gOf_ok trivial⟩ (annl [] trivial)

noncomputable def q100V:Variant:=⟨[.val ty_4 true],[(ty_0,false)],fun x=>spec_dyFloor x.1⟩
noncomputable def q100C:Cfg:=⟨Tryz.prog,tyOf tys,9,gOf [(57,[],q20V),(225,[],q99V)],false,[],[]⟩
def q100p:List PE := [e51]
noncomputable def q100F:F2:=⟨q100C,rr q100p [(ty_0,false)] Tryz.f206,fun p=>none,0,[]⟩
theorem q100K:Contract Tryz.prog 206 (q100V):=ctr q100C (rs := [(ty_0,false)]) (ps:=q100p) q100F Tryz.f206 16 ⟨tyOf_ok tys_ok,gOf_ok ⟨q20K,q99K,trivial⟩⟩ (annl [] trivial)

noncomputable def q101V(k:Nat):Variant:=⟨[.val ty_4 true,.val ty_0 false],[(ty_0,false),(.bool,false)],fun x=>spec_dyAt k x.1 x.2.1⟩
noncomputable def q101C(k:Nat):Cfg:=⟨Tryz.prog,tyOf tys,30,gOf [(57,[],q20V),(126,[],q10V)],false,[],[]⟩
def q101i1:List PE := [e7,⟨2,48,.box ty_4 false,false⟩,e19]
def q101o1:List PE := [e75]
noncomputable def q101f1(k:Nat)(n:Nat)(x4:PTe q101i1):=spec_dyAt_L58 k n x4.1 x4.2.1 x4.2.2.1
def q101p:List PE := [e51,e3]
noncomputable def q101F(k:Nat):F15:=⟨q101C k,rr q101p [(ty_0,false),(.bool,false)] Tryz.f164,fun p=>bif Nat.beq p 58 then some (.loop q101i1 q101o1 0 80 (q101f1 k k))else none,0,[]⟩
theorem q101K(k:Nat):Contract Tryz.prog 164 (q101V k):=ctr (q101C k) (rs := [(ty_0,false),(.bool,false)]) (ps:=q101p) (q101F k) Tryz.f164 32 ⟨tyOf_ok tys_ok,gOf_ok ⟨q20K,q10K,trivial⟩⟩ (annl [58] ⟨lok q101i1 q101o1 0 80 (q101f1 k) k,trivial⟩)

noncomputable def q102V(k:Nat):Variant:=⟨[.val ty_4 true,.val ty_4 true],[(ty_0,false)],fun x=>spec_dyCmp k x.1 x.2.1⟩
noncomputable def q102C(k:Nat):Cfg:=⟨Tryz.prog,tyOf tys,56,gOf [(206,[],q100V),(120,[],q7V),(57,[],q20V),(164,[],q101V k)],false,[],[]⟩
def q102p:List PE := [e51,e54]
noncomputable def q102F(k:Nat):F2:=⟨q102C k,rr q102p [(ty_0,false)] Tryz.f189,fun p=>none,0,[]⟩
theorem q102K(k:Nat):Contract Tryz.prog 189 (q102V k):=ctr (q102C k) (rs := [(ty_0,false)]) (ps:=q102p) (q102F k) Tryz.f189 32 ⟨tyOf_ok tys_ok,gOf_ok ⟨q100K,q7K,q20K,q101K k,trivial⟩⟩ (annl [] trivial)

noncomputable def q103V(k:Nat):Variant:=⟨[.val ty_18 false],[(ty_14,true)],fun x=>spec_ivEnds k x.1⟩
noncomputable def q103C(k:Nat):Cfg:=⟨Tryz.prog,tyOf tys,35,gOf [(189,[],q102V k)],false,[],[]⟩
def q103i1:List PE := [e76,e77,⟨13,48,.val ty_18 false,false⟩,⟨14,64,.val ty_0 false,false⟩,⟨15,80,.val ty_0 false,false⟩]
def q103o1:List PE := [e76,e77]
noncomputable def q103f1(k:Nat)(n:Nat)(x5:PTe q103i1):=spec_ivEnds_L58 k n x5.1 x5.2.1 x5.2.2.1 x5.2.2.2.1 x5.2.2.2.2.1
def q103p:List PE := [⟨0,0,.val ty_18 false,false⟩]
noncomputable def q103F(k:Nat):F12:=⟨q103C k,rr q103p [(ty_14,true)] Tryz.f161,fun p=>bif Nat.beq p 7474 then some (.cut [e76,e77,⟨5,48,.box ty_4 false,false⟩,⟨13,64,.val ty_18 false,false⟩,⟨14,80,.val ty_0 false,false⟩,e68] 112)else bif Nat.beq p 58 then some (.loop q103i1 q103o1 0 96 (q103f1 k k))else none,0,[]⟩
theorem q103K(k:Nat):Contract Tryz.prog 161 (q103V k):=ctr (q103C k) (rs := [(ty_14,true)]) (ps:=q103p) (q103F k) Tryz.f161 16 ⟨tyOf_ok tys_ok,gOf_ok ⟨q102K k,trivial⟩⟩ (annl [58] ⟨lok q103i1 q103o1 0 96 (q103f1 k) k,trivial⟩)

noncomputable def q104V:Variant:=⟨[.val ty_4 true],[(ty_14,true)],fun x=>spec_vaPure x.1⟩
noncomputable def q104C:Cfg:=⟨Tryz.prog,tyOf tys,6,gOf [],false,[],[]⟩
def q104p:List PE := [e51]
noncomputable def q104F:F12:=⟨q104C,rr q104p [(ty_14,true)] Tryz.f162,fun p=>none,0,[]⟩
theorem q104K:Contract Tryz.prog 162 (q104V):=ctr q104C (rs := [(ty_14,true)]) (ps:=q104p) q104F Tryz.f162 16 ⟨tyOf_ok tys_ok,gOf_ok trivial⟩ (annl [] trivial)

noncomputable def q105V(k:Nat):Variant:=⟨[.val ty_16 true],[(ty_17,false)],fun x=>spec_imSides k x.1⟩
noncomputable def q105C(k:Nat):Cfg:=⟨Tryz.prog,tyOf tys,23,gOf [(161,[],q103V k),(162,[],q104V)],false,[],[]⟩
def q105p:List PE := [⟨0,0,.val ty_16 true,false⟩]
noncomputable def q105F(k:Nat):Fn (List ((Int×Int)×Int×Int)):=⟨q105C k,rr q105p [(ty_17,false)] Tryz.f114,fun p=>none,0,[]⟩
theorem q105K(k:Nat):Contract Tryz.prog 114 (q105V k):=ctr (q105C k) (rs := [(ty_17,false)]) (ps:=q105p) (q105F k) Tryz.f114 16 ⟨tyOf_ok tys_ok,gOf_ok ⟨q103K k,q104K,trivial⟩⟩ (annl [] trivial)

noncomputable def q106V:Variant:=⟨[.val ty_0 false],[(ty_4,true)],fun x=>spec_dyInt x.1⟩
noncomputable def q106C:Cfg:=⟨Tryz.prog,tyOf tys,5,gOf [],false,[],[]⟩
def q106p:List PE := [e9]
noncomputable def q106F:F10:=⟨q106C,rr q106p [(ty_4,true)] Tryz.f195,fun p=>none,0,[]⟩
theorem q106K:Contract Tryz.prog 195 (q106V):=ctr q106C (rs := [(ty_4,true)]) (ps:=q106p) q106F Tryz.f195 16 ⟨tyOf_ok tys_ok,gOf_ok trivial⟩ (annl [] trivial)

noncomputable def q107V:Variant:=⟨[.val ty_0 false],[(ty_0,false)],fun x=>spec_l1Abs x.1⟩
noncomputable def q107C:Cfg:=⟨Tryz.prog,tyOf tys,7,gOf [(148,[],q22V)],false,[],[]⟩
def q107p:List PE := [e9]
noncomputable def q107F:F2:=⟨q107C,rr q107p [(ty_0,false)] Tryz.f234,fun p=>none,0,[]⟩
theorem q107K:Contract Tryz.prog 234 (q107V):=ctr q107C (rs := [(ty_0,false)]) (ps:=q107p) q107F Tryz.f234 16 ⟨tyOf_ok tys_ok,gOf_ok ⟨q22K,trivial⟩⟩ (annl [] trivial)

noncomputable def q108V(k:Nat):Variant:=⟨[.val ty_4 true,.val ty_4 true],[(ty_4,true),(.bool,false)],fun x=>spec_dyMul k x.1 x.2.1⟩
noncomputable def q108C(k:Nat):Cfg:=⟨Tryz.prog,tyOf tys,67,gOf [(234,[],q107V),(163,[],q95V k)],false,[],[]⟩
def q108i1:List PE := [e75,e78,e44,e8]
def q108o1:List PE := [e75,e78,e44,e8]
noncomputable def q108f1(k:Nat)(n:Nat)(x1:PTe q108i1):=spec_dyMul_L60 k n x1.1 x1.2.1 x1.2.2.1 x1.2.2.2.1
def q108i2:List PE := [e75,e78,e44,e8]
def q108o2:List PE := [e75,e78,e44,e8]
noncomputable def q108f2(k:Nat)(n:Nat)(x4:PTe q108i2):=spec_dyMul_L124 k n x4.1 x4.2.1 x4.2.2.1 x4.2.2.2.1
def q108p:List PE := [e51,e54]
noncomputable def q108F(k:Nat):F9:=⟨q108C k,rr q108p [(ty_4,true),(.bool,false)] Tryz.f215,fun p=>bif Nat.beq p 60 then some (.loop q108i1 q108o1 0 96 (q108f1 k k))else bif Nat.beq p 124 then some (.loop q108i2 q108o2 2 96 (q108f2 k k))else none,0,[]⟩
theorem q108K(k:Nat):Contract Tryz.prog 215 (q108V k):=ctr (q108C k) (rs := [(ty_4,true),(.bool,false)]) (ps:=q108p) (q108F k) Tryz.f215 32 ⟨tyOf_ok tys_ok,gOf_ok ⟨q107K,q95K k,trivial⟩⟩ (annl [60,124] ⟨lok q108i1 q108o1 0 96 (q108f1 k) k,lok q108i2 q108o2 2 96 (q108f2 k) k,trivial⟩)

noncomputable def q109V(k:Nat):Variant:=⟨[.val ty_4 true,.val ty_0 false],[(ty_4,true),(.bool,false)],fun x=>spec_ivRaise k x.1 x.2.1⟩
noncomputable def q109C(k:Nat):Cfg:=⟨Tryz.prog,tyOf tys,25,gOf [(195,[],q106V),(215,[],q108V k)],false,[],[]⟩
def q109i1:List PE := [e7,⟨2,48,.box ty_4 false,false⟩,e44,⟨6,80,.box ty_4 false,false⟩]
def q109o1:List PE := [⟨4,32,.box ty_4 false,false⟩,⟨6,48,.box ty_4 false,false⟩]
noncomputable def q109f1(k:Nat)(n:Nat)(x3:PTe q109i1):=spec_ivRaise_L28 k n x3.1 x3.2.1 x3.2.2.1 x3.2.2.2.1
def q109p:List PE := [e51,e3]
noncomputable def q109F(k:Nat):F9:=⟨q109C k,rr q109p [(ty_4,true),(.bool,false)] Tryz.f213,fun p=>bif Nat.beq p 28 then some (.loop q109i1 q109o1 0 96 (q109f1 k k))else none,0,[]⟩
theorem q109K(k:Nat):Contract Tryz.prog 213 (q109V k):=ctr (q109C k) (rs := [(ty_4,true),(.bool,false)]) (ps:=q109p) (q109F k) Tryz.f213 32 ⟨tyOf_ok tys_ok,gOf_ok ⟨q106K,q108K k,trivial⟩⟩ (annl [28] ⟨lok q109i1 q109o1 0 96 (q109f1 k) k,trivial⟩)

noncomputable def q110V:Variant:=⟨[.val ty_14 true],[(.bool,false)],fun x=>spec_ivZero x.1⟩
noncomputable def q110C:Cfg:=⟨Tryz.prog,tyOf tys,13,gOf [],false,[],[]⟩
def q110p:List PE := [e57]
noncomputable def q110F:F3:=⟨q110C,rr q110p [(.bool,false)] Tryz.f199,fun p=>none,0,[]⟩
theorem q110K:Contract Tryz.prog 199 (q110V):=ctr q110C (rs := [(.bool,false)]) (ps:=q110p) q110F Tryz.f199 16 ⟨tyOf_ok tys_ok,gOf_ok trivial⟩ (annl [] trivial)

noncomputable def q111V(k:Nat):Variant:=⟨[.val ty_4 true,.val ty_0 false],[(ty_4,true)],fun x=>spec_dyRound k x.1 x.2.1⟩
noncomputable def q111C(k:Nat):Cfg:=⟨Tryz.prog,tyOf tys,26,gOf [(57,[],q20V),(225,[],q99V),(163,[],q95V k)],false,[],[]⟩
def q111p:List PE := [e51,e3]
noncomputable def q111F(k:Nat):F10:=⟨q111C k,rr q111p [(ty_4,true)] Tryz.f232,fun p=>none,0,[]⟩
theorem q111K(k:Nat):Contract Tryz.prog 232 (q111V k):=ctr (q111C k) (rs := [(ty_4,true)]) (ps:=q111p) (q111F k) Tryz.f232 32 ⟨tyOf_ok tys_ok,gOf_ok ⟨q20K,q99K,q95K k,trivial⟩⟩ (annl [] trivial)

noncomputable def q112V:Variant:=⟨[.val ty_4 true],[(ty_4,true)],fun x=>spec_dyMinus x.1⟩
noncomputable def q112C:Cfg:=⟨Tryz.prog,tyOf tys,9,gOf [],false,[],[]⟩
def q112p:List PE := [e51]
noncomputable def q112F:F10:=⟨q112C,rr q112p [(ty_4,true)] Tryz.f240,fun p=>none,0,[]⟩
theorem q112K:Contract Tryz.prog 240 (q112V):=ctr q112C (rs := [(ty_4,true)]) (ps:=q112p) q112F Tryz.f240 16 ⟨tyOf_ok tys_ok,gOf_ok trivial⟩ (annl [] trivial)

noncomputable def q113V(k:Nat):Variant:=⟨[.val ty_4 true,.val ty_0 false],[(ty_4,true)],fun x=>spec_ivUp k x.1 x.2.1⟩
noncomputable def q113C(k:Nat):Cfg:=⟨Tryz.prog,tyOf tys,10,gOf [(240,[],q112V),(232,[],q111V k)],false,[],[]⟩
def q113p:List PE := [e51,e3]
noncomputable def q113F(k:Nat):F10:=⟨q113C k,rr q113p [(ty_4,true)] Tryz.f233,fun p=>none,0,[]⟩
theorem q113K(k:Nat):Contract Tryz.prog 233 (q113V k):=ctr (q113C k) (rs := [(ty_4,true)]) (ps:=q113p) (q113F k) Tryz.f233 32 ⟨tyOf_ok tys_ok,gOf_ok ⟨q112K,q111K k,trivial⟩⟩ (annl [] trivial)

noncomputable def q114V(k:Nat):Variant:=⟨[.val ty_14 true,.val ty_0 false],[(ty_14,true)],fun x=>spec_ivRound k x.1 x.2.1⟩
noncomputable def q114C(k:Nat):Cfg:=⟨Tryz.prog,tyOf tys,14,gOf [(232,[],q111V k),(233,[],q113V k)],false,[],[]⟩
def q114p:List PE := [e57,e3]
noncomputable def q114F(k:Nat):F12:=⟨q114C k,rr q114p [(ty_14,true)] Tryz.f214,fun p=>none,0,[]⟩
theorem q114K(k:Nat):Contract Tryz.prog 214 (q114V k):=ctr (q114C k) (rs := [(ty_14,true)]) (ps:=q114p) (q114F k) Tryz.f214 32 ⟨tyOf_ok tys_ok,gOf_ok ⟨q111K k,q113K k,trivial⟩⟩ (annl [] trivial)

noncomputable def q115V(k:Nat):Variant:=⟨[.val ty_14 true,.val ty_0 false],[(ty_14,true),(.bool,false)],fun x=>spec_ivPower k x.1 x.2.1⟩
noncomputable def q115C(k:Nat):Cfg:=⟨Tryz.prog,tyOf tys,53,gOf [(213,[],q109V k),(199,[],q110V),(195,[],q106V),(161,[],q103V k),(214,[],q114V k)],false,[],[]⟩
def q115p:List PE := [e57,e3]
noncomputable def q115F(k:Nat):F13:=⟨q115C k,rr q115p [(ty_14,true),(.bool,false)] Tryz.f196,fun p=>bif Nat.beq p 126 then some (.cut [e63,⟨10,48,.eat ty_4,false⟩] 64)else none,0,[]⟩
theorem q115K(k:Nat):Contract Tryz.prog 196 (q115V k):=ctr (q115C k) (rs := [(ty_14,true),(.bool,false)]) (ps:=q115p) (q115F k) Tryz.f196 32 ⟨tyOf_ok tys_ok,gOf_ok ⟨q109K k,q110K,q106K,q103K k,q114K k,trivial⟩⟩ (annl [] trivial)

noncomputable def q116V(k:Nat):Variant:=⟨[.val ty_14 true,.val ty_14 true],[(ty_14,true),(.bool,false)],fun x=>spec_ivMul k x.1 x.2.1⟩
noncomputable def q116C(k:Nat):Cfg:=⟨Tryz.prog,tyOf tys,51,gOf [(215,[],q108V k),(161,[],q103V k),(214,[],q114V k)],false,[],[]⟩
def q116i1:List PE := [e77,e60,e79,⟨8,80,.box ty_4 false,false⟩,⟨17,96,.eat ty_4,false⟩,⟨18,112,.val ty_0 false,false⟩,⟨19,128,.val ty_0 false,false⟩,⟨27,144,.eat ty_4,false⟩,⟨28,160,.val ty_0 false,false⟩,⟨29,176,.val ty_0 false,false⟩]
def q116o1:List PE := [e77,e60,e79,⟨17,80,.eat ty_4,false⟩,e80,⟨19,112,.val ty_0 false,false⟩]
noncomputable def q116f1(k:Nat)(n:Nat)(x2:PTe q116i1):=spec_ivMul_L14950 k n x2.1 x2.2.1 x2.2.2.1 x2.2.2.2.1 x2.2.2.2.2.1 x2.2.2.2.2.2.1 x2.2.2.2.2.2.2.1 x2.2.2.2.2.2.2.2.1 x2.2.2.2.2.2.2.2.2.1 x2.2.2.2.2.2.2.2.2.2.1
def q116i2:List PE := [e77,e60,e79,⟨17,80,.eat ty_4,false⟩,e80,⟨19,112,.val ty_0 false,false⟩]
def q116o2:List PE := [e63,⟨6,48,.eat ty_4,false⟩]
noncomputable def q116f2(k:Nat)(n:Nat)(x5:PTe q116i2):=spec_ivMul_L58 k n x5.1 x5.2.1 x5.2.2.1 x5.2.2.2.1 x5.2.2.2.2.1 x5.2.2.2.2.2.1
def q116p:List PE := [e57,e58]
noncomputable def q116F(k:Nat):F13:=⟨q116C k,rr q116p [(ty_14,true),(.bool,false)] Tryz.f197,fun p=>bif Nat.beq p 14950 then some (.loop q116i1 q116o1 2 192 (q116f1 k k))else bif Nat.beq p 58 then some (.loop q116i2 q116o2 0 128 (q116f2 k k))else none,0,[]⟩
theorem q116K(k:Nat):Contract Tryz.prog 197 (q116V k):=ctr (q116C k) (rs := [(ty_14,true),(.bool,false)]) (ps:=q116p) (q116F k) Tryz.f197 32 ⟨tyOf_ok tys_ok,gOf_ok ⟨q108K k,q103K k,q114K k,trivial⟩⟩ (annl [58,14950] ⟨lok q116i2 q116o2 0 128 (q116f2 k) k,lok q116i1 q116o1 2 192 (q116f1 k) k,trivial⟩)

noncomputable def q117V(k:Nat):Variant:=⟨[.val ty_4 true,.val ty_4 true],[(ty_4,true),(.bool,false)],fun x=>spec_dyAdd k x.1 x.2.1⟩
noncomputable def q117C(k:Nat):Cfg:=⟨Tryz.prog,tyOf tys,42,gOf [(148,[],q22V),(164,[],q101V k),(163,[],q95V k)],false,[],[]⟩
def q117p:List PE := [e51,e54]
noncomputable def q117F(k:Nat):F9:=⟨q117C k,rr q117p [(ty_4,true),(.bool,false)] Tryz.f216,fun p=>none,0,[]⟩
theorem q117K(k:Nat):Contract Tryz.prog 216 (q117V k):=ctr (q117C k) (rs := [(ty_4,true),(.bool,false)]) (ps:=q117p) (q117F k) Tryz.f216 32 ⟨tyOf_ok tys_ok,gOf_ok ⟨q22K,q101K k,q95K k,trivial⟩⟩ (annl [] trivial)

noncomputable def q118V:Variant:=⟨[.val ty_4 true,.val .bool false,.val ty_4 true,.val .bool false],[(ty_14,true),(.bool,false)],fun x=>spec_ivBoth x.1 x.2.1 x.2.2.1 x.2.2.2.1⟩
noncomputable def q118C:Cfg:=⟨Tryz.prog,tyOf tys,20,gOf [],false,[],[]⟩
def q118p:List PE := [e51,⟨1,16,.val .bool false,false⟩,e56,⟨3,48,.val .bool false,false⟩]
noncomputable def q118F:F13:=⟨q118C,rr q118p [(ty_14,true),(.bool,false)] Tryz.f217,fun p=>none,0,[]⟩
theorem q118K:Contract Tryz.prog 217 (q118V):=ctr q118C (rs := [(ty_14,true),(.bool,false)]) (ps:=q118p) q118F Tryz.f217 64 ⟨tyOf_ok tys_ok,gOf_ok trivial⟩ (annl [] trivial)

noncomputable def q119V(k:Nat):Variant:=⟨[.val ty_14 true,.val ty_14 true],[(ty_14,true),(.bool,false)],fun x=>spec_ivAdd k x.1 x.2.1⟩
noncomputable def q119C(k:Nat):Cfg:=⟨Tryz.prog,tyOf tys,33,gOf [(216,[],q117V k),(217,[],q118V)],false,[],[]⟩
def q119p:List PE := [e57,e58]
noncomputable def q119F(k:Nat):F13:=⟨q119C k,rr q119p [(ty_14,true),(.bool,false)] Tryz.f198,fun p=>none,0,[]⟩
theorem q119K(k:Nat):Contract Tryz.prog 198 (q119V k):=ctr (q119C k) (rs := [(ty_14,true),(.bool,false)]) (ps:=q119p) (q119F k) Tryz.f198 32 ⟨tyOf_ok tys_ok,gOf_ok ⟨q117K k,q118K,trivial⟩⟩ (annl [] trivial)

noncomputable def q120V(k:Nat):Variant:=⟨[.val ty_7 false,.val ty_17 false],[(ty_14,true),(.bool,false)],fun x=>spec_vaOver k x.1 x.2.1⟩
noncomputable def q120C(k:Nat):Cfg:=⟨Tryz.prog,tyOf tys,71,gOf [(195,[],q106V),(162,[],q104V),(165,[],q87V),(196,[],q115V k),(197,[],q116V k),(198,[],q119V k)],false,[],[]⟩
def q120i1:List PE := [e59,e60,e81,⟨8,80,.box ty_6 false,false⟩,⟨9,96,.box ty_14 false,false⟩,⟨20,112,.val ty_7 false,false⟩,⟨21,128,.val ty_0 false,false⟩,⟨22,144,.val ty_0 false,false⟩,⟨30,160,.val ty_17 false,false⟩,⟨31,176,.val ty_0 false,false⟩,⟨32,192,.val ty_0 false,false⟩]
def q120o1:List PE := [e59,e60,e81,⟨9,80,.box ty_14 false,false⟩,⟨20,96,.val ty_7 false,false⟩,⟨21,112,.val ty_0 false,false⟩,⟨22,128,.val ty_0 false,false⟩]
noncomputable def q120f1(k:Nat)(n:Nat)(x8:PTe q120i1):=spec_vaOver_L59802 k n x8.1 x8.2.1 x8.2.2.1 x8.2.2.2.1 x8.2.2.2.2.1 x8.2.2.2.2.2.1 x8.2.2.2.2.2.2.1 x8.2.2.2.2.2.2.2.1 x8.2.2.2.2.2.2.2.2.1 x8.2.2.2.2.2.2.2.2.2.1 x8.2.2.2.2.2.2.2.2.2.2.1
def q120i2:List PE := [e59,e60,e81,⟨20,80,.val ty_7 false,false⟩,⟨21,96,.val ty_0 false,false⟩,⟨22,112,.val ty_0 false,false⟩]
def q120o2:List PE := [e63,⟨6,48,.box ty_14 false,false⟩]
noncomputable def q120f2(k:Nat)(n:Nat)(x12:PTe q120i2):=spec_vaOver_L58 k n x12.1 x12.2.1 x12.2.2.1 x12.2.2.2.1 x12.2.2.2.2.1 x12.2.2.2.2.2.1
def q120p:List PE := [e14,e64]
noncomputable def q120F(k:Nat):F13:=⟨q120C k,rr q120p [(ty_14,true),(.bool,false)] Tryz.f172,fun p=>bif Nat.beq p 59802 then some (.loop q120i1 q120o1 2 208 (q120f1 k k))else bif Nat.beq p 58 then some (.loop q120i2 q120o2 0 128 (q120f2 k k))else none,0,[]⟩
theorem q120K(k:Nat):Contract Tryz.prog 172 (q120V k):=ctr (q120C k) (rs := [(ty_14,true),(.bool,false)]) (ps:=q120p) (q120F k) Tryz.f172 32 ⟨tyOf_ok tys_ok,gOf_ok ⟨q106K,q104K,q87K,q115K k,q116K k,q119K k,trivial⟩⟩ (annl [58,59802] ⟨lok q120i2 q120o2 0 128 (q120f2 k) k,lok q120i1 q120o1 2 208 (q120f1 k) k,trivial⟩)

noncomputable def q121V:Variant:=⟨[.val ty_14 true],[(ty_0,false)],fun x=>spec_ivSign x.1⟩
noncomputable def q121C:Cfg:=⟨Tryz.prog,tyOf tys,9,gOf [(199,[],q110V),(120,[],q7V)],false,[],[]⟩
def q121p:List PE := [e57]
noncomputable def q121F:F2:=⟨q121C,rr q121p [(ty_0,false)] Tryz.f173,fun p=>none,0,[]⟩
theorem q121K:Contract Tryz.prog 173 (q121V):=ctr q121C (rs := [(ty_0,false)]) (ps:=q121p) q121F Tryz.f173 16 ⟨tyOf_ok tys_ok,gOf_ok ⟨q110K,q7K,trivial⟩⟩ (annl [] trivial)

noncomputable def q122V(k:Nat):Variant:=⟨[.val ty_8 false,.val ty_17 false,.val ty_0 false],[(.bool,false)],fun x=>spec_imHolds k x.1 x.2.1 x.2.2.1⟩
noncomputable def q122C(k:Nat):Cfg:=⟨Tryz.prog,tyOf tys,29,gOf [(172,[],q120V k),(173,[],q121V)],false,[],[]⟩
def q122p:List PE := [e40,e64,e6]
noncomputable def q122F(k:Nat):F3:=⟨q122C k,rr q122p [(.bool,false)] Tryz.f160,fun p=>none,0,[]⟩
theorem q122K(k:Nat):Contract Tryz.prog 160 (q122V k):=ctr (q122C k) (rs := [(.bool,false)]) (ps:=q122p) (q122F k) Tryz.f160 48 ⟨tyOf_ok tys_ok,gOf_ok ⟨q120K k,q121K,trivial⟩⟩ (annl [] trivial)

noncomputable def q123V(k:Nat):Variant:=⟨[.val ty_8 false,.val ty_17 false],[(ty_0,false),(.bool,false)],fun x=>spec_imReason k x.1 x.2.1⟩
noncomputable def q123C(k:Nat):Cfg:=⟨Tryz.prog,tyOf tys,16,gOf [(160,[],q122V k)],false,[],[]⟩
def q123i1:List PE := [e66,⟨1,48,.val ty_17 false,false⟩,e19]
def q123o1:List PE := []
noncomputable def q123f1(k:Nat)(n:Nat)(x2:PTe q123i1):=spec_imReason_L26 k n x2.1 x2.2.1 x2.2.2.1
def q123p:List PE := [e40,e64]
noncomputable def q123F(k:Nat):F15:=⟨q123C k,rr q123p [(ty_0,false),(.bool,false)] Tryz.f113,fun p=>bif Nat.beq p 26 then some (.loop q123i1 q123o1 0 80 (q123f1 k k))else none,0,[]⟩
theorem q123K(k:Nat):Contract Tryz.prog 113 (q123V k):=ctr (q123C k) (rs := [(ty_0,false),(.bool,false)]) (ps:=q123p) (q123F k) Tryz.f113 32 ⟨tyOf_ok tys_ok,gOf_ok ⟨q122K k,trivial⟩⟩ (annl [26] ⟨lok q123i1 q123o1 0 80 (q123f1 k) k,trivial⟩)

noncomputable def q124V(k:Nat):Variant:=⟨[.val ty_8 false,.val ty_11 true,.val ty_0 false],[(ty_9,false)],fun x=>spec_imReasons k x.1 x.2.1 x.2.2.1⟩
noncomputable def q124C(k:Nat):Cfg:=⟨Tryz.prog,tyOf tys,36,gOf [(60,[],q98V k),(114,[],q105V k),(113,[],q123V k)],false,[],[]⟩
def q124i1:List PE := [e65,⟨7,64,.eat ty_0,false⟩,⟨14,80,.eat ty_16,false⟩,e68,⟨16,112,.val ty_0 false,false⟩]
def q124o1:List PE := [⟨7,48,.eat ty_0,false⟩]
noncomputable def q124f1(k:Nat)(n:Nat)(x4:PTe q124i1):=spec_imReasons_L58 k n x4.1 x4.2.1 x4.2.2.1 x4.2.2.2.1 x4.2.2.2.2.1
def q124p:List PE := [e40,e70,e6]
noncomputable def q124F(k:Nat):Fn (List Int):=⟨q124C k,rr q124p [(ty_9,false)] Tryz.f56,fun p=>bif Nat.beq p 58 then some (.loop q124i1 q124o1 0 128 (q124f1 k k))else none,0,[]⟩
theorem q124K(k:Nat):Contract Tryz.prog 56 (q124V k):=ctr (q124C k) (rs := [(ty_9,false)]) (ps:=q124p) (q124F k) Tryz.f56 48 ⟨tyOf_ok tys_ok,gOf_ok ⟨q98K k,q105K k,q123K k,trivial⟩⟩ (annl [58] ⟨lok q124i1 q124o1 0 128 (q124f1 k) k,trivial⟩)

noncomputable def q125V(k:Nat):Variant:=⟨[.val ty_8 false,.val ty_11 true,.val ty_0 false],[(ty_9,false),(.bool,false)],fun x=>spec_imAll k x.1 x.2.1 x.2.2.1⟩
noncomputable def q125C(k:Nat):Cfg:=⟨Tryz.prog,tyOf tys,20,gOf [(56,[],q124V k),(57,[],q20V)],false,[],[]⟩
def q125p:List PE := [e40,e70,e6]
noncomputable def q125F(k:Nat):F14:=⟨q125C k,rr q125p [(ty_9,false),(.bool,false)] Tryz.f49,fun p=>none,0,[]⟩
theorem q125K(k:Nat):Contract Tryz.prog 49 (q125V k):=ctr (q125C k) (rs := [(ty_9,false),(.bool,false)]) (ps:=q125p) (q125F k) Tryz.f49 48 ⟨tyOf_ok tys_ok,gOf_ok ⟨q124K k,q20K,trivial⟩⟩ (annl [] trivial)

noncomputable def q126V(k:Nat):Variant:=⟨[.val ty_8 false,.val ty_11 true,.val ty_0 false],[(ty_9,false),(.bool,false)],fun x=>spec_BoundaryReasons k x.1 x.2.1 x.2.2.1⟩
noncomputable def q126C(k:Nat):Cfg:=⟨Tryz.prog,tyOf tys,19,gOf [(48,[],q93V k),(49,[],q125V k)],false,[],[]⟩
def q126p:List PE := [e40,e70,e6]
noncomputable def q126F(k:Nat):F14:=⟨q126C k,rr q126p [(ty_9,false),(.bool,false)] Tryz.f7,fun p=>none,0,[]⟩
theorem q126K(k:Nat):Contract Tryz.prog 7 (q126V k):=ctr (q126C k) (rs := [(ty_9,false),(.bool,false)]) (ps:=q126p) (q126F k) Tryz.f7 48 ⟨tyOf_ok tys_ok,gOf_ok ⟨q93K k,q125K k,trivial⟩⟩ (annl [] trivial)

noncomputable def q127V(k:Nat):Variant:=⟨[.val ty_9 false],[(ty_0,false),(.bool,false)],fun x=>impl_turnsOf k x.1⟩
noncomputable def q127C(k:Nat):Cfg:=⟨Tryz.prog,tyOf tys,42,gOf [],false,[],[]⟩
def q127i1:List PE := [⟨0,16,.val ty_9 false,false⟩,e22,⟨7,48,.val ty_9 false,false⟩,e30,e72]
def q127o1:List PE := [⟨4,16,.val ty_0 false,false⟩]
noncomputable def q127f1(k:Nat)(n:Nat)(x1:PTe q127i1):=impl_turnsOf_L58 k n x1.1 x1.2.1 x1.2.2.1 x1.2.2.2.1 x1.2.2.2.2.1
def q127p:List PE := [e27]
noncomputable def q127F(k:Nat):F15:=⟨q127C k,rr q127p [(ty_0,false),(.bool,false)] Tryz.f67,fun p=>bif Nat.beq p 58 then some (.loop q127i1 q127o1 0 96 (q127f1 k k))else none,0,[]⟩
theorem q127K(k:Nat):Contract Tryz.prog 67 (q127V k):=ctr (q127C k) (rs := [(ty_0,false),(.bool,false)]) (ps:=q127p) (q127F k) Tryz.f67 16 ⟨tyOf_ok tys_ok,gOf_ok trivial⟩ (annl [58] ⟨lok q127i1 q127o1 0 96 (q127f1 k) k,trivial⟩)

noncomputable def q128V(k:Nat):Variant:=⟨[.val ty_8 false,.ptr ty_11 false,.val ty_0 false],[(ty_0,false),(.bool,false)],fun x=>impl_windingOf k x.1 x.2.1 x.2.2.1⟩
noncomputable def q128C(k:Nat):Cfg:=⟨Tryz.prog,tyOf tys,23,gOf [(47,[],q85V k),(67,[],q127V k)],false,[],[]⟩
def q128p:List PE := [e40,e42,e6]
noncomputable def q128F(k:Nat):F15:=⟨q128C k,rr q128p [(ty_0,false),(.bool,false)] Tryz.f50,fun p=>none,0,[]⟩
theorem q128K(k:Nat):Contract Tryz.prog 50 (q128V k):=ctr (q128C k) (rs := [(ty_0,false),(.bool,false)]) (ps:=q128p) (q128F k) Tryz.f50 48 ⟨tyOf_ok tys_ok,gOf_ok ⟨q85K k,q127K k,trivial⟩⟩ (annl [] trivial)

noncomputable def q129V(k:Nat):Variant:=⟨[.val ty_8 false,.val ty_11 true,.val ty_0 false],[(ty_0,false),(.bool,false)],fun x=>impl_WindingOf k x.1 x.2.1 x.2.2.1⟩
noncomputable def q129C(k:Nat):Cfg:=⟨Tryz.prog,tyOf tys,21,gOf [(45,[],q46V k),(46,[],q32V),(50,[],q128V k)],false,[],[]⟩
def q129p:List PE := [e40,e70,e6]
noncomputable def q129F(k:Nat):F15:=⟨q129C k,rr q129p [(ty_0,false),(.bool,false)] Tryz.f8,fun p=>none,0,[]⟩
theorem q129K(k:Nat):Contract Tryz.prog 8 (q129V k):=ctr (q129C k) (rs := [(ty_0,false),(.bool,false)]) (ps:=q129p) (q129F k) Tryz.f8 48 ⟨tyOf_ok tys_ok,gOf_ok ⟨q46K k,q32K,q128K k,trivial⟩⟩ (annl [] trivial)

noncomputable def q130V(k:Nat):Variant:=⟨[.val ty_9 false],[(ty_0,false),(.bool,false)],fun x=>spec_imTurns k x.1⟩
noncomputable def q130C(k:Nat):Cfg:=⟨Tryz.prog,tyOf tys,42,gOf [],false,[],[]⟩
def q130i1:List PE := [⟨0,16,.val ty_9 false,false⟩,e22,⟨7,48,.val ty_9 false,false⟩,e30,e72]
def q130o1:List PE := [⟨4,16,.val ty_0 false,false⟩]
noncomputable def q130f1(k:Nat)(n:Nat)(x1:PTe q130i1):=spec_imTurns_L58 k n x1.1 x1.2.1 x1.2.2.1 x1.2.2.2.1 x1.2.2.2.2.1
def q130p:List PE := [e27]
noncomputable def q130F(k:Nat):F15:=⟨q130C k,rr q130p [(ty_0,false),(.bool,false)] Tryz.f51,fun p=>bif Nat.beq p 58 then some (.loop q130i1 q130o1 0 96 (q130f1 k k))else none,0,[]⟩
theorem q130K(k:Nat):Contract Tryz.prog 51 (q130V k):=ctr (q130C k) (rs := [(ty_0,false),(.bool,false)]) (ps:=q130p) (q130F k) Tryz.f51 16 ⟨tyOf_ok tys_ok,gOf_ok trivial⟩ (annl [58] ⟨lok q130i1 q130o1 0 96 (q130f1 k) k,trivial⟩)

noncomputable def q131V(k:Nat):Variant:=⟨[.val ty_8 false,.val ty_11 true,.val ty_0 false],[(ty_0,false),(.bool,false)],fun x=>spec_WindingOf k x.1 x.2.1 x.2.2.1⟩
noncomputable def q131C(k:Nat):Cfg:=⟨Tryz.prog,tyOf tys,34,gOf [(48,[],q93V k),(49,[],q125V k),(51,[],q130V k)],false,[],[]⟩
def q131p:List PE := [e40,e70,e6]
noncomputable def q131F(k:Nat):F15:=⟨q131C k,rr q131p [(ty_0,false),(.bool,false)] Tryz.f9,fun p=>none,0,[]⟩
theorem q131K(k:Nat):Contract Tryz.prog 9 (q131V k):=ctr (q131C k) (rs := [(ty_0,false),(.bool,false)]) (ps:=q131p) (q131F k) Tryz.f9 48 ⟨tyOf_ok tys_ok,gOf_ok ⟨q93K k,q125K k,q130K k,trivial⟩⟩ (annl [] trivial)

noncomputable def q132V(k:Nat):Variant:=⟨[.val ty_16 true,.ptr ty_8 false],[(.bool,false)],fun x=>impl_FirstFailure_1 k x.1 x.2.1⟩
noncomputable def q132C(k:Nat):Cfg:=⟨Tryz.prog,tyOf tys,8,gOf [(55,[],q84V k)],false,[],[]⟩
def q132p:List PE := [⟨0,0,.val ty_16 true,false⟩,⟨1,16,.ptr ty_8 false,false⟩]
noncomputable def q132F(k:Nat):F3:=⟨q132C k,rr q132p [(.bool,false)] Tryz.f54,fun p=>none,0,[]⟩
theorem q132K(k:Nat):Contract Tryz.prog 54 (q132V k):=ctr (q132C k) (rs := [(.bool,false)]) (ps:=q132p) (q132F k) Tryz.f54 32 ⟨tyOf_ok tys_ok,gOf_ok ⟨q84K k,trivial⟩⟩ (annl [] trivial)

noncomputable def q133V(k:Nat):Variant:=⟨[.val ty_19 false,.fn 54 [(ty_8,.pr)]],[(ty_0,false)],fun x=>slices_IndexFunc_Edge_Edge_impl_FirstFailure_1 k x.1 x.2.1⟩
noncomputable def q133C(k:Nat):Cfg:=⟨Tryz.prog,tyOf tys,19,gOf [(54,[],q132V k)],false,[],[]⟩
def q133i1:List PE := [⟨0,32,.val ty_19 false,false⟩,⟨1,48,.fn 54 [(ty_8,.pr)],false⟩,e17,e21]
def q133o1:List PE := []
noncomputable def q133f1(k:Nat)(n:Nat)(x2:PTe q133i1):=slices_IndexFunc_Edge_Edge_impl_FirstFailure_1_L26 k n x2.1 x2.2.1 x2.2.2.1 x2.2.2.2.1
def q133p:List PE := [⟨0,0,.val ty_19 false,false⟩,⟨1,16,.fn 54 [(ty_8,.pr)],false⟩]
noncomputable def q133F(k:Nat):F2:=⟨q133C k,rr q133p [(ty_0,false)] Tryz.f52,fun p=>bif Nat.beq p 26 then some (.loop q133i1 q133o1 0 96 (q133f1 k k))else none,0,[]⟩
theorem q133K(k:Nat):Contract Tryz.prog 52 (q133V k):=ctr (q133C k) (rs := [(ty_0,false)]) (ps:=q133p) (q133F k) Tryz.f52 32 ⟨tyOf_ok tys_ok,gOf_ok ⟨q132K k,trivial⟩⟩ (annl [26] ⟨lok q133i1 q133o1 0 96 (q133f1 k) k,trivial⟩)

noncomputable def q134V(k:Nat):Variant:=⟨[.val ty_8 false,.val ty_11 true,.val ty_0 false],[(ty_0,false),(.bool,false)],fun x=>impl_FirstFailure k x.1 x.2.1 x.2.2.1⟩
noncomputable def q134C(k:Nat):Cfg:=⟨Tryz.prog,tyOf tys,25,gOf [(45,[],q46V k),(46,[],q32V),(53,[],q54V k),(52,[54],q133V k)],false,[],[]⟩
def q134p:List PE := [e40,e70,e6]
noncomputable def q134F(k:Nat):F15:=⟨q134C k,rr q134p [(ty_0,false),(.bool,false)] Tryz.f10,fun p=>none,0,[]⟩
theorem q134K(k:Nat):Contract Tryz.prog 10 (q134V k):=ctr (q134C k) (rs := [(ty_0,false),(.bool,false)]) (ps:=q134p) (q134F k) Tryz.f10 48 ⟨tyOf_ok tys_ok,gOf_ok ⟨q46K k,q32K,q54K k,q133K k,trivial⟩⟩ (annl [] trivial)

noncomputable def q135V(k:Nat):Variant:=⟨[.val ty_8 false,.val ty_11 true,.val ty_0 false],[(ty_0,false),(.bool,false)],fun x=>spec_FirstFailure k x.1 x.2.1 x.2.2.1⟩
noncomputable def q135C(k:Nat):Cfg:=⟨Tryz.prog,tyOf tys,25,gOf [(48,[],q93V k),(56,[],q124V k),(57,[],q20V)],false,[],[]⟩
def q135p:List PE := [e40,e70,e6]
noncomputable def q135F(k:Nat):F15:=⟨q135C k,rr q135p [(ty_0,false),(.bool,false)] Tryz.f11,fun p=>none,0,[]⟩
theorem q135K(k:Nat):Contract Tryz.prog 11 (q135V k):=ctr (q135C k) (rs := [(ty_0,false),(.bool,false)]) (ps:=q135p) (q135F k) Tryz.f11 48 ⟨tyOf_ok tys_ok,gOf_ok ⟨q93K k,q124K k,q20K,trivial⟩⟩ (annl [] trivial)

noncomputable def q136V(k:Nat):Variant:=⟨[.val ty_7 false,.val ty_18 false],[(ty_0,false)],fun x=>impl_scaledAt k x.1 x.2.1⟩
noncomputable def q136C(k:Nat):Cfg:=⟨Tryz.prog,tyOf tys,54,gOf [(115,[],q33V),(116,[],q40V)],false,[],[]⟩
def q136i1:List PE := [e82,e71,e30,e72,⟨11,96,.val ty_7 false,false⟩,⟨12,112,.val ty_0 false,false⟩,⟨13,128,.val ty_0 false,false⟩,⟨25,144,.val ty_5 true,false⟩,⟨26,160,.val ty_0 false,false⟩,⟨30,176,.val ty_0 false,false⟩,⟨31,192,.val ty_0 false,false⟩]
def q136o1:List PE := [e82,e71,e30,e83,e84,e85,⟨25,128,.val ty_5 true,false⟩,⟨26,144,.val ty_0 false,false⟩]
noncomputable def q136f1(k:Nat)(n:Nat)(x3:PTe q136i1):=impl_scaledAt_L15309414 k n x3.1 x3.2.1 x3.2.2.1 x3.2.2.2.1 x3.2.2.2.2.1 x3.2.2.2.2.2.1 x3.2.2.2.2.2.2.1 x3.2.2.2.2.2.2.2.1 x3.2.2.2.2.2.2.2.2.1 x3.2.2.2.2.2.2.2.2.2.1 x3.2.2.2.2.2.2.2.2.2.2.1
def q136i2:List PE := [e82,e71,e30,e83,e84,e85,⟨25,128,.val ty_5 true,false⟩,⟨26,144,.val ty_0 false,false⟩]
def q136o2:List PE := [e82,e71,e30,e83,e84,e85]
noncomputable def q136f2(k:Nat)(n:Nat)(x12:PTe q136i2):=impl_scaledAt_L59802 k n x12.1 x12.2.1 x12.2.2.1 x12.2.2.2.1 x12.2.2.2.2.1 x12.2.2.2.2.2.1 x12.2.2.2.2.2.2.1 x12.2.2.2.2.2.2.2.1
def q136i3:List PE := [e82,e71,⟨11,64,.val ty_7 false,false⟩,e86,⟨13,96,.val ty_0 false,false⟩]
def q136o3:List PE := [⟨5,32,.val ty_0 false,false⟩]
noncomputable def q136f3(k:Nat)(n:Nat)(x15:PTe q136i3):=impl_scaledAt_L58 k n x15.1 x15.2.1 x15.2.2.1 x15.2.2.2.1 x15.2.2.2.2.1
def q136p:List PE := [e14,e87]
noncomputable def q136F(k:Nat):F2:=⟨q136C k,rr q136p [(ty_0,false)] Tryz.f58,fun p=>bif Nat.beq p 15309414 then some (.loop q136i1 q136o1 4 208 (q136f1 k k))else bif Nat.beq p 59802 then some (.loop q136i2 q136o2 2 160 (q136f2 k k))else bif Nat.beq p 58 then some (.loop q136i3 q136o3 0 112 (q136f3 k k))else none,0,[]⟩
theorem q136K(k:Nat):Contract Tryz.prog 58 (q136V k):=ctr (q136C k) (rs := [(ty_0,false)]) (ps:=q136p) (q136F k) Tryz.f58 32 ⟨tyOf_ok tys_ok,gOf_ok ⟨q33K,q40K,trivial⟩⟩ (annl [58,59802,15309414] ⟨lok q136i3 q136o3 0 112 (q136f3 k) k,lok q136i2 q136o2 2 160 (q136f2 k) k,lok q136i1 q136o1 4 208 (q136f1 k) k,trivial⟩)

noncomputable def q137V:Variant:=⟨[.val ty_0 false,.val ty_0 false],[(ty_0,false)],fun x=>impl_quarter x.1 x.2.1⟩
noncomputable def q137C:Cfg:=⟨Tryz.prog,tyOf tys,22,gOf [],false,[],[]⟩
def q137p:List PE := [e9,e3]
noncomputable def q137F:F2:=⟨q137C,rr q137p [(ty_0,false)] Tryz.f59,fun p=>none,0,[]⟩
theorem q137K:Contract Tryz.prog 59 (q137V):=ctr q137C (rs := [(ty_0,false)]) (ps:=q137p) q137F Tryz.f59 32 ⟨tyOf_ok tys_ok,gOf_ok trivial⟩ (annl [] trivial)

noncomputable def q138V(k:Nat):Variant:=⟨[.val ty_8 false,.val ty_11 true,.val ty_0 false],[(ty_9,false),(.bool,false)],fun x=>impl_CornerQuarters k x.1 x.2.1 x.2.2.1⟩
noncomputable def q138C(k:Nat):Cfg:=⟨Tryz.prog,tyOf tys,66,gOf [(45,[],q46V k),(46,[],q32V),(53,[],q54V k),(58,[],q136V k),(59,[],q137V)],false,[],[]⟩
def q138i1:List PE := [e65,e67,⟨23,80,.eat ty_16,false⟩,⟨24,96,.val ty_0 false,false⟩,⟨25,112,.val ty_0 false,false⟩]
def q138o1:List PE := [e69]
noncomputable def q138f1(k:Nat)(n:Nat)(x11:PTe q138i1):=impl_CornerQuarters_L122 k n x11.1 x11.2.1 x11.2.2.1 x11.2.2.2.1 x11.2.2.2.2.1
def q138p:List PE := [e40,e70,e6]
noncomputable def q138F(k:Nat):F14:=⟨q138C k,rr q138p [(ty_9,false),(.bool,false)] Tryz.f12,fun p=>bif Nat.beq p 125342 then some (.cut [e65,e67,e86,⟨13,96,.val ty_0 false,false⟩,⟨23,112,.eat ty_16,false⟩,⟨24,128,.val ty_0 false,false⟩,⟨25,144,.val ty_0 false,false⟩] 160)else bif Nat.beq p 31334 then some (.cut [e65,e67,⟨11,80,.eat ty_4,false⟩,⟨23,96,.eat ty_16,false⟩,⟨24,112,.val ty_0 false,false⟩,⟨25,128,.val ty_0 false,false⟩] 144)else bif Nat.beq p 122 then some (.loop q138i1 q138o1 0 128 (q138f1 k k))else none,0,[]⟩
theorem q138K(k:Nat):Contract Tryz.prog 12 (q138V k):=ctr (q138C k) (rs := [(ty_9,false),(.bool,false)]) (ps:=q138p) (q138F k) Tryz.f12 48 ⟨tyOf_ok tys_ok,gOf_ok ⟨q46K k,q32K,q54K k,q136K k,q137K,trivial⟩⟩ (annl [122] ⟨lok q138i1 q138o1 0 128 (q138f1 k) k,trivial⟩)

noncomputable def q139V(k:Nat):Variant:=⟨[.val ty_7 false,.val ty_18 false],[(ty_0,false),(ty_0,false)],fun x=>spec_vaSum k x.1 x.2.1⟩
noncomputable def q139C(k:Nat):Cfg:=⟨Tryz.prog,tyOf tys,85,gOf [(148,[],q22V),(164,[],q101V k),(165,[],q87V),(57,[],q20V)],false,[],[]⟩
def q139i1:List PE := [e11,⟨1,48,.val ty_18 false,false⟩,e19,⟨19,80,.val ty_18 false,false⟩,⟨20,96,.val ty_0 false,false⟩,⟨21,112,.val ty_0 false,false⟩]
def q139o1:List PE := [e11,⟨1,48,.val ty_18 false,false⟩,e19]
noncomputable def q139f1(k:Nat)(n:Nat)(x2:PTe q139i1):=spec_vaSum_L58 k n x2.1 x2.2.1 x2.2.2.1 x2.2.2.2.1 x2.2.2.2.2.1 x2.2.2.2.2.2.1
def q139i2:List PE := [e82,e16,e18,e88,e84,⟨15,112,.val ty_0 false,false⟩,e50,⟨30,144,.val ty_7 false,false⟩,⟨31,160,.val ty_0 false,false⟩,⟨32,176,.val ty_0 false,false⟩,⟨38,192,.val ty_18 false,false⟩,⟨39,208,.val ty_0 false,false⟩,⟨40,224,.val ty_0 false,false⟩]
def q139o2:List PE := [e82,e16,e18,e88,e84,e89,e90,e91,⟨38,160,.val ty_18 false,false⟩,⟨39,176,.val ty_0 false,false⟩,⟨40,192,.val ty_0 false,false⟩]
noncomputable def q139f2(k:Nat)(n:Nat)(x7:PTe q139i2):=spec_vaSum_L131282126 k n x7.1 x7.2.1 x7.2.2.1 x7.2.2.2.1 x7.2.2.2.2.1 x7.2.2.2.2.2.1 x7.2.2.2.2.2.2.1 x7.2.2.2.2.2.2.2.1 x7.2.2.2.2.2.2.2.2.1 x7.2.2.2.2.2.2.2.2.2.1 x7.2.2.2.2.2.2.2.2.2.2.1 x7.2.2.2.2.2.2.2.2.2.2.2.1 x7.2.2.2.2.2.2.2.2.2.2.2.2.1
def q139i3:List PE := [e82,e16,e18,e88,e84,e89,e90,e91,⟨38,160,.val ty_18 false,false⟩,⟨39,176,.val ty_0 false,false⟩,⟨40,192,.val ty_0 false,false⟩]
def q139o3:List PE := [e82,e16,e18,e88,e84,e89,e90,e91]
noncomputable def q139f3(k:Nat)(n:Nat)(x10:PTe q139i3):=spec_vaSum_L256410 k n x10.1 x10.2.1 x10.2.2.1 x10.2.2.2.1 x10.2.2.2.2.1 x10.2.2.2.2.2.1 x10.2.2.2.2.2.2.1 x10.2.2.2.2.2.2.2.1 x10.2.2.2.2.2.2.2.2.1 x10.2.2.2.2.2.2.2.2.2.1 x10.2.2.2.2.2.2.2.2.2.2.1
def q139i4:List PE := [e82,e16,e18,e86,e80,e89,e90,e91]
def q139o4:List PE := [e82,e16,e18,e86,⟨30,96,.val ty_7 false,false⟩,⟨31,112,.val ty_0 false,false⟩,⟨32,128,.val ty_0 false,false⟩]
noncomputable def q139f4(k:Nat)(n:Nat)(x14:PTe q139i4):=spec_vaSum_L512826 k n x14.1 x14.2.1 x14.2.2.1 x14.2.2.2.1 x14.2.2.2.2.1 x14.2.2.2.2.2.1 x14.2.2.2.2.2.2.1 x14.2.2.2.2.2.2.2.1
def q139i5:List PE := [e82,e16,e18,⟨30,80,.val ty_7 false,false⟩,⟨31,96,.val ty_0 false,false⟩,⟨32,112,.val ty_0 false,false⟩]
def q139o5:List PE := [⟨6,32,.val ty_0 false,false⟩,⟨9,48,.val ty_0 false,false⟩]
noncomputable def q139f5(k:Nat)(n:Nat)(x17:PTe q139i5):=spec_vaSum_L250 k n x17.1 x17.2.1 x17.2.2.1 x17.2.2.2.1 x17.2.2.2.2.1 x17.2.2.2.2.2.1
def q139p:List PE := [e14,e87]
noncomputable def q139F(k:Nat):F10:=⟨q139C k,rr q139p [(ty_0,false),(ty_0,false)] Tryz.f119,fun p=>bif Nat.beq p 58 then some (.loop q139i1 q139o1 0 128 (q139f1 k k))else bif Nat.beq p 131282126 then some (.loop q139i2 q139o2 6 240 (q139f2 k k))else bif Nat.beq p 256410 then some (.loop q139i3 q139o3 4 208 (q139f3 k k))else bif Nat.beq p 512826 then some (.loop q139i4 q139o4 8 160 (q139f4 k k))else bif Nat.beq p 250 then some (.loop q139i5 q139o5 2 128 (q139f5 k k))else none,0,[]⟩
theorem q139K(k:Nat):Contract Tryz.prog 119 (q139V k):=ctr (q139C k) (rs := [(ty_0,false),(ty_0,false)]) (ps:=q139p) (q139F k) Tryz.f119 32 ⟨tyOf_ok tys_ok,gOf_ok ⟨q22K,q101K k,q87K,q20K,trivial⟩⟩ (annl [58,250,256410,131282126,512826] ⟨lok q139i1 q139o1 0 128 (q139f1 k) k,lok q139i5 q139o5 2 128 (q139f5 k) k,lok q139i3 q139o3 4 208 (q139f3 k) k,lok q139i2 q139o2 6 240 (q139f2 k) k,lok q139i4 q139o4 8 160 (q139f4 k) k,trivial⟩)

noncomputable def q140V(k:Nat):Variant:=⟨[.val ty_8 false,.val ty_18 false],[(ty_9,false)],fun x=>spec_vaSigns k x.1 x.2.1⟩
noncomputable def q140C(k:Nat):Cfg:=⟨Tryz.prog,tyOf tys,29,gOf [(119,[],q139V k),(120,[],q7V)],false,[],[]⟩
def q140i1:List PE := [e82,⟨5,48,.eat ty_0,false⟩,⟨10,64,.val ty_8 false,false⟩,e38,e84]
def q140o1:List PE := [⟨5,32,.eat ty_0,false⟩]
noncomputable def q140f1(k:Nat)(n:Nat)(x3:PTe q140i1):=spec_vaSigns_L58 k n x3.1 x3.2.1 x3.2.2.1 x3.2.2.2.1 x3.2.2.2.2.1
def q140p:List PE := [e40,e87]
noncomputable def q140F(k:Nat):Fn (List Int):=⟨q140C k,rr q140p [(ty_9,false)] Tryz.f61,fun p=>bif Nat.beq p 58 then some (.loop q140i1 q140o1 0 112 (q140f1 k k))else none,0,[]⟩
theorem q140K(k:Nat):Contract Tryz.prog 61 (q140V k):=ctr (q140C k) (rs := [(ty_9,false)]) (ps:=q140p) (q140F k) Tryz.f61 32 ⟨tyOf_ok tys_ok,gOf_ok ⟨q139K k,q7K,trivial⟩⟩ (annl [58] ⟨lok q140i1 q140o1 0 112 (q140f1 k) k,trivial⟩)

noncomputable def q141V:Variant:=⟨[.val ty_0 false,.val ty_0 false],[(ty_0,false),(.bool,false)],fun x=>spec_imQuarter x.1 x.2.1⟩
noncomputable def q141C:Cfg:=⟨Tryz.prog,tyOf tys,25,gOf [],false,[],[]⟩
def q141p:List PE := [e9,e3]
noncomputable def q141F:F15:=⟨q141C,rr q141p [(ty_0,false),(.bool,false)] Tryz.f62,fun p=>none,0,[]⟩
theorem q141K:Contract Tryz.prog 62 (q141V):=ctr q141C (rs := [(ty_0,false),(.bool,false)]) (ps:=q141p) q141F Tryz.f62 32 ⟨tyOf_ok tys_ok,gOf_ok trivial⟩ (annl [] trivial)

noncomputable def q142V(k:Nat):Variant:=⟨[.val ty_8 false,.val ty_11 true,.val ty_0 false],[(ty_9,false),(.bool,false)],fun x=>spec_CornerQuarters k x.1 x.2.1 x.2.2.1⟩
noncomputable def q142C(k:Nat):Cfg:=⟨Tryz.prog,tyOf tys,62,gOf [(48,[],q93V k),(60,[],q98V k),(61,[],q140V k),(62,[],q141V)],false,[],[]⟩
def q142i1:List PE := [e65,e67,⟨22,80,.eat ty_16,false⟩,⟨23,96,.val ty_0 false,false⟩,⟨24,112,.val ty_0 false,false⟩]
def q142o1:List PE := [e69]
noncomputable def q142f1(k:Nat)(n:Nat)(x7:PTe q142i1):=spec_CornerQuarters_L122 k n x7.1 x7.2.1 x7.2.2.1 x7.2.2.2.1 x7.2.2.2.2.1
def q142p:List PE := [e40,e70,e6]
noncomputable def q142F(k:Nat):F14:=⟨q142C k,rr q142p [(ty_9,false),(.bool,false)] Tryz.f13,fun p=>bif Nat.beq p 31334 then some (.cut [e65,e67,⟨11,80,.eat ty_4,false⟩,⟨22,96,.eat ty_16,false⟩,⟨23,112,.val ty_0 false,false⟩,⟨24,128,.val ty_0 false,false⟩] 144)else bif Nat.beq p 122 then some (.loop q142i1 q142o1 0 128 (q142f1 k k))else none,0,[]⟩
theorem q142K(k:Nat):Contract Tryz.prog 13 (q142V k):=ctr (q142C k) (rs := [(ty_9,false),(.bool,false)]) (ps:=q142p) (q142F k) Tryz.f13 48 ⟨tyOf_ok tys_ok,gOf_ok ⟨q93K k,q98K k,q140K k,q141K,trivial⟩⟩ (annl [122] ⟨lok q142i1 q142o1 0 128 (q142f1 k) k,trivial⟩)

noncomputable def q143V(k:Nat):Variant:=⟨[.val ty_8 false,.ptr ty_11 false],[(ty_0,false),(.bool,false)],fun x=>impl_leastDepth k x.1 x.2.1⟩
noncomputable def q143C(k:Nat):Cfg:=⟨Tryz.prog,tyOf tys,22,gOf [(47,[],q85V k)],false,[],[]⟩
def q143i1:List PE := [e66,⟨1,48,.ptr ty_11 false,false⟩,e18]
def q143o1:List PE := []
noncomputable def q143f1(k:Nat)(n:Nat)(x2:PTe q143i1):=impl_leastDepth_L26 k n x2.1 x2.2.1 x2.2.2.1
def q143p:List PE := [e40,e42]
noncomputable def q143F(k:Nat):F15:=⟨q143C k,rr q143p [(ty_0,false),(.bool,false)] Tryz.f63,fun p=>bif Nat.beq p 26 then some (.loop q143i1 q143o1 0 80 (q143f1 k k))else none,0,[]⟩
theorem q143K(k:Nat):Contract Tryz.prog 63 (q143V k):=ctr (q143C k) (rs := [(ty_0,false),(.bool,false)]) (ps:=q143p) (q143F k) Tryz.f63 32 ⟨tyOf_ok tys_ok,gOf_ok ⟨q85K k,trivial⟩⟩ (annl [26] ⟨lok q143i1 q143o1 0 80 (q143f1 k) k,trivial⟩)

noncomputable def q144V(k:Nat):Variant:=⟨[.val ty_8 false,.val ty_11 true],[(ty_0,false),(.bool,false)],fun x=>impl_LeastDepth k x.1 x.2.1⟩
noncomputable def q144C(k:Nat):Cfg:=⟨Tryz.prog,tyOf tys,13,gOf [(45,[],q46V k),(63,[],q143V k)],false,[],[]⟩
def q144p:List PE := [e40,e70]
noncomputable def q144F(k:Nat):F15:=⟨q144C k,rr q144p [(ty_0,false),(.bool,false)] Tryz.f14,fun p=>none,0,[]⟩
theorem q144K(k:Nat):Contract Tryz.prog 14 (q144V k):=ctr (q144C k) (rs := [(ty_0,false),(.bool,false)]) (ps:=q144p) (q144F k) Tryz.f14 32 ⟨tyOf_ok tys_ok,gOf_ok ⟨q46K k,q143K k,trivial⟩⟩ (annl [] trivial)

noncomputable def q145V(k:Nat):Variant:=⟨[.val ty_8 false,.val ty_11 true],[(ty_0,false),(.bool,false)],fun x=>spec_LeastDepth k x.1 x.2.1⟩
noncomputable def q145C(k:Nat):Cfg:=⟨Tryz.prog,tyOf tys,26,gOf [(64,[],q91V k),(49,[],q125V k)],false,[],[]⟩
def q145i1:List PE := [e66,⟨3,48,.box ty_11 false,false⟩,e19]
def q145o1:List PE := []
noncomputable def q145f1(k:Nat)(n:Nat)(x3:PTe q145i1):=spec_LeastDepth_L58 k n x3.1 x3.2.1 x3.2.2.1
def q145p:List PE := [e40,e70]
noncomputable def q145F(k:Nat):F15:=⟨q145C k,rr q145p [(ty_0,false),(.bool,false)] Tryz.f15,fun p=>bif Nat.beq p 58 then some (.loop q145i1 q145o1 0 80 (q145f1 k k))else none,0,[]⟩
theorem q145K(k:Nat):Contract Tryz.prog 15 (q145V k):=ctr (q145C k) (rs := [(ty_0,false),(.bool,false)]) (ps:=q145p) (q145F k) Tryz.f15 32 ⟨tyOf_ok tys_ok,gOf_ok ⟨q91K k,q125K k,trivial⟩⟩ (annl [58] ⟨lok q145i1 q145o1 0 80 (q145f1 k) k,trivial⟩)

noncomputable def q146V(k:Nat):Variant:=⟨[.val ty_9 false,.val ty_9 false],[(.bool,false)],fun x=>laws_qInts k x.1 x.2.1⟩
noncomputable def q146C(k:Nat):Cfg:=⟨Tryz.prog,tyOf tys,26,gOf [],false,[],[]⟩
def q146i1:List PE := [⟨0,32,.val ty_9 false,false⟩,⟨1,48,.val ty_9 false,false⟩,⟨12,64,.val ty_0 false,false⟩,⟨13,80,.val ty_0 false,false⟩]
def q146o1:List PE := []
noncomputable def q146f1(k:Nat)(n:Nat)(x1:PTe q146i1):=laws_qInts_L58 k n x1.1 x1.2.1 x1.2.2.1 x1.2.2.2.1
def q146p:List PE := [e27,e4]
noncomputable def q146F(k:Nat):F3:=⟨q146C k,rr q146p [(.bool,false)] Tryz.f16,fun p=>bif Nat.beq p 58 then some (.loop q146i1 q146o1 0 96 (q146f1 k k))else none,0,[]⟩
theorem q146K(k:Nat):Contract Tryz.prog 16 (q146V k):=ctr (q146C k) (rs := [(.bool,false)]) (ps:=q146p) (q146F k) Tryz.f16 32 ⟨tyOf_ok tys_ok,gOf_ok trivial⟩ (annl [58] ⟨lok q146i1 q146o1 0 96 (q146f1 k) k,trivial⟩)

noncomputable def q147V:Variant:=⟨[.val ty_0 false],[(.bool,false)],fun x=>impl_areReasons_1 x.1⟩
noncomputable def q147C:Cfg:=⟨Tryz.prog,tyOf tys,6,gOf [(46,[],q32V)],false,[],[]⟩
def q147p:List PE := [e9]
noncomputable def q147F:F3:=⟨q147C,rr q147p [(.bool,false)] Tryz.f124,fun p=>none,0,[]⟩
theorem q147K:Contract Tryz.prog 124 (q147V):=ctr q147C (rs := [(.bool,false)]) (ps:=q147p) q147F Tryz.f124 16 ⟨tyOf_ok tys_ok,gOf_ok ⟨q32K,trivial⟩⟩ (annl [] trivial)

noncomputable def q148V(k:Nat):Variant:=⟨[.val ty_9 false,.fn 124 []],[(ty_0,false)],fun x=>slices_IndexFunc_int_int_impl_areReasons_1 k x.1 x.2.1⟩
noncomputable def q148C(k:Nat):Cfg:=⟨Tryz.prog,tyOf tys,19,gOf [(124,[],q147V)],false,[],[]⟩
def q148i1:List PE := [⟨0,32,.val ty_9 false,false⟩,⟨1,48,.fn 124 [],false⟩,e17,e21]
def q148o1:List PE := []
noncomputable def q148f1(k:Nat)(n:Nat)(x2:PTe q148i1):=slices_IndexFunc_int_int_impl_areReasons_1_L26 k n x2.1 x2.2.1 x2.2.2.1 x2.2.2.2.1
def q148p:List PE := [e27,⟨1,16,.fn 124 [],false⟩]
noncomputable def q148F(k:Nat):F2:=⟨q148C k,rr q148p [(ty_0,false)] Tryz.f168,fun p=>bif Nat.beq p 26 then some (.loop q148i1 q148o1 0 96 (q148f1 k k))else none,0,[]⟩
theorem q148K(k:Nat):Contract Tryz.prog 168 (q148V k):=ctr (q148C k) (rs := [(ty_0,false)]) (ps:=q148p) (q148F k) Tryz.f168 32 ⟨tyOf_ok tys_ok,gOf_ok ⟨q147K,trivial⟩⟩ (annl [26] ⟨lok q148i1 q148o1 0 96 (q148f1 k) k,trivial⟩)

noncomputable def q149V(k:Nat):Variant:=⟨[.val ty_9 false,.fn 124 []],[(.bool,false)],fun x=>slices_ContainsFunc_int_int_impl_areReasons_1 k x.1 x.2.1⟩
noncomputable def q149C(k:Nat):Cfg:=⟨Tryz.prog,tyOf tys,9,gOf [(168,[124],q148V k)],false,[],[]⟩
def q149p:List PE := [e27,⟨1,16,.fn 124 [],false⟩]
noncomputable def q149F(k:Nat):F3:=⟨q149C k,rr q149p [(.bool,false)] Tryz.f123,fun p=>none,0,[]⟩
theorem q149K(k:Nat):Contract Tryz.prog 123 (q149V k):=ctr (q149C k) (rs := [(.bool,false)]) (ps:=q149p) (q149F k) Tryz.f123 32 ⟨tyOf_ok tys_ok,gOf_ok ⟨q148K k,trivial⟩⟩ (annl [] trivial)

noncomputable def q150V(k:Nat):Variant:=⟨[.val ty_9 false],[(.bool,false)],fun x=>impl_areReasons k x.1⟩
noncomputable def q150C(k:Nat):Cfg:=⟨Tryz.prog,tyOf tys,11,gOf [(123,[124],q149V k)],false,[],[]⟩
def q150p:List PE := [e27]
noncomputable def q150F(k:Nat):F3:=⟨q150C k,rr q150p [(.bool,false)] Tryz.f66,fun p=>none,0,[]⟩
theorem q150K(k:Nat):Contract Tryz.prog 66 (q150V k):=ctr (q150C k) (rs := [(.bool,false)]) (ps:=q150p) (q150F k) Tryz.f66 16 ⟨tyOf_ok tys_ok,gOf_ok ⟨q149K k,trivial⟩⟩ (annl [] trivial)

noncomputable def q151V(k:Nat):Variant:=⟨[.val ty_8 false,.ptr ty_11 false,.val ty_9 false],[(.bool,false)],fun x=>impl_checkReasons k x.1 x.2.1 x.2.2.1⟩
noncomputable def q151C(k:Nat):Cfg:=⟨Tryz.prog,tyOf tys,50,gOf [(66,[],q150V k),(53,[],q54V k),(112,[],q83V k),(67,[],q127V k)],false,[],[]⟩
def q151i1:List PE := [e65,⟨2,64,.val ty_9 false,false⟩,⟨27,80,.eat ty_16,false⟩,⟨28,96,.val ty_0 false,false⟩,⟨29,112,.val ty_0 false,false⟩]
def q151o1:List PE := [⟨2,48,.val ty_9 false,false⟩]
noncomputable def q151f1(k:Nat)(n:Nat)(x4:PTe q151i1):=impl_checkReasons_L27034 k n x4.1 x4.2.1 x4.2.2.1 x4.2.2.2.1 x4.2.2.2.2.1
def q151i2:List PE := [e65,⟨1,64,.ptr ty_11 false,false⟩,⟨2,80,.val ty_9 false,false⟩,e84]
def q151o2:List PE := []
noncomputable def q151f2(k:Nat)(n:Nat)(x8:PTe q151i2):=impl_checkReasons_L26 k n x8.1 x8.2.1 x8.2.2.1 x8.2.2.2.1
def q151p:List PE := [e40,e42,e34]
noncomputable def q151F(k:Nat):F3:=⟨q151C k,rr q151p [(.bool,false)] Tryz.f65,fun p=>bif Nat.beq p 27034 then some (.loop q151i1 q151o1 2 128 (q151f1 k k))else bif Nat.beq p 26 then some (.loop q151i2 q151o2 0 112 (q151f2 k k))else none,0,[]⟩
theorem q151K(k:Nat):Contract Tryz.prog 65 (q151V k):=ctr (q151C k) (rs := [(.bool,false)]) (ps:=q151p) (q151F k) Tryz.f65 48 ⟨tyOf_ok tys_ok,gOf_ok ⟨q150K k,q54K k,q83K k,q127K k,trivial⟩⟩ (annl [26,27034] ⟨lok q151i2 q151o2 0 112 (q151f2 k) k,lok q151i1 q151o1 2 128 (q151f1 k) k,trivial⟩)

noncomputable def q152V(k:Nat):Variant:=⟨[.val ty_8 false,.val ty_11 true,.val ty_9 false],[(.bool,false),(.bool,false)],fun x=>impl_CheckReasons k x.1 x.2.1 x.2.2.1⟩
noncomputable def q152C(k:Nat):Cfg:=⟨Tryz.prog,tyOf tys,19,gOf [(45,[],q46V k),(65,[],q151V k)],false,[],[]⟩
def q152p:List PE := [e40,e70,e34]
noncomputable def q152F(k:Nat):Fn (Bool×Bool):=⟨q152C k,rr q152p [(.bool,false),(.bool,false)] Tryz.f17,fun p=>none,0,[]⟩
theorem q152K(k:Nat):Contract Tryz.prog 17 (q152V k):=ctr (q152C k) (rs := [(.bool,false),(.bool,false)]) (ps:=q152p) (q152F k) Tryz.f17 48 ⟨tyOf_ok tys_ok,gOf_ok ⟨q46K k,q151K k,trivial⟩⟩ (annl [] trivial)

noncomputable def q153V(k:Nat):Variant:=⟨[.val ty_9 false],[(ty_0,false),(.bool,false)],fun x=>impl_TurnsOf k x.1⟩
noncomputable def q153C(k:Nat):Cfg:=⟨Tryz.prog,tyOf tys,16,gOf [(66,[],q150V k),(67,[],q127V k)],false,[],[]⟩
def q153p:List PE := [e27]
noncomputable def q153F(k:Nat):F15:=⟨q153C k,rr q153p [(ty_0,false),(.bool,false)] Tryz.f18,fun p=>none,0,[]⟩
theorem q153K(k:Nat):Contract Tryz.prog 18 (q153V k):=ctr (q153C k) (rs := [(ty_0,false),(.bool,false)]) (ps:=q153p) (q153F k) Tryz.f18 16 ⟨tyOf_ok tys_ok,gOf_ok ⟨q150K k,q127K k,trivial⟩⟩ (annl [] trivial)

noncomputable def q154V:Variant:=⟨[.val ty_0 false],[(.str,false)],fun x=>internal_strconv_small x.1⟩
noncomputable def q154C:Cfg:=⟨Tryz.prog,tyOf tys,15,gOf [],false,[],[]⟩
def q154p:List PE := [e9]
noncomputable def q154F:F16:=⟨q154C,rr q154p [(.str,false)] Tryz.f207,fun p=>none,0,[]⟩
theorem q154K:Contract Tryz.prog 207 (q154V):=ctr q154C (rs := [(.str,false)]) (ps:=q154p) q154F Tryz.f207 16 ⟨tyOf_ok tys_ok,gOf_ok trivial⟩ (annl [] trivial)

noncomputable def q155V:Variant:=⟨[.val ty_0 false,.val ty_0 false],[(.str,false)],fun x=>internal_strconv_FormatInt x.1 x.2.1⟩
noncomputable def q155C:Cfg:=⟨Tryz.prog,tyOf tys,54,gOf [(207,[],q154V)],false,[],[]⟩
def q155p:List PE := [e9,e3]
noncomputable def q155F:F16:=⟨q155C,rr q155p [(.str,false)] Tryz.f192,fun p=>bif Nat.beq p 430 then some (.cut [e73,⟨5,48,.box ty_43 false,false⟩,⟨6,64,.val ty_1 false,false⟩] 80)else bif Nat.beq p 52 then some (.cut [e73] 48)else none,0,[]⟩
theorem q155K:Contract Tryz.prog 192 (q155V):=ctr q155C (rs := [(.str,false)]) (ps:=q155p) q155F Tryz.f192 32 ⟨tyOf_ok tys_ok,gOf_ok ⟨q154K,trivial⟩⟩ (annl [] trivial)

noncomputable def q156V:Variant:=⟨[.val ty_0 false],[(.str,false)],fun x=>internal_strconv_Itoa x.1⟩
noncomputable def q156C:Cfg:=⟨Tryz.prog,tyOf tys,5,gOf [(192,[],q155V)],false,[],[]⟩
def q156p:List PE := [e9]
noncomputable def q156F:F16:=⟨q156C,rr q156p [(.str,false)] Tryz.f169,fun p=>none,0,[]⟩
theorem q156K:Contract Tryz.prog 169 (q156V):=ctr q156C (rs := [(.str,false)]) (ps:=q156p) q156F Tryz.f169 16 ⟨tyOf_ok tys_ok,gOf_ok ⟨q155K,trivial⟩⟩ (annl [] trivial)

noncomputable def q157V:Variant:=⟨[.val ty_0 false],[(.str,false)],fun x=>strconv_Itoa x.1⟩
noncomputable def q157C:Cfg:=⟨Tryz.prog,tyOf tys,5,gOf [(169,[],q156V)],false,[],[]⟩
def q157p:List PE := [e9]
noncomputable def q157F:F16:=⟨q157C,rr q157p [(.str,false)] Tryz.f125,fun p=>none,0,[]⟩
theorem q157K:Contract Tryz.prog 125 (q157V):=ctr q157C (rs := [(.str,false)]) (ps:=q157p) q157F Tryz.f125 16 ⟨tyOf_ok tys_ok,gOf_ok ⟨q156K,trivial⟩⟩ (annl [] trivial)

noncomputable def q158V(k:Nat):Variant:=⟨[.val ty_9 false],[(.str,false)],fun x=>impl_digitsText k x.1⟩
noncomputable def q158C(k:Nat):Cfg:=⟨Tryz.prog,tyOf tys,18,gOf [(125,[],q157V)],false,[],[]⟩
def q158i1:List PE := [⟨3,16,.val .str false,false⟩,e28,e29,e30]
def q158o1:List PE := [⟨3,16,.val .str false,false⟩]
noncomputable def q158f1(k:Nat)(n:Nat)(x2:PTe q158i1):=impl_digitsText_L58 k n x2.1 x2.2.1 x2.2.2.1 x2.2.2.2.1
def q158p:List PE := [e27]
noncomputable def q158F(k:Nat):F16:=⟨q158C k,rr q158p [(.str,false)] Tryz.f68,fun p=>bif Nat.beq p 58 then some (.loop q158i1 q158o1 0 80 (q158f1 k k))else none,0,[]⟩
theorem q158K(k:Nat):Contract Tryz.prog 68 (q158V k):=ctr (q158C k) (rs := [(.str,false)]) (ps:=q158p) (q158F k) Tryz.f68 16 ⟨tyOf_ok tys_ok,gOf_ok ⟨q157K,trivial⟩⟩ (annl [58] ⟨lok q158i1 q158o1 0 80 (q158f1 k) k,trivial⟩)

noncomputable def q159V(k:Nat):Variant:=⟨[.val ty_9 false],[(.str,false),(.bool,false)],fun x=>impl_ReasonsText k x.1⟩
noncomputable def q159C(k:Nat):Cfg:=⟨Tryz.prog,tyOf tys,9,gOf [(66,[],q150V k),(68,[],q158V k)],false,[],[]⟩
def q159p:List PE := [e27]
noncomputable def q159F(k:Nat):Fn (ByteArray×Bool):=⟨q159C k,rr q159p [(.str,false),(.bool,false)] Tryz.f19,fun p=>none,0,[]⟩
theorem q159K(k:Nat):Contract Tryz.prog 19 (q159V k):=ctr (q159C k) (rs := [(.str,false),(.bool,false)]) (ps:=q159p) (q159F k) Tryz.f19 16 ⟨tyOf_ok tys_ok,gOf_ok ⟨q150K k,q158K k,trivial⟩⟩ (annl [] trivial)

noncomputable def laws_FnImages_V(k:Nat):Variant:=⟨[.val ty_44 false,.val ty_44 false],[(.bool,false)],fun x=>laws_FnImages k x.1 x.2.1⟩
noncomputable def laws_FnImages_C(k:Nat):Cfg:=⟨Tryz.prog,tyOf tys,276,gOf [(5,[],q31V k),(6,[],q86V k),(7,[],q126V k),(8,[],q129V k),(9,[],q131V k),(10,[],q134V k),(11,[],q135V k),(12,[],q138V k),(13,[],q142V k),(14,[],q144V k),(15,[],q145V k),(16,[],q146V k),(17,[],q152V k),(18,[],q153V k),(19,[],q159V k)],false,[],[]⟩
def laws_FnImages_ps:List PE := [⟨0,0,.val ty_44 false,false⟩,⟨1,16,.val ty_44 false,false⟩]
noncomputable def laws_FnImages_F(k:Nat):F3:=⟨laws_FnImages_C k,rr laws_FnImages_ps [(.bool,false)] Tryz.f3,fun p=>bif Nat.beq p 32766 then some (.cut [⟨5,32,.eat ty_7,false⟩,e32,e17,⟨8,80,.eat ty_0,false⟩,⟨9,96,.val .bool false,false⟩,⟨10,112,.eat ty_0,false⟩,⟨14,128,.val ty_0 false,false⟩,⟨21,144,.val .bool false,false⟩] 160)else none,0,[]⟩
theorem laws_FnImages_K(k:Nat):Contract Tryz.prog 3 (laws_FnImages_V k):=ctr (laws_FnImages_C k) (rs := [(.bool,false)]) (ps:=laws_FnImages_ps) (laws_FnImages_F k) Tryz.f3 32 ⟨tyOf_ok tys_ok,gOf_ok ⟨q31K k,q86K k,q126K k,q129K k,q131K k,q134K k,q135K k,q138K k,q142K k,q144K k,q145K k,q146K k,q152K k,q153K k,q159K k,trivial⟩⟩ (annl [] trivial)
end Go.Ev.G
