/- The contracts of the functions behind FnTablesIn: a call of each returns what its plain function computes; for all inputs within the sizes named. -/
import Derived.Test.YtbkhmofhdbjpcaaGreatPFnTablesIn1
import Derived.Test.YtbkhmofhdbjpcaaGreatProg
set_option linter.unusedVariables false
set_option linter.unusedSectionVars false
namespace Go.Ev.G
open Go Go.Ev Go.Proofs
set_option maxRecDepth 100000
variable [KSl]
abbrev ty_0:Ty:=(.int .i64)

abbrev ty_1:Ty:=(.int .u64)

abbrev ty_2:Ty:=(.pair ty_0 ty_1)

abbrev ty_3:Ty:=(.pair .ks ty_2)

abbrev ty_4:Ty:=(.pair ty_0 ty_0)

abbrev ty_5:Ty:=(.pair ty_4 ty_4)

abbrev ty_6:Ty:=(.sl ty_5)

abbrev ty_7:Ty:=(.sl ty_4)

abbrev ty_8:Ty:=(.sl ty_0)

abbrev ty_9:Ty:=(.pair ty_1 ty_1)

abbrev ty_10:Ty:=(.pair .bool ty_9)

abbrev ty_11:Ty:=(.sl ty_6)

abbrev ty_12:Ty:=(.int .u8)

abbrev ty_13:Ty:=(.sl ty_12)

abbrev ty_14:Ty:=(.sl ty_7)

abbrev ty_15:Ty:=(.sl ty_14)

def tys:List (TypeId×Ty) := [(3,ty_0),(27,ty_4),(29,ty_5),(35,ty_14),(36,ty_6),(37,ty_7)]

theorem tys_ok:AllT Tryz.prog tys:=⟨⟨_,_,rfl,rfl,rfl,rfl⟩,⟨_,_,rfl,rfl,rfl,rfl⟩,⟨_,_,rfl,rfl,rfl,rfl⟩,⟨_,_,rfl,rfl,rfl,rfl⟩,⟨_,_,rfl,rfl,rfl,rfl⟩,⟨_,_,rfl,rfl,rfl,rfl⟩,trivial⟩

def tysR:List (TypeId×Ty) := []

theorem tysR_ok:AllT Tryz.prog tysR:=trivial

theorem mix_ok:Tryz.prog.follows .mixedOrders=true:=by kernel_rfl

theorem ctr{g:FuncId}(C:Cfg){rs:List (Ty×Bool)}{ps:List PE}(F:Fn (CT (rs.map (·.1)++outs (ps.map (·.b)))))(fn:Func)(nx:Nat){f:PT (ps.map (·.b))→Option (CT (rs.map (·.1)++outs (ps.map (·.b))))}
  (hC:CfgOk C) (hann:AnnOk F (codeOf fn) 1) (hP:C.P=Tryz.prog:=by rfl) (hF:F.C=C:=by rfl) (hfn:C.P.funcs[g]? = some fn:=by kernel_rfl) (hb:fn.body=some (codeOf fn):=by kernel_rfl) (hn:(fn.name == "runtime.NumGoroutine")=false:=by kernel_rfl)
  (hnt:C.ntmps=fn.ntmps:=by kernel_rfl) (hle:Nat.ble ps.length fn.ntmps=true:=by kernel_rfl) (hpar:parOk 0 ps=true:=by kernel_rfl) (hfin:F.fin=rdRes C.P ps rs fn.results.toList .ret:=by rfl)
  (hpins:F.pins=pinIds ps:=by kernel_rfl) (hnd:nodupB F.pins=true:=by kernel_rfl) (hf:∀x,evFn F (codeOf fn) ps nx x=f x:=by intro x;kernel_rfl):Contract C.P g ⟨ps.map (·.b),rs,f⟩ :=
 contract hC hF hfn hb hn hnt hle hpar hfin hpins hnd hann (hP ▸ mix_ok) hf

theorem annl{R:Type}{F:Fn R}{c:Code}(l:List Nat)(hl:AllL F (l.map fun p=>(p,loopB c p)))(h:loopsOf c 1=l.map (fun p=>(p,loopB c p)):=by kernel_rfl):AnnOk F c 1:=AnnOk_list _ h hl

theorem lok{R:Type}{F:Fn R}{c:Code}{p:Nat}(pin pout:List PE)(ex nx:Nat)(Lf:Nat→PTe pin→Option (R ⊕ PTe pout))(k:Nat)(h:F.an p=some (.loop pin pout ex nx (Lf k)):=by kernel_rfl)(h0:∀x,Lf 0 x=none:=by intro x;rfl)
  (hs:∀n x,roundOf F c p pin pout ex nx (Lf n) x=Lf (n+1) x:=by intro n x;kernel_rfl):LoopOk F c p:=LoopOk.mk (pin:=pin) (pout:=pout) h h0 hs

noncomputable def rr(ps:List PE)(rs:List (Ty×Bool))(f:Func):=rdRes Tryz.prog ps rs f.results.toList .ret

abbrev F1:Type 1:=Fn (Bool)
abbrev e1:PE:=⟨0,0,.ptr ty_3 true,true⟩
abbrev e2:PE:=⟨3,16,.val ty_0 false,false⟩
abbrev F2:Type 1:=Fn (Int×Unit×Int×Int)
abbrev e3:PE:=⟨1,16,.val ty_0 false,false⟩
abbrev e4:PE:=⟨0,0,.val ty_0 false,false⟩
abbrev e5:PE:=⟨2,32,.val ty_0 false,false⟩
abbrev e6:PE:=⟨0,0,.val ty_4 true,false⟩
abbrev e7:PE:=⟨0,32,.val ty_0 false,false⟩
abbrev e8:PE:=⟨1,48,.val ty_0 false,false⟩
abbrev e9:PE:=⟨4,64,.box ty_4 false,false⟩
abbrev F3:Type 1:=Fn ((Int×Int)×Bool)
abbrev F4:Type 1:=Fn (Int×Int)
abbrev e10:PE:=⟨3,32,.box ty_4 false,false⟩
abbrev F5:Type 1:=Fn ((Int×Int)×Unit×Int×Int)
abbrev F6:Type 1:=Fn (Int)
abbrev e11:PE:=⟨1,32,.val ty_0 false,false⟩
abbrev e12:PE:=⟨6,64,.val ty_0 false,false⟩
abbrev e13:PE:=⟨2,32,.box ty_4 false,false⟩
abbrev e14:PE:=⟨1,16,.val ty_4 true,false⟩
abbrev e15:PE:=⟨2,16,.box ty_5 false,false⟩
abbrev e16:PE:=⟨3,32,.box ty_5 false,false⟩
abbrev e17:PE:=⟨14,64,.val ty_0 false,false⟩
abbrev e18:PE:=⟨15,80,.val ty_0 false,false⟩
abbrev e19:PE:=⟨0,0,.val ty_7 false,false⟩
abbrev e20:PE:=⟨5,48,.box ty_4 false,false⟩
abbrev e21:PE:=⟨14,80,.val ty_0 false,false⟩
abbrev e22:PE:=⟨15,96,.val ty_0 false,false⟩
abbrev F7:Type 1:=Fn ((Int×Int)×Int×Int)
abbrev e23:PE:=⟨4,48,.box ty_4 false,false⟩
abbrev F8:Type 1:=Fn (((Int×Int)×Int×Int)×Unit×Int×Int)
abbrev e24:PE:=⟨5,48,.eat ty_6,false⟩
abbrev e25:PE:=⟨6,64,.val .bool false,false⟩
abbrev e26:PE:=⟨7,80,.eat ty_5,false⟩
abbrev e27:PE:=⟨8,96,.box ty_4 false,false⟩
abbrev e28:PE:=⟨0,0,.val .ks false,false⟩
abbrev F9:Type 1:=Fn (List (List ((Int×Int)×Int×Int)))
abbrev F10:Type 1:=Fn (Bool×Int×Int)
abbrev e29:PE:=⟨0,0,.val ty_10 true,false⟩
abbrev e30:PE:=⟨0,0,.val ty_1 false,false⟩
abbrev e31:PE:=⟨1,16,.val ty_1 false,false⟩
abbrev e32:PE:=⟨1,16,.val ty_10 true,false⟩
abbrev e33:PE:=⟨0,0,.val ty_5 true,false⟩
abbrev e34:PE:=⟨7,64,.val ty_0 false,false⟩
abbrev e35:PE:=⟨0,0,.val ty_6 false,false⟩
abbrev e36:PE:=⟨0,16,.val ty_11 false,false⟩
abbrev e37:PE:=⟨0,0,.val ty_11 false,false⟩
abbrev e38:PE:=⟨3,32,.val ty_0 false,false⟩
abbrev e39:PE:=⟨2,64,.val ty_0 false,false⟩
abbrev e40:PE:=⟨7,80,.eat ty_6,false⟩
abbrev e41:PE:=⟨11,112,.val ty_0 false,false⟩
abbrev e42:PE:=⟨12,128,.val ty_0 false,false⟩
abbrev e43:PE:=⟨0,0,.ptr .bool true,true⟩
abbrev e44:PE:=⟨2,32,.val ty_4 true,false⟩
abbrev e45:PE:=⟨1,16,.val ty_5 true,false⟩
abbrev e46:PE:=⟨2,32,.val ty_5 true,false⟩
abbrev F11:Type 1:=Fn (((Int×Int)×Int×Int)×Bool)
abbrev e47:PE:=⟨1,32,.val ty_11 false,false⟩
abbrev e48:PE:=⟨4,48,.box ty_5 false,false⟩
abbrev e49:PE:=⟨4,32,.box ty_5 false,false⟩
abbrev e50:PE:=⟨1,16,.val ty_11 false,false⟩
abbrev e51:PE:=⟨10,96,.val ty_0 false,false⟩
abbrev e52:PE:=⟨3,32,.eat ty_0,false⟩
abbrev e53:PE:=⟨9,80,.val ty_0 false,false⟩
abbrev e54:PE:=⟨16,144,.val ty_0 false,false⟩
abbrev e55:PE:=⟨10,80,.val ty_0 false,false⟩
abbrev e56:PE:=⟨3,48,.box ty_4 false,false⟩
abbrev e57:PE:=⟨6,80,.val ty_0 false,false⟩
abbrev e58:PE:=⟨6,64,.eat ty_4,false⟩
abbrev e59:PE:=⟨8,80,.box ty_4 false,false⟩
abbrev e60:PE:=⟨18,96,.val ty_0 false,false⟩
abbrev e61:PE:=⟨19,112,.val ty_0 false,false⟩
abbrev e62:PE:=⟨12,80,.val .bool false,false⟩
abbrev e63:PE:=⟨4,32,.box ty_4 false,false⟩
abbrev e64:PE:=⟨13,80,.val ty_0 false,false⟩
abbrev e65:PE:=⟨4,16,.box .bool false,false⟩
abbrev e66:PE:=⟨5,32,.val .bool false,false⟩
abbrev e67:PE:=⟨8,48,.eat ty_4,false⟩
abbrev e68:PE:=⟨13,64,.val ty_11 false,false⟩
abbrev e69:PE:=⟨20,128,.val ty_0 false,false⟩
abbrev e70:PE:=⟨13,48,.val ty_11 false,false⟩
abbrev F12:Type 1:=Fn (Bool×Bool)
abbrev e71:PE:=⟨4,16,.val .bool false,false⟩
abbrev e72:PE:=⟨7,32,.box ty_4 false,false⟩
abbrev e73:PE:=⟨0,16,.val ty_14 false,false⟩
abbrev e74:PE:=⟨0,0,.val ty_14 false,false⟩
abbrev e75:PE:=⟨20,96,.val ty_0 false,false⟩
abbrev e76:PE:=⟨20,112,.val ty_0 false,false⟩
abbrev e77:PE:=⟨5,32,.eat ty_4,false⟩
abbrev e78:PE:=⟨17,80,.val ty_0 false,false⟩
abbrev e79:PE:=⟨17,64,.val ty_0 false,false⟩
abbrev e80:PE:=⟨4,16,.eat ty_4,false⟩
abbrev e81:PE:=⟨12,64,.val ty_0 false,false⟩
abbrev e82:PE:=⟨5,48,.eat ty_7,false⟩
abbrev e83:PE:=⟨0,32,.val ty_14 false,false⟩
abbrev e84:PE:=⟨1,48,.val ty_11 false,false⟩
abbrev e85:PE:=⟨6,64,.box .bool false,false⟩
abbrev e86:PE:=⟨8,96,.val ty_0 false,false⟩
abbrev e87:PE:=⟨9,112,.eat ty_5,false⟩
abbrev F13:Type 1:=Fn ((List (List ((Int×Int)×Int×Int)))×Bool)
abbrev e88:PE:=⟨6,48,.eat ty_6,false⟩
abbrev e89:PE:=⟨8,64,.val ty_7 false,false⟩
abbrev e90:PE:=⟨9,80,.eat ty_5,false⟩
abbrev e91:PE:=⟨4,32,.box .bool false,false⟩
abbrev F14:Type 1:=Fn ((List (List (Int×Int)))×Bool)
abbrev e92:PE:=⟨0,16,.val ty_1 false,false⟩
abbrev e93:PE:=⟨2,48,.val ty_1 false,false⟩
abbrev e94:PE:=⟨8,64,.val ty_1 false,false⟩
abbrev e95:PE:=⟨9,80,.val ty_1 false,false⟩
abbrev e96:PE:=⟨10,96,.val ty_1 false,false⟩
abbrev e97:PE:=⟨4,32,.eat ty_7,false⟩
abbrev e98:PE:=⟨0,80,.val ty_0 false,false⟩
abbrev e99:PE:=⟨3,96,.val ty_0 false,false⟩
abbrev e100:PE:=⟨4,112,.val ty_0 false,false⟩
abbrev e101:PE:=⟨10,128,.box ty_4 false,false⟩
abbrev e102:PE:=⟨12,144,.val ty_0 false,false⟩
abbrev e103:PE:=⟨6,48,.box ty_4 false,false⟩
abbrev e104:PE:=⟨10,64,.eat ty_7,false⟩
abbrev e105:PE:=⟨1,32,.val ty_13 false,false⟩
abbrev e106:PE:=⟨8,48,.box ty_5 false,false⟩
abbrev e107:PE:=⟨11,64,.val .bool false,false⟩
abbrev e108:PE:=⟨14,96,.eat ty_7,false⟩
abbrev e109:PE:=⟨15,112,.eat ty_7,false⟩
abbrev e110:PE:=⟨138,96,.val ty_15 false,false⟩
abbrev e111:PE:=⟨139,112,.val ty_0 false,false⟩
abbrev e112:PE:=⟨140,128,.val ty_0 false,false⟩
abbrev e113:PE:=⟨40,32,.eat ty_7,false⟩
abbrev e114:PE:=⟨41,48,.val ty_0 false,false⟩
abbrev e115:PE:=⟨267,64,.val ty_14 false,false⟩
abbrev e116:PE:=⟨268,80,.val ty_0 false,false⟩
abbrev e117:PE:=⟨269,96,.val ty_0 false,false⟩

noncomputable def q1V:Variant:=⟨[.val ty_13 false,.val ty_13 false],[(.bool,false)],fun x=>laws_big x.1 x.2.1⟩
noncomputable def q1C:Cfg:=⟨Tryz.prog,tyOf tys,16,gOf [],false,[],[]⟩
def q1p:List PE := [⟨0,0,.val ty_13 false,false⟩,⟨1,16,.val ty_13 false,false⟩]
noncomputable def q1F:F1:=⟨q1C,rr q1p [(.bool,false)] Tryz.f7,fun p=>none,0,[]⟩
theorem q1K:Contract Tryz.prog 7 (q1V):=ctr q1C (rs := [(.bool,false)]) (ps:=q1p) q1F Tryz.f7 32 ⟨tyOf_ok tys_ok,gOf_ok trivial⟩ (annl [] trivial)

noncomputable def q2V:Variant:=⟨[.ptr ty_3 true],[(ty_0,false)],fun x=>spec_l1Cur_next KSl.xs x.1⟩
noncomputable def q2C:Cfg:=⟨Tryz.prog,tyOf tys,62,gOf [],false,[],[]⟩
def q2p:List PE := [e1]
noncomputable def q2F:F2:=⟨q2C,rr q2p [(ty_0,false)] Tryz.f225,fun p=>bif Nat.beq p 14 then some (.cut [e1,e2] 32)else none,0,[0]⟩
theorem q2K:Contract Tryz.prog 225 (q2V):=ctr q2C (rs := [(ty_0,false)]) (ps:=q2p) q2F Tryz.f225 16 ⟨tyOf_ok tys_ok,gOf_ok trivial⟩ (annl [] trivial)

noncomputable def q3V:Variant:=⟨[.ptr ty_3 true,.val ty_0 false],[(ty_0,false)],fun x=>spec_l1Cur_pick KSl.xs x.1 x.2.1⟩
noncomputable def q3C:Cfg:=⟨Tryz.prog,tyOf tys,20,gOf [(225,[],q2V)],false,[],[]⟩
def q3p:List PE := [e1,e3]
noncomputable def q3F:F2:=⟨q3C,rr q3p [(ty_0,false)] Tryz.f129,fun p=>none,0,[0]⟩
theorem q3K:Contract Tryz.prog 129 (q3V):=ctr q3C (rs := [(ty_0,false)]) (ps:=q3p) q3F Tryz.f129 32 ⟨tyOf_ok tys_ok,gOf_ok ⟨q2K,trivial⟩⟩ (annl [] trivial)

noncomputable def q4V:Variant:=⟨[.ptr ty_3 true,.val ty_8 false],[(ty_0,false)],fun x=>spec_l1Cur_among KSl.xs x.1 x.2.1⟩
noncomputable def q4C:Cfg:=⟨Tryz.prog,tyOf tys,12,gOf [(129,[],q3V)],false,[],[]⟩
def q4p:List PE := [e1,⟨1,16,.val ty_8 false,false⟩]
noncomputable def q4F:F2:=⟨q4C,rr q4p [(ty_0,false)] Tryz.f70,fun p=>none,0,[0]⟩
theorem q4K:Contract Tryz.prog 70 (q4V):=ctr q4C (rs := [(ty_0,false)]) (ps:=q4p) q4F Tryz.f70 32 ⟨tyOf_ok tys_ok,gOf_ok ⟨q3K,trivial⟩⟩ (annl [] trivial)

noncomputable def q5V:Variant:=⟨[.ptr ty_3 true,.val ty_0 false],[(.bool,false)],fun x=>spec_l1Cur_one KSl.xs x.1 x.2.1⟩
noncomputable def q5C:Cfg:=⟨Tryz.prog,tyOf tys,9,gOf [(129,[],q3V)],false,[],[]⟩
def q5p:List PE := [e1,e3]
noncomputable def q5F:Fn (Bool×Unit×Int×Int):=⟨q5C,rr q5p [(.bool,false)] Tryz.f91,fun p=>none,0,[0]⟩
theorem q5K:Contract Tryz.prog 91 (q5V):=ctr q5C (rs := [(.bool,false)]) (ps:=q5p) q5F Tryz.f91 32 ⟨tyOf_ok tys_ok,gOf_ok ⟨q3K,trivial⟩⟩ (annl [] trivial)

noncomputable def q6V:Variant:=⟨[.val ty_0 false,.val ty_0 false,.val ty_0 false],[(.bool,false)],fun x=>spec_l1In x.1 x.2.1 x.2.2.1⟩
noncomputable def q6C:Cfg:=⟨Tryz.prog,tyOf tys,15,gOf [],false,[],[]⟩
def q6p:List PE := [e4,e3,e5]
noncomputable def q6F:F1:=⟨q6C,rr q6p [(.bool,false)] Tryz.f98,fun p=>none,0,[]⟩
theorem q6K:Contract Tryz.prog 98 (q6V):=ctr q6C (rs := [(.bool,false)]) (ps:=q6p) q6F Tryz.f98 48 ⟨tyOf_ok tys_ok,gOf_ok trivial⟩ (annl [] trivial)

noncomputable def q7V:Variant:=⟨[.val ty_4 true],[(.bool,false)],fun x=>spec_dyGood x.1⟩
noncomputable def q7C:Cfg:=⟨Tryz.prog,tyOf tys,22,gOf [(98,[],q6V)],false,[],[]⟩
def q7p:List PE := [e6]
noncomputable def q7F:F1:=⟨q7C,rr q7p [(.bool,false)] Tryz.f177,fun p=>none,0,[]⟩
theorem q7K:Contract Tryz.prog 177 (q7V):=ctr q7C (rs := [(.bool,false)]) (ps:=q7p) q7F Tryz.f177 16 ⟨tyOf_ok tys_ok,gOf_ok ⟨q6K,trivial⟩⟩ (annl [] trivial)

noncomputable def q8V(k:Nat):Variant:=⟨[.val ty_0 false,.val ty_0 false],[(ty_4,true),(.bool,false)],fun x=>spec_dyMake k x.1 x.2.1⟩
noncomputable def q8C(k:Nat):Cfg:=⟨Tryz.prog,tyOf tys,32,gOf [(177,[],q7V)],false,[],[]⟩
def q8i1:List PE := [e7,e8,e9]
def q8o1:List PE := [e7,e8,e9]
noncomputable def q8f1(k:Nat)(n:Nat)(x2:PTe q8i1):=spec_dyMake_L28 k n x2.1 x2.2.1 x2.2.2.1
def q8p:List PE := [e4,e3]
noncomputable def q8F(k:Nat):F3:=⟨q8C k,rr q8p [(ty_4,true),(.bool,false)] Tryz.f154,fun p=>bif Nat.beq p 28 then some (.loop q8i1 q8o1 0 80 (q8f1 k k))else bif Nat.beq p 6 then some (.cut [e7,e8,e9] 80)else none,0,[]⟩
theorem q8K(k:Nat):Contract Tryz.prog 154 (q8V k):=ctr (q8C k) (rs := [(ty_4,true),(.bool,false)]) (ps:=q8p) (q8F k) Tryz.f154 32 ⟨tyOf_ok tys_ok,gOf_ok ⟨q7K,trivial⟩⟩ (annl [28] ⟨lok q8i1 q8o1 0 80 (q8f1 k) k,trivial⟩)

noncomputable def q9V:Variant:=⟨[.val ty_0 false],[(ty_4,true)],fun x=>spec_dyInt x.1⟩
noncomputable def q9C:Cfg:=⟨Tryz.prog,tyOf tys,5,gOf [],false,[],[]⟩
def q9p:List PE := [e4]
noncomputable def q9F:F4:=⟨q9C,rr q9p [(ty_4,true)] Tryz.f171,fun p=>none,0,[]⟩
theorem q9K:Contract Tryz.prog 171 (q9V):=ctr q9C (rs := [(ty_4,true)]) (ps:=q9p) q9F Tryz.f171 16 ⟨tyOf_ok tys_ok,gOf_ok trivial⟩ (annl [] trivial)

noncomputable def q10V(k:Nat):Variant:=⟨[.ptr ty_3 true],[(ty_4,true)],fun x=>spec_l1Cur_dyadic k KSl.xs x.1⟩
noncomputable def q10C(k:Nat):Cfg:=⟨Tryz.prog,tyOf tys,37,gOf [(129,[],q3V),(70,[],q4V),(154,[],q8V k),(91,[],q5V),(171,[],q9V)],false,[],[]⟩
def q10p:List PE := [e1]
noncomputable def q10F(k:Nat):F5:=⟨q10C k,rr q10p [(ty_4,true)] Tryz.f319,fun p=>bif Nat.beq p 14 then some (.cut [⟨2,16,.box ty_4 false,false⟩,e10,⟨4,48,.val .bool false,false⟩,e1] 64)else none,0,[0]⟩
theorem q10K(k:Nat):Contract Tryz.prog 319 (q10V k):=ctr (q10C k) (rs := [(ty_4,true)]) (ps:=q10p) (q10F k) Tryz.f319 16 ⟨tyOf_ok tys_ok,gOf_ok ⟨q3K,q4K,q8K k,q5K,q9K,trivial⟩⟩ (annl [] trivial)

noncomputable def q11V(k:Nat):Variant:=⟨[.ptr ty_3 true],[(ty_4,true)],fun x=>spec_l1Cur_anyDyadic k KSl.xs x.1⟩
noncomputable def q11C(k:Nat):Cfg:=⟨Tryz.prog,tyOf tys,30,gOf [(319,[],q10V k),(129,[],q3V),(70,[],q4V)],false,[],[]⟩
def q11p:List PE := [e1]
noncomputable def q11F(k:Nat):F5:=⟨q11C k,rr q11p [(ty_4,true)] Tryz.f252,fun p=>none,0,[0]⟩
theorem q11K(k:Nat):Contract Tryz.prog 252 (q11V k):=ctr (q11C k) (rs := [(ty_4,true)]) (ps:=q11p) (q11F k) Tryz.f252 16 ⟨tyOf_ok tys_ok,gOf_ok ⟨q10K k,q3K,q4K,trivial⟩⟩ (annl [] trivial)

noncomputable def q12V(k:Nat):Variant:=⟨[.ptr ty_3 true],[(ty_4,true)],fun x=>spec_l1Cur_entry k KSl.xs x.1⟩
noncomputable def q12C(k:Nat):Cfg:=⟨Tryz.prog,tyOf tys,23,gOf [(91,[],q5V),(252,[],q11V k),(129,[],q3V),(70,[],q4V),(154,[],q8V k)],false,[],[]⟩
def q12p:List PE := [e1]
noncomputable def q12F(k:Nat):F5:=⟨q12C k,rr q12p [(ty_4,true)] Tryz.f153,fun p=>none,0,[0]⟩
theorem q12K(k:Nat):Contract Tryz.prog 153 (q12V k):=ctr (q12C k) (rs := [(ty_4,true)]) (ps:=q12p) (q12F k) Tryz.f153 16 ⟨tyOf_ok tys_ok,gOf_ok ⟨q5K,q11K k,q3K,q4K,q8K k,trivial⟩⟩ (annl [] trivial)

noncomputable def q13V:Variant:=⟨[.val ty_0 false,.val ty_0 false],[(ty_0,false)],fun x=>spec_l1Most x.1 x.2.1⟩
noncomputable def q13C:Cfg:=⟨Tryz.prog,tyOf tys,10,gOf [],false,[],[]⟩
def q13p:List PE := [e4,e3]
noncomputable def q13F:F6:=⟨q13C,rr q13p [(ty_0,false)] Tryz.f183,fun p=>none,0,[]⟩
theorem q13K:Contract Tryz.prog 183 (q13V):=ctr q13C (rs := [(ty_0,false)]) (ps:=q13p) q13F Tryz.f183 32 ⟨tyOf_ok tys_ok,gOf_ok trivial⟩ (annl [] trivial)

noncomputable def q14V:Variant:=⟨[.val ty_0 false],[(ty_0,false)],fun x=>spec_dyPower x.1⟩
noncomputable def q14C:Cfg:=⟨Tryz.prog,tyOf tys,6,gOf [],false,[],[]⟩
def q14p:List PE := [e4]
noncomputable def q14F:F6:=⟨q14C,rr q14p [(ty_0,false)] Tryz.f218,fun p=>none,0,[]⟩
theorem q14K:Contract Tryz.prog 218 (q14V):=ctr q14C (rs := [(ty_0,false)]) (ps:=q14p) q14F Tryz.f218 16 ⟨tyOf_ok tys_ok,gOf_ok trivial⟩ (annl [] trivial)

noncomputable def q15V(k:Nat):Variant:=⟨[.val ty_4 true,.val ty_0 false],[(ty_0,false),(.bool,false)],fun x=>spec_dyAt k x.1 x.2.1⟩
noncomputable def q15C(k:Nat):Cfg:=⟨Tryz.prog,tyOf tys,30,gOf [(218,[],q14V),(98,[],q6V)],false,[],[]⟩
def q15i1:List PE := [e11,⟨2,48,.box ty_4 false,false⟩,e12]
def q15o1:List PE := [e13]
noncomputable def q15f1(k:Nat)(n:Nat)(x4:PTe q15i1):=spec_dyAt_L58 k n x4.1 x4.2.1 x4.2.2.1
def q15p:List PE := [e6,e3]
noncomputable def q15F(k:Nat):Fn (Int×Bool):=⟨q15C k,rr q15p [(ty_0,false),(.bool,false)] Tryz.f184,fun p=>bif Nat.beq p 58 then some (.loop q15i1 q15o1 0 80 (q15f1 k k))else none,0,[]⟩
theorem q15K(k:Nat):Contract Tryz.prog 184 (q15V k):=ctr (q15C k) (rs := [(ty_0,false),(.bool,false)]) (ps:=q15p) (q15F k) Tryz.f184 32 ⟨tyOf_ok tys_ok,gOf_ok ⟨q14K,q6K,trivial⟩⟩ (annl [58] ⟨lok q15i1 q15o1 0 80 (q15f1 k) k,trivial⟩)

noncomputable def q16V(k:Nat):Variant:=⟨[.val ty_4 true,.val ty_4 true],[(ty_4,true),(.bool,false)],fun x=>spec_dyAdd k x.1 x.2.1⟩
noncomputable def q16C(k:Nat):Cfg:=⟨Tryz.prog,tyOf tys,42,gOf [(183,[],q13V),(184,[],q15V k),(154,[],q8V k)],false,[],[]⟩
def q16p:List PE := [e6,e14]
noncomputable def q16F(k:Nat):F3:=⟨q16C k,rr q16p [(ty_4,true),(.bool,false)] Tryz.f87,fun p=>none,0,[]⟩
theorem q16K(k:Nat):Contract Tryz.prog 87 (q16V k):=ctr (q16C k) (rs := [(ty_4,true),(.bool,false)]) (ps:=q16p) (q16F k) Tryz.f87 32 ⟨tyOf_ok tys_ok,gOf_ok ⟨q13K,q15K k,q8K k,trivial⟩⟩ (annl [] trivial)

noncomputable def q17V:Variant:=⟨[.val ty_0 false,.val ty_0 false],[(ty_0,false)],fun x=>spec_dyDown x.1 x.2.1⟩
noncomputable def q17C:Cfg:=⟨Tryz.prog,tyOf tys,16,gOf [],false,[],[]⟩
def q17p:List PE := [e4,e3]
noncomputable def q17F:F6:=⟨q17C,rr q17p [(ty_0,false)] Tryz.f275,fun p=>none,0,[]⟩
theorem q17K:Contract Tryz.prog 275 (q17V):=ctr q17C (rs := [(ty_0,false)]) (ps:=q17p) q17F Tryz.f275 32 ⟨tyOf_ok tys_ok,gOf_ok trivial⟩ (annl [] trivial)

noncomputable def q18V:Variant:=⟨[.val ty_4 true],[(ty_0,false)],fun x=>spec_dyFloor x.1⟩
noncomputable def q18C:Cfg:=⟨Tryz.prog,tyOf tys,9,gOf [(218,[],q14V),(275,[],q17V)],false,[],[]⟩
def q18p:List PE := [e6]
noncomputable def q18F:F6:=⟨q18C,rr q18p [(ty_0,false)] Tryz.f265,fun p=>none,0,[]⟩
theorem q18K:Contract Tryz.prog 265 (q18V):=ctr q18C (rs := [(ty_0,false)]) (ps:=q18p) q18F Tryz.f265 16 ⟨tyOf_ok tys_ok,gOf_ok ⟨q14K,q17K,trivial⟩⟩ (annl [] trivial)

noncomputable def q19V:Variant:=⟨[.val ty_0 false],[(ty_0,false)],fun x=>spec_l1Sign x.1⟩
noncomputable def q19C:Cfg:=⟨Tryz.prog,tyOf tys,9,gOf [],false,[],[]⟩
def q19p:List PE := [e4]
noncomputable def q19F:F6:=⟨q19C,rr q19p [(ty_0,false)] Tryz.f266,fun p=>none,0,[]⟩
theorem q19K:Contract Tryz.prog 266 (q19V):=ctr q19C (rs := [(ty_0,false)]) (ps:=q19p) q19F Tryz.f266 16 ⟨tyOf_ok tys_ok,gOf_ok trivial⟩ (annl [] trivial)

noncomputable def q20V(k:Nat):Variant:=⟨[.val ty_4 true,.val ty_4 true],[(ty_0,false)],fun x=>spec_dyCmp k x.1 x.2.1⟩
noncomputable def q20C(k:Nat):Cfg:=⟨Tryz.prog,tyOf tys,56,gOf [(265,[],q18V),(266,[],q19V),(218,[],q14V),(184,[],q15V k)],false,[],[]⟩
def q20p:List PE := [e6,e14]
noncomputable def q20F(k:Nat):F6:=⟨q20C k,rr q20p [(ty_0,false)] Tryz.f170,fun p=>none,0,[]⟩
theorem q20K(k:Nat):Contract Tryz.prog 170 (q20V k):=ctr (q20C k) (rs := [(ty_0,false)]) (ps:=q20p) (q20F k) Tryz.f170 32 ⟨tyOf_ok tys_ok,gOf_ok ⟨q18K,q19K,q14K,q15K k,trivial⟩⟩ (annl [] trivial)

noncomputable def q21V(k:Nat):Variant:=⟨[.val ty_7 false],[(ty_5,true)],fun x=>spec_ivEnds k x.1⟩
noncomputable def q21C(k:Nat):Cfg:=⟨Tryz.prog,tyOf tys,35,gOf [(170,[],q20V k)],false,[],[]⟩
def q21i1:List PE := [e15,e16,⟨13,48,.val ty_7 false,false⟩,e17,e18]
def q21o1:List PE := [e15,e16]
noncomputable def q21f1(k:Nat)(n:Nat)(x5:PTe q21i1):=spec_ivEnds_L58 k n x5.1 x5.2.1 x5.2.2.1 x5.2.2.2.1 x5.2.2.2.2.1
def q21p:List PE := [e19]
noncomputable def q21F(k:Nat):F7:=⟨q21C k,rr q21p [(ty_5,true)] Tryz.f260,fun p=>bif Nat.beq p 7474 then some (.cut [e15,e16,e20,⟨13,64,.val ty_7 false,false⟩,e21,e22] 112)else bif Nat.beq p 58 then some (.loop q21i1 q21o1 0 96 (q21f1 k k))else none,0,[]⟩
theorem q21K(k:Nat):Contract Tryz.prog 260 (q21V k):=ctr (q21C k) (rs := [(ty_5,true)]) (ps:=q21p) (q21F k) Tryz.f260 16 ⟨tyOf_ok tys_ok,gOf_ok ⟨q20K k,trivial⟩⟩ (annl [58] ⟨lok q21i1 q21o1 0 96 (q21f1 k) k,trivial⟩)

noncomputable def q22V(k:Nat):Variant:=⟨[.ptr ty_3 true],[(ty_5,true)],fun x=>spec_l1Cur_interval k KSl.xs x.1⟩
noncomputable def q22C(k:Nat):Cfg:=⟨Tryz.prog,tyOf tys,31,gOf [(319,[],q10V k),(91,[],q5V),(70,[],q4V),(87,[],q16V k),(260,[],q21V k)],false,[],[]⟩
def q22p:List PE := [e1]
noncomputable def q22F(k:Nat):F8:=⟨q22C k,rr q22p [(ty_5,true)] Tryz.f253,fun p=>bif Nat.beq p 62 then some (.cut [e15,e10,e23,e1] 64)else bif Nat.beq p 30 then some (.cut [e1,e15,e10,e23] 64)else none,0,[0]⟩
theorem q22K(k:Nat):Contract Tryz.prog 253 (q22V k):=ctr (q22C k) (rs := [(ty_5,true)]) (ps:=q22p) (q22F k) Tryz.f253 16 ⟨tyOf_ok tys_ok,gOf_ok ⟨q10K k,q5K,q4K,q16K k,q21K k,trivial⟩⟩ (annl [] trivial)

noncomputable def q23V(k:Nat):Variant:=⟨[.ptr ty_3 true],[(ty_5,true)],fun x=>spec_l1Cur_anyInterval k KSl.xs x.1⟩
noncomputable def q23C(k:Nat):Cfg:=⟨Tryz.prog,tyOf tys,26,gOf [(253,[],q22V k),(129,[],q3V),(252,[],q11V k)],false,[],[]⟩
def q23p:List PE := [e1]
noncomputable def q23F(k:Nat):F8:=⟨q23C k,rr q23p [(ty_5,true)] Tryz.f155,fun p=>none,0,[0]⟩
theorem q23K(k:Nat):Contract Tryz.prog 155 (q23V k):=ctr (q23C k) (rs := [(ty_5,true)]) (ps:=q23p) (q23F k) Tryz.f155 16 ⟨tyOf_ok tys_ok,gOf_ok ⟨q22K k,q3K,q11K k,trivial⟩⟩ (annl [] trivial)

noncomputable def q24V(k:Nat):Variant:=⟨[.ptr ty_3 true,.val ty_0 false],[(ty_11,false)],fun x=>spec_l1Cur_intervals k KSl.xs x.1 x.2.1⟩
noncomputable def q24C(k:Nat):Cfg:=⟨Tryz.prog,tyOf tys,88,gOf [(91,[],q5V),(153,[],q12V k),(129,[],q3V),(154,[],q8V k),(70,[],q4V),(87,[],q16V k),(155,[],q23V k)],false,[5,67,70,83],[74]⟩
def q24i1:List PE := [e1,e11,e24,e25,e26]
def q24o1:List PE := [e1,e11,e24,e25,e26]
noncomputable def q24f1(k:Nat)(n:Nat)(x15:PTe q24i1):=spec_l1Cur_intervals_L3860 k KSl.xs n x15.1 x15.2.1 x15.2.2.1 x15.2.2.2.1 x15.2.2.2.2.1
def q24i2:List PE := [e1,e11,e24,e25]
def q24o2:List PE := [e1,e11,e24]
noncomputable def q24f2(k:Nat)(n:Nat)(x18:PTe q24i2):=spec_l1Cur_intervals_L60 k KSl.xs n x18.1 x18.2.1 x18.2.2.1 x18.2.2.2.1
def q24p:List PE := [e1,e3]
noncomputable def q24F(k:Nat):Fn ((List (List ((Int×Int)×Int×Int)))×Unit×Int×Int):=⟨q24C k,rr q24p [(ty_11,false)] Tryz.f69,fun p=>bif Nat.beq p 988254 then some (.cut [e1,e11,e24,e25,e26,e27,⟨9,112,.box ty_4 false,false⟩] 128)else bif Nat.beq p 494126 then some (.cut [e1,e11,e24,e25,e26,e27,⟨9,112,.box ty_4 false,false⟩,⟨10,128,.val .bool false,false⟩] 144)else bif Nat.beq p 123530 then some (.cut [e1,e11,e24,e25,e26,e27] 112)else bif Nat.beq p 3860 then some (.loop q24i1 q24o1 2 96 (q24f1 k k))else bif Nat.beq p 60 then some (.loop q24i2 q24o2 0 80 (q24f2 k k))else none,0,[0]⟩
theorem q24K(k:Nat):Contract Tryz.prog 69 (q24V k):=ctr (q24C k) (rs := [(ty_11,false)]) (ps:=q24p) (q24F k) Tryz.f69 32 ⟨tyOf_ok tys_ok,gOf_ok ⟨q5K,q12K k,q3K,q8K k,q4K,q16K k,q23K k,trivial⟩⟩ (annl [60,3860] ⟨lok q24i2 q24o2 0 80 (q24f2 k) k,lok q24i1 q24o1 2 96 (q24f1 k) k,trivial⟩)

noncomputable def q25V(k:Nat):Variant:=⟨[.val (.sl (.int .u8)) false],[(ty_11,false)],fun x=>spec_DrawDeterminantIn k x.1⟩
noncomputable def spec_DrawDeterminantIn_V0(k:Nat):Variant:=⟨[.val .ks false],[(ty_11,false)],fun _=>spec_DrawDeterminantIn k KSl.xs⟩
noncomputable def q25C(k:Nat):Cfg:=⟨Tryz.prog,tyOf tys,15,gOf [(70,[],q4V),(69,[],q24V k)],false,[],[]⟩
def q25p:List PE := [e28]
noncomputable def q25F(k:Nat):F9:=⟨q25C k,rr q25p [(ty_11,false)] Tryz.f8,fun p=>none,0,[]⟩
theorem spec_DrawDeterminantIn_K0(k:Nat):Contract Tryz.prog 8 (spec_DrawDeterminantIn_V0 k):=ctr (q25C k) (rs := [(ty_11,false)]) (ps:=q25p) (q25F k) Tryz.f8 16 ⟨tyOf_ok tys_ok,gOf_ok ⟨q4K,q24K k,trivial⟩⟩ (annl [] trivial)
theorem q25K(k:Nat):Contract Tryz.prog 8 (q25V k):=contractDraw (by kernel_rfl) (fun kk => @spec_DrawDeterminantIn_K0 kk k)

noncomputable def q26V:Variant:=⟨[.val ty_0 false,.val ty_0 false,.val ty_0 false],[(.bool,false)],fun x=>impl_inside x.1 x.2.1 x.2.2.1⟩
noncomputable def q26C:Cfg:=⟨Tryz.prog,tyOf tys,15,gOf [],false,[],[]⟩
def q26p:List PE := [e4,e3,e5]
noncomputable def q26F:F1:=⟨q26C,rr q26p [(.bool,false)] Tryz.f118,fun p=>none,0,[]⟩
theorem q26K:Contract Tryz.prog 118 (q26V):=ctr q26C (rs := [(.bool,false)]) (ps:=q26p) q26F Tryz.f118 48 ⟨tyOf_ok tys_ok,gOf_ok trivial⟩ (annl [] trivial)

noncomputable def q27V:Variant:=⟨[.val ty_0 false],[(.bool,false)],fun x=>impl_isPlaces x.1⟩
noncomputable def q27C:Cfg:=⟨Tryz.prog,tyOf tys,5,gOf [(118,[],q26V)],false,[],[]⟩
def q27p:List PE := [e4]
noncomputable def q27F:F1:=⟨q27C,rr q27p [(.bool,false)] Tryz.f96,fun p=>none,0,[]⟩
theorem q27K:Contract Tryz.prog 96 (q27V):=ctr q27C (rs := [(.bool,false)]) (ps:=q27p) q27F Tryz.f96 16 ⟨tyOf_ok tys_ok,gOf_ok ⟨q26K,trivial⟩⟩ (annl [] trivial)

noncomputable def q28V:Variant:=⟨[.val ty_4 true],[(.bool,false)],fun x=>impl_isDyadic x.1⟩
noncomputable def q28C:Cfg:=⟨Tryz.prog,tyOf tys,22,gOf [(96,[],q27V),(118,[],q26V)],false,[],[]⟩
def q28p:List PE := [e6]
noncomputable def q28F:F1:=⟨q28C,rr q28p [(.bool,false)] Tryz.f172,fun p=>none,0,[]⟩
theorem q28K:Contract Tryz.prog 172 (q28V):=ctr q28C (rs := [(.bool,false)]) (ps:=q28p) q28F Tryz.f172 16 ⟨tyOf_ok tys_ok,gOf_ok ⟨q27K,q26K,trivial⟩⟩ (annl [] trivial)

noncomputable def q29V:Variant:=⟨[.val ty_0 false],[(ty_1,false)],fun x=>impl_size x.1⟩
noncomputable def q29C:Cfg:=⟨Tryz.prog,tyOf tys,10,gOf [],false,[],[]⟩
def q29p:List PE := [e4]
noncomputable def q29F:F6:=⟨q29C,rr q29p [(ty_1,false)] Tryz.f272,fun p=>none,0,[]⟩
theorem q29K:Contract Tryz.prog 272 (q29V):=ctr q29C (rs := [(ty_1,false)]) (ps:=q29p) q29F Tryz.f272 16 ⟨tyOf_ok tys_ok,gOf_ok trivial⟩ (annl [] trivial)

noncomputable def q30V:Variant:=⟨[.val ty_0 false],[(ty_10,true)],fun x=>impl_wideOf x.1⟩
noncomputable def q30C:Cfg:=⟨Tryz.prog,tyOf tys,8,gOf [(272,[],q29V)],false,[],[]⟩
def q30p:List PE := [e4]
noncomputable def q30F:F10:=⟨q30C,rr q30p [(ty_10,true)] Tryz.f230,fun p=>none,0,[]⟩
theorem q30K:Contract Tryz.prog 230 (q30V):=ctr q30C (rs := [(ty_10,true)]) (ps:=q30p) q30F Tryz.f230 16 ⟨tyOf_ok tys_ok,gOf_ok ⟨q29K,trivial⟩⟩ (annl [] trivial)

noncomputable def q31V:Variant:=⟨[.val ty_10 true,.val ty_0 false],[(ty_10,true)],fun x=>impl_wide_shift x.1 x.2.1⟩
noncomputable def q31C:Cfg:=⟨Tryz.prog,tyOf tys,63,gOf [],false,[],[]⟩
def q31p:List PE := [e29,e3]
noncomputable def q31F:F10:=⟨q31C,rr q31p [(ty_10,true)] Tryz.f264,fun p=>none,0,[]⟩
theorem q31K:Contract Tryz.prog 264 (q31V):=ctr q31C (rs := [(ty_10,true)]) (ps:=q31p) q31F Tryz.f264 32 ⟨tyOf_ok tys_ok,gOf_ok trivial⟩ (annl [] trivial)

noncomputable def q32V:Variant:=⟨[.val ty_10 true],[(.bool,false)],fun x=>impl_wide_isZero x.1⟩
noncomputable def q32C:Cfg:=⟨Tryz.prog,tyOf tys,11,gOf [],false,[],[]⟩
def q32p:List PE := [e29]
noncomputable def q32F:F1:=⟨q32C,rr q32p [(.bool,false)] Tryz.f307,fun p=>none,0,[]⟩
theorem q32K:Contract Tryz.prog 307 (q32V):=ctr q32C (rs := [(.bool,false)]) (ps:=q32p) q32F Tryz.f307 16 ⟨tyOf_ok tys_ok,gOf_ok trivial⟩ (annl [] trivial)

noncomputable def q33V:Variant:=⟨[.val ty_1 false],[(.bool,false)],fun x=>cmp_isNaN_uint64 x.1⟩
noncomputable def q33C:Cfg:=⟨Tryz.prog,tyOf tys,6,gOf [],false,[],[]⟩
def q33p:List PE := [e30]
noncomputable def q33F:F1:=⟨q33C,rr q33p [(.bool,false)] Tryz.f353,fun p=>none,0,[]⟩
theorem q33K:Contract Tryz.prog 353 (q33V):=ctr q33C (rs := [(.bool,false)]) (ps:=q33p) q33F Tryz.f353 16 ⟨tyOf_ok tys_ok,gOf_ok trivial⟩ (annl [] trivial)

noncomputable def q34V:Variant:=⟨[.val ty_1 false,.val ty_1 false],[(ty_0,false)],fun x=>cmp_Compare_uint64 x.1 x.2.1⟩
noncomputable def q34C:Cfg:=⟨Tryz.prog,tyOf tys,20,gOf [(353,[],q33V)],false,[],[]⟩
def q34p:List PE := [e30,e31]
noncomputable def q34F:F6:=⟨q34C,rr q34p [(ty_0,false)] Tryz.f328,fun p=>none,0,[]⟩
theorem q34K:Contract Tryz.prog 328 (q34V):=ctr q34C (rs := [(ty_0,false)]) (ps:=q34p) q34F Tryz.f328 32 ⟨tyOf_ok tys_ok,gOf_ok ⟨q33K,trivial⟩⟩ (annl [] trivial)

noncomputable def q35V(k:Nat):Variant:=⟨[.val ty_8 false],[(ty_0,false)],fun x=>cmp_Or_int k x.1⟩
noncomputable def q35C(k:Nat):Cfg:=⟨Tryz.prog,tyOf tys,18,gOf [],false,[],[]⟩
def q35i1:List PE := [e2,⟨6,32,.val ty_8 false,false⟩,⟨7,48,.val ty_0 false,false⟩,⟨8,64,.val ty_0 false,false⟩]
def q35o1:List PE := [e2]
noncomputable def q35f1(k:Nat)(n:Nat)(x1:PTe q35i1):=cmp_Or_int_L58 k n x1.1 x1.2.1 x1.2.2.1 x1.2.2.2.1
def q35p:List PE := [⟨0,0,.val ty_8 false,false⟩]
noncomputable def q35F(k:Nat):F6:=⟨q35C k,rr q35p [(ty_0,false)] Tryz.f327,fun p=>bif Nat.beq p 58 then some (.loop q35i1 q35o1 0 80 (q35f1 k k))else none,0,[]⟩
theorem q35K(k:Nat):Contract Tryz.prog 327 (q35V k):=ctr (q35C k) (rs := [(ty_0,false)]) (ps:=q35p) (q35F k) Tryz.f327 16 ⟨tyOf_ok tys_ok,gOf_ok trivial⟩ (annl [58] ⟨lok q35i1 q35o1 0 80 (q35f1 k) k,trivial⟩)

noncomputable def q36V(k:Nat):Variant:=⟨[.val ty_10 true,.val ty_10 true],[(ty_0,false)],fun x=>impl_compareSizes k x.1 x.2.1⟩
noncomputable def q36C(k:Nat):Cfg:=⟨Tryz.prog,tyOf tys,17,gOf [(328,[],q34V),(327,[],q35V k)],false,[],[]⟩
def q36p:List PE := [e29,e32]
noncomputable def q36F(k:Nat):F6:=⟨q36C k,rr q36p [(ty_0,false)] Tryz.f273,fun p=>none,0,[]⟩
theorem q36K(k:Nat):Contract Tryz.prog 273 (q36V k):=ctr (q36C k) (rs := [(ty_0,false)]) (ps:=q36p) (q36F k) Tryz.f273 32 ⟨tyOf_ok tys_ok,gOf_ok ⟨q34K,q35K k,trivial⟩⟩ (annl [] trivial)

noncomputable def q37V(k:Nat):Variant:=⟨[.val ty_10 true,.val ty_10 true],[(ty_0,false)],fun x=>impl_compareWide k x.1 x.2.1⟩
noncomputable def q37C(k:Nat):Cfg:=⟨Tryz.prog,tyOf tys,29,gOf [(307,[],q32V),(273,[],q36V k)],false,[],[]⟩
def q37p:List PE := [e29,e32]
noncomputable def q37F(k:Nat):F6:=⟨q37C k,rr q37p [(ty_0,false)] Tryz.f263,fun p=>bif Nat.beq p 6 then some (.cut [⟨2,32,.box ty_10 false,false⟩,⟨3,48,.box ty_10 false,false⟩] 64)else none,0,[]⟩
theorem q37K(k:Nat):Contract Tryz.prog 263 (q37V k):=ctr (q37C k) (rs := [(ty_0,false)]) (ps:=q37p) (q37F k) Tryz.f263 32 ⟨tyOf_ok tys_ok,gOf_ok ⟨q32K,q36K k,trivial⟩⟩ (annl [] trivial)

noncomputable def q38V(k:Nat):Variant:=⟨[.val ty_4 true,.val ty_4 true],[(ty_0,false)],fun x=>impl_compareD k x.1 x.2.1⟩
noncomputable def q38C(k:Nat):Cfg:=⟨Tryz.prog,tyOf tys,28,gOf [(230,[],q30V),(264,[],q31V),(263,[],q37V k)],false,[],[]⟩
def q38p:List PE := [e6,e14]
noncomputable def q38F(k:Nat):F6:=⟨q38C k,rr q38p [(ty_0,false)] Tryz.f168,fun p=>none,0,[]⟩
theorem q38K(k:Nat):Contract Tryz.prog 168 (q38V k):=ctr (q38C k) (rs := [(ty_0,false)]) (ps:=q38p) (q38F k) Tryz.f168 32 ⟨tyOf_ok tys_ok,gOf_ok ⟨q30K,q31K,q37K k,trivial⟩⟩ (annl [] trivial)

noncomputable def q39V(k:Nat):Variant:=⟨[.val ty_5 true],[(.bool,false)],fun x=>impl_isInterval k x.1⟩
noncomputable def q39C(k:Nat):Cfg:=⟨Tryz.prog,tyOf tys,19,gOf [(172,[],q28V),(168,[],q38V k)],false,[],[]⟩
def q39p:List PE := [e33]
noncomputable def q39F(k:Nat):F1:=⟨q39C k,rr q39p [(.bool,false)] Tryz.f78,fun p=>none,0,[]⟩
theorem q39K(k:Nat):Contract Tryz.prog 78 (q39V k):=ctr (q39C k) (rs := [(.bool,false)]) (ps:=q39p) (q39F k) Tryz.f78 16 ⟨tyOf_ok tys_ok,gOf_ok ⟨q28K,q38K k,trivial⟩⟩ (annl [] trivial)

noncomputable def q40V(k:Nat):Variant:=⟨[.val ty_5 true],[(.bool,false)],fun x=>impl_isIntervalTable_1 k x.1⟩
noncomputable def q40C(k:Nat):Cfg:=⟨Tryz.prog,tyOf tys,6,gOf [(78,[],q39V k)],false,[],[]⟩
def q40p:List PE := [e33]
noncomputable def q40F(k:Nat):F1:=⟨q40C k,rr q40p [(.bool,false)] Tryz.f157,fun p=>none,0,[]⟩
theorem q40K(k:Nat):Contract Tryz.prog 157 (q40V k):=ctr (q40C k) (rs := [(.bool,false)]) (ps:=q40p) (q40F k) Tryz.f157 16 ⟨tyOf_ok tys_ok,gOf_ok ⟨q39K k,trivial⟩⟩ (annl [] trivial)

noncomputable def q41V(k:Nat):Variant:=⟨[.val ty_6 false,.fn 157 []],[(ty_0,false)],fun x=>slices_IndexFunc_Interval_Interval_impl_isIntervalTable_1 k x.1 x.2.1⟩
noncomputable def q41C(k:Nat):Cfg:=⟨Tryz.prog,tyOf tys,19,gOf [(157,[],q40V k)],false,[],[]⟩
def q41i1:List PE := [⟨0,32,.val ty_6 false,false⟩,⟨1,48,.fn 157 [],false⟩,e34,⟨8,80,.val ty_0 false,false⟩]
def q41o1:List PE := []
noncomputable def q41f1(k:Nat)(n:Nat)(x2:PTe q41i1):=slices_IndexFunc_Interval_Interval_impl_isIntervalTable_1_L26 k n x2.1 x2.2.1 x2.2.2.1 x2.2.2.2.1
def q41p:List PE := [e35,⟨1,16,.fn 157 [],false⟩]
noncomputable def q41F(k:Nat):F6:=⟨q41C k,rr q41p [(ty_0,false)] Tryz.f254,fun p=>bif Nat.beq p 26 then some (.loop q41i1 q41o1 0 96 (q41f1 k k))else none,0,[]⟩
theorem q41K(k:Nat):Contract Tryz.prog 254 (q41V k):=ctr (q41C k) (rs := [(ty_0,false)]) (ps:=q41p) (q41F k) Tryz.f254 32 ⟨tyOf_ok tys_ok,gOf_ok ⟨q40K k,trivial⟩⟩ (annl [26] ⟨lok q41i1 q41o1 0 96 (q41f1 k) k,trivial⟩)

noncomputable def q42V(k:Nat):Variant:=⟨[.val ty_6 false,.fn 157 []],[(.bool,false)],fun x=>slices_ContainsFunc_Interval_Interval_impl_isIntervalTable_1 k x.1 x.2.1⟩
noncomputable def q42C(k:Nat):Cfg:=⟨Tryz.prog,tyOf tys,9,gOf [(254,[157],q41V k)],false,[],[]⟩
def q42p:List PE := [e35,⟨1,16,.fn 157 [],false⟩]
noncomputable def q42F(k:Nat):F1:=⟨q42C k,rr q42p [(.bool,false)] Tryz.f156,fun p=>none,0,[]⟩
theorem q42K(k:Nat):Contract Tryz.prog 156 (q42V k):=ctr (q42C k) (rs := [(.bool,false)]) (ps:=q42p) (q42F k) Tryz.f156 32 ⟨tyOf_ok tys_ok,gOf_ok ⟨q41K k,trivial⟩⟩ (annl [] trivial)

noncomputable def q43V(k:Nat):Variant:=⟨[.val ty_11 false],[(.bool,false)],fun x=>impl_isIntervalTable k x.1⟩
noncomputable def q43C(k:Nat):Cfg:=⟨Tryz.prog,tyOf tys,24,gOf [(156,[157],q42V k),(118,[],q26V)],false,[],[]⟩
def q43i1:List PE := [e36,⟨5,32,.val ty_11 false,false⟩,⟨6,48,.val ty_0 false,false⟩,e34]
def q43o1:List PE := [e36]
noncomputable def q43f1(k:Nat)(n:Nat)(x2:PTe q43i1):=impl_isIntervalTable_L26 k n x2.1 x2.2.1 x2.2.2.1 x2.2.2.2.1
def q43p:List PE := [e37]
noncomputable def q43F(k:Nat):F1:=⟨q43C k,rr q43p [(.bool,false)] Tryz.f71,fun p=>bif Nat.beq p 26 then some (.loop q43i1 q43o1 0 80 (q43f1 k k))else none,0,[]⟩
theorem q43K(k:Nat):Contract Tryz.prog 71 (q43V k):=ctr (q43C k) (rs := [(.bool,false)]) (ps:=q43p) (q43F k) Tryz.f71 16 ⟨tyOf_ok tys_ok,gOf_ok ⟨q42K k,q26K,trivial⟩⟩ (annl [26] ⟨lok q43i1 q43o1 0 80 (q43f1 k) k,trivial⟩)

noncomputable def q44V:Variant:=⟨[.lit (.slice none 0 0),.val ty_0 false],[(ty_6,false)],fun x=>slices_Grow_Interval_Interval x.1 x.2.1⟩
noncomputable def q44C:Cfg:=⟨Tryz.prog,tyOf tys,27,gOf [],true,[],[]⟩
def q44p:List PE := [⟨0,0,.lit (.slice none 0 0),false⟩,e3]
noncomputable def q44F:Fn (List ((Int×Int)×Int×Int)):=⟨q44C,rr q44p [(ty_6,false)] Tryz.f321,fun p=>none,0,[]⟩
theorem q44K:Contract Tryz.prog 321 (q44V):=ctr q44C (rs := [(ty_6,false)]) (ps:=q44p) q44F Tryz.f321 32 ⟨tyOf_ok tys_ok,gOf_ok trivial⟩ (annl [] trivial)

noncomputable def q45V(k:Nat):Variant:=⟨[.val ty_11 false],[(ty_6,false)],fun x=>slices_Concat_Interval_Interval k x.1⟩
noncomputable def q45C(k:Nat):Cfg:=⟨Tryz.prog,tyOf tys,36,gOf [(321,[],q44V)],false,[],[]⟩
def q45i1:List PE := [e36,e38,⟨9,48,.val ty_11 false,false⟩,⟨10,64,.val ty_0 false,false⟩,⟨11,80,.val ty_0 false,false⟩]
def q45o1:List PE := [e36,e38]
noncomputable def q45f1(k:Nat)(n:Nat)(x1:PTe q45i1):=slices_Concat_Interval_Interval_L58 k n x1.1 x1.2.1 x1.2.2.1 x1.2.2.2.1 x1.2.2.2.2.1
def q45i2:List PE := [⟨6,16,.eat ty_5,false⟩,⟨25,32,.val ty_11 false,false⟩,⟨26,48,.val ty_0 false,false⟩,⟨27,64,.val ty_0 false,false⟩]
def q45o2:List PE := [⟨6,16,.eat ty_5,false⟩]
noncomputable def q45f2(k:Nat)(n:Nat)(x5:PTe q45i2):=slices_Concat_Interval_Interval_L250 k n x5.1 x5.2.1 x5.2.2.1 x5.2.2.2.1
def q45p:List PE := [e37]
noncomputable def q45F(k:Nat):Fn (List ((Int×Int)×Int×Int)):=⟨q45C k,rr q45p [(ty_6,false)] Tryz.f257,fun p=>bif Nat.beq p 58 then some (.loop q45i1 q45o1 0 96 (q45f1 k k))else bif Nat.beq p 250 then some (.loop q45i2 q45o2 2 80 (q45f2 k k))else none,0,[]⟩
theorem q45K(k:Nat):Contract Tryz.prog 257 (q45V k):=ctr (q45C k) (rs := [(ty_6,false)]) (ps:=q45p) (q45F k) Tryz.f257 16 ⟨tyOf_ok tys_ok,gOf_ok ⟨q44K,trivial⟩⟩ (annl [58,250] ⟨lok q45i1 q45o1 0 96 (q45f1 k) k,lok q45i2 q45o2 2 80 (q45f2 k) k,trivial⟩)

noncomputable def q46V(k:Nat):Variant:=⟨[.val ty_11 false,.val ty_0 false,.val ty_0 false],[(ty_11,false)],fun x=>impl_part_Interval k x.1 x.2.1 x.2.2.1⟩
noncomputable def q46C(k:Nat):Cfg:=⟨Tryz.prog,tyOf tys,34,gOf [(257,[],q45V k)],false,[],[28]⟩
def q46i1:List PE := [e8,e39,e40,⟨10,96,.val ty_11 false,false⟩,e41,e42]
def q46o1:List PE := [⟨7,48,.eat ty_6,false⟩]
noncomputable def q46f1(k:Nat)(n:Nat)(x2:PTe q46i1):=impl_part_Interval_L58 k n x2.1 x2.2.1 x2.2.2.1 x2.2.2.2.1 x2.2.2.2.2.1 x2.2.2.2.2.2.1
def q46p:List PE := [e37,e3,e5]
noncomputable def q46F(k:Nat):F9:=⟨q46C k,rr q46p [(ty_11,false)] Tryz.f159,fun p=>bif Nat.beq p 58 then some (.loop q46i1 q46o1 0 144 (q46f1 k k))else none,0,[]⟩
theorem q46K(k:Nat):Contract Tryz.prog 159 (q46V k):=ctr (q46C k) (rs := [(ty_11,false)]) (ps:=q46p) (q46F k) Tryz.f159 48 ⟨tyOf_ok tys_ok,gOf_ok ⟨q45K k,trivial⟩⟩ (annl [58] ⟨lok q46i1 q46o1 0 144 (q46f1 k) k,trivial⟩)

noncomputable def q47V:Variant:=⟨[.val ty_1 false,.val ty_1 false],[(ty_1,false),(ty_1,false)],fun x=>math_bits_Mul64 x.1 x.2.1⟩
noncomputable def q47C:Cfg:=⟨Tryz.prog,tyOf tys,51,gOf [],false,[],[]⟩
def q47p:List PE := [e30,e31]
noncomputable def q47F:F4:=⟨q47C,rr q47p [(ty_1,false),(ty_1,false)] Tryz.f351,fun p=>none,0,[]⟩
theorem q47K:Contract Tryz.prog 351 (q47V):=ctr q47C (rs := [(ty_1,false),(ty_1,false)]) (ps:=q47p) q47F Tryz.f351 32 ⟨tyOf_ok tys_ok,gOf_ok trivial⟩ (annl [] trivial)

noncomputable def q48V:Variant:=⟨[.val ty_0 false,.val ty_0 false],[(ty_10,true)],fun x=>impl_timesWide x.1 x.2.1⟩
noncomputable def q48C:Cfg:=⟨Tryz.prog,tyOf tys,23,gOf [(272,[],q29V),(351,[],q47V)],false,[],[]⟩
def q48p:List PE := [e4,e3]
noncomputable def q48F:F10:=⟨q48C,rr q48p [(ty_10,true)] Tryz.f324,fun p=>none,0,[]⟩
theorem q48K:Contract Tryz.prog 324 (q48V):=ctr q48C (rs := [(ty_10,true)]) (ps:=q48p) q48F Tryz.f324 32 ⟨tyOf_ok tys_ok,gOf_ok ⟨q29K,q47K,trivial⟩⟩ (annl [] trivial)

noncomputable def q49V(k:Nat):Variant:=⟨[.val ty_10 true,.val ty_0 false],[(ty_4,true),(.bool,false)],fun x=>impl_wide_fit k x.1 x.2.1⟩
noncomputable def q49C(k:Nat):Cfg:=⟨Tryz.prog,tyOf tys,45,gOf [(307,[],q32V),(264,[],q31V)],false,[],[]⟩
def q49i1:List PE := [e11,⟨2,48,.box ty_10 false,false⟩,e9]
def q49o1:List PE := [e11,⟨2,48,.box ty_10 false,false⟩,e9]
noncomputable def q49f1(k:Nat)(n:Nat)(x3:PTe q49i1):=impl_wide_fit_L28 k n x3.1 x3.2.1 x3.2.2.1
def q49p:List PE := [e29,e3]
noncomputable def q49F(k:Nat):F3:=⟨q49C k,rr q49p [(ty_4,true),(.bool,false)] Tryz.f231,fun p=>bif Nat.beq p 28 then some (.loop q49i1 q49o1 0 80 (q49f1 k k))else none,0,[]⟩
theorem q49K(k:Nat):Contract Tryz.prog 231 (q49V k):=ctr (q49C k) (rs := [(ty_4,true),(.bool,false)]) (ps:=q49p) (q49F k) Tryz.f231 32 ⟨tyOf_ok tys_ok,gOf_ok ⟨q32K,q31K,trivial⟩⟩ (annl [28] ⟨lok q49i1 q49o1 0 80 (q49f1 k) k,trivial⟩)

noncomputable def q50V(k:Nat):Variant:=⟨[.val ty_4 true,.val ty_4 true],[(ty_4,true),(.bool,false)],fun x=>impl_productOf k x.1 x.2.1⟩
noncomputable def q50C(k:Nat):Cfg:=⟨Tryz.prog,tyOf tys,19,gOf [(324,[],q48V),(231,[],q49V k)],false,[],[]⟩
def q50p:List PE := [e6,e14]
noncomputable def q50F(k:Nat):F3:=⟨q50C k,rr q50p [(ty_4,true),(.bool,false)] Tryz.f268,fun p=>none,0,[]⟩
theorem q50K(k:Nat):Contract Tryz.prog 268 (q50V k):=ctr (q50C k) (rs := [(ty_4,true),(.bool,false)]) (ps:=q50p) (q50F k) Tryz.f268 32 ⟨tyOf_ok tys_ok,gOf_ok ⟨q48K,q49K k,trivial⟩⟩ (annl [] trivial)

noncomputable def q51V:Variant:=⟨[.ptr .bool true,.val ty_4 true,.val .bool false],[(ty_4,true)],fun x=>impl_reckoner_keep x.1 x.2.1 x.2.2.1⟩
noncomputable def q51C:Cfg:=⟨Tryz.prog,tyOf tys,24,gOf [],false,[],[]⟩
def q51p:List PE := [e43,e14,⟨2,32,.val .bool false,false⟩]
noncomputable def q51F:F3:=⟨q51C,rr q51p [(ty_4,true)] Tryz.f188,fun p=>none,0,[0]⟩
theorem q51K:Contract Tryz.prog 188 (q51V):=ctr q51C (rs := [(ty_4,true)]) (ps:=q51p) q51F Tryz.f188 48 ⟨tyOf_ok tys_ok,gOf_ok trivial⟩ (annl [] trivial)

noncomputable def q52V(k:Nat):Variant:=⟨[.ptr .bool true,.val ty_4 true,.val ty_4 true],[(ty_4,true)],fun x=>impl_reckoner_product k x.1 x.2.1 x.2.2.1⟩
noncomputable def q52C(k:Nat):Cfg:=⟨Tryz.prog,tyOf tys,14,gOf [(268,[],q50V k),(188,[],q51V)],false,[],[]⟩
def q52p:List PE := [e43,e14,e44]
noncomputable def q52F(k:Nat):F3:=⟨q52C k,rr q52p [(ty_4,true)] Tryz.f175,fun p=>none,0,[0]⟩
theorem q52K(k:Nat):Contract Tryz.prog 175 (q52V k):=ctr (q52C k) (rs := [(ty_4,true)]) (ps:=q52p) (q52F k) Tryz.f175 48 ⟨tyOf_ok tys_ok,gOf_ok ⟨q50K k,q51K,trivial⟩⟩ (annl [] trivial)

noncomputable def q53V(k:Nat):Variant:=⟨[.val ty_4 true,.val ty_4 true],[(ty_4,true)],fun x=>impl_lesser k x.1 x.2.1⟩
noncomputable def q53C(k:Nat):Cfg:=⟨Tryz.prog,tyOf tys,11,gOf [(168,[],q38V k)],false,[],[]⟩
def q53p:List PE := [e6,e14]
noncomputable def q53F(k:Nat):F4:=⟨q53C k,rr q53p [(ty_4,true)] Tryz.f256,fun p=>none,0,[]⟩
theorem q53K(k:Nat):Contract Tryz.prog 256 (q53V k):=ctr (q53C k) (rs := [(ty_4,true)]) (ps:=q53p) (q53F k) Tryz.f256 32 ⟨tyOf_ok tys_ok,gOf_ok ⟨q38K k,trivial⟩⟩ (annl [] trivial)

noncomputable def q54V(k:Nat):Variant:=⟨[.val ty_4 true,.val ty_4 true],[(ty_4,true)],fun x=>impl_greater k x.1 x.2.1⟩
noncomputable def q54C(k:Nat):Cfg:=⟨Tryz.prog,tyOf tys,11,gOf [(168,[],q38V k)],false,[],[]⟩
def q54p:List PE := [e6,e14]
noncomputable def q54F(k:Nat):F4:=⟨q54C k,rr q54p [(ty_4,true)] Tryz.f84,fun p=>none,0,[]⟩
theorem q54K(k:Nat):Contract Tryz.prog 84 (q54V k):=ctr (q54C k) (rs := [(ty_4,true)]) (ps:=q54p) (q54F k) Tryz.f84 32 ⟨tyOf_ok tys_ok,gOf_ok ⟨q38K k,trivial⟩⟩ (annl [] trivial)

noncomputable def q55V(k:Nat):Variant:=⟨[.val ty_4 true,.val ty_0 false],[(ty_4,true)],fun x=>impl_roundDown k x.1 x.2.1⟩
noncomputable def q55C(k:Nat):Cfg:=⟨Tryz.prog,tyOf tys,26,gOf [(230,[],q30V),(231,[],q49V k)],false,[],[]⟩
def q55p:List PE := [e6,e3]
noncomputable def q55F(k:Nat):F4:=⟨q55C k,rr q55p [(ty_4,true)] Tryz.f320,fun p=>none,0,[]⟩
theorem q55K(k:Nat):Contract Tryz.prog 320 (q55V k):=ctr (q55C k) (rs := [(ty_4,true)]) (ps:=q55p) (q55F k) Tryz.f320 32 ⟨tyOf_ok tys_ok,gOf_ok ⟨q30K,q49K k,trivial⟩⟩ (annl [] trivial)

noncomputable def q56V:Variant:=⟨[.val ty_4 true],[(ty_4,true)],fun x=>impl_minus x.1⟩
noncomputable def q56C:Cfg:=⟨Tryz.prog,tyOf tys,9,gOf [],false,[],[]⟩
def q56p:List PE := [e6]
noncomputable def q56F:F4:=⟨q56C,rr q56p [(ty_4,true)] Tryz.f85,fun p=>none,0,[]⟩
theorem q56K:Contract Tryz.prog 85 (q56V):=ctr q56C (rs := [(ty_4,true)]) (ps:=q56p) q56F Tryz.f85 16 ⟨tyOf_ok tys_ok,gOf_ok trivial⟩ (annl [] trivial)

noncomputable def q57V(k:Nat):Variant:=⟨[.val ty_5 true,.val ty_0 false],[(ty_5,true)],fun x=>impl_roundOut k x.1 x.2.1⟩
noncomputable def q57C(k:Nat):Cfg:=⟨Tryz.prog,tyOf tys,16,gOf [(320,[],q55V k),(85,[],q56V)],false,[],[]⟩
def q57p:List PE := [e33,e3]
noncomputable def q57F(k:Nat):F7:=⟨q57C k,rr q57p [(ty_5,true)] Tryz.f255,fun p=>none,0,[]⟩
theorem q57K(k:Nat):Contract Tryz.prog 255 (q57V k):=ctr (q57C k) (rs := [(ty_5,true)]) (ps:=q57p) (q57F k) Tryz.f255 32 ⟨tyOf_ok tys_ok,gOf_ok ⟨q55K k,q56K,trivial⟩⟩ (annl [] trivial)

noncomputable def q58V(k:Nat):Variant:=⟨[.ptr .bool true,.val ty_5 true,.val ty_5 true],[(ty_5,true)],fun x=>impl_reckoner_multiply k x.1 x.2.1 x.2.2.1⟩
noncomputable def q58C(k:Nat):Cfg:=⟨Tryz.prog,tyOf tys,51,gOf [(175,[],q52V k),(256,[],q53V k),(84,[],q54V k),(255,[],q57V k)],false,[],[]⟩
def q58p:List PE := [e43,e45,e46]
noncomputable def q58F(k:Nat):F11:=⟨q58C k,rr q58p [(ty_5,true)] Tryz.f158,fun p=>none,0,[0]⟩
theorem q58K(k:Nat):Contract Tryz.prog 158 (q58V k):=ctr (q58C k) (rs := [(ty_5,true)]) (ps:=q58p) (q58F k) Tryz.f158 48 ⟨tyOf_ok tys_ok,gOf_ok ⟨q52K k,q53K k,q54K k,q57K k,trivial⟩⟩ (annl [] trivial)

noncomputable def q59V:Variant:=V64 math_bits_Add64
theorem q59K:Contract Tryz.prog 329 q59V:=contractAdd64 (fn:=Tryz.f329) (by kernel_rfl) (by kernel_rfl) (by kernel_rfl) (by kernel_rfl) (by kernel_rfl)

noncomputable def q60V:Variant:=V64 math_bits_Sub64
theorem q60K:Contract Tryz.prog 330 q60V:=contractSub64 (fn:=Tryz.f330) (by kernel_rfl) (by kernel_rfl) (by kernel_rfl) (by kernel_rfl) (by kernel_rfl)

noncomputable def q61V(k:Nat):Variant:=⟨[.val ty_10 true,.val ty_10 true],[(ty_10,true)],fun x=>impl_wide_add k x.1 x.2.1⟩
noncomputable def q61C(k:Nat):Cfg:=⟨Tryz.prog,tyOf tys,68,gOf [(329,[],q59V),(273,[],q36V k),(330,[],q60V)],false,[],[]⟩
def q61p:List PE := [e29,e32]
noncomputable def q61F(k:Nat):F10:=⟨q61C k,rr q61p [(ty_10,true)] Tryz.f274,fun p=>bif Nat.beq p 14 then some (.cut [⟨2,32,.box ty_10 false,false⟩,⟨3,48,.box ty_10 false,false⟩,⟨4,64,.box ty_10 false,false⟩] 80)else none,0,[]⟩
theorem q61K(k:Nat):Contract Tryz.prog 274 (q61V k):=ctr (q61C k) (rs := [(ty_10,true)]) (ps:=q61p) (q61F k) Tryz.f274 32 ⟨tyOf_ok tys_ok,gOf_ok ⟨q59K,q36K k,q60K,trivial⟩⟩ (annl [] trivial)

noncomputable def q62V(k:Nat):Variant:=⟨[.val ty_4 true,.val ty_4 true],[(ty_4,true),(.bool,false)],fun x=>impl_sumOf k x.1 x.2.1⟩
noncomputable def q62C(k:Nat):Cfg:=⟨Tryz.prog,tyOf tys,33,gOf [(230,[],q30V),(264,[],q31V),(274,[],q61V k),(231,[],q49V k)],false,[],[]⟩
def q62p:List PE := [e6,e14]
noncomputable def q62F(k:Nat):F3:=⟨q62C k,rr q62p [(ty_4,true),(.bool,false)] Tryz.f270,fun p=>none,0,[]⟩
theorem q62K(k:Nat):Contract Tryz.prog 270 (q62V k):=ctr (q62C k) (rs := [(ty_4,true),(.bool,false)]) (ps:=q62p) (q62F k) Tryz.f270 32 ⟨tyOf_ok tys_ok,gOf_ok ⟨q30K,q31K,q61K k,q49K k,trivial⟩⟩ (annl [] trivial)

noncomputable def q63V(k:Nat):Variant:=⟨[.ptr .bool true,.val ty_4 true,.val ty_4 true],[(ty_4,true)],fun x=>impl_reckoner_sum k x.1 x.2.1 x.2.2.1⟩
noncomputable def q63C(k:Nat):Cfg:=⟨Tryz.prog,tyOf tys,14,gOf [(270,[],q62V k),(188,[],q51V)],false,[],[]⟩
def q63p:List PE := [e43,e14,e44]
noncomputable def q63F(k:Nat):F3:=⟨q63C k,rr q63p [(ty_4,true)] Tryz.f182,fun p=>none,0,[0]⟩
theorem q63K(k:Nat):Contract Tryz.prog 182 (q63V k):=ctr (q63C k) (rs := [(ty_4,true)]) (ps:=q63p) (q63F k) Tryz.f182 48 ⟨tyOf_ok tys_ok,gOf_ok ⟨q62K k,q51K,trivial⟩⟩ (annl [] trivial)

noncomputable def q64V(k:Nat):Variant:=⟨[.ptr .bool true,.val ty_5 true,.val ty_5 true],[(ty_5,true)],fun x=>impl_reckoner_subtract k x.1 x.2.1 x.2.2.1⟩
noncomputable def q64C(k:Nat):Cfg:=⟨Tryz.prog,tyOf tys,22,gOf [(85,[],q56V),(182,[],q63V k)],false,[],[]⟩
def q64p:List PE := [e43,e45,e46]
noncomputable def q64F(k:Nat):F11:=⟨q64C k,rr q64p [(ty_5,true)] Tryz.f160,fun p=>none,0,[0]⟩
theorem q64K(k:Nat):Contract Tryz.prog 160 (q64V k):=ctr (q64C k) (rs := [(ty_5,true)]) (ps:=q64p) (q64F k) Tryz.f160 48 ⟨tyOf_ok tys_ok,gOf_ok ⟨q56K,q63K k,trivial⟩⟩ (annl [] trivial)

noncomputable def q65V(k:Nat):Variant:=⟨[.ptr .bool true,.val ty_5 true,.val ty_5 true],[(ty_5,true)],fun x=>impl_reckoner_add k x.1 x.2.1 x.2.2.1⟩
noncomputable def q65C(k:Nat):Cfg:=⟨Tryz.prog,tyOf tys,20,gOf [(182,[],q63V k)],false,[],[]⟩
def q65p:List PE := [e43,e45,e46]
noncomputable def q65F(k:Nat):F11:=⟨q65C k,rr q65p [(ty_5,true)] Tryz.f161,fun p=>none,0,[0]⟩
theorem q65K(k:Nat):Contract Tryz.prog 161 (q65V k):=ctr (q65C k) (rs := [(ty_5,true)]) (ps:=q65p) (q65F k) Tryz.f161 48 ⟨tyOf_ok tys_ok,gOf_ok ⟨q63K k,trivial⟩⟩ (annl [] trivial)

noncomputable def q66V(k:Nat):Variant:=⟨[.ptr .bool true,.val ty_11 false],[(ty_5,true)],fun x=>impl_reckoner_determinantIn k x.1 x.2.1⟩
noncomputable def q66W(rc:Bool→(List (List ((Int×Int)×Int×Int)))→Option (((Int×Int)×Int×Int)×Bool)):Variant:=⟨[.ptr .bool true,.val ty_11 false],[(ty_5,true)],fun x=>rc x.1 x.2.1⟩
noncomputable def q66C(k:Nat)(rc:Bool→(List (List ((Int×Int)×Int×Int)))→Option (((Int×Int)×Int×Int)×Bool)):Cfg:=⟨Tryz.prog,tyOf tys,53,gOf [(159,[],q46V k),(73,[],q66W rc),(158,[],q58V k),(160,[],q64V k),(161,[],q65V k)],false,[],[]⟩
def q66i1:List PE := [e43,e47,e48,⟨5,64,.box ty_5 false,false⟩,⟨20,80,.val ty_6 false,false⟩,⟨21,96,.val ty_0 false,false⟩,⟨22,112,.val ty_0 false,false⟩]
def q66o1:List PE := [e49,⟨5,48,.box ty_5 false,false⟩,e43]
noncomputable def q66f1(k:Nat)(rc:Bool→(List (List ((Int×Int)×Int×Int)))→Option (((Int×Int)×Int×Int)×Bool))(n:Nat)(x6:PTe q66i1):=impl_reckoner_determinantIn_L122 k rc n x6.1 x6.2.1 x6.2.2.1 x6.2.2.2.1 x6.2.2.2.2.1 x6.2.2.2.2.2.1 x6.2.2.2.2.2.2.1
def q66p:List PE := [e43,e50]
noncomputable def q66F(k:Nat)(rc:Bool→(List (List ((Int×Int)×Int×Int)))→Option (((Int×Int)×Int×Int)×Bool)):F11:=⟨q66C k rc,rr q66p [(ty_5,true)] Tryz.f73,fun p=>bif Nat.beq p 122 then some (.loop q66i1 q66o1 0 128 (q66f1 k rc k))else none,0,[0]⟩
theorem q66KB(k:Nat)(rc:Bool→(List (List ((Int×Int)×Int×Int)))→Option (((Int×Int)×Int×Int)×Bool))(hrc:Contract Tryz.prog 73 (q66W rc)):Contract Tryz.prog 73 (q66W (impl_reckoner_determinantIn_B k rc)):=ctr (q66C k rc) (rs := [(ty_5,true)]) (ps:=q66p) (q66F k rc) Tryz.f73 32 ⟨tyOf_ok tys_ok,gOf_ok ⟨q46K k,hrc,q58K k,q64K k,q65K k,trivial⟩⟩ (annl [122] ⟨lok q66i1 q66o1 0 128 (q66f1 k rc) k,trivial⟩)
theorem q66KR(k:Nat):∀n,Contract Tryz.prog 73 (q66W (impl_reckoner_determinantIn_R k n))
 | 0=>contract_none fun _=>rfl
 | n+1=>q66KB k _ (q66KR k n)
theorem q66K(k:Nat):Contract Tryz.prog 73 (q66V k):=q66KR k k

noncomputable def q67V:Variant:=⟨[.ptr .bool true,.val ty_5 true],[(ty_5,true),(.bool,false)],fun x=>impl_reckoner_result x.1 x.2.1⟩
noncomputable def q67C:Cfg:=⟨Tryz.prog,tyOf tys,13,gOf [],false,[],[]⟩
def q67p:List PE := [e43,e45]
noncomputable def q67F:Fn (((Int×Int)×Int×Int)×Bool×Bool):=⟨q67C,rr q67p [(ty_5,true),(.bool,false)] Tryz.f72,fun p=>none,0,[0]⟩
theorem q67K:Contract Tryz.prog 72 (q67V):=ctr q67C (rs := [(ty_5,true),(.bool,false)]) (ps:=q67p) q67F Tryz.f72 32 ⟨tyOf_ok tys_ok,gOf_ok trivial⟩ (annl [] trivial)

noncomputable def q68V(k:Nat):Variant:=⟨[.val ty_11 false],[(ty_5,true),(.bool,false)],fun x=>impl_DeterminantIn k x.1⟩
noncomputable def q68C(k:Nat):Cfg:=⟨Tryz.prog,tyOf tys,18,gOf [(71,[],q43V k),(73,[],q66V k),(72,[],q67V)],false,[],[]⟩
def q68p:List PE := [e37]
noncomputable def q68F(k:Nat):F11:=⟨q68C k,rr q68p [(ty_5,true),(.bool,false)] Tryz.f9,fun p=>none,0,[]⟩
theorem q68K(k:Nat):Contract Tryz.prog 9 (q68V k):=ctr (q68C k) (rs := [(ty_5,true),(.bool,false)]) (ps:=q68p) (q68F k) Tryz.f9 16 ⟨tyOf_ok tys_ok,gOf_ok ⟨q43K k,q66K k,q67K,trivial⟩⟩ (annl [] trivial)

noncomputable def q69V(k:Nat):Variant:=⟨[.val ty_5 true],[(.bool,false)],fun x=>spec_ivGood k x.1⟩
noncomputable def q69C(k:Nat):Cfg:=⟨Tryz.prog,tyOf tys,19,gOf [(177,[],q7V),(170,[],q20V k)],false,[],[]⟩
def q69p:List PE := [e33]
noncomputable def q69F(k:Nat):F1:=⟨q69C k,rr q69p [(.bool,false)] Tryz.f162,fun p=>none,0,[]⟩
theorem q69K(k:Nat):Contract Tryz.prog 162 (q69V k):=ctr (q69C k) (rs := [(.bool,false)]) (ps:=q69p) (q69F k) Tryz.f162 16 ⟨tyOf_ok tys_ok,gOf_ok ⟨q7K,q20K k,trivial⟩⟩ (annl [] trivial)

noncomputable def q70V(k:Nat):Variant:=⟨[.val ty_8 false,.val ty_0 false,.val ty_0 false],[(.bool,false)],fun x=>spec_l1All k x.1 x.2.1 x.2.2.1⟩
noncomputable def q70C(k:Nat):Cfg:=⟨Tryz.prog,tyOf tys,21,gOf [(98,[],q6V)],false,[],[]⟩
def q70i1:List PE := [e8,e39,⟨9,80,.val ty_8 false,false⟩,e51,e41]
def q70o1:List PE := []
noncomputable def q70f1(k:Nat)(n:Nat)(x2:PTe q70i1):=spec_l1All_L26 k n x2.1 x2.2.1 x2.2.2.1 x2.2.2.2.1 x2.2.2.2.2.1
def q70p:List PE := [⟨0,0,.val ty_8 false,false⟩,e3,e5]
noncomputable def q70F(k:Nat):F1:=⟨q70C k,rr q70p [(.bool,false)] Tryz.f258,fun p=>bif Nat.beq p 26 then some (.loop q70i1 q70o1 0 128 (q70f1 k k))else none,0,[]⟩
theorem q70K(k:Nat):Contract Tryz.prog 258 (q70V k):=ctr (q70C k) (rs := [(.bool,false)]) (ps:=q70p) (q70F k) Tryz.f258 48 ⟨tyOf_ok tys_ok,gOf_ok ⟨q6K,trivial⟩⟩ (annl [26] ⟨lok q70i1 q70o1 0 128 (q70f1 k) k,trivial⟩)

noncomputable def q71V(k:Nat):Variant:=⟨[.val ty_0 false,.val ty_8 false],[(.bool,false)],fun x=>spec_mxSquare k x.1 x.2.1⟩
noncomputable def q71C(k:Nat):Cfg:=⟨Tryz.prog,tyOf tys,13,gOf [(98,[],q6V),(258,[],q70V k)],false,[],[]⟩
def q71p:List PE := [e4,⟨1,16,.val ty_8 false,false⟩]
noncomputable def q71F(k:Nat):F1:=⟨q71C k,rr q71p [(.bool,false)] Tryz.f163,fun p=>none,0,[]⟩
theorem q71K(k:Nat):Contract Tryz.prog 163 (q71V k):=ctr (q71C k) (rs := [(.bool,false)]) (ps:=q71p) (q71F k) Tryz.f163 32 ⟨tyOf_ok tys_ok,gOf_ok ⟨q6K,q70K k,trivial⟩⟩ (annl [] trivial)

noncomputable def q72V(k:Nat):Variant:=⟨[.val ty_11 false],[(.bool,false)],fun x=>spec_mxFits k x.1⟩
noncomputable def q72C(k:Nat):Cfg:=⟨Tryz.prog,tyOf tys,34,gOf [(162,[],q69V k),(163,[],q71V k)],false,[],[]⟩
def q72i1:List PE := [e36,e52,⟨5,48,.val ty_6 false,false⟩,⟨8,64,.val ty_11 false,false⟩,e53,e51,⟨14,112,.val ty_6 false,false⟩,⟨15,128,.val ty_0 false,false⟩,e54]
def q72o1:List PE := [e36,e52,⟨5,48,.val ty_6 false,false⟩,⟨8,64,.val ty_11 false,false⟩,e53,e51]
noncomputable def q72f1(k:Nat)(n:Nat)(x2:PTe q72i1):=spec_mxFits_L29898 k n x2.1 x2.2.1 x2.2.2.1 x2.2.2.2.1 x2.2.2.2.2.1 x2.2.2.2.2.2.1 x2.2.2.2.2.2.2.1 x2.2.2.2.2.2.2.2.1 x2.2.2.2.2.2.2.2.2.1
def q72i2:List PE := [e36,e52,⟨8,48,.val ty_11 false,false⟩,⟨9,64,.val ty_0 false,false⟩,e55]
def q72o2:List PE := [e36,e52]
noncomputable def q72f2(k:Nat)(n:Nat)(x5:PTe q72i2):=spec_mxFits_L58 k n x5.1 x5.2.1 x5.2.2.1 x5.2.2.2.1 x5.2.2.2.2.1
def q72p:List PE := [e37]
noncomputable def q72F(k:Nat):F1:=⟨q72C k,rr q72p [(.bool,false)] Tryz.f74,fun p=>bif Nat.beq p 29898 then some (.loop q72i1 q72o1 2 160 (q72f1 k k))else bif Nat.beq p 58 then some (.loop q72i2 q72o2 0 96 (q72f2 k k))else none,0,[]⟩
theorem q72K(k:Nat):Contract Tryz.prog 74 (q72V k):=ctr (q72C k) (rs := [(.bool,false)]) (ps:=q72p) (q72F k) Tryz.f74 16 ⟨tyOf_ok tys_ok,gOf_ok ⟨q69K k,q71K k,trivial⟩⟩ (annl [58,29898] ⟨lok q72i2 q72o2 0 96 (q72f2 k) k,lok q72i1 q72o1 2 160 (q72f1 k) k,trivial⟩)

noncomputable def q73V(k:Nat):Variant:=⟨[.val ty_11 false,.val ty_0 false],[(ty_11,false)],fun x=>spec_mxLess k x.1 x.2.1⟩
noncomputable def q73C(k:Nat):Cfg:=⟨Tryz.prog,tyOf tys,30,gOf [],false,[],[]⟩
def q73i1:List PE := [e11,e24,⟨9,64,.val ty_11 false,false⟩,e55,⟨11,96,.val ty_0 false,false⟩]
def q73o1:List PE := [⟨5,32,.eat ty_6,false⟩]
noncomputable def q73f1(k:Nat)(n:Nat)(x1:PTe q73i1):=spec_mxLess_L58 k n x1.1 x1.2.1 x1.2.2.1 x1.2.2.2.1 x1.2.2.2.2.1
def q73p:List PE := [e37,e3]
noncomputable def q73F(k:Nat):F9:=⟨q73C k,rr q73p [(ty_11,false)] Tryz.f164,fun p=>bif Nat.beq p 58 then some (.loop q73i1 q73o1 0 112 (q73f1 k k))else none,0,[]⟩
theorem q73K(k:Nat):Contract Tryz.prog 164 (q73V k):=ctr (q73C k) (rs := [(ty_11,false)]) (ps:=q73p) (q73F k) Tryz.f164 32 ⟨tyOf_ok tys_ok,gOf_ok trivial⟩ (annl [58] ⟨lok q73i1 q73o1 0 112 (q73f1 k) k,trivial⟩)

noncomputable def q74V:Variant:=⟨[.val ty_0 false],[(ty_0,false)],fun x=>spec_l1Abs x.1⟩
noncomputable def q74C:Cfg:=⟨Tryz.prog,tyOf tys,7,gOf [(183,[],q13V)],false,[],[]⟩
def q74p:List PE := [e4]
noncomputable def q74F:F6:=⟨q74C,rr q74p [(ty_0,false)] Tryz.f185,fun p=>none,0,[]⟩
theorem q74K:Contract Tryz.prog 185 (q74V):=ctr q74C (rs := [(ty_0,false)]) (ps:=q74p) q74F Tryz.f185 16 ⟨tyOf_ok tys_ok,gOf_ok ⟨q13K,trivial⟩⟩ (annl [] trivial)

noncomputable def q75V(k:Nat):Variant:=⟨[.val ty_4 true,.val ty_4 true],[(ty_4,true),(.bool,false)],fun x=>spec_dyMul k x.1 x.2.1⟩
noncomputable def q75C(k:Nat):Cfg:=⟨Tryz.prog,tyOf tys,67,gOf [(185,[],q74V),(154,[],q8V k)],false,[],[]⟩
def q75i1:List PE := [e13,e56,e9,e57]
def q75o1:List PE := [e13,e56,e9,e57]
noncomputable def q75f1(k:Nat)(n:Nat)(x1:PTe q75i1):=spec_dyMul_L60 k n x1.1 x1.2.1 x1.2.2.1 x1.2.2.2.1
def q75i2:List PE := [e13,e56,e9,e57]
def q75o2:List PE := [e13,e56,e9,e57]
noncomputable def q75f2(k:Nat)(n:Nat)(x4:PTe q75i2):=spec_dyMul_L124 k n x4.1 x4.2.1 x4.2.2.1 x4.2.2.2.1
def q75p:List PE := [e6,e14]
noncomputable def q75F(k:Nat):F3:=⟨q75C k,rr q75p [(ty_4,true),(.bool,false)] Tryz.f179,fun p=>bif Nat.beq p 60 then some (.loop q75i1 q75o1 0 96 (q75f1 k k))else bif Nat.beq p 124 then some (.loop q75i2 q75o2 2 96 (q75f2 k k))else none,0,[]⟩
theorem q75K(k:Nat):Contract Tryz.prog 179 (q75V k):=ctr (q75C k) (rs := [(ty_4,true),(.bool,false)]) (ps:=q75p) (q75F k) Tryz.f179 32 ⟨tyOf_ok tys_ok,gOf_ok ⟨q74K,q8K k,trivial⟩⟩ (annl [60,124] ⟨lok q75i1 q75o1 0 96 (q75f1 k) k,lok q75i2 q75o2 2 96 (q75f2 k) k,trivial⟩)

noncomputable def q76V(k:Nat):Variant:=⟨[.val ty_4 true,.val ty_0 false],[(ty_4,true)],fun x=>spec_dyRound k x.1 x.2.1⟩
noncomputable def q76C(k:Nat):Cfg:=⟨Tryz.prog,tyOf tys,26,gOf [(218,[],q14V),(275,[],q17V),(154,[],q8V k)],false,[],[]⟩
def q76p:List PE := [e6,e3]
noncomputable def q76F(k:Nat):F4:=⟨q76C k,rr q76p [(ty_4,true)] Tryz.f322,fun p=>none,0,[]⟩
theorem q76K(k:Nat):Contract Tryz.prog 322 (q76V k):=ctr (q76C k) (rs := [(ty_4,true)]) (ps:=q76p) (q76F k) Tryz.f322 32 ⟨tyOf_ok tys_ok,gOf_ok ⟨q14K,q17K,q8K k,trivial⟩⟩ (annl [] trivial)

noncomputable def q77V:Variant:=⟨[.val ty_4 true],[(ty_4,true)],fun x=>spec_dyMinus x.1⟩
noncomputable def q77C:Cfg:=⟨Tryz.prog,tyOf tys,9,gOf [],false,[],[]⟩
def q77p:List PE := [e6]
noncomputable def q77F:F4:=⟨q77C,rr q77p [(ty_4,true)] Tryz.f180,fun p=>none,0,[]⟩
theorem q77K:Contract Tryz.prog 180 (q77V):=ctr q77C (rs := [(ty_4,true)]) (ps:=q77p) q77F Tryz.f180 16 ⟨tyOf_ok tys_ok,gOf_ok trivial⟩ (annl [] trivial)

noncomputable def q78V(k:Nat):Variant:=⟨[.val ty_4 true,.val ty_0 false],[(ty_4,true)],fun x=>spec_ivUp k x.1 x.2.1⟩
noncomputable def q78C(k:Nat):Cfg:=⟨Tryz.prog,tyOf tys,10,gOf [(180,[],q77V),(322,[],q76V k)],false,[],[]⟩
def q78p:List PE := [e6,e3]
noncomputable def q78F(k:Nat):F4:=⟨q78C k,rr q78p [(ty_4,true)] Tryz.f323,fun p=>none,0,[]⟩
theorem q78K(k:Nat):Contract Tryz.prog 323 (q78V k):=ctr (q78C k) (rs := [(ty_4,true)]) (ps:=q78p) (q78F k) Tryz.f323 32 ⟨tyOf_ok tys_ok,gOf_ok ⟨q77K,q76K k,trivial⟩⟩ (annl [] trivial)

noncomputable def q79V(k:Nat):Variant:=⟨[.val ty_5 true,.val ty_0 false],[(ty_5,true)],fun x=>spec_ivRound k x.1 x.2.1⟩
noncomputable def q79C(k:Nat):Cfg:=⟨Tryz.prog,tyOf tys,14,gOf [(322,[],q76V k),(323,[],q78V k)],false,[],[]⟩
def q79p:List PE := [e33,e3]
noncomputable def q79F(k:Nat):F7:=⟨q79C k,rr q79p [(ty_5,true)] Tryz.f259,fun p=>none,0,[]⟩
theorem q79K(k:Nat):Contract Tryz.prog 259 (q79V k):=ctr (q79C k) (rs := [(ty_5,true)]) (ps:=q79p) (q79F k) Tryz.f259 32 ⟨tyOf_ok tys_ok,gOf_ok ⟨q76K k,q78K k,trivial⟩⟩ (annl [] trivial)

noncomputable def q80V(k:Nat):Variant:=⟨[.val ty_5 true,.val ty_5 true],[(ty_5,true),(.bool,false)],fun x=>spec_ivMul k x.1 x.2.1⟩
noncomputable def q80C(k:Nat):Cfg:=⟨Tryz.prog,tyOf tys,51,gOf [(179,[],q75V k),(260,[],q21V k),(259,[],q79V k)],false,[],[]⟩
def q80i1:List PE := [e16,e48,e58,e59,⟨17,96,.eat ty_4,false⟩,⟨18,112,.val ty_0 false,false⟩,⟨19,128,.val ty_0 false,false⟩,⟨27,144,.eat ty_4,false⟩,⟨28,160,.val ty_0 false,false⟩,⟨29,176,.val ty_0 false,false⟩]
def q80o1:List PE := [e16,e48,e58,⟨17,80,.eat ty_4,false⟩,e60,e61]
noncomputable def q80f1(k:Nat)(n:Nat)(x2:PTe q80i1):=spec_ivMul_L14950 k n x2.1 x2.2.1 x2.2.2.1 x2.2.2.2.1 x2.2.2.2.2.1 x2.2.2.2.2.2.1 x2.2.2.2.2.2.2.1 x2.2.2.2.2.2.2.2.1 x2.2.2.2.2.2.2.2.2.1 x2.2.2.2.2.2.2.2.2.2.1
def q80i2:List PE := [e16,e48,e58,⟨17,80,.eat ty_4,false⟩,e60,e61]
def q80o2:List PE := [e49,⟨6,48,.eat ty_4,false⟩]
noncomputable def q80f2(k:Nat)(n:Nat)(x5:PTe q80i2):=spec_ivMul_L58 k n x5.1 x5.2.1 x5.2.2.1 x5.2.2.2.1 x5.2.2.2.2.1 x5.2.2.2.2.2.1
def q80p:List PE := [e33,e45]
noncomputable def q80F(k:Nat):F11:=⟨q80C k,rr q80p [(ty_5,true),(.bool,false)] Tryz.f165,fun p=>bif Nat.beq p 14950 then some (.loop q80i1 q80o1 2 192 (q80f1 k k))else bif Nat.beq p 58 then some (.loop q80i2 q80o2 0 128 (q80f2 k k))else none,0,[]⟩
theorem q80K(k:Nat):Contract Tryz.prog 165 (q80V k):=ctr (q80C k) (rs := [(ty_5,true),(.bool,false)]) (ps:=q80p) (q80F k) Tryz.f165 32 ⟨tyOf_ok tys_ok,gOf_ok ⟨q75K k,q21K k,q79K k,trivial⟩⟩ (annl [58,14950] ⟨lok q80i2 q80o2 0 128 (q80f2 k) k,lok q80i1 q80o1 2 192 (q80f1 k) k,trivial⟩)

noncomputable def q81V:Variant:=⟨[.val ty_4 true,.val .bool false,.val ty_4 true,.val .bool false],[(ty_5,true),(.bool,false)],fun x=>spec_ivBoth x.1 x.2.1 x.2.2.1 x.2.2.2.1⟩
noncomputable def q81C:Cfg:=⟨Tryz.prog,tyOf tys,20,gOf [],false,[],[]⟩
def q81p:List PE := [e6,⟨1,16,.val .bool false,false⟩,e44,⟨3,48,.val .bool false,false⟩]
noncomputable def q81F:F11:=⟨q81C,rr q81p [(ty_5,true),(.bool,false)] Tryz.f261,fun p=>none,0,[]⟩
theorem q81K:Contract Tryz.prog 261 (q81V):=ctr q81C (rs := [(ty_5,true),(.bool,false)]) (ps:=q81p) q81F Tryz.f261 64 ⟨tyOf_ok tys_ok,gOf_ok trivial⟩ (annl [] trivial)

noncomputable def q82V(k:Nat):Variant:=⟨[.val ty_5 true,.val ty_5 true],[(ty_5,true),(.bool,false)],fun x=>spec_ivAdd k x.1 x.2.1⟩
noncomputable def q82C(k:Nat):Cfg:=⟨Tryz.prog,tyOf tys,33,gOf [(87,[],q16V k),(261,[],q81V)],false,[],[]⟩
def q82p:List PE := [e33,e45]
noncomputable def q82F(k:Nat):F11:=⟨q82C k,rr q82p [(ty_5,true),(.bool,false)] Tryz.f166,fun p=>none,0,[]⟩
theorem q82K(k:Nat):Contract Tryz.prog 166 (q82V k):=ctr (q82C k) (rs := [(ty_5,true),(.bool,false)]) (ps:=q82p) (q82F k) Tryz.f166 32 ⟨tyOf_ok tys_ok,gOf_ok ⟨q16K k,q81K,trivial⟩⟩ (annl [] trivial)

noncomputable def q83V:Variant:=⟨[.val ty_5 true],[(ty_5,true)],fun x=>spec_ivMinus x.1⟩
noncomputable def q83C:Cfg:=⟨Tryz.prog,tyOf tys,10,gOf [(180,[],q77V)],false,[],[]⟩
def q83p:List PE := [e33]
noncomputable def q83F:F7:=⟨q83C,rr q83p [(ty_5,true)] Tryz.f262,fun p=>none,0,[]⟩
theorem q83K:Contract Tryz.prog 262 (q83V):=ctr q83C (rs := [(ty_5,true)]) (ps:=q83p) q83F Tryz.f262 16 ⟨tyOf_ok tys_ok,gOf_ok ⟨q77K,trivial⟩⟩ (annl [] trivial)

noncomputable def q84V(k:Nat):Variant:=⟨[.val ty_5 true,.val ty_5 true],[(ty_5,true),(.bool,false)],fun x=>spec_ivSub k x.1 x.2.1⟩
noncomputable def q84C(k:Nat):Cfg:=⟨Tryz.prog,tyOf tys,12,gOf [(262,[],q83V),(166,[],q82V k)],false,[],[]⟩
def q84p:List PE := [e33,e45]
noncomputable def q84F(k:Nat):F11:=⟨q84C k,rr q84p [(ty_5,true),(.bool,false)] Tryz.f167,fun p=>none,0,[]⟩
theorem q84K(k:Nat):Contract Tryz.prog 167 (q84V k):=ctr (q84C k) (rs := [(ty_5,true),(.bool,false)]) (ps:=q84p) (q84F k) Tryz.f167 32 ⟨tyOf_ok tys_ok,gOf_ok ⟨q83K,q82K k,trivial⟩⟩ (annl [] trivial)

noncomputable def q85V(k:Nat):Variant:=⟨[.val ty_11 false],[(ty_5,true),(.bool,false)],fun x=>spec_mxDetIn k x.1⟩
noncomputable def q85W(rc:(List (List ((Int×Int)×Int×Int)))→Option (((Int×Int)×Int×Int)×Bool)):Variant:=⟨[.val ty_11 false],[(ty_5,true),(.bool,false)],fun x=>rc x.1⟩
noncomputable def q85C(k:Nat)(rc:(List (List ((Int×Int)×Int×Int)))→Option (((Int×Int)×Int×Int)×Bool)):Cfg:=⟨Tryz.prog,tyOf tys,71,gOf [(164,[],q73V k),(75,[],q85W rc),(165,[],q80V k),(166,[],q82V k),(167,[],q84V k)],false,[],[]⟩
def q85i1:List PE := [e36,⟨2,32,.box ty_5 false,false⟩,e48,⟨24,64,.val ty_6 false,false⟩,⟨25,80,.val ty_0 false,false⟩,⟨26,96,.val ty_0 false,false⟩]
def q85o1:List PE := [e15,e49]
noncomputable def q85f1(k:Nat)(rc:(List (List ((Int×Int)×Int×Int)))→Option (((Int×Int)×Int×Int)×Bool))(n:Nat)(x8:PTe q85i1):=spec_mxDetIn_L122 k rc n x8.1 x8.2.1 x8.2.2.1 x8.2.2.2.1 x8.2.2.2.2.1 x8.2.2.2.2.2.1
def q85p:List PE := [e37]
noncomputable def q85F(k:Nat)(rc:(List (List ((Int×Int)×Int×Int)))→Option (((Int×Int)×Int×Int)×Bool)):F11:=⟨q85C k rc,rr q85p [(ty_5,true),(.bool,false)] Tryz.f75,fun p=>bif Nat.beq p 501374 then some (.cut [e36,⟨2,32,.box ty_5 false,false⟩,e48,⟨11,64,.box ty_5 false,false⟩,e62,⟨24,96,.val ty_6 false,false⟩,⟨25,112,.val ty_0 false,false⟩,⟨26,128,.val ty_0 false,false⟩] 144)else bif Nat.beq p 122 then some (.loop q85i1 q85o1 0 112 (q85f1 k rc k))else none,0,[]⟩
theorem q85KB(k:Nat)(rc:(List (List ((Int×Int)×Int×Int)))→Option (((Int×Int)×Int×Int)×Bool))(hrc:Contract Tryz.prog 75 (q85W rc)):Contract Tryz.prog 75 (q85W (spec_mxDetIn_B k rc)):=ctr (q85C k rc) (rs := [(ty_5,true),(.bool,false)]) (ps:=q85p) (q85F k rc) Tryz.f75 16 ⟨tyOf_ok tys_ok,gOf_ok ⟨q73K k,hrc,q80K k,q82K k,q84K k,trivial⟩⟩ (annl [122] ⟨lok q85i1 q85o1 0 112 (q85f1 k rc) k,trivial⟩)
theorem q85KR(k:Nat):∀n,Contract Tryz.prog 75 (q85W (spec_mxDetIn_R k n))
 | 0=>contract_none fun _=>rfl
 | n+1=>q85KB k _ (q85KR k n)
theorem q85K(k:Nat):Contract Tryz.prog 75 (q85V k):=q85KR k k

noncomputable def q86V(k:Nat):Variant:=⟨[.val ty_11 false],[(ty_5,true),(.bool,false)],fun x=>spec_DeterminantIn k x.1⟩
noncomputable def q86C(k:Nat):Cfg:=⟨Tryz.prog,tyOf tys,12,gOf [(74,[],q72V k),(75,[],q85V k)],false,[],[]⟩
def q86p:List PE := [e37]
noncomputable def q86F(k:Nat):F11:=⟨q86C k,rr q86p [(ty_5,true),(.bool,false)] Tryz.f10,fun p=>none,0,[]⟩
theorem q86K(k:Nat):Contract Tryz.prog 10 (q86V k):=ctr (q86C k) (rs := [(ty_5,true),(.bool,false)]) (ps:=q86p) (q86F k) Tryz.f10 16 ⟨tyOf_ok tys_ok,gOf_ok ⟨q72K k,q85K k,trivial⟩⟩ (annl [] trivial)

noncomputable def q87V(k:Nat):Variant:=⟨[.ptr .bool true,.val ty_7 false],[(ty_4,true)],fun x=>impl_reckoner_total k x.1 x.2.1⟩
noncomputable def q87C(k:Nat):Cfg:=⟨Tryz.prog,tyOf tys,24,gOf [(182,[],q63V k)],false,[],[]⟩
def q87i1:List PE := [e43,e63,e20,⟨12,64,.val ty_7 false,false⟩,e64,⟨14,96,.val ty_0 false,false⟩]
def q87o1:List PE := [e63,e20,e43]
noncomputable def q87f1(k:Nat)(n:Nat)(x2:PTe q87i1):=impl_reckoner_total_L58 k n x2.1 x2.2.1 x2.2.2.1 x2.2.2.2.1 x2.2.2.2.2.1 x2.2.2.2.2.2.1
def q87p:List PE := [e43,⟨1,16,.val ty_7 false,false⟩]
noncomputable def q87F(k:Nat):F3:=⟨q87C k,rr q87p [(ty_4,true)] Tryz.f86,fun p=>bif Nat.beq p 58 then some (.loop q87i1 q87o1 0 112 (q87f1 k k))else none,0,[0]⟩
theorem q87K(k:Nat):Contract Tryz.prog 86 (q87V k):=ctr (q87C k) (rs := [(ty_4,true)]) (ps:=q87p) (q87F k) Tryz.f86 32 ⟨tyOf_ok tys_ok,gOf_ok ⟨q63K k,trivial⟩⟩ (annl [58] ⟨lok q87i1 q87o1 0 112 (q87f1 k) k,trivial⟩)

noncomputable def q88V:Variant:=⟨[.val ty_0 false],[(ty_4,true)],fun x=>impl_integer x.1⟩
noncomputable def q88C:Cfg:=⟨Tryz.prog,tyOf tys,5,gOf [],false,[],[]⟩
def q88p:List PE := [e4]
noncomputable def q88F:F4:=⟨q88C,rr q88p [(ty_4,true)] Tryz.f169,fun p=>none,0,[]⟩
theorem q88K:Contract Tryz.prog 169 (q88V):=ctr q88C (rs := [(ty_4,true)]) (ps:=q88p) q88F Tryz.f169 16 ⟨tyOf_ok tys_ok,gOf_ok trivial⟩ (annl [] trivial)

noncomputable def q89V(k:Nat):Variant:=⟨[.val ty_11 false],[(.bool,false),(.bool,false)],fun x=>impl_isShrinking k x.1⟩
noncomputable def q89C(k:Nat):Cfg:=⟨Tryz.prog,tyOf tys,63,gOf [(85,[],q56V),(84,[],q54V k),(86,[],q87V k),(169,[],q88V),(168,[],q38V k)],false,[],[]⟩
def q89i1:List PE := [e65,e66,e67,e68,e21,e22,⟨19,112,.val ty_6 false,false⟩,e69,⟨21,144,.val ty_0 false,false⟩]
def q89o1:List PE := [e65,e66,e67,e68,e21,e22]
noncomputable def q89f1(k:Nat)(n:Nat)(x6:PTe q89i1):=impl_isShrinking_L125338 k n x6.1 x6.2.1 x6.2.2.1 x6.2.2.2.1 x6.2.2.2.2.1 x6.2.2.2.2.2.1 x6.2.2.2.2.2.2.1 x6.2.2.2.2.2.2.2.1 x6.2.2.2.2.2.2.2.2.1
def q89i2:List PE := [e65,e66,e70,e17,e18]
def q89o2:List PE := [e65,e66]
noncomputable def q89f2(k:Nat)(n:Nat)(x12:PTe q89i2):=impl_isShrinking_L122 k n x12.1 x12.2.1 x12.2.2.1 x12.2.2.2.1 x12.2.2.2.2.1
def q89p:List PE := [e37]
noncomputable def q89F(k:Nat):F12:=⟨q89C k,rr q89p [(.bool,false),(.bool,false)] Tryz.f76,fun p=>bif Nat.beq p 125338 then some (.loop q89i1 q89o1 2 160 (q89f1 k k))else bif Nat.beq p 122 then some (.loop q89i2 q89o2 0 96 (q89f2 k k))else none,0,[]⟩
theorem q89K(k:Nat):Contract Tryz.prog 76 (q89V k):=ctr (q89C k) (rs := [(.bool,false),(.bool,false)]) (ps:=q89p) (q89F k) Tryz.f76 16 ⟨tyOf_ok tys_ok,gOf_ok ⟨q56K,q54K k,q87K k,q88K,q38K k,trivial⟩⟩ (annl [122,125338] ⟨lok q89i2 q89o2 0 96 (q89f2 k) k,lok q89i1 q89o1 2 160 (q89f1 k) k,trivial⟩)

noncomputable def q90V(k:Nat):Variant:=⟨[.val ty_11 false],[(.bool,false),(.bool,false)],fun x=>impl_IsShrinking k x.1⟩
noncomputable def q90C(k:Nat):Cfg:=⟨Tryz.prog,tyOf tys,11,gOf [(71,[],q43V k),(76,[],q89V k)],false,[],[]⟩
def q90p:List PE := [e37]
noncomputable def q90F(k:Nat):F12:=⟨q90C k,rr q90p [(.bool,false),(.bool,false)] Tryz.f11,fun p=>none,0,[]⟩
theorem q90K(k:Nat):Contract Tryz.prog 11 (q90V k):=ctr (q90C k) (rs := [(.bool,false),(.bool,false)]) (ps:=q90p) (q90F k) Tryz.f11 16 ⟨tyOf_ok tys_ok,gOf_ok ⟨q43K k,q89K k,trivial⟩⟩ (annl [] trivial)

noncomputable def q91V:Variant:=⟨[.val ty_4 true],[(ty_4,true)],fun x=>spec_mxAbs x.1⟩
noncomputable def q91C:Cfg:=⟨Tryz.prog,tyOf tys,9,gOf [(185,[],q74V)],false,[],[]⟩
def q91p:List PE := [e6]
noncomputable def q91F:F4:=⟨q91C,rr q91p [(ty_4,true)] Tryz.f88,fun p=>none,0,[]⟩
theorem q91K:Contract Tryz.prog 88 (q91V):=ctr q91C (rs := [(ty_4,true)]) (ps:=q91p) q91F Tryz.f88 16 ⟨tyOf_ok tys_ok,gOf_ok ⟨q74K,trivial⟩⟩ (annl [] trivial)

noncomputable def q92V(k:Nat):Variant:=⟨[.val ty_11 false],[(.bool,false),(.bool,false)],fun x=>spec_mxShrinking k x.1⟩
noncomputable def q92C(k:Nat):Cfg:=⟨Tryz.prog,tyOf tys,57,gOf [(88,[],q91V),(170,[],q20V k),(87,[],q16V k),(171,[],q9V)],false,[],[]⟩
def q92i1:List PE := [e71,e72,e70,e17,e18,⟨20,96,.val ty_6 false,false⟩,⟨21,112,.val ty_0 false,false⟩,⟨22,128,.val ty_0 false,false⟩]
def q92o1:List PE := [e71,e72,e70,e17,e18]
noncomputable def q92f1(k:Nat)(n:Nat)(x8:PTe q92i1):=spec_mxShrinking_L59802 k n x8.1 x8.2.1 x8.2.2.1 x8.2.2.2.1 x8.2.2.2.2.1 x8.2.2.2.2.2.1 x8.2.2.2.2.2.2.1 x8.2.2.2.2.2.2.2.1
def q92i2:List PE := [e71,⟨13,32,.val ty_11 false,false⟩,⟨14,48,.val ty_0 false,false⟩,⟨15,64,.val ty_0 false,false⟩]
def q92o2:List PE := [e71]
noncomputable def q92f2(k:Nat)(n:Nat)(x13:PTe q92i2):=spec_mxShrinking_L58 k n x13.1 x13.2.1 x13.2.2.1 x13.2.2.2.1
def q92p:List PE := [e37]
noncomputable def q92F(k:Nat):F12:=⟨q92C k,rr q92p [(.bool,false),(.bool,false)] Tryz.f77,fun p=>bif Nat.beq p 15309414 then some (.cut [e71,e72,⟨10,48,.box ty_4 false,false⟩,e68,e21,e22,⟨20,112,.val ty_6 false,false⟩,⟨21,128,.val ty_0 false,false⟩,⟨22,144,.val ty_0 false,false⟩] 160)else bif Nat.beq p 59802 then some (.loop q92i1 q92o1 2 144 (q92f1 k k))else bif Nat.beq p 58 then some (.loop q92i2 q92o2 0 80 (q92f2 k k))else none,0,[]⟩
theorem q92K(k:Nat):Contract Tryz.prog 77 (q92V k):=ctr (q92C k) (rs := [(.bool,false),(.bool,false)]) (ps:=q92p) (q92F k) Tryz.f77 16 ⟨tyOf_ok tys_ok,gOf_ok ⟨q91K,q20K k,q16K k,q9K,trivial⟩⟩ (annl [58,59802] ⟨lok q92i2 q92o2 0 80 (q92f2 k) k,lok q92i1 q92o1 2 144 (q92f1 k) k,trivial⟩)

noncomputable def q93V(k:Nat):Variant:=⟨[.val ty_11 false],[(.bool,false),(.bool,false)],fun x=>spec_IsShrinking k x.1⟩
noncomputable def q93C(k:Nat):Cfg:=⟨Tryz.prog,tyOf tys,11,gOf [(74,[],q72V k),(77,[],q92V k)],false,[],[]⟩
def q93p:List PE := [e37]
noncomputable def q93F(k:Nat):F12:=⟨q93C k,rr q93p [(.bool,false),(.bool,false)] Tryz.f12,fun p=>none,0,[]⟩
theorem q93K(k:Nat):Contract Tryz.prog 12 (q93V k):=ctr (q93C k) (rs := [(.bool,false),(.bool,false)]) (ps:=q93p) (q93F k) Tryz.f12 16 ⟨tyOf_ok tys_ok,gOf_ok ⟨q72K k,q92K k,trivial⟩⟩ (annl [] trivial)

noncomputable def q94V(k:Nat):Variant:=⟨[.val ty_5 true],[(.bool,false)],fun x=>impl_IsInterval k x.1⟩
noncomputable def q94C(k:Nat):Cfg:=⟨Tryz.prog,tyOf tys,5,gOf [(78,[],q39V k)],false,[],[]⟩
def q94p:List PE := [e33]
noncomputable def q94F(k:Nat):F1:=⟨q94C k,rr q94p [(.bool,false)] Tryz.f13,fun p=>none,0,[]⟩
theorem q94K(k:Nat):Contract Tryz.prog 13 (q94V k):=ctr (q94C k) (rs := [(.bool,false)]) (ps:=q94p) (q94F k) Tryz.f13 16 ⟨tyOf_ok tys_ok,gOf_ok ⟨q39K k,trivial⟩⟩ (annl [] trivial)

noncomputable def q95V:Variant:=⟨[.val ty_4 true],[(.bool,false)],fun x=>impl_isTable_1 x.1⟩
noncomputable def q95C:Cfg:=⟨Tryz.prog,tyOf tys,6,gOf [(172,[],q28V)],false,[],[]⟩
def q95p:List PE := [e6]
noncomputable def q95F:F1:=⟨q95C,rr q95p [(.bool,false)] Tryz.f174,fun p=>none,0,[]⟩
theorem q95K:Contract Tryz.prog 174 (q95V):=ctr q95C (rs := [(.bool,false)]) (ps:=q95p) q95F Tryz.f174 16 ⟨tyOf_ok tys_ok,gOf_ok ⟨q28K,trivial⟩⟩ (annl [] trivial)

noncomputable def q96V(k:Nat):Variant:=⟨[.val ty_7 false,.fn 174 []],[(ty_0,false)],fun x=>slices_IndexFunc_Dyadic_Dyadic_impl_isTable_1 k x.1 x.2.1⟩
noncomputable def q96C(k:Nat):Cfg:=⟨Tryz.prog,tyOf tys,19,gOf [(174,[],q95V)],false,[],[]⟩
def q96i1:List PE := [⟨0,32,.val ty_7 false,false⟩,⟨1,48,.fn 174 [],false⟩,e34,⟨8,80,.val ty_0 false,false⟩]
def q96o1:List PE := []
noncomputable def q96f1(k:Nat)(n:Nat)(x2:PTe q96i1):=slices_IndexFunc_Dyadic_Dyadic_impl_isTable_1_L26 k n x2.1 x2.2.1 x2.2.2.1 x2.2.2.2.1
def q96p:List PE := [e19,⟨1,16,.fn 174 [],false⟩]
noncomputable def q96F(k:Nat):F6:=⟨q96C k,rr q96p [(ty_0,false)] Tryz.f267,fun p=>bif Nat.beq p 26 then some (.loop q96i1 q96o1 0 96 (q96f1 k k))else none,0,[]⟩
theorem q96K(k:Nat):Contract Tryz.prog 267 (q96V k):=ctr (q96C k) (rs := [(ty_0,false)]) (ps:=q96p) (q96F k) Tryz.f267 32 ⟨tyOf_ok tys_ok,gOf_ok ⟨q95K,trivial⟩⟩ (annl [26] ⟨lok q96i1 q96o1 0 96 (q96f1 k) k,trivial⟩)

noncomputable def q97V(k:Nat):Variant:=⟨[.val ty_7 false,.fn 174 []],[(.bool,false)],fun x=>slices_ContainsFunc_Dyadic_Dyadic_impl_isTable_1 k x.1 x.2.1⟩
noncomputable def q97C(k:Nat):Cfg:=⟨Tryz.prog,tyOf tys,9,gOf [(267,[174],q96V k)],false,[],[]⟩
def q97p:List PE := [e19,⟨1,16,.fn 174 [],false⟩]
noncomputable def q97F(k:Nat):F1:=⟨q97C k,rr q97p [(.bool,false)] Tryz.f173,fun p=>none,0,[]⟩
theorem q97K(k:Nat):Contract Tryz.prog 173 (q97V k):=ctr (q97C k) (rs := [(.bool,false)]) (ps:=q97p) (q97F k) Tryz.f173 32 ⟨tyOf_ok tys_ok,gOf_ok ⟨q96K k,trivial⟩⟩ (annl [] trivial)

noncomputable def q98V(k:Nat):Variant:=⟨[.val ty_14 false],[(.bool,false)],fun x=>impl_isTable k x.1⟩
noncomputable def q98C(k:Nat):Cfg:=⟨Tryz.prog,tyOf tys,24,gOf [(173,[174],q97V k),(118,[],q26V)],false,[],[]⟩
def q98i1:List PE := [e73,⟨5,32,.val ty_14 false,false⟩,⟨6,48,.val ty_0 false,false⟩,e34]
def q98o1:List PE := [e73]
noncomputable def q98f1(k:Nat)(n:Nat)(x2:PTe q98i1):=impl_isTable_L26 k n x2.1 x2.2.1 x2.2.2.1 x2.2.2.2.1
def q98p:List PE := [e74]
noncomputable def q98F(k:Nat):F1:=⟨q98C k,rr q98p [(.bool,false)] Tryz.f79,fun p=>bif Nat.beq p 26 then some (.loop q98i1 q98o1 0 80 (q98f1 k k))else none,0,[]⟩
theorem q98K(k:Nat):Contract Tryz.prog 79 (q98V k):=ctr (q98C k) (rs := [(.bool,false)]) (ps:=q98p) (q98F k) Tryz.f79 16 ⟨tyOf_ok tys_ok,gOf_ok ⟨q97K k,q26K,trivial⟩⟩ (annl [26] ⟨lok q98i1 q98o1 0 80 (q98f1 k) k,trivial⟩)

noncomputable def q99V:Variant:=⟨[.lit (.slice none 0 0),.val ty_0 false],[(ty_7,false)],fun x=>slices_Grow_Dyadic_Dyadic x.1 x.2.1⟩
noncomputable def q99C:Cfg:=⟨Tryz.prog,tyOf tys,27,gOf [],true,[],[]⟩
def q99p:List PE := [⟨0,0,.lit (.slice none 0 0),false⟩,e3]
noncomputable def q99F:Fn (List (Int×Int)):=⟨q99C,rr q99p [(ty_7,false)] Tryz.f325,fun p=>none,0,[]⟩
theorem q99K:Contract Tryz.prog 325 (q99V):=ctr q99C (rs := [(ty_7,false)]) (ps:=q99p) q99F Tryz.f325 32 ⟨tyOf_ok tys_ok,gOf_ok trivial⟩ (annl [] trivial)

noncomputable def q100V(k:Nat):Variant:=⟨[.val ty_14 false],[(ty_7,false)],fun x=>slices_Concat_Dyadic_Dyadic k x.1⟩
noncomputable def q100C(k:Nat):Cfg:=⟨Tryz.prog,tyOf tys,36,gOf [(325,[],q99V)],false,[],[]⟩
def q100i1:List PE := [e73,e38,⟨9,48,.val ty_14 false,false⟩,⟨10,64,.val ty_0 false,false⟩,⟨11,80,.val ty_0 false,false⟩]
def q100o1:List PE := [e73,e38]
noncomputable def q100f1(k:Nat)(n:Nat)(x1:PTe q100i1):=slices_Concat_Dyadic_Dyadic_L58 k n x1.1 x1.2.1 x1.2.2.1 x1.2.2.2.1 x1.2.2.2.2.1
def q100i2:List PE := [⟨6,16,.eat ty_4,false⟩,⟨25,32,.val ty_14 false,false⟩,⟨26,48,.val ty_0 false,false⟩,⟨27,64,.val ty_0 false,false⟩]
def q100o2:List PE := [⟨6,16,.eat ty_4,false⟩]
noncomputable def q100f2(k:Nat)(n:Nat)(x5:PTe q100i2):=slices_Concat_Dyadic_Dyadic_L250 k n x5.1 x5.2.1 x5.2.2.1 x5.2.2.2.1
def q100p:List PE := [e74]
noncomputable def q100F(k:Nat):Fn (List (Int×Int)):=⟨q100C k,rr q100p [(ty_7,false)] Tryz.f269,fun p=>bif Nat.beq p 58 then some (.loop q100i1 q100o1 0 96 (q100f1 k k))else bif Nat.beq p 250 then some (.loop q100i2 q100o2 2 80 (q100f2 k k))else none,0,[]⟩
theorem q100K(k:Nat):Contract Tryz.prog 269 (q100V k):=ctr (q100C k) (rs := [(ty_7,false)]) (ps:=q100p) (q100F k) Tryz.f269 16 ⟨tyOf_ok tys_ok,gOf_ok ⟨q99K,trivial⟩⟩ (annl [58,250] ⟨lok q100i1 q100o1 0 96 (q100f1 k) k,lok q100i2 q100o2 2 80 (q100f2 k) k,trivial⟩)

noncomputable def q101V(k:Nat):Variant:=⟨[.val ty_14 false,.val ty_0 false,.val ty_0 false],[(ty_14,false)],fun x=>impl_part_Dyadic k x.1 x.2.1 x.2.2.1⟩
noncomputable def q101C(k:Nat):Cfg:=⟨Tryz.prog,tyOf tys,34,gOf [(269,[],q100V k)],false,[],[28]⟩
def q101i1:List PE := [e8,e39,⟨7,80,.eat ty_7,false⟩,⟨10,96,.val ty_14 false,false⟩,e41,e42]
def q101o1:List PE := [⟨7,48,.eat ty_7,false⟩]
noncomputable def q101f1(k:Nat)(n:Nat)(x2:PTe q101i1):=impl_part_Dyadic_L58 k n x2.1 x2.2.1 x2.2.2.1 x2.2.2.2.1 x2.2.2.2.2.1 x2.2.2.2.2.2.1
def q101p:List PE := [e74,e3,e5]
noncomputable def q101F(k:Nat):Fn (List (List (Int×Int))):=⟨q101C k,rr q101p [(ty_14,false)] Tryz.f176,fun p=>bif Nat.beq p 58 then some (.loop q101i1 q101o1 0 144 (q101f1 k k))else none,0,[]⟩
theorem q101K(k:Nat):Contract Tryz.prog 176 (q101V k):=ctr (q101C k) (rs := [(ty_14,false)]) (ps:=q101p) (q101F k) Tryz.f176 48 ⟨tyOf_ok tys_ok,gOf_ok ⟨q100K k,trivial⟩⟩ (annl [58] ⟨lok q101i1 q101o1 0 144 (q101f1 k) k,trivial⟩)

noncomputable def q102V(k:Nat):Variant:=⟨[.ptr .bool true,.val ty_14 false],[(ty_4,true)],fun x=>impl_reckoner_determinant k x.1 x.2.1⟩
noncomputable def q102W(rc:Bool→(List (List (Int×Int)))→Option ((Int×Int)×Bool)):Variant:=⟨[.ptr .bool true,.val ty_14 false],[(ty_4,true)],fun x=>rc x.1 x.2.1⟩
noncomputable def q102C(k:Nat)(rc:Bool→(List (List (Int×Int)))→Option ((Int×Int)×Bool)):Cfg:=⟨Tryz.prog,tyOf tys,47,gOf [(176,[],q101V k),(80,[],q102W rc),(175,[],q52V k),(85,[],q56V),(86,[],q87V k)],false,[],[]⟩
def q102i1:List PE := [e43,⟨1,32,.val ty_14 false,false⟩,e23,⟨5,64,.eat ty_4,false⟩,⟨19,80,.val ty_7 false,false⟩,e75,⟨21,112,.val ty_0 false,false⟩]
def q102o1:List PE := [e43,e63,⟨5,48,.eat ty_4,false⟩]
noncomputable def q102f1(k:Nat)(rc:Bool→(List (List (Int×Int)))→Option ((Int×Int)×Bool))(n:Nat)(x7:PTe q102i1):=impl_reckoner_determinant_L122 k rc n x7.1 x7.2.1 x7.2.2.1 x7.2.2.2.1 x7.2.2.2.2.1 x7.2.2.2.2.2.1 x7.2.2.2.2.2.2.1
def q102p:List PE := [e43,⟨1,16,.val ty_14 false,false⟩]
noncomputable def q102F(k:Nat)(rc:Bool→(List (List (Int×Int)))→Option ((Int×Int)×Bool)):F3:=⟨q102C k rc,rr q102p [(ty_4,true)] Tryz.f80,fun p=>bif Nat.beq p 31334 then some (.cut [e43,⟨1,32,.val ty_14 false,false⟩,e23,⟨5,64,.eat ty_4,false⟩,e59,⟨19,96,.val ty_7 false,false⟩,e76,⟨21,128,.val ty_0 false,false⟩] 144)else bif Nat.beq p 122 then some (.loop q102i1 q102o1 0 128 (q102f1 k rc k))else none,0,[0]⟩
theorem q102KB(k:Nat)(rc:Bool→(List (List (Int×Int)))→Option ((Int×Int)×Bool))(hrc:Contract Tryz.prog 80 (q102W rc)):Contract Tryz.prog 80 (q102W (impl_reckoner_determinant_B k rc)):=ctr (q102C k rc) (rs := [(ty_4,true)]) (ps:=q102p) (q102F k rc) Tryz.f80 32 ⟨tyOf_ok tys_ok,gOf_ok ⟨q101K k,hrc,q52K k,q56K,q87K k,trivial⟩⟩ (annl [122] ⟨lok q102i1 q102o1 0 128 (q102f1 k rc) k,trivial⟩)
theorem q102KR(k:Nat):∀n,Contract Tryz.prog 80 (q102W (impl_reckoner_determinant_R k n))
 | 0=>contract_none fun _=>rfl
 | n+1=>q102KB k _ (q102KR k n)
theorem q102K(k:Nat):Contract Tryz.prog 80 (q102V k):=q102KR k k

noncomputable def q103V(k:Nat):Variant:=⟨[.val ty_14 false],[(ty_4,true),(.bool,false)],fun x=>impl_DeterminantOf k x.1⟩
noncomputable def q103C(k:Nat):Cfg:=⟨Tryz.prog,tyOf tys,20,gOf [(79,[],q98V k),(80,[],q102V k)],false,[],[]⟩
def q103p:List PE := [e74]
noncomputable def q103F(k:Nat):F3:=⟨q103C k,rr q103p [(ty_4,true),(.bool,false)] Tryz.f14,fun p=>none,0,[]⟩
theorem q103K(k:Nat):Contract Tryz.prog 14 (q103V k):=ctr (q103C k) (rs := [(ty_4,true),(.bool,false)]) (ps:=q103p) (q103F k) Tryz.f14 16 ⟨tyOf_ok tys_ok,gOf_ok ⟨q98K k,q102K k,trivial⟩⟩ (annl [] trivial)

noncomputable def q104V(k:Nat):Variant:=⟨[.val ty_14 false],[(.bool,false)],fun x=>spec_mxGood k x.1⟩
noncomputable def q104C(k:Nat):Cfg:=⟨Tryz.prog,tyOf tys,34,gOf [(177,[],q7V),(163,[],q71V k)],false,[],[]⟩
def q104i1:List PE := [e73,e52,⟨5,48,.val ty_7 false,false⟩,⟨8,64,.val ty_14 false,false⟩,e53,e51,⟨14,112,.val ty_7 false,false⟩,⟨15,128,.val ty_0 false,false⟩,e54]
def q104o1:List PE := [e73,e52,⟨5,48,.val ty_7 false,false⟩,⟨8,64,.val ty_14 false,false⟩,e53,e51]
noncomputable def q104f1(k:Nat)(n:Nat)(x2:PTe q104i1):=spec_mxGood_L29898 k n x2.1 x2.2.1 x2.2.2.1 x2.2.2.2.1 x2.2.2.2.2.1 x2.2.2.2.2.2.1 x2.2.2.2.2.2.2.1 x2.2.2.2.2.2.2.2.1 x2.2.2.2.2.2.2.2.2.1
def q104i2:List PE := [e73,e52,⟨8,48,.val ty_14 false,false⟩,⟨9,64,.val ty_0 false,false⟩,e55]
def q104o2:List PE := [e73,e52]
noncomputable def q104f2(k:Nat)(n:Nat)(x5:PTe q104i2):=spec_mxGood_L58 k n x5.1 x5.2.1 x5.2.2.1 x5.2.2.2.1 x5.2.2.2.2.1
def q104p:List PE := [e74]
noncomputable def q104F(k:Nat):F1:=⟨q104C k,rr q104p [(.bool,false)] Tryz.f81,fun p=>bif Nat.beq p 29898 then some (.loop q104i1 q104o1 2 160 (q104f1 k k))else bif Nat.beq p 58 then some (.loop q104i2 q104o2 0 96 (q104f2 k k))else none,0,[]⟩
theorem q104K(k:Nat):Contract Tryz.prog 81 (q104V k):=ctr (q104C k) (rs := [(.bool,false)]) (ps:=q104p) (q104F k) Tryz.f81 16 ⟨tyOf_ok tys_ok,gOf_ok ⟨q7K,q71K k,trivial⟩⟩ (annl [58,29898] ⟨lok q104i2 q104o2 0 96 (q104f2 k) k,lok q104i1 q104o1 2 160 (q104f1 k) k,trivial⟩)

noncomputable def q105V(k:Nat):Variant:=⟨[.val ty_14 false,.val ty_0 false,.val ty_0 false],[(ty_14,false)],fun x=>spec_mxPart k x.1 x.2.1 x.2.2.1⟩
noncomputable def q105C(k:Nat):Cfg:=⟨Tryz.prog,tyOf tys,35,gOf [],false,[],[]⟩
def q105i1:List PE := [e8,e39,⟨7,80,.eat ty_7,false⟩,⟨10,96,.val ty_14 false,false⟩,e41,e42]
def q105o1:List PE := [⟨7,48,.eat ty_7,false⟩]
noncomputable def q105f1(k:Nat)(n:Nat)(x1:PTe q105i1):=spec_mxPart_L58 k n x1.1 x1.2.1 x1.2.2.1 x1.2.2.2.1 x1.2.2.2.2.1 x1.2.2.2.2.2.1
def q105p:List PE := [e74,e3,e5]
noncomputable def q105F(k:Nat):Fn (List (List (Int×Int))):=⟨q105C k,rr q105p [(ty_14,false)] Tryz.f178,fun p=>bif Nat.beq p 58 then some (.loop q105i1 q105o1 0 144 (q105f1 k k))else none,0,[]⟩
theorem q105K(k:Nat):Contract Tryz.prog 178 (q105V k):=ctr (q105C k) (rs := [(ty_14,false)]) (ps:=q105p) (q105F k) Tryz.f178 48 ⟨tyOf_ok tys_ok,gOf_ok trivial⟩ (annl [58] ⟨lok q105i1 q105o1 0 144 (q105f1 k) k,trivial⟩)

noncomputable def q106V(k:Nat):Variant:=⟨[.val ty_14 false],[(ty_4,true),(.bool,false)],fun x=>spec_mxDet k x.1⟩
noncomputable def q106W(rc:(List (List (Int×Int)))→Option ((Int×Int)×Bool)):Variant:=⟨[.val ty_14 false],[(ty_4,true),(.bool,false)],fun x=>rc x.1⟩
noncomputable def q106C(k:Nat)(rc:(List (List (Int×Int)))→Option ((Int×Int)×Bool)):Cfg:=⟨Tryz.prog,tyOf tys,68,gOf [(178,[],q105V k),(82,[],q106W rc),(179,[],q75V k),(180,[],q77V),(87,[],q16V k)],false,[],[]⟩
def q106i1:List PE := [e73,e13,e23,⟨24,64,.val ty_7 false,false⟩,⟨25,80,.val ty_0 false,false⟩,⟨26,96,.val ty_0 false,false⟩]
def q106o1:List PE := [⟨2,16,.box ty_4 false,false⟩,e63]
noncomputable def q106f1(k:Nat)(rc:(List (List (Int×Int)))→Option ((Int×Int)×Bool))(n:Nat)(x8:PTe q106i1):=spec_mxDet_L122 k rc n x8.1 x8.2.1 x8.2.2.1 x8.2.2.2.1 x8.2.2.2.2.1 x8.2.2.2.2.2.1
def q106p:List PE := [e74]
noncomputable def q106F(k:Nat)(rc:(List (List (Int×Int)))→Option ((Int×Int)×Bool)):F3:=⟨q106C k rc,rr q106p [(ty_4,true),(.bool,false)] Tryz.f82,fun p=>bif Nat.beq p 125342 then some (.cut [e73,e13,e23,⟨9,64,.box ty_4 false,false⟩,⟨10,80,.val .bool false,false⟩,⟨24,96,.val ty_7 false,false⟩,⟨25,112,.val ty_0 false,false⟩,⟨26,128,.val ty_0 false,false⟩] 144)else bif Nat.beq p 122 then some (.loop q106i1 q106o1 0 112 (q106f1 k rc k))else none,0,[]⟩
theorem q106KB(k:Nat)(rc:(List (List (Int×Int)))→Option ((Int×Int)×Bool))(hrc:Contract Tryz.prog 82 (q106W rc)):Contract Tryz.prog 82 (q106W (spec_mxDet_B k rc)):=ctr (q106C k rc) (rs := [(ty_4,true),(.bool,false)]) (ps:=q106p) (q106F k rc) Tryz.f82 16 ⟨tyOf_ok tys_ok,gOf_ok ⟨q105K k,hrc,q75K k,q77K,q16K k,trivial⟩⟩ (annl [122] ⟨lok q106i1 q106o1 0 112 (q106f1 k rc) k,trivial⟩)
theorem q106KR(k:Nat):∀n,Contract Tryz.prog 82 (q106W (spec_mxDet_R k n))
 | 0=>contract_none fun _=>rfl
 | n+1=>q106KB k _ (q106KR k n)
theorem q106K(k:Nat):Contract Tryz.prog 82 (q106V k):=q106KR k k

noncomputable def q107V(k:Nat):Variant:=⟨[.val ty_14 false],[(ty_4,true),(.bool,false)],fun x=>spec_DeterminantOf k x.1⟩
noncomputable def q107C(k:Nat):Cfg:=⟨Tryz.prog,tyOf tys,12,gOf [(81,[],q104V k),(82,[],q106V k)],false,[],[]⟩
def q107p:List PE := [e74]
noncomputable def q107F(k:Nat):F3:=⟨q107C k,rr q107p [(ty_4,true),(.bool,false)] Tryz.f15,fun p=>none,0,[]⟩
theorem q107K(k:Nat):Contract Tryz.prog 15 (q107V k):=ctr (q107C k) (rs := [(ty_4,true),(.bool,false)]) (ps:=q107p) (q107F k) Tryz.f15 16 ⟨tyOf_ok tys_ok,gOf_ok ⟨q104K k,q106K k,trivial⟩⟩ (annl [] trivial)

noncomputable def q108V:Variant:=⟨[.val ty_4 true,.val ty_4 true],[(.bool,false)],fun x=>spec_dyTwo x.1 x.2.1⟩
noncomputable def q108C:Cfg:=⟨Tryz.prog,tyOf tys,11,gOf [(177,[],q7V)],false,[],[]⟩
def q108p:List PE := [e6,e14]
noncomputable def q108F:F1:=⟨q108C,rr q108p [(.bool,false)] Tryz.f181,fun p=>none,0,[]⟩
theorem q108K:Contract Tryz.prog 181 (q108V):=ctr q108C (rs := [(.bool,false)]) (ps:=q108p) q108F Tryz.f181 32 ⟨tyOf_ok tys_ok,gOf_ok ⟨q7K,trivial⟩⟩ (annl [] trivial)

noncomputable def q109V(k:Nat):Variant:=⟨[.val ty_4 true,.val ty_4 true],[(ty_0,false),(.bool,false)],fun x=>spec_CompareDyadic k x.1 x.2.1⟩
noncomputable def q109C(k:Nat):Cfg:=⟨Tryz.prog,tyOf tys,13,gOf [(181,[],q108V),(170,[],q20V k)],false,[],[]⟩
def q109p:List PE := [e6,e14]
noncomputable def q109F(k:Nat):Fn (Int×Bool):=⟨q109C k,rr q109p [(ty_0,false),(.bool,false)] Tryz.f83,fun p=>none,0,[]⟩
theorem q109K(k:Nat):Contract Tryz.prog 83 (q109V k):=ctr (q109C k) (rs := [(ty_0,false),(.bool,false)]) (ps:=q109p) (q109F k) Tryz.f83 32 ⟨tyOf_ok tys_ok,gOf_ok ⟨q108K,q20K k,trivial⟩⟩ (annl [] trivial)

noncomputable def q110V(k:Nat):Variant:=⟨[.val ty_4 true,.val ty_4 true],[(ty_0,false)],fun x=>laws_pOrder k x.1 x.2.1⟩
noncomputable def q110C(k:Nat):Cfg:=⟨Tryz.prog,tyOf tys,14,gOf [(83,[],q109V k)],false,[],[]⟩
def q110p:List PE := [e6,e14]
noncomputable def q110F(k:Nat):F6:=⟨q110C k,rr q110p [(ty_0,false)] Tryz.f16,fun p=>none,0,[]⟩
theorem q110K(k:Nat):Contract Tryz.prog 16 (q110V k):=ctr (q110C k) (rs := [(ty_0,false)]) (ps:=q110p) (q110F k) Tryz.f16 32 ⟨tyOf_ok tys_ok,gOf_ok ⟨q109K k,trivial⟩⟩ (annl [] trivial)

noncomputable def q111V(k:Nat):Variant:=⟨[.val ty_14 false],[(ty_7,false),(.bool,false)],fun x=>impl_RowSums k x.1⟩
noncomputable def q111C(k:Nat):Cfg:=⟨Tryz.prog,tyOf tys,49,gOf [(79,[],q98V k),(85,[],q56V),(84,[],q54V k),(86,[],q87V k)],false,[],[]⟩
def q111i1:List PE := [e65,e77,e67,⟨16,64,.val ty_14 false,false⟩,e78,e60,⟨22,112,.val ty_7 false,false⟩,⟨23,128,.val ty_0 false,false⟩,⟨24,144,.val ty_0 false,false⟩]
def q111o1:List PE := [e65,e77,e67,⟨16,64,.val ty_14 false,false⟩,e78,e60]
noncomputable def q111f1(k:Nat)(n:Nat)(x4:PTe q111i1):=impl_RowSums_L256410 k n x4.1 x4.2.1 x4.2.2.1 x4.2.2.2.1 x4.2.2.2.2.1 x4.2.2.2.2.2.1 x4.2.2.2.2.2.2.1 x4.2.2.2.2.2.2.2.1 x4.2.2.2.2.2.2.2.2.1
def q111i2:List PE := [e65,e77,⟨16,48,.val ty_14 false,false⟩,e79,⟨18,80,.val ty_0 false,false⟩]
def q111o2:List PE := [e65,e77]
noncomputable def q111f2(k:Nat)(n:Nat)(x8:PTe q111i2):=impl_RowSums_L250 k n x8.1 x8.2.1 x8.2.2.1 x8.2.2.2.1 x8.2.2.2.2.1
def q111p:List PE := [e74]
noncomputable def q111F(k:Nat):Fn ((List (Int×Int))×Bool):=⟨q111C k,rr q111p [(ty_7,false),(.bool,false)] Tryz.f17,fun p=>bif Nat.beq p 256410 then some (.loop q111i1 q111o1 2 160 (q111f1 k k))else bif Nat.beq p 250 then some (.loop q111i2 q111o2 0 96 (q111f2 k k))else none,0,[]⟩
theorem q111K(k:Nat):Contract Tryz.prog 17 (q111V k):=ctr (q111C k) (rs := [(ty_7,false),(.bool,false)]) (ps:=q111p) (q111F k) Tryz.f17 16 ⟨tyOf_ok tys_ok,gOf_ok ⟨q98K k,q56K,q54K k,q87K k,trivial⟩⟩ (annl [250,256410] ⟨lok q111i2 q111o2 0 96 (q111f2 k) k,lok q111i1 q111o1 2 160 (q111f1 k) k,trivial⟩)

noncomputable def q112V(k:Nat):Variant:=⟨[.val ty_14 false],[(ty_7,false),(.bool,false)],fun x=>spec_RowSums k x.1⟩
noncomputable def q112C(k:Nat):Cfg:=⟨Tryz.prog,tyOf tys,45,gOf [(81,[],q104V k),(88,[],q91V),(87,[],q16V k)],false,[],[]⟩
def q112i1:List PE := [e80,e72,⟨15,48,.val ty_14 false,false⟩,⟨16,64,.val ty_0 false,false⟩,e78,⟨22,96,.val ty_7 false,false⟩,⟨23,112,.val ty_0 false,false⟩,⟨24,128,.val ty_0 false,false⟩]
def q112o1:List PE := [e80,e72,⟨15,48,.val ty_14 false,false⟩,⟨16,64,.val ty_0 false,false⟩,e78]
noncomputable def q112f1(k:Nat)(n:Nat)(x4:PTe q112i1):=spec_RowSums_L125338 k n x4.1 x4.2.1 x4.2.2.1 x4.2.2.2.1 x4.2.2.2.2.1 x4.2.2.2.2.2.1 x4.2.2.2.2.2.2.1 x4.2.2.2.2.2.2.2.1
def q112i2:List PE := [e80,⟨15,32,.val ty_14 false,false⟩,⟨16,48,.val ty_0 false,false⟩,e79]
def q112o2:List PE := [e80]
noncomputable def q112f2(k:Nat)(n:Nat)(x7:PTe q112i2):=spec_RowSums_L122 k n x7.1 x7.2.1 x7.2.2.1 x7.2.2.2.1
def q112p:List PE := [e74]
noncomputable def q112F(k:Nat):Fn ((List (Int×Int))×Bool):=⟨q112C k,rr q112p [(ty_7,false),(.bool,false)] Tryz.f18,fun p=>bif Nat.beq p 125338 then some (.loop q112i1 q112o1 2 144 (q112f1 k k))else bif Nat.beq p 122 then some (.loop q112i2 q112o2 0 80 (q112f2 k k))else none,0,[]⟩
theorem q112K(k:Nat):Contract Tryz.prog 18 (q112V k):=ctr (q112C k) (rs := [(ty_7,false),(.bool,false)]) (ps:=q112p) (q112F k) Tryz.f18 16 ⟨tyOf_ok tys_ok,gOf_ok ⟨q104K k,q91K,q16K k,trivial⟩⟩ (annl [122,125338] ⟨lok q112i2 q112o2 0 80 (q112f2 k) k,lok q112i1 q112o1 2 144 (q112f1 k) k,trivial⟩)

noncomputable def q113V(k:Nat):Variant:=⟨[.val ty_7 false,.val ty_7 false],[(.bool,false)],fun x=>laws_pSamePoint k x.1 x.2.1⟩
noncomputable def q113C(k:Nat):Cfg:=⟨Tryz.prog,tyOf tys,26,gOf [],false,[],[]⟩
def q113i1:List PE := [⟨0,32,.val ty_7 false,false⟩,⟨1,48,.val ty_7 false,false⟩,e81,e64]
def q113o1:List PE := []
noncomputable def q113f1(k:Nat)(n:Nat)(x1:PTe q113i1):=laws_pSamePoint_L58 k n x1.1 x1.2.1 x1.2.2.1 x1.2.2.2.1
def q113p:List PE := [e19,⟨1,16,.val ty_7 false,false⟩]
noncomputable def q113F(k:Nat):F1:=⟨q113C k,rr q113p [(.bool,false)] Tryz.f19,fun p=>bif Nat.beq p 58 then some (.loop q113i1 q113o1 0 96 (q113f1 k k))else none,0,[]⟩
theorem q113K(k:Nat):Contract Tryz.prog 19 (q113V k):=ctr (q113C k) (rs := [(.bool,false)]) (ps:=q113p) (q113F k) Tryz.f19 32 ⟨tyOf_ok tys_ok,gOf_ok trivial⟩ (annl [58] ⟨lok q113i1 q113o1 0 96 (q113f1 k) k,trivial⟩)

noncomputable def q114V:Variant:=⟨[.ptr ty_3 true],[(ty_0,false)],fun x=>spec_l1Cur_sides KSl.xs x.1⟩
noncomputable def q114C:Cfg:=⟨Tryz.prog,tyOf tys,6,gOf [(70,[],q4V)],false,[],[]⟩
def q114p:List PE := [e1]
noncomputable def q114F:F2:=⟨q114C,rr q114p [(ty_0,false)] Tryz.f89,fun p=>none,0,[0]⟩
theorem q114K:Contract Tryz.prog 89 (q114V):=ctr q114C (rs := [(ty_0,false)]) (ps:=q114p) q114F Tryz.f89 16 ⟨tyOf_ok tys_ok,gOf_ok ⟨q4K,trivial⟩⟩ (annl [] trivial)

noncomputable def q115V(k:Nat):Variant:=⟨[.ptr ty_3 true,.val ty_0 false],[(ty_14,false)],fun x=>spec_l1Cur_table k KSl.xs x.1 x.2.1⟩
noncomputable def q115C(k:Nat):Cfg:=⟨Tryz.prog,tyOf tys,48,gOf [(153,[],q12V k),(129,[],q3V)],false,[5,28,29,38,42],[32]⟩
def q115i1:List PE := [e1,e11,e82,e58]
def q115o1:List PE := [e1,e11,e82,e58]
noncomputable def q115f1(k:Nat)(n:Nat)(x2:PTe q115i1):=spec_l1Cur_table_L1812 k KSl.xs n x2.1 x2.2.1 x2.2.2.1 x2.2.2.2.1
def q115i2:List PE := [e1,e11,e82]
def q115o2:List PE := [e1,e11,e82]
noncomputable def q115f2(k:Nat)(n:Nat)(x5:PTe q115i2):=spec_l1Cur_table_L28 k KSl.xs n x5.1 x5.2.1 x5.2.2.1
def q115p:List PE := [e1,e3]
noncomputable def q115F(k:Nat):Fn ((List (List (Int×Int)))×Unit×Int×Int):=⟨q115C k,rr q115p [(ty_14,false)] Tryz.f90,fun p=>bif Nat.beq p 1812 then some (.loop q115i1 q115o1 2 80 (q115f1 k k))else bif Nat.beq p 28 then some (.loop q115i2 q115o2 0 64 (q115f2 k k))else none,0,[0]⟩
theorem q115K(k:Nat):Contract Tryz.prog 90 (q115V k):=ctr (q115C k) (rs := [(ty_14,false)]) (ps:=q115p) (q115F k) Tryz.f90 32 ⟨tyOf_ok tys_ok,gOf_ok ⟨q12K k,q3K,trivial⟩⟩ (annl [28,1812] ⟨lok q115i2 q115o2 0 64 (q115f2 k) k,lok q115i1 q115o1 2 80 (q115f1 k) k,trivial⟩)

noncomputable def q116V(k:Nat):Variant:=⟨[.val (.sl (.int .u8)) false],[(ty_14,false),(ty_11,false)],fun x=>spec_DrawTimesIntervals k x.1⟩
noncomputable def spec_DrawTimesIntervals_V0(k:Nat):Variant:=⟨[.val .ks false],[(ty_14,false),(ty_11,false)],fun _=>spec_DrawTimesIntervals k KSl.xs⟩
noncomputable def q116C(k:Nat):Cfg:=⟨Tryz.prog,tyOf tys,23,gOf [(89,[],q114V),(90,[],q115V k),(91,[],q5V),(69,[],q24V k)],false,[],[]⟩
def q116p:List PE := [e28]
noncomputable def q116F(k:Nat):Fn ((List (List (Int×Int)))×List (List ((Int×Int)×Int×Int))):=⟨q116C k,rr q116p [(ty_14,false),(ty_11,false)] Tryz.f20,fun p=>bif Nat.beq p 62 then some (.cut [⟨4,16,.box ty_3 false,false⟩,⟨5,32,.val ty_0 false,false⟩,⟨6,48,.eat ty_7,false⟩] 64)else none,0,[]⟩
theorem spec_DrawTimesIntervals_K0(k:Nat):Contract Tryz.prog 20 (spec_DrawTimesIntervals_V0 k):=ctr (q116C k) (rs := [(ty_14,false),(ty_11,false)]) (ps:=q116p) (q116F k) Tryz.f20 16 ⟨tyOf_ok tys_ok,gOf_ok ⟨q114K,q115K k,q5K,q24K k,trivial⟩⟩ (annl [] trivial)
theorem q116K(k:Nat):Contract Tryz.prog 20 (q116V k):=contractDraw (by kernel_rfl) (fun kk => @spec_DrawTimesIntervals_K0 kk k)

noncomputable def q117V:Variant:=⟨[.val ty_4 true],[(ty_5,true)],fun x=>impl_single x.1⟩
noncomputable def q117C:Cfg:=⟨Tryz.prog,tyOf tys,6,gOf [],false,[],[]⟩
def q117p:List PE := [e6]
noncomputable def q117F:F7:=⟨q117C,rr q117p [(ty_5,true)] Tryz.f186,fun p=>none,0,[]⟩
theorem q117K:Contract Tryz.prog 186 (q117V):=ctr q117C (rs := [(ty_5,true)]) (ps:=q117p) q117F Tryz.f186 16 ⟨tyOf_ok tys_ok,gOf_ok trivial⟩ (annl [] trivial)

noncomputable def q118V(k:Nat):Variant:=⟨[.val ty_14 false,.val ty_11 false],[(ty_11,false),(.bool,false)],fun x=>impl_timesIntervals k x.1 x.2.1⟩
noncomputable def q118C(k:Nat):Cfg:=⟨Tryz.prog,tyOf tys,82,gOf [(186,[],q117V),(158,[],q58V k),(161,[],q65V k)],false,[],[]⟩
def q118i1:List PE := [e83,e84,e85,e40,e86,e87,⟨10,128,.val ty_0 false,false⟩,⟨11,144,.box ty_5 false,false⟩,⟨12,160,.val ty_0 false,false⟩,⟨16,176,.val ty_0 false,false⟩,⟨17,192,.val ty_0 false,false⟩,⟨21,208,.val ty_0 false,false⟩,⟨22,224,.val ty_0 false,false⟩]
def q118o1:List PE := [e83,e84,e85,e40,e86,e87,⟨11,128,.box ty_5 false,false⟩,e54,⟨17,160,.val ty_0 false,false⟩,⟨21,176,.val ty_0 false,false⟩,⟨22,192,.val ty_0 false,false⟩]
noncomputable def q118f1(k:Nat)(n:Nat)(x6:PTe q118i1):=impl_timesIntervals_L128346522 k n x6.1 x6.2.1 x6.2.2.1 x6.2.2.2.1 x6.2.2.2.2.1 x6.2.2.2.2.2.1 x6.2.2.2.2.2.2.1 x6.2.2.2.2.2.2.2.1 x6.2.2.2.2.2.2.2.2.1 x6.2.2.2.2.2.2.2.2.2.1 x6.2.2.2.2.2.2.2.2.2.2.1 x6.2.2.2.2.2.2.2.2.2.2.2.1 x6.2.2.2.2.2.2.2.2.2.2.2.2.1
def q118i2:List PE := [e83,e84,e85,e40,e86,e87,⟨16,128,.val ty_0 false,false⟩,⟨17,144,.val ty_0 false,false⟩,⟨21,160,.val ty_0 false,false⟩,⟨22,176,.val ty_0 false,false⟩]
def q118o2:List PE := [e83,e84,e85,e40,⟨9,96,.eat ty_5,false⟩,⟨16,112,.val ty_0 false,false⟩,⟨17,128,.val ty_0 false,false⟩]
noncomputable def q118f2(k:Nat)(n:Nat)(x9:PTe q118i2):=impl_timesIntervals_L125338 k n x9.1 x9.2.1 x9.2.2.1 x9.2.2.2.1 x9.2.2.2.2.1 x9.2.2.2.2.2.1 x9.2.2.2.2.2.2.1 x9.2.2.2.2.2.2.2.1 x9.2.2.2.2.2.2.2.2.1 x9.2.2.2.2.2.2.2.2.2.1
def q118i3:List PE := [e83,e84,e85,e40,⟨16,96,.val ty_0 false,false⟩,⟨17,112,.val ty_0 false,false⟩]
def q118o3:List PE := [⟨6,32,.box .bool false,false⟩,⟨7,48,.eat ty_6,false⟩]
noncomputable def q118f3(k:Nat)(n:Nat)(x12:PTe q118i3):=impl_timesIntervals_L122 k n x12.1 x12.2.1 x12.2.2.1 x12.2.2.2.1 x12.2.2.2.2.1 x12.2.2.2.2.2.1
def q118p:List PE := [e74,e50]
noncomputable def q118F(k:Nat):F13:=⟨q118C k,rr q118p [(ty_11,false),(.bool,false)] Tryz.f92,fun p=>bif Nat.beq p 128346522 then some (.loop q118i1 q118o1 4 240 (q118f1 k k))else bif Nat.beq p 125338 then some (.loop q118i2 q118o2 2 192 (q118f2 k k))else bif Nat.beq p 122 then some (.loop q118i3 q118o3 0 128 (q118f3 k k))else none,0,[]⟩
theorem q118K(k:Nat):Contract Tryz.prog 92 (q118V k):=ctr (q118C k) (rs := [(ty_11,false),(.bool,false)]) (ps:=q118p) (q118F k) Tryz.f92 32 ⟨tyOf_ok tys_ok,gOf_ok ⟨q117K,q58K k,q65K k,trivial⟩⟩ (annl [122,125338,128346522] ⟨lok q118i3 q118o3 0 128 (q118f3 k) k,lok q118i2 q118o2 2 192 (q118f2 k) k,lok q118i1 q118o1 4 240 (q118f1 k) k,trivial⟩)

noncomputable def q119V(k:Nat):Variant:=⟨[.val ty_14 false,.val ty_11 false],[(ty_11,false),(.bool,false)],fun x=>impl_TimesIntervals k x.1 x.2.1⟩
noncomputable def q119C(k:Nat):Cfg:=⟨Tryz.prog,tyOf tys,26,gOf [(79,[],q98V k),(71,[],q43V k),(92,[],q118V k)],false,[],[]⟩
def q119p:List PE := [e74,e50]
noncomputable def q119F(k:Nat):F13:=⟨q119C k,rr q119p [(ty_11,false),(.bool,false)] Tryz.f21,fun p=>none,0,[]⟩
theorem q119K(k:Nat):Contract Tryz.prog 21 (q119V k):=ctr (q119C k) (rs := [(ty_11,false),(.bool,false)]) (ps:=q119p) (q119F k) Tryz.f21 32 ⟨tyOf_ok tys_ok,gOf_ok ⟨q98K k,q43K k,q118K k,trivial⟩⟩ (annl [] trivial)

noncomputable def q120V(k:Nat):Variant:=⟨[.val ty_14 false,.val ty_11 false],[(ty_11,false),(.bool,false)],fun x=>spec_mxTimesIn k x.1 x.2.1⟩
noncomputable def q120C(k:Nat):Cfg:=⟨Tryz.prog,tyOf tys,74,gOf [(165,[],q80V k),(166,[],q82V k)],false,[],[]⟩
def q120i1:List PE := [e47,e88,e89,e90,e51,⟨11,112,.box ty_5 false,false⟩,⟨18,128,.val ty_14 false,false⟩,⟨19,144,.val ty_0 false,false⟩,⟨20,160,.val ty_0 false,false⟩,⟨25,176,.val ty_0 false,false⟩,⟨26,192,.val ty_0 false,false⟩,⟨30,208,.val ty_7 false,false⟩,⟨31,224,.val ty_0 false,false⟩,⟨32,240,.val ty_0 false,false⟩]
def q120o1:List PE := [e47,e88,e89,e90,⟨11,96,.box ty_5 false,false⟩,⟨18,112,.val ty_14 false,false⟩,⟨19,128,.val ty_0 false,false⟩,⟨20,144,.val ty_0 false,false⟩,⟨25,160,.val ty_0 false,false⟩,⟨26,176,.val ty_0 false,false⟩]
noncomputable def q120f1(k:Nat)(n:Nat)(x3:PTe q120i1):=spec_mxTimesIn_L61237658 k n x3.1 x3.2.1 x3.2.2.1 x3.2.2.2.1 x3.2.2.2.2.1 x3.2.2.2.2.2.1 x3.2.2.2.2.2.2.1 x3.2.2.2.2.2.2.2.1 x3.2.2.2.2.2.2.2.2.1 x3.2.2.2.2.2.2.2.2.2.1 x3.2.2.2.2.2.2.2.2.2.2.1 x3.2.2.2.2.2.2.2.2.2.2.2.1 x3.2.2.2.2.2.2.2.2.2.2.2.2.1 x3.2.2.2.2.2.2.2.2.2.2.2.2.2.1
def q120i2:List PE := [e47,e88,e89,e90,⟨18,96,.val ty_14 false,false⟩,e61,e69,⟨25,144,.val ty_0 false,false⟩,⟨26,160,.val ty_0 false,false⟩]
def q120o2:List PE := [e47,e88,⟨9,64,.eat ty_5,false⟩,⟨18,80,.val ty_14 false,false⟩,⟨19,96,.val ty_0 false,false⟩,e76]
noncomputable def q120f2(k:Nat)(n:Nat)(x6:PTe q120i2):=spec_mxTimesIn_L59802 k n x6.1 x6.2.1 x6.2.2.1 x6.2.2.2.1 x6.2.2.2.2.1 x6.2.2.2.2.2.1 x6.2.2.2.2.2.2.1 x6.2.2.2.2.2.2.2.1 x6.2.2.2.2.2.2.2.2.1
def q120i3:List PE := [e47,e88,⟨18,64,.val ty_14 false,false⟩,⟨19,80,.val ty_0 false,false⟩,e75]
def q120o3:List PE := [⟨6,32,.eat ty_6,false⟩]
noncomputable def q120f3(k:Nat)(n:Nat)(x9:PTe q120i3):=spec_mxTimesIn_L58 k n x9.1 x9.2.1 x9.2.2.1 x9.2.2.2.1 x9.2.2.2.2.1
def q120p:List PE := [e74,e50]
noncomputable def q120F(k:Nat):F13:=⟨q120C k,rr q120p [(ty_11,false),(.bool,false)] Tryz.f93,fun p=>bif Nat.beq p 61237658 then some (.loop q120i1 q120o1 4 256 (q120f1 k k))else bif Nat.beq p 59802 then some (.loop q120i2 q120o2 2 176 (q120f2 k k))else bif Nat.beq p 58 then some (.loop q120i3 q120o3 0 112 (q120f3 k k))else none,0,[]⟩
theorem q120K(k:Nat):Contract Tryz.prog 93 (q120V k):=ctr (q120C k) (rs := [(ty_11,false),(.bool,false)]) (ps:=q120p) (q120F k) Tryz.f93 32 ⟨tyOf_ok tys_ok,gOf_ok ⟨q80K k,q82K k,trivial⟩⟩ (annl [58,59802,61237658] ⟨lok q120i3 q120o3 0 112 (q120f3 k) k,lok q120i2 q120o2 2 176 (q120f2 k) k,lok q120i1 q120o1 4 256 (q120f1 k) k,trivial⟩)

noncomputable def q121V(k:Nat):Variant:=⟨[.val ty_14 false,.val ty_11 false],[(ty_11,false),(.bool,false)],fun x=>spec_TimesIntervals k x.1 x.2.1⟩
noncomputable def q121C(k:Nat):Cfg:=⟨Tryz.prog,tyOf tys,26,gOf [(81,[],q104V k),(74,[],q72V k),(93,[],q120V k)],false,[],[]⟩
def q121p:List PE := [e74,e50]
noncomputable def q121F(k:Nat):F13:=⟨q121C k,rr q121p [(ty_11,false),(.bool,false)] Tryz.f22,fun p=>none,0,[]⟩
theorem q121K(k:Nat):Contract Tryz.prog 22 (q121V k):=ctr (q121C k) (rs := [(ty_11,false),(.bool,false)]) (ps:=q121p) (q121F k) Tryz.f22 32 ⟨tyOf_ok tys_ok,gOf_ok ⟨q104K k,q72K k,q120K k,trivial⟩⟩ (annl [] trivial)

noncomputable def q122V(k:Nat):Variant:=⟨[.val ty_6 false,.val ty_6 false],[(.bool,false)],fun x=>laws_pSameSides k x.1 x.2.1⟩
noncomputable def q122C(k:Nat):Cfg:=⟨Tryz.prog,tyOf tys,26,gOf [],false,[],[]⟩
def q122i1:List PE := [⟨0,32,.val ty_6 false,false⟩,⟨1,48,.val ty_6 false,false⟩,e81,e64]
def q122o1:List PE := []
noncomputable def q122f1(k:Nat)(n:Nat)(x1:PTe q122i1):=laws_pSameSides_L58 k n x1.1 x1.2.1 x1.2.2.1 x1.2.2.2.1
def q122p:List PE := [e35,⟨1,16,.val ty_6 false,false⟩]
noncomputable def q122F(k:Nat):F1:=⟨q122C k,rr q122p [(.bool,false)] Tryz.f94,fun p=>bif Nat.beq p 58 then some (.loop q122i1 q122o1 0 96 (q122f1 k k))else none,0,[]⟩
theorem q122K(k:Nat):Contract Tryz.prog 94 (q122V k):=ctr (q122C k) (rs := [(.bool,false)]) (ps:=q122p) (q122F k) Tryz.f94 32 ⟨tyOf_ok tys_ok,gOf_ok trivial⟩ (annl [58] ⟨lok q122i1 q122o1 0 96 (q122f1 k) k,trivial⟩)

noncomputable def q123V(k:Nat):Variant:=⟨[.val ty_11 false,.val ty_11 false],[(.bool,false)],fun x=>laws_pSameGrid k x.1 x.2.1⟩
noncomputable def q123C(k:Nat):Cfg:=⟨Tryz.prog,tyOf tys,27,gOf [(94,[],q122V k)],false,[],[]⟩
def q123i1:List PE := [⟨0,32,.val ty_11 false,false⟩,e84,e81,e64]
def q123o1:List PE := []
noncomputable def q123f1(k:Nat)(n:Nat)(x2:PTe q123i1):=laws_pSameGrid_L58 k n x2.1 x2.2.1 x2.2.2.1 x2.2.2.2.1
def q123p:List PE := [e37,e50]
noncomputable def q123F(k:Nat):F1:=⟨q123C k,rr q123p [(.bool,false)] Tryz.f23,fun p=>bif Nat.beq p 58 then some (.loop q123i1 q123o1 0 96 (q123f1 k k))else none,0,[]⟩
theorem q123K(k:Nat):Contract Tryz.prog 23 (q123V k):=ctr (q123C k) (rs := [(.bool,false)]) (ps:=q123p) (q123F k) Tryz.f23 32 ⟨tyOf_ok tys_ok,gOf_ok ⟨q122K k,trivial⟩⟩ (annl [58] ⟨lok q123i1 q123o1 0 96 (q123f1 k) k,trivial⟩)

noncomputable def q124V:Variant:=⟨[.ptr ty_3 true],[(ty_0,false)],fun x=>spec_l1Cur_placesOf KSl.xs x.1⟩
noncomputable def q124C:Cfg:=⟨Tryz.prog,tyOf tys,9,gOf [(70,[],q4V)],false,[],[]⟩
def q124p:List PE := [e1]
noncomputable def q124F:F2:=⟨q124C,rr q124p [(ty_0,false)] Tryz.f95,fun p=>none,0,[0]⟩
theorem q124K:Contract Tryz.prog 95 (q124V):=ctr q124C (rs := [(ty_0,false)]) (ps:=q124p) q124F Tryz.f95 16 ⟨tyOf_ok tys_ok,gOf_ok ⟨q4K,trivial⟩⟩ (annl [] trivial)

noncomputable def q125V(k:Nat):Variant:=⟨[.val (.sl (.int .u8)) false],[(ty_14,false),(ty_0,false)],fun x=>spec_DrawRoundedInverse k x.1⟩
noncomputable def spec_DrawRoundedInverse_V0(k:Nat):Variant:=⟨[.val .ks false],[(ty_14,false),(ty_0,false)],fun _=>spec_DrawRoundedInverse k KSl.xs⟩
noncomputable def q125C(k:Nat):Cfg:=⟨Tryz.prog,tyOf tys,14,gOf [(89,[],q114V),(90,[],q115V k),(95,[],q124V)],false,[],[]⟩
def q125p:List PE := [e28]
noncomputable def q125F(k:Nat):Fn ((List (List (Int×Int)))×Int):=⟨q125C k,rr q125p [(ty_14,false),(ty_0,false)] Tryz.f24,fun p=>none,0,[]⟩
theorem spec_DrawRoundedInverse_K0(k:Nat):Contract Tryz.prog 24 (spec_DrawRoundedInverse_V0 k):=ctr (q125C k) (rs := [(ty_14,false),(ty_0,false)]) (ps:=q125p) (q125F k) Tryz.f24 16 ⟨tyOf_ok tys_ok,gOf_ok ⟨q114K,q115K k,q124K,trivial⟩⟩ (annl [] trivial)
theorem q125K(k:Nat):Contract Tryz.prog 24 (q125V k):=contractDraw (by kernel_rfl) (fun kk => @spec_DrawRoundedInverse_K0 kk k)

noncomputable def q126V(k:Nat):Variant:=⟨[.val ty_14 false],[(ty_14,false),(.bool,false)],fun x=>impl_adjoint k x.1⟩
noncomputable def q126C(k:Nat):Cfg:=⟨Tryz.prog,tyOf tys,57,gOf [(169,[],q88V),(176,[],q101V k),(80,[],q102V k),(85,[],q56V)],false,[],[]⟩
def q126i1:List PE := [e73,e91,e82,e12,⟨7,80,.eat ty_4,false⟩,⟨19,96,.val ty_0 false,false⟩,e76,⟨24,128,.val ty_0 false,false⟩,⟨25,144,.val ty_0 false,false⟩]
def q126o1:List PE := [e73,e91,e82,⟨7,64,.eat ty_4,false⟩,⟨19,80,.val ty_0 false,false⟩,e75]
noncomputable def q126f1(k:Nat)(n:Nat)(x7:PTe q126i1):=impl_adjoint_L256410 k n x7.1 x7.2.1 x7.2.2.1 x7.2.2.2.1 x7.2.2.2.2.1 x7.2.2.2.2.2.1 x7.2.2.2.2.2.2.1 x7.2.2.2.2.2.2.2.1 x7.2.2.2.2.2.2.2.2.1
def q126i2:List PE := [e73,e91,e82,⟨19,64,.val ty_0 false,false⟩,⟨20,80,.val ty_0 false,false⟩]
def q126o2:List PE := [e65,⟨5,32,.eat ty_7,false⟩]
noncomputable def q126f2(k:Nat)(n:Nat)(x10:PTe q126i2):=impl_adjoint_L250 k n x10.1 x10.2.1 x10.2.2.1 x10.2.2.2.1 x10.2.2.2.2.1
def q126p:List PE := [e74]
noncomputable def q126F(k:Nat):F14:=⟨q126C k,rr q126p [(ty_14,false),(.bool,false)] Tryz.f187,fun p=>bif Nat.beq p 65641062 then some (.cut [e73,e91,e82,e12,⟨7,80,.eat ty_4,false⟩,⟨9,96,.box ty_4 false,false⟩,e61,e69,⟨24,144,.val ty_0 false,false⟩,⟨25,160,.val ty_0 false,false⟩] 176)else bif Nat.beq p 256410 then some (.loop q126i1 q126o1 2 160 (q126f1 k k))else bif Nat.beq p 250 then some (.loop q126i2 q126o2 0 96 (q126f2 k k))else none,0,[]⟩
theorem q126K(k:Nat):Contract Tryz.prog 187 (q126V k):=ctr (q126C k) (rs := [(ty_14,false),(.bool,false)]) (ps:=q126p) (q126F k) Tryz.f187 16 ⟨tyOf_ok tys_ok,gOf_ok ⟨q88K,q101K k,q102K k,q56K,trivial⟩⟩ (annl [250,256410] ⟨lok q126i2 q126o2 0 96 (q126f2 k) k,lok q126i1 q126o1 2 160 (q126f1 k) k,trivial⟩)

noncomputable def q127V:Variant:=⟨[.val ty_1 false],[(ty_0,false)],fun x=>math_bits_Len64 x.1⟩
noncomputable def q127C:Cfg:=⟨Tryz.prog,tyOf tys,25,gOf [],false,[],[]⟩
def q127p:List PE := [e30]
noncomputable def q127F:F6:=⟨q127C,rr q127p [(ty_0,false)] Tryz.f352,fun p=>bif Nat.beq p 30 then some (.cut [e92,e5] 48)else bif Nat.beq p 14 then some (.cut [e92,e5] 48)else bif Nat.beq p 6 then some (.cut [e92,e5] 48)else none,0,[]⟩
theorem q127K:Contract Tryz.prog 352 (q127V):=ctr q127C (rs := [(ty_0,false)]) (ps:=q127p) q127F Tryz.f352 16 ⟨tyOf_ok tys_ok,gOf_ok trivial⟩ (annl [] trivial)

noncomputable def q128V:Variant:=⟨[.val ty_1 false],[(ty_0,false)],fun x=>math_bits_LeadingZeros64 x.1⟩
noncomputable def q128C:Cfg:=⟨Tryz.prog,tyOf tys,6,gOf [(352,[],q127V)],false,[],[]⟩
def q128p:List PE := [e30]
noncomputable def q128F:F6:=⟨q128C,rr q128p [(ty_0,false)] Tryz.f326,fun p=>none,0,[]⟩
theorem q128K:Contract Tryz.prog 326 (q128V):=ctr q128C (rs := [(ty_0,false)]) (ps:=q128p) q128F Tryz.f326 16 ⟨tyOf_ok tys_ok,gOf_ok ⟨q127K,trivial⟩⟩ (annl [] trivial)

noncomputable def q129V(k:Nat):Variant:=⟨[.val ty_1 false,.val ty_1 false,.val ty_1 false],[(ty_1,false),(ty_1,false)],fun x=>math_bits_Div64 k x.1 x.2.1 x.2.2.1⟩
noncomputable def q129C(k:Nat):Cfg:=⟨Tryz.prog,tyOf tys,135,gOf [(326,[],q128V)],false,[],[]⟩
def q129i1:List PE := [e93,e94,e95,e96,⟨11,112,.val ty_1 false,false⟩,⟨13,128,.val ty_1 false,false⟩,⟨14,144,.val ty_1 false,false⟩,⟨15,160,.val ty_1 false,false⟩,⟨16,176,.val ty_1 false,false⟩]
def q129o1:List PE := [e93,e94,e95,e96,⟨11,112,.val ty_1 false,false⟩,⟨13,128,.val ty_1 false,false⟩,⟨14,144,.val ty_1 false,false⟩,⟨15,160,.val ty_1 false,false⟩]
noncomputable def q129f1(k:Nat)(n:Nat)(x2:PTe q129i1):=math_bits_Div64_L131068 k n x2.1 x2.2.1 x2.2.2.1 x2.2.2.2.1 x2.2.2.2.2.1 x2.2.2.2.2.2.1 x2.2.2.2.2.2.2.1 x2.2.2.2.2.2.2.2.1 x2.2.2.2.2.2.2.2.2.1
def q129i2:List PE := [e93,e94,e95,e96,⟨14,112,.val ty_1 false,false⟩,⟨15,128,.val ty_1 false,false⟩,⟨16,144,.val ty_1 false,false⟩,⟨17,160,.val ty_1 false,false⟩,⟨18,176,.val ty_1 false,false⟩]
def q129o2:List PE := [e93,e94,⟨14,80,.val ty_1 false,false⟩,⟨15,96,.val ty_1 false,false⟩,⟨17,112,.val ty_1 false,false⟩,⟨18,128,.val ty_1 false,false⟩]
noncomputable def q129f2(k:Nat)(n:Nat)(x5:PTe q129i2):=math_bits_Div64_L2097148 k n x5.1 x5.2.1 x5.2.2.1 x5.2.2.2.1 x5.2.2.2.2.1 x5.2.2.2.2.2.1 x5.2.2.2.2.2.2.1 x5.2.2.2.2.2.2.2.1 x5.2.2.2.2.2.2.2.2.1
def q129p:List PE := [e30,e31,⟨2,32,.val ty_1 false,false⟩]
noncomputable def q129F(k:Nat):F4:=⟨q129C k,rr q129p [(ty_1,false),(ty_1,false)] Tryz.f271,fun p=>bif Nat.beq p 131068 then some (.loop q129i1 q129o1 0 192 (q129f1 k k))else bif Nat.beq p 2097148 then some (.loop q129i2 q129o2 2 192 (q129f2 k k))else none,0,[]⟩
theorem q129K(k:Nat):Contract Tryz.prog 271 (q129V k):=ctr (q129C k) (rs := [(ty_1,false),(ty_1,false)]) (ps:=q129p) (q129F k) Tryz.f271 48 ⟨tyOf_ok tys_ok,gOf_ok ⟨q128K,trivial⟩⟩ (annl [131068,2097148] ⟨lok q129i1 q129o1 0 192 (q129f1 k) k,lok q129i2 q129o2 2 192 (q129f2 k) k,trivial⟩)

noncomputable def q130V(k:Nat):Variant:=⟨[.val ty_0 false,.val ty_0 false,.val ty_0 false,.val ty_0 false],[(ty_4,true),(.bool,false)],fun x=>impl_quotientDown k x.1 x.2.1 x.2.2.1 x.2.2.2.1⟩
noncomputable def q130C(k:Nat):Cfg:=⟨Tryz.prog,tyOf tys,88,gOf [(230,[],q30V),(264,[],q31V),(272,[],q29V),(271,[],q129V k),(273,[],q36V k),(274,[],q61V k),(231,[],q49V k)],false,[],[]⟩
def q130p:List PE := [e4,e3,e5,⟨3,48,.val ty_0 false,false⟩]
noncomputable def q130F(k:Nat):F3:=⟨q130C k,rr q130p [(ty_4,true),(.bool,false)] Tryz.f189,fun p=>bif Nat.beq p 1022 then some (.cut [⟨3,64,.val ty_0 false,false⟩,e59,⟨16,96,.box ty_10 false,false⟩] 112)else bif Nat.beq p 1022 then some (.cut [⟨3,64,.val ty_0 false,false⟩,e59,⟨16,96,.box ty_10 false,false⟩] 112)else none,0,[]⟩
theorem q130K(k:Nat):Contract Tryz.prog 189 (q130V k):=ctr (q130C k) (rs := [(ty_4,true),(.bool,false)]) (ps:=q130p) (q130F k) Tryz.f189 64 ⟨tyOf_ok tys_ok,gOf_ok ⟨q30K,q31K,q29K,q129K k,q36K k,q61K k,q49K k,trivial⟩⟩ (annl [] trivial)

noncomputable def q131V(k:Nat):Variant:=⟨[.val ty_14 false,.val ty_0 false],[(ty_14,false),(.bool,false)],fun x=>impl_roundedInverse k x.1 x.2.1⟩
noncomputable def q131C(k:Nat):Cfg:=⟨Tryz.prog,tyOf tys,77,gOf [(80,[],q102V k),(187,[],q126V k),(189,[],q130V k),(188,[],q51V)],false,[11,44,51],[]⟩
def q131i1:List PE := [⟨38,48,.same 8,false⟩,⟨44,64,.same 11,false⟩,⟨11,32,.vw 8,false⟩,⟨1,80,.val ty_0 false,false⟩,⟨6,96,.box .bool false,false⟩,⟨7,112,.box ty_4 false,false⟩,⟨8,128,.eat ty_7,false⟩,⟨39,144,.val ty_0 false,false⟩,⟨40,160,.val ty_0 false,false⟩,⟨45,176,.val ty_0 false,false⟩,⟨46,192,.val ty_0 false,false⟩]
def q131o1:List PE := [⟨38,32,.same 8,false⟩,e8,e85,⟨7,80,.box ty_4 false,false⟩,⟨8,96,.eat ty_7,false⟩,⟨39,112,.val ty_0 false,false⟩,⟨40,128,.val ty_0 false,false⟩]
noncomputable def q131f1(k:Nat)(n:Nat)(x5:PTe q131i1):=impl_roundedInverse_L129638 k n x5.1 x5.2.1 x5.2.2.1 x5.2.2.2.1 x5.2.2.2.2.1 x5.2.2.2.2.2.1 x5.2.2.2.2.2.2.1 x5.2.2.2.2.2.2.2.1 x5.2.2.2.2.2.2.2.2.1 x5.2.2.2.2.2.2.2.2.2.1 x5.2.2.2.2.2.2.2.2.2.2.1
def q131i2:List PE := [⟨38,32,.same 8,false⟩,e8,e85,⟨7,80,.box ty_4 false,false⟩,⟨8,96,.eat ty_7,false⟩,⟨39,112,.val ty_0 false,false⟩,⟨40,128,.val ty_0 false,false⟩]
def q131o2:List PE := [⟨6,32,.box .bool false,false⟩,⟨8,48,.eat ty_7,false⟩]
noncomputable def q131f2(k:Nat)(n:Nat)(x8:PTe q131i2):=impl_roundedInverse_L506 k n x8.1 x8.2.1 x8.2.2.1 x8.2.2.2.1 x8.2.2.2.2.1 x8.2.2.2.2.2.1 x8.2.2.2.2.2.2.1
def q131p:List PE := [e74,e3]
noncomputable def q131F(k:Nat):F14:=⟨q131C k,rr q131p [(ty_14,false),(.bool,false)] Tryz.f97,fun p=>bif Nat.beq p 129638 then some (.loop q131i1 q131o1 2 208 (q131f1 k k))else bif Nat.beq p 506 then some (.loop q131i2 q131o2 0 144 (q131f2 k k))else none,0,[]⟩
theorem q131K(k:Nat):Contract Tryz.prog 97 (q131V k):=ctr (q131C k) (rs := [(ty_14,false),(.bool,false)]) (ps:=q131p) (q131F k) Tryz.f97 32 ⟨tyOf_ok tys_ok,gOf_ok ⟨q102K k,q126K k,q130K k,q51K,trivial⟩⟩ (annl [506,129638] ⟨lok q131i2 q131o2 0 144 (q131f2 k) k,lok q131i1 q131o1 2 208 (q131f1 k) k,trivial⟩)

noncomputable def q132V(k:Nat):Variant:=⟨[.val ty_14 false,.val ty_0 false],[(ty_14,false),(.bool,false)],fun x=>impl_RoundedInverse k x.1 x.2.1⟩
noncomputable def q132C(k:Nat):Cfg:=⟨Tryz.prog,tyOf tys,19,gOf [(79,[],q98V k),(96,[],q27V),(97,[],q131V k)],false,[],[]⟩
def q132p:List PE := [e74,e3]
noncomputable def q132F(k:Nat):F14:=⟨q132C k,rr q132p [(ty_14,false),(.bool,false)] Tryz.f25,fun p=>none,0,[]⟩
theorem q132K(k:Nat):Contract Tryz.prog 25 (q132V k):=ctr (q132C k) (rs := [(ty_14,false),(.bool,false)]) (ps:=q132p) (q132F k) Tryz.f25 32 ⟨tyOf_ok tys_ok,gOf_ok ⟨q98K k,q27K,q131K k,trivial⟩⟩ (annl [] trivial)

noncomputable def q133V(k:Nat):Variant:=⟨[.val ty_14 false],[(ty_14,false),(.bool,false)],fun x=>spec_mxAdjoint k x.1⟩
noncomputable def q133C(k:Nat):Cfg:=⟨Tryz.prog,tyOf tys,54,gOf [(171,[],q9V),(178,[],q105V k),(82,[],q106V k),(180,[],q77V)],false,[],[]⟩
def q133i1:List PE := [e73,e97,⟨5,48,.val ty_0 false,false⟩,e58,e78,e60,⟨22,112,.val ty_0 false,false⟩,⟨23,128,.val ty_0 false,false⟩]
def q133o1:List PE := [e73,e97,⟨6,48,.eat ty_4,false⟩,e79,⟨18,80,.val ty_0 false,false⟩]
noncomputable def q133f1(k:Nat)(n:Nat)(x7:PTe q133i1):=spec_mxAdjoint_L125338 k n x7.1 x7.2.1 x7.2.2.1 x7.2.2.2.1 x7.2.2.2.2.1 x7.2.2.2.2.2.1 x7.2.2.2.2.2.2.1 x7.2.2.2.2.2.2.2.1
def q133i2:List PE := [e73,e97,⟨17,48,.val ty_0 false,false⟩,⟨18,64,.val ty_0 false,false⟩]
def q133o2:List PE := [⟨4,16,.eat ty_7,false⟩]
noncomputable def q133f2(k:Nat)(n:Nat)(x10:PTe q133i2):=spec_mxAdjoint_L122 k n x10.1 x10.2.1 x10.2.2.1 x10.2.2.2.1
def q133p:List PE := [e74]
noncomputable def q133F(k:Nat):F14:=⟨q133C k,rr q133p [(ty_14,false),(.bool,false)] Tryz.f190,fun p=>bif Nat.beq p 64173262 then some (.cut [e73,e97,⟨5,48,.val ty_0 false,false⟩,e58,e59,⟨17,96,.val ty_0 false,false⟩,⟨18,112,.val ty_0 false,false⟩,⟨22,128,.val ty_0 false,false⟩,⟨23,144,.val ty_0 false,false⟩] 160)else bif Nat.beq p 125338 then some (.loop q133i1 q133o1 2 144 (q133f1 k k))else bif Nat.beq p 122 then some (.loop q133i2 q133o2 0 80 (q133f2 k k))else none,0,[]⟩
theorem q133K(k:Nat):Contract Tryz.prog 190 (q133V k):=ctr (q133C k) (rs := [(ty_14,false),(.bool,false)]) (ps:=q133p) (q133F k) Tryz.f190 16 ⟨tyOf_ok tys_ok,gOf_ok ⟨q9K,q105K k,q106K k,q77K,trivial⟩⟩ (annl [122,125338] ⟨lok q133i2 q133o2 0 80 (q133f2 k) k,lok q133i1 q133o1 2 144 (q133f1 k) k,trivial⟩)

noncomputable def q134V(k:Nat):Variant:=⟨[.val ty_0 false,.val ty_0 false,.val ty_0 false,.val ty_0 false,.val ty_0 false],[(ty_4,true),(.bool,false)],fun x=>spec_dyDigits k x.1 x.2.1 x.2.2.1 x.2.2.2.1 x.2.2.2.2.1⟩
noncomputable def q134C(k:Nat):Cfg:=⟨Tryz.prog,tyOf tys,65,gOf [(185,[],q74V),(218,[],q14V),(154,[],q8V k)],false,[],[]⟩
def q134i1:List PE := [e98,⟨1,96,.val ty_0 false,false⟩,⟨2,112,.val ty_0 false,false⟩,⟨3,128,.val ty_0 false,false⟩,⟨4,144,.val ty_0 false,false⟩,⟨10,160,.box ty_4 false,false⟩,⟨12,176,.val ty_0 false,false⟩,⟨13,192,.val ty_0 false,false⟩]
def q134o1:List PE := [e98,e99,e100,e101,e102]
noncomputable def q134f1(k:Nat)(n:Nat)(x1:PTe q134i1):=spec_dyDigits_L58 k n x1.1 x1.2.1 x1.2.2.1 x1.2.2.2.1 x1.2.2.2.2.1 x1.2.2.2.2.2.1 x1.2.2.2.2.2.2.1 x1.2.2.2.2.2.2.2.1
def q134i2:List PE := [e98,e99,e100,e101,e102]
def q134o2:List PE := [e98,e99,e100,e101,e102]
noncomputable def q134f2(k:Nat)(n:Nat)(x4:PTe q134i2):=spec_dyDigits_L60 k n x4.1 x4.2.1 x4.2.2.1 x4.2.2.2.1 x4.2.2.2.2.1
def q134p:List PE := [e4,e3,e5,⟨3,48,.val ty_0 false,false⟩,⟨4,64,.val ty_0 false,false⟩]
noncomputable def q134F(k:Nat):F3:=⟨q134C k,rr q134p [(ty_4,true),(.bool,false)] Tryz.f276,fun p=>bif Nat.beq p 58 then some (.loop q134i1 q134o1 0 208 (q134f1 k k))else bif Nat.beq p 60 then some (.loop q134i2 q134o2 2 160 (q134f2 k k))else none,0,[]⟩
theorem q134K(k:Nat):Contract Tryz.prog 276 (q134V k):=ctr (q134C k) (rs := [(ty_4,true),(.bool,false)]) (ps:=q134p) (q134F k) Tryz.f276 80 ⟨tyOf_ok tys_ok,gOf_ok ⟨q74K,q14K,q8K k,trivial⟩⟩ (annl [58,60] ⟨lok q134i1 q134o1 0 208 (q134f1 k) k,lok q134i2 q134o2 2 160 (q134f2 k) k,trivial⟩)

noncomputable def q135V(k:Nat):Variant:=⟨[.val ty_4 true,.val ty_4 true,.val ty_0 false],[(ty_4,true),(.bool,false)],fun x=>spec_dyDivide k x.1 x.2.1 x.2.2.1⟩
noncomputable def q135C(k:Nat):Cfg:=⟨Tryz.prog,tyOf tys,59,gOf [(180,[],q77V),(275,[],q17V),(218,[],q14V),(154,[],q8V k),(276,[],q134V k)],false,[],[]⟩
def q135p:List PE := [e6,e14,e5]
noncomputable def q135F(k:Nat):F3:=⟨q135C k,rr q135p [(ty_4,true),(.bool,false)] Tryz.f191,fun p=>bif Nat.beq p 14 then some (.cut [⟨2,48,.val ty_0 false,false⟩,⟨3,64,.box ty_4 false,false⟩,⟨4,80,.box ty_4 false,false⟩,⟨6,96,.box ty_4 false,false⟩] 112)else none,0,[]⟩
theorem q135K(k:Nat):Contract Tryz.prog 191 (q135V k):=ctr (q135C k) (rs := [(ty_4,true),(.bool,false)]) (ps:=q135p) (q135F k) Tryz.f191 48 ⟨tyOf_ok tys_ok,gOf_ok ⟨q77K,q17K,q14K,q8K k,q134K k,trivial⟩⟩ (annl [] trivial)

noncomputable def q136V(k:Nat):Variant:=⟨[.val ty_14 false,.val ty_0 false],[(ty_14,false),(.bool,false)],fun x=>spec_mxInverse k x.1 x.2.1⟩
noncomputable def q136C(k:Nat):Cfg:=⟨Tryz.prog,tyOf tys,71,gOf [(82,[],q106V k),(190,[],q133V k),(191,[],q135V k)],false,[],[]⟩
def q136i1:List PE := [e11,e103,e104,⟨13,80,.eat ty_4,false⟩,⟨39,96,.val ty_14 false,false⟩,⟨40,112,.val ty_0 false,false⟩,⟨41,128,.val ty_0 false,false⟩,⟨45,144,.val ty_7 false,false⟩,⟨46,160,.val ty_0 false,false⟩,⟨47,176,.val ty_0 false,false⟩]
def q136o1:List PE := [e11,e103,e104,⟨13,80,.eat ty_4,false⟩,⟨39,96,.val ty_14 false,false⟩,⟨40,112,.val ty_0 false,false⟩,⟨41,128,.val ty_0 false,false⟩]
noncomputable def q136f1(k:Nat)(n:Nat)(x4:PTe q136i1):=spec_mxInverse_L518554 k n x4.1 x4.2.1 x4.2.2.1 x4.2.2.2.1 x4.2.2.2.2.1 x4.2.2.2.2.2.1 x4.2.2.2.2.2.2.1 x4.2.2.2.2.2.2.2.1 x4.2.2.2.2.2.2.2.2.1 x4.2.2.2.2.2.2.2.2.2.1
def q136i2:List PE := [e11,e103,e104,⟨39,80,.val ty_14 false,false⟩,⟨40,96,.val ty_0 false,false⟩,⟨41,112,.val ty_0 false,false⟩]
def q136o2:List PE := [⟨10,32,.eat ty_7,false⟩]
noncomputable def q136f2(k:Nat)(n:Nat)(x7:PTe q136i2):=spec_mxInverse_L506 k n x7.1 x7.2.1 x7.2.2.1 x7.2.2.2.1 x7.2.2.2.2.1 x7.2.2.2.2.2.1
def q136p:List PE := [e74,e3]
noncomputable def q136F(k:Nat):F14:=⟨q136C k,rr q136p [(ty_14,false),(.bool,false)] Tryz.f99,fun p=>bif Nat.beq p 518554 then some (.loop q136i1 q136o1 2 192 (q136f1 k k))else bif Nat.beq p 506 then some (.loop q136i2 q136o2 0 128 (q136f2 k k))else none,0,[]⟩
theorem q136K(k:Nat):Contract Tryz.prog 99 (q136V k):=ctr (q136C k) (rs := [(ty_14,false),(.bool,false)]) (ps:=q136p) (q136F k) Tryz.f99 32 ⟨tyOf_ok tys_ok,gOf_ok ⟨q106K k,q133K k,q135K k,trivial⟩⟩ (annl [506,518554] ⟨lok q136i2 q136o2 0 128 (q136f2 k) k,lok q136i1 q136o1 2 192 (q136f1 k) k,trivial⟩)

noncomputable def q137V(k:Nat):Variant:=⟨[.val ty_14 false,.val ty_0 false],[(ty_14,false),(.bool,false)],fun x=>spec_RoundedInverse k x.1 x.2.1⟩
noncomputable def q137C(k:Nat):Cfg:=⟨Tryz.prog,tyOf tys,19,gOf [(81,[],q104V k),(98,[],q6V),(99,[],q136V k)],false,[],[]⟩
def q137p:List PE := [e74,e3]
noncomputable def q137F(k:Nat):F14:=⟨q137C k,rr q137p [(ty_14,false),(.bool,false)] Tryz.f26,fun p=>none,0,[]⟩
theorem q137K(k:Nat):Contract Tryz.prog 26 (q137V k):=ctr (q137C k) (rs := [(ty_14,false),(.bool,false)]) (ps:=q137p) (q137F k) Tryz.f26 32 ⟨tyOf_ok tys_ok,gOf_ok ⟨q104K k,q6K,q136K k,trivial⟩⟩ (annl [] trivial)

noncomputable def q138V(k:Nat):Variant:=⟨[.val ty_14 false,.val ty_14 false],[(.bool,false)],fun x=>laws_pSameTable k x.1 x.2.1⟩
noncomputable def q138C(k:Nat):Cfg:=⟨Tryz.prog,tyOf tys,27,gOf [(19,[],q113V k)],false,[],[]⟩
def q138i1:List PE := [e83,⟨1,48,.val ty_14 false,false⟩,e81,e64]
def q138o1:List PE := []
noncomputable def q138f1(k:Nat)(n:Nat)(x2:PTe q138i1):=laws_pSameTable_L58 k n x2.1 x2.2.1 x2.2.2.1 x2.2.2.2.1
def q138p:List PE := [e74,⟨1,16,.val ty_14 false,false⟩]
noncomputable def q138F(k:Nat):F1:=⟨q138C k,rr q138p [(.bool,false)] Tryz.f27,fun p=>bif Nat.beq p 58 then some (.loop q138i1 q138o1 0 96 (q138f1 k k))else none,0,[]⟩
theorem q138K(k:Nat):Contract Tryz.prog 27 (q138V k):=ctr (q138C k) (rs := [(.bool,false)]) (ps:=q138p) (q138F k) Tryz.f27 32 ⟨tyOf_ok tys_ok,gOf_ok ⟨q113K k,trivial⟩⟩ (annl [58] ⟨lok q138i1 q138o1 0 96 (q138f1 k) k,trivial⟩)

noncomputable def laws_FnTablesIn_V(k:Nat):Variant:=⟨[.val ty_13 false,.val ty_13 false],[(.bool,false)],fun x=>laws_FnTablesIn k x.1 x.2.1⟩
noncomputable def laws_FnTablesIn_C(k:Nat):Cfg:=⟨Tryz.prog,tyOf tys,297,gOf [(7,[],q1V),(8,[],q25V k),(9,[],q68V k),(10,[],q86V k),(11,[],q90V k),(12,[],q93V k),(13,[],q94V k),(14,[],q103V k),(15,[],q107V k),(16,[],q110V k),(17,[],q111V k),(18,[],q112V k),(19,[],q113V k),(20,[],q116V k),(21,[],q119V k),(22,[],q121V k),(23,[],q123V k),(24,[],q125V k),(25,[],q132V k),(26,[],q137V k),(27,[],q138V k)],false,[],[]⟩
def laws_FnTablesIn_i67021210:List PE := [e105,e106,e107,e62,e108,e109,⟨18,128,.eat ty_4,false⟩,⟨19,144,.eat ty_4,false⟩,⟨104,160,.val ty_11 false,false⟩,⟨105,176,.val ty_0 false,false⟩,⟨106,192,.val ty_0 false,false⟩,⟨110,208,.val ty_6 false,false⟩,⟨111,224,.val ty_0 false,false⟩,⟨112,240,.val ty_0 false,false⟩]
def laws_FnTablesIn_o67021210:List PE := [e105,e106,e107,e62,e108,e109,⟨18,128,.eat ty_4,false⟩,⟨19,144,.eat ty_4,false⟩,⟨104,160,.val ty_11 false,false⟩,⟨105,176,.val ty_0 false,false⟩,⟨106,192,.val ty_0 false,false⟩]
noncomputable def laws_FnTablesIn_f67021210(k:Nat)(n:Nat)(x9:PTe laws_FnTablesIn_i67021210):=laws_FnTablesIn_L67021210 k n x9.1 x9.2.1 x9.2.2.1 x9.2.2.2.1 x9.2.2.2.2.1 x9.2.2.2.2.2.1 x9.2.2.2.2.2.2.1 x9.2.2.2.2.2.2.2.1 x9.2.2.2.2.2.2.2.2.1 x9.2.2.2.2.2.2.2.2.2.1 x9.2.2.2.2.2.2.2.2.2.2.1 x9.2.2.2.2.2.2.2.2.2.2.2.1 x9.2.2.2.2.2.2.2.2.2.2.2.2.1 x9.2.2.2.2.2.2.2.2.2.2.2.2.2.1
def laws_FnTablesIn_i65450:List PE := [e105,e106,e107,e62,e108,e109,⟨104,128,.val ty_11 false,false⟩,⟨105,144,.val ty_0 false,false⟩,⟨106,160,.val ty_0 false,false⟩]
def laws_FnTablesIn_o65450:List PE := [e105,e106,e107,e62,e108,e109]
noncomputable def laws_FnTablesIn_f65450(k:Nat)(n:Nat)(x12:PTe laws_FnTablesIn_i65450):=laws_FnTablesIn_L65450 k n x12.1 x12.2.1 x12.2.2.1 x12.2.2.2.1 x12.2.2.2.2.1 x12.2.2.2.2.2.1 x12.2.2.2.2.2.2.1 x12.2.2.2.2.2.2.2.1 x12.2.2.2.2.2.2.2.2.1
def laws_FnTablesIn_i4289619934:List PE := [e105,e106,e107,e62,e110,e111,e112,⟨202,144,.eat ty_4,false⟩,⟨203,160,.val ty_0 false,false⟩,⟨204,176,.val ty_0 false,false⟩]
def laws_FnTablesIn_o4289619934:List PE := [e105,e106,e107,e62,e110,e111,e112]
noncomputable def laws_FnTablesIn_f4289619934(k:Nat)(n:Nat)(x24:PTe laws_FnTablesIn_i4289619934):=laws_FnTablesIn_L4289619934 k n x24.1 x24.2.1 x24.2.2.1 x24.2.2.2.1 x24.2.2.2.2.1 x24.2.2.2.2.2.1 x24.2.2.2.2.2.2.1 x24.2.2.2.2.2.2.2.1 x24.2.2.2.2.2.2.2.2.1 x24.2.2.2.2.2.2.2.2.2.1
def laws_FnTablesIn_i65454:List PE := [e105,e106,e107,e62,e110,e111,e112]
def laws_FnTablesIn_o65454:List PE := [e105]
noncomputable def laws_FnTablesIn_f65454(k:Nat)(n:Nat)(x28:PTe laws_FnTablesIn_i65454):=laws_FnTablesIn_L65454 k n x28.1 x28.2.1 x28.2.2.1 x28.2.2.2.1 x28.2.2.2.2.1 x28.2.2.2.2.2.1 x28.2.2.2.2.2.2.1
def laws_FnTablesIn_i4294955622:List PE := [e113,e114,e115,e116,e117,⟨273,112,.val ty_7 false,false⟩,⟨274,128,.val ty_0 false,false⟩,⟨275,144,.val ty_0 false,false⟩]
def laws_FnTablesIn_o4294955622:List PE := [e113,e114,e115,e116,e117]
noncomputable def laws_FnTablesIn_f4294955622(k:Nat)(n:Nat)(x40:PTe laws_FnTablesIn_i4294955622):=laws_FnTablesIn_L4294955622 k n x40.1 x40.2.1 x40.2.2.1 x40.2.2.2.1 x40.2.2.2.2.1 x40.2.2.2.2.2.1 x40.2.2.2.2.2.2.1 x40.2.2.2.2.2.2.2.1
def laws_FnTablesIn_i16777170:List PE := [e113,e114,e115,e116,e117]
def laws_FnTablesIn_o16777170:List PE := [e113]
noncomputable def laws_FnTablesIn_f16777170(k:Nat)(n:Nat)(x43:PTe laws_FnTablesIn_i16777170):=laws_FnTablesIn_L16777170 k n x43.1 x43.2.1 x43.2.2.1 x43.2.2.2.1 x43.2.2.2.2.1
def laws_FnTablesIn_ps:List PE := [⟨0,0,.val ty_13 false,false⟩,⟨1,16,.val ty_13 false,false⟩]
noncomputable def laws_FnTablesIn_F(k:Nat):F1:=⟨laws_FnTablesIn_C k,rr laws_FnTablesIn_ps [(.bool,false)] Tryz.f3,fun p=>bif Nat.beq p 67021210 then some (.loop laws_FnTablesIn_i67021210 laws_FnTablesIn_o67021210 2 256 (laws_FnTablesIn_f67021210 k k))else bif Nat.beq p 65450 then some (.loop laws_FnTablesIn_i65450 laws_FnTablesIn_o65450 0 176 (laws_FnTablesIn_f65450 k k))else bif Nat.beq p 4289619934 then some (.loop laws_FnTablesIn_i4289619934 laws_FnTablesIn_o4289619934 6 192 (laws_FnTablesIn_f4289619934 k k))else bif Nat.beq p 33512654 then some (.cut [e105,e106,e107,e62,⟨23,96,.val ty_14 false,false⟩,⟨138,112,.val ty_15 false,false⟩,⟨139,128,.val ty_0 false,false⟩,⟨140,144,.val ty_0 false,false⟩] 160)else bif Nat.beq p 65454 then some (.loop laws_FnTablesIn_i65454 laws_FnTablesIn_o65454 4 144 (laws_FnTablesIn_f65454 k k))else bif Nat.beq p 4294955622 then some (.loop laws_FnTablesIn_i4294955622 laws_FnTablesIn_o4294955622 10 160 (laws_FnTablesIn_f4294955622 k k))else bif Nat.beq p 16777170 then some (.loop laws_FnTablesIn_i16777170 laws_FnTablesIn_o16777170 8 112 (laws_FnTablesIn_f16777170 k k))else bif Nat.beq p 1022 then some (.cut [e105] 48)else bif Nat.beq p 510 then some (.cut [e105,e24,⟨7,64,.val .bool false,false⟩,⟨8,80,.box ty_5 false,false⟩,⟨11,96,.val .bool false,false⟩,⟨12,112,.val .bool false,false⟩] 128)else none,0,[]⟩
theorem laws_FnTablesIn_K(k:Nat):Contract Tryz.prog 3 (laws_FnTablesIn_V k):=ctr (laws_FnTablesIn_C k) (rs := [(.bool,false)]) (ps:=laws_FnTablesIn_ps) (laws_FnTablesIn_F k) Tryz.f3 32 ⟨tyOf_ok tys_ok,gOf_ok ⟨q1K,q25K k,q68K k,q86K k,q90K k,q93K k,q94K k,q103K k,q107K k,q110K k,q111K k,q112K k,q113K k,q116K k,q119K k,q121K k,q123K k,q125K k,q132K k,q137K k,q138K k,trivial⟩⟩ (annl [65450,67021210,65454,4289619934,16777170,4294955622] ⟨lok laws_FnTablesIn_i65450 laws_FnTablesIn_o65450 0 176 (laws_FnTablesIn_f65450 k) k,lok laws_FnTablesIn_i67021210 laws_FnTablesIn_o67021210 2 256 (laws_FnTablesIn_f67021210 k) k,lok laws_FnTablesIn_i65454 laws_FnTablesIn_o65454 4 144 (laws_FnTablesIn_f65454 k) k,lok laws_FnTablesIn_i4289619934 laws_FnTablesIn_o4289619934 6 192 (laws_FnTablesIn_f4289619934 k) k,lok laws_FnTablesIn_i16777170 laws_FnTablesIn_o16777170 8 112 (laws_FnTablesIn_f16777170 k) k,lok laws_FnTablesIn_i4294955622 laws_FnTablesIn_o4294955622 10 160 (laws_FnTablesIn_f4294955622 k) k,trivial⟩)
end Go.Ev.G
