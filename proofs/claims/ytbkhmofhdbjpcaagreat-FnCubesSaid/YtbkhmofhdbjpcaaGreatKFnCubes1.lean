/- The contracts of the functions behind FnCubes: a call of each returns what its plain function computes; for all inputs within the sizes named. -/
import Derived.Test.YtbkhmofhdbjpcaaGreatPFnCubes1
import Derived.Test.YtbkhmofhdbjpcaaGreatProg
set_option linter.unusedVariables false
set_option linter.unusedSectionVars false
namespace Go.Ev.G
open Go Go.Ev Go.Proofs
set_option maxRecDepth 100000
variable [KSl]
abbrev ty_0:Ty:=(.int .i64)

abbrev ty_1:Ty:=(.int .u64)

abbrev ty_2:Ty:=(.pair ty_0 ty_1)

abbrev ty_3:Ty:=(.pair .ks ty_2)

abbrev ty_4:Ty:=(.pair ty_0 ty_0)

abbrev ty_5:Ty:=(.pair ty_0 ty_4)

abbrev ty_6:Ty:=(.pair ty_0 ty_5)

abbrev ty_7:Ty:=(.sl ty_6)

abbrev ty_8:Ty:=(.sl ty_0)

abbrev ty_9:Ty:=(.pair ty_8 ty_8)

abbrev ty_10:Ty:=(.pair ty_0 ty_9)

abbrev ty_11:Ty:=(.sl ty_7)

abbrev ty_12:Ty:=(.pair .bool ty_4)

abbrev ty_13:Ty:=(.pair ty_0 ty_12)

abbrev ty_14:Ty:=(.pair ty_1 ty_1)

abbrev ty_15:Ty:=(.pair .bool ty_14)

abbrev ty_16:Ty:=(.pair ty_4 ty_4)

abbrev ty_17:Ty:=(.sl ty_16)

abbrev ty_18:Ty:=(.sl ty_4)

abbrev ty_19:Ty:=(.sl ty_13)

abbrev ty_20:Ty:=(.int .u8)

abbrev ty_21:Ty:=(.sl ty_20)

def tys:List (TypeId×Ty) := [(3,ty_0),(4,.bool),(27,ty_4),(29,ty_16),(56,ty_8),(132,ty_13),(147,ty_7),(150,ty_6)]

theorem tys_ok:AllT Tryz.prog tys:=⟨⟨_,_,rfl,rfl,rfl,rfl⟩,⟨_,_,rfl,rfl,rfl,rfl⟩,⟨_,_,rfl,rfl,rfl,rfl⟩,⟨_,_,rfl,rfl,rfl,rfl⟩,⟨_,_,rfl,rfl,rfl,rfl⟩,⟨_,_,rfl,rfl,rfl,rfl⟩,⟨_,_,rfl,rfl,rfl,rfl⟩,⟨_,_,rfl,rfl,rfl,rfl⟩,trivial⟩

def tysR:List (TypeId×Ty) := []

theorem tysR_ok:AllT Tryz.prog tysR:=trivial

theorem mix_ok:Tryz.prog.follows .mixedOrders=true:=by kernel_rfl

theorem ctr{g:FuncId}(C:Cfg){rs:List (Ty×Bool)}{ps:List PE}(F:Fn (CT (rs.map (·.1)++outs (ps.map (·.b)))))(fn:Func)(nx:Nat){f:PT (ps.map (·.b))→Option (CT (rs.map (·.1)++outs (ps.map (·.b))))}
  (hC:CfgOk C) (hann:AnnOk F (codeOf fn) 1) (hP:C.P=Tryz.prog:=by rfl) (hF:F.C=C:=by rfl) (hfn:C.P.funcs[g]? = some fn:=by kernel_rfl) (hb:fn.body=some (codeOf fn):=by kernel_rfl) (hn:(fn.name == "runtime.NumGoroutine")=false:=by kernel_rfl)
  (hnt:C.ntmps=fn.ntmps:=by kernel_rfl) (hle:Nat.ble ps.length fn.ntmps=true:=by kernel_rfl) (hpar:parOk 0 ps=true:=by kernel_rfl) (hfin:F.fin=rdRes C.P ps rs fn.results.toList .ret:=by rfl)
  (hpins:F.pins=pinIds ps:=by kernel_rfl) (hnd:nodupB F.pins=true:=by kernel_rfl) (hf:∀x,evFn F (codeOf fn) ps nx x=f x:=by intro x;kernel_rfl):Contract C.P g ⟨ps.map (·.b),rs,f⟩ :=
 contract hC hF hfn hb hn hnt hle hpar hfin hpins hnd hann (hP ▸ mix_ok) hf

theorem annl{R:Type}{F:Fn R}{c:Code}(l:List Nat)(hl:AllL F (l.map fun p=>(p,loopB c p)))(h:loopsOf c 1=l.map (fun p=>(p,loopB c p)):=by kernel_rfl):AnnOk F c 1:=AnnOk_list _ h hl

theorem lok{R:Type}{F:Fn R}{c:Code}{p:Nat}(pin pout:List PE)(ex nx:Nat)(Lf:Nat→PTe pin→Option (R ⊕ PTe pout))(k:Nat)(h:F.an p=some (.loop pin pout ex nx (Lf k)):=by kernel_rfl)(h0:∀x,Lf 0 x=none:=by intro x;rfl)
  (hs:∀n x,roundOf F c p pin pout ex nx (Lf n) x=Lf (n+1) x:=by intro n x;kernel_rfl):LoopOk F c p:=LoopOk.mk (pin:=pin) (pout:=pout) h h0 hs

noncomputable def rr(ps:List PE)(rs:List (Ty×Bool))(f:Func):=rdRes Tryz.prog ps rs f.results.toList .ret

theorem lokp{R:Type}{F:Fn R}{c:Code}{p:Nat}(pin pout:List PE)(ex nx:Nat)(Lf:Nat→PTe pin→Option (R ⊕ PTe pout))(k:Nat)(h:F.an p=some (.peel pin pout ex nx (Lf k)):=by kernel_rfl)(h0:∀x,Lf 0 x=none:=by intro x;rfl)
  (hs:∀n x,roundOf F c p pin pout ex nx (Lf n) x=Lf (n+1) x:=by intro n x;kernel_rfl):LoopOk F c p:=LoopOk.mkp (pin:=pin) (pout:=pout) h h0 hs

abbrev e1:PE:=⟨0,0,.ptr ty_3 true,true⟩
abbrev e2:PE:=⟨3,16,.val ty_0 false,false⟩
abbrev F1:Type 1:=Fn (Int×Unit×Int×Int)
abbrev e3:PE:=⟨1,16,.val ty_0 false,false⟩
abbrev e4:PE:=⟨1,16,.val ty_8 false,false⟩
abbrev e5:PE:=⟨0,0,.val ty_6 true,false⟩
abbrev e6:PE:=⟨2,32,.val ty_0 false,false⟩
abbrev e7:PE:=⟨1,32,.val ty_0 false,false⟩
abbrev e8:PE:=⟨6,80,.val ty_0 false,false⟩
abbrev e9:PE:=⟨0,0,.val ty_0 false,false⟩
abbrev F2:Type 1:=Fn (Int)
abbrev e10:PE:=⟨1,16,.val ty_6 true,false⟩
abbrev e11:PE:=⟨0,32,.val ty_7 false,false⟩
abbrev e12:PE:=⟨3,48,.box ty_6 false,false⟩
abbrev e13:PE:=⟨5,64,.val ty_0 false,false⟩
abbrev e14:PE:=⟨0,0,.val ty_7 false,false⟩
abbrev F3:Type 1:=Fn (Bool)
abbrev e15:PE:=⟨0,16,.val ty_7 false,false⟩
abbrev e16:PE:=⟨6,48,.val ty_0 false,false⟩
abbrev e17:PE:=⟨7,64,.val ty_0 false,false⟩
abbrev e18:PE:=⟨9,64,.val ty_0 false,false⟩
abbrev F4:Type 1:=Fn ((List (Int×Int×Int×Int))×Bool)
abbrev e19:PE:=⟨6,64,.val ty_0 false,false⟩
abbrev e20:PE:=⟨7,80,.val ty_0 false,false⟩
abbrev e21:PE:=⟨5,32,.eat ty_6,false⟩
abbrev F5:Type 1:=Fn ((List (Int×Int×Int×Int))×Unit×Int×Int)
abbrev e22:PE:=⟨5,48,.eat ty_7,false⟩
abbrev e23:PE:=⟨5,32,.eat ty_7,false⟩
abbrev F6:Type 1:=Fn ((List (List (Int×Int×Int×Int)))×Unit×Int×Int)
abbrev e24:PE:=⟨8,80,.val ty_0 false,false⟩
abbrev e25:PE:=⟨0,0,.val ty_8 false,false⟩
abbrev F7:Type 1:=Fn (List Int)
abbrev e26:PE:=⟨7,48,.val ty_0 false,false⟩
abbrev e27:PE:=⟨8,64,.val ty_0 false,false⟩
abbrev e28:PE:=⟨0,0,.val ty_10 true,false⟩
abbrev e29:PE:=⟨6,48,.box ty_10 true,false⟩
abbrev e30:PE:=⟨8,64,.box ty_10 true,false⟩
abbrev e31:PE:=⟨4,48,.box ty_10 true,false⟩
abbrev e32:PE:=⟨7,96,.eat ty_0,false⟩
abbrev e33:PE:=⟨7,80,.eat ty_0,false⟩
abbrev e34:PE:=⟨8,96,.eat ty_0,false⟩
abbrev F8:Type 1:=Fn ((Int×(List Int)×List Int)×Unit×Int×Int)
abbrev e35:PE:=⟨3,16,.box ty_10 true,false⟩
abbrev e36:PE:=⟨9,48,.val ty_7 false,false⟩
abbrev e37:PE:=⟨10,64,.val ty_0 false,false⟩
abbrev e38:PE:=⟨11,80,.val ty_0 false,false⟩
abbrev e39:PE:=⟨17,112,.val ty_0 false,false⟩
abbrev e40:PE:=⟨0,16,.val ty_11 false,false⟩
abbrev e41:PE:=⟨0,0,.val ty_11 false,false⟩
abbrev e42:PE:=⟨0,0,.ptr ty_10 false,false⟩
abbrev e43:PE:=⟨1,16,.ptr ty_10 false,false⟩
abbrev e44:PE:=⟨0,16,.val ty_0 false,false⟩
abbrev e45:PE:=⟨3,32,.eat ty_13,false⟩
abbrev e46:PE:=⟨4,48,.val ty_0 false,false⟩
abbrev e47:PE:=⟨6,64,.val .bool false,false⟩
abbrev e48:PE:=⟨9,96,.val ty_0 false,false⟩
abbrev e49:PE:=⟨13,128,.val ty_0 false,false⟩
abbrev e50:PE:=⟨9,80,.val ty_0 false,false⟩
abbrev e51:PE:=⟨14,128,.val ty_0 false,false⟩
abbrev e52:PE:=⟨19,144,.val ty_0 false,false⟩
abbrev e53:PE:=⟨3,16,.eat ty_13,false⟩
abbrev e54:PE:=⟨0,0,.val ty_13 true,false⟩
abbrev e55:PE:=⟨2,48,.box ty_13 false,false⟩
abbrev F9:Type 1:=Fn (Bool×Int×Int)
abbrev e56:PE:=⟨0,0,.val ty_15 true,false⟩
abbrev e57:PE:=⟨4,64,.box ty_4 false,false⟩
abbrev F10:Type 1:=Fn ((Int×Int)×Bool)
abbrev e58:PE:=⟨0,48,.ptr ty_10 false,false⟩
abbrev e59:PE:=⟨1,64,.val ty_0 false,false⟩
abbrev e60:PE:=⟨5,80,.box ty_13 false,false⟩
abbrev e61:PE:=⟨9,96,.eat ty_16,false⟩
abbrev e62:PE:=⟨12,112,.val ty_0 false,false⟩
abbrev e63:PE:=⟨24,144,.val ty_5 true,false⟩
abbrev e64:PE:=⟨25,160,.val ty_0 false,false⟩
abbrev F11:Type 1:=Fn (Int×Int)
abbrev e65:PE:=⟨0,0,.val ty_4 true,false⟩
abbrev F12:Type 1:=Fn ((Int×Int)×Int×Int)
abbrev e66:PE:=⟨0,0,.val ty_1 false,false⟩
abbrev e67:PE:=⟨1,16,.val ty_4 true,false⟩
abbrev e68:PE:=⟨0,0,.ptr .bool true,true⟩
abbrev e69:PE:=⟨2,32,.val ty_4 true,false⟩
abbrev e70:PE:=⟨1,16,.val ty_15 true,false⟩
abbrev e71:PE:=⟨0,0,.val ty_16 true,false⟩
abbrev e72:PE:=⟨18,128,.val ty_0 false,false⟩
abbrev e73:PE:=⟨1,16,.val ty_16 true,false⟩
abbrev F13:Type 1:=Fn (((Int×Int)×Int×Int)×Bool)
abbrev e74:PE:=⟨1,32,.val ty_17 false,false⟩
abbrev e75:PE:=⟨4,48,.box ty_16 false,false⟩
abbrev e76:PE:=⟨6,64,.box .bool false,false⟩
abbrev e77:PE:=⟨7,80,.box ty_16 false,false⟩
abbrev e78:PE:=⟨4,32,.box ty_16 false,false⟩
abbrev e79:PE:=⟨1,16,.val ty_17 false,false⟩
abbrev e80:PE:=⟨0,64,.val ty_11 false,false⟩
abbrev e81:PE:=⟨2,80,.val ty_0 false,false⟩
abbrev F14:Type 1:=Fn ((List Int)×Bool)
abbrev e82:PE:=⟨1,16,.val ty_10 true,false⟩
abbrev e83:PE:=⟨5,48,.val ty_0 false,false⟩
abbrev e84:PE:=⟨8,96,.val ty_0 false,false⟩
abbrev e85:PE:=⟨4,32,.val ty_0 false,false⟩
abbrev e86:PE:=⟨7,64,.val .bool false,false⟩
abbrev e87:PE:=⟨18,96,.val ty_0 false,false⟩
abbrev e88:PE:=⟨7,48,.eat ty_0,false⟩
abbrev e89:PE:=⟨9,112,.val ty_0 false,false⟩
abbrev e90:PE:=⟨0,32,.val ty_0 false,false⟩
abbrev e91:PE:=⟨1,48,.val ty_0 false,false⟩
abbrev e92:PE:=⟨24,144,.val ty_0 false,false⟩
abbrev e93:PE:=⟨2,32,.box ty_4 false,false⟩
abbrev e94:PE:=⟨3,48,.box ty_4 false,false⟩
abbrev F15:Type 1:=Fn (Int×Bool)
abbrev e95:PE:=⟨2,16,.box ty_16 false,false⟩
abbrev e96:PE:=⟨3,32,.box ty_16 false,false⟩
abbrev e97:PE:=⟨6,64,.eat ty_4,false⟩
abbrev e98:PE:=⟨28,160,.val ty_0 false,false⟩
abbrev e99:PE:=⟨29,176,.val ty_0 false,false⟩
abbrev e100:PE:=⟨19,112,.val ty_0 false,false⟩
abbrev e101:PE:=⟨6,64,.box ty_16 false,false⟩
abbrev e102:PE:=⟨2,32,.val ty_5 true,false⟩
abbrev e103:PE:=⟨0,32,.val ty_8 false,false⟩
abbrev e104:PE:=⟨3,48,.box ty_19 false,false⟩
abbrev e105:PE:=⟨4,64,.box ty_0 false,false⟩
abbrev e106:PE:=⟨5,80,.box ty_5 false,false⟩
abbrev e107:PE:=⟨8,112,.box ty_5 false,false⟩
abbrev e108:PE:=⟨6,64,.eat ty_13,false⟩
abbrev e109:PE:=⟨10,128,.val ty_0 false,false⟩
abbrev e110:PE:=⟨23,160,.val ty_0 false,false⟩
abbrev e111:PE:=⟨24,176,.val ty_0 false,false⟩
abbrev e112:PE:=⟨28,192,.val ty_0 false,false⟩
abbrev e113:PE:=⟨29,208,.val ty_0 false,false⟩
abbrev e114:PE:=⟨33,224,.val ty_0 false,false⟩
abbrev e115:PE:=⟨34,240,.val ty_0 false,false⟩
abbrev e116:PE:=⟨12,144,.val ty_8 false,false⟩
abbrev e117:PE:=⟨0,64,.val ty_8 false,false⟩
abbrev e118:PE:=⟨1,80,.val ty_8 false,false⟩
abbrev e119:PE:=⟨2,96,.val ty_0 false,false⟩
abbrev e120:PE:=⟨9,64,.eat ty_0,false⟩
abbrev e121:PE:=⟨12,80,.eat ty_8,false⟩
abbrev e122:PE:=⟨13,96,.eat ty_0,false⟩
abbrev e123:PE:=⟨17,112,.eat ty_0,false⟩
abbrev e124:PE:=⟨68,144,.val ty_0 false,false⟩
abbrev e125:PE:=⟨69,160,.val ty_0 false,false⟩
abbrev e126:PE:=⟨7,64,.eat ty_13,false⟩
abbrev e127:PE:=⟨10,112,.val ty_0 false,false⟩
abbrev e128:PE:=⟨11,128,.val ty_0 false,false⟩
abbrev e129:PE:=⟨5,48,.eat ty_0,false⟩
abbrev e130:PE:=⟨7,32,.val ty_0 false,false⟩

noncomputable def q1V:Variant:=⟨[.ptr ty_3 true],[(ty_0,false)],fun x=>spec_l1Cur_next KSl.xs x.1⟩
noncomputable def q1C:Cfg:=⟨Tryz.prog,tyOf tys,62,gOf [],false,[],[]⟩
def q1p:List PE := [e1]
noncomputable def q1F:F1:=⟨q1C,rr q1p [(ty_0,false)] Tryz.f225,fun p=>bif Nat.beq p 14 then some (.cut [e1,e2] 32)else none,0,[0]⟩
theorem q1K:Contract Tryz.prog 225 (q1V):=ctr q1C (rs := [(ty_0,false)]) (ps:=q1p) q1F Tryz.f225 16 ⟨tyOf_ok tys_ok,gOf_ok trivial⟩ (annl [] trivial)

noncomputable def q2V:Variant:=⟨[.ptr ty_3 true,.val ty_0 false],[(ty_0,false)],fun x=>spec_l1Cur_pick KSl.xs x.1 x.2.1⟩
noncomputable def q2C:Cfg:=⟨Tryz.prog,tyOf tys,20,gOf [(225,[],q1V)],false,[],[]⟩
def q2p:List PE := [e1,e3]
noncomputable def q2F:F1:=⟨q2C,rr q2p [(ty_0,false)] Tryz.f129,fun p=>none,0,[0]⟩
theorem q2K:Contract Tryz.prog 129 (q2V):=ctr q2C (rs := [(ty_0,false)]) (ps:=q2p) q2F Tryz.f129 32 ⟨tyOf_ok tys_ok,gOf_ok ⟨q1K,trivial⟩⟩ (annl [] trivial)

noncomputable def q3V:Variant:=⟨[.ptr ty_3 true,.val ty_0 false],[(.bool,false)],fun x=>spec_l1Cur_one KSl.xs x.1 x.2.1⟩
noncomputable def q3C:Cfg:=⟨Tryz.prog,tyOf tys,9,gOf [(129,[],q2V)],false,[],[]⟩
def q3p:List PE := [e1,e3]
noncomputable def q3F:Fn (Bool×Unit×Int×Int):=⟨q3C,rr q3p [(.bool,false)] Tryz.f91,fun p=>none,0,[0]⟩
theorem q3K:Contract Tryz.prog 91 (q3V):=ctr q3C (rs := [(.bool,false)]) (ps:=q3p) q3F Tryz.f91 32 ⟨tyOf_ok tys_ok,gOf_ok ⟨q2K,trivial⟩⟩ (annl [] trivial)

noncomputable def q4V:Variant:=⟨[.ptr ty_3 true,.val ty_8 false],[(ty_0,false)],fun x=>spec_l1Cur_among KSl.xs x.1 x.2.1⟩
noncomputable def q4C:Cfg:=⟨Tryz.prog,tyOf tys,12,gOf [(129,[],q2V)],false,[],[]⟩
def q4p:List PE := [e1,e4]
noncomputable def q4F:F1:=⟨q4C,rr q4p [(ty_0,false)] Tryz.f70,fun p=>none,0,[0]⟩
theorem q4K:Contract Tryz.prog 70 (q4V):=ctr q4C (rs := [(ty_0,false)]) (ps:=q4p) q4F Tryz.f70 32 ⟨tyOf_ok tys_ok,gOf_ok ⟨q2K,trivial⟩⟩ (annl [] trivial)

noncomputable def q5V:Variant:=⟨[.val ty_6 true,.val ty_0 false,.val ty_0 false],[(ty_6,true)],fun x=>spec_poWith x.1 x.2.1 x.2.2.1⟩
noncomputable def q5C:Cfg:=⟨Tryz.prog,tyOf tys,19,gOf [],false,[],[]⟩
def q5p:List PE := [e5,e3,e6]
noncomputable def q5F:Fn (Int×Int×Int×Int):=⟨q5C,rr q5p [(ty_6,true)] Tryz.f279,fun p=>none,0,[]⟩
theorem q5K:Contract Tryz.prog 279 (q5V):=ctr q5C (rs := [(ty_6,true)]) (ps:=q5p) q5F Tryz.f279 48 ⟨tyOf_ok tys_ok,gOf_ok trivial⟩ (annl [] trivial)

noncomputable def q6V(k:Nat):Variant:=⟨[.ptr ty_3 true,.val ty_0 false],[(ty_6,true)],fun x=>spec_l1Cur_term k KSl.xs x.1 x.2.1⟩
noncomputable def q6C(k:Nat):Cfg:=⟨Tryz.prog,tyOf tys,46,gOf [(129,[],q2V),(70,[],q4V),(279,[],q5V),(91,[],q3V)],false,[],[]⟩
def q6i1:List PE := [e1,e7,⟨4,48,.box ty_6 false,false⟩,⟨5,64,.box ty_6 false,false⟩,e8,⟨7,96,.val ty_0 false,false⟩]
def q6o1:List PE := [e1,⟨4,32,.box ty_6 false,false⟩,⟨5,48,.box ty_6 false,false⟩]
noncomputable def q6f1(k:Nat)(n:Nat)(x8:PTe q6i1):=spec_l1Cur_term_L122 k KSl.xs n x8.1 x8.2.1 x8.2.2.1 x8.2.2.2.1 x8.2.2.2.2.1 x8.2.2.2.2.2.1
def q6p:List PE := [e1,e3]
noncomputable def q6F(k:Nat):Fn ((Int×Int×Int×Int)×Unit×Int×Int):=⟨q6C k,rr q6p [(ty_6,true)] Tryz.f357,fun p=>bif Nat.beq p 7826 then some (.cut [e1,e7,⟨4,48,.box ty_6 false,false⟩,⟨5,64,.box ty_6 false,false⟩,e8,⟨7,96,.val ty_0 false,false⟩,⟨8,112,.val ty_0 false,false⟩] 128)else bif Nat.beq p 122 then some (.loop q6i1 q6o1 0 112 (q6f1 k k))else none,0,[0]⟩
theorem q6K(k:Nat):Contract Tryz.prog 357 (q6V k):=ctr (q6C k) (rs := [(ty_6,true)]) (ps:=q6p) (q6F k) Tryz.f357 32 ⟨tyOf_ok tys_ok,gOf_ok ⟨q2K,q4K,q5K,q3K,trivial⟩⟩ (annl [122] ⟨lok q6i1 q6o1 0 112 (q6f1 k) k,trivial⟩)

noncomputable def q7V:Variant:=⟨[.val ty_0 false],[(ty_0,false)],fun x=>spec_l1Sign x.1⟩
noncomputable def q7C:Cfg:=⟨Tryz.prog,tyOf tys,9,gOf [],false,[],[]⟩
def q7p:List PE := [e9]
noncomputable def q7F:F2:=⟨q7C,rr q7p [(ty_0,false)] Tryz.f266,fun p=>none,0,[]⟩
theorem q7K:Contract Tryz.prog 266 (q7V):=ctr q7C (rs := [(ty_0,false)]) (ps:=q7p) q7F Tryz.f266 16 ⟨tyOf_ok tys_ok,gOf_ok trivial⟩ (annl [] trivial)

noncomputable def q8V:Variant:=⟨[.val ty_6 true,.val ty_6 true],[(ty_0,false)],fun x=>spec_poOrder x.1 x.2.1⟩
noncomputable def q8C:Cfg:=⟨Tryz.prog,tyOf tys,35,gOf [(266,[],q7V)],false,[],[]⟩
def q8p:List PE := [e5,e10]
noncomputable def q8F:F2:=⟨q8C,rr q8p [(ty_0,false)] Tryz.f338,fun p=>none,0,[]⟩
theorem q8K:Contract Tryz.prog 338 (q8V):=ctr q8C (rs := [(ty_0,false)]) (ps:=q8p) q8F Tryz.f338 32 ⟨tyOf_ok tys_ok,gOf_ok ⟨q7K,trivial⟩⟩ (annl [] trivial)

noncomputable def q9V(k:Nat):Variant:=⟨[.val ty_7 false,.val ty_6 true],[(ty_7,false)],fun x=>spec_poPut k x.1 x.2.1⟩
noncomputable def q9C(k:Nat):Cfg:=⟨Tryz.prog,tyOf tys,67,gOf [(338,[],q8V)],false,[],[]⟩
def q9i1:List PE := [e11,e12,e13]
def q9o1:List PE := [e11,e12,e13]
noncomputable def q9f1(k:Nat)(n:Nat)(x2:PTe q9i1):=spec_poPut_L28 k n x2.1 x2.2.1 x2.2.2.1
def q9p:List PE := [e14,e10]
noncomputable def q9F(k:Nat):Fn (List (Int×Int×Int×Int)):=⟨q9C k,rr q9p [(ty_7,false)] Tryz.f340,fun p=>bif Nat.beq p 28 then some (.loop q9i1 q9o1 0 80 (q9f1 k k))else bif Nat.beq p 254 then some (.cut [⟨6,32,.val ty_7 false,false⟩,⟨7,48,.eat ty_6,false⟩] 64)else bif Nat.beq p 62 then some (.cut [e11,e12,e13,⟨6,80,.val ty_7 false,false⟩] 96)else none,0,[]⟩
theorem q9K(k:Nat):Contract Tryz.prog 340 (q9V k):=ctr (q9C k) (rs := [(ty_7,false)]) (ps:=q9p) (q9F k) Tryz.f340 32 ⟨tyOf_ok tys_ok,gOf_ok ⟨q8K,trivial⟩⟩ (annl [28] ⟨lok q9i1 q9o1 0 80 (q9f1 k) k,trivial⟩)

noncomputable def q10V:Variant:=⟨[.val ty_0 false,.val ty_0 false,.val ty_0 false],[(.bool,false)],fun x=>spec_l1In x.1 x.2.1 x.2.2.1⟩
noncomputable def q10C:Cfg:=⟨Tryz.prog,tyOf tys,15,gOf [],false,[],[]⟩
def q10p:List PE := [e9,e3,e6]
noncomputable def q10F:F3:=⟨q10C,rr q10p [(.bool,false)] Tryz.f98,fun p=>none,0,[]⟩
theorem q10K:Contract Tryz.prog 98 (q10V):=ctr q10C (rs := [(.bool,false)]) (ps:=q10p) q10F Tryz.f98 48 ⟨tyOf_ok tys_ok,gOf_ok trivial⟩ (annl [] trivial)

noncomputable def q11V:Variant:=⟨[.val ty_6 true],[(.bool,false)],fun x=>spec_poTerm x.1⟩
noncomputable def q11C:Cfg:=⟨Tryz.prog,tyOf tys,32,gOf [(98,[],q10V)],false,[],[]⟩
def q11p:List PE := [e5]
noncomputable def q11F:F3:=⟨q11C,rr q11p [(.bool,false)] Tryz.f337,fun p=>none,0,[]⟩
theorem q11K:Contract Tryz.prog 337 (q11V):=ctr q11C (rs := [(.bool,false)]) (ps:=q11p) q11F Tryz.f337 16 ⟨tyOf_ok tys_ok,gOf_ok ⟨q10K,trivial⟩⟩ (annl [] trivial)

noncomputable def q12V(k:Nat):Variant:=⟨[.val ty_7 false],[(.bool,false)],fun x=>spec_poGood k x.1⟩
noncomputable def q12C(k:Nat):Cfg:=⟨Tryz.prog,tyOf tys,38,gOf [(337,[],q11V),(338,[],q8V)],false,[],[]⟩
def q12i1:List PE := [e15,⟨5,32,.val ty_7 false,false⟩,e16,e17]
def q12o1:List PE := [e15]
noncomputable def q12f1(k:Nat)(n:Nat)(x3:PTe q12i1):=spec_poGood_L26 k n x3.1 x3.2.1 x3.2.2.1 x3.2.2.2.1
def q12p:List PE := [e14]
noncomputable def q12F(k:Nat):F3:=⟨q12C k,rr q12p [(.bool,false)] Tryz.f287,fun p=>bif Nat.beq p 26 then some (.loop q12i1 q12o1 0 80 (q12f1 k k))else none,0,[]⟩
theorem q12K(k:Nat):Contract Tryz.prog 287 (q12V k):=ctr (q12C k) (rs := [(.bool,false)]) (ps:=q12p) (q12F k) Tryz.f287 16 ⟨tyOf_ok tys_ok,gOf_ok ⟨q11K,q8K,trivial⟩⟩ (annl [26] ⟨lok q12i1 q12o1 0 80 (q12f1 k) k,trivial⟩)

noncomputable def q13V(k:Nat):Variant:=⟨[.val ty_7 false],[(ty_7,false),(.bool,false)],fun x=>spec_poSum k x.1⟩
noncomputable def q13C(k:Nat):Cfg:=⟨Tryz.prog,tyOf tys,21,gOf [(340,[],q9V k),(287,[],q12V k)],false,[],[]⟩
def q13i1:List PE := [⟨4,16,.eat ty_6,false⟩,⟨7,32,.val ty_7 false,false⟩,⟨8,48,.val ty_0 false,false⟩,e18]
def q13o1:List PE := [⟨4,16,.eat ty_6,false⟩]
noncomputable def q13f1(k:Nat)(n:Nat)(x2:PTe q13i1):=spec_poSum_L58 k n x2.1 x2.2.1 x2.2.2.1 x2.2.2.2.1
def q13p:List PE := [e14]
noncomputable def q13F(k:Nat):F4:=⟨q13C k,rr q13p [(ty_7,false),(.bool,false)] Tryz.f293,fun p=>bif Nat.beq p 58 then some (.loop q13i1 q13o1 0 80 (q13f1 k k))else none,0,[]⟩
theorem q13K(k:Nat):Contract Tryz.prog 293 (q13V k):=ctr (q13C k) (rs := [(ty_7,false),(.bool,false)]) (ps:=q13p) (q13F k) Tryz.f293 16 ⟨tyOf_ok tys_ok,gOf_ok ⟨q9K k,q12K k,trivial⟩⟩ (annl [58] ⟨lok q13i1 q13o1 0 80 (q13f1 k) k,trivial⟩)

noncomputable def q14V(k:Nat):Variant:=⟨[.val ty_7 false,.val ty_7 false],[(ty_7,false),(.bool,false)],fun x=>spec_poAdd k x.1 x.2.1⟩
noncomputable def q14C(k:Nat):Cfg:=⟨Tryz.prog,tyOf tys,14,gOf [(293,[],q13V k)],false,[],[]⟩
def q14p:List PE := [e14,⟨1,16,.val ty_7 false,false⟩]
noncomputable def q14F(k:Nat):F4:=⟨q14C k,rr q14p [(ty_7,false),(.bool,false)] Tryz.f211,fun p=>none,0,[]⟩
theorem q14K(k:Nat):Contract Tryz.prog 211 (q14V k):=ctr (q14C k) (rs := [(ty_7,false),(.bool,false)]) (ps:=q14p) (q14F k) Tryz.f211 32 ⟨tyOf_ok tys_ok,gOf_ok ⟨q13K k,trivial⟩⟩ (annl [] trivial)

noncomputable def q15V(k:Nat):Variant:=⟨[.ptr ty_3 true,.val ty_0 false],[(ty_7,false)],fun x=>spec_l1Cur_poly k KSl.xs x.1 x.2.1⟩
noncomputable def q15C(k:Nat):Cfg:=⟨Tryz.prog,tyOf tys,34,gOf [(129,[],q2V),(91,[],q3V),(357,[],q6V k),(211,[],q14V k)],false,[],[]⟩
def q15i1:List PE := [e1,e7,⟨5,48,.eat ty_6,false⟩,e19,e20]
def q15o1:List PE := [e1,e21]
noncomputable def q15f1(k:Nat)(n:Nat)(x6:PTe q15i1):=spec_l1Cur_poly_L250 k KSl.xs n x6.1 x6.2.1 x6.2.2.1 x6.2.2.2.1 x6.2.2.2.2.1
def q15p:List PE := [e1,e3]
noncomputable def q15F(k:Nat):F5:=⟨q15C k,rr q15p [(ty_7,false)] Tryz.f339,fun p=>bif Nat.beq p 250 then some (.loop q15i1 q15o1 0 96 (q15f1 k k))else bif Nat.beq p 30 then some (.cut [e1,e7,⟨5,48,.eat ty_6,false⟩,e19] 80)else none,0,[0]⟩
theorem q15K(k:Nat):Contract Tryz.prog 339 (q15V k):=ctr (q15C k) (rs := [(ty_7,false)]) (ps:=q15p) (q15F k) Tryz.f339 32 ⟨tyOf_ok tys_ok,gOf_ok ⟨q2K,q3K,q6K k,q14K k,trivial⟩⟩ (annl [250] ⟨lok q15i1 q15o1 0 96 (q15f1 k) k,trivial⟩)

noncomputable def q16V(k:Nat):Variant:=⟨[.ptr ty_3 true,.val ty_0 false],[(ty_11,false)],fun x=>spec_l1Cur_system k KSl.xs x.1 x.2.1⟩
noncomputable def q16C(k:Nat):Cfg:=⟨Tryz.prog,tyOf tys,17,gOf [(339,[],q15V k)],false,[],[]⟩
def q16i1:List PE := [e1,e7,e22]
def q16o1:List PE := [e23,e1]
noncomputable def q16f1(k:Nat)(n:Nat)(x2:PTe q16i1):=spec_l1Cur_system_L28 k KSl.xs n x2.1 x2.2.1 x2.2.2.1
def q16p:List PE := [e1,e3]
noncomputable def q16F(k:Nat):F6:=⟨q16C k,rr q16p [(ty_11,false)] Tryz.f289,fun p=>bif Nat.beq p 28 then some (.loop q16i1 q16o1 0 64 (q16f1 k k))else none,0,[0]⟩
theorem q16K(k:Nat):Contract Tryz.prog 289 (q16V k):=ctr (q16C k) (rs := [(ty_11,false)]) (ps:=q16p) (q16F k) Tryz.f289 32 ⟨tyOf_ok tys_ok,gOf_ok ⟨q15K k,trivial⟩⟩ (annl [28] ⟨lok q16i1 q16o1 0 64 (q16f1 k) k,trivial⟩)

noncomputable def q17V(k:Nat):Variant:=⟨[.ptr ty_3 true,.val ty_0 false],[(ty_7,false)],fun x=>spec_l1Cur_anyPoly k KSl.xs x.1 x.2.1⟩
noncomputable def q17C(k:Nat):Cfg:=⟨Tryz.prog,tyOf tys,76,gOf [(339,[],q15V k),(129,[],q2V),(70,[],q4V)],false,[],[]⟩
def q17i1:List PE := [e1,e21,e16,e17,e24]
def q17o1:List PE := [e1,e21,e16,e17]
noncomputable def q17f1(k:Nat)(n:Nat)(x7:PTe q17i1):=spec_l1Cur_anyPoly_L494888082 k KSl.xs n x7.1 x7.2.1 x7.2.2.1 x7.2.2.2.1 x7.2.2.2.2.1
def q17i2:List PE := [e1,e21,e16,e17]
def q17o2:List PE := [e1,e21,e16]
noncomputable def q17f2(k:Nat)(n:Nat)(x10:PTe q17i2):=spec_l1Cur_anyPoly_L7732626 k KSl.xs n x10.1 x10.2.1 x10.2.2.1 x10.2.2.2.1
def q17i3:List PE := [e1,e21,e16]
def q17o3:List PE := [e21,e1]
noncomputable def q17f3(k:Nat)(n:Nat)(x13:PTe q17i3):=spec_l1Cur_anyPoly_L120822 k KSl.xs n x13.1 x13.2.1 x13.2.2.1
def q17p:List PE := [e1,e3]
noncomputable def q17F(k:Nat):F5:=⟨q17C k,rr q17p [(ty_7,false)] Tryz.f290,fun p=>bif Nat.beq p 494888082 then some (.loop q17i1 q17o1 5 96 (q17f1 k k))else bif Nat.beq p 7732626 then some (.loop q17i2 q17o2 3 80 (q17f2 k k))else bif Nat.beq p 120822 then some (.loop q17i3 q17o3 1 64 (q17f3 k k))else none,0,[0]⟩
theorem q17K(k:Nat):Contract Tryz.prog 290 (q17V k):=ctr (q17C k) (rs := [(ty_7,false)]) (ps:=q17p) (q17F k) Tryz.f290 32 ⟨tyOf_ok tys_ok,gOf_ok ⟨q15K k,q2K,q4K,trivial⟩⟩ (annl [120822,7732626,494888082] ⟨lok q17i3 q17o3 1 64 (q17f3 k) k,lok q17i2 q17o2 3 80 (q17f2 k) k,lok q17i1 q17o1 5 96 (q17f1 k) k,trivial⟩)

noncomputable def q18V(k:Nat):Variant:=⟨[.ptr ty_3 true],[(ty_11,false)],fun x=>spec_l1Cur_anySystem k KSl.xs x.1⟩
noncomputable def q18C(k:Nat):Cfg:=⟨Tryz.prog,tyOf tys,29,gOf [(70,[],q4V),(289,[],q16V k),(129,[],q2V),(290,[],q17V k)],false,[4,10,15],[]⟩
def q18p:List PE := [e1]
noncomputable def q18F(k:Nat):F6:=⟨q18C k,rr q18p [(ty_11,false)] Tryz.f209,fun p=>none,0,[0]⟩
theorem q18K(k:Nat):Contract Tryz.prog 209 (q18V k):=ctr (q18C k) (rs := [(ty_11,false)]) (ps:=q18p) (q18F k) Tryz.f209 16 ⟨tyOf_ok tys_ok,gOf_ok ⟨q4K,q16K k,q2K,q17K k,trivial⟩⟩ (annl [] trivial)

noncomputable def q19V:Variant:=⟨[.val ty_0 false],[(ty_0,false)],fun x=>spec_dyPower x.1⟩
noncomputable def q19C:Cfg:=⟨Tryz.prog,tyOf tys,6,gOf [],false,[],[]⟩
def q19p:List PE := [e9]
noncomputable def q19F:F2:=⟨q19C,rr q19p [(ty_0,false)] Tryz.f218,fun p=>none,0,[]⟩
theorem q19K:Contract Tryz.prog 218 (q19V):=ctr q19C (rs := [(ty_0,false)]) (ps:=q19p) q19F Tryz.f218 16 ⟨tyOf_ok tys_ok,gOf_ok trivial⟩ (annl [] trivial)

noncomputable def q20V:Variant:=⟨[.val ty_0 false,.val ty_0 false],[(ty_0,false)],fun x=>spec_l1Least x.1 x.2.1⟩
noncomputable def q20C:Cfg:=⟨Tryz.prog,tyOf tys,10,gOf [],false,[],[]⟩
def q20p:List PE := [e9,e3]
noncomputable def q20F:F2:=⟨q20C,rr q20p [(ty_0,false)] Tryz.f292,fun p=>none,0,[]⟩
theorem q20K:Contract Tryz.prog 292 (q20V):=ctr q20C (rs := [(ty_0,false)]) (ps:=q20p) q20F Tryz.f292 32 ⟨tyOf_ok tys_ok,gOf_ok trivial⟩ (annl [] trivial)

noncomputable def q21V:Variant:=⟨[.val ty_0 false,.val ty_0 false],[(ty_0,false)],fun x=>spec_l1Most x.1 x.2.1⟩
noncomputable def q21C:Cfg:=⟨Tryz.prog,tyOf tys,10,gOf [],false,[],[]⟩
def q21p:List PE := [e9,e3]
noncomputable def q21F:F2:=⟨q21C,rr q21p [(ty_0,false)] Tryz.f183,fun p=>none,0,[]⟩
theorem q21K:Contract Tryz.prog 183 (q21V):=ctr q21C (rs := [(ty_0,false)]) (ps:=q21p) q21F Tryz.f183 32 ⟨tyOf_ok tys_ok,gOf_ok trivial⟩ (annl [] trivial)

noncomputable def q22V:Variant:=⟨[.val ty_8 false],[(ty_8,false)],fun x=>spec_l1Own x.1⟩
noncomputable def q22C:Cfg:=⟨Tryz.prog,tyOf tys,6,gOf [],false,[],[]⟩
def q22p:List PE := [e25]
noncomputable def q22F:F7:=⟨q22C,rr q22p [(ty_8,false)] Tryz.f238,fun p=>none,0,[]⟩
theorem q22K:Contract Tryz.prog 238 (q22V):=ctr q22C (rs := [(ty_8,false)]) (ps:=q22p) q22F Tryz.f238 16 ⟨tyOf_ok tys_ok,gOf_ok trivial⟩ (annl [] trivial)

noncomputable def q23V(k:Nat):Variant:=⟨[.val ty_10 true],[(.bool,false)],fun x=>spec_bxEven k x.1⟩
noncomputable def q23C(k:Nat):Cfg:=⟨Tryz.prog,tyOf tys,26,gOf [],false,[],[]⟩
def q23i1:List PE := [⟨1,16,.box ty_10 false,false⟩,⟨6,32,.val ty_8 false,false⟩,e26,e27]
def q23o1:List PE := []
noncomputable def q23f1(k:Nat)(n:Nat)(x1:PTe q23i1):=spec_bxEven_L26 k n x1.1 x1.2.1 x1.2.2.1 x1.2.2.2.1
def q23p:List PE := [e28]
noncomputable def q23F(k:Nat):F3:=⟨q23C k,rr q23p [(.bool,false)] Tryz.f333,fun p=>bif Nat.beq p 26 then some (.loop q23i1 q23o1 0 80 (q23f1 k k))else none,0,[]⟩
theorem q23K(k:Nat):Contract Tryz.prog 333 (q23V k):=ctr (q23C k) (rs := [(.bool,false)]) (ps:=q23p) (q23F k) Tryz.f333 16 ⟨tyOf_ok tys_ok,gOf_ok trivial⟩ (annl [26] ⟨lok q23i1 q23o1 0 80 (q23f1 k) k,trivial⟩)

noncomputable def q24V(k:Nat):Variant:=⟨[.val ty_10 true],[(.bool,false)],fun x=>spec_bxGood k x.1⟩
noncomputable def q24C(k:Nat):Cfg:=⟨Tryz.prog,tyOf tys,80,gOf [(98,[],q10V),(218,[],q19V)],false,[],[]⟩
def q24i1:List PE := [⟨1,16,.box ty_10 false,false⟩,⟨3,32,.val ty_0 false,false⟩,⟨4,48,.val .bool false,false⟩,⟨36,64,.val ty_8 false,false⟩,⟨37,80,.val ty_0 false,false⟩,⟨38,96,.val ty_0 false,false⟩]
def q24o1:List PE := [⟨4,16,.val .bool false,false⟩]
noncomputable def q24f1(k:Nat)(n:Nat)(x6:PTe q24i1):=spec_bxGood_L250 k n x6.1 x6.2.1 x6.2.2.1 x6.2.2.2.1 x6.2.2.2.2.1 x6.2.2.2.2.2.1
def q24p:List PE := [e28]
noncomputable def q24F(k:Nat):F3:=⟨q24C k,rr q24p [(.bool,false)] Tryz.f208,fun p=>bif Nat.beq p 250 then some (.loop q24i1 q24o1 0 112 (q24f1 k k))else none,0,[]⟩
theorem q24K(k:Nat):Contract Tryz.prog 208 (q24V k):=ctr (q24C k) (rs := [(.bool,false)]) (ps:=q24p) (q24F k) Tryz.f208 16 ⟨tyOf_ok tys_ok,gOf_ok ⟨q10K,q19K,trivial⟩⟩ (annl [250] ⟨lok q24i1 q24o1 0 112 (q24f1 k) k,trivial⟩)

noncomputable def q25V(k:Nat):Variant:=⟨[.val ty_0 false,.val ty_8 false,.val ty_8 false],[(ty_10,true),(.bool,false)],fun x=>spec_bxMake k x.1 x.2.1 x.2.2.1⟩
noncomputable def q25C(k:Nat):Cfg:=⟨Tryz.prog,tyOf tys,53,gOf [(238,[],q22V),(333,[],q23V k),(208,[],q24V k)],false,[],[]⟩
def q25i1:List PE := [e29,e30,⟨29,80,.val ty_0 false,false⟩,⟨30,96,.val ty_0 false,false⟩]
def q25o1:List PE := [e29,e30]
noncomputable def q25f1(k:Nat)(n:Nat)(x4:PTe q25i1):=spec_bxMake_L1814 k n x4.1 x4.2.1 x4.2.2.1 x4.2.2.2.1
def q25i2:List PE := [e29,e30]
def q25o2:List PE := [e29,e30]
noncomputable def q25f2(k:Nat)(n:Nat)(x7:PTe q25i2):=spec_bxMake_L28 k n x7.1 x7.2.1
def q25p:List PE := [e9,e4,⟨2,32,.val ty_8 false,false⟩]
noncomputable def q25F(k:Nat):Fn ((Int×(List Int)×List Int)×Bool):=⟨q25C k,rr q25p [(ty_10,true),(.bool,false)] Tryz.f278,fun p=>bif Nat.beq p 1814 then some (.loop q25i1 q25o1 2 112 (q25f1 k k))else bif Nat.beq p 28 then some (.loop q25i2 q25o2 0 80 (q25f2 k k))else none,0,[]⟩
theorem q25K(k:Nat):Contract Tryz.prog 278 (q25V k):=ctr (q25C k) (rs := [(ty_10,true),(.bool,false)]) (ps:=q25p) (q25F k) Tryz.f278 48 ⟨tyOf_ok tys_ok,gOf_ok ⟨q22K,q23K k,q24K k,trivial⟩⟩ (annl [28,1814] ⟨lok q25i2 q25o2 0 80 (q25f2 k) k,lok q25i1 q25o1 2 112 (q25f1 k) k,trivial⟩)

noncomputable def q26V(k:Nat):Variant:=⟨[.ptr ty_3 true,.val ty_0 false],[(ty_10,true)],fun x=>spec_l1Cur_box k KSl.xs x.1 x.2.1⟩
noncomputable def q26C(k:Nat):Cfg:=⟨Tryz.prog,tyOf tys,98,gOf [(70,[],q4V),(218,[],q19V),(129,[],q2V),(292,[],q20V),(183,[],q21V),(278,[],q25V k)],false,[],[]⟩
def q26i1:List PE := [e1,e7,e31,e13,e8,e32,⟨8,112,.eat ty_0,false⟩]
def q26o1:List PE := [e7,e31,e13,e33,e34,e1]
noncomputable def q26f1(k:Nat)(n:Nat)(x16:PTe q26i1):=spec_l1Cur_box_L124 k KSl.xs n x16.1 x16.2.1 x16.2.2.1 x16.2.2.2.1 x16.2.2.2.2.1 x16.2.2.2.2.2.1 x16.2.2.2.2.2.2.1
def q26i2:List PE := [e7,e31,⟨13,64,.eat ty_0,false⟩,⟨14,80,.eat ty_0,false⟩,e1]
def q26o2:List PE := [⟨4,32,.box ty_10 true,false⟩,⟨13,48,.eat ty_0,false⟩,⟨14,64,.eat ty_0,false⟩,e1]
noncomputable def q26f2(k:Nat)(n:Nat)(x20:PTe q26i2):=spec_l1Cur_box_L8148 k KSl.xs n x20.1 x20.2.1 x20.2.2.1 x20.2.2.2.1 x20.2.2.2.2.1
def q26p:List PE := [e1,e3]
noncomputable def q26F(k:Nat):F8:=⟨q26C k,rr q26p [(ty_10,true)] Tryz.f291,fun p=>bif Nat.beq p 124 then some (.loop q26i1 q26o1 0 128 (q26f1 k k))else bif Nat.beq p 8148 then some (.loop q26i2 q26o2 2 96 (q26f2 k k))else none,0,[0]⟩
theorem q26K(k:Nat):Contract Tryz.prog 291 (q26V k):=ctr (q26C k) (rs := [(ty_10,true)]) (ps:=q26p) (q26F k) Tryz.f291 32 ⟨tyOf_ok tys_ok,gOf_ok ⟨q4K,q19K,q2K,q20K,q21K,q25K k,trivial⟩⟩ (annl [124,8148] ⟨lok q26i1 q26o1 0 128 (q26f1 k) k,lok q26i2 q26o2 2 96 (q26f2 k) k,trivial⟩)

noncomputable def q27V(k:Nat):Variant:=⟨[.ptr ty_3 true,.val ty_0 false],[(ty_10,true)],fun x=>spec_l1Cur_anyBox k KSl.xs x.1 x.2.1⟩
noncomputable def q27C(k:Nat):Cfg:=⟨Tryz.prog,tyOf tys,65,gOf [(291,[],q26V k),(129,[],q2V),(70,[],q4V),(292,[],q20V),(183,[],q21V),(218,[],q19V)],true,[],[]⟩
def q27p:List PE := [e1,e3]
noncomputable def q27F(k:Nat):F8:=⟨q27C k,rr q27p [(ty_10,true)] Tryz.f210,fun p=>none,0,[0]⟩
theorem q27K(k:Nat):Contract Tryz.prog 210 (q27V k):=ctr (q27C k) (rs := [(ty_10,true)]) (ps:=q27p) (q27F k) Tryz.f210 32 ⟨tyOf_ok tys_ok,gOf_ok ⟨q26K k,q2K,q4K,q20K,q21K,q19K,trivial⟩⟩ (annl [] trivial)

noncomputable def q28V(k:Nat):Variant:=⟨[.ptr ty_3 true,.val ty_0 false],[(ty_10,true)],fun x=>spec_l1Cur_coarse k KSl.xs x.1 x.2.1⟩
noncomputable def q28C(k:Nat):Cfg:=⟨Tryz.prog,tyOf tys,82,gOf [(70,[],q4V),(218,[],q19V),(129,[],q2V),(292,[],q20V),(183,[],q21V),(278,[],q25V k),(291,[],q26V k)],false,[],[]⟩
def q28i1:List PE := [e1,e7,e31,e13,e8,e32,⟨8,112,.eat ty_0,false⟩]
def q28o1:List PE := [e1,e7,e31,e13,e33,e34]
noncomputable def q28f1(k:Nat)(n:Nat)(x14:PTe q28i1):=spec_l1Cur_coarse_L124 k KSl.xs n x14.1 x14.2.1 x14.2.2.1 x14.2.2.2.1 x14.2.2.2.2.1 x14.2.2.2.2.2.1 x14.2.2.2.2.2.2.1
def q28p:List PE := [e1,e3]
noncomputable def q28F(k:Nat):F8:=⟨q28C k,rr q28p [(ty_10,true)] Tryz.f212,fun p=>bif Nat.beq p 124 then some (.loop q28i1 q28o1 0 128 (q28f1 k k))else none,0,[0]⟩
theorem q28K(k:Nat):Contract Tryz.prog 212 (q28V k):=ctr (q28C k) (rs := [(ty_10,true)]) (ps:=q28p) (q28F k) Tryz.f212 32 ⟨tyOf_ok tys_ok,gOf_ok ⟨q4K,q19K,q2K,q20K,q21K,q25K k,q26K k,trivial⟩⟩ (annl [124] ⟨lok q28i1 q28o1 0 128 (q28f1 k) k,trivial⟩)

noncomputable def q29V(k:Nat):Variant:=⟨[.ptr ty_3 true],[(ty_11,false),(ty_10,true)],fun x=>spec_l1Cur_cubeSystem k KSl.xs x.1⟩
noncomputable def q29C(k:Nat):Cfg:=⟨Tryz.prog,tyOf tys,119,gOf [(91,[],q3V),(209,[],q18V k),(210,[],q27V k),(70,[],q4V),(129,[],q2V),(211,[],q14V k),(212,[],q28V k)],false,[],[]⟩
def q29i1:List PE := [e1,e35,⟨4,32,.eat ty_6,false⟩,e22,⟨42,64,.val ty_8 false,false⟩,⟨43,80,.val ty_0 false,false⟩,⟨44,96,.val ty_0 false,false⟩]
def q29o1:List PE := [e1,e35,e23]
noncomputable def q29f1(k:Nat)(n:Nat)(x15:PTe q29i1):=spec_l1Cur_cubeSystem_L506 k KSl.xs n x15.1 x15.2.1 x15.2.2.1 x15.2.2.2.1 x15.2.2.2.2.1 x15.2.2.2.2.2.1 x15.2.2.2.2.2.2.1
def q29p:List PE := [e1]
noncomputable def q29F(k:Nat):Fn ((List (List (Int×Int×Int×Int)))×(Int×(List Int)×List Int)×Unit×Int×Int):=⟨q29C k,rr q29p [(ty_11,false),(ty_10,true)] Tryz.f115,fun p=>bif Nat.beq p 129638 then some (.cut [e1,e35,⟨4,32,.eat ty_6,false⟩,e22,⟨9,64,.eat ty_6,false⟩,⟨42,80,.val ty_8 false,false⟩,⟨43,96,.val ty_0 false,false⟩,⟨44,112,.val ty_0 false,false⟩] 128)else bif Nat.beq p 506 then some (.loop q29i1 q29o1 0 112 (q29f1 k k))else bif Nat.beq p 254 then some (.cut [e1,e35,e23] 48)else none,0,[0]⟩
theorem q29K(k:Nat):Contract Tryz.prog 115 (q29V k):=ctr (q29C k) (rs := [(ty_11,false),(ty_10,true)]) (ps:=q29p) (q29F k) Tryz.f115 16 ⟨tyOf_ok tys_ok,gOf_ok ⟨q3K,q18K k,q27K k,q4K,q2K,q14K k,q28K k,trivial⟩⟩ (annl [506] ⟨lok q29i1 q29o1 0 112 (q29f1 k) k,trivial⟩)

noncomputable def q30V:Variant:=⟨[.ptr ty_3 true],[(ty_0,false)],fun x=>spec_l1Cur_cellDepth KSl.xs x.1⟩
noncomputable def q30C:Cfg:=⟨Tryz.prog,tyOf tys,9,gOf [(70,[],q4V)],false,[],[]⟩
def q30p:List PE := [e1]
noncomputable def q30F:F1:=⟨q30C,rr q30p [(ty_0,false)] Tryz.f116,fun p=>none,0,[0]⟩
theorem q30K:Contract Tryz.prog 116 (q30V):=ctr q30C (rs := [(ty_0,false)]) (ps:=q30p) q30F Tryz.f116 16 ⟨tyOf_ok tys_ok,gOf_ok ⟨q4K,trivial⟩⟩ (annl [] trivial)

noncomputable def q31V(k:Nat):Variant:=⟨[.val (.sl (.int .u8)) false],[(ty_11,false),(ty_10,true),(ty_0,false)],fun x=>spec_DrawSurfaceLabels k x.1⟩
noncomputable def spec_DrawSurfaceLabels_V0(k:Nat):Variant:=⟨[.val .ks false],[(ty_11,false),(ty_10,true),(ty_0,false)],fun _=>spec_DrawSurfaceLabels k KSl.xs⟩
noncomputable def q31C(k:Nat):Cfg:=⟨Tryz.prog,tyOf tys,20,gOf [(115,[],q29V k),(116,[],q30V)],false,[],[]⟩
def q31p:List PE := [⟨0,0,.val .ks false,false⟩]
noncomputable def q31F(k:Nat):Fn ((List (List (Int×Int×Int×Int)))×(Int×(List Int)×List Int)×Int):=⟨q31C k,rr q31p [(ty_11,false),(ty_10,true),(ty_0,false)] Tryz.f44,fun p=>none,0,[]⟩
theorem spec_DrawSurfaceLabels_K0(k:Nat):Contract Tryz.prog 44 (spec_DrawSurfaceLabels_V0 k):=ctr (q31C k) (rs := [(ty_11,false),(ty_10,true),(ty_0,false)]) (ps:=q31p) (q31F k) Tryz.f44 16 ⟨tyOf_ok tys_ok,gOf_ok ⟨q29K k,q30K,trivial⟩⟩ (annl [] trivial)
theorem q31K(k:Nat):Contract Tryz.prog 44 (q31V k):=contractDraw (by kernel_rfl) (fun kk => @spec_DrawSurfaceLabels_K0 kk k)

noncomputable def q32V:Variant:=⟨[.val ty_0 false,.val ty_0 false,.val ty_0 false],[(.bool,false)],fun x=>impl_inside x.1 x.2.1 x.2.2.1⟩
noncomputable def q32C:Cfg:=⟨Tryz.prog,tyOf tys,15,gOf [],false,[],[]⟩
def q32p:List PE := [e9,e3,e6]
noncomputable def q32F:F3:=⟨q32C,rr q32p [(.bool,false)] Tryz.f118,fun p=>none,0,[]⟩
theorem q32K:Contract Tryz.prog 118 (q32V):=ctr q32C (rs := [(.bool,false)]) (ps:=q32p) q32F Tryz.f118 48 ⟨tyOf_ok tys_ok,gOf_ok trivial⟩ (annl [] trivial)

noncomputable def q33V:Variant:=⟨[.val ty_6 true],[(ty_0,false)],fun x=>impl_Term_degree x.1⟩
noncomputable def q33C:Cfg:=⟨Tryz.prog,tyOf tys,11,gOf [],false,[],[]⟩
def q33p:List PE := [e5]
noncomputable def q33F:F2:=⟨q33C,rr q33p [(ty_0,false)] Tryz.f336,fun p=>none,0,[]⟩
theorem q33K:Contract Tryz.prog 336 (q33V):=ctr q33C (rs := [(ty_0,false)]) (ps:=q33p) q33F Tryz.f336 16 ⟨tyOf_ok tys_ok,gOf_ok trivial⟩ (annl [] trivial)

noncomputable def q34V:Variant:=⟨[.val ty_6 true],[(.bool,false)],fun x=>impl_hasDegree x.1⟩
noncomputable def q34C:Cfg:=⟨Tryz.prog,tyOf tys,21,gOf [(118,[],q32V),(336,[],q33V)],false,[],[]⟩
def q34p:List PE := [e5]
noncomputable def q34F:F3:=⟨q34C,rr q34p [(.bool,false)] Tryz.f341,fun p=>none,0,[]⟩
theorem q34K:Contract Tryz.prog 341 (q34V):=ctr q34C (rs := [(.bool,false)]) (ps:=q34p) q34F Tryz.f341 16 ⟨tyOf_ok tys_ok,gOf_ok ⟨q32K,q33K,trivial⟩⟩ (annl [] trivial)

noncomputable def q35V:Variant:=⟨[.val ty_0 false],[(.bool,false)],fun x=>cmp_isNaN_int x.1⟩
noncomputable def q35C:Cfg:=⟨Tryz.prog,tyOf tys,6,gOf [],false,[],[]⟩
def q35p:List PE := [e9]
noncomputable def q35F:F3:=⟨q35C,rr q35p [(.bool,false)] Tryz.f368,fun p=>none,0,[]⟩
theorem q35K:Contract Tryz.prog 368 (q35V):=ctr q35C (rs := [(.bool,false)]) (ps:=q35p) q35F Tryz.f368 16 ⟨tyOf_ok tys_ok,gOf_ok trivial⟩ (annl [] trivial)

noncomputable def q36V:Variant:=⟨[.val ty_0 false,.val ty_0 false],[(ty_0,false)],fun x=>cmp_Compare_int x.1 x.2.1⟩
noncomputable def q36C:Cfg:=⟨Tryz.prog,tyOf tys,20,gOf [(368,[],q35V)],false,[],[]⟩
def q36p:List PE := [e9,e3]
noncomputable def q36F:F2:=⟨q36C,rr q36p [(ty_0,false)] Tryz.f358,fun p=>none,0,[]⟩
theorem q36K:Contract Tryz.prog 358 (q36V):=ctr q36C (rs := [(ty_0,false)]) (ps:=q36p) q36F Tryz.f358 32 ⟨tyOf_ok tys_ok,gOf_ok ⟨q35K,trivial⟩⟩ (annl [] trivial)

noncomputable def q37V(k:Nat):Variant:=⟨[.val ty_8 false],[(ty_0,false)],fun x=>cmp_Or_int k x.1⟩
noncomputable def q37C(k:Nat):Cfg:=⟨Tryz.prog,tyOf tys,18,gOf [],false,[],[]⟩
def q37i1:List PE := [e2,⟨6,32,.val ty_8 false,false⟩,e26,e27]
def q37o1:List PE := [e2]
noncomputable def q37f1(k:Nat)(n:Nat)(x1:PTe q37i1):=cmp_Or_int_L58 k n x1.1 x1.2.1 x1.2.2.1 x1.2.2.2.1
def q37p:List PE := [e25]
noncomputable def q37F(k:Nat):F2:=⟨q37C k,rr q37p [(ty_0,false)] Tryz.f327,fun p=>bif Nat.beq p 58 then some (.loop q37i1 q37o1 0 80 (q37f1 k k))else none,0,[]⟩
theorem q37K(k:Nat):Contract Tryz.prog 327 (q37V k):=ctr (q37C k) (rs := [(ty_0,false)]) (ps:=q37p) (q37F k) Tryz.f327 16 ⟨tyOf_ok tys_ok,gOf_ok trivial⟩ (annl [58] ⟨lok q37i1 q37o1 0 80 (q37f1 k) k,trivial⟩)

noncomputable def q38V(k:Nat):Variant:=⟨[.val ty_6 true,.val ty_6 true],[(ty_0,false)],fun x=>impl_compareTerms k x.1 x.2.1⟩
noncomputable def q38C(k:Nat):Cfg:=⟨Tryz.prog,tyOf tys,22,gOf [(358,[],q36V),(327,[],q37V k)],false,[],[]⟩
def q38p:List PE := [e5,e10]
noncomputable def q38F(k:Nat):F2:=⟨q38C k,rr q38p [(ty_0,false)] Tryz.f342,fun p=>none,0,[]⟩
theorem q38K(k:Nat):Contract Tryz.prog 342 (q38V k):=ctr (q38C k) (rs := [(ty_0,false)]) (ps:=q38p) (q38F k) Tryz.f342 32 ⟨tyOf_ok tys_ok,gOf_ok ⟨q36K,q37K k,trivial⟩⟩ (annl [] trivial)

noncomputable def q39V(k:Nat):Variant:=⟨[.val ty_7 false],[(.bool,false)],fun x=>impl_isPoly k x.1⟩
noncomputable def q39C(k:Nat):Cfg:=⟨Tryz.prog,tyOf tys,44,gOf [(118,[],q32V),(341,[],q34V),(342,[],q38V k)],false,[],[]⟩
def q39i1:List PE := [e15,⟨5,32,.val ty_7 false,false⟩,e16,e17]
def q39o1:List PE := [e15]
noncomputable def q39f1(k:Nat)(n:Nat)(x4:PTe q39i1):=impl_isPoly_L26 k n x4.1 x4.2.1 x4.2.2.1 x4.2.2.2.1
def q39p:List PE := [e14]
noncomputable def q39F(k:Nat):F3:=⟨q39C k,rr q39p [(.bool,false)] Tryz.f294,fun p=>bif Nat.beq p 26 then some (.loop q39i1 q39o1 0 80 (q39f1 k k))else none,0,[]⟩
theorem q39K(k:Nat):Contract Tryz.prog 294 (q39V k):=ctr (q39C k) (rs := [(.bool,false)]) (ps:=q39p) (q39F k) Tryz.f294 16 ⟨tyOf_ok tys_ok,gOf_ok ⟨q32K,q34K,q38K k,trivial⟩⟩ (annl [26] ⟨lok q39i1 q39o1 0 80 (q39f1 k) k,trivial⟩)

noncomputable def q40V:Variant:=⟨[.val ty_6 true],[(ty_5,true)],fun x=>impl_Term_exponents x.1⟩
noncomputable def q40C:Cfg:=⟨Tryz.prog,tyOf tys,10,gOf [],false,[],[]⟩
def q40p:List PE := [e5]
noncomputable def q40F:Fn (Int×Int×Int):=⟨q40C,rr q40p [(ty_5,true)] Tryz.f306,fun p=>none,0,[]⟩
theorem q40K:Contract Tryz.prog 306 (q40V):=ctr q40C (rs := [(ty_5,true)]) (ps:=q40p) q40F Tryz.f306 16 ⟨tyOf_ok tys_ok,gOf_ok trivial⟩ (annl [] trivial)

noncomputable def q41V(k:Nat):Variant:=⟨[.val ty_7 false,.val ty_0 false],[(.bool,false)],fun x=>impl_needsAtMost k x.1 x.2.1⟩
noncomputable def q41C(k:Nat):Cfg:=⟨Tryz.prog,tyOf tys,30,gOf [(306,[],q40V)],false,[],[]⟩
def q41i1:List PE := [e7,e36,e37,e38,⟨16,96,.val ty_5 true,false⟩,e39]
def q41o1:List PE := [e7,e36,e37,e38]
noncomputable def q41f1(k:Nat)(n:Nat)(x2:PTe q41i1):=impl_needsAtMost_L6758 k n x2.1 x2.2.1 x2.2.2.1 x2.2.2.2.1 x2.2.2.2.2.1 x2.2.2.2.2.2.1
def q41i2:List PE := [e7,e36,e37,e38]
def q41o2:List PE := []
noncomputable def q41f2(k:Nat)(n:Nat)(x5:PTe q41i2):=impl_needsAtMost_L26 k n x5.1 x5.2.1 x5.2.2.1 x5.2.2.2.1
def q41p:List PE := [e14,e3]
noncomputable def q41F(k:Nat):F3:=⟨q41C k,rr q41p [(.bool,false)] Tryz.f295,fun p=>bif Nat.beq p 6758 then some (.loop q41i1 q41o1 2 128 (q41f1 k k))else bif Nat.beq p 26 then some (.loop q41i2 q41o2 0 96 (q41f2 k k))else none,0,[]⟩
theorem q41K(k:Nat):Contract Tryz.prog 295 (q41V k):=ctr (q41C k) (rs := [(.bool,false)]) (ps:=q41p) (q41F k) Tryz.f295 32 ⟨tyOf_ok tys_ok,gOf_ok ⟨q40K,trivial⟩⟩ (annl [26,6758] ⟨lok q41i2 q41o2 0 96 (q41f2 k) k,lok q41i1 q41o1 2 128 (q41f1 k) k,trivial⟩)

noncomputable def q42V(k:Nat):Variant:=⟨[.val ty_11 false],[(.bool,false)],fun x=>impl_isSystem k x.1⟩
noncomputable def q42C(k:Nat):Cfg:=⟨Tryz.prog,tyOf tys,25,gOf [(294,[],q39V k),(295,[],q41V k),(118,[],q32V)],false,[],[]⟩
def q42i1:List PE := [e40,⟨5,32,.val ty_11 false,false⟩,e16,e17]
def q42o1:List PE := [e40]
noncomputable def q42f1(k:Nat)(n:Nat)(x3:PTe q42i1):=impl_isSystem_L26 k n x3.1 x3.2.1 x3.2.2.1 x3.2.2.2.1
def q42p:List PE := [e41]
noncomputable def q42F(k:Nat):F3:=⟨q42C k,rr q42p [(.bool,false)] Tryz.f213,fun p=>bif Nat.beq p 26 then some (.loop q42i1 q42o1 0 80 (q42f1 k k))else none,0,[]⟩
theorem q42K(k:Nat):Contract Tryz.prog 213 (q42V k):=ctr (q42C k) (rs := [(.bool,false)]) (ps:=q42p) (q42F k) Tryz.f213 16 ⟨tyOf_ok tys_ok,gOf_ok ⟨q39K k,q41K k,q32K,trivial⟩⟩ (annl [26] ⟨lok q42i1 q42o1 0 80 (q42f1 k) k,trivial⟩)

noncomputable def q43V(k:Nat):Variant:=⟨[.ptr ty_10 false],[(.bool,false)],fun x=>impl_isBox k x.1⟩
noncomputable def q43C(k:Nat):Cfg:=⟨Tryz.prog,tyOf tys,94,gOf [(118,[],q32V)],false,[],[]⟩
def q43i1:List PE := [⟨0,16,.ptr ty_10 false,false⟩,⟨3,32,.val ty_0 false,false⟩,⟨4,48,.val .bool false,false⟩,⟨48,64,.val ty_8 false,false⟩,⟨49,80,.val ty_0 false,false⟩,⟨50,96,.val ty_0 false,false⟩]
def q43o1:List PE := [⟨4,16,.val .bool false,false⟩]
noncomputable def q43f1(k:Nat)(n:Nat)(x5:PTe q43i1):=impl_isBox_L122 k n x5.1 x5.2.1 x5.2.2.1 x5.2.2.2.1 x5.2.2.2.2.1 x5.2.2.2.2.2.1
def q43p:List PE := [e42]
noncomputable def q43F(k:Nat):F3:=⟨q43C k,rr q43p [(.bool,false)] Tryz.f280,fun p=>bif Nat.beq p 122 then some (.loop q43i1 q43o1 0 112 (q43f1 k k))else none,0,[]⟩
theorem q43K(k:Nat):Contract Tryz.prog 280 (q43V k):=ctr (q43C k) (rs := [(.bool,false)]) (ps:=q43p) (q43F k) Tryz.f280 16 ⟨tyOf_ok tys_ok,gOf_ok ⟨q32K,trivial⟩⟩ (annl [122] ⟨lok q43i1 q43o1 0 112 (q43f1 k) k,trivial⟩)

noncomputable def q44V(k:Nat):Variant:=⟨[.ptr ty_10 false],[(.bool,false)],fun x=>impl_isCubeBox k x.1⟩
noncomputable def q44C(k:Nat):Cfg:=⟨Tryz.prog,tyOf tys,20,gOf [(280,[],q43V k)],false,[],[]⟩
def q44p:List PE := [e42]
noncomputable def q44F(k:Nat):F3:=⟨q44C k,rr q44p [(.bool,false)] Tryz.f214,fun p=>none,0,[]⟩
theorem q44K(k:Nat):Contract Tryz.prog 214 (q44V k):=ctr (q44C k) (rs := [(.bool,false)]) (ps:=q44p) (q44F k) Tryz.f214 16 ⟨tyOf_ok tys_ok,gOf_ok ⟨q43K k,trivial⟩⟩ (annl [] trivial)

noncomputable def q45V(k:Nat):Variant:=⟨[.val ty_11 false,.ptr ty_10 false],[(.bool,false)],fun x=>impl_isCube k x.1 x.2.1⟩
noncomputable def q45C(k:Nat):Cfg:=⟨Tryz.prog,tyOf tys,16,gOf [(213,[],q42V k),(214,[],q44V k)],false,[],[]⟩
def q45p:List PE := [e41,e43]
noncomputable def q45F(k:Nat):F3:=⟨q45C k,rr q45p [(.bool,false)] Tryz.f117,fun p=>none,0,[]⟩
theorem q45K(k:Nat):Contract Tryz.prog 117 (q45V k):=ctr (q45C k) (rs := [(.bool,false)]) (ps:=q45p) (q45F k) Tryz.f117 32 ⟨tyOf_ok tys_ok,gOf_ok ⟨q42K k,q44K k,trivial⟩⟩ (annl [] trivial)

noncomputable def q46V(k:Nat):Variant:=⟨[.val ty_0 false],[(ty_19,false)],fun x=>impl_surfaceCells k x.1⟩
noncomputable def q46C(k:Nat):Cfg:=⟨Tryz.prog,tyOf tys,41,gOf [],false,[],[]⟩
def q46i1:List PE := [e44,e45,e46,e47,e20,e48,⟨12,112,.eat .bool,false⟩,e49,⟨14,144,.val ty_0 false,false⟩,⟨19,160,.val ty_0 false,false⟩,⟨20,176,.val ty_0 false,false⟩,⟨24,192,.val ty_0 false,false⟩,⟨25,208,.val ty_0 false,false⟩]
def q46o1:List PE := [e44,e45,e46,e47,e50,⟨12,96,.eat .bool,false⟩,⟨13,112,.val ty_0 false,false⟩,e51,e52,⟨20,160,.val ty_0 false,false⟩]
noncomputable def q46f1(k:Nat)(n:Nat)(x1:PTe q46i1):=impl_surfaceCells_L979789414 k n x1.1 x1.2.1 x1.2.2.1 x1.2.2.2.1 x1.2.2.2.2.1 x1.2.2.2.2.2.1 x1.2.2.2.2.2.2.1 x1.2.2.2.2.2.2.2.1 x1.2.2.2.2.2.2.2.2.1 x1.2.2.2.2.2.2.2.2.2.1 x1.2.2.2.2.2.2.2.2.2.2.1 x1.2.2.2.2.2.2.2.2.2.2.2.1 x1.2.2.2.2.2.2.2.2.2.2.2.2.1
def q46i2:List PE := [e44,e45,e46,e47,e50,⟨12,96,.eat .bool,false⟩,⟨13,112,.val ty_0 false,false⟩,e51,e52,⟨20,160,.val ty_0 false,false⟩]
def q46o2:List PE := [e44,e45,e46,e18,⟨12,80,.eat .bool,false⟩,⟨13,96,.val ty_0 false,false⟩,⟨14,112,.val ty_0 false,false⟩]
noncomputable def q46f2(k:Nat)(n:Nat)(x4:PTe q46i2):=impl_surfaceCells_L3827302 k n x4.1 x4.2.1 x4.2.2.1 x4.2.2.2.1 x4.2.2.2.2.1 x4.2.2.2.2.2.1 x4.2.2.2.2.2.2.1 x4.2.2.2.2.2.2.2.1 x4.2.2.2.2.2.2.2.2.1 x4.2.2.2.2.2.2.2.2.2.1
def q46i3:List PE := [e44,e45,e46,e18,⟨12,80,.eat .bool,false⟩,⟨13,96,.val ty_0 false,false⟩,⟨14,112,.val ty_0 false,false⟩]
def q46o3:List PE := [e44,e45,⟨9,48,.val ty_0 false,false⟩]
noncomputable def q46f3(k:Nat)(n:Nat)(x7:PTe q46i3):=impl_surfaceCells_L14950 k n x7.1 x7.2.1 x7.2.2.1 x7.2.2.2.1 x7.2.2.2.2.1 x7.2.2.2.2.2.1 x7.2.2.2.2.2.2.1
def q46i4:List PE := [e44,e45,⟨9,48,.val ty_0 false,false⟩]
def q46o4:List PE := [e53]
noncomputable def q46f4(k:Nat)(n:Nat)(x10:PTe q46i4):=impl_surfaceCells_L58 k n x10.1 x10.2.1 x10.2.2.1
def q46p:List PE := [e9]
noncomputable def q46F(k:Nat):Fn (List (Int×Bool×Int×Int)):=⟨q46C k,rr q46p [(ty_19,false)] Tryz.f126,fun p=>bif Nat.beq p 979789414 then some (.loop q46i1 q46o1 6 224 (q46f1 k k))else bif Nat.beq p 3827302 then some (.loop q46i2 q46o2 4 176 (q46f2 k k))else bif Nat.beq p 14950 then some (.loop q46i3 q46o3 2 128 (q46f3 k k))else bif Nat.beq p 58 then some (.loop q46i4 q46o4 0 64 (q46f4 k k))else none,0,[]⟩
theorem q46K(k:Nat):Contract Tryz.prog 126 (q46V k):=ctr (q46C k) (rs := [(ty_19,false)]) (ps:=q46p) (q46F k) Tryz.f126 16 ⟨tyOf_ok tys_ok,gOf_ok trivial⟩ (annl [58,14950,3827302,979789414] ⟨lok q46i4 q46o4 0 64 (q46f4 k) k,lok q46i3 q46o3 2 128 (q46f3 k) k,lok q46i2 q46o2 4 176 (q46f2 k) k,lok q46i1 q46o1 6 224 (q46f1 k) k,trivial⟩)

noncomputable def q47V:Variant:=⟨[.val ty_13 true,.val ty_0 false],[(ty_5,true),(ty_4,true)],fun x=>impl_Cell_lowest x.1 x.2.1⟩
noncomputable def q47C:Cfg:=⟨Tryz.prog,tyOf tys,37,gOf [],false,[],[]⟩
def q47p:List PE := [e54,e3]
noncomputable def q47F:Fn ((Int×Int×Int)×Int×Int):=⟨q47C,rr q47p [(ty_5,true),(ty_4,true)] Tryz.f228,fun p=>bif Nat.beq p 62 then some (.cut [⟨2,32,.box ty_13 false,false⟩,⟨4,48,.box ty_5 false,false⟩,⟨5,64,.box ty_4 false,false⟩,⟨6,80,.box ty_4 false,false⟩,⟨7,96,.box ty_5 false,false⟩] 112)else bif Nat.beq p 14 then some (.cut [e7,e55,⟨4,64,.box ty_5 false,false⟩,⟨5,80,.box ty_4 false,false⟩,⟨6,96,.box ty_4 false,false⟩] 112)else none,0,[]⟩
theorem q47K:Contract Tryz.prog 228 (q47V):=ctr q47C (rs := [(ty_5,true),(ty_4,true)]) (ps:=q47p) q47F Tryz.f228 32 ⟨tyOf_ok tys_ok,gOf_ok trivial⟩ (annl [] trivial)

noncomputable def q48V:Variant:=⟨[.ptr ty_10 false,.val ty_0 false],[(ty_0,false)],fun x=>impl_Box_length x.1 x.2.1⟩
noncomputable def q48C:Cfg:=⟨Tryz.prog,tyOf tys,20,gOf [],false,[],[]⟩
def q48p:List PE := [e42,e3]
noncomputable def q48F:F2:=⟨q48C,rr q48p [(ty_0,false)] Tryz.f229,fun p=>none,0,[]⟩
theorem q48K:Contract Tryz.prog 229 (q48V):=ctr q48C (rs := [(ty_0,false)]) (ps:=q48p) q48F Tryz.f229 32 ⟨tyOf_ok tys_ok,gOf_ok trivial⟩ (annl [] trivial)

noncomputable def q49V:Variant:=⟨[.val ty_0 false],[(ty_1,false)],fun x=>impl_size x.1⟩
noncomputable def q49C:Cfg:=⟨Tryz.prog,tyOf tys,10,gOf [],false,[],[]⟩
def q49p:List PE := [e9]
noncomputable def q49F:F2:=⟨q49C,rr q49p [(ty_1,false)] Tryz.f272,fun p=>none,0,[]⟩
theorem q49K:Contract Tryz.prog 272 (q49V):=ctr q49C (rs := [(ty_1,false)]) (ps:=q49p) q49F Tryz.f272 16 ⟨tyOf_ok tys_ok,gOf_ok trivial⟩ (annl [] trivial)

noncomputable def q50V:Variant:=⟨[.val ty_0 false],[(ty_15,true)],fun x=>impl_wideOf x.1⟩
noncomputable def q50C:Cfg:=⟨Tryz.prog,tyOf tys,8,gOf [(272,[],q49V)],false,[],[]⟩
def q50p:List PE := [e9]
noncomputable def q50F:F9:=⟨q50C,rr q50p [(ty_15,true)] Tryz.f230,fun p=>none,0,[]⟩
theorem q50K:Contract Tryz.prog 230 (q50V):=ctr q50C (rs := [(ty_15,true)]) (ps:=q50p) q50F Tryz.f230 16 ⟨tyOf_ok tys_ok,gOf_ok ⟨q49K,trivial⟩⟩ (annl [] trivial)

noncomputable def q51V:Variant:=⟨[.val ty_15 true],[(.bool,false)],fun x=>impl_wide_isZero x.1⟩
noncomputable def q51C:Cfg:=⟨Tryz.prog,tyOf tys,11,gOf [],false,[],[]⟩
def q51p:List PE := [e56]
noncomputable def q51F:F3:=⟨q51C,rr q51p [(.bool,false)] Tryz.f307,fun p=>none,0,[]⟩
theorem q51K:Contract Tryz.prog 307 (q51V):=ctr q51C (rs := [(.bool,false)]) (ps:=q51p) q51F Tryz.f307 16 ⟨tyOf_ok tys_ok,gOf_ok trivial⟩ (annl [] trivial)

noncomputable def q52V:Variant:=⟨[.val ty_15 true,.val ty_0 false],[(ty_15,true)],fun x=>impl_wide_shift x.1 x.2.1⟩
noncomputable def q52C:Cfg:=⟨Tryz.prog,tyOf tys,63,gOf [],false,[],[]⟩
def q52p:List PE := [e56,e3]
noncomputable def q52F:F9:=⟨q52C,rr q52p [(ty_15,true)] Tryz.f264,fun p=>none,0,[]⟩
theorem q52K:Contract Tryz.prog 264 (q52V):=ctr q52C (rs := [(ty_15,true)]) (ps:=q52p) q52F Tryz.f264 32 ⟨tyOf_ok tys_ok,gOf_ok trivial⟩ (annl [] trivial)

noncomputable def q53V(k:Nat):Variant:=⟨[.val ty_15 true,.val ty_0 false],[(ty_4,true),(.bool,false)],fun x=>impl_wide_fit k x.1 x.2.1⟩
noncomputable def q53C(k:Nat):Cfg:=⟨Tryz.prog,tyOf tys,45,gOf [(307,[],q51V),(264,[],q52V)],false,[],[]⟩
def q53i1:List PE := [e7,⟨2,48,.box ty_15 false,false⟩,e57]
def q53o1:List PE := [e7,⟨2,48,.box ty_15 false,false⟩,e57]
noncomputable def q53f1(k:Nat)(n:Nat)(x3:PTe q53i1):=impl_wide_fit_L28 k n x3.1 x3.2.1 x3.2.2.1
def q53p:List PE := [e56,e3]
noncomputable def q53F(k:Nat):F10:=⟨q53C k,rr q53p [(ty_4,true),(.bool,false)] Tryz.f231,fun p=>bif Nat.beq p 28 then some (.loop q53i1 q53o1 0 80 (q53f1 k k))else none,0,[]⟩
theorem q53K(k:Nat):Contract Tryz.prog 231 (q53V k):=ctr (q53C k) (rs := [(ty_4,true),(.bool,false)]) (ps:=q53p) (q53F k) Tryz.f231 32 ⟨tyOf_ok tys_ok,gOf_ok ⟨q51K,q52K,trivial⟩⟩ (annl [28] ⟨lok q53i1 q53o1 0 80 (q53f1 k) k,trivial⟩)

noncomputable def q54V(k:Nat):Variant:=⟨[.ptr ty_10 false,.val ty_0 false,.val ty_13 true],[(ty_17,false)],fun x=>impl_cellSides k x.1 x.2.1 x.2.2.1⟩
noncomputable def q54C(k:Nat):Cfg:=⟨Tryz.prog,tyOf tys,86,gOf [(228,[],q47V),(229,[],q48V),(230,[],q50V),(231,[],q53V k)],false,[],[]⟩
def q54i1:List PE := [e58,e59,e60,e61,⟨24,112,.val ty_5 true,false⟩,⟨25,128,.val ty_0 false,false⟩]
def q54o1:List PE := [⟨9,48,.eat ty_16,false⟩]
noncomputable def q54f1(k:Nat)(n:Nat)(x26:PTe q54i1):=impl_cellSides_L122 k n x26.1 x26.2.1 x26.2.2.1 x26.2.2.2.1 x26.2.2.2.2.1 x26.2.2.2.2.2.1
def q54p:List PE := [e42,e3,⟨2,32,.val ty_13 true,false⟩]
noncomputable def q54F(k:Nat):Fn (List ((Int×Int)×Int×Int)):=⟨q54C k,rr q54p [(ty_17,false)] Tryz.f132,fun p=>bif Nat.beq p 62670 then some (.cut [e58,e59,e60,e61,e62,e49,e63,e64] 176)else bif Nat.beq p 62670 then some (.cut [e58,e59,e60,e61,e62,e49,e63,e64] 176)else bif Nat.beq p 62670 then some (.cut [e58,e59,e60,e61,e62,e49,e63,e64] 176)else bif Nat.beq p 122 then some (.loop q54i1 q54o1 0 144 (q54f1 k k))else none,0,[]⟩
theorem q54K(k:Nat):Contract Tryz.prog 132 (q54V k):=ctr (q54C k) (rs := [(ty_17,false)]) (ps:=q54p) (q54F k) Tryz.f132 48 ⟨tyOf_ok tys_ok,gOf_ok ⟨q47K,q48K,q50K,q53K k,trivial⟩⟩ (annl [122] ⟨lok q54i1 q54o1 0 144 (q54f1 k) k,trivial⟩)

noncomputable def q55V:Variant:=⟨[.val ty_0 false],[(ty_4,true)],fun x=>impl_integer x.1⟩
noncomputable def q55C:Cfg:=⟨Tryz.prog,tyOf tys,5,gOf [],false,[],[]⟩
def q55p:List PE := [e9]
noncomputable def q55F:F11:=⟨q55C,rr q55p [(ty_4,true)] Tryz.f169,fun p=>none,0,[]⟩
theorem q55K:Contract Tryz.prog 169 (q55V):=ctr q55C (rs := [(ty_4,true)]) (ps:=q55p) q55F Tryz.f169 16 ⟨tyOf_ok tys_ok,gOf_ok trivial⟩ (annl [] trivial)

noncomputable def q56V:Variant:=⟨[.val ty_4 true],[(ty_16,true)],fun x=>impl_single x.1⟩
noncomputable def q56C:Cfg:=⟨Tryz.prog,tyOf tys,6,gOf [],false,[],[]⟩
def q56p:List PE := [e65]
noncomputable def q56F:F12:=⟨q56C,rr q56p [(ty_16,true)] Tryz.f186,fun p=>none,0,[]⟩
theorem q56K:Contract Tryz.prog 186 (q56V):=ctr q56C (rs := [(ty_16,true)]) (ps:=q56p) q56F Tryz.f186 16 ⟨tyOf_ok tys_ok,gOf_ok trivial⟩ (annl [] trivial)

noncomputable def q57V:Variant:=⟨[.val ty_1 false,.val ty_1 false],[(ty_1,false),(ty_1,false)],fun x=>math_bits_Mul64 x.1 x.2.1⟩
noncomputable def q57C:Cfg:=⟨Tryz.prog,tyOf tys,51,gOf [],false,[],[]⟩
def q57p:List PE := [e66,⟨1,16,.val ty_1 false,false⟩]
noncomputable def q57F:F11:=⟨q57C,rr q57p [(ty_1,false),(ty_1,false)] Tryz.f351,fun p=>none,0,[]⟩
theorem q57K:Contract Tryz.prog 351 (q57V):=ctr q57C (rs := [(ty_1,false),(ty_1,false)]) (ps:=q57p) q57F Tryz.f351 32 ⟨tyOf_ok tys_ok,gOf_ok trivial⟩ (annl [] trivial)

noncomputable def q58V:Variant:=⟨[.val ty_0 false,.val ty_0 false],[(ty_15,true)],fun x=>impl_timesWide x.1 x.2.1⟩
noncomputable def q58C:Cfg:=⟨Tryz.prog,tyOf tys,23,gOf [(272,[],q49V),(351,[],q57V)],false,[],[]⟩
def q58p:List PE := [e9,e3]
noncomputable def q58F:F9:=⟨q58C,rr q58p [(ty_15,true)] Tryz.f324,fun p=>none,0,[]⟩
theorem q58K:Contract Tryz.prog 324 (q58V):=ctr q58C (rs := [(ty_15,true)]) (ps:=q58p) q58F Tryz.f324 32 ⟨tyOf_ok tys_ok,gOf_ok ⟨q49K,q57K,trivial⟩⟩ (annl [] trivial)

noncomputable def q59V(k:Nat):Variant:=⟨[.val ty_4 true,.val ty_4 true],[(ty_4,true),(.bool,false)],fun x=>impl_productOf k x.1 x.2.1⟩
noncomputable def q59C(k:Nat):Cfg:=⟨Tryz.prog,tyOf tys,19,gOf [(324,[],q58V),(231,[],q53V k)],false,[],[]⟩
def q59p:List PE := [e65,e67]
noncomputable def q59F(k:Nat):F10:=⟨q59C k,rr q59p [(ty_4,true),(.bool,false)] Tryz.f268,fun p=>none,0,[]⟩
theorem q59K(k:Nat):Contract Tryz.prog 268 (q59V k):=ctr (q59C k) (rs := [(ty_4,true),(.bool,false)]) (ps:=q59p) (q59F k) Tryz.f268 32 ⟨tyOf_ok tys_ok,gOf_ok ⟨q58K,q53K k,trivial⟩⟩ (annl [] trivial)

noncomputable def q60V:Variant:=⟨[.ptr .bool true,.val ty_4 true,.val .bool false],[(ty_4,true)],fun x=>impl_reckoner_keep x.1 x.2.1 x.2.2.1⟩
noncomputable def q60C:Cfg:=⟨Tryz.prog,tyOf tys,24,gOf [],false,[],[]⟩
def q60p:List PE := [e68,e67,⟨2,32,.val .bool false,false⟩]
noncomputable def q60F:F10:=⟨q60C,rr q60p [(ty_4,true)] Tryz.f188,fun p=>none,0,[0]⟩
theorem q60K:Contract Tryz.prog 188 (q60V):=ctr q60C (rs := [(ty_4,true)]) (ps:=q60p) q60F Tryz.f188 48 ⟨tyOf_ok tys_ok,gOf_ok trivial⟩ (annl [] trivial)

noncomputable def q61V(k:Nat):Variant:=⟨[.ptr .bool true,.val ty_4 true,.val ty_4 true],[(ty_4,true)],fun x=>impl_reckoner_product k x.1 x.2.1 x.2.2.1⟩
noncomputable def q61C(k:Nat):Cfg:=⟨Tryz.prog,tyOf tys,14,gOf [(268,[],q59V k),(188,[],q60V)],false,[],[]⟩
def q61p:List PE := [e68,e67,e69]
noncomputable def q61F(k:Nat):F10:=⟨q61C k,rr q61p [(ty_4,true)] Tryz.f175,fun p=>none,0,[0]⟩
theorem q61K(k:Nat):Contract Tryz.prog 175 (q61V k):=ctr (q61C k) (rs := [(ty_4,true)]) (ps:=q61p) (q61F k) Tryz.f175 48 ⟨tyOf_ok tys_ok,gOf_ok ⟨q59K k,q60K,trivial⟩⟩ (annl [] trivial)

noncomputable def q62V:Variant:=⟨[.val ty_1 false],[(.bool,false)],fun x=>cmp_isNaN_uint64 x.1⟩
noncomputable def q62C:Cfg:=⟨Tryz.prog,tyOf tys,6,gOf [],false,[],[]⟩
def q62p:List PE := [e66]
noncomputable def q62F:F3:=⟨q62C,rr q62p [(.bool,false)] Tryz.f353,fun p=>none,0,[]⟩
theorem q62K:Contract Tryz.prog 353 (q62V):=ctr q62C (rs := [(.bool,false)]) (ps:=q62p) q62F Tryz.f353 16 ⟨tyOf_ok tys_ok,gOf_ok trivial⟩ (annl [] trivial)

noncomputable def q63V:Variant:=⟨[.val ty_1 false,.val ty_1 false],[(ty_0,false)],fun x=>cmp_Compare_uint64 x.1 x.2.1⟩
noncomputable def q63C:Cfg:=⟨Tryz.prog,tyOf tys,20,gOf [(353,[],q62V)],false,[],[]⟩
def q63p:List PE := [e66,⟨1,16,.val ty_1 false,false⟩]
noncomputable def q63F:F2:=⟨q63C,rr q63p [(ty_0,false)] Tryz.f328,fun p=>none,0,[]⟩
theorem q63K:Contract Tryz.prog 328 (q63V):=ctr q63C (rs := [(ty_0,false)]) (ps:=q63p) q63F Tryz.f328 32 ⟨tyOf_ok tys_ok,gOf_ok ⟨q62K,trivial⟩⟩ (annl [] trivial)

noncomputable def q64V(k:Nat):Variant:=⟨[.val ty_15 true,.val ty_15 true],[(ty_0,false)],fun x=>impl_compareSizes k x.1 x.2.1⟩
noncomputable def q64C(k:Nat):Cfg:=⟨Tryz.prog,tyOf tys,17,gOf [(328,[],q63V),(327,[],q37V k)],false,[],[]⟩
def q64p:List PE := [e56,e70]
noncomputable def q64F(k:Nat):F2:=⟨q64C k,rr q64p [(ty_0,false)] Tryz.f273,fun p=>none,0,[]⟩
theorem q64K(k:Nat):Contract Tryz.prog 273 (q64V k):=ctr (q64C k) (rs := [(ty_0,false)]) (ps:=q64p) (q64F k) Tryz.f273 32 ⟨tyOf_ok tys_ok,gOf_ok ⟨q63K,q37K k,trivial⟩⟩ (annl [] trivial)

noncomputable def q65V(k:Nat):Variant:=⟨[.val ty_15 true,.val ty_15 true],[(ty_0,false)],fun x=>impl_compareWide k x.1 x.2.1⟩
noncomputable def q65C(k:Nat):Cfg:=⟨Tryz.prog,tyOf tys,29,gOf [(307,[],q51V),(273,[],q64V k)],false,[],[]⟩
def q65p:List PE := [e56,e70]
noncomputable def q65F(k:Nat):F2:=⟨q65C k,rr q65p [(ty_0,false)] Tryz.f263,fun p=>bif Nat.beq p 6 then some (.cut [⟨2,32,.box ty_15 false,false⟩,⟨3,48,.box ty_15 false,false⟩] 64)else none,0,[]⟩
theorem q65K(k:Nat):Contract Tryz.prog 263 (q65V k):=ctr (q65C k) (rs := [(ty_0,false)]) (ps:=q65p) (q65F k) Tryz.f263 32 ⟨tyOf_ok tys_ok,gOf_ok ⟨q51K,q64K k,trivial⟩⟩ (annl [] trivial)

noncomputable def q66V(k:Nat):Variant:=⟨[.val ty_4 true,.val ty_4 true],[(ty_0,false)],fun x=>impl_compareD k x.1 x.2.1⟩
noncomputable def q66C(k:Nat):Cfg:=⟨Tryz.prog,tyOf tys,28,gOf [(230,[],q50V),(264,[],q52V),(263,[],q65V k)],false,[],[]⟩
def q66p:List PE := [e65,e67]
noncomputable def q66F(k:Nat):F2:=⟨q66C k,rr q66p [(ty_0,false)] Tryz.f168,fun p=>none,0,[]⟩
theorem q66K(k:Nat):Contract Tryz.prog 168 (q66V k):=ctr (q66C k) (rs := [(ty_0,false)]) (ps:=q66p) (q66F k) Tryz.f168 32 ⟨tyOf_ok tys_ok,gOf_ok ⟨q50K,q52K,q65K k,trivial⟩⟩ (annl [] trivial)

noncomputable def q67V(k:Nat):Variant:=⟨[.val ty_4 true,.val ty_4 true],[(ty_4,true)],fun x=>impl_lesser k x.1 x.2.1⟩
noncomputable def q67C(k:Nat):Cfg:=⟨Tryz.prog,tyOf tys,11,gOf [(168,[],q66V k)],false,[],[]⟩
def q67p:List PE := [e65,e67]
noncomputable def q67F(k:Nat):F11:=⟨q67C k,rr q67p [(ty_4,true)] Tryz.f256,fun p=>none,0,[]⟩
theorem q67K(k:Nat):Contract Tryz.prog 256 (q67V k):=ctr (q67C k) (rs := [(ty_4,true)]) (ps:=q67p) (q67F k) Tryz.f256 32 ⟨tyOf_ok tys_ok,gOf_ok ⟨q66K k,trivial⟩⟩ (annl [] trivial)

noncomputable def q68V(k:Nat):Variant:=⟨[.val ty_4 true,.val ty_4 true],[(ty_4,true)],fun x=>impl_greater k x.1 x.2.1⟩
noncomputable def q68C(k:Nat):Cfg:=⟨Tryz.prog,tyOf tys,11,gOf [(168,[],q66V k)],false,[],[]⟩
def q68p:List PE := [e65,e67]
noncomputable def q68F(k:Nat):F11:=⟨q68C k,rr q68p [(ty_4,true)] Tryz.f84,fun p=>none,0,[]⟩
theorem q68K(k:Nat):Contract Tryz.prog 84 (q68V k):=ctr (q68C k) (rs := [(ty_4,true)]) (ps:=q68p) (q68F k) Tryz.f84 32 ⟨tyOf_ok tys_ok,gOf_ok ⟨q66K k,trivial⟩⟩ (annl [] trivial)

noncomputable def q69V:Variant:=⟨[.val ty_16 true],[(ty_0,false)],fun x=>impl_signOf x.1⟩
noncomputable def q69C:Cfg:=⟨Tryz.prog,tyOf tys,13,gOf [],false,[],[]⟩
def q69p:List PE := [e71]
noncomputable def q69F:F2:=⟨q69C,rr q69p [(ty_0,false)] Tryz.f227,fun p=>none,0,[]⟩
theorem q69K:Contract Tryz.prog 227 (q69V):=ctr q69C (rs := [(ty_0,false)]) (ps:=q69p) q69F Tryz.f227 16 ⟨tyOf_ok tys_ok,gOf_ok trivial⟩ (annl [] trivial)

noncomputable def q70V(k:Nat):Variant:=⟨[.val ty_4 true,.val ty_0 false],[(ty_4,true)],fun x=>impl_roundDown k x.1 x.2.1⟩
noncomputable def q70C(k:Nat):Cfg:=⟨Tryz.prog,tyOf tys,26,gOf [(230,[],q50V),(231,[],q53V k)],false,[],[]⟩
def q70p:List PE := [e65,e3]
noncomputable def q70F(k:Nat):F11:=⟨q70C k,rr q70p [(ty_4,true)] Tryz.f320,fun p=>none,0,[]⟩
theorem q70K(k:Nat):Contract Tryz.prog 320 (q70V k):=ctr (q70C k) (rs := [(ty_4,true)]) (ps:=q70p) (q70F k) Tryz.f320 32 ⟨tyOf_ok tys_ok,gOf_ok ⟨q50K,q53K k,trivial⟩⟩ (annl [] trivial)

noncomputable def q71V:Variant:=⟨[.val ty_4 true],[(ty_4,true)],fun x=>impl_minus x.1⟩
noncomputable def q71C:Cfg:=⟨Tryz.prog,tyOf tys,9,gOf [],false,[],[]⟩
def q71p:List PE := [e65]
noncomputable def q71F:F11:=⟨q71C,rr q71p [(ty_4,true)] Tryz.f85,fun p=>none,0,[]⟩
theorem q71K:Contract Tryz.prog 85 (q71V):=ctr q71C (rs := [(ty_4,true)]) (ps:=q71p) q71F Tryz.f85 16 ⟨tyOf_ok tys_ok,gOf_ok trivial⟩ (annl [] trivial)

noncomputable def q72V(k:Nat):Variant:=⟨[.val ty_16 true,.val ty_0 false],[(ty_16,true)],fun x=>impl_roundOut k x.1 x.2.1⟩
noncomputable def q72C(k:Nat):Cfg:=⟨Tryz.prog,tyOf tys,16,gOf [(320,[],q70V k),(85,[],q71V)],false,[],[]⟩
def q72p:List PE := [e71,e3]
noncomputable def q72F(k:Nat):F12:=⟨q72C k,rr q72p [(ty_16,true)] Tryz.f255,fun p=>none,0,[]⟩
theorem q72K(k:Nat):Contract Tryz.prog 255 (q72V k):=ctr (q72C k) (rs := [(ty_16,true)]) (ps:=q72p) (q72F k) Tryz.f255 32 ⟨tyOf_ok tys_ok,gOf_ok ⟨q70K k,q71K,trivial⟩⟩ (annl [] trivial)

noncomputable def q73V(k:Nat):Variant:=⟨[.ptr .bool true,.val ty_16 true,.val ty_0 false],[(ty_16,true)],fun x=>impl_reckoner_power k x.1 x.2.1 x.2.2.1⟩
noncomputable def q73C(k:Nat):Cfg:=⟨Tryz.prog,tyOf tys,49,gOf [(169,[],q55V),(186,[],q56V),(175,[],q61V k),(256,[],q67V k),(84,[],q68V k),(227,[],q69V),(255,[],q72V k)],false,[],[]⟩
def q73i1:List PE := [e68,⟨2,48,.val ty_0 false,false⟩,⟨4,64,.box ty_16 false,false⟩,⟨6,80,.box ty_16 false,false⟩,⟨7,96,.box ty_4 false,false⟩,⟨8,112,.box ty_4 false,false⟩,e72,e52]
def q73o1:List PE := [⟨2,48,.val ty_0 false,false⟩,⟨4,64,.box ty_16 false,false⟩,⟨6,80,.box ty_16 false,false⟩,⟨7,96,.box ty_4 false,false⟩,⟨8,112,.box ty_4 false,false⟩,e68]
noncomputable def q73f1(k:Nat)(n:Nat)(x5:PTe q73i1):=impl_reckoner_power_L122 k n x5.1 x5.2.1 x5.2.2.1 x5.2.2.2.1 x5.2.2.2.2.1 x5.2.2.2.2.2.1 x5.2.2.2.2.2.2.1 x5.2.2.2.2.2.2.2.1
def q73p:List PE := [e68,e73,e6]
noncomputable def q73F(k:Nat):F13:=⟨q73C k,rr q73p [(ty_16,true)] Tryz.f305,fun p=>bif Nat.beq p 122 then some (.loop q73i1 q73o1 0 160 (q73f1 k k))else bif Nat.beq p 62 then some (.cut [⟨6,48,.box ty_16 false,false⟩,⟨7,64,.box ty_4 false,false⟩,⟨8,80,.box ty_4 false,false⟩,e68] 96)else none,0,[0]⟩
theorem q73K(k:Nat):Contract Tryz.prog 305 (q73V k):=ctr (q73C k) (rs := [(ty_16,true)]) (ps:=q73p) (q73F k) Tryz.f305 48 ⟨tyOf_ok tys_ok,gOf_ok ⟨q55K,q56K,q61K k,q67K k,q68K k,q69K,q72K k,trivial⟩⟩ (annl [122] ⟨lok q73i1 q73o1 0 160 (q73f1 k) k,trivial⟩)

noncomputable def q74V(k:Nat):Variant:=⟨[.ptr .bool true,.val ty_16 true,.val ty_16 true],[(ty_16,true)],fun x=>impl_reckoner_multiply k x.1 x.2.1 x.2.2.1⟩
noncomputable def q74C(k:Nat):Cfg:=⟨Tryz.prog,tyOf tys,51,gOf [(175,[],q61V k),(256,[],q67V k),(84,[],q68V k),(255,[],q72V k)],false,[],[]⟩
def q74p:List PE := [e68,e73,⟨2,32,.val ty_16 true,false⟩]
noncomputable def q74F(k:Nat):F13:=⟨q74C k,rr q74p [(ty_16,true)] Tryz.f158,fun p=>none,0,[0]⟩
theorem q74K(k:Nat):Contract Tryz.prog 158 (q74V k):=ctr (q74C k) (rs := [(ty_16,true)]) (ps:=q74p) (q74F k) Tryz.f158 48 ⟨tyOf_ok tys_ok,gOf_ok ⟨q61K k,q67K k,q68K k,q72K k,trivial⟩⟩ (annl [] trivial)

noncomputable def q75V:Variant:=V64 math_bits_Add64
theorem q75K:Contract Tryz.prog 329 q75V:=contractAdd64 (fn:=Tryz.f329) (by kernel_rfl) (by kernel_rfl) (by kernel_rfl) (by kernel_rfl) (by kernel_rfl)

noncomputable def q76V:Variant:=V64 math_bits_Sub64
theorem q76K:Contract Tryz.prog 330 q76V:=contractSub64 (fn:=Tryz.f330) (by kernel_rfl) (by kernel_rfl) (by kernel_rfl) (by kernel_rfl) (by kernel_rfl)

noncomputable def q77V(k:Nat):Variant:=⟨[.val ty_15 true,.val ty_15 true],[(ty_15,true)],fun x=>impl_wide_add k x.1 x.2.1⟩
noncomputable def q77C(k:Nat):Cfg:=⟨Tryz.prog,tyOf tys,68,gOf [(329,[],q75V),(273,[],q64V k),(330,[],q76V)],false,[],[]⟩
def q77p:List PE := [e56,e70]
noncomputable def q77F(k:Nat):F9:=⟨q77C k,rr q77p [(ty_15,true)] Tryz.f274,fun p=>bif Nat.beq p 14 then some (.cut [⟨2,32,.box ty_15 false,false⟩,⟨3,48,.box ty_15 false,false⟩,⟨4,64,.box ty_15 false,false⟩] 80)else none,0,[]⟩
theorem q77K(k:Nat):Contract Tryz.prog 274 (q77V k):=ctr (q77C k) (rs := [(ty_15,true)]) (ps:=q77p) (q77F k) Tryz.f274 32 ⟨tyOf_ok tys_ok,gOf_ok ⟨q75K,q64K k,q76K,trivial⟩⟩ (annl [] trivial)

noncomputable def q78V(k:Nat):Variant:=⟨[.val ty_4 true,.val ty_4 true],[(ty_4,true),(.bool,false)],fun x=>impl_sumOf k x.1 x.2.1⟩
noncomputable def q78C(k:Nat):Cfg:=⟨Tryz.prog,tyOf tys,33,gOf [(230,[],q50V),(264,[],q52V),(274,[],q77V k),(231,[],q53V k)],false,[],[]⟩
def q78p:List PE := [e65,e67]
noncomputable def q78F(k:Nat):F10:=⟨q78C k,rr q78p [(ty_4,true),(.bool,false)] Tryz.f270,fun p=>none,0,[]⟩
theorem q78K(k:Nat):Contract Tryz.prog 270 (q78V k):=ctr (q78C k) (rs := [(ty_4,true),(.bool,false)]) (ps:=q78p) (q78F k) Tryz.f270 32 ⟨tyOf_ok tys_ok,gOf_ok ⟨q50K,q52K,q77K k,q53K k,trivial⟩⟩ (annl [] trivial)

noncomputable def q79V(k:Nat):Variant:=⟨[.ptr .bool true,.val ty_4 true,.val ty_4 true],[(ty_4,true)],fun x=>impl_reckoner_sum k x.1 x.2.1 x.2.2.1⟩
noncomputable def q79C(k:Nat):Cfg:=⟨Tryz.prog,tyOf tys,14,gOf [(270,[],q78V k),(188,[],q60V)],false,[],[]⟩
def q79p:List PE := [e68,e67,e69]
noncomputable def q79F(k:Nat):F10:=⟨q79C k,rr q79p [(ty_4,true)] Tryz.f182,fun p=>none,0,[0]⟩
theorem q79K(k:Nat):Contract Tryz.prog 182 (q79V k):=ctr (q79C k) (rs := [(ty_4,true)]) (ps:=q79p) (q79F k) Tryz.f182 48 ⟨tyOf_ok tys_ok,gOf_ok ⟨q78K k,q60K,trivial⟩⟩ (annl [] trivial)

noncomputable def q80V(k:Nat):Variant:=⟨[.ptr .bool true,.val ty_16 true,.val ty_16 true],[(ty_16,true)],fun x=>impl_reckoner_add k x.1 x.2.1 x.2.2.1⟩
noncomputable def q80C(k:Nat):Cfg:=⟨Tryz.prog,tyOf tys,20,gOf [(182,[],q79V k)],false,[],[]⟩
def q80p:List PE := [e68,e73,⟨2,32,.val ty_16 true,false⟩]
noncomputable def q80F(k:Nat):F13:=⟨q80C k,rr q80p [(ty_16,true)] Tryz.f161,fun p=>none,0,[0]⟩
theorem q80K(k:Nat):Contract Tryz.prog 161 (q80V k):=ctr (q80C k) (rs := [(ty_16,true)]) (ps:=q80p) (q80F k) Tryz.f161 48 ⟨tyOf_ok tys_ok,gOf_ok ⟨q79K k,trivial⟩⟩ (annl [] trivial)

noncomputable def q81V:Variant:=⟨[.ptr .bool true,.val ty_16 true],[(ty_16,true),(.bool,false)],fun x=>impl_reckoner_result x.1 x.2.1⟩
noncomputable def q81C:Cfg:=⟨Tryz.prog,tyOf tys,13,gOf [],false,[],[]⟩
def q81p:List PE := [e68,e73]
noncomputable def q81F:Fn (((Int×Int)×Int×Int)×Bool×Bool):=⟨q81C,rr q81p [(ty_16,true),(.bool,false)] Tryz.f72,fun p=>none,0,[0]⟩
theorem q81K:Contract Tryz.prog 72 (q81V):=ctr q81C (rs := [(ty_16,true),(.bool,false)]) (ps:=q81p) q81F Tryz.f72 32 ⟨tyOf_ok tys_ok,gOf_ok trivial⟩ (annl [] trivial)

noncomputable def q82V(k:Nat):Variant:=⟨[.val ty_7 false,.val ty_17 false],[(ty_16,true),(.bool,false)],fun x=>impl_valueOver k x.1 x.2.1⟩
noncomputable def q82C(k:Nat):Cfg:=⟨Tryz.prog,tyOf tys,54,gOf [(169,[],q55V),(186,[],q56V),(306,[],q40V),(305,[],q73V k),(158,[],q74V k),(161,[],q80V k),(72,[],q81V)],false,[],[]⟩
def q82i1:List PE := [e74,e75,e76,e77,⟨9,96,.box ty_6 false,false⟩,⟨10,112,.box ty_16 false,false⟩,⟨16,128,.val ty_7 false,false⟩,⟨17,144,.val ty_0 false,false⟩,⟨18,160,.val ty_0 false,false⟩,⟨26,176,.val ty_17 false,false⟩,⟨27,192,.val ty_0 false,false⟩,⟨28,208,.val ty_0 false,false⟩]
def q82o1:List PE := [e74,e75,e76,e77,⟨10,96,.box ty_16 false,false⟩,⟨16,112,.val ty_7 false,false⟩,⟨17,128,.val ty_0 false,false⟩,⟨18,144,.val ty_0 false,false⟩]
noncomputable def q82f1(k:Nat)(n:Nat)(x10:PTe q82i1):=impl_valueOver_L125338 k n x10.1 x10.2.1 x10.2.2.1 x10.2.2.2.1 x10.2.2.2.2.1 x10.2.2.2.2.2.1 x10.2.2.2.2.2.2.1 x10.2.2.2.2.2.2.2.1 x10.2.2.2.2.2.2.2.2.1 x10.2.2.2.2.2.2.2.2.2.1 x10.2.2.2.2.2.2.2.2.2.2.1 x10.2.2.2.2.2.2.2.2.2.2.2.1
def q82i2:List PE := [e74,e75,e76,e77,⟨16,96,.val ty_7 false,false⟩,e39,e72]
def q82o2:List PE := [e78,⟨6,48,.box .bool false,false⟩,⟨7,64,.box ty_16 false,false⟩]
noncomputable def q82f2(k:Nat)(n:Nat)(x14:PTe q82i2):=impl_valueOver_L122 k n x14.1 x14.2.1 x14.2.2.1 x14.2.2.2.1 x14.2.2.2.2.1 x14.2.2.2.2.2.1 x14.2.2.2.2.2.2.1
def q82p:List PE := [e14,e79]
noncomputable def q82F(k:Nat):F13:=⟨q82C k,rr q82p [(ty_16,true),(.bool,false)] Tryz.f226,fun p=>bif Nat.beq p 125338 then some (.loop q82i1 q82o1 2 224 (q82f1 k k))else bif Nat.beq p 122 then some (.loop q82i2 q82o2 0 144 (q82f2 k k))else none,0,[]⟩
theorem q82K(k:Nat):Contract Tryz.prog 226 (q82V k):=ctr (q82C k) (rs := [(ty_16,true),(.bool,false)]) (ps:=q82p) (q82F k) Tryz.f226 32 ⟨tyOf_ok tys_ok,gOf_ok ⟨q55K,q56K,q40K,q73K k,q74K k,q80K k,q81K,trivial⟩⟩ (annl [122,125338] ⟨lok q82i2 q82o2 0 144 (q82f2 k) k,lok q82i1 q82o1 2 224 (q82f1 k) k,trivial⟩)

noncomputable def q83V(k:Nat):Variant:=⟨[.val ty_11 false,.val ty_17 false,.val ty_0 false],[(.bool,false)],fun x=>impl_labelHolds k x.1 x.2.1 x.2.2.1⟩
noncomputable def q83C(k:Nat):Cfg:=⟨Tryz.prog,tyOf tys,32,gOf [(118,[],q32V),(226,[],q82V k),(227,[],q69V)],false,[],[]⟩
def q83p:List PE := [e41,e79,e6]
noncomputable def q83F(k:Nat):F3:=⟨q83C k,rr q83p [(.bool,false)] Tryz.f131,fun p=>none,0,[]⟩
theorem q83K(k:Nat):Contract Tryz.prog 131 (q83V k):=ctr (q83C k) (rs := [(.bool,false)]) (ps:=q83p) (q83F k) Tryz.f131 48 ⟨tyOf_ok tys_ok,gOf_ok ⟨q32K,q82K k,q69K,trivial⟩⟩ (annl [] trivial)

noncomputable def q84V(k:Nat):Variant:=⟨[.val ty_11 false,.ptr ty_10 false,.val ty_0 false,.val ty_13 true],[(ty_0,false)],fun x=>impl_cellLabel k x.1 x.2.1 x.2.2.1 x.2.2.2.1⟩
noncomputable def q84C(k:Nat):Cfg:=⟨Tryz.prog,tyOf tys,24,gOf [(132,[],q54V k),(131,[],q83V k)],false,[],[]⟩
def q84i1:List PE := [e80,⟨9,80,.eat ty_16,false⟩,⟨15,96,.val ty_0 false,false⟩]
def q84o1:List PE := []
noncomputable def q84f1(k:Nat)(n:Nat)(x3:PTe q84i1):=impl_cellLabel_L58 k n x3.1 x3.2.1 x3.2.2.1
def q84p:List PE := [e41,e43,e6,⟨3,48,.val ty_13 true,false⟩]
noncomputable def q84F(k:Nat):F2:=⟨q84C k,rr q84p [(ty_0,false)] Tryz.f128,fun p=>bif Nat.beq p 58 then some (.loop q84i1 q84o1 0 112 (q84f1 k k))else none,0,[]⟩
theorem q84K(k:Nat):Contract Tryz.prog 128 (q84V k):=ctr (q84C k) (rs := [(ty_0,false)]) (ps:=q84p) (q84F k) Tryz.f128 64 ⟨tyOf_ok tys_ok,gOf_ok ⟨q54K k,q83K k,trivial⟩⟩ (annl [58] ⟨lok q84i1 q84o1 0 112 (q84f1 k) k,trivial⟩)

noncomputable def q85V(k:Nat):Variant:=⟨[.val ty_11 false,.ptr ty_10 false,.val ty_0 false],[(ty_8,false),(.bool,false)],fun x=>impl_surfaceLabels k x.1 x.2.1 x.2.2.1⟩
noncomputable def q85C(k:Nat):Cfg:=⟨Tryz.prog,tyOf tys,32,gOf [(126,[],q46V k),(128,[],q84V k)],false,[],[]⟩
def q85i1:List PE := [⟨0,48,.val ty_11 false,false⟩,⟨1,64,.ptr ty_10 false,false⟩,e81,e34,⟨13,112,.eat ty_13,false⟩,e51,⟨15,144,.val ty_0 false,false⟩]
def q85o1:List PE := [⟨8,48,.eat ty_0,false⟩]
noncomputable def q85f1(k:Nat)(n:Nat)(x3:PTe q85i1):=impl_surfaceLabels_L58 k n x3.1 x3.2.1 x3.2.2.1 x3.2.2.2.1 x3.2.2.2.2.1 x3.2.2.2.2.2.1 x3.2.2.2.2.2.2.1
def q85p:List PE := [e41,e43,e6]
noncomputable def q85F(k:Nat):F14:=⟨q85C k,rr q85p [(ty_8,false),(.bool,false)] Tryz.f119,fun p=>bif Nat.beq p 58 then some (.loop q85i1 q85o1 0 160 (q85f1 k k))else none,0,[]⟩
theorem q85K(k:Nat):Contract Tryz.prog 119 (q85V k):=ctr (q85C k) (rs := [(ty_8,false),(.bool,false)]) (ps:=q85p) (q85F k) Tryz.f119 48 ⟨tyOf_ok tys_ok,gOf_ok ⟨q46K k,q84K k,trivial⟩⟩ (annl [58] ⟨lok q85i1 q85o1 0 160 (q85f1 k) k,trivial⟩)

noncomputable def q86V(k:Nat):Variant:=⟨[.val ty_11 false,.val ty_10 true,.val ty_0 false],[(ty_8,false),(.bool,false)],fun x=>impl_SurfaceLabels k x.1 x.2.1 x.2.2.1⟩
noncomputable def q86C(k:Nat):Cfg:=⟨Tryz.prog,tyOf tys,21,gOf [(117,[],q45V k),(118,[],q32V),(119,[],q85V k)],false,[],[]⟩
def q86p:List PE := [e41,e82,e6]
noncomputable def q86F(k:Nat):F14:=⟨q86C k,rr q86p [(ty_8,false),(.bool,false)] Tryz.f45,fun p=>none,0,[]⟩
theorem q86K(k:Nat):Contract Tryz.prog 45 (q86V k):=ctr (q86C k) (rs := [(ty_8,false),(.bool,false)]) (ps:=q86p) (q86F k) Tryz.f45 48 ⟨tyOf_ok tys_ok,gOf_ok ⟨q45K k,q32K,q85K k,trivial⟩⟩ (annl [] trivial)

noncomputable def q87V:Variant:=⟨[.val ty_6 true,.val ty_0 false],[(ty_0,false)],fun x=>spec_poPower x.1 x.2.1⟩
noncomputable def q87C:Cfg:=⟨Tryz.prog,tyOf tys,16,gOf [],false,[],[]⟩
def q87p:List PE := [e5,e3]
noncomputable def q87F:F2:=⟨q87C,rr q87p [(ty_0,false)] Tryz.f309,fun p=>none,0,[]⟩
theorem q87K:Contract Tryz.prog 309 (q87V):=ctr q87C (rs := [(ty_0,false)]) (ps:=q87p) q87F Tryz.f309 32 ⟨tyOf_ok tys_ok,gOf_ok trivial⟩ (annl [] trivial)

noncomputable def q88V(k:Nat):Variant:=⟨[.val ty_7 false,.val ty_0 false],[(ty_0,false)],fun x=>spec_poDegreeIn k x.1 x.2.1⟩
noncomputable def q88C(k:Nat):Cfg:=⟨Tryz.prog,tyOf tys,21,gOf [(309,[],q87V),(183,[],q21V)],false,[],[]⟩
def q88i1:List PE := [e7,e83,⟨8,64,.val ty_7 false,false⟩,e50,⟨10,96,.val ty_0 false,false⟩]
def q88o1:List PE := [⟨5,32,.val ty_0 false,false⟩]
noncomputable def q88f1(k:Nat)(n:Nat)(x3:PTe q88i1):=spec_poDegreeIn_L58 k n x3.1 x3.2.1 x3.2.2.1 x3.2.2.2.1 x3.2.2.2.2.1
def q88p:List PE := [e14,e3]
noncomputable def q88F(k:Nat):F2:=⟨q88C k,rr q88p [(ty_0,false)] Tryz.f288,fun p=>bif Nat.beq p 58 then some (.loop q88i1 q88o1 0 112 (q88f1 k k))else none,0,[]⟩
theorem q88K(k:Nat):Contract Tryz.prog 288 (q88V k):=ctr (q88C k) (rs := [(ty_0,false)]) (ps:=q88p) (q88F k) Tryz.f288 32 ⟨tyOf_ok tys_ok,gOf_ok ⟨q87K,q21K,trivial⟩⟩ (annl [58] ⟨lok q88i1 q88o1 0 112 (q88f1 k) k,trivial⟩)

noncomputable def q89V(k:Nat):Variant:=⟨[.val ty_11 false],[(.bool,false)],fun x=>spec_poSystem k x.1⟩
noncomputable def q89C(k:Nat):Cfg:=⟨Tryz.prog,tyOf tys,29,gOf [(287,[],q12V k),(288,[],q88V k),(98,[],q10V)],false,[],[]⟩
def q89i1:List PE := [e40,⟨4,32,.val ty_7 false,false⟩,e83,⟨6,64,.val ty_11 false,false⟩,e20,e84]
def q89o1:List PE := [e40,⟨6,32,.val ty_11 false,false⟩,e26,e27]
noncomputable def q89f1(k:Nat)(n:Nat)(x3:PTe q89i1):=spec_poSystem_L13518 k n x3.1 x3.2.1 x3.2.2.1 x3.2.2.2.1 x3.2.2.2.2.1 x3.2.2.2.2.2.1
def q89i2:List PE := [e40,⟨6,32,.val ty_11 false,false⟩,e26,e27]
def q89o2:List PE := [e40]
noncomputable def q89f2(k:Nat)(n:Nat)(x6:PTe q89i2):=spec_poSystem_L26 k n x6.1 x6.2.1 x6.2.2.1 x6.2.2.2.1
def q89p:List PE := [e41]
noncomputable def q89F(k:Nat):F3:=⟨q89C k,rr q89p [(.bool,false)] Tryz.f207,fun p=>bif Nat.beq p 13518 then some (.loop q89i1 q89o1 2 112 (q89f1 k k))else bif Nat.beq p 26 then some (.loop q89i2 q89o2 0 80 (q89f2 k k))else none,0,[]⟩
theorem q89K(k:Nat):Contract Tryz.prog 207 (q89V k):=ctr (q89C k) (rs := [(.bool,false)]) (ps:=q89p) (q89F k) Tryz.f207 16 ⟨tyOf_ok tys_ok,gOf_ok ⟨q12K k,q88K k,q10K,trivial⟩⟩ (annl [26,13518] ⟨lok q89i2 q89o2 0 80 (q89f2 k) k,lok q89i1 q89o1 2 112 (q89f1 k) k,trivial⟩)

noncomputable def q90V(k:Nat):Variant:=⟨[.val ty_10 true],[(.bool,false)],fun x=>spec_cbBox k x.1⟩
noncomputable def q90C(k:Nat):Cfg:=⟨Tryz.prog,tyOf tys,16,gOf [(208,[],q24V k)],false,[],[]⟩
def q90p:List PE := [e28]
noncomputable def q90F(k:Nat):F3:=⟨q90C k,rr q90p [(.bool,false)] Tryz.f296,fun p=>none,0,[]⟩
theorem q90K(k:Nat):Contract Tryz.prog 296 (q90V k):=ctr (q90C k) (rs := [(.bool,false)]) (ps:=q90p) (q90F k) Tryz.f296 16 ⟨tyOf_ok tys_ok,gOf_ok ⟨q24K k,trivial⟩⟩ (annl [] trivial)

noncomputable def q91V(k:Nat):Variant:=⟨[.val ty_11 false,.val ty_10 true],[(.bool,false)],fun x=>spec_cbGood k x.1 x.2.1⟩
noncomputable def q91C(k:Nat):Cfg:=⟨Tryz.prog,tyOf tys,16,gOf [(207,[],q89V k),(296,[],q90V k)],false,[],[]⟩
def q91p:List PE := [e41,e82]
noncomputable def q91F(k:Nat):F3:=⟨q91C k,rr q91p [(.bool,false)] Tryz.f215,fun p=>none,0,[]⟩
theorem q91K(k:Nat):Contract Tryz.prog 215 (q91V k):=ctr (q91C k) (rs := [(.bool,false)]) (ps:=q91p) (q91F k) Tryz.f215 32 ⟨tyOf_ok tys_ok,gOf_ok ⟨q89K k,q90K k,trivial⟩⟩ (annl [] trivial)

noncomputable def q92V:Variant:=⟨[.val ty_0 false],[(.bool,false)],fun x=>spec_cbDepth x.1⟩
noncomputable def q92C:Cfg:=⟨Tryz.prog,tyOf tys,5,gOf [(98,[],q10V)],false,[],[]⟩
def q92p:List PE := [e9]
noncomputable def q92F:F3:=⟨q92C,rr q92p [(.bool,false)] Tryz.f216,fun p=>none,0,[]⟩
theorem q92K:Contract Tryz.prog 216 (q92V):=ctr q92C (rs := [(.bool,false)]) (ps:=q92p) q92F Tryz.f216 16 ⟨tyOf_ok tys_ok,gOf_ok ⟨q10K,trivial⟩⟩ (annl [] trivial)

noncomputable def q93V(k:Nat):Variant:=⟨[.val ty_11 false,.val ty_10 true,.val ty_0 false],[(.bool,false)],fun x=>spec_cbAsked k x.1 x.2.1 x.2.2.1⟩
noncomputable def q93C(k:Nat):Cfg:=⟨Tryz.prog,tyOf tys,14,gOf [(215,[],q91V k),(216,[],q92V)],false,[],[]⟩
def q93p:List PE := [e41,e82,e6]
noncomputable def q93F(k:Nat):F3:=⟨q93C k,rr q93p [(.bool,false)] Tryz.f120,fun p=>none,0,[]⟩
theorem q93K(k:Nat):Contract Tryz.prog 120 (q93V k):=ctr (q93C k) (rs := [(.bool,false)]) (ps:=q93p) (q93F k) Tryz.f120 48 ⟨tyOf_ok tys_ok,gOf_ok ⟨q91K k,q92K,trivial⟩⟩ (annl [] trivial)

noncomputable def q94V(k:Nat):Variant:=⟨[.val ty_0 false],[(ty_19,false)],fun x=>spec_cbCells k x.1⟩
noncomputable def q94C(k:Nat):Cfg:=⟨Tryz.prog,tyOf tys,42,gOf [(218,[],q19V)],false,[],[]⟩
def q94i1:List PE := [e53,e85,e83,e86,e24,e48,⟨16,112,.eat .bool,false⟩,⟨17,128,.val ty_0 false,false⟩,⟨18,144,.val ty_0 false,false⟩]
def q94o1:List PE := [e53,e85,e83,e86,e24,⟨16,96,.eat .bool,false⟩,e39,e72]
noncomputable def q94f1(k:Nat)(n:Nat)(x2:PTe q94i1):=spec_cbCells_L128227730 k n x2.1 x2.2.1 x2.2.2.1 x2.2.2.2.1 x2.2.2.2.2.1 x2.2.2.2.2.2.1 x2.2.2.2.2.2.2.1 x2.2.2.2.2.2.2.2.1 x2.2.2.2.2.2.2.2.2.1
def q94i2:List PE := [e53,e85,e83,e86,e24,⟨16,96,.eat .bool,false⟩,e39,e72]
def q94o2:List PE := [e53,e85,e83,⟨16,64,.eat .bool,false⟩,⟨17,80,.val ty_0 false,false⟩,e87]
noncomputable def q94f2(k:Nat)(n:Nat)(x5:PTe q94i2):=spec_cbCells_L2003558 k n x5.1 x5.2.1 x5.2.2.1 x5.2.2.2.1 x5.2.2.2.2.1 x5.2.2.2.2.2.1 x5.2.2.2.2.2.2.1 x5.2.2.2.2.2.2.2.1
def q94i3:List PE := [e53,e85,e83,⟨16,64,.eat .bool,false⟩,⟨17,80,.val ty_0 false,false⟩,e87]
def q94o3:List PE := [e53,e85,e83]
noncomputable def q94f3(k:Nat)(n:Nat)(x8:PTe q94i3):=spec_cbCells_L7826 k n x8.1 x8.2.1 x8.2.2.1 x8.2.2.2.1 x8.2.2.2.2.1 x8.2.2.2.2.2.1
def q94i4:List PE := [e53,e85,e83]
def q94o4:List PE := [e53]
noncomputable def q94f4(k:Nat)(n:Nat)(x11:PTe q94i4):=spec_cbCells_L122 k n x11.1 x11.2.1 x11.2.2.1
def q94p:List PE := [e9]
noncomputable def q94F(k:Nat):Fn (List (Int×Bool×Int×Int)):=⟨q94C k,rr q94p [(ty_19,false)] Tryz.f133,fun p=>bif Nat.beq p 128227730 then some (.loop q94i1 q94o1 6 160 (q94f1 k k))else bif Nat.beq p 2003558 then some (.loop q94i2 q94o2 4 144 (q94f2 k k))else bif Nat.beq p 7826 then some (.loop q94i3 q94o3 2 112 (q94f3 k k))else bif Nat.beq p 122 then some (.loop q94i4 q94o4 0 64 (q94f4 k k))else none,0,[]⟩
theorem q94K(k:Nat):Contract Tryz.prog 133 (q94V k):=ctr (q94C k) (rs := [(ty_19,false)]) (ps:=q94p) (q94F k) Tryz.f133 16 ⟨tyOf_ok tys_ok,gOf_ok ⟨q19K,trivial⟩⟩ (annl [122,7826,2003558,128227730] ⟨lok q94i4 q94o4 0 64 (q94f4 k) k,lok q94i3 q94o3 2 112 (q94f3 k) k,lok q94i2 q94o2 4 144 (q94f2 k) k,lok q94i1 q94o1 6 160 (q94f1 k) k,trivial⟩)

noncomputable def q95V(k:Nat):Variant:=⟨[.val ty_13 true,.val ty_0 false],[(ty_8,false),(ty_8,false)],fun x=>spec_cbRange k x.1 x.2.1⟩
noncomputable def q95C(k:Nat):Cfg:=⟨Tryz.prog,tyOf tys,57,gOf [],false,[],[]⟩
def q95i1:List PE := [e7,e55,⟨6,64,.eat ty_0,false⟩,e33,⟨8,96,.val ty_8 false,false⟩,⟨18,112,.val ty_0 false,false⟩,⟨19,128,.val ty_0 false,false⟩]
def q95o1:List PE := [⟨6,32,.eat ty_0,false⟩,e88]
noncomputable def q95f1(k:Nat)(n:Nat)(x3:PTe q95i1):=spec_cbRange_L122 k n x3.1 x3.2.1 x3.2.2.1 x3.2.2.2.1 x3.2.2.2.2.1 x3.2.2.2.2.2.1 x3.2.2.2.2.2.2.1
def q95p:List PE := [e54,e3]
noncomputable def q95F(k:Nat):Fn ((List Int)×List Int):=⟨q95C k,rr q95p [(ty_8,false),(ty_8,false)] Tryz.f234,fun p=>bif Nat.beq p 125332 then some (.cut [e7,e55,⟨6,64,.eat ty_0,false⟩,e33,⟨8,96,.val ty_8 false,false⟩,e89,e72,e52] 160)else bif Nat.beq p 122 then some (.loop q95i1 q95o1 0 144 (q95f1 k k))else none,0,[]⟩
theorem q95K(k:Nat):Contract Tryz.prog 234 (q95V k):=ctr (q95C k) (rs := [(ty_8,false),(ty_8,false)]) (ps:=q95p) (q95F k) Tryz.f234 32 ⟨tyOf_ok tys_ok,gOf_ok trivial⟩ (annl [122] ⟨lok q95i1 q95o1 0 144 (q95f1 k) k,trivial⟩)

noncomputable def q96V:Variant:=⟨[.val ty_4 true],[(.bool,false)],fun x=>spec_dyGood x.1⟩
noncomputable def q96C:Cfg:=⟨Tryz.prog,tyOf tys,22,gOf [(98,[],q10V)],false,[],[]⟩
def q96p:List PE := [e65]
noncomputable def q96F:F3:=⟨q96C,rr q96p [(.bool,false)] Tryz.f177,fun p=>none,0,[]⟩
theorem q96K:Contract Tryz.prog 177 (q96V):=ctr q96C (rs := [(.bool,false)]) (ps:=q96p) q96F Tryz.f177 16 ⟨tyOf_ok tys_ok,gOf_ok ⟨q10K,trivial⟩⟩ (annl [] trivial)

noncomputable def q97V(k:Nat):Variant:=⟨[.val ty_0 false,.val ty_0 false],[(ty_4,true),(.bool,false)],fun x=>spec_dyMake k x.1 x.2.1⟩
noncomputable def q97C(k:Nat):Cfg:=⟨Tryz.prog,tyOf tys,32,gOf [(177,[],q96V)],false,[],[]⟩
def q97i1:List PE := [e90,e91,e57]
def q97o1:List PE := [e90,e91,e57]
noncomputable def q97f1(k:Nat)(n:Nat)(x2:PTe q97i1):=spec_dyMake_L28 k n x2.1 x2.2.1 x2.2.2.1
def q97p:List PE := [e9,e3]
noncomputable def q97F(k:Nat):F10:=⟨q97C k,rr q97p [(ty_4,true),(.bool,false)] Tryz.f154,fun p=>bif Nat.beq p 28 then some (.loop q97i1 q97o1 0 80 (q97f1 k k))else bif Nat.beq p 6 then some (.cut [e90,e91,e57] 80)else none,0,[]⟩
theorem q97K(k:Nat):Contract Tryz.prog 154 (q97V k):=ctr (q97C k) (rs := [(ty_4,true),(.bool,false)]) (ps:=q97p) (q97F k) Tryz.f154 32 ⟨tyOf_ok tys_ok,gOf_ok ⟨q96K,trivial⟩⟩ (annl [28] ⟨lok q97i1 q97o1 0 80 (q97f1 k) k,trivial⟩)

noncomputable def q98V(k:Nat):Variant:=⟨[.val ty_0 false,.val ty_0 false],[(ty_4,true)],fun x=>spec_bxNumber k x.1 x.2.1⟩
noncomputable def q98C(k:Nat):Cfg:=⟨Tryz.prog,tyOf tys,14,gOf [(154,[],q97V k)],false,[],[]⟩
def q98p:List PE := [e9,e3]
noncomputable def q98F(k:Nat):F11:=⟨q98C k,rr q98p [(ty_4,true)] Tryz.f235,fun p=>none,0,[]⟩
theorem q98K(k:Nat):Contract Tryz.prog 235 (q98V k):=ctr (q98C k) (rs := [(ty_4,true)]) (ps:=q98p) (q98F k) Tryz.f235 32 ⟨tyOf_ok tys_ok,gOf_ok ⟨q97K k,trivial⟩⟩ (annl [] trivial)

noncomputable def q99V(k:Nat):Variant:=⟨[.val ty_10 true,.val ty_0 false,.val ty_13 true],[(ty_17,false)],fun x=>spec_cbSides k x.1 x.2.1 x.2.2.1⟩
noncomputable def q99C(k:Nat):Cfg:=⟨Tryz.prog,tyOf tys,85,gOf [(218,[],q19V),(234,[],q95V k),(235,[],q98V k)],false,[],[]⟩
def q99i1:List PE := [e91,⟨3,64,.box ty_10 false,false⟩,e20,e34,⟨9,112,.eat ty_0,false⟩,⟨10,128,.eat ty_16,false⟩,e92,e64]
def q99o1:List PE := [⟨10,48,.eat ty_16,false⟩]
noncomputable def q99f1(k:Nat)(n:Nat)(x5:PTe q99i1):=spec_cbSides_L250 k n x5.1 x5.2.1 x5.2.2.1 x5.2.2.2.1 x5.2.2.2.2.1 x5.2.2.2.2.2.1 x5.2.2.2.2.2.2.1 x5.2.2.2.2.2.2.2.1
def q99p:List PE := [e28,e3,⟨2,32,.val ty_13 true,false⟩]
noncomputable def q99F(k:Nat):Fn (List ((Int×Int)×Int×Int)):=⟨q99C k,rr q99p [(ty_17,false)] Tryz.f135,fun p=>bif Nat.beq p 250 then some (.loop q99i1 q99o1 0 176 (q99f1 k k))else none,0,[]⟩
theorem q99K(k:Nat):Contract Tryz.prog 135 (q99V k):=ctr (q99C k) (rs := [(ty_17,false)]) (ps:=q99p) (q99F k) Tryz.f135 48 ⟨tyOf_ok tys_ok,gOf_ok ⟨q19K,q95K k,q98K k,trivial⟩⟩ (annl [250] ⟨lok q99i1 q99o1 0 176 (q99f1 k) k,trivial⟩)

noncomputable def q100V:Variant:=⟨[.val ty_0 false],[(ty_4,true)],fun x=>spec_dyInt x.1⟩
noncomputable def q100C:Cfg:=⟨Tryz.prog,tyOf tys,5,gOf [],false,[],[]⟩
def q100p:List PE := [e9]
noncomputable def q100F:F11:=⟨q100C,rr q100p [(ty_4,true)] Tryz.f171,fun p=>none,0,[]⟩
theorem q100K:Contract Tryz.prog 171 (q100V):=ctr q100C (rs := [(ty_4,true)]) (ps:=q100p) q100F Tryz.f171 16 ⟨tyOf_ok tys_ok,gOf_ok trivial⟩ (annl [] trivial)

noncomputable def q101V:Variant:=⟨[.val ty_4 true],[(ty_16,true)],fun x=>spec_vaPure x.1⟩
noncomputable def q101C:Cfg:=⟨Tryz.prog,tyOf tys,6,gOf [],false,[],[]⟩
def q101p:List PE := [e65]
noncomputable def q101F:F12:=⟨q101C,rr q101p [(ty_16,true)] Tryz.f206,fun p=>none,0,[]⟩
theorem q101K:Contract Tryz.prog 206 (q101V):=ctr q101C (rs := [(ty_16,true)]) (ps:=q101p) q101F Tryz.f206 16 ⟨tyOf_ok tys_ok,gOf_ok trivial⟩ (annl [] trivial)

noncomputable def q102V:Variant:=⟨[.val ty_0 false],[(ty_0,false)],fun x=>spec_l1Abs x.1⟩
noncomputable def q102C:Cfg:=⟨Tryz.prog,tyOf tys,7,gOf [(183,[],q21V)],false,[],[]⟩
def q102p:List PE := [e9]
noncomputable def q102F:F2:=⟨q102C,rr q102p [(ty_0,false)] Tryz.f185,fun p=>none,0,[]⟩
theorem q102K:Contract Tryz.prog 185 (q102V):=ctr q102C (rs := [(ty_0,false)]) (ps:=q102p) q102F Tryz.f185 16 ⟨tyOf_ok tys_ok,gOf_ok ⟨q21K,trivial⟩⟩ (annl [] trivial)

noncomputable def q103V(k:Nat):Variant:=⟨[.val ty_4 true,.val ty_4 true],[(ty_4,true),(.bool,false)],fun x=>spec_dyMul k x.1 x.2.1⟩
noncomputable def q103C(k:Nat):Cfg:=⟨Tryz.prog,tyOf tys,67,gOf [(185,[],q102V),(154,[],q97V k)],false,[],[]⟩
def q103i1:List PE := [e93,e94,e57,e8]
def q103o1:List PE := [e93,e94,e57,e8]
noncomputable def q103f1(k:Nat)(n:Nat)(x1:PTe q103i1):=spec_dyMul_L60 k n x1.1 x1.2.1 x1.2.2.1 x1.2.2.2.1
def q103i2:List PE := [e93,e94,e57,e8]
def q103o2:List PE := [e93,e94,e57,e8]
noncomputable def q103f2(k:Nat)(n:Nat)(x4:PTe q103i2):=spec_dyMul_L124 k n x4.1 x4.2.1 x4.2.2.1 x4.2.2.2.1
def q103p:List PE := [e65,e67]
noncomputable def q103F(k:Nat):F10:=⟨q103C k,rr q103p [(ty_4,true),(.bool,false)] Tryz.f179,fun p=>bif Nat.beq p 60 then some (.loop q103i1 q103o1 0 96 (q103f1 k k))else bif Nat.beq p 124 then some (.loop q103i2 q103o2 2 96 (q103f2 k k))else none,0,[]⟩
theorem q103K(k:Nat):Contract Tryz.prog 179 (q103V k):=ctr (q103C k) (rs := [(ty_4,true),(.bool,false)]) (ps:=q103p) (q103F k) Tryz.f179 32 ⟨tyOf_ok tys_ok,gOf_ok ⟨q102K,q97K k,trivial⟩⟩ (annl [60,124] ⟨lok q103i1 q103o1 0 96 (q103f1 k) k,lok q103i2 q103o2 2 96 (q103f2 k) k,trivial⟩)

noncomputable def q104V(k:Nat):Variant:=⟨[.val ty_4 true,.val ty_0 false],[(ty_4,true),(.bool,false)],fun x=>spec_ivRaise k x.1 x.2.1⟩
noncomputable def q104C(k:Nat):Cfg:=⟨Tryz.prog,tyOf tys,25,gOf [(171,[],q100V),(179,[],q103V k)],false,[],[]⟩
def q104i1:List PE := [e7,⟨2,48,.box ty_4 false,false⟩,e57,⟨6,80,.box ty_4 false,false⟩]
def q104o1:List PE := [⟨4,32,.box ty_4 false,false⟩,⟨6,48,.box ty_4 false,false⟩]
noncomputable def q104f1(k:Nat)(n:Nat)(x3:PTe q104i1):=spec_ivRaise_L28 k n x3.1 x3.2.1 x3.2.2.1 x3.2.2.2.1
def q104p:List PE := [e65,e3]
noncomputable def q104F(k:Nat):F10:=⟨q104C k,rr q104p [(ty_4,true),(.bool,false)] Tryz.f343,fun p=>bif Nat.beq p 28 then some (.loop q104i1 q104o1 0 96 (q104f1 k k))else none,0,[]⟩
theorem q104K(k:Nat):Contract Tryz.prog 343 (q104V k):=ctr (q104C k) (rs := [(ty_4,true),(.bool,false)]) (ps:=q104p) (q104F k) Tryz.f343 32 ⟨tyOf_ok tys_ok,gOf_ok ⟨q100K,q103K k,trivial⟩⟩ (annl [28] ⟨lok q104i1 q104o1 0 96 (q104f1 k) k,trivial⟩)

noncomputable def q105V:Variant:=⟨[.val ty_16 true],[(.bool,false)],fun x=>spec_ivZero x.1⟩
noncomputable def q105C:Cfg:=⟨Tryz.prog,tyOf tys,13,gOf [],false,[],[]⟩
def q105p:List PE := [e71]
noncomputable def q105F:F3:=⟨q105C,rr q105p [(.bool,false)] Tryz.f310,fun p=>none,0,[]⟩
theorem q105K:Contract Tryz.prog 310 (q105V):=ctr q105C (rs := [(.bool,false)]) (ps:=q105p) q105F Tryz.f310 16 ⟨tyOf_ok tys_ok,gOf_ok trivial⟩ (annl [] trivial)

noncomputable def q106V:Variant:=⟨[.val ty_0 false,.val ty_0 false],[(ty_0,false)],fun x=>spec_dyDown x.1 x.2.1⟩
noncomputable def q106C:Cfg:=⟨Tryz.prog,tyOf tys,16,gOf [],false,[],[]⟩
def q106p:List PE := [e9,e3]
noncomputable def q106F:F2:=⟨q106C,rr q106p [(ty_0,false)] Tryz.f275,fun p=>none,0,[]⟩
theorem q106K:Contract Tryz.prog 275 (q106V):=ctr q106C (rs := [(ty_0,false)]) (ps:=q106p) q106F Tryz.f275 32 ⟨tyOf_ok tys_ok,gOf_ok trivial⟩ (annl [] trivial)

noncomputable def q107V:Variant:=⟨[.val ty_4 true],[(ty_0,false)],fun x=>spec_dyFloor x.1⟩
noncomputable def q107C:Cfg:=⟨Tryz.prog,tyOf tys,9,gOf [(218,[],q19V),(275,[],q106V)],false,[],[]⟩
def q107p:List PE := [e65]
noncomputable def q107F:F2:=⟨q107C,rr q107p [(ty_0,false)] Tryz.f265,fun p=>none,0,[]⟩
theorem q107K:Contract Tryz.prog 265 (q107V):=ctr q107C (rs := [(ty_0,false)]) (ps:=q107p) q107F Tryz.f265 16 ⟨tyOf_ok tys_ok,gOf_ok ⟨q19K,q106K,trivial⟩⟩ (annl [] trivial)

noncomputable def q108V(k:Nat):Variant:=⟨[.val ty_4 true,.val ty_0 false],[(ty_0,false),(.bool,false)],fun x=>spec_dyAt k x.1 x.2.1⟩
noncomputable def q108C(k:Nat):Cfg:=⟨Tryz.prog,tyOf tys,30,gOf [(218,[],q19V),(98,[],q10V)],false,[],[]⟩
def q108i1:List PE := [e7,⟨2,48,.box ty_4 false,false⟩,e19]
def q108o1:List PE := [e93]
noncomputable def q108f1(k:Nat)(n:Nat)(x4:PTe q108i1):=spec_dyAt_L58 k n x4.1 x4.2.1 x4.2.2.1
def q108p:List PE := [e65,e3]
noncomputable def q108F(k:Nat):F15:=⟨q108C k,rr q108p [(ty_0,false),(.bool,false)] Tryz.f184,fun p=>bif Nat.beq p 58 then some (.loop q108i1 q108o1 0 80 (q108f1 k k))else none,0,[]⟩
theorem q108K(k:Nat):Contract Tryz.prog 184 (q108V k):=ctr (q108C k) (rs := [(ty_0,false),(.bool,false)]) (ps:=q108p) (q108F k) Tryz.f184 32 ⟨tyOf_ok tys_ok,gOf_ok ⟨q19K,q10K,trivial⟩⟩ (annl [58] ⟨lok q108i1 q108o1 0 80 (q108f1 k) k,trivial⟩)

noncomputable def q109V(k:Nat):Variant:=⟨[.val ty_4 true,.val ty_4 true],[(ty_0,false)],fun x=>spec_dyCmp k x.1 x.2.1⟩
noncomputable def q109C(k:Nat):Cfg:=⟨Tryz.prog,tyOf tys,56,gOf [(265,[],q107V),(266,[],q7V),(218,[],q19V),(184,[],q108V k)],false,[],[]⟩
def q109p:List PE := [e65,e67]
noncomputable def q109F(k:Nat):F2:=⟨q109C k,rr q109p [(ty_0,false)] Tryz.f170,fun p=>none,0,[]⟩
theorem q109K(k:Nat):Contract Tryz.prog 170 (q109V k):=ctr (q109C k) (rs := [(ty_0,false)]) (ps:=q109p) (q109F k) Tryz.f170 32 ⟨tyOf_ok tys_ok,gOf_ok ⟨q107K,q7K,q19K,q108K k,trivial⟩⟩ (annl [] trivial)

noncomputable def q110V(k:Nat):Variant:=⟨[.val ty_18 false],[(ty_16,true)],fun x=>spec_ivEnds k x.1⟩
noncomputable def q110C(k:Nat):Cfg:=⟨Tryz.prog,tyOf tys,35,gOf [(170,[],q109V k)],false,[],[]⟩
def q110i1:List PE := [e95,e96,⟨13,48,.val ty_18 false,false⟩,⟨14,64,.val ty_0 false,false⟩,⟨15,80,.val ty_0 false,false⟩]
def q110o1:List PE := [e95,e96]
noncomputable def q110f1(k:Nat)(n:Nat)(x5:PTe q110i1):=spec_ivEnds_L58 k n x5.1 x5.2.1 x5.2.2.1 x5.2.2.2.1 x5.2.2.2.2.1
def q110p:List PE := [⟨0,0,.val ty_18 false,false⟩]
noncomputable def q110F(k:Nat):F12:=⟨q110C k,rr q110p [(ty_16,true)] Tryz.f260,fun p=>bif Nat.beq p 7474 then some (.cut [e95,e96,⟨5,48,.box ty_4 false,false⟩,⟨13,64,.val ty_18 false,false⟩,⟨14,80,.val ty_0 false,false⟩,⟨15,96,.val ty_0 false,false⟩] 112)else bif Nat.beq p 58 then some (.loop q110i1 q110o1 0 96 (q110f1 k k))else none,0,[]⟩
theorem q110K(k:Nat):Contract Tryz.prog 260 (q110V k):=ctr (q110C k) (rs := [(ty_16,true)]) (ps:=q110p) (q110F k) Tryz.f260 16 ⟨tyOf_ok tys_ok,gOf_ok ⟨q109K k,trivial⟩⟩ (annl [58] ⟨lok q110i1 q110o1 0 96 (q110f1 k) k,trivial⟩)

noncomputable def q111V(k:Nat):Variant:=⟨[.val ty_4 true,.val ty_0 false],[(ty_4,true)],fun x=>spec_dyRound k x.1 x.2.1⟩
noncomputable def q111C(k:Nat):Cfg:=⟨Tryz.prog,tyOf tys,26,gOf [(218,[],q19V),(275,[],q106V),(154,[],q97V k)],false,[],[]⟩
def q111p:List PE := [e65,e3]
noncomputable def q111F(k:Nat):F11:=⟨q111C k,rr q111p [(ty_4,true)] Tryz.f322,fun p=>none,0,[]⟩
theorem q111K(k:Nat):Contract Tryz.prog 322 (q111V k):=ctr (q111C k) (rs := [(ty_4,true)]) (ps:=q111p) (q111F k) Tryz.f322 32 ⟨tyOf_ok tys_ok,gOf_ok ⟨q19K,q106K,q97K k,trivial⟩⟩ (annl [] trivial)

noncomputable def q112V:Variant:=⟨[.val ty_4 true],[(ty_4,true)],fun x=>spec_dyMinus x.1⟩
noncomputable def q112C:Cfg:=⟨Tryz.prog,tyOf tys,9,gOf [],false,[],[]⟩
def q112p:List PE := [e65]
noncomputable def q112F:F11:=⟨q112C,rr q112p [(ty_4,true)] Tryz.f180,fun p=>none,0,[]⟩
theorem q112K:Contract Tryz.prog 180 (q112V):=ctr q112C (rs := [(ty_4,true)]) (ps:=q112p) q112F Tryz.f180 16 ⟨tyOf_ok tys_ok,gOf_ok trivial⟩ (annl [] trivial)

noncomputable def q113V(k:Nat):Variant:=⟨[.val ty_4 true,.val ty_0 false],[(ty_4,true)],fun x=>spec_ivUp k x.1 x.2.1⟩
noncomputable def q113C(k:Nat):Cfg:=⟨Tryz.prog,tyOf tys,10,gOf [(180,[],q112V),(322,[],q111V k)],false,[],[]⟩
def q113p:List PE := [e65,e3]
noncomputable def q113F(k:Nat):F11:=⟨q113C k,rr q113p [(ty_4,true)] Tryz.f323,fun p=>none,0,[]⟩
theorem q113K(k:Nat):Contract Tryz.prog 323 (q113V k):=ctr (q113C k) (rs := [(ty_4,true)]) (ps:=q113p) (q113F k) Tryz.f323 32 ⟨tyOf_ok tys_ok,gOf_ok ⟨q112K,q111K k,trivial⟩⟩ (annl [] trivial)

noncomputable def q114V(k:Nat):Variant:=⟨[.val ty_16 true,.val ty_0 false],[(ty_16,true)],fun x=>spec_ivRound k x.1 x.2.1⟩
noncomputable def q114C(k:Nat):Cfg:=⟨Tryz.prog,tyOf tys,14,gOf [(322,[],q111V k),(323,[],q113V k)],false,[],[]⟩
def q114p:List PE := [e71,e3]
noncomputable def q114F(k:Nat):F12:=⟨q114C k,rr q114p [(ty_16,true)] Tryz.f259,fun p=>none,0,[]⟩
theorem q114K(k:Nat):Contract Tryz.prog 259 (q114V k):=ctr (q114C k) (rs := [(ty_16,true)]) (ps:=q114p) (q114F k) Tryz.f259 32 ⟨tyOf_ok tys_ok,gOf_ok ⟨q111K k,q113K k,trivial⟩⟩ (annl [] trivial)

noncomputable def q115V(k:Nat):Variant:=⟨[.val ty_16 true,.val ty_0 false],[(ty_16,true),(.bool,false)],fun x=>spec_ivPower k x.1 x.2.1⟩
noncomputable def q115C(k:Nat):Cfg:=⟨Tryz.prog,tyOf tys,53,gOf [(343,[],q104V k),(310,[],q105V),(171,[],q100V),(260,[],q110V k),(259,[],q114V k)],false,[],[]⟩
def q115p:List PE := [e71,e3]
noncomputable def q115F(k:Nat):F13:=⟨q115C k,rr q115p [(ty_16,true),(.bool,false)] Tryz.f308,fun p=>bif Nat.beq p 126 then some (.cut [e78,⟨10,48,.eat ty_4,false⟩] 64)else none,0,[]⟩
theorem q115K(k:Nat):Contract Tryz.prog 308 (q115V k):=ctr (q115C k) (rs := [(ty_16,true),(.bool,false)]) (ps:=q115p) (q115F k) Tryz.f308 32 ⟨tyOf_ok tys_ok,gOf_ok ⟨q104K k,q105K,q100K,q110K k,q114K k,trivial⟩⟩ (annl [] trivial)

noncomputable def q116V(k:Nat):Variant:=⟨[.val ty_16 true,.val ty_16 true],[(ty_16,true),(.bool,false)],fun x=>spec_ivMul k x.1 x.2.1⟩
noncomputable def q116C(k:Nat):Cfg:=⟨Tryz.prog,tyOf tys,51,gOf [(179,[],q103V k),(260,[],q110V k),(259,[],q114V k)],false,[],[]⟩
def q116i1:List PE := [e96,e75,e97,⟨8,80,.box ty_4 false,false⟩,⟨17,96,.eat ty_4,false⟩,⟨18,112,.val ty_0 false,false⟩,⟨19,128,.val ty_0 false,false⟩,⟨27,144,.eat ty_4,false⟩,e98,e99]
def q116o1:List PE := [e96,e75,e97,⟨17,80,.eat ty_4,false⟩,e87,e100]
noncomputable def q116f1(k:Nat)(n:Nat)(x2:PTe q116i1):=spec_ivMul_L14950 k n x2.1 x2.2.1 x2.2.2.1 x2.2.2.2.1 x2.2.2.2.2.1 x2.2.2.2.2.2.1 x2.2.2.2.2.2.2.1 x2.2.2.2.2.2.2.2.1 x2.2.2.2.2.2.2.2.2.1 x2.2.2.2.2.2.2.2.2.2.1
def q116i2:List PE := [e96,e75,e97,⟨17,80,.eat ty_4,false⟩,e87,e100]
def q116o2:List PE := [e78,⟨6,48,.eat ty_4,false⟩]
noncomputable def q116f2(k:Nat)(n:Nat)(x5:PTe q116i2):=spec_ivMul_L58 k n x5.1 x5.2.1 x5.2.2.1 x5.2.2.2.1 x5.2.2.2.2.1 x5.2.2.2.2.2.1
def q116p:List PE := [e71,e73]
noncomputable def q116F(k:Nat):F13:=⟨q116C k,rr q116p [(ty_16,true),(.bool,false)] Tryz.f165,fun p=>bif Nat.beq p 14950 then some (.loop q116i1 q116o1 2 192 (q116f1 k k))else bif Nat.beq p 58 then some (.loop q116i2 q116o2 0 128 (q116f2 k k))else none,0,[]⟩
theorem q116K(k:Nat):Contract Tryz.prog 165 (q116V k):=ctr (q116C k) (rs := [(ty_16,true),(.bool,false)]) (ps:=q116p) (q116F k) Tryz.f165 32 ⟨tyOf_ok tys_ok,gOf_ok ⟨q103K k,q110K k,q114K k,trivial⟩⟩ (annl [58,14950] ⟨lok q116i2 q116o2 0 128 (q116f2 k) k,lok q116i1 q116o1 2 192 (q116f1 k) k,trivial⟩)

noncomputable def q117V(k:Nat):Variant:=⟨[.val ty_4 true,.val ty_4 true],[(ty_4,true),(.bool,false)],fun x=>spec_dyAdd k x.1 x.2.1⟩
noncomputable def q117C(k:Nat):Cfg:=⟨Tryz.prog,tyOf tys,42,gOf [(183,[],q21V),(184,[],q108V k),(154,[],q97V k)],false,[],[]⟩
def q117p:List PE := [e65,e67]
noncomputable def q117F(k:Nat):F10:=⟨q117C k,rr q117p [(ty_4,true),(.bool,false)] Tryz.f87,fun p=>none,0,[]⟩
theorem q117K(k:Nat):Contract Tryz.prog 87 (q117V k):=ctr (q117C k) (rs := [(ty_4,true),(.bool,false)]) (ps:=q117p) (q117F k) Tryz.f87 32 ⟨tyOf_ok tys_ok,gOf_ok ⟨q21K,q108K k,q97K k,trivial⟩⟩ (annl [] trivial)

noncomputable def q118V:Variant:=⟨[.val ty_4 true,.val .bool false,.val ty_4 true,.val .bool false],[(ty_16,true),(.bool,false)],fun x=>spec_ivBoth x.1 x.2.1 x.2.2.1 x.2.2.2.1⟩
noncomputable def q118C:Cfg:=⟨Tryz.prog,tyOf tys,20,gOf [],false,[],[]⟩
def q118p:List PE := [e65,⟨1,16,.val .bool false,false⟩,e69,⟨3,48,.val .bool false,false⟩]
noncomputable def q118F:F13:=⟨q118C,rr q118p [(ty_16,true),(.bool,false)] Tryz.f261,fun p=>none,0,[]⟩
theorem q118K:Contract Tryz.prog 261 (q118V):=ctr q118C (rs := [(ty_16,true),(.bool,false)]) (ps:=q118p) q118F Tryz.f261 64 ⟨tyOf_ok tys_ok,gOf_ok trivial⟩ (annl [] trivial)

noncomputable def q119V(k:Nat):Variant:=⟨[.val ty_16 true,.val ty_16 true],[(ty_16,true),(.bool,false)],fun x=>spec_ivAdd k x.1 x.2.1⟩
noncomputable def q119C(k:Nat):Cfg:=⟨Tryz.prog,tyOf tys,33,gOf [(87,[],q117V k),(261,[],q118V)],false,[],[]⟩
def q119p:List PE := [e71,e73]
noncomputable def q119F(k:Nat):F13:=⟨q119C k,rr q119p [(ty_16,true),(.bool,false)] Tryz.f166,fun p=>none,0,[]⟩
theorem q119K(k:Nat):Contract Tryz.prog 166 (q119V k):=ctr (q119C k) (rs := [(ty_16,true),(.bool,false)]) (ps:=q119p) (q119F k) Tryz.f166 32 ⟨tyOf_ok tys_ok,gOf_ok ⟨q117K k,q118K,trivial⟩⟩ (annl [] trivial)

noncomputable def q120V(k:Nat):Variant:=⟨[.val ty_7 false,.val ty_17 false],[(ty_16,true),(.bool,false)],fun x=>spec_vaOver k x.1 x.2.1⟩
noncomputable def q120C(k:Nat):Cfg:=⟨Tryz.prog,tyOf tys,71,gOf [(171,[],q100V),(206,[],q101V),(309,[],q87V),(308,[],q115V k),(165,[],q116V k),(166,[],q119V k)],false,[],[]⟩
def q120i1:List PE := [e74,e75,e101,⟨8,80,.box ty_6 false,false⟩,⟨9,96,.box ty_16 false,false⟩,⟨20,112,.val ty_7 false,false⟩,⟨21,128,.val ty_0 false,false⟩,⟨22,144,.val ty_0 false,false⟩,⟨30,160,.val ty_17 false,false⟩,⟨31,176,.val ty_0 false,false⟩,⟨32,192,.val ty_0 false,false⟩]
def q120o1:List PE := [e74,e75,e101,⟨9,80,.box ty_16 false,false⟩,⟨20,96,.val ty_7 false,false⟩,⟨21,112,.val ty_0 false,false⟩,⟨22,128,.val ty_0 false,false⟩]
noncomputable def q120f1(k:Nat)(n:Nat)(x8:PTe q120i1):=spec_vaOver_L59802 k n x8.1 x8.2.1 x8.2.2.1 x8.2.2.2.1 x8.2.2.2.2.1 x8.2.2.2.2.2.1 x8.2.2.2.2.2.2.1 x8.2.2.2.2.2.2.2.1 x8.2.2.2.2.2.2.2.2.1 x8.2.2.2.2.2.2.2.2.2.1 x8.2.2.2.2.2.2.2.2.2.2.1
def q120i2:List PE := [e74,e75,e101,⟨20,80,.val ty_7 false,false⟩,⟨21,96,.val ty_0 false,false⟩,⟨22,112,.val ty_0 false,false⟩]
def q120o2:List PE := [e78,⟨6,48,.box ty_16 false,false⟩]
noncomputable def q120f2(k:Nat)(n:Nat)(x12:PTe q120i2):=spec_vaOver_L58 k n x12.1 x12.2.1 x12.2.2.1 x12.2.2.2.1 x12.2.2.2.2.1 x12.2.2.2.2.2.1
def q120p:List PE := [e14,e79]
noncomputable def q120F(k:Nat):F13:=⟨q120C k,rr q120p [(ty_16,true),(.bool,false)] Tryz.f232,fun p=>bif Nat.beq p 59802 then some (.loop q120i1 q120o1 2 208 (q120f1 k k))else bif Nat.beq p 58 then some (.loop q120i2 q120o2 0 128 (q120f2 k k))else none,0,[]⟩
theorem q120K(k:Nat):Contract Tryz.prog 232 (q120V k):=ctr (q120C k) (rs := [(ty_16,true),(.bool,false)]) (ps:=q120p) (q120F k) Tryz.f232 32 ⟨tyOf_ok tys_ok,gOf_ok ⟨q100K,q101K,q87K,q115K k,q116K k,q119K k,trivial⟩⟩ (annl [58,59802] ⟨lok q120i2 q120o2 0 128 (q120f2 k) k,lok q120i1 q120o1 2 208 (q120f1 k) k,trivial⟩)

noncomputable def q121V:Variant:=⟨[.val ty_16 true],[(ty_0,false)],fun x=>spec_ivSign x.1⟩
noncomputable def q121C:Cfg:=⟨Tryz.prog,tyOf tys,9,gOf [(310,[],q105V),(266,[],q7V)],false,[],[]⟩
def q121p:List PE := [e71]
noncomputable def q121F:F2:=⟨q121C,rr q121p [(ty_0,false)] Tryz.f233,fun p=>none,0,[]⟩
theorem q121K:Contract Tryz.prog 233 (q121V):=ctr q121C (rs := [(ty_0,false)]) (ps:=q121p) q121F Tryz.f233 16 ⟨tyOf_ok tys_ok,gOf_ok ⟨q105K,q7K,trivial⟩⟩ (annl [] trivial)

noncomputable def q122V(k:Nat):Variant:=⟨[.val ty_11 false,.val ty_17 false,.val ty_0 false],[(.bool,false)],fun x=>spec_cbHolds k x.1 x.2.1 x.2.2.1⟩
noncomputable def q122C(k:Nat):Cfg:=⟨Tryz.prog,tyOf tys,29,gOf [(232,[],q120V k),(233,[],q121V)],false,[],[]⟩
def q122p:List PE := [e41,e79,e6]
noncomputable def q122F(k:Nat):F3:=⟨q122C k,rr q122p [(.bool,false)] Tryz.f134,fun p=>none,0,[]⟩
theorem q122K(k:Nat):Contract Tryz.prog 134 (q122V k):=ctr (q122C k) (rs := [(.bool,false)]) (ps:=q122p) (q122F k) Tryz.f134 48 ⟨tyOf_ok tys_ok,gOf_ok ⟨q120K k,q121K,trivial⟩⟩ (annl [] trivial)

noncomputable def q123V(k:Nat):Variant:=⟨[.val ty_11 false,.val ty_17 false],[(ty_0,false),(.bool,false)],fun x=>spec_cbLabel k x.1 x.2.1⟩
noncomputable def q123C(k:Nat):Cfg:=⟨Tryz.prog,tyOf tys,16,gOf [(134,[],q122V k)],false,[],[]⟩
def q123i1:List PE := [⟨0,32,.val ty_11 false,false⟩,⟨1,48,.val ty_17 false,false⟩,e19]
def q123o1:List PE := []
noncomputable def q123f1(k:Nat)(n:Nat)(x2:PTe q123i1):=spec_cbLabel_L26 k n x2.1 x2.2.1 x2.2.2.1
def q123p:List PE := [e41,e79]
noncomputable def q123F(k:Nat):F15:=⟨q123C k,rr q123p [(ty_0,false),(.bool,false)] Tryz.f217,fun p=>bif Nat.beq p 26 then some (.loop q123i1 q123o1 0 80 (q123f1 k k))else none,0,[]⟩
theorem q123K(k:Nat):Contract Tryz.prog 217 (q123V k):=ctr (q123C k) (rs := [(ty_0,false),(.bool,false)]) (ps:=q123p) (q123F k) Tryz.f217 32 ⟨tyOf_ok tys_ok,gOf_ok ⟨q122K k,trivial⟩⟩ (annl [26] ⟨lok q123i1 q123o1 0 80 (q123f1 k) k,trivial⟩)

noncomputable def q124V(k:Nat):Variant:=⟨[.val ty_11 false,.val ty_10 true,.val ty_0 false],[(ty_8,false)],fun x=>spec_cbLabels k x.1 x.2.1 x.2.2.1⟩
noncomputable def q124C(k:Nat):Cfg:=⟨Tryz.prog,tyOf tys,37,gOf [(133,[],q94V k),(135,[],q99V k),(217,[],q123V k)],false,[],[]⟩
def q124i1:List PE := [⟨0,48,.val ty_11 false,false⟩,⟨2,64,.val ty_0 false,false⟩,⟨4,80,.box ty_10 false,false⟩,e32,⟨13,112,.eat ty_13,false⟩,e51,⟨15,144,.val ty_0 false,false⟩]
def q124o1:List PE := [e88]
noncomputable def q124f1(k:Nat)(n:Nat)(x4:PTe q124i1):=spec_cbLabels_L58 k n x4.1 x4.2.1 x4.2.2.1 x4.2.2.2.1 x4.2.2.2.2.1 x4.2.2.2.2.2.1 x4.2.2.2.2.2.2.1
def q124p:List PE := [e41,e82,e6]
noncomputable def q124F(k:Nat):F7:=⟨q124C k,rr q124p [(ty_8,false)] Tryz.f121,fun p=>bif Nat.beq p 58 then some (.loop q124i1 q124o1 0 160 (q124f1 k k))else none,0,[]⟩
theorem q124K(k:Nat):Contract Tryz.prog 121 (q124V k):=ctr (q124C k) (rs := [(ty_8,false)]) (ps:=q124p) (q124F k) Tryz.f121 48 ⟨tyOf_ok tys_ok,gOf_ok ⟨q94K k,q99K k,q123K k,trivial⟩⟩ (annl [58] ⟨lok q124i1 q124o1 0 160 (q124f1 k) k,trivial⟩)

noncomputable def q125V:Variant:=⟨[.val ty_0 false],[(ty_0,false)],fun x=>spec_cbCount x.1⟩
noncomputable def q125C:Cfg:=⟨Tryz.prog,tyOf tys,7,gOf [(218,[],q19V)],false,[],[]⟩
def q125p:List PE := [e9]
noncomputable def q125F:F2:=⟨q125C,rr q125p [(ty_0,false)] Tryz.f122,fun p=>none,0,[]⟩
theorem q125K:Contract Tryz.prog 122 (q125V):=ctr q125C (rs := [(ty_0,false)]) (ps:=q125p) q125F Tryz.f122 16 ⟨tyOf_ok tys_ok,gOf_ok ⟨q19K,trivial⟩⟩ (annl [] trivial)

noncomputable def q126V(k:Nat):Variant:=⟨[.val ty_11 false,.val ty_10 true,.val ty_0 false],[(ty_8,false),(.bool,false)],fun x=>spec_SurfaceLabels k x.1 x.2.1 x.2.2.1⟩
noncomputable def q126C(k:Nat):Cfg:=⟨Tryz.prog,tyOf tys,24,gOf [(120,[],q93V k),(121,[],q124V k),(122,[],q125V)],false,[],[]⟩
def q126p:List PE := [e41,e82,e6]
noncomputable def q126F(k:Nat):F14:=⟨q126C k,rr q126p [(ty_8,false),(.bool,false)] Tryz.f46,fun p=>none,0,[]⟩
theorem q126K(k:Nat):Contract Tryz.prog 46 (q126V k):=ctr (q126C k) (rs := [(ty_8,false),(.bool,false)]) (ps:=q126p) (q126F k) Tryz.f46 48 ⟨tyOf_ok tys_ok,gOf_ok ⟨q93K k,q124K k,q125K,trivial⟩⟩ (annl [] trivial)

noncomputable def q127V:Variant:=⟨[.val ty_13 true,.val ty_0 false,.val ty_5 true],[(.bool,false)],fun x=>impl_Cell_touches x.1 x.2.1 x.2.2.1⟩
noncomputable def q127C:Cfg:=⟨Tryz.prog,tyOf tys,44,gOf [(228,[],q47V),(118,[],q32V)],false,[],[]⟩
def q127p:List PE := [e54,e3,e102]
noncomputable def q127F:F3:=⟨q127C,rr q127p [(.bool,false)] Tryz.f297,fun p=>none,0,[]⟩
theorem q127K:Contract Tryz.prog 297 (q127V):=ctr q127C (rs := [(.bool,false)]) (ps:=q127p) q127F Tryz.f297 48 ⟨tyOf_ok tys_ok,gOf_ok ⟨q47K,q32K,trivial⟩⟩ (annl [] trivial)

noncomputable def q128V(k:Nat):Variant:=⟨[.val ty_13 true,.val ty_0 false,.val ty_5 true],[(ty_5,true)],fun x=>impl_Cell_from k x.1 x.2.1 x.2.2.1⟩
noncomputable def q128C(k:Nat):Cfg:=⟨Tryz.prog,tyOf tys,37,gOf [(228,[],q47V)],false,[],[]⟩
def q128i1:List PE := [⟨5,48,.box ty_5 false,false⟩,⟨6,64,.box ty_5 false,false⟩,⟨7,80,.box ty_5 false,false⟩,⟨9,96,.box ty_5 false,false⟩,⟨19,112,.val ty_4 true,false⟩,⟨20,128,.val ty_0 false,false⟩]
def q128o1:List PE := [⟨6,48,.box ty_5 false,false⟩,⟨9,64,.box ty_5 false,false⟩]
noncomputable def q128f1(k:Nat)(n:Nat)(x2:PTe q128i1):=impl_Cell_from_L122 k n x2.1 x2.2.1 x2.2.2.1 x2.2.2.2.1 x2.2.2.2.2.1 x2.2.2.2.2.2.1
def q128p:List PE := [e54,e3,e102]
noncomputable def q128F(k:Nat):Fn (Int×Int×Int):=⟨q128C k,rr q128p [(ty_5,true)] Tryz.f298,fun p=>bif Nat.beq p 122 then some (.loop q128i1 q128o1 0 144 (q128f1 k k))else none,0,[]⟩
theorem q128K(k:Nat):Contract Tryz.prog 298 (q128V k):=ctr (q128C k) (rs := [(ty_5,true)]) (ps:=q128p) (q128F k) Tryz.f298 48 ⟨tyOf_ok tys_ok,gOf_ok ⟨q47K,trivial⟩⟩ (annl [122] ⟨lok q128i1 q128o1 0 144 (q128f1 k) k,trivial⟩)

noncomputable def q129V:Variant:=⟨[.val ty_5 true,.val ty_5 true,.val ty_5 true],[(ty_0,false)],fun x=>impl_turned x.1 x.2.1 x.2.2.1⟩
noncomputable def q129C:Cfg:=⟨Tryz.prog,tyOf tys,51,gOf [],false,[],[]⟩
def q129p:List PE := [⟨0,0,.val ty_5 true,false⟩,⟨1,16,.val ty_5 true,false⟩,e102]
noncomputable def q129F:F2:=⟨q129C,rr q129p [(ty_0,false)] Tryz.f301,fun p=>none,0,[]⟩
theorem q129K:Contract Tryz.prog 301 (q129V):=ctr q129C (rs := [(ty_0,false)]) (ps:=q129p) q129F Tryz.f301 48 ⟨tyOf_ok tys_ok,gOf_ok trivial⟩ (annl [] trivial)

noncomputable def q130V(k:Nat):Variant:=⟨[.val ty_0 false,.ptr ty_5 false,.ptr ty_19 false,.ptr ty_0 false,.ptr ty_5 false,.ptr ty_5 false],[(.bool,false)],fun x=>impl_around_1 k x.1 x.2.1 x.2.2.1 x.2.2.2.1 x.2.2.2.2.1 x.2.2.2.2.2.1⟩
noncomputable def q130C(k:Nat):Cfg:=⟨Tryz.prog,tyOf tys,19,gOf [(298,[],q128V k),(301,[],q129V)],false,[],[]⟩
def q130p:List PE := [e9,⟨1,16,.ptr ty_5 false,false⟩,⟨2,32,.ptr ty_19 false,false⟩,⟨3,48,.ptr ty_0 false,false⟩,⟨4,64,.ptr ty_5 false,false⟩,⟨5,80,.ptr ty_5 false,false⟩]
noncomputable def q130F(k:Nat):F3:=⟨q130C k,rr q130p [(.bool,false)] Tryz.f300,fun p=>none,0,[]⟩
theorem q130K(k:Nat):Contract Tryz.prog 300 (q130V k):=ctr (q130C k) (rs := [(.bool,false)]) (ps:=q130p) (q130F k) Tryz.f300 96 ⟨tyOf_ok tys_ok,gOf_ok ⟨q128K k,q129K,trivial⟩⟩ (annl [] trivial)

noncomputable def q131V(k:Nat):Variant:=⟨[.val ty_8 false,.fn 300 [(ty_5,.pr),(ty_19,.pr),(ty_0,.pr),(ty_5,.pr),(ty_5,.pr)]],[(ty_0,false)],fun x=>slices_IndexFunc_int_int_impl_around_1 k x.1 x.2.1⟩
noncomputable def q131C(k:Nat):Cfg:=⟨Tryz.prog,tyOf tys,19,gOf [(300,[],q130V k)],false,[],[]⟩
def q131i1:List PE := [e103,⟨1,48,.fn 300 [(ty_5,.pr),(ty_19,.pr),(ty_0,.pr),(ty_5,.pr),(ty_5,.pr)],false⟩,e17,e24]
def q131o1:List PE := []
noncomputable def q131f1(k:Nat)(n:Nat)(x2:PTe q131i1):=slices_IndexFunc_int_int_impl_around_1_L26 k n x2.1 x2.2.1 x2.2.2.1 x2.2.2.2.1
def q131p:List PE := [e25,⟨1,16,.fn 300 [(ty_5,.pr),(ty_19,.pr),(ty_0,.pr),(ty_5,.pr),(ty_5,.pr)],false⟩]
noncomputable def q131F(k:Nat):F2:=⟨q131C k,rr q131p [(ty_0,false)] Tryz.f299,fun p=>bif Nat.beq p 26 then some (.loop q131i1 q131o1 0 96 (q131f1 k k))else none,0,[]⟩
theorem q131K(k:Nat):Contract Tryz.prog 299 (q131V k):=ctr (q131C k) (rs := [(ty_0,false)]) (ps:=q131p) (q131F k) Tryz.f299 32 ⟨tyOf_ok tys_ok,gOf_ok ⟨q130K k,trivial⟩⟩ (annl [26] ⟨lok q131i1 q131o1 0 96 (q131f1 k) k,trivial⟩)

noncomputable def q132V(k:Nat):Variant:=⟨[.val ty_19 false,.val ty_0 false,.val ty_5 true],[(ty_8,false)],fun x=>impl_around k x.1 x.2.1 x.2.2.1⟩
noncomputable def q132C(k:Nat):Cfg:=⟨Tryz.prog,tyOf tys,73,gOf [(297,[],q127V),(298,[],q128V k),(299,[300],q131V k)],true,[],[]⟩
def q132i1:List PE := [e104,e105,e106,e32,e107,⟨15,128,.val ty_19 false,false⟩,⟨16,144,.val ty_0 false,false⟩,⟨17,160,.val ty_0 false,false⟩]
def q132o1:List PE := [e104,e105,e106,e32,e107]
noncomputable def q132f1(k:Nat)(n:Nat)(x2:PTe q132i1):=impl_around_L122 k n x2.1 x2.2.1 x2.2.2.1 x2.2.2.2.1 x2.2.2.2.2.1 x2.2.2.2.2.2.1 x2.2.2.2.2.2.2.1 x2.2.2.2.2.2.2.2.1
def q132i2:List PE := [e104,e105,e106,e32,e107,⟨11,128,.eat ty_0,false⟩]
def q132o2:List PE := [⟨11,48,.eat ty_0,false⟩]
noncomputable def q132f2(k:Nat)(n:Nat)(x9:PTe q132i2):=impl_around_L508 k n x9.1 x9.2.1 x9.2.2.1 x9.2.2.2.1 x9.2.2.2.2.1 x9.2.2.2.2.2.1
def q132p:List PE := [⟨0,0,.val ty_19 false,false⟩,e3,e102]
noncomputable def q132F(k:Nat):F7:=⟨q132C k,rr q132p [(ty_8,false)] Tryz.f219,fun p=>bif Nat.beq p 122 then some (.loop q132i1 q132o1 0 176 (q132f1 k k))else bif Nat.beq p 508 then some (.peel q132i2 q132o2 2 144 (q132f2 k k))else none,0,[]⟩
theorem q132K(k:Nat):Contract Tryz.prog 219 (q132V k):=ctr (q132C k) (rs := [(ty_8,false)]) (ps:=q132p) (q132F k) Tryz.f219 48 ⟨tyOf_ok tys_ok,gOf_ok ⟨q127K,q128K k,q131K k,trivial⟩⟩ (annl [122,508] ⟨lok q132i1 q132o1 0 176 (q132f1 k) k,lokp q132i2 q132o2 2 144 (q132f2 k) k,trivial⟩)

noncomputable def q133V(k:Nat):Variant:=⟨[.val ty_8 false,.val ty_0 false],[(ty_0,false)],fun x=>slices_Index_int_int k x.1 x.2.1⟩
noncomputable def q133C(k:Nat):Cfg:=⟨Tryz.prog,tyOf tys,19,gOf [],false,[],[]⟩
def q133i1:List PE := [e103,e91,e17,e24]
def q133o1:List PE := []
noncomputable def q133f1(k:Nat)(n:Nat)(x1:PTe q133i1):=slices_Index_int_int_L26 k n x1.1 x1.2.1 x1.2.2.1 x1.2.2.2.1
def q133p:List PE := [e25,e3]
noncomputable def q133F(k:Nat):F2:=⟨q133C k,rr q133p [(ty_0,false)] Tryz.f302,fun p=>bif Nat.beq p 26 then some (.loop q133i1 q133o1 0 96 (q133f1 k k))else none,0,[]⟩
theorem q133K(k:Nat):Contract Tryz.prog 302 (q133V k):=ctr (q133C k) (rs := [(ty_0,false)]) (ps:=q133p) (q133F k) Tryz.f302 32 ⟨tyOf_ok tys_ok,gOf_ok trivial⟩ (annl [26] ⟨lok q133i1 q133o1 0 96 (q133f1 k) k,trivial⟩)

noncomputable def q134V(k:Nat):Variant:=⟨[.val ty_8 false,.val ty_0 false],[(.bool,false)],fun x=>slices_Contains_int_int k x.1 x.2.1⟩
noncomputable def q134C(k:Nat):Cfg:=⟨Tryz.prog,tyOf tys,9,gOf [(302,[],q133V k)],false,[],[]⟩
def q134p:List PE := [e25,e3]
noncomputable def q134F(k:Nat):F3:=⟨q134C k,rr q134p [(.bool,false)] Tryz.f220,fun p=>none,0,[]⟩
theorem q134K(k:Nat):Contract Tryz.prog 220 (q134V k):=ctr (q134C k) (rs := [(.bool,false)]) (ps:=q134p) (q134F k) Tryz.f220 32 ⟨tyOf_ok tys_ok,gOf_ok ⟨q133K k,trivial⟩⟩ (annl [] trivial)

noncomputable def q135V:Variant:=⟨[.val ty_0 false,.val ty_0 false,.val ty_0 false],[(ty_0,false)],fun x=>impl_countOf x.1 x.2.1 x.2.2.1⟩
noncomputable def q135C:Cfg:=⟨Tryz.prog,tyOf tys,25,gOf [],false,[],[]⟩
def q135p:List PE := [e9,e3,e6]
noncomputable def q135F:F2:=⟨q135C,rr q135p [(ty_0,false)] Tryz.f221,fun p=>bif Nat.beq p 52 then some (.cut [⟨10,48,.val ty_5 true,false⟩,⟨11,64,.val .bool false,false⟩] 80)else none,0,[]⟩
theorem q135K:Contract Tryz.prog 221 (q135V):=ctr q135C (rs := [(ty_0,false)]) (ps:=q135p) q135F Tryz.f221 48 ⟨tyOf_ok tys_ok,gOf_ok trivial⟩ (annl [] trivial)

noncomputable def q136V(k:Nat):Variant:=⟨[.val ty_8 false,.val ty_0 false],[(ty_0,false),(.bool,false)],fun x=>impl_degreeOfLabels k x.1 x.2.1⟩
noncomputable def q136C(k:Nat):Cfg:=⟨Tryz.prog,tyOf tys,98,gOf [(126,[],q46V k),(219,[],q132V k),(220,[],q134V k),(221,[],q135V)],false,[],[]⟩
def q136i1:List PE := [e103,e91,e108,e20,e84,e89,e109,⟨12,144,.eat ty_0,false⟩,e110,e111,e112,e113,e114,e115,⟨43,256,.eat ty_0,false⟩,⟨44,272,.val ty_0 false,false⟩,⟨45,288,.val ty_0 false,false⟩]
def q136o1:List PE := [e103,e91,e108,e20,e84,e89,e109,⟨12,144,.eat ty_0,false⟩,e110,e111,e112,e113,e114,e115]
noncomputable def q136f1(k:Nat)(n:Nat)(x3:PTe q136i1):=impl_degreeOfLabels_L3919157658 k n x3.1 x3.2.1 x3.2.2.1 x3.2.2.2.1 x3.2.2.2.2.1 x3.2.2.2.2.2.1 x3.2.2.2.2.2.2.1 x3.2.2.2.2.2.2.2.1 x3.2.2.2.2.2.2.2.2.1 x3.2.2.2.2.2.2.2.2.2.1 x3.2.2.2.2.2.2.2.2.2.2.1 x3.2.2.2.2.2.2.2.2.2.2.2.1 x3.2.2.2.2.2.2.2.2.2.2.2.2.1 x3.2.2.2.2.2.2.2.2.2.2.2.2.2.1 x3.2.2.2.2.2.2.2.2.2.2.2.2.2.2.1 x3.2.2.2.2.2.2.2.2.2.2.2.2.2.2.2.1 x3.2.2.2.2.2.2.2.2.2.2.2.2.2.2.2.2.1
def q136i2:List PE := [e103,e91,e108,e20,e84,e89,e109,e116,e110,e111,e112,e113,e114,e115,⟨57,256,.val ty_8 false,false⟩,⟨58,272,.val ty_0 false,false⟩,⟨59,288,.val ty_0 false,false⟩]
def q136o2:List PE := [e103,e91,e108,e20,e84,e89,e109,e116,e110,e111,e112,e113,e114,e115]
noncomputable def q136f2(k:Nat)(n:Nat)(x7:PTe q136i2):=impl_degreeOfLabels_L7838315322 k n x7.1 x7.2.1 x7.2.2.1 x7.2.2.2.1 x7.2.2.2.2.1 x7.2.2.2.2.2.1 x7.2.2.2.2.2.2.1 x7.2.2.2.2.2.2.2.1 x7.2.2.2.2.2.2.2.2.1 x7.2.2.2.2.2.2.2.2.2.1 x7.2.2.2.2.2.2.2.2.2.2.1 x7.2.2.2.2.2.2.2.2.2.2.2.1 x7.2.2.2.2.2.2.2.2.2.2.2.2.1 x7.2.2.2.2.2.2.2.2.2.2.2.2.2.1 x7.2.2.2.2.2.2.2.2.2.2.2.2.2.2.1 x7.2.2.2.2.2.2.2.2.2.2.2.2.2.2.2.1 x7.2.2.2.2.2.2.2.2.2.2.2.2.2.2.2.2.1
def q136i3:List PE := [e103,e91,e108,e20,e84,e89,e109,e116,⟨17,160,.val ty_0 false,false⟩,⟨23,176,.val ty_0 false,false⟩,⟨24,192,.val ty_0 false,false⟩,⟨28,208,.val ty_0 false,false⟩,⟨29,224,.val ty_0 false,false⟩,⟨33,240,.val ty_0 false,false⟩,⟨34,256,.val ty_0 false,false⟩]
def q136o3:List PE := [e103,e91,e108,e20,e84,e89,e109,⟨23,144,.val ty_0 false,false⟩,⟨24,160,.val ty_0 false,false⟩,⟨28,176,.val ty_0 false,false⟩,⟨29,192,.val ty_0 false,false⟩,⟨33,208,.val ty_0 false,false⟩,⟨34,224,.val ty_0 false,false⟩]
noncomputable def q136f3(k:Nat)(n:Nat)(x11:PTe q136i3):=impl_degreeOfLabels_L7838315326 k n x11.1 x11.2.1 x11.2.2.1 x11.2.2.2.1 x11.2.2.2.2.1 x11.2.2.2.2.2.1 x11.2.2.2.2.2.2.1 x11.2.2.2.2.2.2.2.1 x11.2.2.2.2.2.2.2.2.1 x11.2.2.2.2.2.2.2.2.2.1 x11.2.2.2.2.2.2.2.2.2.2.1 x11.2.2.2.2.2.2.2.2.2.2.2.1 x11.2.2.2.2.2.2.2.2.2.2.2.2.1 x11.2.2.2.2.2.2.2.2.2.2.2.2.2.1 x11.2.2.2.2.2.2.2.2.2.2.2.2.2.2.1
def q136i4:List PE := [e103,e91,e108,e20,e84,e89,e109,⟨23,144,.val ty_0 false,false⟩,⟨24,160,.val ty_0 false,false⟩,⟨28,176,.val ty_0 false,false⟩,⟨29,192,.val ty_0 false,false⟩,⟨33,208,.val ty_0 false,false⟩,⟨34,224,.val ty_0 false,false⟩]
def q136o4:List PE := [e103,e91,e108,e20,e84,e89,⟨23,128,.val ty_0 false,false⟩,e92,e98,e99]
noncomputable def q136f4(k:Nat)(n:Nat)(x14:PTe q136i4):=impl_degreeOfLabels_L3827302 k n x14.1 x14.2.1 x14.2.2.1 x14.2.2.2.1 x14.2.2.2.2.1 x14.2.2.2.2.2.1 x14.2.2.2.2.2.2.1 x14.2.2.2.2.2.2.2.1 x14.2.2.2.2.2.2.2.2.1 x14.2.2.2.2.2.2.2.2.2.1 x14.2.2.2.2.2.2.2.2.2.2.1 x14.2.2.2.2.2.2.2.2.2.2.2.1 x14.2.2.2.2.2.2.2.2.2.2.2.2.1
def q136i5:List PE := [e103,e91,e108,e20,e84,e89,⟨23,128,.val ty_0 false,false⟩,e92,e98,e99]
def q136o5:List PE := [e103,e91,e108,e20,e84,⟨23,112,.val ty_0 false,false⟩,⟨24,128,.val ty_0 false,false⟩]
noncomputable def q136f5(k:Nat)(n:Nat)(x17:PTe q136i5):=impl_degreeOfLabels_L14950 k n x17.1 x17.2.1 x17.2.2.1 x17.2.2.2.1 x17.2.2.2.2.1 x17.2.2.2.2.2.1 x17.2.2.2.2.2.2.1 x17.2.2.2.2.2.2.2.1 x17.2.2.2.2.2.2.2.2.1 x17.2.2.2.2.2.2.2.2.2.1
def q136i6:List PE := [e103,e91,e108,e20,e84,⟨23,112,.val ty_0 false,false⟩,⟨24,128,.val ty_0 false,false⟩]
def q136o6:List PE := [⟨8,32,.val ty_0 false,false⟩]
noncomputable def q136f6(k:Nat)(n:Nat)(x20:PTe q136i6):=impl_degreeOfLabels_L58 k n x20.1 x20.2.1 x20.2.2.1 x20.2.2.2.1 x20.2.2.2.2.1 x20.2.2.2.2.2.1 x20.2.2.2.2.2.2.1
def q136p:List PE := [e25,e3]
noncomputable def q136F(k:Nat):F15:=⟨q136C k,rr q136p [(ty_0,false),(.bool,false)] Tryz.f123,fun p=>bif Nat.beq p 3919157658 then some (.loop q136i1 q136o1 6 304 (q136f1 k k))else bif Nat.beq p 7838315322 then some (.loop q136i2 q136o2 8 304 (q136f2 k k))else bif Nat.beq p 7838315326 then some (.loop q136i3 q136o3 10 272 (q136f3 k k))else bif Nat.beq p 3827302 then some (.loop q136i4 q136o4 4 240 (q136f4 k k))else bif Nat.beq p 14950 then some (.loop q136i5 q136o5 2 192 (q136f5 k k))else bif Nat.beq p 58 then some (.loop q136i6 q136o6 0 144 (q136f6 k k))else none,0,[]⟩
theorem q136K(k:Nat):Contract Tryz.prog 123 (q136V k):=ctr (q136C k) (rs := [(ty_0,false),(.bool,false)]) (ps:=q136p) (q136F k) Tryz.f123 32 ⟨tyOf_ok tys_ok,gOf_ok ⟨q46K k,q132K k,q134K k,q135K,trivial⟩⟩ (annl [58,14950,3827302,3919157658,7838315322,7838315326] ⟨lok q136i6 q136o6 0 144 (q136f6 k) k,lok q136i5 q136o5 2 192 (q136f5 k) k,lok q136i4 q136o4 4 240 (q136f4 k) k,lok q136i1 q136o1 6 304 (q136f1 k) k,lok q136i2 q136o2 8 304 (q136f2 k) k,lok q136i3 q136o3 10 272 (q136f3 k) k,trivial⟩)

noncomputable def q137V(k:Nat):Variant:=⟨[.val ty_11 false,.val ty_10 true,.val ty_0 false],[(ty_0,false),(.bool,false)],fun x=>impl_CubeDegree k x.1 x.2.1 x.2.2.1⟩
noncomputable def q137C(k:Nat):Cfg:=⟨Tryz.prog,tyOf tys,31,gOf [(117,[],q45V k),(118,[],q32V),(119,[],q85V k),(123,[],q136V k)],false,[],[]⟩
def q137p:List PE := [e41,e82,e6]
noncomputable def q137F(k:Nat):F15:=⟨q137C k,rr q137p [(ty_0,false),(.bool,false)] Tryz.f47,fun p=>none,0,[]⟩
theorem q137K(k:Nat):Contract Tryz.prog 47 (q137V k):=ctr (q137C k) (rs := [(ty_0,false),(.bool,false)]) (ps:=q137p) (q137F k) Tryz.f47 48 ⟨tyOf_ok tys_ok,gOf_ok ⟨q45K k,q32K,q85K k,q136K k,trivial⟩⟩ (annl [] trivial)

noncomputable def q138V(k:Nat):Variant:=⟨[.val ty_13 true,.val ty_8 false,.val ty_0 false],[(ty_8,false)],fun x=>spec_cbOffset k x.1 x.2.1 x.2.2.1⟩
noncomputable def q138C(k:Nat):Cfg:=⟨Tryz.prog,tyOf tys,53,gOf [(234,[],q95V k),(98,[],q10V)],false,[],[]⟩
def q138i1:List PE := [e88,⟨8,64,.eat ty_0,false⟩,⟨9,80,.eat ty_0,false⟩,⟨18,96,.val ty_8 false,false⟩,e100,⟨20,128,.val ty_0 false,false⟩]
def q138o1:List PE := [⟨9,48,.eat ty_0,false⟩]
noncomputable def q138f1(k:Nat)(n:Nat)(x3:PTe q138i1):=spec_cbOffset_L122 k n x3.1 x3.2.1 x3.2.2.1 x3.2.2.2.1 x3.2.2.2.2.1 x3.2.2.2.2.2.1
def q138p:List PE := [e54,e4,e6]
noncomputable def q138F(k:Nat):F7:=⟨q138C k,rr q138p [(ty_8,false)] Tryz.f303,fun p=>bif Nat.beq p 122 then some (.loop q138i1 q138o1 0 144 (q138f1 k k))else none,0,[]⟩
theorem q138K(k:Nat):Contract Tryz.prog 303 (q138V k):=ctr (q138C k) (rs := [(ty_8,false)]) (ps:=q138p) (q138F k) Tryz.f303 48 ⟨tyOf_ok tys_ok,gOf_ok ⟨q95K k,q10K,trivial⟩⟩ (annl [122] ⟨lok q138i1 q138o1 0 144 (q138f1 k) k,trivial⟩)

noncomputable def q139V:Variant:=⟨[.val ty_8 false,.val ty_8 false,.val ty_8 false],[(ty_0,false)],fun x=>spec_cbTurn x.1 x.2.1 x.2.2.1⟩
noncomputable def q139C:Cfg:=⟨Tryz.prog,tyOf tys,66,gOf [],false,[],[]⟩
def q139p:List PE := [e25,e4,⟨2,32,.val ty_8 false,false⟩]
noncomputable def q139F:F2:=⟨q139C,rr q139p [(ty_0,false)] Tryz.f304,fun p=>none,0,[]⟩
theorem q139K:Contract Tryz.prog 304 (q139V):=ctr q139C (rs := [(ty_0,false)]) (ps:=q139p) q139F Tryz.f304 48 ⟨tyOf_ok tys_ok,gOf_ok trivial⟩ (annl [] trivial)

noncomputable def q140V(k:Nat):Variant:=⟨[.val ty_8 false,.val ty_8 false,.val ty_0 false,.val ty_19 false],[(ty_8,false)],fun x=>spec_cbAround k x.1 x.2.1 x.2.2.1 x.2.2.2.1⟩
noncomputable def q140C(k:Nat):Cfg:=⟨Tryz.prog,tyOf tys,98,gOf [(303,[],q138V k),(304,[],q139V)],false,[],[]⟩
def q140i1:List PE := [e117,e118,e119,⟨3,112,.val ty_19 false,false⟩,⟨9,128,.eat ty_0,false⟩,⟨21,144,.val ty_8 false,false⟩,⟨22,160,.val ty_0 false,false⟩,⟨23,176,.val ty_0 false,false⟩]
def q140o1:List PE := [e117,e118,e119,⟨3,112,.val ty_19 false,false⟩,⟨9,128,.eat ty_0,false⟩]
noncomputable def q140f1(k:Nat)(n:Nat)(x1:PTe q140i1):=spec_cbAround_L58 k n x1.1 x1.2.1 x1.2.2.1 x1.2.2.2.1 x1.2.2.2.2.1 x1.2.2.2.2.2.1 x1.2.2.2.2.2.2.1 x1.2.2.2.2.2.2.2.1
def q140i2:List PE := [e117,e118,e119,⟨9,112,.eat ty_0,false⟩,⟨12,128,.eat ty_8,false⟩,⟨13,144,.eat ty_0,false⟩,⟨41,160,.val ty_19 false,false⟩,⟨42,176,.val ty_0 false,false⟩,⟨43,192,.val ty_0 false,false⟩]
def q140o2:List PE := [e120,e121,e122]
noncomputable def q140f2(k:Nat)(n:Nat)(x5:PTe q140i2):=spec_cbAround_L506 k n x5.1 x5.2.1 x5.2.2.1 x5.2.2.2.1 x5.2.2.2.2.1 x5.2.2.2.2.2.1 x5.2.2.2.2.2.2.1 x5.2.2.2.2.2.2.2.1 x5.2.2.2.2.2.2.2.2.1
def q140i3:List PE := [e120,e121,e122,e123,e72,e124,e125,⟨79,176,.val ty_0 false,false⟩,⟨80,192,.val ty_0 false,false⟩]
def q140o3:List PE := [e120,e121,e122,e123,e72,e124,e125]
noncomputable def q140f3(k:Nat)(n:Nat)(x9:PTe q140i3):=spec_cbAround_L1047142 k n x9.1 x9.2.1 x9.2.2.1 x9.2.2.2.1 x9.2.2.2.2.1 x9.2.2.2.2.2.1 x9.2.2.2.2.2.2.1 x9.2.2.2.2.2.2.2.1 x9.2.2.2.2.2.2.2.2.1
def q140i4:List PE := [e120,e121,e122,e123,e72,e124,e125]
def q140o4:List PE := [⟨17,64,.eat ty_0,false⟩]
noncomputable def q140f4(k:Nat)(n:Nat)(x12:PTe q140i4):=spec_cbAround_L4090 k n x12.1 x12.2.1 x12.2.2.1 x12.2.2.2.1 x12.2.2.2.2.1 x12.2.2.2.2.2.1 x12.2.2.2.2.2.2.1
def q140p:List PE := [e25,e4,e6,⟨3,48,.val ty_19 false,false⟩]
noncomputable def q140F(k:Nat):F7:=⟨q140C k,rr q140p [(ty_8,false)] Tryz.f222,fun p=>bif Nat.beq p 58 then some (.loop q140i1 q140o1 0 192 (q140f1 k k))else bif Nat.beq p 506 then some (.loop q140i2 q140o2 3 208 (q140f2 k k))else bif Nat.beq p 1047142 then some (.loop q140i3 q140o3 7 208 (q140f3 k k))else bif Nat.beq p 4090 then some (.loop q140i4 q140o4 5 176 (q140f4 k k))else none,0,[]⟩
theorem q140K(k:Nat):Contract Tryz.prog 222 (q140V k):=ctr (q140C k) (rs := [(ty_8,false)]) (ps:=q140p) (q140F k) Tryz.f222 64 ⟨tyOf_ok tys_ok,gOf_ok ⟨q138K k,q139K,trivial⟩⟩ (annl [58,506,4090,1047142] ⟨lok q140i1 q140o1 0 192 (q140f1 k) k,lok q140i2 q140o2 3 208 (q140f2 k) k,lok q140i4 q140o4 5 176 (q140f4 k) k,lok q140i3 q140o3 7 208 (q140f3 k) k,trivial⟩)

noncomputable def q141V(k:Nat):Variant:=⟨[.val ty_8 false,.val ty_0 false],[(.bool,false)],fun x=>spec_l1Has k x.1 x.2.1⟩
noncomputable def q141C(k:Nat):Cfg:=⟨Tryz.prog,tyOf tys,17,gOf [],false,[],[]⟩
def q141i1:List PE := [e7,⟨7,48,.val ty_8 false,false⟩,e27,e50]
def q141o1:List PE := []
noncomputable def q141f1(k:Nat)(n:Nat)(x1:PTe q141i1):=spec_l1Has_L26 k n x1.1 x1.2.1 x1.2.2.1 x1.2.2.2.1
def q141p:List PE := [e25,e3]
noncomputable def q141F(k:Nat):F3:=⟨q141C k,rr q141p [(.bool,false)] Tryz.f223,fun p=>bif Nat.beq p 26 then some (.loop q141i1 q141o1 0 96 (q141f1 k k))else none,0,[]⟩
theorem q141K(k:Nat):Contract Tryz.prog 223 (q141V k):=ctr (q141C k) (rs := [(.bool,false)]) (ps:=q141p) (q141F k) Tryz.f223 32 ⟨tyOf_ok tys_ok,gOf_ok trivial⟩ (annl [26] ⟨lok q141i1 q141o1 0 96 (q141f1 k) k,trivial⟩)

noncomputable def q142V:Variant:=⟨[.val ty_0 false,.val ty_0 false,.val ty_0 false],[(ty_0,false)],fun x=>spec_cbTriple x.1 x.2.1 x.2.2.1⟩
noncomputable def q142C:Cfg:=⟨Tryz.prog,tyOf tys,38,gOf [],false,[],[]⟩
def q142p:List PE := [e9,e3,e6]
noncomputable def q142F:F2:=⟨q142C,rr q142p [(ty_0,false)] Tryz.f224,fun p=>none,0,[]⟩
theorem q142K:Contract Tryz.prog 224 (q142V):=ctr q142C (rs := [(ty_0,false)]) (ps:=q142p) q142F Tryz.f224 48 ⟨tyOf_ok tys_ok,gOf_ok trivial⟩ (annl [] trivial)

noncomputable def q143V(k:Nat):Variant:=⟨[.val ty_8 false,.val ty_0 false],[(ty_0,false),(.bool,false)],fun x=>spec_cbDegree k x.1 x.2.1⟩
noncomputable def q143C(k:Nat):Cfg:=⟨Tryz.prog,tyOf tys,93,gOf [(218,[],q19V),(133,[],q94V k),(222,[],q140V k),(223,[],q141V k),(224,[],q142V)],false,[],[]⟩
def q143i1:List PE := [e103,e16,e126,e24,e48,e127,e128,e116,⟨59,160,.val ty_8 false,false⟩,⟨60,176,.val ty_0 false,false⟩,⟨61,192,.val ty_0 false,false⟩]
def q143o1:List PE := [e103,e16,e126,e24,e48,e127,e128,e116]
noncomputable def q143f1(k:Nat)(n:Nat)(x5:PTe q143i1):=spec_cbDegree_L524887194 k n x5.1 x5.2.1 x5.2.2.1 x5.2.2.2.1 x5.2.2.2.2.1 x5.2.2.2.2.2.1 x5.2.2.2.2.2.2.1 x5.2.2.2.2.2.2.2.1 x5.2.2.2.2.2.2.2.2.1 x5.2.2.2.2.2.2.2.2.2.1 x5.2.2.2.2.2.2.2.2.2.2.1
def q143i2:List PE := [e103,e16,e126,e24,e48,e127,e128,e116,⟨15,160,.val ty_0 false,false⟩]
def q143o2:List PE := [e103,e16,e126,e24,e48,e127,e128]
noncomputable def q143f2(k:Nat)(n:Nat)(x9:PTe q143i2):=spec_cbDegree_L524887198 k n x9.1 x9.2.1 x9.2.2.1 x9.2.2.2.1 x9.2.2.2.2.1 x9.2.2.2.2.2.1 x9.2.2.2.2.2.2.1 x9.2.2.2.2.2.2.2.1 x9.2.2.2.2.2.2.2.2.1
def q143i3:List PE := [e103,e16,e126,e24,e48,e127,e128]
def q143o3:List PE := [e103,e16,e126,e24,e48,e127]
noncomputable def q143f3(k:Nat)(n:Nat)(x30:PTe q143i3):=spec_cbDegree_L1025170 k n x30.1 x30.2.1 x30.2.2.1 x30.2.2.2.1 x30.2.2.2.2.1 x30.2.2.2.2.2.1 x30.2.2.2.2.2.2.1
def q143i4:List PE := [e103,e16,e126,e24,e48,e127]
def q143o4:List PE := [e103,e16,e126,e24,e48]
noncomputable def q143f4(k:Nat)(n:Nat)(x33:PTe q143i4):=spec_cbDegree_L16018 k n x33.1 x33.2.1 x33.2.2.1 x33.2.2.2.1 x33.2.2.2.2.1 x33.2.2.2.2.2.1
def q143i5:List PE := [e103,e16,e126,e24,e48]
def q143o5:List PE := [⟨8,32,.val ty_0 false,false⟩]
noncomputable def q143f5(k:Nat)(n:Nat)(x36:PTe q143i5):=spec_cbDegree_L250 k n x36.1 x36.2.1 x36.2.2.1 x36.2.2.2.1 x36.2.2.2.2.1
def q143p:List PE := [e25,e3]
noncomputable def q143F(k:Nat):F15:=⟨q143C k,rr q143p [(ty_0,false),(.bool,false)] Tryz.f124,fun p=>bif Nat.beq p 524887194 then some (.loop q143i1 q143o1 6 208 (q143f1 k k))else bif Nat.beq p 524887198 then some (.loop q143i2 q143o2 8 176 (q143f2 k k))else bif Nat.beq p 1025170 then some (.loop q143i3 q143o3 4 144 (q143f3 k k))else bif Nat.beq p 16018 then some (.loop q143i4 q143o4 2 128 (q143f4 k k))else bif Nat.beq p 250 then some (.loop q143i5 q143o5 0 112 (q143f5 k k))else none,0,[]⟩
theorem q143K(k:Nat):Contract Tryz.prog 124 (q143V k):=ctr (q143C k) (rs := [(ty_0,false),(.bool,false)]) (ps:=q143p) (q143F k) Tryz.f124 32 ⟨tyOf_ok tys_ok,gOf_ok ⟨q19K,q94K k,q140K k,q141K k,q142K,trivial⟩⟩ (annl [250,16018,1025170,524887194,524887198] ⟨lok q143i5 q143o5 0 112 (q143f5 k) k,lok q143i4 q143o4 2 128 (q143f4 k) k,lok q143i3 q143o3 4 144 (q143f3 k) k,lok q143i1 q143o1 6 208 (q143f1 k) k,lok q143i2 q143o2 8 176 (q143f2 k) k,trivial⟩)

noncomputable def q144V(k:Nat):Variant:=⟨[.val ty_11 false,.val ty_10 true,.val ty_0 false],[(ty_0,false),(.bool,false)],fun x=>spec_CubeDegree k x.1 x.2.1 x.2.2.1⟩
noncomputable def q144C(k:Nat):Cfg:=⟨Tryz.prog,tyOf tys,24,gOf [(46,[],q126V k),(124,[],q143V k)],false,[],[]⟩
def q144p:List PE := [e41,e82,e6]
noncomputable def q144F(k:Nat):F15:=⟨q144C k,rr q144p [(ty_0,false),(.bool,false)] Tryz.f48,fun p=>none,0,[]⟩
theorem q144K(k:Nat):Contract Tryz.prog 48 (q144V k):=ctr (q144C k) (rs := [(ty_0,false),(.bool,false)]) (ps:=q144p) (q144F k) Tryz.f48 48 ⟨tyOf_ok tys_ok,gOf_ok ⟨q126K k,q143K k,trivial⟩⟩ (annl [] trivial)

noncomputable def q145V(k:Nat):Variant:=⟨[.val ty_13 true,.ptr ty_11 false,.ptr ty_10 false,.ptr ty_0 false],[(.bool,false)],fun x=>impl_FirstUnlabelled_1 k x.1 x.2.1 x.2.2.1 x.2.2.2.1⟩
noncomputable def q145C(k:Nat):Cfg:=⟨Tryz.prog,tyOf tys,11,gOf [(128,[],q84V k)],false,[],[]⟩
def q145p:List PE := [e54,⟨1,16,.ptr ty_11 false,false⟩,⟨2,32,.ptr ty_10 false,false⟩,⟨3,48,.ptr ty_0 false,false⟩]
noncomputable def q145F(k:Nat):F3:=⟨q145C k,rr q145p [(.bool,false)] Tryz.f127,fun p=>none,0,[]⟩
theorem q145K(k:Nat):Contract Tryz.prog 127 (q145V k):=ctr (q145C k) (rs := [(.bool,false)]) (ps:=q145p) (q145F k) Tryz.f127 64 ⟨tyOf_ok tys_ok,gOf_ok ⟨q84K k,trivial⟩⟩ (annl [] trivial)

noncomputable def q146V(k:Nat):Variant:=⟨[.val ty_19 false,.fn 127 [(ty_11,.pr),(ty_10,.pr),(ty_0,.pr)]],[(ty_0,false)],fun x=>slices_IndexFunc_Cell_Cell_impl_FirstUnlabelled_1 k x.1 x.2.1⟩
noncomputable def q146C(k:Nat):Cfg:=⟨Tryz.prog,tyOf tys,19,gOf [(127,[],q145V k)],false,[],[]⟩
def q146i1:List PE := [⟨0,32,.val ty_19 false,false⟩,⟨1,48,.fn 127 [(ty_11,.pr),(ty_10,.pr),(ty_0,.pr)],false⟩,e17,e24]
def q146o1:List PE := []
noncomputable def q146f1(k:Nat)(n:Nat)(x2:PTe q146i1):=slices_IndexFunc_Cell_Cell_impl_FirstUnlabelled_1_L26 k n x2.1 x2.2.1 x2.2.2.1 x2.2.2.2.1
def q146p:List PE := [⟨0,0,.val ty_19 false,false⟩,⟨1,16,.fn 127 [(ty_11,.pr),(ty_10,.pr),(ty_0,.pr)],false⟩]
noncomputable def q146F(k:Nat):F2:=⟨q146C k,rr q146p [(ty_0,false)] Tryz.f125,fun p=>bif Nat.beq p 26 then some (.loop q146i1 q146o1 0 96 (q146f1 k k))else none,0,[]⟩
theorem q146K(k:Nat):Contract Tryz.prog 125 (q146V k):=ctr (q146C k) (rs := [(ty_0,false)]) (ps:=q146p) (q146F k) Tryz.f125 32 ⟨tyOf_ok tys_ok,gOf_ok ⟨q145K k,trivial⟩⟩ (annl [26] ⟨lok q146i1 q146o1 0 96 (q146f1 k) k,trivial⟩)

noncomputable def q147V(k:Nat):Variant:=⟨[.val ty_11 false,.val ty_10 true,.val ty_0 false],[(ty_0,false),(.bool,false)],fun x=>impl_FirstUnlabelled k x.1 x.2.1 x.2.2.1⟩
noncomputable def q147C(k:Nat):Cfg:=⟨Tryz.prog,tyOf tys,25,gOf [(117,[],q45V k),(118,[],q32V),(126,[],q46V k),(125,[127],q146V k)],false,[],[]⟩
def q147p:List PE := [e41,e82,e6]
noncomputable def q147F(k:Nat):F15:=⟨q147C k,rr q147p [(ty_0,false),(.bool,false)] Tryz.f49,fun p=>none,0,[]⟩
theorem q147K(k:Nat):Contract Tryz.prog 49 (q147V k):=ctr (q147C k) (rs := [(ty_0,false),(.bool,false)]) (ps:=q147p) (q147F k) Tryz.f49 48 ⟨tyOf_ok tys_ok,gOf_ok ⟨q45K k,q32K,q46K k,q146K k,trivial⟩⟩ (annl [] trivial)

noncomputable def q148V(k:Nat):Variant:=⟨[.val ty_11 false,.val ty_10 true,.val ty_0 false],[(ty_0,false),(.bool,false)],fun x=>spec_FirstUnlabelled k x.1 x.2.1 x.2.2.1⟩
noncomputable def q148C(k:Nat):Cfg:=⟨Tryz.prog,tyOf tys,24,gOf [(120,[],q93V k),(121,[],q124V k),(122,[],q125V)],false,[],[]⟩
def q148p:List PE := [e41,e82,e6]
noncomputable def q148F(k:Nat):F15:=⟨q148C k,rr q148p [(ty_0,false),(.bool,false)] Tryz.f50,fun p=>none,0,[]⟩
theorem q148K(k:Nat):Contract Tryz.prog 50 (q148V k):=ctr (q148C k) (rs := [(ty_0,false),(.bool,false)]) (ps:=q148p) (q148F k) Tryz.f50 48 ⟨tyOf_ok tys_ok,gOf_ok ⟨q93K k,q124K k,q125K,trivial⟩⟩ (annl [] trivial)

noncomputable def q149V(k:Nat):Variant:=⟨[.ptr ty_3 true,.val ty_0 false],[(ty_8,false)],fun x=>spec_l1Cur_cellLabels k KSl.xs x.1 x.2.1⟩
noncomputable def q149C(k:Nat):Cfg:=⟨Tryz.prog,tyOf tys,45,gOf [(216,[],q92V),(122,[],q125V),(70,[],q4V),(91,[],q3V),(129,[],q2V)],true,[],[36]⟩
def q149i1:List PE := [e1,e7,e129,e19]
def q149o1:List PE := [e1,e7,e129]
noncomputable def q149f1(k:Nat)(n:Nat)(x5:PTe q149i1):=spec_l1Cur_cellLabels_L124 k KSl.xs n x5.1 x5.2.1 x5.2.2.1 x5.2.2.2.1
def q149p:List PE := [e1,e3]
noncomputable def q149F(k:Nat):Fn ((List Int)×Unit×Int×Int):=⟨q149C k,rr q149p [(ty_8,false)] Tryz.f130,fun p=>bif Nat.beq p 124 then some (.loop q149i1 q149o1 0 80 (q149f1 k k))else bif Nat.beq p 126 then some (.cut [e1,⟨5,32,.eat ty_0,false⟩] 48)else bif Nat.beq p 30 then some (.cut [e1,e7,e129,e19] 80)else none,0,[0]⟩
theorem q149K(k:Nat):Contract Tryz.prog 130 (q149V k):=ctr (q149C k) (rs := [(ty_8,false)]) (ps:=q149p) (q149F k) Tryz.f130 32 ⟨tyOf_ok tys_ok,gOf_ok ⟨q92K,q125K,q4K,q3K,q2K,trivial⟩⟩ (annl [124] ⟨lok q149i1 q149o1 0 80 (q149f1 k) k,trivial⟩)

noncomputable def q150V(k:Nat):Variant:=⟨[.val (.sl (.int .u8)) false],[(ty_11,false),(ty_10,true),(ty_0,false),(ty_8,false)],fun x=>spec_DrawCheckLabels k x.1⟩
noncomputable def spec_DrawCheckLabels_V0(k:Nat):Variant:=⟨[.val .ks false],[(ty_11,false),(ty_10,true),(ty_0,false),(ty_8,false)],fun _=>spec_DrawCheckLabels k KSl.xs⟩
noncomputable def q150C(k:Nat):Cfg:=⟨Tryz.prog,tyOf tys,59,gOf [(115,[],q29V k),(116,[],q30V),(120,[],q93V k),(91,[],q3V),(121,[],q124V k),(122,[],q125V),(129,[],q2V),(130,[],q149V k)],false,[],[]⟩
def q150p:List PE := [⟨0,0,.val .ks false,false⟩]
noncomputable def q150F(k:Nat):Fn ((List (List (Int×Int×Int×Int)))×(Int×(List Int)×List Int)×Int×List Int):=⟨q150C k,rr q150p [(ty_11,false),(ty_10,true),(ty_0,false),(ty_8,false)] Tryz.f51,fun p=>bif Nat.beq p 4012 then some (.cut [e35,⟨7,32,.eat ty_7,false⟩,⟨8,48,.box ty_10 true,false⟩,e18,⟨10,80,.eat ty_0,false⟩] 96)else bif Nat.beq p 62 then some (.cut [e35,⟨6,32,.box ty_3 false,false⟩,⟨7,48,.eat ty_7,false⟩,e30,e50] 96)else none,0,[]⟩
theorem spec_DrawCheckLabels_K0(k:Nat):Contract Tryz.prog 51 (spec_DrawCheckLabels_V0 k):=ctr (q150C k) (rs := [(ty_11,false),(ty_10,true),(ty_0,false),(ty_8,false)]) (ps:=q150p) (q150F k) Tryz.f51 16 ⟨tyOf_ok tys_ok,gOf_ok ⟨q29K k,q30K,q93K k,q3K,q124K k,q125K,q2K,q149K k,trivial⟩⟩ (annl [] trivial)
theorem q150K(k:Nat):Contract Tryz.prog 51 (q150V k):=contractDraw (by kernel_rfl) (fun kk => @spec_DrawCheckLabels_K0 kk k)

noncomputable def q151V(k:Nat):Variant:=⟨[.val ty_11 false,.val ty_10 true,.val ty_0 false,.val ty_8 false],[(.bool,false),(.bool,false)],fun x=>impl_CheckLabels k x.1 x.2.1 x.2.2.1 x.2.2.2.1⟩
noncomputable def q151C(k:Nat):Cfg:=⟨Tryz.prog,tyOf tys,46,gOf [(117,[],q45V k),(118,[],q32V),(126,[],q46V k),(132,[],q54V k),(131,[],q83V k)],false,[],[]⟩
def q151i1:List PE := [e80,e81,⟨3,96,.val ty_8 false,false⟩,⟨5,112,.box ty_10 false,false⟩,⟨28,128,.eat ty_13,false⟩,⟨29,144,.val ty_0 false,false⟩,⟨30,160,.val ty_0 false,false⟩]
def q151o1:List PE := []
noncomputable def q151f1(k:Nat)(n:Nat)(x6:PTe q151i1):=impl_CheckLabels_L250 k n x6.1 x6.2.1 x6.2.2.1 x6.2.2.2.1 x6.2.2.2.2.1 x6.2.2.2.2.2.1 x6.2.2.2.2.2.2.1
def q151p:List PE := [e41,e82,e6,⟨3,48,.val ty_8 false,false⟩]
noncomputable def q151F(k:Nat):Fn (Bool×Bool):=⟨q151C k,rr q151p [(.bool,false),(.bool,false)] Tryz.f52,fun p=>bif Nat.beq p 250 then some (.loop q151i1 q151o1 0 176 (q151f1 k k))else none,0,[]⟩
theorem q151K(k:Nat):Contract Tryz.prog 52 (q151V k):=ctr (q151C k) (rs := [(.bool,false),(.bool,false)]) (ps:=q151p) (q151F k) Tryz.f52 64 ⟨tyOf_ok tys_ok,gOf_ok ⟨q45K k,q32K,q46K k,q54K k,q83K k,trivial⟩⟩ (annl [250] ⟨lok q151i1 q151o1 0 176 (q151f1 k) k,trivial⟩)

noncomputable def q152V(k:Nat):Variant:=⟨[.val ty_11 false,.val ty_10 true,.val ty_0 false,.val ty_8 false],[(.bool,false),(.bool,false)],fun x=>spec_CheckLabels k x.1 x.2.1 x.2.2.1 x.2.2.2.1⟩
noncomputable def q152C(k:Nat):Cfg:=⟨Tryz.prog,tyOf tys,50,gOf [(120,[],q93V k),(122,[],q125V),(133,[],q94V k),(98,[],q10V),(135,[],q99V k),(134,[],q122V k)],false,[],[]⟩
def q152i1:List PE := [e80,e81,⟨3,96,.val ty_8 false,false⟩,⟨5,112,.box ty_10 false,false⟩,⟨23,128,.eat ty_13,false⟩,e92,e64]
def q152o1:List PE := []
noncomputable def q152f1(k:Nat)(n:Nat)(x7:PTe q152i1):=spec_CheckLabels_L122 k n x7.1 x7.2.1 x7.2.2.1 x7.2.2.2.1 x7.2.2.2.2.1 x7.2.2.2.2.2.1 x7.2.2.2.2.2.2.1
def q152p:List PE := [e41,e82,e6,⟨3,48,.val ty_8 false,false⟩]
noncomputable def q152F(k:Nat):Fn (Bool×Bool):=⟨q152C k,rr q152p [(.bool,false),(.bool,false)] Tryz.f53,fun p=>bif Nat.beq p 122 then some (.loop q152i1 q152o1 0 176 (q152f1 k k))else none,0,[]⟩
theorem q152K(k:Nat):Contract Tryz.prog 53 (q152V k):=ctr (q152C k) (rs := [(.bool,false),(.bool,false)]) (ps:=q152p) (q152F k) Tryz.f53 64 ⟨tyOf_ok tys_ok,gOf_ok ⟨q93K k,q125K,q94K k,q10K,q99K k,q122K k,trivial⟩⟩ (annl [122] ⟨lok q152i1 q152o1 0 176 (q152f1 k) k,trivial⟩)

noncomputable def q153V(k:Nat):Variant:=⟨[.val ty_8 false,.val ty_8 false],[(.bool,false)],fun x=>laws_qInts k x.1 x.2.1⟩
noncomputable def q153C(k:Nat):Cfg:=⟨Tryz.prog,tyOf tys,26,gOf [],false,[],[]⟩
def q153i1:List PE := [e103,⟨1,48,.val ty_8 false,false⟩,⟨12,64,.val ty_0 false,false⟩,⟨13,80,.val ty_0 false,false⟩]
def q153o1:List PE := []
noncomputable def q153f1(k:Nat)(n:Nat)(x1:PTe q153i1):=laws_qInts_L58 k n x1.1 x1.2.1 x1.2.2.1 x1.2.2.2.1
def q153p:List PE := [e25,e4]
noncomputable def q153F(k:Nat):F3:=⟨q153C k,rr q153p [(.bool,false)] Tryz.f54,fun p=>bif Nat.beq p 58 then some (.loop q153i1 q153o1 0 96 (q153f1 k k))else none,0,[]⟩
theorem q153K(k:Nat):Contract Tryz.prog 54 (q153V k):=ctr (q153C k) (rs := [(.bool,false)]) (ps:=q153p) (q153F k) Tryz.f54 32 ⟨tyOf_ok tys_ok,gOf_ok trivial⟩ (annl [58] ⟨lok q153i1 q153o1 0 96 (q153f1 k) k,trivial⟩)

noncomputable def q154V:Variant:=⟨[.val ty_0 false],[(.bool,false)],fun x=>impl_areLabels_1 x.1⟩
noncomputable def q154C:Cfg:=⟨Tryz.prog,tyOf tys,6,gOf [(118,[],q32V)],false,[],[]⟩
def q154p:List PE := [e9]
noncomputable def q154F:F3:=⟨q154C,rr q154p [(.bool,false)] Tryz.f237,fun p=>none,0,[]⟩
theorem q154K:Contract Tryz.prog 237 (q154V):=ctr q154C (rs := [(.bool,false)]) (ps:=q154p) q154F Tryz.f237 16 ⟨tyOf_ok tys_ok,gOf_ok ⟨q32K,trivial⟩⟩ (annl [] trivial)

noncomputable def q155V(k:Nat):Variant:=⟨[.val ty_8 false,.fn 237 []],[(ty_0,false)],fun x=>slices_IndexFunc_int_int_impl_areLabels_1 k x.1 x.2.1⟩
noncomputable def q155C(k:Nat):Cfg:=⟨Tryz.prog,tyOf tys,19,gOf [(237,[],q154V)],false,[],[]⟩
def q155i1:List PE := [e103,⟨1,48,.fn 237 [],false⟩,e17,e24]
def q155o1:List PE := []
noncomputable def q155f1(k:Nat)(n:Nat)(x2:PTe q155i1):=slices_IndexFunc_int_int_impl_areLabels_1_L26 k n x2.1 x2.2.1 x2.2.2.1 x2.2.2.2.1
def q155p:List PE := [e25,⟨1,16,.fn 237 [],false⟩]
noncomputable def q155F(k:Nat):F2:=⟨q155C k,rr q155p [(ty_0,false)] Tryz.f299,fun p=>bif Nat.beq p 26 then some (.loop q155i1 q155o1 0 96 (q155f1 k k))else none,0,[]⟩
theorem q155K(k:Nat):Contract Tryz.prog 299 (q155V k):=ctr (q155C k) (rs := [(ty_0,false)]) (ps:=q155p) (q155F k) Tryz.f299 32 ⟨tyOf_ok tys_ok,gOf_ok ⟨q154K,trivial⟩⟩ (annl [26] ⟨lok q155i1 q155o1 0 96 (q155f1 k) k,trivial⟩)

noncomputable def q156V(k:Nat):Variant:=⟨[.val ty_8 false,.fn 237 []],[(.bool,false)],fun x=>slices_ContainsFunc_int_int_impl_areLabels_1 k x.1 x.2.1⟩
noncomputable def q156C(k:Nat):Cfg:=⟨Tryz.prog,tyOf tys,9,gOf [(299,[237],q155V k)],false,[],[]⟩
def q156p:List PE := [e25,⟨1,16,.fn 237 [],false⟩]
noncomputable def q156F(k:Nat):F3:=⟨q156C k,rr q156p [(.bool,false)] Tryz.f236,fun p=>none,0,[]⟩
theorem q156K(k:Nat):Contract Tryz.prog 236 (q156V k):=ctr (q156C k) (rs := [(.bool,false)]) (ps:=q156p) (q156F k) Tryz.f236 32 ⟨tyOf_ok tys_ok,gOf_ok ⟨q155K k,trivial⟩⟩ (annl [] trivial)

noncomputable def q157V(k:Nat):Variant:=⟨[.val ty_8 false],[(.bool,false)],fun x=>impl_areLabels k x.1⟩
noncomputable def q157C(k:Nat):Cfg:=⟨Tryz.prog,tyOf tys,6,gOf [(236,[237],q156V k)],false,[],[]⟩
def q157p:List PE := [e25]
noncomputable def q157F(k:Nat):F3:=⟨q157C k,rr q157p [(.bool,false)] Tryz.f136,fun p=>none,0,[]⟩
theorem q157K(k:Nat):Contract Tryz.prog 136 (q157V k):=ctr (q157C k) (rs := [(.bool,false)]) (ps:=q157p) (q157F k) Tryz.f136 16 ⟨tyOf_ok tys_ok,gOf_ok ⟨q156K k,trivial⟩⟩ (annl [] trivial)

noncomputable def q158V(k:Nat):Variant:=⟨[.val ty_8 false,.val ty_0 false],[(ty_0,false),(.bool,false)],fun x=>impl_DegreeOfLabels k x.1 x.2.1⟩
noncomputable def q158C(k:Nat):Cfg:=⟨Tryz.prog,tyOf tys,27,gOf [(118,[],q32V),(136,[],q157V k),(123,[],q136V k)],false,[],[]⟩
def q158p:List PE := [e25,e3]
noncomputable def q158F(k:Nat):F15:=⟨q158C k,rr q158p [(ty_0,false),(.bool,false)] Tryz.f55,fun p=>none,0,[]⟩
theorem q158K(k:Nat):Contract Tryz.prog 55 (q158V k):=ctr (q158C k) (rs := [(ty_0,false),(.bool,false)]) (ps:=q158p) (q158F k) Tryz.f55 32 ⟨tyOf_ok tys_ok,gOf_ok ⟨q32K,q157K k,q136K k,trivial⟩⟩ (annl [] trivial)

noncomputable def laws_FnCubes_V(k:Nat):Variant:=⟨[.val ty_21 false,.val ty_21 false],[(.bool,false)],fun x=>laws_FnCubes k x.1 x.2.1⟩
noncomputable def laws_FnCubes_C(k:Nat):Cfg:=⟨Tryz.prog,tyOf tys,273,gOf [(44,[],q31V k),(45,[],q86V k),(46,[],q126V k),(47,[],q137V k),(48,[],q144V k),(49,[],q147V k),(50,[],q148V k),(51,[],q150V k),(52,[],q151V k),(53,[],q152V k),(54,[],q153V k),(55,[],q158V k)],false,[],[]⟩
def laws_FnCubes_i16777210:List PE := [e130,⟨14,48,.val ty_0 false,false⟩,⟨38,64,.eat ty_0,false⟩,⟨247,80,.eat ty_0,false⟩,⟨248,96,.val ty_0 false,false⟩,⟨249,112,.val ty_0 false,false⟩]
def laws_FnCubes_o16777210:List PE := [e130,⟨14,48,.val ty_0 false,false⟩,⟨38,64,.eat ty_0,false⟩]
noncomputable def laws_FnCubes_f16777210(k:Nat)(n:Nat)(x20:PTe laws_FnCubes_i16777210):=laws_FnCubes_L16777210 k n x20.1 x20.2.1 x20.2.2.1 x20.2.2.2.1 x20.2.2.2.2.1 x20.2.2.2.2.2.1
def laws_FnCubes_ps:List PE := [⟨0,0,.val ty_21 false,false⟩,⟨1,16,.val ty_21 false,false⟩]
noncomputable def laws_FnCubes_F(k:Nat):F3:=⟨laws_FnCubes_C k,rr laws_FnCubes_ps [(.bool,false)] Tryz.f5,fun p=>bif Nat.beq p 16777210 then some (.loop laws_FnCubes_i16777210 laws_FnCubes_o16777210 0 128 (laws_FnCubes_f16777210 k k))else bif Nat.beq p 1048574 then some (.cut [e130,⟨10,48,.eat ty_0,false⟩,⟨14,64,.val ty_0 false,false⟩] 80)else bif Nat.beq p 32766 then some (.cut [e23,e29,e17,⟨8,80,.eat ty_0,false⟩,⟨9,96,.val .bool false,false⟩,⟨10,112,.eat ty_0,false⟩,e51] 144)else bif Nat.beq p 16382 then some (.cut [e23,e29,e17,⟨8,80,.eat ty_0,false⟩,⟨9,96,.val .bool false,false⟩,⟨10,112,.eat ty_0,false⟩,e51,⟨22,144,.val ty_0 false,false⟩,⟨23,160,.eat ty_0,false⟩,⟨25,176,.val .bool false,false⟩,⟨26,192,.val .bool false,false⟩] 208)else none,0,[]⟩
theorem laws_FnCubes_K(k:Nat):Contract Tryz.prog 5 (laws_FnCubes_V k):=ctr (laws_FnCubes_C k) (rs := [(.bool,false)]) (ps:=laws_FnCubes_ps) (laws_FnCubes_F k) Tryz.f5 32 ⟨tyOf_ok tys_ok,gOf_ok ⟨q31K k,q86K k,q126K k,q137K k,q144K k,q147K k,q148K k,q150K k,q151K k,q152K k,q153K k,q158K k,trivial⟩⟩ (annl [16777210] ⟨lok laws_FnCubes_i16777210 laws_FnCubes_o16777210 0 128 (laws_FnCubes_f16777210 k) k,trivial⟩)
end Go.Ev.G
