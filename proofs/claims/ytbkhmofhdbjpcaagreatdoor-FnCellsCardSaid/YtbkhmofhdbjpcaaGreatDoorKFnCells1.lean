/- The contracts of the functions behind FnCells: a call of each returns what its plain function computes; for all inputs within the sizes named. -/
import Derived.Test.YtbkhmofhdbjpcaaGreatDoorPFnCells1
import Derived.Test.YtbkhmofhdbjpcaaGreatDoorProg
set_option linter.unusedVariables false
set_option linter.unusedSectionVars false
namespace Go.Ev.G
open Go Go.Ev Go.Proofs
set_option maxRecDepth 100000
variable [KSl]
abbrev ty_0:Ty:=(.int .i64)

abbrev ty_1:Ty:=(.int .u64)

abbrev ty_2:Ty:=(.pair ty_0 ty_1)

abbrev ty_3:Ty:=(.pair .ks ty_2)

abbrev ty_4:Ty:=(.pair ty_0 ty_0)

abbrev ty_5:Ty:=(.pair .bool ty_4)

abbrev ty_6:Ty:=(.pair ty_0 ty_5)

abbrev ty_7:Ty:=(.pair ty_0 ty_4)

abbrev ty_8:Ty:=(.pair ty_0 ty_7)

abbrev ty_9:Ty:=(.sl ty_8)

abbrev ty_10:Ty:=(.sl ty_0)

abbrev ty_11:Ty:=(.pair ty_10 ty_10)

abbrev ty_12:Ty:=(.pair ty_0 ty_11)

abbrev ty_13:Ty:=(.pair ty_1 ty_1)

abbrev ty_14:Ty:=(.pair .bool ty_13)

abbrev ty_15:Ty:=(.pair ty_4 ty_4)

abbrev ty_16:Ty:=(.sl ty_9)

abbrev ty_17:Ty:=(.sl ty_15)

abbrev ty_18:Ty:=(.sl ty_4)

abbrev ty_19:Ty:=(.sl ty_6)

abbrev ty_20:Ty:=(.int .u8)

abbrev ty_21:Ty:=(.pair ty_20 ty_20)

abbrev ty_22:Ty:=(.pair ty_20 ty_21)

abbrev ty_23:Ty:=(.pair ty_20 ty_22)

abbrev ty_24:Ty:=(.pair ty_20 ty_23)

abbrev ty_25:Ty:=(.pair ty_20 ty_24)

abbrev ty_26:Ty:=(.pair ty_20 ty_25)

abbrev ty_27:Ty:=(.pair ty_20 ty_26)

abbrev ty_28:Ty:=(.pair ty_20 ty_27)

abbrev ty_29:Ty:=(.pair ty_20 ty_28)

abbrev ty_30:Ty:=(.pair ty_20 ty_29)

abbrev ty_31:Ty:=(.pair ty_20 ty_30)

abbrev ty_32:Ty:=(.pair ty_20 ty_31)

abbrev ty_33:Ty:=(.pair ty_20 ty_32)

abbrev ty_34:Ty:=(.pair ty_20 ty_33)

abbrev ty_35:Ty:=(.pair ty_20 ty_34)

abbrev ty_36:Ty:=(.pair ty_20 ty_35)

abbrev ty_37:Ty:=(.pair ty_20 ty_36)

abbrev ty_38:Ty:=(.pair ty_20 ty_37)

abbrev ty_39:Ty:=(.pair ty_20 ty_38)

abbrev ty_40:Ty:=(.pair ty_20 ty_39)

abbrev ty_41:Ty:=(.pair ty_20 ty_40)

abbrev ty_42:Ty:=(.pair ty_20 ty_41)

abbrev ty_43:Ty:=(.pair ty_20 ty_42)

abbrev ty_44:Ty:=(.sl ty_20)

def tys:List (TypeId×Ty) := [(3,ty_0),(4,.bool),(5,ty_20),(24,ty_10),(47,ty_6),(67,ty_4),(69,ty_15),(95,ty_9),(123,ty_8)]

theorem tys_ok:AllT Tryz.prog tys:=⟨⟨_,_,rfl,rfl,rfl,rfl⟩,⟨_,_,rfl,rfl,rfl,rfl⟩,⟨_,_,rfl,rfl,rfl,rfl⟩,⟨_,_,rfl,rfl,rfl,rfl⟩,⟨_,_,rfl,rfl,rfl,rfl⟩,⟨_,_,rfl,rfl,rfl,rfl⟩,⟨_,_,rfl,rfl,rfl,rfl⟩,⟨_,_,rfl,rfl,rfl,rfl⟩,⟨_,_,rfl,rfl,rfl,rfl⟩,trivial⟩

def tysR:List (TypeId×Ty) := []

theorem tysR_ok:AllT Tryz.prog tysR:=trivial

theorem mix_ok:Tryz.prog.follows .mixedOrders=true:=by kernel_rfl

theorem ctr{g:FuncId}(C:Cfg){rs:List (Ty×Bool)}{ps:List PE}(F:Fn (CT (rs.map (·.1)++outs (ps.map (·.b)))))(fn:Func)(nx:Nat){f:PT (ps.map (·.b))→Option (CT (rs.map (·.1)++outs (ps.map (·.b))))}
  (hC:CfgOk C) (hann:AnnOk F (codeOf fn) 1) (hP:C.P=Tryz.prog:=by rfl) (hF:F.C=C:=by rfl) (hfn:C.P.funcs[g]? = some fn:=by kernel_rfl) (hb:fn.body=some (codeOf fn):=by kernel_rfl) (hn:(fn.name == "runtime.NumGoroutine")=false:=by kernel_rfl)
  (hnt:C.ntmps=fn.ntmps:=by kernel_rfl) (hle:Nat.ble ps.length fn.ntmps=true:=by kernel_rfl) (hpar:parOk 0 ps=true:=by kernel_rfl) (hfin:F.fin=rdRes C.P ps rs fn.results.toList .ret:=by rfl)
  (hpins:F.pins=pinIds ps:=by kernel_rfl) (hnd:nodupB F.pins=true:=by kernel_rfl) (hf:∀x,evFn F (codeOf fn) ps nx x=f x:=by intro x;kernel_rfl):Contract C.P g ⟨ps.map (·.b),rs,f⟩ :=
 contract hC hF hfn hb hn hnt hle hpar hfin hpins hnd hann (hP ▸ mix_ok) hf

theorem annl{R:Type}{F:Fn R}{c:Code}(l:List Nat)(hl:AllL F (l.map fun p=>(p,loopB c p)))(h:loopsOf c 1=l.map (fun p=>(p,loopB c p)):=by kernel_rfl):AnnOk F c 1:=AnnOk_list _ h hl

theorem lok{R:Type}{F:Fn R}{c:Code}{p:Nat}(pin pout:List PE)(ex nx:Nat)(Lf:Nat→PTe pin→Option (R ⊕ PTe pout))(k:Nat)(h:F.an p=some (.loop pin pout ex nx (Lf k)):=by kernel_rfl)(h0:∀x,Lf 0 x=none:=by intro x;rfl)
  (hs:∀n x,roundOf F c p pin pout ex nx (Lf n) x=Lf (n+1) x:=by intro n x;kernel_rfl):LoopOk F c p:=LoopOk.mk (pin:=pin) (pout:=pout) h h0 hs

noncomputable def rr(ps:List PE)(rs:List (Ty×Bool))(f:Func):=rdRes Tryz.prog ps rs f.results.toList .ret

theorem lokp{R:Type}{F:Fn R}{c:Code}{p:Nat}(pin pout:List PE)(ex nx:Nat)(Lf:Nat→PTe pin→Option (R ⊕ PTe pout))(k:Nat)(h:F.an p=some (.peel pin pout ex nx (Lf k)):=by kernel_rfl)(h0:∀x,Lf 0 x=none:=by intro x;rfl)
  (hs:∀n x,roundOf F c p pin pout ex nx (Lf n) x=Lf (n+1) x:=by intro n x;kernel_rfl):LoopOk F c p:=LoopOk.mkp (pin:=pin) (pout:=pout) h h0 hs

abbrev e1:PE:=⟨0,0,.ptr ty_3 true,true⟩
abbrev e2:PE:=⟨3,16,.val ty_0 false,false⟩
abbrev F1:Type 1:=Fn (Int×Unit×Int×Int)
abbrev e3:PE:=⟨1,16,.val ty_0 false,false⟩
abbrev e4:PE:=⟨1,16,.val ty_10 false,false⟩
abbrev e5:PE:=⟨0,0,.val .ks false,false⟩
abbrev F2:Type 1:=Fn (Int)
abbrev e6:PE:=⟨0,0,.val ty_0 false,false⟩
abbrev e7:PE:=⟨2,32,.val ty_0 false,false⟩
abbrev F3:Type 1:=Fn (Bool)
abbrev e8:PE:=⟨0,16,.val ty_0 false,false⟩
abbrev e9:PE:=⟨3,32,.eat ty_6,false⟩
abbrev e10:PE:=⟨4,48,.val ty_0 false,false⟩
abbrev e11:PE:=⟨6,64,.val .bool false,false⟩
abbrev e12:PE:=⟨7,80,.val ty_0 false,false⟩
abbrev e13:PE:=⟨9,96,.val ty_0 false,false⟩
abbrev e14:PE:=⟨13,128,.val ty_0 false,false⟩
abbrev e15:PE:=⟨9,80,.val ty_0 false,false⟩
abbrev e16:PE:=⟨14,128,.val ty_0 false,false⟩
abbrev e17:PE:=⟨19,144,.val ty_0 false,false⟩
abbrev e18:PE:=⟨9,64,.val ty_0 false,false⟩
abbrev e19:PE:=⟨3,16,.eat ty_6,false⟩
abbrev F4:Type 1:=Fn ((List (Int×Bool×Int×Int))×Bool)
abbrev e20:PE:=⟨4,32,.val ty_0 false,false⟩
abbrev e21:PE:=⟨5,48,.val ty_0 false,false⟩
abbrev e22:PE:=⟨7,64,.val .bool false,false⟩
abbrev e23:PE:=⟨8,80,.val ty_0 false,false⟩
abbrev e24:PE:=⟨17,112,.val ty_0 false,false⟩
abbrev e25:PE:=⟨18,128,.val ty_0 false,false⟩
abbrev e26:PE:=⟨18,96,.val ty_0 false,false⟩
abbrev e27:PE:=⟨0,0,.val ty_8 true,false⟩
abbrev e28:PE:=⟨1,32,.val ty_0 false,false⟩
abbrev e29:PE:=⟨6,80,.val ty_0 false,false⟩
abbrev e30:PE:=⟨1,16,.val ty_8 true,false⟩
abbrev e31:PE:=⟨0,32,.val ty_9 false,false⟩
abbrev e32:PE:=⟨3,48,.box ty_8 false,false⟩
abbrev e33:PE:=⟨5,64,.val ty_0 false,false⟩
abbrev e34:PE:=⟨0,0,.val ty_9 false,false⟩
abbrev e35:PE:=⟨0,16,.val ty_9 false,false⟩
abbrev e36:PE:=⟨6,48,.val ty_0 false,false⟩
abbrev e37:PE:=⟨7,64,.val ty_0 false,false⟩
abbrev F5:Type 1:=Fn ((List (Int×Int×Int×Int))×Bool)
abbrev e38:PE:=⟨6,64,.val ty_0 false,false⟩
abbrev e39:PE:=⟨5,32,.eat ty_8,false⟩
abbrev F6:Type 1:=Fn ((List (Int×Int×Int×Int))×Unit×Int×Int)
abbrev e40:PE:=⟨5,48,.eat ty_9,false⟩
abbrev e41:PE:=⟨5,32,.eat ty_9,false⟩
abbrev F7:Type 1:=Fn ((List (List (Int×Int×Int×Int)))×Unit×Int×Int)
abbrev e42:PE:=⟨0,0,.val ty_10 false,false⟩
abbrev F8:Type 1:=Fn (List Int)
abbrev e43:PE:=⟨1,16,.box ty_12 false,false⟩
abbrev e44:PE:=⟨6,32,.val ty_10 false,false⟩
abbrev e45:PE:=⟨7,48,.val ty_0 false,false⟩
abbrev e46:PE:=⟨8,64,.val ty_0 false,false⟩
abbrev e47:PE:=⟨0,0,.val ty_12 true,false⟩
abbrev e48:PE:=⟨6,48,.box ty_12 true,false⟩
abbrev e49:PE:=⟨8,64,.box ty_12 true,false⟩
abbrev e50:PE:=⟨4,48,.box ty_12 true,false⟩
abbrev e51:PE:=⟨7,96,.eat ty_0,false⟩
abbrev e52:PE:=⟨7,80,.eat ty_0,false⟩
abbrev e53:PE:=⟨8,96,.eat ty_0,false⟩
abbrev F9:Type 1:=Fn ((Int×(List Int)×List Int)×Unit×Int×Int)
abbrev e54:PE:=⟨3,16,.box ty_12 true,false⟩
abbrev e55:PE:=⟨0,0,.ptr ty_12 false,false⟩
abbrev e56:PE:=⟨0,0,.val ty_6 true,false⟩
abbrev e57:PE:=⟨2,48,.box ty_6 false,false⟩
abbrev F10:Type 1:=Fn (Bool×Int×Int)
abbrev e58:PE:=⟨0,0,.val ty_14 true,false⟩
abbrev e59:PE:=⟨4,64,.box ty_4 false,false⟩
abbrev F11:Type 1:=Fn ((Int×Int)×Bool)
abbrev e60:PE:=⟨0,48,.ptr ty_12 false,false⟩
abbrev e61:PE:=⟨1,64,.val ty_0 false,false⟩
abbrev e62:PE:=⟨5,80,.box ty_6 false,false⟩
abbrev e63:PE:=⟨9,96,.eat ty_15,false⟩
abbrev e64:PE:=⟨2,32,.val ty_6 true,false⟩
abbrev e65:PE:=⟨12,112,.val ty_0 false,false⟩
abbrev e66:PE:=⟨24,144,.val ty_7 true,false⟩
abbrev e67:PE:=⟨25,160,.val ty_0 false,false⟩
abbrev F12:Type 1:=Fn (List ((Int×Int)×Int×Int))
abbrev F13:Type 1:=Fn ((List ((Int×Int)×Int×Int))×Bool)
abbrev e68:PE:=⟨7,48,.eat ty_0,false⟩
abbrev e69:PE:=⟨9,112,.val ty_0 false,false⟩
abbrev e70:PE:=⟨0,0,.val ty_4 true,false⟩
abbrev e71:PE:=⟨0,32,.val ty_0 false,false⟩
abbrev e72:PE:=⟨1,48,.val ty_0 false,false⟩
abbrev F14:Type 1:=Fn (Int×Int)
abbrev e73:PE:=⟨24,144,.val ty_0 false,false⟩
abbrev e74:PE:=⟨9,48,.val ty_9 false,false⟩
abbrev e75:PE:=⟨10,64,.val ty_0 false,false⟩
abbrev e76:PE:=⟨11,80,.val ty_0 false,false⟩
abbrev e77:PE:=⟨0,16,.val ty_16 false,false⟩
abbrev e78:PE:=⟨0,0,.val ty_16 false,false⟩
abbrev F15:Type 1:=Fn ((Int×Int)×Int×Int)
abbrev e79:PE:=⟨0,0,.val ty_1 false,false⟩
abbrev e80:PE:=⟨1,16,.val ty_4 true,false⟩
abbrev e81:PE:=⟨0,0,.ptr .bool true,true⟩
abbrev e82:PE:=⟨2,32,.val ty_4 true,false⟩
abbrev e83:PE:=⟨1,16,.val ty_14 true,false⟩
abbrev e84:PE:=⟨0,0,.val ty_15 true,false⟩
abbrev e85:PE:=⟨1,16,.val ty_15 true,false⟩
abbrev F16:Type 1:=Fn (((Int×Int)×Int×Int)×Bool)
abbrev e86:PE:=⟨1,32,.val ty_17 false,false⟩
abbrev e87:PE:=⟨4,48,.box ty_15 false,false⟩
abbrev e88:PE:=⟨6,64,.box .bool false,false⟩
abbrev e89:PE:=⟨7,80,.box ty_15 false,false⟩
abbrev e90:PE:=⟨4,32,.box ty_15 false,false⟩
abbrev e91:PE:=⟨1,16,.val ty_17 false,false⟩
abbrev e92:PE:=⟨3,48,.val ty_6 true,false⟩
abbrev e93:PE:=⟨1,16,.val ty_12 true,false⟩
abbrev F17:Type 1:=Fn (Int×Bool)
abbrev e94:PE:=⟨8,96,.val ty_0 false,false⟩
abbrev e95:PE:=⟨2,32,.box ty_4 false,false⟩
abbrev e96:PE:=⟨3,48,.box ty_4 false,false⟩
abbrev e97:PE:=⟨2,16,.box ty_15 false,false⟩
abbrev e98:PE:=⟨3,32,.box ty_15 false,false⟩
abbrev e99:PE:=⟨6,64,.eat ty_4,false⟩
abbrev e100:PE:=⟨28,160,.val ty_0 false,false⟩
abbrev e101:PE:=⟨29,176,.val ty_0 false,false⟩
abbrev e102:PE:=⟨19,112,.val ty_0 false,false⟩
abbrev e103:PE:=⟨6,64,.box ty_15 false,false⟩
abbrev e104:PE:=⟨5,48,.eat ty_0,false⟩
abbrev e105:PE:=⟨0,32,.val ty_10 false,false⟩
abbrev e106:PE:=⟨2,32,.val ty_7 true,false⟩
abbrev e107:PE:=⟨3,48,.box ty_19 false,false⟩
abbrev e108:PE:=⟨4,64,.box ty_0 false,false⟩
abbrev e109:PE:=⟨5,80,.box ty_7 false,false⟩
abbrev e110:PE:=⟨8,112,.box ty_7 false,false⟩
abbrev e111:PE:=⟨6,64,.eat ty_6,false⟩
abbrev e112:PE:=⟨10,128,.val ty_0 false,false⟩
abbrev e113:PE:=⟨23,160,.val ty_0 false,false⟩
abbrev e114:PE:=⟨24,176,.val ty_0 false,false⟩
abbrev e115:PE:=⟨28,192,.val ty_0 false,false⟩
abbrev e116:PE:=⟨29,208,.val ty_0 false,false⟩
abbrev e117:PE:=⟨33,224,.val ty_0 false,false⟩
abbrev e118:PE:=⟨34,240,.val ty_0 false,false⟩
abbrev e119:PE:=⟨12,144,.val ty_10 false,false⟩
abbrev e120:PE:=⟨0,64,.val ty_10 false,false⟩
abbrev e121:PE:=⟨1,80,.val ty_10 false,false⟩
abbrev e122:PE:=⟨2,96,.val ty_0 false,false⟩
abbrev e123:PE:=⟨9,64,.eat ty_0,false⟩
abbrev e124:PE:=⟨12,80,.eat ty_10,false⟩
abbrev e125:PE:=⟨13,96,.eat ty_0,false⟩
abbrev e126:PE:=⟨17,112,.eat ty_0,false⟩
abbrev e127:PE:=⟨68,144,.val ty_0 false,false⟩
abbrev e128:PE:=⟨69,160,.val ty_0 false,false⟩
abbrev e129:PE:=⟨7,64,.eat ty_6,false⟩
abbrev e130:PE:=⟨10,112,.val ty_0 false,false⟩
abbrev e131:PE:=⟨11,128,.val ty_0 false,false⟩
abbrev F18:Type 1:=Fn (ByteArray)
abbrev e132:PE:=⟨12,32,.box ty_6 false,false⟩
abbrev e133:PE:=⟨15,48,.val ty_17 false,false⟩
abbrev e134:PE:=⟨25,64,.eat ty_0,false⟩
abbrev e135:PE:=⟨26,80,.val ty_0 false,false⟩
abbrev e136:PE:=⟨28,96,.val .bool false,false⟩
abbrev e137:PE:=⟨29,112,.val ty_0 false,false⟩

noncomputable def q1V:Variant:=⟨[.ptr ty_3 true],[(ty_0,false)],fun x=>spec_l1Cur_next KSl.xs x.1⟩
noncomputable def q1C:Cfg:=⟨Tryz.prog,tyOf tys,62,gOf [],false,[],[]⟩
def q1p:List PE := [e1]
noncomputable def q1F:F1:=⟨q1C,rr q1p [(ty_0,false)] Tryz.f141,fun p=>bif Nat.beq p 14 then some (.cut [e1,e2] 32)else none,0,[0]⟩
theorem q1K:Contract Tryz.prog 141 (q1V):=ctr q1C (rs := [(ty_0,false)]) (ps:=q1p) q1F Tryz.f141 16 ⟨tyOf_ok tys_ok,gOf_ok trivial⟩ (annl [] trivial)

noncomputable def q2V:Variant:=⟨[.ptr ty_3 true,.val ty_0 false],[(ty_0,false)],fun x=>spec_l1Cur_pick KSl.xs x.1 x.2.1⟩
noncomputable def q2C:Cfg:=⟨Tryz.prog,tyOf tys,20,gOf [(141,[],q1V)],false,[],[]⟩
def q2p:List PE := [e1,e3]
noncomputable def q2F:F1:=⟨q2C,rr q2p [(ty_0,false)] Tryz.f93,fun p=>none,0,[0]⟩
theorem q2K:Contract Tryz.prog 93 (q2V):=ctr q2C (rs := [(ty_0,false)]) (ps:=q2p) q2F Tryz.f93 32 ⟨tyOf_ok tys_ok,gOf_ok ⟨q1K,trivial⟩⟩ (annl [] trivial)

noncomputable def q3V:Variant:=⟨[.ptr ty_3 true,.val ty_10 false],[(ty_0,false)],fun x=>spec_l1Cur_among KSl.xs x.1 x.2.1⟩
noncomputable def q3C:Cfg:=⟨Tryz.prog,tyOf tys,12,gOf [(93,[],q2V)],false,[],[]⟩
def q3p:List PE := [e1,e4]
noncomputable def q3F:F1:=⟨q3C,rr q3p [(ty_0,false)] Tryz.f100,fun p=>none,0,[0]⟩
theorem q3K:Contract Tryz.prog 100 (q3V):=ctr q3C (rs := [(ty_0,false)]) (ps:=q3p) q3F Tryz.f100 32 ⟨tyOf_ok tys_ok,gOf_ok ⟨q2K,trivial⟩⟩ (annl [] trivial)

noncomputable def q4V:Variant:=⟨[.ptr ty_3 true],[(ty_0,false)],fun x=>spec_l1Cur_cellDepth KSl.xs x.1⟩
noncomputable def q4C:Cfg:=⟨Tryz.prog,tyOf tys,9,gOf [(100,[],q3V)],false,[],[]⟩
def q4p:List PE := [e1]
noncomputable def q4F:F1:=⟨q4C,rr q4p [(ty_0,false)] Tryz.f69,fun p=>none,0,[0]⟩
theorem q4K:Contract Tryz.prog 69 (q4V):=ctr q4C (rs := [(ty_0,false)]) (ps:=q4p) q4F Tryz.f69 16 ⟨tyOf_ok tys_ok,gOf_ok ⟨q3K,trivial⟩⟩ (annl [] trivial)

noncomputable def q5V:Variant:=⟨[.val (.sl (.int .u8)) false],[(ty_0,false)],fun x=>spec_DrawSurfaceCells x.1⟩
noncomputable def spec_DrawSurfaceCells_V0:Variant:=⟨[.val .ks false],[(ty_0,false)],fun _=>spec_DrawSurfaceCells KSl.xs⟩
noncomputable def q5C:Cfg:=⟨Tryz.prog,tyOf tys,9,gOf [(69,[],q4V)],false,[],[]⟩
def q5p:List PE := [e5]
noncomputable def q5F:F2:=⟨q5C,rr q5p [(ty_0,false)] Tryz.f20,fun p=>none,0,[]⟩
theorem spec_DrawSurfaceCells_K0:Contract Tryz.prog 20 (spec_DrawSurfaceCells_V0):=ctr q5C (rs := [(ty_0,false)]) (ps:=q5p) q5F Tryz.f20 16 ⟨tyOf_ok tys_ok,gOf_ok ⟨q4K,trivial⟩⟩ (annl [] trivial)
theorem q5K:Contract Tryz.prog 20 (q5V):=contractDraw (by kernel_rfl) (fun kk => @spec_DrawSurfaceCells_K0 kk)

noncomputable def q6V:Variant:=⟨[.val ty_0 false,.val ty_0 false,.val ty_0 false],[(.bool,false)],fun x=>impl_inside x.1 x.2.1 x.2.2.1⟩
noncomputable def q6C:Cfg:=⟨Tryz.prog,tyOf tys,15,gOf [],false,[],[]⟩
def q6p:List PE := [e6,e3,e7]
noncomputable def q6F:F3:=⟨q6C,rr q6p [(.bool,false)] Tryz.f46,fun p=>none,0,[]⟩
theorem q6K:Contract Tryz.prog 46 (q6V):=ctr q6C (rs := [(.bool,false)]) (ps:=q6p) q6F Tryz.f46 48 ⟨tyOf_ok tys_ok,gOf_ok trivial⟩ (annl [] trivial)

noncomputable def q7V(k:Nat):Variant:=⟨[.val ty_0 false],[(ty_19,false)],fun x=>impl_surfaceCells k x.1⟩
noncomputable def q7C(k:Nat):Cfg:=⟨Tryz.prog,tyOf tys,41,gOf [],false,[],[]⟩
def q7i1:List PE := [e8,e9,e10,e11,e12,e13,⟨12,112,.eat .bool,false⟩,e14,⟨14,144,.val ty_0 false,false⟩,⟨19,160,.val ty_0 false,false⟩,⟨20,176,.val ty_0 false,false⟩,⟨24,192,.val ty_0 false,false⟩,⟨25,208,.val ty_0 false,false⟩]
def q7o1:List PE := [e8,e9,e10,e11,e15,⟨12,96,.eat .bool,false⟩,⟨13,112,.val ty_0 false,false⟩,e16,e17,⟨20,160,.val ty_0 false,false⟩]
noncomputable def q7f1(k:Nat)(n:Nat)(x1:PTe q7i1):=impl_surfaceCells_L979789414 k n x1.1 x1.2.1 x1.2.2.1 x1.2.2.2.1 x1.2.2.2.2.1 x1.2.2.2.2.2.1 x1.2.2.2.2.2.2.1 x1.2.2.2.2.2.2.2.1 x1.2.2.2.2.2.2.2.2.1 x1.2.2.2.2.2.2.2.2.2.1 x1.2.2.2.2.2.2.2.2.2.2.1 x1.2.2.2.2.2.2.2.2.2.2.2.1 x1.2.2.2.2.2.2.2.2.2.2.2.2.1
def q7i2:List PE := [e8,e9,e10,e11,e15,⟨12,96,.eat .bool,false⟩,⟨13,112,.val ty_0 false,false⟩,e16,e17,⟨20,160,.val ty_0 false,false⟩]
def q7o2:List PE := [e8,e9,e10,e18,⟨12,80,.eat .bool,false⟩,⟨13,96,.val ty_0 false,false⟩,⟨14,112,.val ty_0 false,false⟩]
noncomputable def q7f2(k:Nat)(n:Nat)(x4:PTe q7i2):=impl_surfaceCells_L3827302 k n x4.1 x4.2.1 x4.2.2.1 x4.2.2.2.1 x4.2.2.2.2.1 x4.2.2.2.2.2.1 x4.2.2.2.2.2.2.1 x4.2.2.2.2.2.2.2.1 x4.2.2.2.2.2.2.2.2.1 x4.2.2.2.2.2.2.2.2.2.1
def q7i3:List PE := [e8,e9,e10,e18,⟨12,80,.eat .bool,false⟩,⟨13,96,.val ty_0 false,false⟩,⟨14,112,.val ty_0 false,false⟩]
def q7o3:List PE := [e8,e9,⟨9,48,.val ty_0 false,false⟩]
noncomputable def q7f3(k:Nat)(n:Nat)(x7:PTe q7i3):=impl_surfaceCells_L14950 k n x7.1 x7.2.1 x7.2.2.1 x7.2.2.2.1 x7.2.2.2.2.1 x7.2.2.2.2.2.1 x7.2.2.2.2.2.2.1
def q7i4:List PE := [e8,e9,⟨9,48,.val ty_0 false,false⟩]
def q7o4:List PE := [e19]
noncomputable def q7f4(k:Nat)(n:Nat)(x10:PTe q7i4):=impl_surfaceCells_L58 k n x10.1 x10.2.1 x10.2.2.1
def q7p:List PE := [e6]
noncomputable def q7F(k:Nat):Fn (List (Int×Bool×Int×Int)):=⟨q7C k,rr q7p [(ty_19,false)] Tryz.f70,fun p=>bif Nat.beq p 979789414 then some (.loop q7i1 q7o1 6 224 (q7f1 k k))else bif Nat.beq p 3827302 then some (.loop q7i2 q7o2 4 176 (q7f2 k k))else bif Nat.beq p 14950 then some (.loop q7i3 q7o3 2 128 (q7f3 k k))else bif Nat.beq p 58 then some (.loop q7i4 q7o4 0 64 (q7f4 k k))else none,0,[]⟩
theorem q7K(k:Nat):Contract Tryz.prog 70 (q7V k):=ctr (q7C k) (rs := [(ty_19,false)]) (ps:=q7p) (q7F k) Tryz.f70 16 ⟨tyOf_ok tys_ok,gOf_ok trivial⟩ (annl [58,14950,3827302,979789414] ⟨lok q7i4 q7o4 0 64 (q7f4 k) k,lok q7i3 q7o3 2 128 (q7f3 k) k,lok q7i2 q7o2 4 176 (q7f2 k) k,lok q7i1 q7o1 6 224 (q7f1 k) k,trivial⟩)

noncomputable def q8V(k:Nat):Variant:=⟨[.val ty_0 false],[(ty_19,false),(.bool,false)],fun x=>impl_SurfaceCells k x.1⟩
noncomputable def q8C(k:Nat):Cfg:=⟨Tryz.prog,tyOf tys,9,gOf [(46,[],q6V),(70,[],q7V k)],false,[],[]⟩
def q8p:List PE := [e6]
noncomputable def q8F(k:Nat):F4:=⟨q8C k,rr q8p [(ty_19,false),(.bool,false)] Tryz.f21,fun p=>none,0,[]⟩
theorem q8K(k:Nat):Contract Tryz.prog 21 (q8V k):=ctr (q8C k) (rs := [(ty_19,false),(.bool,false)]) (ps:=q8p) (q8F k) Tryz.f21 16 ⟨tyOf_ok tys_ok,gOf_ok ⟨q6K,q7K k,trivial⟩⟩ (annl [] trivial)

noncomputable def q9V:Variant:=⟨[.val ty_0 false,.val ty_0 false,.val ty_0 false],[(.bool,false)],fun x=>spec_l1In x.1 x.2.1 x.2.2.1⟩
noncomputable def q9C:Cfg:=⟨Tryz.prog,tyOf tys,15,gOf [],false,[],[]⟩
def q9p:List PE := [e6,e3,e7]
noncomputable def q9F:F3:=⟨q9C,rr q9p [(.bool,false)] Tryz.f126,fun p=>none,0,[]⟩
theorem q9K:Contract Tryz.prog 126 (q9V):=ctr q9C (rs := [(.bool,false)]) (ps:=q9p) q9F Tryz.f126 48 ⟨tyOf_ok tys_ok,gOf_ok trivial⟩ (annl [] trivial)

noncomputable def q10V:Variant:=⟨[.val ty_0 false],[(.bool,false)],fun x=>spec_cbDepth x.1⟩
noncomputable def q10C:Cfg:=⟨Tryz.prog,tyOf tys,5,gOf [(126,[],q9V)],false,[],[]⟩
def q10p:List PE := [e6]
noncomputable def q10F:F3:=⟨q10C,rr q10p [(.bool,false)] Tryz.f71,fun p=>none,0,[]⟩
theorem q10K:Contract Tryz.prog 71 (q10V):=ctr q10C (rs := [(.bool,false)]) (ps:=q10p) q10F Tryz.f71 16 ⟨tyOf_ok tys_ok,gOf_ok ⟨q9K,trivial⟩⟩ (annl [] trivial)

noncomputable def q11V:Variant:=⟨[.val ty_0 false],[(ty_0,false)],fun x=>spec_dyPower x.1⟩
noncomputable def q11C:Cfg:=⟨Tryz.prog,tyOf tys,6,gOf [],false,[],[]⟩
def q11p:List PE := [e6]
noncomputable def q11F:F2:=⟨q11C,rr q11p [(ty_0,false)] Tryz.f57,fun p=>none,0,[]⟩
theorem q11K:Contract Tryz.prog 57 (q11V):=ctr q11C (rs := [(ty_0,false)]) (ps:=q11p) q11F Tryz.f57 16 ⟨tyOf_ok tys_ok,gOf_ok trivial⟩ (annl [] trivial)

noncomputable def q12V(k:Nat):Variant:=⟨[.val ty_0 false],[(ty_19,false)],fun x=>spec_cbCells k x.1⟩
noncomputable def q12C(k:Nat):Cfg:=⟨Tryz.prog,tyOf tys,42,gOf [(57,[],q11V)],false,[],[]⟩
def q12i1:List PE := [e19,e20,e21,e22,e23,e13,⟨16,112,.eat .bool,false⟩,⟨17,128,.val ty_0 false,false⟩,⟨18,144,.val ty_0 false,false⟩]
def q12o1:List PE := [e19,e20,e21,e22,e23,⟨16,96,.eat .bool,false⟩,e24,e25]
noncomputable def q12f1(k:Nat)(n:Nat)(x2:PTe q12i1):=spec_cbCells_L128227730 k n x2.1 x2.2.1 x2.2.2.1 x2.2.2.2.1 x2.2.2.2.2.1 x2.2.2.2.2.2.1 x2.2.2.2.2.2.2.1 x2.2.2.2.2.2.2.2.1 x2.2.2.2.2.2.2.2.2.1
def q12i2:List PE := [e19,e20,e21,e22,e23,⟨16,96,.eat .bool,false⟩,e24,e25]
def q12o2:List PE := [e19,e20,e21,⟨16,64,.eat .bool,false⟩,⟨17,80,.val ty_0 false,false⟩,e26]
noncomputable def q12f2(k:Nat)(n:Nat)(x5:PTe q12i2):=spec_cbCells_L2003558 k n x5.1 x5.2.1 x5.2.2.1 x5.2.2.2.1 x5.2.2.2.2.1 x5.2.2.2.2.2.1 x5.2.2.2.2.2.2.1 x5.2.2.2.2.2.2.2.1
def q12i3:List PE := [e19,e20,e21,⟨16,64,.eat .bool,false⟩,⟨17,80,.val ty_0 false,false⟩,e26]
def q12o3:List PE := [e19,e20,e21]
noncomputable def q12f3(k:Nat)(n:Nat)(x8:PTe q12i3):=spec_cbCells_L7826 k n x8.1 x8.2.1 x8.2.2.1 x8.2.2.2.1 x8.2.2.2.2.1 x8.2.2.2.2.2.1
def q12i4:List PE := [e19,e20,e21]
def q12o4:List PE := [e19]
noncomputable def q12f4(k:Nat)(n:Nat)(x11:PTe q12i4):=spec_cbCells_L122 k n x11.1 x11.2.1 x11.2.2.1
def q12p:List PE := [e6]
noncomputable def q12F(k:Nat):Fn (List (Int×Bool×Int×Int)):=⟨q12C k,rr q12p [(ty_19,false)] Tryz.f72,fun p=>bif Nat.beq p 128227730 then some (.loop q12i1 q12o1 6 160 (q12f1 k k))else bif Nat.beq p 2003558 then some (.loop q12i2 q12o2 4 144 (q12f2 k k))else bif Nat.beq p 7826 then some (.loop q12i3 q12o3 2 112 (q12f3 k k))else bif Nat.beq p 122 then some (.loop q12i4 q12o4 0 64 (q12f4 k k))else none,0,[]⟩
theorem q12K(k:Nat):Contract Tryz.prog 72 (q12V k):=ctr (q12C k) (rs := [(ty_19,false)]) (ps:=q12p) (q12F k) Tryz.f72 16 ⟨tyOf_ok tys_ok,gOf_ok ⟨q11K,trivial⟩⟩ (annl [122,7826,2003558,128227730] ⟨lok q12i4 q12o4 0 64 (q12f4 k) k,lok q12i3 q12o3 2 112 (q12f3 k) k,lok q12i2 q12o2 4 144 (q12f2 k) k,lok q12i1 q12o1 6 160 (q12f1 k) k,trivial⟩)

noncomputable def q13V(k:Nat):Variant:=⟨[.val ty_0 false],[(ty_19,false),(.bool,false)],fun x=>spec_SurfaceCells k x.1⟩
noncomputable def q13C(k:Nat):Cfg:=⟨Tryz.prog,tyOf tys,9,gOf [(71,[],q10V),(72,[],q12V k)],false,[],[]⟩
def q13p:List PE := [e6]
noncomputable def q13F(k:Nat):F4:=⟨q13C k,rr q13p [(ty_19,false),(.bool,false)] Tryz.f22,fun p=>none,0,[]⟩
theorem q13K(k:Nat):Contract Tryz.prog 22 (q13V k):=ctr (q13C k) (rs := [(ty_19,false),(.bool,false)]) (ps:=q13p) (q13F k) Tryz.f22 16 ⟨tyOf_ok tys_ok,gOf_ok ⟨q10K,q12K k,trivial⟩⟩ (annl [] trivial)

noncomputable def q14V:Variant:=⟨[.ptr ty_3 true,.val ty_0 false],[(.bool,false)],fun x=>spec_l1Cur_one KSl.xs x.1 x.2.1⟩
noncomputable def q14C:Cfg:=⟨Tryz.prog,tyOf tys,9,gOf [(93,[],q2V)],false,[],[]⟩
def q14p:List PE := [e1,e3]
noncomputable def q14F:Fn (Bool×Unit×Int×Int):=⟨q14C,rr q14p [(.bool,false)] Tryz.f85,fun p=>none,0,[0]⟩
theorem q14K:Contract Tryz.prog 85 (q14V):=ctr q14C (rs := [(.bool,false)]) (ps:=q14p) q14F Tryz.f85 32 ⟨tyOf_ok tys_ok,gOf_ok ⟨q2K,trivial⟩⟩ (annl [] trivial)

noncomputable def q15V:Variant:=⟨[.val ty_8 true,.val ty_0 false,.val ty_0 false],[(ty_8,true)],fun x=>spec_poWith x.1 x.2.1 x.2.2.1⟩
noncomputable def q15C:Cfg:=⟨Tryz.prog,tyOf tys,19,gOf [],false,[],[]⟩
def q15p:List PE := [e27,e3,e7]
noncomputable def q15F:Fn (Int×Int×Int×Int):=⟨q15C,rr q15p [(ty_8,true)] Tryz.f218,fun p=>none,0,[]⟩
theorem q15K:Contract Tryz.prog 218 (q15V):=ctr q15C (rs := [(ty_8,true)]) (ps:=q15p) q15F Tryz.f218 48 ⟨tyOf_ok tys_ok,gOf_ok trivial⟩ (annl [] trivial)

noncomputable def q16V(k:Nat):Variant:=⟨[.ptr ty_3 true,.val ty_0 false],[(ty_8,true)],fun x=>spec_l1Cur_term k KSl.xs x.1 x.2.1⟩
noncomputable def q16C(k:Nat):Cfg:=⟨Tryz.prog,tyOf tys,46,gOf [(93,[],q2V),(100,[],q3V),(218,[],q15V),(85,[],q14V)],false,[],[]⟩
def q16i1:List PE := [e1,e28,⟨4,48,.box ty_8 false,false⟩,⟨5,64,.box ty_8 false,false⟩,e29,⟨7,96,.val ty_0 false,false⟩]
def q16o1:List PE := [e1,⟨4,32,.box ty_8 false,false⟩,⟨5,48,.box ty_8 false,false⟩]
noncomputable def q16f1(k:Nat)(n:Nat)(x8:PTe q16i1):=spec_l1Cur_term_L122 k KSl.xs n x8.1 x8.2.1 x8.2.2.1 x8.2.2.2.1 x8.2.2.2.2.1 x8.2.2.2.2.2.1
def q16p:List PE := [e1,e3]
noncomputable def q16F(k:Nat):Fn ((Int×Int×Int×Int)×Unit×Int×Int):=⟨q16C k,rr q16p [(ty_8,true)] Tryz.f201,fun p=>bif Nat.beq p 7826 then some (.cut [e1,e28,⟨4,48,.box ty_8 false,false⟩,⟨5,64,.box ty_8 false,false⟩,e29,⟨7,96,.val ty_0 false,false⟩,⟨8,112,.val ty_0 false,false⟩] 128)else bif Nat.beq p 122 then some (.loop q16i1 q16o1 0 112 (q16f1 k k))else none,0,[0]⟩
theorem q16K(k:Nat):Contract Tryz.prog 201 (q16V k):=ctr (q16C k) (rs := [(ty_8,true)]) (ps:=q16p) (q16F k) Tryz.f201 32 ⟨tyOf_ok tys_ok,gOf_ok ⟨q2K,q3K,q15K,q14K,trivial⟩⟩ (annl [122] ⟨lok q16i1 q16o1 0 112 (q16f1 k) k,trivial⟩)

noncomputable def q17V:Variant:=⟨[.val ty_0 false],[(ty_0,false)],fun x=>spec_l1Sign x.1⟩
noncomputable def q17C:Cfg:=⟨Tryz.prog,tyOf tys,9,gOf [],false,[],[]⟩
def q17p:List PE := [e6]
noncomputable def q17F:F2:=⟨q17C,rr q17p [(ty_0,false)] Tryz.f120,fun p=>none,0,[]⟩
theorem q17K:Contract Tryz.prog 120 (q17V):=ctr q17C (rs := [(ty_0,false)]) (ps:=q17p) q17F Tryz.f120 16 ⟨tyOf_ok tys_ok,gOf_ok trivial⟩ (annl [] trivial)

noncomputable def q18V:Variant:=⟨[.val ty_8 true,.val ty_8 true],[(ty_0,false)],fun x=>spec_poOrder x.1 x.2.1⟩
noncomputable def q18C:Cfg:=⟨Tryz.prog,tyOf tys,35,gOf [(120,[],q17V)],false,[],[]⟩
def q18p:List PE := [e27,e30]
noncomputable def q18F:F2:=⟨q18C,rr q18p [(ty_0,false)] Tryz.f146,fun p=>none,0,[]⟩
theorem q18K:Contract Tryz.prog 146 (q18V):=ctr q18C (rs := [(ty_0,false)]) (ps:=q18p) q18F Tryz.f146 32 ⟨tyOf_ok tys_ok,gOf_ok ⟨q17K,trivial⟩⟩ (annl [] trivial)

noncomputable def q19V(k:Nat):Variant:=⟨[.val ty_9 false,.val ty_8 true],[(ty_9,false)],fun x=>spec_poPut k x.1 x.2.1⟩
noncomputable def q19C(k:Nat):Cfg:=⟨Tryz.prog,tyOf tys,67,gOf [(146,[],q18V)],false,[],[]⟩
def q19i1:List PE := [e31,e32,e33]
def q19o1:List PE := [e31,e32,e33]
noncomputable def q19f1(k:Nat)(n:Nat)(x2:PTe q19i1):=spec_poPut_L28 k n x2.1 x2.2.1 x2.2.2.1
def q19p:List PE := [e34,e30]
noncomputable def q19F(k:Nat):Fn (List (Int×Int×Int×Int)):=⟨q19C k,rr q19p [(ty_9,false)] Tryz.f102,fun p=>bif Nat.beq p 28 then some (.loop q19i1 q19o1 0 80 (q19f1 k k))else bif Nat.beq p 254 then some (.cut [⟨6,32,.val ty_9 false,false⟩,⟨7,48,.eat ty_8,false⟩] 64)else bif Nat.beq p 62 then some (.cut [e31,e32,e33,⟨6,80,.val ty_9 false,false⟩] 96)else none,0,[]⟩
theorem q19K(k:Nat):Contract Tryz.prog 102 (q19V k):=ctr (q19C k) (rs := [(ty_9,false)]) (ps:=q19p) (q19F k) Tryz.f102 32 ⟨tyOf_ok tys_ok,gOf_ok ⟨q18K,trivial⟩⟩ (annl [28] ⟨lok q19i1 q19o1 0 80 (q19f1 k) k,trivial⟩)

noncomputable def q20V:Variant:=⟨[.val ty_8 true],[(.bool,false)],fun x=>spec_poTerm x.1⟩
noncomputable def q20C:Cfg:=⟨Tryz.prog,tyOf tys,32,gOf [(126,[],q9V)],false,[],[]⟩
def q20p:List PE := [e27]
noncomputable def q20F:F3:=⟨q20C,rr q20p [(.bool,false)] Tryz.f191,fun p=>none,0,[]⟩
theorem q20K:Contract Tryz.prog 191 (q20V):=ctr q20C (rs := [(.bool,false)]) (ps:=q20p) q20F Tryz.f191 16 ⟨tyOf_ok tys_ok,gOf_ok ⟨q9K,trivial⟩⟩ (annl [] trivial)

noncomputable def q21V(k:Nat):Variant:=⟨[.val ty_9 false],[(.bool,false)],fun x=>spec_poGood k x.1⟩
noncomputable def q21C(k:Nat):Cfg:=⟨Tryz.prog,tyOf tys,38,gOf [(191,[],q20V),(146,[],q18V)],false,[],[]⟩
def q21i1:List PE := [e35,⟨5,32,.val ty_9 false,false⟩,e36,e37]
def q21o1:List PE := [e35]
noncomputable def q21f1(k:Nat)(n:Nat)(x3:PTe q21i1):=spec_poGood_L26 k n x3.1 x3.2.1 x3.2.2.1 x3.2.2.2.1
def q21p:List PE := [e34]
noncomputable def q21F(k:Nat):F3:=⟨q21C k,rr q21p [(.bool,false)] Tryz.f166,fun p=>bif Nat.beq p 26 then some (.loop q21i1 q21o1 0 80 (q21f1 k k))else none,0,[]⟩
theorem q21K(k:Nat):Contract Tryz.prog 166 (q21V k):=ctr (q21C k) (rs := [(.bool,false)]) (ps:=q21p) (q21F k) Tryz.f166 16 ⟨tyOf_ok tys_ok,gOf_ok ⟨q20K,q18K,trivial⟩⟩ (annl [26] ⟨lok q21i1 q21o1 0 80 (q21f1 k) k,trivial⟩)

noncomputable def q22V(k:Nat):Variant:=⟨[.val ty_9 false],[(ty_9,false),(.bool,false)],fun x=>spec_poSum k x.1⟩
noncomputable def q22C(k:Nat):Cfg:=⟨Tryz.prog,tyOf tys,21,gOf [(102,[],q19V k),(166,[],q21V k)],false,[],[]⟩
def q22i1:List PE := [⟨4,16,.eat ty_8,false⟩,⟨7,32,.val ty_9 false,false⟩,⟨8,48,.val ty_0 false,false⟩,e18]
def q22o1:List PE := [⟨4,16,.eat ty_8,false⟩]
noncomputable def q22f1(k:Nat)(n:Nat)(x2:PTe q22i1):=spec_poSum_L58 k n x2.1 x2.2.1 x2.2.2.1 x2.2.2.2.1
def q22p:List PE := [e34]
noncomputable def q22F(k:Nat):F5:=⟨q22C k,rr q22p [(ty_9,false),(.bool,false)] Tryz.f145,fun p=>bif Nat.beq p 58 then some (.loop q22i1 q22o1 0 80 (q22f1 k k))else none,0,[]⟩
theorem q22K(k:Nat):Contract Tryz.prog 145 (q22V k):=ctr (q22C k) (rs := [(ty_9,false),(.bool,false)]) (ps:=q22p) (q22F k) Tryz.f145 16 ⟨tyOf_ok tys_ok,gOf_ok ⟨q19K k,q21K k,trivial⟩⟩ (annl [58] ⟨lok q22i1 q22o1 0 80 (q22f1 k) k,trivial⟩)

noncomputable def q23V(k:Nat):Variant:=⟨[.val ty_9 false,.val ty_9 false],[(ty_9,false),(.bool,false)],fun x=>spec_poAdd k x.1 x.2.1⟩
noncomputable def q23C(k:Nat):Cfg:=⟨Tryz.prog,tyOf tys,14,gOf [(145,[],q22V k)],false,[],[]⟩
def q23p:List PE := [e34,⟨1,16,.val ty_9 false,false⟩]
noncomputable def q23F(k:Nat):F5:=⟨q23C k,rr q23p [(ty_9,false),(.bool,false)] Tryz.f101,fun p=>none,0,[]⟩
theorem q23K(k:Nat):Contract Tryz.prog 101 (q23V k):=ctr (q23C k) (rs := [(ty_9,false),(.bool,false)]) (ps:=q23p) (q23F k) Tryz.f101 32 ⟨tyOf_ok tys_ok,gOf_ok ⟨q22K k,trivial⟩⟩ (annl [] trivial)

noncomputable def q24V(k:Nat):Variant:=⟨[.ptr ty_3 true,.val ty_0 false],[(ty_9,false)],fun x=>spec_l1Cur_poly k KSl.xs x.1 x.2.1⟩
noncomputable def q24C(k:Nat):Cfg:=⟨Tryz.prog,tyOf tys,34,gOf [(93,[],q2V),(85,[],q14V),(201,[],q16V k),(101,[],q23V k)],false,[],[]⟩
def q24i1:List PE := [e1,e28,⟨5,48,.eat ty_8,false⟩,e38,e12]
def q24o1:List PE := [e1,e39]
noncomputable def q24f1(k:Nat)(n:Nat)(x6:PTe q24i1):=spec_l1Cur_poly_L250 k KSl.xs n x6.1 x6.2.1 x6.2.2.1 x6.2.2.2.1 x6.2.2.2.2.1
def q24p:List PE := [e1,e3]
noncomputable def q24F(k:Nat):F6:=⟨q24C k,rr q24p [(ty_9,false)] Tryz.f182,fun p=>bif Nat.beq p 250 then some (.loop q24i1 q24o1 0 96 (q24f1 k k))else bif Nat.beq p 30 then some (.cut [e1,e28,⟨5,48,.eat ty_8,false⟩,e38] 80)else none,0,[0]⟩
theorem q24K(k:Nat):Contract Tryz.prog 182 (q24V k):=ctr (q24C k) (rs := [(ty_9,false)]) (ps:=q24p) (q24F k) Tryz.f182 32 ⟨tyOf_ok tys_ok,gOf_ok ⟨q2K,q14K,q16K k,q23K k,trivial⟩⟩ (annl [250] ⟨lok q24i1 q24o1 0 96 (q24f1 k) k,trivial⟩)

noncomputable def q25V(k:Nat):Variant:=⟨[.ptr ty_3 true,.val ty_0 false],[(ty_16,false)],fun x=>spec_l1Cur_system k KSl.xs x.1 x.2.1⟩
noncomputable def q25C(k:Nat):Cfg:=⟨Tryz.prog,tyOf tys,17,gOf [(182,[],q24V k)],false,[],[]⟩
def q25i1:List PE := [e1,e28,e40]
def q25o1:List PE := [e41,e1]
noncomputable def q25f1(k:Nat)(n:Nat)(x2:PTe q25i1):=spec_l1Cur_system_L28 k KSl.xs n x2.1 x2.2.1 x2.2.2.1
def q25p:List PE := [e1,e3]
noncomputable def q25F(k:Nat):F7:=⟨q25C k,rr q25p [(ty_16,false)] Tryz.f143,fun p=>bif Nat.beq p 28 then some (.loop q25i1 q25o1 0 64 (q25f1 k k))else none,0,[0]⟩
theorem q25K(k:Nat):Contract Tryz.prog 143 (q25V k):=ctr (q25C k) (rs := [(ty_16,false)]) (ps:=q25p) (q25F k) Tryz.f143 32 ⟨tyOf_ok tys_ok,gOf_ok ⟨q24K k,trivial⟩⟩ (annl [28] ⟨lok q25i1 q25o1 0 64 (q25f1 k) k,trivial⟩)

noncomputable def q26V(k:Nat):Variant:=⟨[.ptr ty_3 true,.val ty_0 false],[(ty_9,false)],fun x=>spec_l1Cur_anyPoly k KSl.xs x.1 x.2.1⟩
noncomputable def q26C(k:Nat):Cfg:=⟨Tryz.prog,tyOf tys,76,gOf [(182,[],q24V k),(93,[],q2V),(100,[],q3V)],false,[],[]⟩
def q26i1:List PE := [e1,e39,e36,e37,e23]
def q26o1:List PE := [e1,e39,e36,e37]
noncomputable def q26f1(k:Nat)(n:Nat)(x7:PTe q26i1):=spec_l1Cur_anyPoly_L494888082 k KSl.xs n x7.1 x7.2.1 x7.2.2.1 x7.2.2.2.1 x7.2.2.2.2.1
def q26i2:List PE := [e1,e39,e36,e37]
def q26o2:List PE := [e1,e39,e36]
noncomputable def q26f2(k:Nat)(n:Nat)(x10:PTe q26i2):=spec_l1Cur_anyPoly_L7732626 k KSl.xs n x10.1 x10.2.1 x10.2.2.1 x10.2.2.2.1
def q26i3:List PE := [e1,e39,e36]
def q26o3:List PE := [e39,e1]
noncomputable def q26f3(k:Nat)(n:Nat)(x13:PTe q26i3):=spec_l1Cur_anyPoly_L120822 k KSl.xs n x13.1 x13.2.1 x13.2.2.1
def q26p:List PE := [e1,e3]
noncomputable def q26F(k:Nat):F6:=⟨q26C k,rr q26p [(ty_9,false)] Tryz.f144,fun p=>bif Nat.beq p 494888082 then some (.loop q26i1 q26o1 5 96 (q26f1 k k))else bif Nat.beq p 7732626 then some (.loop q26i2 q26o2 3 80 (q26f2 k k))else bif Nat.beq p 120822 then some (.loop q26i3 q26o3 1 64 (q26f3 k k))else none,0,[0]⟩
theorem q26K(k:Nat):Contract Tryz.prog 144 (q26V k):=ctr (q26C k) (rs := [(ty_9,false)]) (ps:=q26p) (q26F k) Tryz.f144 32 ⟨tyOf_ok tys_ok,gOf_ok ⟨q24K k,q2K,q3K,trivial⟩⟩ (annl [120822,7732626,494888082] ⟨lok q26i3 q26o3 1 64 (q26f3 k) k,lok q26i2 q26o2 3 80 (q26f2 k) k,lok q26i1 q26o1 5 96 (q26f1 k) k,trivial⟩)

noncomputable def q27V(k:Nat):Variant:=⟨[.ptr ty_3 true],[(ty_16,false)],fun x=>spec_l1Cur_anySystem k KSl.xs x.1⟩
noncomputable def q27C(k:Nat):Cfg:=⟨Tryz.prog,tyOf tys,29,gOf [(100,[],q3V),(143,[],q25V k),(93,[],q2V),(144,[],q26V k)],false,[4,10,15],[]⟩
def q27p:List PE := [e1]
noncomputable def q27F(k:Nat):F7:=⟨q27C k,rr q27p [(ty_16,false)] Tryz.f99,fun p=>none,0,[0]⟩
theorem q27K(k:Nat):Contract Tryz.prog 99 (q27V k):=ctr (q27C k) (rs := [(ty_16,false)]) (ps:=q27p) (q27F k) Tryz.f99 16 ⟨tyOf_ok tys_ok,gOf_ok ⟨q3K,q25K k,q2K,q26K k,trivial⟩⟩ (annl [] trivial)

noncomputable def q28V:Variant:=⟨[.val ty_0 false,.val ty_0 false],[(ty_0,false)],fun x=>spec_l1Least x.1 x.2.1⟩
noncomputable def q28C:Cfg:=⟨Tryz.prog,tyOf tys,10,gOf [],false,[],[]⟩
def q28p:List PE := [e6,e3]
noncomputable def q28F:F2:=⟨q28C,rr q28p [(ty_0,false)] Tryz.f149,fun p=>none,0,[]⟩
theorem q28K:Contract Tryz.prog 149 (q28V):=ctr q28C (rs := [(ty_0,false)]) (ps:=q28p) q28F Tryz.f149 32 ⟨tyOf_ok tys_ok,gOf_ok trivial⟩ (annl [] trivial)

noncomputable def q29V:Variant:=⟨[.val ty_0 false,.val ty_0 false],[(ty_0,false)],fun x=>spec_l1Most x.1 x.2.1⟩
noncomputable def q29C:Cfg:=⟨Tryz.prog,tyOf tys,10,gOf [],false,[],[]⟩
def q29p:List PE := [e6,e3]
noncomputable def q29F:F2:=⟨q29C,rr q29p [(ty_0,false)] Tryz.f148,fun p=>none,0,[]⟩
theorem q29K:Contract Tryz.prog 148 (q29V):=ctr q29C (rs := [(ty_0,false)]) (ps:=q29p) q29F Tryz.f148 32 ⟨tyOf_ok tys_ok,gOf_ok trivial⟩ (annl [] trivial)

noncomputable def q30V:Variant:=⟨[.val ty_10 false],[(ty_10,false)],fun x=>spec_l1Own x.1⟩
noncomputable def q30C:Cfg:=⟨Tryz.prog,tyOf tys,6,gOf [],false,[],[]⟩
def q30p:List PE := [e42]
noncomputable def q30F:F8:=⟨q30C,rr q30p [(ty_10,false)] Tryz.f150,fun p=>none,0,[]⟩
theorem q30K:Contract Tryz.prog 150 (q30V):=ctr q30C (rs := [(ty_10,false)]) (ps:=q30p) q30F Tryz.f150 16 ⟨tyOf_ok tys_ok,gOf_ok trivial⟩ (annl [] trivial)

noncomputable def q31V(k:Nat):Variant:=⟨[.val ty_12 true],[(.bool,false)],fun x=>spec_bxEven k x.1⟩
noncomputable def q31C(k:Nat):Cfg:=⟨Tryz.prog,tyOf tys,26,gOf [],false,[],[]⟩
def q31i1:List PE := [e43,e44,e45,e46]
def q31o1:List PE := []
noncomputable def q31f1(k:Nat)(n:Nat)(x1:PTe q31i1):=spec_bxEven_L26 k n x1.1 x1.2.1 x1.2.2.1 x1.2.2.2.1
def q31p:List PE := [e47]
noncomputable def q31F(k:Nat):F3:=⟨q31C k,rr q31p [(.bool,false)] Tryz.f151,fun p=>bif Nat.beq p 26 then some (.loop q31i1 q31o1 0 80 (q31f1 k k))else none,0,[]⟩
theorem q31K(k:Nat):Contract Tryz.prog 151 (q31V k):=ctr (q31C k) (rs := [(.bool,false)]) (ps:=q31p) (q31F k) Tryz.f151 16 ⟨tyOf_ok tys_ok,gOf_ok trivial⟩ (annl [26] ⟨lok q31i1 q31o1 0 80 (q31f1 k) k,trivial⟩)

noncomputable def q32V(k:Nat):Variant:=⟨[.val ty_12 true],[(.bool,false)],fun x=>spec_bxGood k x.1⟩
noncomputable def q32C(k:Nat):Cfg:=⟨Tryz.prog,tyOf tys,80,gOf [(126,[],q9V),(57,[],q11V)],false,[],[]⟩
def q32i1:List PE := [e43,⟨3,32,.val ty_0 false,false⟩,⟨4,48,.val .bool false,false⟩,⟨36,64,.val ty_10 false,false⟩,⟨37,80,.val ty_0 false,false⟩,⟨38,96,.val ty_0 false,false⟩]
def q32o1:List PE := [⟨4,16,.val .bool false,false⟩]
noncomputable def q32f1(k:Nat)(n:Nat)(x6:PTe q32i1):=spec_bxGood_L250 k n x6.1 x6.2.1 x6.2.2.1 x6.2.2.2.1 x6.2.2.2.2.1 x6.2.2.2.2.2.1
def q32p:List PE := [e47]
noncomputable def q32F(k:Nat):F3:=⟨q32C k,rr q32p [(.bool,false)] Tryz.f96,fun p=>bif Nat.beq p 250 then some (.loop q32i1 q32o1 0 112 (q32f1 k k))else none,0,[]⟩
theorem q32K(k:Nat):Contract Tryz.prog 96 (q32V k):=ctr (q32C k) (rs := [(.bool,false)]) (ps:=q32p) (q32F k) Tryz.f96 16 ⟨tyOf_ok tys_ok,gOf_ok ⟨q9K,q11K,trivial⟩⟩ (annl [250] ⟨lok q32i1 q32o1 0 112 (q32f1 k) k,trivial⟩)

noncomputable def q33V(k:Nat):Variant:=⟨[.val ty_0 false,.val ty_10 false,.val ty_10 false],[(ty_12,true),(.bool,false)],fun x=>spec_bxMake k x.1 x.2.1 x.2.2.1⟩
noncomputable def q33C(k:Nat):Cfg:=⟨Tryz.prog,tyOf tys,53,gOf [(150,[],q30V),(151,[],q31V k),(96,[],q32V k)],false,[],[]⟩
def q33i1:List PE := [e48,e49,⟨29,80,.val ty_0 false,false⟩,⟨30,96,.val ty_0 false,false⟩]
def q33o1:List PE := [e48,e49]
noncomputable def q33f1(k:Nat)(n:Nat)(x4:PTe q33i1):=spec_bxMake_L1814 k n x4.1 x4.2.1 x4.2.2.1 x4.2.2.2.1
def q33i2:List PE := [e48,e49]
def q33o2:List PE := [e48,e49]
noncomputable def q33f2(k:Nat)(n:Nat)(x7:PTe q33i2):=spec_bxMake_L28 k n x7.1 x7.2.1
def q33p:List PE := [e6,e4,⟨2,32,.val ty_10 false,false⟩]
noncomputable def q33F(k:Nat):Fn ((Int×(List Int)×List Int)×Bool):=⟨q33C k,rr q33p [(ty_12,true),(.bool,false)] Tryz.f104,fun p=>bif Nat.beq p 1814 then some (.loop q33i1 q33o1 2 112 (q33f1 k k))else bif Nat.beq p 28 then some (.loop q33i2 q33o2 0 80 (q33f2 k k))else none,0,[]⟩
theorem q33K(k:Nat):Contract Tryz.prog 104 (q33V k):=ctr (q33C k) (rs := [(ty_12,true),(.bool,false)]) (ps:=q33p) (q33F k) Tryz.f104 48 ⟨tyOf_ok tys_ok,gOf_ok ⟨q30K,q31K k,q32K k,trivial⟩⟩ (annl [28,1814] ⟨lok q33i2 q33o2 0 80 (q33f2 k) k,lok q33i1 q33o1 2 112 (q33f1 k) k,trivial⟩)

noncomputable def q34V(k:Nat):Variant:=⟨[.ptr ty_3 true,.val ty_0 false],[(ty_12,true)],fun x=>spec_l1Cur_box k KSl.xs x.1 x.2.1⟩
noncomputable def q34C(k:Nat):Cfg:=⟨Tryz.prog,tyOf tys,98,gOf [(100,[],q3V),(57,[],q11V),(93,[],q2V),(149,[],q28V),(148,[],q29V),(104,[],q33V k)],false,[],[]⟩
def q34i1:List PE := [e1,e28,e50,e33,e29,e51,⟨8,112,.eat ty_0,false⟩]
def q34o1:List PE := [e28,e50,e33,e52,e53,e1]
noncomputable def q34f1(k:Nat)(n:Nat)(x16:PTe q34i1):=spec_l1Cur_box_L124 k KSl.xs n x16.1 x16.2.1 x16.2.2.1 x16.2.2.2.1 x16.2.2.2.2.1 x16.2.2.2.2.2.1 x16.2.2.2.2.2.2.1
def q34i2:List PE := [e28,e50,⟨13,64,.eat ty_0,false⟩,⟨14,80,.eat ty_0,false⟩,e1]
def q34o2:List PE := [⟨4,32,.box ty_12 true,false⟩,⟨13,48,.eat ty_0,false⟩,⟨14,64,.eat ty_0,false⟩,e1]
noncomputable def q34f2(k:Nat)(n:Nat)(x20:PTe q34i2):=spec_l1Cur_box_L8148 k KSl.xs n x20.1 x20.2.1 x20.2.2.1 x20.2.2.2.1 x20.2.2.2.2.1
def q34p:List PE := [e1,e3]
noncomputable def q34F(k:Nat):F9:=⟨q34C k,rr q34p [(ty_12,true)] Tryz.f147,fun p=>bif Nat.beq p 124 then some (.loop q34i1 q34o1 0 128 (q34f1 k k))else bif Nat.beq p 8148 then some (.loop q34i2 q34o2 2 96 (q34f2 k k))else none,0,[0]⟩
theorem q34K(k:Nat):Contract Tryz.prog 147 (q34V k):=ctr (q34C k) (rs := [(ty_12,true)]) (ps:=q34p) (q34F k) Tryz.f147 32 ⟨tyOf_ok tys_ok,gOf_ok ⟨q3K,q11K,q2K,q28K,q29K,q33K k,trivial⟩⟩ (annl [124,8148] ⟨lok q34i1 q34o1 0 128 (q34f1 k) k,lok q34i2 q34o2 2 96 (q34f2 k) k,trivial⟩)

noncomputable def q35V(k:Nat):Variant:=⟨[.ptr ty_3 true,.val ty_0 false],[(ty_12,true)],fun x=>spec_l1Cur_anyBox k KSl.xs x.1 x.2.1⟩
noncomputable def q35C(k:Nat):Cfg:=⟨Tryz.prog,tyOf tys,65,gOf [(147,[],q34V k),(93,[],q2V),(100,[],q3V),(149,[],q28V),(148,[],q29V),(57,[],q11V)],true,[],[]⟩
def q35p:List PE := [e1,e3]
noncomputable def q35F(k:Nat):F9:=⟨q35C k,rr q35p [(ty_12,true)] Tryz.f103,fun p=>none,0,[0]⟩
theorem q35K(k:Nat):Contract Tryz.prog 103 (q35V k):=ctr (q35C k) (rs := [(ty_12,true)]) (ps:=q35p) (q35F k) Tryz.f103 32 ⟨tyOf_ok tys_ok,gOf_ok ⟨q34K k,q2K,q3K,q28K,q29K,q11K,trivial⟩⟩ (annl [] trivial)

noncomputable def q36V(k:Nat):Variant:=⟨[.ptr ty_3 true,.val ty_0 false],[(ty_12,true)],fun x=>spec_l1Cur_coarse k KSl.xs x.1 x.2.1⟩
noncomputable def q36C(k:Nat):Cfg:=⟨Tryz.prog,tyOf tys,82,gOf [(100,[],q3V),(57,[],q11V),(93,[],q2V),(149,[],q28V),(148,[],q29V),(104,[],q33V k),(147,[],q34V k)],false,[],[]⟩
def q36i1:List PE := [e1,e28,e50,e33,e29,e51,⟨8,112,.eat ty_0,false⟩]
def q36o1:List PE := [e1,e28,e50,e33,e52,e53]
noncomputable def q36f1(k:Nat)(n:Nat)(x14:PTe q36i1):=spec_l1Cur_coarse_L124 k KSl.xs n x14.1 x14.2.1 x14.2.2.1 x14.2.2.2.1 x14.2.2.2.2.1 x14.2.2.2.2.2.1 x14.2.2.2.2.2.2.1
def q36p:List PE := [e1,e3]
noncomputable def q36F(k:Nat):F9:=⟨q36C k,rr q36p [(ty_12,true)] Tryz.f127,fun p=>bif Nat.beq p 124 then some (.loop q36i1 q36o1 0 128 (q36f1 k k))else none,0,[0]⟩
theorem q36K(k:Nat):Contract Tryz.prog 127 (q36V k):=ctr (q36C k) (rs := [(ty_12,true)]) (ps:=q36p) (q36F k) Tryz.f127 32 ⟨tyOf_ok tys_ok,gOf_ok ⟨q3K,q11K,q2K,q28K,q29K,q33K k,q34K k,trivial⟩⟩ (annl [124] ⟨lok q36i1 q36o1 0 128 (q36f1 k) k,trivial⟩)

noncomputable def q37V(k:Nat):Variant:=⟨[.ptr ty_3 true],[(ty_16,false),(ty_12,true)],fun x=>spec_l1Cur_cubeSystem k KSl.xs x.1⟩
noncomputable def q37C(k:Nat):Cfg:=⟨Tryz.prog,tyOf tys,119,gOf [(85,[],q14V),(99,[],q27V k),(103,[],q35V k),(100,[],q3V),(93,[],q2V),(101,[],q23V k),(127,[],q36V k)],false,[],[]⟩
def q37i1:List PE := [e1,e54,⟨4,32,.eat ty_8,false⟩,e40,⟨42,64,.val ty_10 false,false⟩,⟨43,80,.val ty_0 false,false⟩,⟨44,96,.val ty_0 false,false⟩]
def q37o1:List PE := [e1,e54,e41]
noncomputable def q37f1(k:Nat)(n:Nat)(x15:PTe q37i1):=spec_l1Cur_cubeSystem_L506 k KSl.xs n x15.1 x15.2.1 x15.2.2.1 x15.2.2.2.1 x15.2.2.2.2.1 x15.2.2.2.2.2.1 x15.2.2.2.2.2.2.1
def q37p:List PE := [e1]
noncomputable def q37F(k:Nat):Fn ((List (List (Int×Int×Int×Int)))×(Int×(List Int)×List Int)×Unit×Int×Int):=⟨q37C k,rr q37p [(ty_16,false),(ty_12,true)] Tryz.f73,fun p=>bif Nat.beq p 129638 then some (.cut [e1,e54,⟨4,32,.eat ty_8,false⟩,e40,⟨9,64,.eat ty_8,false⟩,⟨42,80,.val ty_10 false,false⟩,⟨43,96,.val ty_0 false,false⟩,⟨44,112,.val ty_0 false,false⟩] 128)else bif Nat.beq p 506 then some (.loop q37i1 q37o1 0 112 (q37f1 k k))else bif Nat.beq p 254 then some (.cut [e1,e54,e41] 48)else none,0,[0]⟩
theorem q37K(k:Nat):Contract Tryz.prog 73 (q37V k):=ctr (q37C k) (rs := [(ty_16,false),(ty_12,true)]) (ps:=q37p) (q37F k) Tryz.f73 16 ⟨tyOf_ok tys_ok,gOf_ok ⟨q14K,q27K k,q35K k,q3K,q2K,q23K k,q36K k,trivial⟩⟩ (annl [506] ⟨lok q37i1 q37o1 0 112 (q37f1 k) k,trivial⟩)

noncomputable def q38V:Variant:=⟨[.ptr ty_3 true,.val ty_0 false],[(ty_6,true)],fun x=>spec_l1Cur_cellOf KSl.xs x.1 x.2.1⟩
noncomputable def q38C:Cfg:=⟨Tryz.prog,tyOf tys,33,gOf [(71,[],q10V),(57,[],q11V),(100,[],q3V),(85,[],q14V),(93,[],q2V)],false,[],[]⟩
def q38p:List PE := [e1,e3]
noncomputable def q38F:Fn ((Int×Bool×Int×Int)×Unit×Int×Int):=⟨q38C,rr q38p [(ty_6,true)] Tryz.f74,fun p=>bif Nat.beq p 14 then some (.cut [e1,⟨4,32,.box ty_6 false,false⟩,e21] 64)else none,0,[0]⟩
theorem q38K:Contract Tryz.prog 74 (q38V):=ctr q38C (rs := [(ty_6,true)]) (ps:=q38p) q38F Tryz.f74 32 ⟨tyOf_ok tys_ok,gOf_ok ⟨q10K,q11K,q3K,q14K,q2K,trivial⟩⟩ (annl [] trivial)

noncomputable def q39V(k:Nat):Variant:=⟨[.val (.sl (.int .u8)) false],[(ty_12,true),(ty_0,false),(ty_6,true)],fun x=>spec_DrawCellSides k x.1⟩
noncomputable def spec_DrawCellSides_V0(k:Nat):Variant:=⟨[.val .ks false],[(ty_12,true),(ty_0,false),(ty_6,true)],fun _=>spec_DrawCellSides k KSl.xs⟩
noncomputable def q39C(k:Nat):Cfg:=⟨Tryz.prog,tyOf tys,24,gOf [(73,[],q37V k),(69,[],q4V),(74,[],q38V)],false,[],[]⟩
def q39p:List PE := [e5]
noncomputable def q39F(k:Nat):Fn ((Int×(List Int)×List Int)×Int×Int×Bool×Int×Int):=⟨q39C k,rr q39p [(ty_12,true),(ty_0,false),(ty_6,true)] Tryz.f23,fun p=>none,0,[]⟩
theorem spec_DrawCellSides_K0(k:Nat):Contract Tryz.prog 23 (spec_DrawCellSides_V0 k):=ctr (q39C k) (rs := [(ty_12,true),(ty_0,false),(ty_6,true)]) (ps:=q39p) (q39F k) Tryz.f23 16 ⟨tyOf_ok tys_ok,gOf_ok ⟨q37K k,q4K,q38K,trivial⟩⟩ (annl [] trivial)
theorem q39K(k:Nat):Contract Tryz.prog 23 (q39V k):=contractDraw (by kernel_rfl) (fun kk => @spec_DrawCellSides_K0 kk k)

noncomputable def q40V(k:Nat):Variant:=⟨[.ptr ty_12 false],[(.bool,false)],fun x=>impl_isBox k x.1⟩
noncomputable def q40C(k:Nat):Cfg:=⟨Tryz.prog,tyOf tys,94,gOf [(46,[],q6V)],false,[],[]⟩
def q40i1:List PE := [⟨0,16,.ptr ty_12 false,false⟩,⟨3,32,.val ty_0 false,false⟩,⟨4,48,.val .bool false,false⟩,⟨48,64,.val ty_10 false,false⟩,⟨49,80,.val ty_0 false,false⟩,⟨50,96,.val ty_0 false,false⟩]
def q40o1:List PE := [⟨4,16,.val .bool false,false⟩]
noncomputable def q40f1(k:Nat)(n:Nat)(x5:PTe q40i1):=impl_isBox_L122 k n x5.1 x5.2.1 x5.2.2.1 x5.2.2.2.1 x5.2.2.2.2.1 x5.2.2.2.2.2.1
def q40p:List PE := [e55]
noncomputable def q40F(k:Nat):F3:=⟨q40C k,rr q40p [(.bool,false)] Tryz.f128,fun p=>bif Nat.beq p 122 then some (.loop q40i1 q40o1 0 112 (q40f1 k k))else none,0,[]⟩
theorem q40K(k:Nat):Contract Tryz.prog 128 (q40V k):=ctr (q40C k) (rs := [(.bool,false)]) (ps:=q40p) (q40F k) Tryz.f128 16 ⟨tyOf_ok tys_ok,gOf_ok ⟨q6K,trivial⟩⟩ (annl [122] ⟨lok q40i1 q40o1 0 112 (q40f1 k) k,trivial⟩)

noncomputable def q41V(k:Nat):Variant:=⟨[.ptr ty_12 false],[(.bool,false)],fun x=>impl_isCubeBox k x.1⟩
noncomputable def q41C(k:Nat):Cfg:=⟨Tryz.prog,tyOf tys,20,gOf [(128,[],q40V k)],false,[],[]⟩
def q41p:List PE := [e55]
noncomputable def q41F(k:Nat):F3:=⟨q41C k,rr q41p [(.bool,false)] Tryz.f75,fun p=>none,0,[]⟩
theorem q41K(k:Nat):Contract Tryz.prog 75 (q41V k):=ctr (q41C k) (rs := [(.bool,false)]) (ps:=q41p) (q41F k) Tryz.f75 16 ⟨tyOf_ok tys_ok,gOf_ok ⟨q40K k,trivial⟩⟩ (annl [] trivial)

noncomputable def q42V:Variant:=⟨[.val ty_0 false,.val ty_6 true],[(.bool,false)],fun x=>impl_isCell x.1 x.2.1⟩
noncomputable def q42C:Cfg:=⟨Tryz.prog,tyOf tys,28,gOf [(46,[],q6V)],false,[],[]⟩
def q42p:List PE := [e6,⟨1,16,.val ty_6 true,false⟩]
noncomputable def q42F:F3:=⟨q42C,rr q42p [(.bool,false)] Tryz.f76,fun p=>none,0,[]⟩
theorem q42K:Contract Tryz.prog 76 (q42V):=ctr q42C (rs := [(.bool,false)]) (ps:=q42p) q42F Tryz.f76 32 ⟨tyOf_ok tys_ok,gOf_ok ⟨q6K,trivial⟩⟩ (annl [] trivial)

noncomputable def q43V:Variant:=⟨[.val ty_6 true,.val ty_0 false],[(ty_7,true),(ty_4,true)],fun x=>impl_Cell_lowest x.1 x.2.1⟩
noncomputable def q43C:Cfg:=⟨Tryz.prog,tyOf tys,37,gOf [],false,[],[]⟩
def q43p:List PE := [e56,e3]
noncomputable def q43F:Fn ((Int×Int×Int)×Int×Int):=⟨q43C,rr q43p [(ty_7,true),(ty_4,true)] Tryz.f129,fun p=>bif Nat.beq p 62 then some (.cut [⟨2,32,.box ty_6 false,false⟩,⟨4,48,.box ty_7 false,false⟩,⟨5,64,.box ty_4 false,false⟩,⟨6,80,.box ty_4 false,false⟩,⟨7,96,.box ty_7 false,false⟩] 112)else bif Nat.beq p 14 then some (.cut [e28,e57,⟨4,64,.box ty_7 false,false⟩,⟨5,80,.box ty_4 false,false⟩,⟨6,96,.box ty_4 false,false⟩] 112)else none,0,[]⟩
theorem q43K:Contract Tryz.prog 129 (q43V):=ctr q43C (rs := [(ty_7,true),(ty_4,true)]) (ps:=q43p) q43F Tryz.f129 32 ⟨tyOf_ok tys_ok,gOf_ok trivial⟩ (annl [] trivial)

noncomputable def q44V:Variant:=⟨[.ptr ty_12 false,.val ty_0 false],[(ty_0,false)],fun x=>impl_Box_length x.1 x.2.1⟩
noncomputable def q44C:Cfg:=⟨Tryz.prog,tyOf tys,20,gOf [],false,[],[]⟩
def q44p:List PE := [e55,e3]
noncomputable def q44F:F2:=⟨q44C,rr q44p [(ty_0,false)] Tryz.f110,fun p=>none,0,[]⟩
theorem q44K:Contract Tryz.prog 110 (q44V):=ctr q44C (rs := [(ty_0,false)]) (ps:=q44p) q44F Tryz.f110 32 ⟨tyOf_ok tys_ok,gOf_ok trivial⟩ (annl [] trivial)

noncomputable def q45V:Variant:=⟨[.val ty_0 false],[(ty_1,false)],fun x=>impl_size x.1⟩
noncomputable def q45C:Cfg:=⟨Tryz.prog,tyOf tys,10,gOf [],false,[],[]⟩
def q45p:List PE := [e6]
noncomputable def q45F:F2:=⟨q45C,rr q45p [(ty_1,false)] Tryz.f152,fun p=>none,0,[]⟩
theorem q45K:Contract Tryz.prog 152 (q45V):=ctr q45C (rs := [(ty_1,false)]) (ps:=q45p) q45F Tryz.f152 16 ⟨tyOf_ok tys_ok,gOf_ok trivial⟩ (annl [] trivial)

noncomputable def q46V:Variant:=⟨[.val ty_0 false],[(ty_14,true)],fun x=>impl_wideOf x.1⟩
noncomputable def q46C:Cfg:=⟨Tryz.prog,tyOf tys,8,gOf [(152,[],q45V)],false,[],[]⟩
def q46p:List PE := [e6]
noncomputable def q46F:F10:=⟨q46C,rr q46p [(ty_14,true)] Tryz.f109,fun p=>none,0,[]⟩
theorem q46K:Contract Tryz.prog 109 (q46V):=ctr q46C (rs := [(ty_14,true)]) (ps:=q46p) q46F Tryz.f109 16 ⟨tyOf_ok tys_ok,gOf_ok ⟨q45K,trivial⟩⟩ (annl [] trivial)

noncomputable def q47V:Variant:=⟨[.val ty_14 true],[(.bool,false)],fun x=>impl_wide_isZero x.1⟩
noncomputable def q47C:Cfg:=⟨Tryz.prog,tyOf tys,11,gOf [],false,[],[]⟩
def q47p:List PE := [e58]
noncomputable def q47F:F3:=⟨q47C,rr q47p [(.bool,false)] Tryz.f153,fun p=>none,0,[]⟩
theorem q47K:Contract Tryz.prog 153 (q47V):=ctr q47C (rs := [(.bool,false)]) (ps:=q47p) q47F Tryz.f153 16 ⟨tyOf_ok tys_ok,gOf_ok trivial⟩ (annl [] trivial)

noncomputable def q48V:Variant:=⟨[.val ty_14 true,.val ty_0 false],[(ty_14,true)],fun x=>impl_wide_shift x.1 x.2.1⟩
noncomputable def q48C:Cfg:=⟨Tryz.prog,tyOf tys,63,gOf [],false,[],[]⟩
def q48p:List PE := [e58,e3]
noncomputable def q48F:F10:=⟨q48C,rr q48p [(ty_14,true)] Tryz.f154,fun p=>none,0,[]⟩
theorem q48K:Contract Tryz.prog 154 (q48V):=ctr q48C (rs := [(ty_14,true)]) (ps:=q48p) q48F Tryz.f154 32 ⟨tyOf_ok tys_ok,gOf_ok trivial⟩ (annl [] trivial)

noncomputable def q49V(k:Nat):Variant:=⟨[.val ty_14 true,.val ty_0 false],[(ty_4,true),(.bool,false)],fun x=>impl_wide_fit k x.1 x.2.1⟩
noncomputable def q49C(k:Nat):Cfg:=⟨Tryz.prog,tyOf tys,45,gOf [(153,[],q47V),(154,[],q48V)],false,[],[]⟩
def q49i1:List PE := [e28,⟨2,48,.box ty_14 false,false⟩,e59]
def q49o1:List PE := [e28,⟨2,48,.box ty_14 false,false⟩,e59]
noncomputable def q49f1(k:Nat)(n:Nat)(x3:PTe q49i1):=impl_wide_fit_L28 k n x3.1 x3.2.1 x3.2.2.1
def q49p:List PE := [e58,e3]
noncomputable def q49F(k:Nat):F11:=⟨q49C k,rr q49p [(ty_4,true),(.bool,false)] Tryz.f111,fun p=>bif Nat.beq p 28 then some (.loop q49i1 q49o1 0 80 (q49f1 k k))else none,0,[]⟩
theorem q49K(k:Nat):Contract Tryz.prog 111 (q49V k):=ctr (q49C k) (rs := [(ty_4,true),(.bool,false)]) (ps:=q49p) (q49F k) Tryz.f111 32 ⟨tyOf_ok tys_ok,gOf_ok ⟨q47K,q48K,trivial⟩⟩ (annl [28] ⟨lok q49i1 q49o1 0 80 (q49f1 k) k,trivial⟩)

noncomputable def q50V(k:Nat):Variant:=⟨[.ptr ty_12 false,.val ty_0 false,.val ty_6 true],[(ty_17,false)],fun x=>impl_cellSides k x.1 x.2.1 x.2.2.1⟩
noncomputable def q50C(k:Nat):Cfg:=⟨Tryz.prog,tyOf tys,86,gOf [(129,[],q43V),(110,[],q44V),(109,[],q46V),(111,[],q49V k)],false,[],[]⟩
def q50i1:List PE := [e60,e61,e62,e63,⟨24,112,.val ty_7 true,false⟩,⟨25,128,.val ty_0 false,false⟩]
def q50o1:List PE := [⟨9,48,.eat ty_15,false⟩]
noncomputable def q50f1(k:Nat)(n:Nat)(x26:PTe q50i1):=impl_cellSides_L122 k n x26.1 x26.2.1 x26.2.2.1 x26.2.2.2.1 x26.2.2.2.2.1 x26.2.2.2.2.2.1
def q50p:List PE := [e55,e3,e64]
noncomputable def q50F(k:Nat):F12:=⟨q50C k,rr q50p [(ty_17,false)] Tryz.f77,fun p=>bif Nat.beq p 62670 then some (.cut [e60,e61,e62,e63,e65,e14,e66,e67] 176)else bif Nat.beq p 62670 then some (.cut [e60,e61,e62,e63,e65,e14,e66,e67] 176)else bif Nat.beq p 62670 then some (.cut [e60,e61,e62,e63,e65,e14,e66,e67] 176)else bif Nat.beq p 122 then some (.loop q50i1 q50o1 0 144 (q50f1 k k))else none,0,[]⟩
theorem q50K(k:Nat):Contract Tryz.prog 77 (q50V k):=ctr (q50C k) (rs := [(ty_17,false)]) (ps:=q50p) (q50F k) Tryz.f77 48 ⟨tyOf_ok tys_ok,gOf_ok ⟨q43K,q44K,q46K,q49K k,trivial⟩⟩ (annl [122] ⟨lok q50i1 q50o1 0 144 (q50f1 k) k,trivial⟩)

noncomputable def q51V(k:Nat):Variant:=⟨[.val ty_12 true,.val ty_0 false,.val ty_6 true],[(ty_17,false),(.bool,false)],fun x=>impl_CellSides k x.1 x.2.1 x.2.2.1⟩
noncomputable def q51C(k:Nat):Cfg:=⟨Tryz.prog,tyOf tys,19,gOf [(75,[],q41V k),(76,[],q42V),(77,[],q50V k)],false,[],[]⟩
def q51p:List PE := [e47,e3,e64]
noncomputable def q51F(k:Nat):F13:=⟨q51C k,rr q51p [(ty_17,false),(.bool,false)] Tryz.f24,fun p=>none,0,[]⟩
theorem q51K(k:Nat):Contract Tryz.prog 24 (q51V k):=ctr (q51C k) (rs := [(ty_17,false),(.bool,false)]) (ps:=q51p) (q51F k) Tryz.f24 48 ⟨tyOf_ok tys_ok,gOf_ok ⟨q41K k,q42K,q50K k,trivial⟩⟩ (annl [] trivial)

noncomputable def q52V(k:Nat):Variant:=⟨[.val ty_12 true],[(.bool,false)],fun x=>spec_cbBox k x.1⟩
noncomputable def q52C(k:Nat):Cfg:=⟨Tryz.prog,tyOf tys,16,gOf [(96,[],q32V k)],false,[],[]⟩
def q52p:List PE := [e47]
noncomputable def q52F(k:Nat):F3:=⟨q52C k,rr q52p [(.bool,false)] Tryz.f78,fun p=>none,0,[]⟩
theorem q52K(k:Nat):Contract Tryz.prog 78 (q52V k):=ctr (q52C k) (rs := [(.bool,false)]) (ps:=q52p) (q52F k) Tryz.f78 16 ⟨tyOf_ok tys_ok,gOf_ok ⟨q32K k,trivial⟩⟩ (annl [] trivial)

noncomputable def q53V:Variant:=⟨[.val ty_6 true,.val ty_0 false],[(.bool,false)],fun x=>spec_cbCell x.1 x.2.1⟩
noncomputable def q53C:Cfg:=⟨Tryz.prog,tyOf tys,25,gOf [(57,[],q11V),(126,[],q9V)],false,[],[]⟩
def q53p:List PE := [e56,e3]
noncomputable def q53F:F3:=⟨q53C,rr q53p [(.bool,false)] Tryz.f79,fun p=>none,0,[]⟩
theorem q53K:Contract Tryz.prog 79 (q53V):=ctr q53C (rs := [(.bool,false)]) (ps:=q53p) q53F Tryz.f79 32 ⟨tyOf_ok tys_ok,gOf_ok ⟨q11K,q9K,trivial⟩⟩ (annl [] trivial)

noncomputable def q54V(k:Nat):Variant:=⟨[.val ty_6 true,.val ty_0 false],[(ty_10,false),(ty_10,false)],fun x=>spec_cbRange k x.1 x.2.1⟩
noncomputable def q54C(k:Nat):Cfg:=⟨Tryz.prog,tyOf tys,57,gOf [],false,[],[]⟩
def q54i1:List PE := [e28,e57,⟨6,64,.eat ty_0,false⟩,e52,⟨8,96,.val ty_10 false,false⟩,⟨18,112,.val ty_0 false,false⟩,⟨19,128,.val ty_0 false,false⟩]
def q54o1:List PE := [⟨6,32,.eat ty_0,false⟩,e68]
noncomputable def q54f1(k:Nat)(n:Nat)(x3:PTe q54i1):=spec_cbRange_L122 k n x3.1 x3.2.1 x3.2.2.1 x3.2.2.2.1 x3.2.2.2.2.1 x3.2.2.2.2.2.1 x3.2.2.2.2.2.2.1
def q54p:List PE := [e56,e3]
noncomputable def q54F(k:Nat):Fn ((List Int)×List Int):=⟨q54C k,rr q54p [(ty_10,false),(ty_10,false)] Tryz.f130,fun p=>bif Nat.beq p 125332 then some (.cut [e28,e57,⟨6,64,.eat ty_0,false⟩,e52,⟨8,96,.val ty_10 false,false⟩,e69,e25,e17] 160)else bif Nat.beq p 122 then some (.loop q54i1 q54o1 0 144 (q54f1 k k))else none,0,[]⟩
theorem q54K(k:Nat):Contract Tryz.prog 130 (q54V k):=ctr (q54C k) (rs := [(ty_10,false),(ty_10,false)]) (ps:=q54p) (q54F k) Tryz.f130 32 ⟨tyOf_ok tys_ok,gOf_ok trivial⟩ (annl [122] ⟨lok q54i1 q54o1 0 144 (q54f1 k) k,trivial⟩)

noncomputable def q55V:Variant:=⟨[.val ty_4 true],[(.bool,false)],fun x=>spec_dyGood x.1⟩
noncomputable def q55C:Cfg:=⟨Tryz.prog,tyOf tys,22,gOf [(126,[],q9V)],false,[],[]⟩
def q55p:List PE := [e70]
noncomputable def q55F:F3:=⟨q55C,rr q55p [(.bool,false)] Tryz.f190,fun p=>none,0,[]⟩
theorem q55K:Contract Tryz.prog 190 (q55V):=ctr q55C (rs := [(.bool,false)]) (ps:=q55p) q55F Tryz.f190 16 ⟨tyOf_ok tys_ok,gOf_ok ⟨q9K,trivial⟩⟩ (annl [] trivial)

noncomputable def q56V(k:Nat):Variant:=⟨[.val ty_0 false,.val ty_0 false],[(ty_4,true),(.bool,false)],fun x=>spec_dyMake k x.1 x.2.1⟩
noncomputable def q56C(k:Nat):Cfg:=⟨Tryz.prog,tyOf tys,32,gOf [(190,[],q55V)],false,[],[]⟩
def q56i1:List PE := [e71,e72,e59]
def q56o1:List PE := [e71,e72,e59]
noncomputable def q56f1(k:Nat)(n:Nat)(x2:PTe q56i1):=spec_dyMake_L28 k n x2.1 x2.2.1 x2.2.2.1
def q56p:List PE := [e6,e3]
noncomputable def q56F(k:Nat):F11:=⟨q56C k,rr q56p [(ty_4,true),(.bool,false)] Tryz.f163,fun p=>bif Nat.beq p 28 then some (.loop q56i1 q56o1 0 80 (q56f1 k k))else bif Nat.beq p 6 then some (.cut [e71,e72,e59] 80)else none,0,[]⟩
theorem q56K(k:Nat):Contract Tryz.prog 163 (q56V k):=ctr (q56C k) (rs := [(ty_4,true),(.bool,false)]) (ps:=q56p) (q56F k) Tryz.f163 32 ⟨tyOf_ok tys_ok,gOf_ok ⟨q55K,trivial⟩⟩ (annl [28] ⟨lok q56i1 q56o1 0 80 (q56f1 k) k,trivial⟩)

noncomputable def q57V(k:Nat):Variant:=⟨[.val ty_0 false,.val ty_0 false],[(ty_4,true)],fun x=>spec_bxNumber k x.1 x.2.1⟩
noncomputable def q57C(k:Nat):Cfg:=⟨Tryz.prog,tyOf tys,14,gOf [(163,[],q56V k)],false,[],[]⟩
def q57p:List PE := [e6,e3]
noncomputable def q57F(k:Nat):F14:=⟨q57C k,rr q57p [(ty_4,true)] Tryz.f118,fun p=>none,0,[]⟩
theorem q57K(k:Nat):Contract Tryz.prog 118 (q57V k):=ctr (q57C k) (rs := [(ty_4,true)]) (ps:=q57p) (q57F k) Tryz.f118 32 ⟨tyOf_ok tys_ok,gOf_ok ⟨q56K k,trivial⟩⟩ (annl [] trivial)

noncomputable def q58V(k:Nat):Variant:=⟨[.val ty_12 true,.val ty_0 false,.val ty_6 true],[(ty_17,false)],fun x=>spec_cbSides k x.1 x.2.1 x.2.2.1⟩
noncomputable def q58C(k:Nat):Cfg:=⟨Tryz.prog,tyOf tys,85,gOf [(57,[],q11V),(130,[],q54V k),(118,[],q57V k)],false,[],[]⟩
def q58i1:List PE := [e72,⟨3,64,.box ty_12 false,false⟩,e12,e53,⟨9,112,.eat ty_0,false⟩,⟨10,128,.eat ty_15,false⟩,e73,e67]
def q58o1:List PE := [⟨10,48,.eat ty_15,false⟩]
noncomputable def q58f1(k:Nat)(n:Nat)(x5:PTe q58i1):=spec_cbSides_L250 k n x5.1 x5.2.1 x5.2.2.1 x5.2.2.2.1 x5.2.2.2.2.1 x5.2.2.2.2.2.1 x5.2.2.2.2.2.2.1 x5.2.2.2.2.2.2.2.1
def q58p:List PE := [e47,e3,e64]
noncomputable def q58F(k:Nat):F12:=⟨q58C k,rr q58p [(ty_17,false)] Tryz.f80,fun p=>bif Nat.beq p 250 then some (.loop q58i1 q58o1 0 176 (q58f1 k k))else none,0,[]⟩
theorem q58K(k:Nat):Contract Tryz.prog 80 (q58V k):=ctr (q58C k) (rs := [(ty_17,false)]) (ps:=q58p) (q58F k) Tryz.f80 48 ⟨tyOf_ok tys_ok,gOf_ok ⟨q11K,q54K k,q57K k,trivial⟩⟩ (annl [250] ⟨lok q58i1 q58o1 0 176 (q58f1 k) k,trivial⟩)

noncomputable def q59V(k:Nat):Variant:=⟨[.val ty_12 true,.val ty_0 false,.val ty_6 true],[(ty_17,false),(.bool,false)],fun x=>spec_CellSides k x.1 x.2.1 x.2.2.1⟩
noncomputable def q59C(k:Nat):Cfg:=⟨Tryz.prog,tyOf tys,26,gOf [(78,[],q52V k),(71,[],q10V),(79,[],q53V),(80,[],q58V k)],false,[],[]⟩
def q59p:List PE := [e47,e3,e64]
noncomputable def q59F(k:Nat):F13:=⟨q59C k,rr q59p [(ty_17,false),(.bool,false)] Tryz.f25,fun p=>none,0,[]⟩
theorem q59K(k:Nat):Contract Tryz.prog 25 (q59V k):=ctr (q59C k) (rs := [(ty_17,false),(.bool,false)]) (ps:=q59p) (q59F k) Tryz.f25 48 ⟨tyOf_ok tys_ok,gOf_ok ⟨q52K k,q10K,q53K,q58K k,trivial⟩⟩ (annl [] trivial)

noncomputable def q60V(k:Nat):Variant:=⟨[.val (.sl (.int .u8)) false],[(ty_16,false),(ty_12,true),(ty_0,false),(ty_6,true)],fun x=>spec_DrawCellLabel k x.1⟩
noncomputable def spec_DrawCellLabel_V0(k:Nat):Variant:=⟨[.val .ks false],[(ty_16,false),(ty_12,true),(ty_0,false),(ty_6,true)],fun _=>spec_DrawCellLabel k KSl.xs⟩
noncomputable def q60C(k:Nat):Cfg:=⟨Tryz.prog,tyOf tys,26,gOf [(73,[],q37V k),(69,[],q4V),(74,[],q38V)],false,[],[]⟩
def q60p:List PE := [e5]
noncomputable def q60F(k:Nat):Fn ((List (List (Int×Int×Int×Int)))×(Int×(List Int)×List Int)×Int×Int×Bool×Int×Int):=⟨q60C k,rr q60p [(ty_16,false),(ty_12,true),(ty_0,false),(ty_6,true)] Tryz.f26,fun p=>none,0,[]⟩
theorem spec_DrawCellLabel_K0(k:Nat):Contract Tryz.prog 26 (spec_DrawCellLabel_V0 k):=ctr (q60C k) (rs := [(ty_16,false),(ty_12,true),(ty_0,false),(ty_6,true)]) (ps:=q60p) (q60F k) Tryz.f26 16 ⟨tyOf_ok tys_ok,gOf_ok ⟨q37K k,q4K,q38K,trivial⟩⟩ (annl [] trivial)
theorem q60K(k:Nat):Contract Tryz.prog 26 (q60V k):=contractDraw (by kernel_rfl) (fun kk => @spec_DrawCellLabel_K0 kk k)

noncomputable def q61V:Variant:=⟨[.val ty_8 true],[(ty_0,false)],fun x=>impl_Term_degree x.1⟩
noncomputable def q61C:Cfg:=⟨Tryz.prog,tyOf tys,11,gOf [],false,[],[]⟩
def q61p:List PE := [e27]
noncomputable def q61F:F2:=⟨q61C,rr q61p [(ty_0,false)] Tryz.f115,fun p=>none,0,[]⟩
theorem q61K:Contract Tryz.prog 115 (q61V):=ctr q61C (rs := [(ty_0,false)]) (ps:=q61p) q61F Tryz.f115 16 ⟨tyOf_ok tys_ok,gOf_ok trivial⟩ (annl [] trivial)

noncomputable def q62V:Variant:=⟨[.val ty_8 true],[(.bool,false)],fun x=>impl_hasDegree x.1⟩
noncomputable def q62C:Cfg:=⟨Tryz.prog,tyOf tys,21,gOf [(46,[],q6V),(115,[],q61V)],false,[],[]⟩
def q62p:List PE := [e27]
noncomputable def q62F:F3:=⟨q62C,rr q62p [(.bool,false)] Tryz.f193,fun p=>none,0,[]⟩
theorem q62K:Contract Tryz.prog 193 (q62V):=ctr q62C (rs := [(.bool,false)]) (ps:=q62p) q62F Tryz.f193 16 ⟨tyOf_ok tys_ok,gOf_ok ⟨q6K,q61K,trivial⟩⟩ (annl [] trivial)

noncomputable def q63V:Variant:=⟨[.val ty_0 false],[(.bool,false)],fun x=>cmp_isNaN_int x.1⟩
noncomputable def q63C:Cfg:=⟨Tryz.prog,tyOf tys,6,gOf [],false,[],[]⟩
def q63p:List PE := [e6]
noncomputable def q63F:F3:=⟨q63C,rr q63p [(.bool,false)] Tryz.f231,fun p=>none,0,[]⟩
theorem q63K:Contract Tryz.prog 231 (q63V):=ctr q63C (rs := [(.bool,false)]) (ps:=q63p) q63F Tryz.f231 16 ⟨tyOf_ok tys_ok,gOf_ok trivial⟩ (annl [] trivial)

noncomputable def q64V:Variant:=⟨[.val ty_0 false,.val ty_0 false],[(ty_0,false)],fun x=>cmp_Compare_int x.1 x.2.1⟩
noncomputable def q64C:Cfg:=⟨Tryz.prog,tyOf tys,20,gOf [(231,[],q63V)],false,[],[]⟩
def q64p:List PE := [e6,e3]
noncomputable def q64F:F2:=⟨q64C,rr q64p [(ty_0,false)] Tryz.f212,fun p=>none,0,[]⟩
theorem q64K:Contract Tryz.prog 212 (q64V):=ctr q64C (rs := [(ty_0,false)]) (ps:=q64p) q64F Tryz.f212 32 ⟨tyOf_ok tys_ok,gOf_ok ⟨q63K,trivial⟩⟩ (annl [] trivial)

noncomputable def q65V(k:Nat):Variant:=⟨[.val ty_10 false],[(ty_0,false)],fun x=>cmp_Or_int k x.1⟩
noncomputable def q65C(k:Nat):Cfg:=⟨Tryz.prog,tyOf tys,18,gOf [],false,[],[]⟩
def q65i1:List PE := [e2,e44,e45,e46]
def q65o1:List PE := [e2]
noncomputable def q65f1(k:Nat)(n:Nat)(x1:PTe q65i1):=cmp_Or_int_L58 k n x1.1 x1.2.1 x1.2.2.1 x1.2.2.2.1
def q65p:List PE := [e42]
noncomputable def q65F(k:Nat):F2:=⟨q65C k,rr q65p [(ty_0,false)] Tryz.f211,fun p=>bif Nat.beq p 58 then some (.loop q65i1 q65o1 0 80 (q65f1 k k))else none,0,[]⟩
theorem q65K(k:Nat):Contract Tryz.prog 211 (q65V k):=ctr (q65C k) (rs := [(ty_0,false)]) (ps:=q65p) (q65F k) Tryz.f211 16 ⟨tyOf_ok tys_ok,gOf_ok trivial⟩ (annl [58] ⟨lok q65i1 q65o1 0 80 (q65f1 k) k,trivial⟩)

noncomputable def q66V(k:Nat):Variant:=⟨[.val ty_8 true,.val ty_8 true],[(ty_0,false)],fun x=>impl_compareTerms k x.1 x.2.1⟩
noncomputable def q66C(k:Nat):Cfg:=⟨Tryz.prog,tyOf tys,22,gOf [(212,[],q64V),(211,[],q65V k)],false,[],[]⟩
def q66p:List PE := [e27,e30]
noncomputable def q66F(k:Nat):F2:=⟨q66C k,rr q66p [(ty_0,false)] Tryz.f194,fun p=>none,0,[]⟩
theorem q66K(k:Nat):Contract Tryz.prog 194 (q66V k):=ctr (q66C k) (rs := [(ty_0,false)]) (ps:=q66p) (q66F k) Tryz.f194 32 ⟨tyOf_ok tys_ok,gOf_ok ⟨q64K,q65K k,trivial⟩⟩ (annl [] trivial)

noncomputable def q67V(k:Nat):Variant:=⟨[.val ty_9 false],[(.bool,false)],fun x=>impl_isPoly k x.1⟩
noncomputable def q67C(k:Nat):Cfg:=⟨Tryz.prog,tyOf tys,44,gOf [(46,[],q6V),(193,[],q62V),(194,[],q66V k)],false,[],[]⟩
def q67i1:List PE := [e35,⟨5,32,.val ty_9 false,false⟩,e36,e37]
def q67o1:List PE := [e35]
noncomputable def q67f1(k:Nat)(n:Nat)(x4:PTe q67i1):=impl_isPoly_L26 k n x4.1 x4.2.1 x4.2.2.1 x4.2.2.2.1
def q67p:List PE := [e34]
noncomputable def q67F(k:Nat):F3:=⟨q67C k,rr q67p [(.bool,false)] Tryz.f170,fun p=>bif Nat.beq p 26 then some (.loop q67i1 q67o1 0 80 (q67f1 k k))else none,0,[]⟩
theorem q67K(k:Nat):Contract Tryz.prog 170 (q67V k):=ctr (q67C k) (rs := [(.bool,false)]) (ps:=q67p) (q67F k) Tryz.f170 16 ⟨tyOf_ok tys_ok,gOf_ok ⟨q6K,q62K,q66K k,trivial⟩⟩ (annl [26] ⟨lok q67i1 q67o1 0 80 (q67f1 k) k,trivial⟩)

noncomputable def q68V:Variant:=⟨[.val ty_8 true],[(ty_7,true)],fun x=>impl_Term_exponents x.1⟩
noncomputable def q68C:Cfg:=⟨Tryz.prog,tyOf tys,10,gOf [],false,[],[]⟩
def q68p:List PE := [e27]
noncomputable def q68F:Fn (Int×Int×Int):=⟨q68C,rr q68p [(ty_7,true)] Tryz.f116,fun p=>none,0,[]⟩
theorem q68K:Contract Tryz.prog 116 (q68V):=ctr q68C (rs := [(ty_7,true)]) (ps:=q68p) q68F Tryz.f116 16 ⟨tyOf_ok tys_ok,gOf_ok trivial⟩ (annl [] trivial)

noncomputable def q69V(k:Nat):Variant:=⟨[.val ty_9 false,.val ty_0 false],[(.bool,false)],fun x=>impl_needsAtMost k x.1 x.2.1⟩
noncomputable def q69C(k:Nat):Cfg:=⟨Tryz.prog,tyOf tys,30,gOf [(116,[],q68V)],false,[],[]⟩
def q69i1:List PE := [e28,e74,e75,e76,⟨16,96,.val ty_7 true,false⟩,e24]
def q69o1:List PE := [e28,e74,e75,e76]
noncomputable def q69f1(k:Nat)(n:Nat)(x2:PTe q69i1):=impl_needsAtMost_L6758 k n x2.1 x2.2.1 x2.2.2.1 x2.2.2.2.1 x2.2.2.2.2.1 x2.2.2.2.2.2.1
def q69i2:List PE := [e28,e74,e75,e76]
def q69o2:List PE := []
noncomputable def q69f2(k:Nat)(n:Nat)(x5:PTe q69i2):=impl_needsAtMost_L26 k n x5.1 x5.2.1 x5.2.2.1 x5.2.2.2.1
def q69p:List PE := [e34,e3]
noncomputable def q69F(k:Nat):F3:=⟨q69C k,rr q69p [(.bool,false)] Tryz.f171,fun p=>bif Nat.beq p 6758 then some (.loop q69i1 q69o1 2 128 (q69f1 k k))else bif Nat.beq p 26 then some (.loop q69i2 q69o2 0 96 (q69f2 k k))else none,0,[]⟩
theorem q69K(k:Nat):Contract Tryz.prog 171 (q69V k):=ctr (q69C k) (rs := [(.bool,false)]) (ps:=q69p) (q69F k) Tryz.f171 32 ⟨tyOf_ok tys_ok,gOf_ok ⟨q68K,trivial⟩⟩ (annl [26,6758] ⟨lok q69i2 q69o2 0 96 (q69f2 k) k,lok q69i1 q69o1 2 128 (q69f1 k) k,trivial⟩)

noncomputable def q70V(k:Nat):Variant:=⟨[.val ty_16 false],[(.bool,false)],fun x=>impl_isSystem k x.1⟩
noncomputable def q70C(k:Nat):Cfg:=⟨Tryz.prog,tyOf tys,25,gOf [(170,[],q67V k),(171,[],q69V k),(46,[],q6V)],false,[],[]⟩
def q70i1:List PE := [e77,⟨5,32,.val ty_16 false,false⟩,e36,e37]
def q70o1:List PE := [e77]
noncomputable def q70f1(k:Nat)(n:Nat)(x3:PTe q70i1):=impl_isSystem_L26 k n x3.1 x3.2.1 x3.2.2.1 x3.2.2.2.1
def q70p:List PE := [e78]
noncomputable def q70F(k:Nat):F3:=⟨q70C k,rr q70p [(.bool,false)] Tryz.f131,fun p=>bif Nat.beq p 26 then some (.loop q70i1 q70o1 0 80 (q70f1 k k))else none,0,[]⟩
theorem q70K(k:Nat):Contract Tryz.prog 131 (q70V k):=ctr (q70C k) (rs := [(.bool,false)]) (ps:=q70p) (q70F k) Tryz.f131 16 ⟨tyOf_ok tys_ok,gOf_ok ⟨q67K k,q69K k,q6K,trivial⟩⟩ (annl [26] ⟨lok q70i1 q70o1 0 80 (q70f1 k) k,trivial⟩)

noncomputable def q71V(k:Nat):Variant:=⟨[.val ty_16 false,.ptr ty_12 false],[(.bool,false)],fun x=>impl_isCube k x.1 x.2.1⟩
noncomputable def q71C(k:Nat):Cfg:=⟨Tryz.prog,tyOf tys,16,gOf [(131,[],q70V k),(75,[],q41V k)],false,[],[]⟩
def q71p:List PE := [e78,⟨1,16,.ptr ty_12 false,false⟩]
noncomputable def q71F(k:Nat):F3:=⟨q71C k,rr q71p [(.bool,false)] Tryz.f81,fun p=>none,0,[]⟩
theorem q71K(k:Nat):Contract Tryz.prog 81 (q71V k):=ctr (q71C k) (rs := [(.bool,false)]) (ps:=q71p) (q71F k) Tryz.f81 32 ⟨tyOf_ok tys_ok,gOf_ok ⟨q70K k,q41K k,trivial⟩⟩ (annl [] trivial)

noncomputable def q72V:Variant:=⟨[.val ty_0 false],[(ty_4,true)],fun x=>impl_integer x.1⟩
noncomputable def q72C:Cfg:=⟨Tryz.prog,tyOf tys,5,gOf [],false,[],[]⟩
def q72p:List PE := [e6]
noncomputable def q72F:F14:=⟨q72C,rr q72p [(ty_4,true)] Tryz.f184,fun p=>none,0,[]⟩
theorem q72K:Contract Tryz.prog 184 (q72V):=ctr q72C (rs := [(ty_4,true)]) (ps:=q72p) q72F Tryz.f184 16 ⟨tyOf_ok tys_ok,gOf_ok trivial⟩ (annl [] trivial)

noncomputable def q73V:Variant:=⟨[.val ty_4 true],[(ty_15,true)],fun x=>impl_single x.1⟩
noncomputable def q73C:Cfg:=⟨Tryz.prog,tyOf tys,6,gOf [],false,[],[]⟩
def q73p:List PE := [e70]
noncomputable def q73F:F15:=⟨q73C,rr q73p [(ty_15,true)] Tryz.f155,fun p=>none,0,[]⟩
theorem q73K:Contract Tryz.prog 155 (q73V):=ctr q73C (rs := [(ty_15,true)]) (ps:=q73p) q73F Tryz.f155 16 ⟨tyOf_ok tys_ok,gOf_ok trivial⟩ (annl [] trivial)

noncomputable def q74V:Variant:=⟨[.val ty_1 false,.val ty_1 false],[(ty_1,false),(ty_1,false)],fun x=>math_bits_Mul64 x.1 x.2.1⟩
noncomputable def q74C:Cfg:=⟨Tryz.prog,tyOf tys,51,gOf [],false,[],[]⟩
def q74p:List PE := [e79,⟨1,16,.val ty_1 false,false⟩]
noncomputable def q74F:F14:=⟨q74C,rr q74p [(ty_1,false),(ty_1,false)] Tryz.f242,fun p=>none,0,[]⟩
theorem q74K:Contract Tryz.prog 242 (q74V):=ctr q74C (rs := [(ty_1,false),(ty_1,false)]) (ps:=q74p) q74F Tryz.f242 32 ⟨tyOf_ok tys_ok,gOf_ok trivial⟩ (annl [] trivial)

noncomputable def q75V:Variant:=⟨[.val ty_0 false,.val ty_0 false],[(ty_14,true)],fun x=>impl_timesWide x.1 x.2.1⟩
noncomputable def q75C:Cfg:=⟨Tryz.prog,tyOf tys,23,gOf [(152,[],q45V),(242,[],q74V)],false,[],[]⟩
def q75p:List PE := [e6,e3]
noncomputable def q75F:F10:=⟨q75C,rr q75p [(ty_14,true)] Tryz.f236,fun p=>none,0,[]⟩
theorem q75K:Contract Tryz.prog 236 (q75V):=ctr q75C (rs := [(ty_14,true)]) (ps:=q75p) q75F Tryz.f236 32 ⟨tyOf_ok tys_ok,gOf_ok ⟨q45K,q74K,trivial⟩⟩ (annl [] trivial)

noncomputable def q76V(k:Nat):Variant:=⟨[.val ty_4 true,.val ty_4 true],[(ty_4,true),(.bool,false)],fun x=>impl_productOf k x.1 x.2.1⟩
noncomputable def q76C(k:Nat):Cfg:=⟨Tryz.prog,tyOf tys,19,gOf [(236,[],q75V),(111,[],q49V k)],false,[],[]⟩
def q76p:List PE := [e70,e80]
noncomputable def q76F(k:Nat):F11:=⟨q76C k,rr q76p [(ty_4,true),(.bool,false)] Tryz.f221,fun p=>none,0,[]⟩
theorem q76K(k:Nat):Contract Tryz.prog 221 (q76V k):=ctr (q76C k) (rs := [(ty_4,true),(.bool,false)]) (ps:=q76p) (q76F k) Tryz.f221 32 ⟨tyOf_ok tys_ok,gOf_ok ⟨q75K,q49K k,trivial⟩⟩ (annl [] trivial)

noncomputable def q77V:Variant:=⟨[.ptr .bool true,.val ty_4 true,.val .bool false],[(ty_4,true)],fun x=>impl_reckoner_keep x.1 x.2.1 x.2.2.1⟩
noncomputable def q77C:Cfg:=⟨Tryz.prog,tyOf tys,24,gOf [],false,[],[]⟩
def q77p:List PE := [e81,e80,⟨2,32,.val .bool false,false⟩]
noncomputable def q77F:F11:=⟨q77C,rr q77p [(ty_4,true)] Tryz.f220,fun p=>none,0,[0]⟩
theorem q77K:Contract Tryz.prog 220 (q77V):=ctr q77C (rs := [(ty_4,true)]) (ps:=q77p) q77F Tryz.f220 48 ⟨tyOf_ok tys_ok,gOf_ok trivial⟩ (annl [] trivial)

noncomputable def q78V(k:Nat):Variant:=⟨[.ptr .bool true,.val ty_4 true,.val ty_4 true],[(ty_4,true)],fun x=>impl_reckoner_product k x.1 x.2.1 x.2.2.1⟩
noncomputable def q78C(k:Nat):Cfg:=⟨Tryz.prog,tyOf tys,14,gOf [(221,[],q76V k),(220,[],q77V)],false,[],[]⟩
def q78p:List PE := [e81,e80,e82]
noncomputable def q78F(k:Nat):F11:=⟨q78C k,rr q78p [(ty_4,true)] Tryz.f203,fun p=>none,0,[0]⟩
theorem q78K(k:Nat):Contract Tryz.prog 203 (q78V k):=ctr (q78C k) (rs := [(ty_4,true)]) (ps:=q78p) (q78F k) Tryz.f203 48 ⟨tyOf_ok tys_ok,gOf_ok ⟨q76K k,q77K,trivial⟩⟩ (annl [] trivial)

noncomputable def q79V:Variant:=⟨[.val ty_1 false],[(.bool,false)],fun x=>cmp_isNaN_uint64 x.1⟩
noncomputable def q79C:Cfg:=⟨Tryz.prog,tyOf tys,6,gOf [],false,[],[]⟩
def q79p:List PE := [e79]
noncomputable def q79F:F3:=⟨q79C,rr q79p [(.bool,false)] Tryz.f241,fun p=>none,0,[]⟩
theorem q79K:Contract Tryz.prog 241 (q79V):=ctr q79C (rs := [(.bool,false)]) (ps:=q79p) q79F Tryz.f241 16 ⟨tyOf_ok tys_ok,gOf_ok trivial⟩ (annl [] trivial)

noncomputable def q80V:Variant:=⟨[.val ty_1 false,.val ty_1 false],[(ty_0,false)],fun x=>cmp_Compare_uint64 x.1 x.2.1⟩
noncomputable def q80C:Cfg:=⟨Tryz.prog,tyOf tys,20,gOf [(241,[],q79V)],false,[],[]⟩
def q80p:List PE := [e79,⟨1,16,.val ty_1 false,false⟩]
noncomputable def q80F:F2:=⟨q80C,rr q80p [(ty_0,false)] Tryz.f235,fun p=>none,0,[]⟩
theorem q80K:Contract Tryz.prog 235 (q80V):=ctr q80C (rs := [(ty_0,false)]) (ps:=q80p) q80F Tryz.f235 32 ⟨tyOf_ok tys_ok,gOf_ok ⟨q79K,trivial⟩⟩ (annl [] trivial)

noncomputable def q81V(k:Nat):Variant:=⟨[.val ty_14 true,.val ty_14 true],[(ty_0,false)],fun x=>impl_compareSizes k x.1 x.2.1⟩
noncomputable def q81C(k:Nat):Cfg:=⟨Tryz.prog,tyOf tys,17,gOf [(235,[],q80V),(211,[],q65V k)],false,[],[]⟩
def q81p:List PE := [e58,e83]
noncomputable def q81F(k:Nat):F2:=⟨q81C k,rr q81p [(ty_0,false)] Tryz.f219,fun p=>none,0,[]⟩
theorem q81K(k:Nat):Contract Tryz.prog 219 (q81V k):=ctr (q81C k) (rs := [(ty_0,false)]) (ps:=q81p) (q81F k) Tryz.f219 32 ⟨tyOf_ok tys_ok,gOf_ok ⟨q80K,q65K k,trivial⟩⟩ (annl [] trivial)

noncomputable def q82V(k:Nat):Variant:=⟨[.val ty_14 true,.val ty_14 true],[(ty_0,false)],fun x=>impl_compareWide k x.1 x.2.1⟩
noncomputable def q82C(k:Nat):Cfg:=⟨Tryz.prog,tyOf tys,29,gOf [(153,[],q47V),(219,[],q81V k)],false,[],[]⟩
def q82p:List PE := [e58,e83]
noncomputable def q82F(k:Nat):F2:=⟨q82C k,rr q82p [(ty_0,false)] Tryz.f202,fun p=>bif Nat.beq p 6 then some (.cut [⟨2,32,.box ty_14 false,false⟩,⟨3,48,.box ty_14 false,false⟩] 64)else none,0,[]⟩
theorem q82K(k:Nat):Contract Tryz.prog 202 (q82V k):=ctr (q82C k) (rs := [(ty_0,false)]) (ps:=q82p) (q82F k) Tryz.f202 32 ⟨tyOf_ok tys_ok,gOf_ok ⟨q47K,q81K k,trivial⟩⟩ (annl [] trivial)

noncomputable def q83V(k:Nat):Variant:=⟨[.val ty_4 true,.val ty_4 true],[(ty_0,false)],fun x=>impl_compareD k x.1 x.2.1⟩
noncomputable def q83C(k:Nat):Cfg:=⟨Tryz.prog,tyOf tys,28,gOf [(109,[],q46V),(154,[],q48V),(202,[],q82V k)],false,[],[]⟩
def q83p:List PE := [e70,e80]
noncomputable def q83F(k:Nat):F2:=⟨q83C k,rr q83p [(ty_0,false)] Tryz.f183,fun p=>none,0,[]⟩
theorem q83K(k:Nat):Contract Tryz.prog 183 (q83V k):=ctr (q83C k) (rs := [(ty_0,false)]) (ps:=q83p) (q83F k) Tryz.f183 32 ⟨tyOf_ok tys_ok,gOf_ok ⟨q46K,q48K,q82K k,trivial⟩⟩ (annl [] trivial)

noncomputable def q84V(k:Nat):Variant:=⟨[.val ty_4 true,.val ty_4 true],[(ty_4,true)],fun x=>impl_lesser k x.1 x.2.1⟩
noncomputable def q84C(k:Nat):Cfg:=⟨Tryz.prog,tyOf tys,11,gOf [(183,[],q83V k)],false,[],[]⟩
def q84p:List PE := [e70,e80]
noncomputable def q84F(k:Nat):F14:=⟨q84C k,rr q84p [(ty_4,true)] Tryz.f156,fun p=>none,0,[]⟩
theorem q84K(k:Nat):Contract Tryz.prog 156 (q84V k):=ctr (q84C k) (rs := [(ty_4,true)]) (ps:=q84p) (q84F k) Tryz.f156 32 ⟨tyOf_ok tys_ok,gOf_ok ⟨q83K k,trivial⟩⟩ (annl [] trivial)

noncomputable def q85V(k:Nat):Variant:=⟨[.val ty_4 true,.val ty_4 true],[(ty_4,true)],fun x=>impl_greater k x.1 x.2.1⟩
noncomputable def q85C(k:Nat):Cfg:=⟨Tryz.prog,tyOf tys,11,gOf [(183,[],q83V k)],false,[],[]⟩
def q85p:List PE := [e70,e80]
noncomputable def q85F(k:Nat):F14:=⟨q85C k,rr q85p [(ty_4,true)] Tryz.f157,fun p=>none,0,[]⟩
theorem q85K(k:Nat):Contract Tryz.prog 157 (q85V k):=ctr (q85C k) (rs := [(ty_4,true)]) (ps:=q85p) (q85F k) Tryz.f157 32 ⟨tyOf_ok tys_ok,gOf_ok ⟨q83K k,trivial⟩⟩ (annl [] trivial)

noncomputable def q86V:Variant:=⟨[.val ty_15 true],[(ty_0,false)],fun x=>impl_signOf x.1⟩
noncomputable def q86C:Cfg:=⟨Tryz.prog,tyOf tys,13,gOf [],false,[],[]⟩
def q86p:List PE := [e84]
noncomputable def q86F:F2:=⟨q86C,rr q86p [(ty_0,false)] Tryz.f159,fun p=>none,0,[]⟩
theorem q86K:Contract Tryz.prog 159 (q86V):=ctr q86C (rs := [(ty_0,false)]) (ps:=q86p) q86F Tryz.f159 16 ⟨tyOf_ok tys_ok,gOf_ok trivial⟩ (annl [] trivial)

noncomputable def q87V(k:Nat):Variant:=⟨[.val ty_4 true,.val ty_0 false],[(ty_4,true)],fun x=>impl_roundDown k x.1 x.2.1⟩
noncomputable def q87C(k:Nat):Cfg:=⟨Tryz.prog,tyOf tys,26,gOf [(109,[],q46V),(111,[],q49V k)],false,[],[]⟩
def q87p:List PE := [e70,e3]
noncomputable def q87F(k:Nat):F14:=⟨q87C k,rr q87p [(ty_4,true)] Tryz.f222,fun p=>none,0,[]⟩
theorem q87K(k:Nat):Contract Tryz.prog 222 (q87V k):=ctr (q87C k) (rs := [(ty_4,true)]) (ps:=q87p) (q87F k) Tryz.f222 32 ⟨tyOf_ok tys_ok,gOf_ok ⟨q46K,q49K k,trivial⟩⟩ (annl [] trivial)

noncomputable def q88V:Variant:=⟨[.val ty_4 true],[(ty_4,true)],fun x=>impl_minus x.1⟩
noncomputable def q88C:Cfg:=⟨Tryz.prog,tyOf tys,9,gOf [],false,[],[]⟩
def q88p:List PE := [e70]
noncomputable def q88F:F14:=⟨q88C,rr q88p [(ty_4,true)] Tryz.f223,fun p=>none,0,[]⟩
theorem q88K:Contract Tryz.prog 223 (q88V):=ctr q88C (rs := [(ty_4,true)]) (ps:=q88p) q88F Tryz.f223 16 ⟨tyOf_ok tys_ok,gOf_ok trivial⟩ (annl [] trivial)

noncomputable def q89V(k:Nat):Variant:=⟨[.val ty_15 true,.val ty_0 false],[(ty_15,true)],fun x=>impl_roundOut k x.1 x.2.1⟩
noncomputable def q89C(k:Nat):Cfg:=⟨Tryz.prog,tyOf tys,16,gOf [(222,[],q87V k),(223,[],q88V)],false,[],[]⟩
def q89p:List PE := [e84,e3]
noncomputable def q89F(k:Nat):F15:=⟨q89C k,rr q89p [(ty_15,true)] Tryz.f204,fun p=>none,0,[]⟩
theorem q89K(k:Nat):Contract Tryz.prog 204 (q89V k):=ctr (q89C k) (rs := [(ty_15,true)]) (ps:=q89p) (q89F k) Tryz.f204 32 ⟨tyOf_ok tys_ok,gOf_ok ⟨q87K k,q88K,trivial⟩⟩ (annl [] trivial)

noncomputable def q90V(k:Nat):Variant:=⟨[.ptr .bool true,.val ty_15 true,.val ty_0 false],[(ty_15,true)],fun x=>impl_reckoner_power k x.1 x.2.1 x.2.2.1⟩
noncomputable def q90C(k:Nat):Cfg:=⟨Tryz.prog,tyOf tys,49,gOf [(184,[],q72V),(155,[],q73V),(203,[],q78V k),(156,[],q84V k),(157,[],q85V k),(159,[],q86V),(204,[],q89V k)],false,[],[]⟩
def q90i1:List PE := [e81,⟨2,48,.val ty_0 false,false⟩,⟨4,64,.box ty_15 false,false⟩,⟨6,80,.box ty_15 false,false⟩,⟨7,96,.box ty_4 false,false⟩,⟨8,112,.box ty_4 false,false⟩,e25,e17]
def q90o1:List PE := [⟨2,48,.val ty_0 false,false⟩,⟨4,64,.box ty_15 false,false⟩,⟨6,80,.box ty_15 false,false⟩,⟨7,96,.box ty_4 false,false⟩,⟨8,112,.box ty_4 false,false⟩,e81]
noncomputable def q90f1(k:Nat)(n:Nat)(x5:PTe q90i1):=impl_reckoner_power_L122 k n x5.1 x5.2.1 x5.2.2.1 x5.2.2.2.1 x5.2.2.2.2.1 x5.2.2.2.2.2.1 x5.2.2.2.2.2.2.1 x5.2.2.2.2.2.2.2.1
def q90p:List PE := [e81,e85,e7]
noncomputable def q90F(k:Nat):F16:=⟨q90C k,rr q90p [(ty_15,true)] Tryz.f186,fun p=>bif Nat.beq p 122 then some (.loop q90i1 q90o1 0 160 (q90f1 k k))else bif Nat.beq p 62 then some (.cut [⟨6,48,.box ty_15 false,false⟩,⟨7,64,.box ty_4 false,false⟩,⟨8,80,.box ty_4 false,false⟩,e81] 96)else none,0,[0]⟩
theorem q90K(k:Nat):Contract Tryz.prog 186 (q90V k):=ctr (q90C k) (rs := [(ty_15,true)]) (ps:=q90p) (q90F k) Tryz.f186 48 ⟨tyOf_ok tys_ok,gOf_ok ⟨q72K,q73K,q78K k,q84K k,q85K k,q86K,q89K k,trivial⟩⟩ (annl [122] ⟨lok q90i1 q90o1 0 160 (q90f1 k) k,trivial⟩)

noncomputable def q91V(k:Nat):Variant:=⟨[.ptr .bool true,.val ty_15 true,.val ty_15 true],[(ty_15,true)],fun x=>impl_reckoner_multiply k x.1 x.2.1 x.2.2.1⟩
noncomputable def q91C(k:Nat):Cfg:=⟨Tryz.prog,tyOf tys,51,gOf [(203,[],q78V k),(156,[],q84V k),(157,[],q85V k),(204,[],q89V k)],false,[],[]⟩
def q91p:List PE := [e81,e85,⟨2,32,.val ty_15 true,false⟩]
noncomputable def q91F(k:Nat):F16:=⟨q91C k,rr q91p [(ty_15,true)] Tryz.f185,fun p=>none,0,[0]⟩
theorem q91K(k:Nat):Contract Tryz.prog 185 (q91V k):=ctr (q91C k) (rs := [(ty_15,true)]) (ps:=q91p) (q91F k) Tryz.f185 48 ⟨tyOf_ok tys_ok,gOf_ok ⟨q78K k,q84K k,q85K k,q89K k,trivial⟩⟩ (annl [] trivial)

noncomputable def q92V:Variant:=V64 math_bits_Add64
theorem q92K:Contract Tryz.prog 243 q92V:=contractAdd64 (fn:=Tryz.f243) (by kernel_rfl) (by kernel_rfl) (by kernel_rfl) (by kernel_rfl) (by kernel_rfl)

noncomputable def q93V:Variant:=V64 math_bits_Sub64
theorem q93K:Contract Tryz.prog 244 q93V:=contractSub64 (fn:=Tryz.f244) (by kernel_rfl) (by kernel_rfl) (by kernel_rfl) (by kernel_rfl) (by kernel_rfl)

noncomputable def q94V(k:Nat):Variant:=⟨[.val ty_14 true,.val ty_14 true],[(ty_14,true)],fun x=>impl_wide_add k x.1 x.2.1⟩
noncomputable def q94C(k:Nat):Cfg:=⟨Tryz.prog,tyOf tys,68,gOf [(243,[],q92V),(219,[],q81V k),(244,[],q93V)],false,[],[]⟩
def q94p:List PE := [e58,e83]
noncomputable def q94F(k:Nat):F10:=⟨q94C k,rr q94p [(ty_14,true)] Tryz.f237,fun p=>bif Nat.beq p 14 then some (.cut [⟨2,32,.box ty_14 false,false⟩,⟨3,48,.box ty_14 false,false⟩,⟨4,64,.box ty_14 false,false⟩] 80)else none,0,[]⟩
theorem q94K(k:Nat):Contract Tryz.prog 237 (q94V k):=ctr (q94C k) (rs := [(ty_14,true)]) (ps:=q94p) (q94F k) Tryz.f237 32 ⟨tyOf_ok tys_ok,gOf_ok ⟨q92K,q81K k,q93K,trivial⟩⟩ (annl [] trivial)

noncomputable def q95V(k:Nat):Variant:=⟨[.val ty_4 true,.val ty_4 true],[(ty_4,true),(.bool,false)],fun x=>impl_sumOf k x.1 x.2.1⟩
noncomputable def q95C(k:Nat):Cfg:=⟨Tryz.prog,tyOf tys,33,gOf [(109,[],q46V),(154,[],q48V),(237,[],q94V k),(111,[],q49V k)],false,[],[]⟩
def q95p:List PE := [e70,e80]
noncomputable def q95F(k:Nat):F11:=⟨q95C k,rr q95p [(ty_4,true),(.bool,false)] Tryz.f224,fun p=>none,0,[]⟩
theorem q95K(k:Nat):Contract Tryz.prog 224 (q95V k):=ctr (q95C k) (rs := [(ty_4,true),(.bool,false)]) (ps:=q95p) (q95F k) Tryz.f224 32 ⟨tyOf_ok tys_ok,gOf_ok ⟨q46K,q48K,q94K k,q49K k,trivial⟩⟩ (annl [] trivial)

noncomputable def q96V(k:Nat):Variant:=⟨[.ptr .bool true,.val ty_4 true,.val ty_4 true],[(ty_4,true)],fun x=>impl_reckoner_sum k x.1 x.2.1 x.2.2.1⟩
noncomputable def q96C(k:Nat):Cfg:=⟨Tryz.prog,tyOf tys,14,gOf [(224,[],q95V k),(220,[],q77V)],false,[],[]⟩
def q96p:List PE := [e81,e80,e82]
noncomputable def q96F(k:Nat):F11:=⟨q96C k,rr q96p [(ty_4,true)] Tryz.f205,fun p=>none,0,[0]⟩
theorem q96K(k:Nat):Contract Tryz.prog 205 (q96V k):=ctr (q96C k) (rs := [(ty_4,true)]) (ps:=q96p) (q96F k) Tryz.f205 48 ⟨tyOf_ok tys_ok,gOf_ok ⟨q95K k,q77K,trivial⟩⟩ (annl [] trivial)

noncomputable def q97V(k:Nat):Variant:=⟨[.ptr .bool true,.val ty_15 true,.val ty_15 true],[(ty_15,true)],fun x=>impl_reckoner_add k x.1 x.2.1 x.2.2.1⟩
noncomputable def q97C(k:Nat):Cfg:=⟨Tryz.prog,tyOf tys,20,gOf [(205,[],q96V k)],false,[],[]⟩
def q97p:List PE := [e81,e85,⟨2,32,.val ty_15 true,false⟩]
noncomputable def q97F(k:Nat):F16:=⟨q97C k,rr q97p [(ty_15,true)] Tryz.f187,fun p=>none,0,[0]⟩
theorem q97K(k:Nat):Contract Tryz.prog 187 (q97V k):=ctr (q97C k) (rs := [(ty_15,true)]) (ps:=q97p) (q97F k) Tryz.f187 48 ⟨tyOf_ok tys_ok,gOf_ok ⟨q96K k,trivial⟩⟩ (annl [] trivial)

noncomputable def q98V:Variant:=⟨[.ptr .bool true,.val ty_15 true],[(ty_15,true),(.bool,false)],fun x=>impl_reckoner_result x.1 x.2.1⟩
noncomputable def q98C:Cfg:=⟨Tryz.prog,tyOf tys,13,gOf [],false,[],[]⟩
def q98p:List PE := [e81,e85]
noncomputable def q98F:Fn (((Int×Int)×Int×Int)×Bool×Bool):=⟨q98C,rr q98p [(ty_15,true),(.bool,false)] Tryz.f188,fun p=>none,0,[0]⟩
theorem q98K:Contract Tryz.prog 188 (q98V):=ctr q98C (rs := [(ty_15,true),(.bool,false)]) (ps:=q98p) q98F Tryz.f188 32 ⟨tyOf_ok tys_ok,gOf_ok trivial⟩ (annl [] trivial)

noncomputable def q99V(k:Nat):Variant:=⟨[.val ty_9 false,.val ty_17 false],[(ty_15,true),(.bool,false)],fun x=>impl_valueOver k x.1 x.2.1⟩
noncomputable def q99C(k:Nat):Cfg:=⟨Tryz.prog,tyOf tys,54,gOf [(184,[],q72V),(155,[],q73V),(116,[],q68V),(186,[],q90V k),(185,[],q91V k),(187,[],q97V k),(188,[],q98V)],false,[],[]⟩
def q99i1:List PE := [e86,e87,e88,e89,⟨9,96,.box ty_8 false,false⟩,⟨10,112,.box ty_15 false,false⟩,⟨16,128,.val ty_9 false,false⟩,⟨17,144,.val ty_0 false,false⟩,⟨18,160,.val ty_0 false,false⟩,⟨26,176,.val ty_17 false,false⟩,⟨27,192,.val ty_0 false,false⟩,⟨28,208,.val ty_0 false,false⟩]
def q99o1:List PE := [e86,e87,e88,e89,⟨10,96,.box ty_15 false,false⟩,⟨16,112,.val ty_9 false,false⟩,⟨17,128,.val ty_0 false,false⟩,⟨18,144,.val ty_0 false,false⟩]
noncomputable def q99f1(k:Nat)(n:Nat)(x10:PTe q99i1):=impl_valueOver_L125338 k n x10.1 x10.2.1 x10.2.2.1 x10.2.2.2.1 x10.2.2.2.2.1 x10.2.2.2.2.2.1 x10.2.2.2.2.2.2.1 x10.2.2.2.2.2.2.2.1 x10.2.2.2.2.2.2.2.2.1 x10.2.2.2.2.2.2.2.2.2.1 x10.2.2.2.2.2.2.2.2.2.2.1 x10.2.2.2.2.2.2.2.2.2.2.2.1
def q99i2:List PE := [e86,e87,e88,e89,⟨16,96,.val ty_9 false,false⟩,e24,e25]
def q99o2:List PE := [e90,⟨6,48,.box .bool false,false⟩,⟨7,64,.box ty_15 false,false⟩]
noncomputable def q99f2(k:Nat)(n:Nat)(x14:PTe q99i2):=impl_valueOver_L122 k n x14.1 x14.2.1 x14.2.2.1 x14.2.2.2.1 x14.2.2.2.2.1 x14.2.2.2.2.2.1 x14.2.2.2.2.2.2.1
def q99p:List PE := [e34,e91]
noncomputable def q99F(k:Nat):F16:=⟨q99C k,rr q99p [(ty_15,true),(.bool,false)] Tryz.f158,fun p=>bif Nat.beq p 125338 then some (.loop q99i1 q99o1 2 224 (q99f1 k k))else bif Nat.beq p 122 then some (.loop q99i2 q99o2 0 144 (q99f2 k k))else none,0,[]⟩
theorem q99K(k:Nat):Contract Tryz.prog 158 (q99V k):=ctr (q99C k) (rs := [(ty_15,true),(.bool,false)]) (ps:=q99p) (q99F k) Tryz.f158 32 ⟨tyOf_ok tys_ok,gOf_ok ⟨q72K,q73K,q68K,q90K k,q91K k,q97K k,q98K,trivial⟩⟩ (annl [122,125338] ⟨lok q99i2 q99o2 0 144 (q99f2 k) k,lok q99i1 q99o1 2 224 (q99f1 k) k,trivial⟩)

noncomputable def q100V(k:Nat):Variant:=⟨[.val ty_16 false,.val ty_17 false,.val ty_0 false],[(.bool,false)],fun x=>impl_labelHolds k x.1 x.2.1 x.2.2.1⟩
noncomputable def q100C(k:Nat):Cfg:=⟨Tryz.prog,tyOf tys,32,gOf [(46,[],q6V),(158,[],q99V k),(159,[],q86V)],false,[],[]⟩
def q100p:List PE := [e78,e91,e7]
noncomputable def q100F(k:Nat):F3:=⟨q100C k,rr q100p [(.bool,false)] Tryz.f132,fun p=>none,0,[]⟩
theorem q100K(k:Nat):Contract Tryz.prog 132 (q100V k):=ctr (q100C k) (rs := [(.bool,false)]) (ps:=q100p) (q100F k) Tryz.f132 48 ⟨tyOf_ok tys_ok,gOf_ok ⟨q6K,q99K k,q86K,trivial⟩⟩ (annl [] trivial)

noncomputable def q101V(k:Nat):Variant:=⟨[.val ty_16 false,.ptr ty_12 false,.val ty_0 false,.val ty_6 true],[(ty_0,false)],fun x=>impl_cellLabel k x.1 x.2.1 x.2.2.1 x.2.2.2.1⟩
noncomputable def q101C(k:Nat):Cfg:=⟨Tryz.prog,tyOf tys,24,gOf [(77,[],q50V k),(132,[],q100V k)],false,[],[]⟩
def q101i1:List PE := [⟨0,64,.val ty_16 false,false⟩,⟨9,80,.eat ty_15,false⟩,⟨15,96,.val ty_0 false,false⟩]
def q101o1:List PE := []
noncomputable def q101f1(k:Nat)(n:Nat)(x3:PTe q101i1):=impl_cellLabel_L58 k n x3.1 x3.2.1 x3.2.2.1
def q101p:List PE := [e78,⟨1,16,.ptr ty_12 false,false⟩,e7,e92]
noncomputable def q101F(k:Nat):F2:=⟨q101C k,rr q101p [(ty_0,false)] Tryz.f82,fun p=>bif Nat.beq p 58 then some (.loop q101i1 q101o1 0 112 (q101f1 k k))else none,0,[]⟩
theorem q101K(k:Nat):Contract Tryz.prog 82 (q101V k):=ctr (q101C k) (rs := [(ty_0,false)]) (ps:=q101p) (q101F k) Tryz.f82 64 ⟨tyOf_ok tys_ok,gOf_ok ⟨q50K k,q100K k,trivial⟩⟩ (annl [58] ⟨lok q101i1 q101o1 0 112 (q101f1 k) k,trivial⟩)

noncomputable def q102V(k:Nat):Variant:=⟨[.val ty_16 false,.val ty_12 true,.val ty_0 false,.val ty_6 true],[(ty_0,false),(.bool,false)],fun x=>impl_CellLabel k x.1 x.2.1 x.2.2.1 x.2.2.2.1⟩
noncomputable def q102C(k:Nat):Cfg:=⟨Tryz.prog,tyOf tys,28,gOf [(81,[],q71V k),(76,[],q42V),(82,[],q101V k)],false,[],[]⟩
def q102p:List PE := [e78,e93,e7,e92]
noncomputable def q102F(k:Nat):F17:=⟨q102C k,rr q102p [(ty_0,false),(.bool,false)] Tryz.f27,fun p=>none,0,[]⟩
theorem q102K(k:Nat):Contract Tryz.prog 27 (q102V k):=ctr (q102C k) (rs := [(ty_0,false),(.bool,false)]) (ps:=q102p) (q102F k) Tryz.f27 64 ⟨tyOf_ok tys_ok,gOf_ok ⟨q71K k,q42K,q101K k,trivial⟩⟩ (annl [] trivial)

noncomputable def q103V:Variant:=⟨[.val ty_8 true,.val ty_0 false],[(ty_0,false)],fun x=>spec_poPower x.1 x.2.1⟩
noncomputable def q103C:Cfg:=⟨Tryz.prog,tyOf tys,16,gOf [],false,[],[]⟩
def q103p:List PE := [e27,e3]
noncomputable def q103F:F2:=⟨q103C,rr q103p [(ty_0,false)] Tryz.f165,fun p=>none,0,[]⟩
theorem q103K:Contract Tryz.prog 165 (q103V):=ctr q103C (rs := [(ty_0,false)]) (ps:=q103p) q103F Tryz.f165 32 ⟨tyOf_ok tys_ok,gOf_ok trivial⟩ (annl [] trivial)

noncomputable def q104V(k:Nat):Variant:=⟨[.val ty_9 false,.val ty_0 false],[(ty_0,false)],fun x=>spec_poDegreeIn k x.1 x.2.1⟩
noncomputable def q104C(k:Nat):Cfg:=⟨Tryz.prog,tyOf tys,21,gOf [(165,[],q103V),(148,[],q29V)],false,[],[]⟩
def q104i1:List PE := [e28,e21,⟨8,64,.val ty_9 false,false⟩,e15,⟨10,96,.val ty_0 false,false⟩]
def q104o1:List PE := [⟨5,32,.val ty_0 false,false⟩]
noncomputable def q104f1(k:Nat)(n:Nat)(x3:PTe q104i1):=spec_poDegreeIn_L58 k n x3.1 x3.2.1 x3.2.2.1 x3.2.2.2.1 x3.2.2.2.2.1
def q104p:List PE := [e34,e3]
noncomputable def q104F(k:Nat):F2:=⟨q104C k,rr q104p [(ty_0,false)] Tryz.f167,fun p=>bif Nat.beq p 58 then some (.loop q104i1 q104o1 0 112 (q104f1 k k))else none,0,[]⟩
theorem q104K(k:Nat):Contract Tryz.prog 167 (q104V k):=ctr (q104C k) (rs := [(ty_0,false)]) (ps:=q104p) (q104F k) Tryz.f167 32 ⟨tyOf_ok tys_ok,gOf_ok ⟨q103K,q29K,trivial⟩⟩ (annl [58] ⟨lok q104i1 q104o1 0 112 (q104f1 k) k,trivial⟩)

noncomputable def q105V(k:Nat):Variant:=⟨[.val ty_16 false],[(.bool,false)],fun x=>spec_poSystem k x.1⟩
noncomputable def q105C(k:Nat):Cfg:=⟨Tryz.prog,tyOf tys,29,gOf [(166,[],q21V k),(167,[],q104V k),(126,[],q9V)],false,[],[]⟩
def q105i1:List PE := [e77,⟨4,32,.val ty_9 false,false⟩,e21,⟨6,64,.val ty_16 false,false⟩,e12,e94]
def q105o1:List PE := [e77,⟨6,32,.val ty_16 false,false⟩,e45,e46]
noncomputable def q105f1(k:Nat)(n:Nat)(x3:PTe q105i1):=spec_poSystem_L13518 k n x3.1 x3.2.1 x3.2.2.1 x3.2.2.2.1 x3.2.2.2.2.1 x3.2.2.2.2.2.1
def q105i2:List PE := [e77,⟨6,32,.val ty_16 false,false⟩,e45,e46]
def q105o2:List PE := [e77]
noncomputable def q105f2(k:Nat)(n:Nat)(x6:PTe q105i2):=spec_poSystem_L26 k n x6.1 x6.2.1 x6.2.2.1 x6.2.2.2.1
def q105p:List PE := [e78]
noncomputable def q105F(k:Nat):F3:=⟨q105C k,rr q105p [(.bool,false)] Tryz.f121,fun p=>bif Nat.beq p 13518 then some (.loop q105i1 q105o1 2 112 (q105f1 k k))else bif Nat.beq p 26 then some (.loop q105i2 q105o2 0 80 (q105f2 k k))else none,0,[]⟩
theorem q105K(k:Nat):Contract Tryz.prog 121 (q105V k):=ctr (q105C k) (rs := [(.bool,false)]) (ps:=q105p) (q105F k) Tryz.f121 16 ⟨tyOf_ok tys_ok,gOf_ok ⟨q21K k,q104K k,q9K,trivial⟩⟩ (annl [26,13518] ⟨lok q105i2 q105o2 0 80 (q105f2 k) k,lok q105i1 q105o1 2 112 (q105f1 k) k,trivial⟩)

noncomputable def q106V(k:Nat):Variant:=⟨[.val ty_16 false,.val ty_12 true],[(.bool,false)],fun x=>spec_cbGood k x.1 x.2.1⟩
noncomputable def q106C(k:Nat):Cfg:=⟨Tryz.prog,tyOf tys,16,gOf [(121,[],q105V k),(78,[],q52V k)],false,[],[]⟩
def q106p:List PE := [e78,e93]
noncomputable def q106F(k:Nat):F3:=⟨q106C k,rr q106p [(.bool,false)] Tryz.f95,fun p=>none,0,[]⟩
theorem q106K(k:Nat):Contract Tryz.prog 95 (q106V k):=ctr (q106C k) (rs := [(.bool,false)]) (ps:=q106p) (q106F k) Tryz.f95 32 ⟨tyOf_ok tys_ok,gOf_ok ⟨q105K k,q52K k,trivial⟩⟩ (annl [] trivial)

noncomputable def q107V(k:Nat):Variant:=⟨[.val ty_16 false,.val ty_12 true,.val ty_0 false],[(.bool,false)],fun x=>spec_cbAsked k x.1 x.2.1 x.2.2.1⟩
noncomputable def q107C(k:Nat):Cfg:=⟨Tryz.prog,tyOf tys,14,gOf [(95,[],q106V k),(71,[],q10V)],false,[],[]⟩
def q107p:List PE := [e78,e93,e7]
noncomputable def q107F(k:Nat):F3:=⟨q107C k,rr q107p [(.bool,false)] Tryz.f83,fun p=>none,0,[]⟩
theorem q107K(k:Nat):Contract Tryz.prog 83 (q107V k):=ctr (q107C k) (rs := [(.bool,false)]) (ps:=q107p) (q107F k) Tryz.f83 48 ⟨tyOf_ok tys_ok,gOf_ok ⟨q106K k,q10K,trivial⟩⟩ (annl [] trivial)

noncomputable def q108V:Variant:=⟨[.val ty_0 false],[(ty_4,true)],fun x=>spec_dyInt x.1⟩
noncomputable def q108C:Cfg:=⟨Tryz.prog,tyOf tys,5,gOf [],false,[],[]⟩
def q108p:List PE := [e6]
noncomputable def q108F:F14:=⟨q108C,rr q108p [(ty_4,true)] Tryz.f195,fun p=>none,0,[]⟩
theorem q108K:Contract Tryz.prog 195 (q108V):=ctr q108C (rs := [(ty_4,true)]) (ps:=q108p) q108F Tryz.f195 16 ⟨tyOf_ok tys_ok,gOf_ok trivial⟩ (annl [] trivial)

noncomputable def q109V:Variant:=⟨[.val ty_4 true],[(ty_15,true)],fun x=>spec_vaPure x.1⟩
noncomputable def q109C:Cfg:=⟨Tryz.prog,tyOf tys,6,gOf [],false,[],[]⟩
def q109p:List PE := [e70]
noncomputable def q109F:F15:=⟨q109C,rr q109p [(ty_15,true)] Tryz.f162,fun p=>none,0,[]⟩
theorem q109K:Contract Tryz.prog 162 (q109V):=ctr q109C (rs := [(ty_15,true)]) (ps:=q109p) q109F Tryz.f162 16 ⟨tyOf_ok tys_ok,gOf_ok trivial⟩ (annl [] trivial)

noncomputable def q110V:Variant:=⟨[.val ty_0 false],[(ty_0,false)],fun x=>spec_l1Abs x.1⟩
noncomputable def q110C:Cfg:=⟨Tryz.prog,tyOf tys,7,gOf [(148,[],q29V)],false,[],[]⟩
def q110p:List PE := [e6]
noncomputable def q110F:F2:=⟨q110C,rr q110p [(ty_0,false)] Tryz.f234,fun p=>none,0,[]⟩
theorem q110K:Contract Tryz.prog 234 (q110V):=ctr q110C (rs := [(ty_0,false)]) (ps:=q110p) q110F Tryz.f234 16 ⟨tyOf_ok tys_ok,gOf_ok ⟨q29K,trivial⟩⟩ (annl [] trivial)

noncomputable def q111V(k:Nat):Variant:=⟨[.val ty_4 true,.val ty_4 true],[(ty_4,true),(.bool,false)],fun x=>spec_dyMul k x.1 x.2.1⟩
noncomputable def q111C(k:Nat):Cfg:=⟨Tryz.prog,tyOf tys,67,gOf [(234,[],q110V),(163,[],q56V k)],false,[],[]⟩
def q111i1:List PE := [e95,e96,e59,e29]
def q111o1:List PE := [e95,e96,e59,e29]
noncomputable def q111f1(k:Nat)(n:Nat)(x1:PTe q111i1):=spec_dyMul_L60 k n x1.1 x1.2.1 x1.2.2.1 x1.2.2.2.1
def q111i2:List PE := [e95,e96,e59,e29]
def q111o2:List PE := [e95,e96,e59,e29]
noncomputable def q111f2(k:Nat)(n:Nat)(x4:PTe q111i2):=spec_dyMul_L124 k n x4.1 x4.2.1 x4.2.2.1 x4.2.2.2.1
def q111p:List PE := [e70,e80]
noncomputable def q111F(k:Nat):F11:=⟨q111C k,rr q111p [(ty_4,true),(.bool,false)] Tryz.f215,fun p=>bif Nat.beq p 60 then some (.loop q111i1 q111o1 0 96 (q111f1 k k))else bif Nat.beq p 124 then some (.loop q111i2 q111o2 2 96 (q111f2 k k))else none,0,[]⟩
theorem q111K(k:Nat):Contract Tryz.prog 215 (q111V k):=ctr (q111C k) (rs := [(ty_4,true),(.bool,false)]) (ps:=q111p) (q111F k) Tryz.f215 32 ⟨tyOf_ok tys_ok,gOf_ok ⟨q110K,q56K k,trivial⟩⟩ (annl [60,124] ⟨lok q111i1 q111o1 0 96 (q111f1 k) k,lok q111i2 q111o2 2 96 (q111f2 k) k,trivial⟩)

noncomputable def q112V(k:Nat):Variant:=⟨[.val ty_4 true,.val ty_0 false],[(ty_4,true),(.bool,false)],fun x=>spec_ivRaise k x.1 x.2.1⟩
noncomputable def q112C(k:Nat):Cfg:=⟨Tryz.prog,tyOf tys,25,gOf [(195,[],q108V),(215,[],q111V k)],false,[],[]⟩
def q112i1:List PE := [e28,⟨2,48,.box ty_4 false,false⟩,e59,⟨6,80,.box ty_4 false,false⟩]
def q112o1:List PE := [⟨4,32,.box ty_4 false,false⟩,⟨6,48,.box ty_4 false,false⟩]
noncomputable def q112f1(k:Nat)(n:Nat)(x3:PTe q112i1):=spec_ivRaise_L28 k n x3.1 x3.2.1 x3.2.2.1 x3.2.2.2.1
def q112p:List PE := [e70,e3]
noncomputable def q112F(k:Nat):F11:=⟨q112C k,rr q112p [(ty_4,true),(.bool,false)] Tryz.f213,fun p=>bif Nat.beq p 28 then some (.loop q112i1 q112o1 0 96 (q112f1 k k))else none,0,[]⟩
theorem q112K(k:Nat):Contract Tryz.prog 213 (q112V k):=ctr (q112C k) (rs := [(ty_4,true),(.bool,false)]) (ps:=q112p) (q112F k) Tryz.f213 32 ⟨tyOf_ok tys_ok,gOf_ok ⟨q108K,q111K k,trivial⟩⟩ (annl [28] ⟨lok q112i1 q112o1 0 96 (q112f1 k) k,trivial⟩)

noncomputable def q113V:Variant:=⟨[.val ty_15 true],[(.bool,false)],fun x=>spec_ivZero x.1⟩
noncomputable def q113C:Cfg:=⟨Tryz.prog,tyOf tys,13,gOf [],false,[],[]⟩
def q113p:List PE := [e84]
noncomputable def q113F:F3:=⟨q113C,rr q113p [(.bool,false)] Tryz.f199,fun p=>none,0,[]⟩
theorem q113K:Contract Tryz.prog 199 (q113V):=ctr q113C (rs := [(.bool,false)]) (ps:=q113p) q113F Tryz.f199 16 ⟨tyOf_ok tys_ok,gOf_ok trivial⟩ (annl [] trivial)

noncomputable def q114V:Variant:=⟨[.val ty_0 false,.val ty_0 false],[(ty_0,false)],fun x=>spec_dyDown x.1 x.2.1⟩
noncomputable def q114C:Cfg:=⟨Tryz.prog,tyOf tys,16,gOf [],false,[],[]⟩
def q114p:List PE := [e6,e3]
noncomputable def q114F:F2:=⟨q114C,rr q114p [(ty_0,false)] Tryz.f225,fun p=>none,0,[]⟩
theorem q114K:Contract Tryz.prog 225 (q114V):=ctr q114C (rs := [(ty_0,false)]) (ps:=q114p) q114F Tryz.f225 32 ⟨tyOf_ok tys_ok,gOf_ok trivial⟩ (annl [] trivial)

noncomputable def q115V:Variant:=⟨[.val ty_4 true],[(ty_0,false)],fun x=>spec_dyFloor x.1⟩
noncomputable def q115C:Cfg:=⟨Tryz.prog,tyOf tys,9,gOf [(57,[],q11V),(225,[],q114V)],false,[],[]⟩
def q115p:List PE := [e70]
noncomputable def q115F:F2:=⟨q115C,rr q115p [(ty_0,false)] Tryz.f206,fun p=>none,0,[]⟩
theorem q115K:Contract Tryz.prog 206 (q115V):=ctr q115C (rs := [(ty_0,false)]) (ps:=q115p) q115F Tryz.f206 16 ⟨tyOf_ok tys_ok,gOf_ok ⟨q11K,q114K,trivial⟩⟩ (annl [] trivial)

noncomputable def q116V(k:Nat):Variant:=⟨[.val ty_4 true,.val ty_0 false],[(ty_0,false),(.bool,false)],fun x=>spec_dyAt k x.1 x.2.1⟩
noncomputable def q116C(k:Nat):Cfg:=⟨Tryz.prog,tyOf tys,30,gOf [(57,[],q11V),(126,[],q9V)],false,[],[]⟩
def q116i1:List PE := [e28,⟨2,48,.box ty_4 false,false⟩,e38]
def q116o1:List PE := [e95]
noncomputable def q116f1(k:Nat)(n:Nat)(x4:PTe q116i1):=spec_dyAt_L58 k n x4.1 x4.2.1 x4.2.2.1
def q116p:List PE := [e70,e3]
noncomputable def q116F(k:Nat):F17:=⟨q116C k,rr q116p [(ty_0,false),(.bool,false)] Tryz.f164,fun p=>bif Nat.beq p 58 then some (.loop q116i1 q116o1 0 80 (q116f1 k k))else none,0,[]⟩
theorem q116K(k:Nat):Contract Tryz.prog 164 (q116V k):=ctr (q116C k) (rs := [(ty_0,false),(.bool,false)]) (ps:=q116p) (q116F k) Tryz.f164 32 ⟨tyOf_ok tys_ok,gOf_ok ⟨q11K,q9K,trivial⟩⟩ (annl [58] ⟨lok q116i1 q116o1 0 80 (q116f1 k) k,trivial⟩)

noncomputable def q117V(k:Nat):Variant:=⟨[.val ty_4 true,.val ty_4 true],[(ty_0,false)],fun x=>spec_dyCmp k x.1 x.2.1⟩
noncomputable def q117C(k:Nat):Cfg:=⟨Tryz.prog,tyOf tys,56,gOf [(206,[],q115V),(120,[],q17V),(57,[],q11V),(164,[],q116V k)],false,[],[]⟩
def q117p:List PE := [e70,e80]
noncomputable def q117F(k:Nat):F2:=⟨q117C k,rr q117p [(ty_0,false)] Tryz.f189,fun p=>none,0,[]⟩
theorem q117K(k:Nat):Contract Tryz.prog 189 (q117V k):=ctr (q117C k) (rs := [(ty_0,false)]) (ps:=q117p) (q117F k) Tryz.f189 32 ⟨tyOf_ok tys_ok,gOf_ok ⟨q115K,q17K,q11K,q116K k,trivial⟩⟩ (annl [] trivial)

noncomputable def q118V(k:Nat):Variant:=⟨[.val ty_18 false],[(ty_15,true)],fun x=>spec_ivEnds k x.1⟩
noncomputable def q118C(k:Nat):Cfg:=⟨Tryz.prog,tyOf tys,35,gOf [(189,[],q117V k)],false,[],[]⟩
def q118i1:List PE := [e97,e98,⟨13,48,.val ty_18 false,false⟩,⟨14,64,.val ty_0 false,false⟩,⟨15,80,.val ty_0 false,false⟩]
def q118o1:List PE := [e97,e98]
noncomputable def q118f1(k:Nat)(n:Nat)(x5:PTe q118i1):=spec_ivEnds_L58 k n x5.1 x5.2.1 x5.2.2.1 x5.2.2.2.1 x5.2.2.2.2.1
def q118p:List PE := [⟨0,0,.val ty_18 false,false⟩]
noncomputable def q118F(k:Nat):F15:=⟨q118C k,rr q118p [(ty_15,true)] Tryz.f161,fun p=>bif Nat.beq p 7474 then some (.cut [e97,e98,⟨5,48,.box ty_4 false,false⟩,⟨13,64,.val ty_18 false,false⟩,⟨14,80,.val ty_0 false,false⟩,⟨15,96,.val ty_0 false,false⟩] 112)else bif Nat.beq p 58 then some (.loop q118i1 q118o1 0 96 (q118f1 k k))else none,0,[]⟩
theorem q118K(k:Nat):Contract Tryz.prog 161 (q118V k):=ctr (q118C k) (rs := [(ty_15,true)]) (ps:=q118p) (q118F k) Tryz.f161 16 ⟨tyOf_ok tys_ok,gOf_ok ⟨q117K k,trivial⟩⟩ (annl [58] ⟨lok q118i1 q118o1 0 96 (q118f1 k) k,trivial⟩)

noncomputable def q119V(k:Nat):Variant:=⟨[.val ty_4 true,.val ty_0 false],[(ty_4,true)],fun x=>spec_dyRound k x.1 x.2.1⟩
noncomputable def q119C(k:Nat):Cfg:=⟨Tryz.prog,tyOf tys,26,gOf [(57,[],q11V),(225,[],q114V),(163,[],q56V k)],false,[],[]⟩
def q119p:List PE := [e70,e3]
noncomputable def q119F(k:Nat):F14:=⟨q119C k,rr q119p [(ty_4,true)] Tryz.f232,fun p=>none,0,[]⟩
theorem q119K(k:Nat):Contract Tryz.prog 232 (q119V k):=ctr (q119C k) (rs := [(ty_4,true)]) (ps:=q119p) (q119F k) Tryz.f232 32 ⟨tyOf_ok tys_ok,gOf_ok ⟨q11K,q114K,q56K k,trivial⟩⟩ (annl [] trivial)

noncomputable def q120V:Variant:=⟨[.val ty_4 true],[(ty_4,true)],fun x=>spec_dyMinus x.1⟩
noncomputable def q120C:Cfg:=⟨Tryz.prog,tyOf tys,9,gOf [],false,[],[]⟩
def q120p:List PE := [e70]
noncomputable def q120F:F14:=⟨q120C,rr q120p [(ty_4,true)] Tryz.f240,fun p=>none,0,[]⟩
theorem q120K:Contract Tryz.prog 240 (q120V):=ctr q120C (rs := [(ty_4,true)]) (ps:=q120p) q120F Tryz.f240 16 ⟨tyOf_ok tys_ok,gOf_ok trivial⟩ (annl [] trivial)

noncomputable def q121V(k:Nat):Variant:=⟨[.val ty_4 true,.val ty_0 false],[(ty_4,true)],fun x=>spec_ivUp k x.1 x.2.1⟩
noncomputable def q121C(k:Nat):Cfg:=⟨Tryz.prog,tyOf tys,10,gOf [(240,[],q120V),(232,[],q119V k)],false,[],[]⟩
def q121p:List PE := [e70,e3]
noncomputable def q121F(k:Nat):F14:=⟨q121C k,rr q121p [(ty_4,true)] Tryz.f233,fun p=>none,0,[]⟩
theorem q121K(k:Nat):Contract Tryz.prog 233 (q121V k):=ctr (q121C k) (rs := [(ty_4,true)]) (ps:=q121p) (q121F k) Tryz.f233 32 ⟨tyOf_ok tys_ok,gOf_ok ⟨q120K,q119K k,trivial⟩⟩ (annl [] trivial)

noncomputable def q122V(k:Nat):Variant:=⟨[.val ty_15 true,.val ty_0 false],[(ty_15,true)],fun x=>spec_ivRound k x.1 x.2.1⟩
noncomputable def q122C(k:Nat):Cfg:=⟨Tryz.prog,tyOf tys,14,gOf [(232,[],q119V k),(233,[],q121V k)],false,[],[]⟩
def q122p:List PE := [e84,e3]
noncomputable def q122F(k:Nat):F15:=⟨q122C k,rr q122p [(ty_15,true)] Tryz.f214,fun p=>none,0,[]⟩
theorem q122K(k:Nat):Contract Tryz.prog 214 (q122V k):=ctr (q122C k) (rs := [(ty_15,true)]) (ps:=q122p) (q122F k) Tryz.f214 32 ⟨tyOf_ok tys_ok,gOf_ok ⟨q119K k,q121K k,trivial⟩⟩ (annl [] trivial)

noncomputable def q123V(k:Nat):Variant:=⟨[.val ty_15 true,.val ty_0 false],[(ty_15,true),(.bool,false)],fun x=>spec_ivPower k x.1 x.2.1⟩
noncomputable def q123C(k:Nat):Cfg:=⟨Tryz.prog,tyOf tys,53,gOf [(213,[],q112V k),(199,[],q113V),(195,[],q108V),(161,[],q118V k),(214,[],q122V k)],false,[],[]⟩
def q123p:List PE := [e84,e3]
noncomputable def q123F(k:Nat):F16:=⟨q123C k,rr q123p [(ty_15,true),(.bool,false)] Tryz.f196,fun p=>bif Nat.beq p 126 then some (.cut [e90,⟨10,48,.eat ty_4,false⟩] 64)else none,0,[]⟩
theorem q123K(k:Nat):Contract Tryz.prog 196 (q123V k):=ctr (q123C k) (rs := [(ty_15,true),(.bool,false)]) (ps:=q123p) (q123F k) Tryz.f196 32 ⟨tyOf_ok tys_ok,gOf_ok ⟨q112K k,q113K,q108K,q118K k,q122K k,trivial⟩⟩ (annl [] trivial)

noncomputable def q124V(k:Nat):Variant:=⟨[.val ty_15 true,.val ty_15 true],[(ty_15,true),(.bool,false)],fun x=>spec_ivMul k x.1 x.2.1⟩
noncomputable def q124C(k:Nat):Cfg:=⟨Tryz.prog,tyOf tys,51,gOf [(215,[],q111V k),(161,[],q118V k),(214,[],q122V k)],false,[],[]⟩
def q124i1:List PE := [e98,e87,e99,⟨8,80,.box ty_4 false,false⟩,⟨17,96,.eat ty_4,false⟩,⟨18,112,.val ty_0 false,false⟩,⟨19,128,.val ty_0 false,false⟩,⟨27,144,.eat ty_4,false⟩,e100,e101]
def q124o1:List PE := [e98,e87,e99,⟨17,80,.eat ty_4,false⟩,e26,e102]
noncomputable def q124f1(k:Nat)(n:Nat)(x2:PTe q124i1):=spec_ivMul_L14950 k n x2.1 x2.2.1 x2.2.2.1 x2.2.2.2.1 x2.2.2.2.2.1 x2.2.2.2.2.2.1 x2.2.2.2.2.2.2.1 x2.2.2.2.2.2.2.2.1 x2.2.2.2.2.2.2.2.2.1 x2.2.2.2.2.2.2.2.2.2.1
def q124i2:List PE := [e98,e87,e99,⟨17,80,.eat ty_4,false⟩,e26,e102]
def q124o2:List PE := [e90,⟨6,48,.eat ty_4,false⟩]
noncomputable def q124f2(k:Nat)(n:Nat)(x5:PTe q124i2):=spec_ivMul_L58 k n x5.1 x5.2.1 x5.2.2.1 x5.2.2.2.1 x5.2.2.2.2.1 x5.2.2.2.2.2.1
def q124p:List PE := [e84,e85]
noncomputable def q124F(k:Nat):F16:=⟨q124C k,rr q124p [(ty_15,true),(.bool,false)] Tryz.f197,fun p=>bif Nat.beq p 14950 then some (.loop q124i1 q124o1 2 192 (q124f1 k k))else bif Nat.beq p 58 then some (.loop q124i2 q124o2 0 128 (q124f2 k k))else none,0,[]⟩
theorem q124K(k:Nat):Contract Tryz.prog 197 (q124V k):=ctr (q124C k) (rs := [(ty_15,true),(.bool,false)]) (ps:=q124p) (q124F k) Tryz.f197 32 ⟨tyOf_ok tys_ok,gOf_ok ⟨q111K k,q118K k,q122K k,trivial⟩⟩ (annl [58,14950] ⟨lok q124i2 q124o2 0 128 (q124f2 k) k,lok q124i1 q124o1 2 192 (q124f1 k) k,trivial⟩)

noncomputable def q125V(k:Nat):Variant:=⟨[.val ty_4 true,.val ty_4 true],[(ty_4,true),(.bool,false)],fun x=>spec_dyAdd k x.1 x.2.1⟩
noncomputable def q125C(k:Nat):Cfg:=⟨Tryz.prog,tyOf tys,42,gOf [(148,[],q29V),(164,[],q116V k),(163,[],q56V k)],false,[],[]⟩
def q125p:List PE := [e70,e80]
noncomputable def q125F(k:Nat):F11:=⟨q125C k,rr q125p [(ty_4,true),(.bool,false)] Tryz.f216,fun p=>none,0,[]⟩
theorem q125K(k:Nat):Contract Tryz.prog 216 (q125V k):=ctr (q125C k) (rs := [(ty_4,true),(.bool,false)]) (ps:=q125p) (q125F k) Tryz.f216 32 ⟨tyOf_ok tys_ok,gOf_ok ⟨q29K,q116K k,q56K k,trivial⟩⟩ (annl [] trivial)

noncomputable def q126V:Variant:=⟨[.val ty_4 true,.val .bool false,.val ty_4 true,.val .bool false],[(ty_15,true),(.bool,false)],fun x=>spec_ivBoth x.1 x.2.1 x.2.2.1 x.2.2.2.1⟩
noncomputable def q126C:Cfg:=⟨Tryz.prog,tyOf tys,20,gOf [],false,[],[]⟩
def q126p:List PE := [e70,⟨1,16,.val .bool false,false⟩,e82,⟨3,48,.val .bool false,false⟩]
noncomputable def q126F:F16:=⟨q126C,rr q126p [(ty_15,true),(.bool,false)] Tryz.f217,fun p=>none,0,[]⟩
theorem q126K:Contract Tryz.prog 217 (q126V):=ctr q126C (rs := [(ty_15,true),(.bool,false)]) (ps:=q126p) q126F Tryz.f217 64 ⟨tyOf_ok tys_ok,gOf_ok trivial⟩ (annl [] trivial)

noncomputable def q127V(k:Nat):Variant:=⟨[.val ty_15 true,.val ty_15 true],[(ty_15,true),(.bool,false)],fun x=>spec_ivAdd k x.1 x.2.1⟩
noncomputable def q127C(k:Nat):Cfg:=⟨Tryz.prog,tyOf tys,33,gOf [(216,[],q125V k),(217,[],q126V)],false,[],[]⟩
def q127p:List PE := [e84,e85]
noncomputable def q127F(k:Nat):F16:=⟨q127C k,rr q127p [(ty_15,true),(.bool,false)] Tryz.f198,fun p=>none,0,[]⟩
theorem q127K(k:Nat):Contract Tryz.prog 198 (q127V k):=ctr (q127C k) (rs := [(ty_15,true),(.bool,false)]) (ps:=q127p) (q127F k) Tryz.f198 32 ⟨tyOf_ok tys_ok,gOf_ok ⟨q125K k,q126K,trivial⟩⟩ (annl [] trivial)

noncomputable def q128V(k:Nat):Variant:=⟨[.val ty_9 false,.val ty_17 false],[(ty_15,true),(.bool,false)],fun x=>spec_vaOver k x.1 x.2.1⟩
noncomputable def q128C(k:Nat):Cfg:=⟨Tryz.prog,tyOf tys,71,gOf [(195,[],q108V),(162,[],q109V),(165,[],q103V),(196,[],q123V k),(197,[],q124V k),(198,[],q127V k)],false,[],[]⟩
def q128i1:List PE := [e86,e87,e103,⟨8,80,.box ty_8 false,false⟩,⟨9,96,.box ty_15 false,false⟩,⟨20,112,.val ty_9 false,false⟩,⟨21,128,.val ty_0 false,false⟩,⟨22,144,.val ty_0 false,false⟩,⟨30,160,.val ty_17 false,false⟩,⟨31,176,.val ty_0 false,false⟩,⟨32,192,.val ty_0 false,false⟩]
def q128o1:List PE := [e86,e87,e103,⟨9,80,.box ty_15 false,false⟩,⟨20,96,.val ty_9 false,false⟩,⟨21,112,.val ty_0 false,false⟩,⟨22,128,.val ty_0 false,false⟩]
noncomputable def q128f1(k:Nat)(n:Nat)(x8:PTe q128i1):=spec_vaOver_L59802 k n x8.1 x8.2.1 x8.2.2.1 x8.2.2.2.1 x8.2.2.2.2.1 x8.2.2.2.2.2.1 x8.2.2.2.2.2.2.1 x8.2.2.2.2.2.2.2.1 x8.2.2.2.2.2.2.2.2.1 x8.2.2.2.2.2.2.2.2.2.1 x8.2.2.2.2.2.2.2.2.2.2.1
def q128i2:List PE := [e86,e87,e103,⟨20,80,.val ty_9 false,false⟩,⟨21,96,.val ty_0 false,false⟩,⟨22,112,.val ty_0 false,false⟩]
def q128o2:List PE := [e90,⟨6,48,.box ty_15 false,false⟩]
noncomputable def q128f2(k:Nat)(n:Nat)(x12:PTe q128i2):=spec_vaOver_L58 k n x12.1 x12.2.1 x12.2.2.1 x12.2.2.2.1 x12.2.2.2.2.1 x12.2.2.2.2.2.1
def q128p:List PE := [e34,e91]
noncomputable def q128F(k:Nat):F16:=⟨q128C k,rr q128p [(ty_15,true),(.bool,false)] Tryz.f172,fun p=>bif Nat.beq p 59802 then some (.loop q128i1 q128o1 2 208 (q128f1 k k))else bif Nat.beq p 58 then some (.loop q128i2 q128o2 0 128 (q128f2 k k))else none,0,[]⟩
theorem q128K(k:Nat):Contract Tryz.prog 172 (q128V k):=ctr (q128C k) (rs := [(ty_15,true),(.bool,false)]) (ps:=q128p) (q128F k) Tryz.f172 32 ⟨tyOf_ok tys_ok,gOf_ok ⟨q108K,q109K,q103K,q123K k,q124K k,q127K k,trivial⟩⟩ (annl [58,59802] ⟨lok q128i2 q128o2 0 128 (q128f2 k) k,lok q128i1 q128o1 2 208 (q128f1 k) k,trivial⟩)

noncomputable def q129V:Variant:=⟨[.val ty_15 true],[(ty_0,false)],fun x=>spec_ivSign x.1⟩
noncomputable def q129C:Cfg:=⟨Tryz.prog,tyOf tys,9,gOf [(199,[],q113V),(120,[],q17V)],false,[],[]⟩
def q129p:List PE := [e84]
noncomputable def q129F:F2:=⟨q129C,rr q129p [(ty_0,false)] Tryz.f173,fun p=>none,0,[]⟩
theorem q129K:Contract Tryz.prog 173 (q129V):=ctr q129C (rs := [(ty_0,false)]) (ps:=q129p) q129F Tryz.f173 16 ⟨tyOf_ok tys_ok,gOf_ok ⟨q113K,q17K,trivial⟩⟩ (annl [] trivial)

noncomputable def q130V(k:Nat):Variant:=⟨[.val ty_16 false,.val ty_17 false,.val ty_0 false],[(.bool,false)],fun x=>spec_cbHolds k x.1 x.2.1 x.2.2.1⟩
noncomputable def q130C(k:Nat):Cfg:=⟨Tryz.prog,tyOf tys,29,gOf [(172,[],q128V k),(173,[],q129V)],false,[],[]⟩
def q130p:List PE := [e78,e91,e7]
noncomputable def q130F(k:Nat):F3:=⟨q130C k,rr q130p [(.bool,false)] Tryz.f133,fun p=>none,0,[]⟩
theorem q130K(k:Nat):Contract Tryz.prog 133 (q130V k):=ctr (q130C k) (rs := [(.bool,false)]) (ps:=q130p) (q130F k) Tryz.f133 48 ⟨tyOf_ok tys_ok,gOf_ok ⟨q128K k,q129K,trivial⟩⟩ (annl [] trivial)

noncomputable def q131V(k:Nat):Variant:=⟨[.val ty_16 false,.val ty_17 false],[(ty_0,false),(.bool,false)],fun x=>spec_cbLabel k x.1 x.2.1⟩
noncomputable def q131C(k:Nat):Cfg:=⟨Tryz.prog,tyOf tys,16,gOf [(133,[],q130V k)],false,[],[]⟩
def q131i1:List PE := [⟨0,32,.val ty_16 false,false⟩,⟨1,48,.val ty_17 false,false⟩,e38]
def q131o1:List PE := []
noncomputable def q131f1(k:Nat)(n:Nat)(x2:PTe q131i1):=spec_cbLabel_L26 k n x2.1 x2.2.1 x2.2.2.1
def q131p:List PE := [e78,e91]
noncomputable def q131F(k:Nat):F17:=⟨q131C k,rr q131p [(ty_0,false),(.bool,false)] Tryz.f84,fun p=>bif Nat.beq p 26 then some (.loop q131i1 q131o1 0 80 (q131f1 k k))else none,0,[]⟩
theorem q131K(k:Nat):Contract Tryz.prog 84 (q131V k):=ctr (q131C k) (rs := [(ty_0,false),(.bool,false)]) (ps:=q131p) (q131F k) Tryz.f84 32 ⟨tyOf_ok tys_ok,gOf_ok ⟨q130K k,trivial⟩⟩ (annl [26] ⟨lok q131i1 q131o1 0 80 (q131f1 k) k,trivial⟩)

noncomputable def q132V(k:Nat):Variant:=⟨[.val ty_16 false,.val ty_12 true,.val ty_0 false,.val ty_6 true],[(ty_0,false),(.bool,false)],fun x=>spec_CellLabel k x.1 x.2.1 x.2.2.1 x.2.2.2.1⟩
noncomputable def q132C(k:Nat):Cfg:=⟨Tryz.prog,tyOf tys,29,gOf [(83,[],q107V k),(79,[],q53V),(80,[],q58V k),(84,[],q131V k)],false,[],[]⟩
def q132p:List PE := [e78,e93,e7,e92]
noncomputable def q132F(k:Nat):F17:=⟨q132C k,rr q132p [(ty_0,false),(.bool,false)] Tryz.f28,fun p=>none,0,[]⟩
theorem q132K(k:Nat):Contract Tryz.prog 28 (q132V k):=ctr (q132C k) (rs := [(ty_0,false),(.bool,false)]) (ps:=q132p) (q132F k) Tryz.f28 64 ⟨tyOf_ok tys_ok,gOf_ok ⟨q107K k,q53K,q58K k,q131K k,trivial⟩⟩ (annl [] trivial)

noncomputable def q133V(k:Nat):Variant:=⟨[.val ty_16 false,.val ty_12 true,.val ty_0 false],[(ty_10,false)],fun x=>spec_cbLabels k x.1 x.2.1 x.2.2.1⟩
noncomputable def q133C(k:Nat):Cfg:=⟨Tryz.prog,tyOf tys,37,gOf [(72,[],q12V k),(80,[],q58V k),(84,[],q131V k)],false,[],[]⟩
def q133i1:List PE := [⟨0,48,.val ty_16 false,false⟩,⟨2,64,.val ty_0 false,false⟩,⟨4,80,.box ty_12 false,false⟩,e51,⟨13,112,.eat ty_6,false⟩,e16,⟨15,144,.val ty_0 false,false⟩]
def q133o1:List PE := [e68]
noncomputable def q133f1(k:Nat)(n:Nat)(x4:PTe q133i1):=spec_cbLabels_L58 k n x4.1 x4.2.1 x4.2.2.1 x4.2.2.2.1 x4.2.2.2.2.1 x4.2.2.2.2.2.1 x4.2.2.2.2.2.2.1
def q133p:List PE := [e78,e93,e7]
noncomputable def q133F(k:Nat):F8:=⟨q133C k,rr q133p [(ty_10,false)] Tryz.f86,fun p=>bif Nat.beq p 58 then some (.loop q133i1 q133o1 0 160 (q133f1 k k))else none,0,[]⟩
theorem q133K(k:Nat):Contract Tryz.prog 86 (q133V k):=ctr (q133C k) (rs := [(ty_10,false)]) (ps:=q133p) (q133F k) Tryz.f86 48 ⟨tyOf_ok tys_ok,gOf_ok ⟨q12K k,q58K k,q131K k,trivial⟩⟩ (annl [58] ⟨lok q133i1 q133o1 0 160 (q133f1 k) k,trivial⟩)

noncomputable def q134V:Variant:=⟨[.val ty_0 false],[(ty_0,false)],fun x=>spec_cbCount x.1⟩
noncomputable def q134C:Cfg:=⟨Tryz.prog,tyOf tys,7,gOf [(57,[],q11V)],false,[],[]⟩
def q134p:List PE := [e6]
noncomputable def q134F:F2:=⟨q134C,rr q134p [(ty_0,false)] Tryz.f87,fun p=>none,0,[]⟩
theorem q134K:Contract Tryz.prog 87 (q134V):=ctr q134C (rs := [(ty_0,false)]) (ps:=q134p) q134F Tryz.f87 16 ⟨tyOf_ok tys_ok,gOf_ok ⟨q11K,trivial⟩⟩ (annl [] trivial)

noncomputable def q135V(k:Nat):Variant:=⟨[.ptr ty_3 true,.val ty_0 false],[(ty_10,false)],fun x=>spec_l1Cur_cellLabels k KSl.xs x.1 x.2.1⟩
noncomputable def q135C(k:Nat):Cfg:=⟨Tryz.prog,tyOf tys,45,gOf [(71,[],q10V),(87,[],q134V),(100,[],q3V),(85,[],q14V),(93,[],q2V)],true,[],[36]⟩
def q135i1:List PE := [e1,e28,e104,e38]
def q135o1:List PE := [e1,e28,e104]
noncomputable def q135f1(k:Nat)(n:Nat)(x5:PTe q135i1):=spec_l1Cur_cellLabels_L124 k KSl.xs n x5.1 x5.2.1 x5.2.2.1 x5.2.2.2.1
def q135p:List PE := [e1,e3]
noncomputable def q135F(k:Nat):Fn ((List Int)×Unit×Int×Int):=⟨q135C k,rr q135p [(ty_10,false)] Tryz.f88,fun p=>bif Nat.beq p 124 then some (.loop q135i1 q135o1 0 80 (q135f1 k k))else bif Nat.beq p 126 then some (.cut [e1,⟨5,32,.eat ty_0,false⟩] 48)else bif Nat.beq p 30 then some (.cut [e1,e28,e104,e38] 80)else none,0,[0]⟩
theorem q135K(k:Nat):Contract Tryz.prog 88 (q135V k):=ctr (q135C k) (rs := [(ty_10,false)]) (ps:=q135p) (q135F k) Tryz.f88 32 ⟨tyOf_ok tys_ok,gOf_ok ⟨q10K,q134K,q3K,q14K,q2K,trivial⟩⟩ (annl [124] ⟨lok q135i1 q135o1 0 80 (q135f1 k) k,trivial⟩)

noncomputable def q136V(k:Nat):Variant:=⟨[.val (.sl (.int .u8)) false],[(ty_10,false),(ty_0,false)],fun x=>spec_DrawDegreeOfLabels k x.1⟩
noncomputable def spec_DrawDegreeOfLabels_V0(k:Nat):Variant:=⟨[.val .ks false],[(ty_10,false),(ty_0,false)],fun _=>spec_DrawDegreeOfLabels k KSl.xs⟩
noncomputable def q136C(k:Nat):Cfg:=⟨Tryz.prog,tyOf tys,42,gOf [(73,[],q37V k),(69,[],q4V),(83,[],q107V k),(85,[],q14V),(86,[],q133V k),(87,[],q134V),(88,[],q135V k)],false,[],[]⟩
def q136p:List PE := [e5]
noncomputable def q136F(k:Nat):Fn ((List Int)×Int):=⟨q136C k,rr q136p [(ty_10,false),(ty_0,false)] Tryz.f29,fun p=>bif Nat.beq p 62 then some (.cut [⟨4,16,.box ty_3 false,false⟩,⟨7,32,.val ty_0 false,false⟩] 48)else none,0,[]⟩
theorem spec_DrawDegreeOfLabels_K0(k:Nat):Contract Tryz.prog 29 (spec_DrawDegreeOfLabels_V0 k):=ctr (q136C k) (rs := [(ty_10,false),(ty_0,false)]) (ps:=q136p) (q136F k) Tryz.f29 16 ⟨tyOf_ok tys_ok,gOf_ok ⟨q37K k,q4K,q107K k,q14K,q133K k,q134K,q135K k,trivial⟩⟩ (annl [] trivial)
theorem q136K(k:Nat):Contract Tryz.prog 29 (q136V k):=contractDraw (by kernel_rfl) (fun kk => @spec_DrawDegreeOfLabels_K0 kk k)

noncomputable def q137V:Variant:=⟨[.val ty_0 false],[(.bool,false)],fun x=>impl_areLabels_1 x.1⟩
noncomputable def q137C:Cfg:=⟨Tryz.prog,tyOf tys,6,gOf [(46,[],q6V)],false,[],[]⟩
def q137p:List PE := [e6]
noncomputable def q137F:F3:=⟨q137C,rr q137p [(.bool,false)] Tryz.f134,fun p=>none,0,[]⟩
theorem q137K:Contract Tryz.prog 134 (q137V):=ctr q137C (rs := [(.bool,false)]) (ps:=q137p) q137F Tryz.f134 16 ⟨tyOf_ok tys_ok,gOf_ok ⟨q6K,trivial⟩⟩ (annl [] trivial)

noncomputable def q138V(k:Nat):Variant:=⟨[.val ty_10 false,.fn 134 []],[(ty_0,false)],fun x=>slices_IndexFunc_int_int_impl_areLabels_1 k x.1 x.2.1⟩
noncomputable def q138C(k:Nat):Cfg:=⟨Tryz.prog,tyOf tys,19,gOf [(134,[],q137V)],false,[],[]⟩
def q138i1:List PE := [e105,⟨1,48,.fn 134 [],false⟩,e37,e23]
def q138o1:List PE := []
noncomputable def q138f1(k:Nat)(n:Nat)(x2:PTe q138i1):=slices_IndexFunc_int_int_impl_areLabels_1_L26 k n x2.1 x2.2.1 x2.2.2.1 x2.2.2.2.1
def q138p:List PE := [e42,⟨1,16,.fn 134 [],false⟩]
noncomputable def q138F(k:Nat):F2:=⟨q138C k,rr q138p [(ty_0,false)] Tryz.f168,fun p=>bif Nat.beq p 26 then some (.loop q138i1 q138o1 0 96 (q138f1 k k))else none,0,[]⟩
theorem q138K(k:Nat):Contract Tryz.prog 168 (q138V k):=ctr (q138C k) (rs := [(ty_0,false)]) (ps:=q138p) (q138F k) Tryz.f168 32 ⟨tyOf_ok tys_ok,gOf_ok ⟨q137K,trivial⟩⟩ (annl [26] ⟨lok q138i1 q138o1 0 96 (q138f1 k) k,trivial⟩)

noncomputable def q139V(k:Nat):Variant:=⟨[.val ty_10 false,.fn 134 []],[(.bool,false)],fun x=>slices_ContainsFunc_int_int_impl_areLabels_1 k x.1 x.2.1⟩
noncomputable def q139C(k:Nat):Cfg:=⟨Tryz.prog,tyOf tys,9,gOf [(168,[134],q138V k)],false,[],[]⟩
def q139p:List PE := [e42,⟨1,16,.fn 134 [],false⟩]
noncomputable def q139F(k:Nat):F3:=⟨q139C k,rr q139p [(.bool,false)] Tryz.f123,fun p=>none,0,[]⟩
theorem q139K(k:Nat):Contract Tryz.prog 123 (q139V k):=ctr (q139C k) (rs := [(.bool,false)]) (ps:=q139p) (q139F k) Tryz.f123 32 ⟨tyOf_ok tys_ok,gOf_ok ⟨q138K k,trivial⟩⟩ (annl [] trivial)

noncomputable def q140V(k:Nat):Variant:=⟨[.val ty_10 false],[(.bool,false)],fun x=>impl_areLabels k x.1⟩
noncomputable def q140C(k:Nat):Cfg:=⟨Tryz.prog,tyOf tys,6,gOf [(123,[134],q139V k)],false,[],[]⟩
def q140p:List PE := [e42]
noncomputable def q140F(k:Nat):F3:=⟨q140C k,rr q140p [(.bool,false)] Tryz.f89,fun p=>none,0,[]⟩
theorem q140K(k:Nat):Contract Tryz.prog 89 (q140V k):=ctr (q140C k) (rs := [(.bool,false)]) (ps:=q140p) (q140F k) Tryz.f89 16 ⟨tyOf_ok tys_ok,gOf_ok ⟨q139K k,trivial⟩⟩ (annl [] trivial)

noncomputable def q141V:Variant:=⟨[.val ty_6 true,.val ty_0 false,.val ty_7 true],[(.bool,false)],fun x=>impl_Cell_touches x.1 x.2.1 x.2.2.1⟩
noncomputable def q141C:Cfg:=⟨Tryz.prog,tyOf tys,44,gOf [(129,[],q43V),(46,[],q6V)],false,[],[]⟩
def q141p:List PE := [e56,e3,e106]
noncomputable def q141F:F3:=⟨q141C,rr q141p [(.bool,false)] Tryz.f174,fun p=>none,0,[]⟩
theorem q141K:Contract Tryz.prog 174 (q141V):=ctr q141C (rs := [(.bool,false)]) (ps:=q141p) q141F Tryz.f174 48 ⟨tyOf_ok tys_ok,gOf_ok ⟨q43K,q6K,trivial⟩⟩ (annl [] trivial)

noncomputable def q142V(k:Nat):Variant:=⟨[.val ty_6 true,.val ty_0 false,.val ty_7 true],[(ty_7,true)],fun x=>impl_Cell_from k x.1 x.2.1 x.2.2.1⟩
noncomputable def q142C(k:Nat):Cfg:=⟨Tryz.prog,tyOf tys,37,gOf [(129,[],q43V)],false,[],[]⟩
def q142i1:List PE := [⟨5,48,.box ty_7 false,false⟩,⟨6,64,.box ty_7 false,false⟩,⟨7,80,.box ty_7 false,false⟩,⟨9,96,.box ty_7 false,false⟩,⟨19,112,.val ty_4 true,false⟩,⟨20,128,.val ty_0 false,false⟩]
def q142o1:List PE := [⟨6,48,.box ty_7 false,false⟩,⟨9,64,.box ty_7 false,false⟩]
noncomputable def q142f1(k:Nat)(n:Nat)(x2:PTe q142i1):=impl_Cell_from_L122 k n x2.1 x2.2.1 x2.2.2.1 x2.2.2.2.1 x2.2.2.2.2.1 x2.2.2.2.2.2.1
def q142p:List PE := [e56,e3,e106]
noncomputable def q142F(k:Nat):Fn (Int×Int×Int):=⟨q142C k,rr q142p [(ty_7,true)] Tryz.f175,fun p=>bif Nat.beq p 122 then some (.loop q142i1 q142o1 0 144 (q142f1 k k))else none,0,[]⟩
theorem q142K(k:Nat):Contract Tryz.prog 175 (q142V k):=ctr (q142C k) (rs := [(ty_7,true)]) (ps:=q142p) (q142F k) Tryz.f175 48 ⟨tyOf_ok tys_ok,gOf_ok ⟨q43K,trivial⟩⟩ (annl [122] ⟨lok q142i1 q142o1 0 144 (q142f1 k) k,trivial⟩)

noncomputable def q143V:Variant:=⟨[.val ty_7 true,.val ty_7 true,.val ty_7 true],[(ty_0,false)],fun x=>impl_turned x.1 x.2.1 x.2.2.1⟩
noncomputable def q143C:Cfg:=⟨Tryz.prog,tyOf tys,51,gOf [],false,[],[]⟩
def q143p:List PE := [⟨0,0,.val ty_7 true,false⟩,⟨1,16,.val ty_7 true,false⟩,e106]
noncomputable def q143F:F2:=⟨q143C,rr q143p [(ty_0,false)] Tryz.f177,fun p=>none,0,[]⟩
theorem q143K:Contract Tryz.prog 177 (q143V):=ctr q143C (rs := [(ty_0,false)]) (ps:=q143p) q143F Tryz.f177 48 ⟨tyOf_ok tys_ok,gOf_ok trivial⟩ (annl [] trivial)

noncomputable def q144V(k:Nat):Variant:=⟨[.val ty_0 false,.ptr ty_7 false,.ptr ty_19 false,.ptr ty_0 false,.ptr ty_7 false,.ptr ty_7 false],[(.bool,false)],fun x=>impl_around_1 k x.1 x.2.1 x.2.2.1 x.2.2.2.1 x.2.2.2.2.1 x.2.2.2.2.2.1⟩
noncomputable def q144C(k:Nat):Cfg:=⟨Tryz.prog,tyOf tys,19,gOf [(175,[],q142V k),(177,[],q143V)],false,[],[]⟩
def q144p:List PE := [e6,⟨1,16,.ptr ty_7 false,false⟩,⟨2,32,.ptr ty_19 false,false⟩,⟨3,48,.ptr ty_0 false,false⟩,⟨4,64,.ptr ty_7 false,false⟩,⟨5,80,.ptr ty_7 false,false⟩]
noncomputable def q144F(k:Nat):F3:=⟨q144C k,rr q144p [(.bool,false)] Tryz.f176,fun p=>none,0,[]⟩
theorem q144K(k:Nat):Contract Tryz.prog 176 (q144V k):=ctr (q144C k) (rs := [(.bool,false)]) (ps:=q144p) (q144F k) Tryz.f176 96 ⟨tyOf_ok tys_ok,gOf_ok ⟨q142K k,q143K,trivial⟩⟩ (annl [] trivial)

noncomputable def q145V(k:Nat):Variant:=⟨[.val ty_10 false,.fn 176 [(ty_7,.pr),(ty_19,.pr),(ty_0,.pr),(ty_7,.pr),(ty_7,.pr)]],[(ty_0,false)],fun x=>slices_IndexFunc_int_int_impl_around_1 k x.1 x.2.1⟩
noncomputable def q145C(k:Nat):Cfg:=⟨Tryz.prog,tyOf tys,19,gOf [(176,[],q144V k)],false,[],[]⟩
def q145i1:List PE := [e105,⟨1,48,.fn 176 [(ty_7,.pr),(ty_19,.pr),(ty_0,.pr),(ty_7,.pr),(ty_7,.pr)],false⟩,e37,e23]
def q145o1:List PE := []
noncomputable def q145f1(k:Nat)(n:Nat)(x2:PTe q145i1):=slices_IndexFunc_int_int_impl_around_1_L26 k n x2.1 x2.2.1 x2.2.2.1 x2.2.2.2.1
def q145p:List PE := [e42,⟨1,16,.fn 176 [(ty_7,.pr),(ty_19,.pr),(ty_0,.pr),(ty_7,.pr),(ty_7,.pr)],false⟩]
noncomputable def q145F(k:Nat):F2:=⟨q145C k,rr q145p [(ty_0,false)] Tryz.f168,fun p=>bif Nat.beq p 26 then some (.loop q145i1 q145o1 0 96 (q145f1 k k))else none,0,[]⟩
theorem q145K(k:Nat):Contract Tryz.prog 168 (q145V k):=ctr (q145C k) (rs := [(ty_0,false)]) (ps:=q145p) (q145F k) Tryz.f168 32 ⟨tyOf_ok tys_ok,gOf_ok ⟨q144K k,trivial⟩⟩ (annl [26] ⟨lok q145i1 q145o1 0 96 (q145f1 k) k,trivial⟩)

noncomputable def q146V(k:Nat):Variant:=⟨[.val ty_19 false,.val ty_0 false,.val ty_7 true],[(ty_10,false)],fun x=>impl_around k x.1 x.2.1 x.2.2.1⟩
noncomputable def q146C(k:Nat):Cfg:=⟨Tryz.prog,tyOf tys,73,gOf [(174,[],q141V),(175,[],q142V k),(168,[176],q145V k)],true,[],[]⟩
def q146i1:List PE := [e107,e108,e109,e51,e110,⟨15,128,.val ty_19 false,false⟩,⟨16,144,.val ty_0 false,false⟩,⟨17,160,.val ty_0 false,false⟩]
def q146o1:List PE := [e107,e108,e109,e51,e110]
noncomputable def q146f1(k:Nat)(n:Nat)(x2:PTe q146i1):=impl_around_L122 k n x2.1 x2.2.1 x2.2.2.1 x2.2.2.2.1 x2.2.2.2.2.1 x2.2.2.2.2.2.1 x2.2.2.2.2.2.2.1 x2.2.2.2.2.2.2.2.1
def q146i2:List PE := [e107,e108,e109,e51,e110,⟨11,128,.eat ty_0,false⟩]
def q146o2:List PE := [⟨11,48,.eat ty_0,false⟩]
noncomputable def q146f2(k:Nat)(n:Nat)(x9:PTe q146i2):=impl_around_L508 k n x9.1 x9.2.1 x9.2.2.1 x9.2.2.2.1 x9.2.2.2.2.1 x9.2.2.2.2.2.1
def q146p:List PE := [⟨0,0,.val ty_19 false,false⟩,e3,e106]
noncomputable def q146F(k:Nat):F8:=⟨q146C k,rr q146p [(ty_10,false)] Tryz.f135,fun p=>bif Nat.beq p 122 then some (.loop q146i1 q146o1 0 176 (q146f1 k k))else bif Nat.beq p 508 then some (.peel q146i2 q146o2 2 144 (q146f2 k k))else none,0,[]⟩
theorem q146K(k:Nat):Contract Tryz.prog 135 (q146V k):=ctr (q146C k) (rs := [(ty_10,false)]) (ps:=q146p) (q146F k) Tryz.f135 48 ⟨tyOf_ok tys_ok,gOf_ok ⟨q141K,q142K k,q145K k,trivial⟩⟩ (annl [122,508] ⟨lok q146i1 q146o1 0 176 (q146f1 k) k,lokp q146i2 q146o2 2 144 (q146f2 k) k,trivial⟩)

noncomputable def q147V(k:Nat):Variant:=⟨[.val ty_10 false,.val ty_0 false],[(ty_0,false)],fun x=>slices_Index_int_int k x.1 x.2.1⟩
noncomputable def q147C(k:Nat):Cfg:=⟨Tryz.prog,tyOf tys,19,gOf [],false,[],[]⟩
def q147i1:List PE := [e105,e72,e37,e23]
def q147o1:List PE := []
noncomputable def q147f1(k:Nat)(n:Nat)(x1:PTe q147i1):=slices_Index_int_int_L26 k n x1.1 x1.2.1 x1.2.2.1 x1.2.2.2.1
def q147p:List PE := [e42,e3]
noncomputable def q147F(k:Nat):F2:=⟨q147C k,rr q147p [(ty_0,false)] Tryz.f178,fun p=>bif Nat.beq p 26 then some (.loop q147i1 q147o1 0 96 (q147f1 k k))else none,0,[]⟩
theorem q147K(k:Nat):Contract Tryz.prog 178 (q147V k):=ctr (q147C k) (rs := [(ty_0,false)]) (ps:=q147p) (q147F k) Tryz.f178 32 ⟨tyOf_ok tys_ok,gOf_ok trivial⟩ (annl [26] ⟨lok q147i1 q147o1 0 96 (q147f1 k) k,trivial⟩)

noncomputable def q148V(k:Nat):Variant:=⟨[.val ty_10 false,.val ty_0 false],[(.bool,false)],fun x=>slices_Contains_int_int k x.1 x.2.1⟩
noncomputable def q148C(k:Nat):Cfg:=⟨Tryz.prog,tyOf tys,9,gOf [(178,[],q147V k)],false,[],[]⟩
def q148p:List PE := [e42,e3]
noncomputable def q148F(k:Nat):F3:=⟨q148C k,rr q148p [(.bool,false)] Tryz.f136,fun p=>none,0,[]⟩
theorem q148K(k:Nat):Contract Tryz.prog 136 (q148V k):=ctr (q148C k) (rs := [(.bool,false)]) (ps:=q148p) (q148F k) Tryz.f136 32 ⟨tyOf_ok tys_ok,gOf_ok ⟨q147K k,trivial⟩⟩ (annl [] trivial)

noncomputable def q149V:Variant:=⟨[.val ty_0 false,.val ty_0 false,.val ty_0 false],[(ty_0,false)],fun x=>impl_countOf x.1 x.2.1 x.2.2.1⟩
noncomputable def q149C:Cfg:=⟨Tryz.prog,tyOf tys,25,gOf [],false,[],[]⟩
def q149p:List PE := [e6,e3,e7]
noncomputable def q149F:F2:=⟨q149C,rr q149p [(ty_0,false)] Tryz.f137,fun p=>bif Nat.beq p 52 then some (.cut [⟨10,48,.val ty_7 true,false⟩,⟨11,64,.val .bool false,false⟩] 80)else none,0,[]⟩
theorem q149K:Contract Tryz.prog 137 (q149V):=ctr q149C (rs := [(ty_0,false)]) (ps:=q149p) q149F Tryz.f137 48 ⟨tyOf_ok tys_ok,gOf_ok trivial⟩ (annl [] trivial)

noncomputable def q150V(k:Nat):Variant:=⟨[.val ty_10 false,.val ty_0 false],[(ty_0,false),(.bool,false)],fun x=>impl_degreeOfLabels k x.1 x.2.1⟩
noncomputable def q150C(k:Nat):Cfg:=⟨Tryz.prog,tyOf tys,98,gOf [(70,[],q7V k),(135,[],q146V k),(136,[],q148V k),(137,[],q149V)],false,[],[]⟩
def q150i1:List PE := [e105,e72,e111,e12,e94,e69,e112,⟨12,144,.eat ty_0,false⟩,e113,e114,e115,e116,e117,e118,⟨43,256,.eat ty_0,false⟩,⟨44,272,.val ty_0 false,false⟩,⟨45,288,.val ty_0 false,false⟩]
def q150o1:List PE := [e105,e72,e111,e12,e94,e69,e112,⟨12,144,.eat ty_0,false⟩,e113,e114,e115,e116,e117,e118]
noncomputable def q150f1(k:Nat)(n:Nat)(x3:PTe q150i1):=impl_degreeOfLabels_L3919157658 k n x3.1 x3.2.1 x3.2.2.1 x3.2.2.2.1 x3.2.2.2.2.1 x3.2.2.2.2.2.1 x3.2.2.2.2.2.2.1 x3.2.2.2.2.2.2.2.1 x3.2.2.2.2.2.2.2.2.1 x3.2.2.2.2.2.2.2.2.2.1 x3.2.2.2.2.2.2.2.2.2.2.1 x3.2.2.2.2.2.2.2.2.2.2.2.1 x3.2.2.2.2.2.2.2.2.2.2.2.2.1 x3.2.2.2.2.2.2.2.2.2.2.2.2.2.1 x3.2.2.2.2.2.2.2.2.2.2.2.2.2.2.1 x3.2.2.2.2.2.2.2.2.2.2.2.2.2.2.2.1 x3.2.2.2.2.2.2.2.2.2.2.2.2.2.2.2.2.1
def q150i2:List PE := [e105,e72,e111,e12,e94,e69,e112,e119,e113,e114,e115,e116,e117,e118,⟨57,256,.val ty_10 false,false⟩,⟨58,272,.val ty_0 false,false⟩,⟨59,288,.val ty_0 false,false⟩]
def q150o2:List PE := [e105,e72,e111,e12,e94,e69,e112,e119,e113,e114,e115,e116,e117,e118]
noncomputable def q150f2(k:Nat)(n:Nat)(x7:PTe q150i2):=impl_degreeOfLabels_L7838315322 k n x7.1 x7.2.1 x7.2.2.1 x7.2.2.2.1 x7.2.2.2.2.1 x7.2.2.2.2.2.1 x7.2.2.2.2.2.2.1 x7.2.2.2.2.2.2.2.1 x7.2.2.2.2.2.2.2.2.1 x7.2.2.2.2.2.2.2.2.2.1 x7.2.2.2.2.2.2.2.2.2.2.1 x7.2.2.2.2.2.2.2.2.2.2.2.1 x7.2.2.2.2.2.2.2.2.2.2.2.2.1 x7.2.2.2.2.2.2.2.2.2.2.2.2.2.1 x7.2.2.2.2.2.2.2.2.2.2.2.2.2.2.1 x7.2.2.2.2.2.2.2.2.2.2.2.2.2.2.2.1 x7.2.2.2.2.2.2.2.2.2.2.2.2.2.2.2.2.1
def q150i3:List PE := [e105,e72,e111,e12,e94,e69,e112,e119,⟨17,160,.val ty_0 false,false⟩,⟨23,176,.val ty_0 false,false⟩,⟨24,192,.val ty_0 false,false⟩,⟨28,208,.val ty_0 false,false⟩,⟨29,224,.val ty_0 false,false⟩,⟨33,240,.val ty_0 false,false⟩,⟨34,256,.val ty_0 false,false⟩]
def q150o3:List PE := [e105,e72,e111,e12,e94,e69,e112,⟨23,144,.val ty_0 false,false⟩,⟨24,160,.val ty_0 false,false⟩,⟨28,176,.val ty_0 false,false⟩,⟨29,192,.val ty_0 false,false⟩,⟨33,208,.val ty_0 false,false⟩,⟨34,224,.val ty_0 false,false⟩]
noncomputable def q150f3(k:Nat)(n:Nat)(x11:PTe q150i3):=impl_degreeOfLabels_L7838315326 k n x11.1 x11.2.1 x11.2.2.1 x11.2.2.2.1 x11.2.2.2.2.1 x11.2.2.2.2.2.1 x11.2.2.2.2.2.2.1 x11.2.2.2.2.2.2.2.1 x11.2.2.2.2.2.2.2.2.1 x11.2.2.2.2.2.2.2.2.2.1 x11.2.2.2.2.2.2.2.2.2.2.1 x11.2.2.2.2.2.2.2.2.2.2.2.1 x11.2.2.2.2.2.2.2.2.2.2.2.2.1 x11.2.2.2.2.2.2.2.2.2.2.2.2.2.1 x11.2.2.2.2.2.2.2.2.2.2.2.2.2.2.1
def q150i4:List PE := [e105,e72,e111,e12,e94,e69,e112,⟨23,144,.val ty_0 false,false⟩,⟨24,160,.val ty_0 false,false⟩,⟨28,176,.val ty_0 false,false⟩,⟨29,192,.val ty_0 false,false⟩,⟨33,208,.val ty_0 false,false⟩,⟨34,224,.val ty_0 false,false⟩]
def q150o4:List PE := [e105,e72,e111,e12,e94,e69,⟨23,128,.val ty_0 false,false⟩,e73,e100,e101]
noncomputable def q150f4(k:Nat)(n:Nat)(x14:PTe q150i4):=impl_degreeOfLabels_L3827302 k n x14.1 x14.2.1 x14.2.2.1 x14.2.2.2.1 x14.2.2.2.2.1 x14.2.2.2.2.2.1 x14.2.2.2.2.2.2.1 x14.2.2.2.2.2.2.2.1 x14.2.2.2.2.2.2.2.2.1 x14.2.2.2.2.2.2.2.2.2.1 x14.2.2.2.2.2.2.2.2.2.2.1 x14.2.2.2.2.2.2.2.2.2.2.2.1 x14.2.2.2.2.2.2.2.2.2.2.2.2.1
def q150i5:List PE := [e105,e72,e111,e12,e94,e69,⟨23,128,.val ty_0 false,false⟩,e73,e100,e101]
def q150o5:List PE := [e105,e72,e111,e12,e94,⟨23,112,.val ty_0 false,false⟩,⟨24,128,.val ty_0 false,false⟩]
noncomputable def q150f5(k:Nat)(n:Nat)(x17:PTe q150i5):=impl_degreeOfLabels_L14950 k n x17.1 x17.2.1 x17.2.2.1 x17.2.2.2.1 x17.2.2.2.2.1 x17.2.2.2.2.2.1 x17.2.2.2.2.2.2.1 x17.2.2.2.2.2.2.2.1 x17.2.2.2.2.2.2.2.2.1 x17.2.2.2.2.2.2.2.2.2.1
def q150i6:List PE := [e105,e72,e111,e12,e94,⟨23,112,.val ty_0 false,false⟩,⟨24,128,.val ty_0 false,false⟩]
def q150o6:List PE := [⟨8,32,.val ty_0 false,false⟩]
noncomputable def q150f6(k:Nat)(n:Nat)(x20:PTe q150i6):=impl_degreeOfLabels_L58 k n x20.1 x20.2.1 x20.2.2.1 x20.2.2.2.1 x20.2.2.2.2.1 x20.2.2.2.2.2.1 x20.2.2.2.2.2.2.1
def q150p:List PE := [e42,e3]
noncomputable def q150F(k:Nat):F17:=⟨q150C k,rr q150p [(ty_0,false),(.bool,false)] Tryz.f90,fun p=>bif Nat.beq p 3919157658 then some (.loop q150i1 q150o1 6 304 (q150f1 k k))else bif Nat.beq p 7838315322 then some (.loop q150i2 q150o2 8 304 (q150f2 k k))else bif Nat.beq p 7838315326 then some (.loop q150i3 q150o3 10 272 (q150f3 k k))else bif Nat.beq p 3827302 then some (.loop q150i4 q150o4 4 240 (q150f4 k k))else bif Nat.beq p 14950 then some (.loop q150i5 q150o5 2 192 (q150f5 k k))else bif Nat.beq p 58 then some (.loop q150i6 q150o6 0 144 (q150f6 k k))else none,0,[]⟩
theorem q150K(k:Nat):Contract Tryz.prog 90 (q150V k):=ctr (q150C k) (rs := [(ty_0,false),(.bool,false)]) (ps:=q150p) (q150F k) Tryz.f90 32 ⟨tyOf_ok tys_ok,gOf_ok ⟨q7K k,q146K k,q148K k,q149K,trivial⟩⟩ (annl [58,14950,3827302,3919157658,7838315322,7838315326] ⟨lok q150i6 q150o6 0 144 (q150f6 k) k,lok q150i5 q150o5 2 192 (q150f5 k) k,lok q150i4 q150o4 4 240 (q150f4 k) k,lok q150i1 q150o1 6 304 (q150f1 k) k,lok q150i2 q150o2 8 304 (q150f2 k) k,lok q150i3 q150o3 10 272 (q150f3 k) k,trivial⟩)

noncomputable def q151V(k:Nat):Variant:=⟨[.val ty_10 false,.val ty_0 false],[(ty_0,false),(.bool,false)],fun x=>impl_DegreeOfLabels k x.1 x.2.1⟩
noncomputable def q151C(k:Nat):Cfg:=⟨Tryz.prog,tyOf tys,27,gOf [(46,[],q6V),(89,[],q140V k),(90,[],q150V k)],false,[],[]⟩
def q151p:List PE := [e42,e3]
noncomputable def q151F(k:Nat):F17:=⟨q151C k,rr q151p [(ty_0,false),(.bool,false)] Tryz.f30,fun p=>none,0,[]⟩
theorem q151K(k:Nat):Contract Tryz.prog 30 (q151V k):=ctr (q151C k) (rs := [(ty_0,false),(.bool,false)]) (ps:=q151p) (q151F k) Tryz.f30 32 ⟨tyOf_ok tys_ok,gOf_ok ⟨q6K,q140K k,q150K k,trivial⟩⟩ (annl [] trivial)

noncomputable def q152V(k:Nat):Variant:=⟨[.val ty_10 false,.val ty_0 false,.val ty_0 false],[(.bool,false)],fun x=>spec_l1All k x.1 x.2.1 x.2.2.1⟩
noncomputable def q152C(k:Nat):Cfg:=⟨Tryz.prog,tyOf tys,21,gOf [(126,[],q9V)],false,[],[]⟩
def q152i1:List PE := [e72,⟨2,64,.val ty_0 false,false⟩,⟨9,80,.val ty_10 false,false⟩,⟨10,96,.val ty_0 false,false⟩,⟨11,112,.val ty_0 false,false⟩]
def q152o1:List PE := []
noncomputable def q152f1(k:Nat)(n:Nat)(x2:PTe q152i1):=spec_l1All_L26 k n x2.1 x2.2.1 x2.2.2.1 x2.2.2.2.1 x2.2.2.2.2.1
def q152p:List PE := [e42,e3,e7]
noncomputable def q152F(k:Nat):F3:=⟨q152C k,rr q152p [(.bool,false)] Tryz.f91,fun p=>bif Nat.beq p 26 then some (.loop q152i1 q152o1 0 128 (q152f1 k k))else none,0,[]⟩
theorem q152K(k:Nat):Contract Tryz.prog 91 (q152V k):=ctr (q152C k) (rs := [(.bool,false)]) (ps:=q152p) (q152F k) Tryz.f91 48 ⟨tyOf_ok tys_ok,gOf_ok ⟨q9K,trivial⟩⟩ (annl [26] ⟨lok q152i1 q152o1 0 128 (q152f1 k) k,trivial⟩)

noncomputable def q153V(k:Nat):Variant:=⟨[.val ty_6 true,.val ty_10 false,.val ty_0 false],[(ty_10,false)],fun x=>spec_cbOffset k x.1 x.2.1 x.2.2.1⟩
noncomputable def q153C(k:Nat):Cfg:=⟨Tryz.prog,tyOf tys,53,gOf [(130,[],q54V k),(126,[],q9V)],false,[],[]⟩
def q153i1:List PE := [e68,⟨8,64,.eat ty_0,false⟩,⟨9,80,.eat ty_0,false⟩,⟨18,96,.val ty_10 false,false⟩,e102,⟨20,128,.val ty_0 false,false⟩]
def q153o1:List PE := [⟨9,48,.eat ty_0,false⟩]
noncomputable def q153f1(k:Nat)(n:Nat)(x3:PTe q153i1):=spec_cbOffset_L122 k n x3.1 x3.2.1 x3.2.2.1 x3.2.2.2.1 x3.2.2.2.2.1 x3.2.2.2.2.2.1
def q153p:List PE := [e56,e4,e7]
noncomputable def q153F(k:Nat):F8:=⟨q153C k,rr q153p [(ty_10,false)] Tryz.f179,fun p=>bif Nat.beq p 122 then some (.loop q153i1 q153o1 0 144 (q153f1 k k))else none,0,[]⟩
theorem q153K(k:Nat):Contract Tryz.prog 179 (q153V k):=ctr (q153C k) (rs := [(ty_10,false)]) (ps:=q153p) (q153F k) Tryz.f179 48 ⟨tyOf_ok tys_ok,gOf_ok ⟨q54K k,q9K,trivial⟩⟩ (annl [122] ⟨lok q153i1 q153o1 0 144 (q153f1 k) k,trivial⟩)

noncomputable def q154V:Variant:=⟨[.val ty_10 false,.val ty_10 false,.val ty_10 false],[(ty_0,false)],fun x=>spec_cbTurn x.1 x.2.1 x.2.2.1⟩
noncomputable def q154C:Cfg:=⟨Tryz.prog,tyOf tys,66,gOf [],false,[],[]⟩
def q154p:List PE := [e42,e4,⟨2,32,.val ty_10 false,false⟩]
noncomputable def q154F:F2:=⟨q154C,rr q154p [(ty_0,false)] Tryz.f180,fun p=>none,0,[]⟩
theorem q154K:Contract Tryz.prog 180 (q154V):=ctr q154C (rs := [(ty_0,false)]) (ps:=q154p) q154F Tryz.f180 48 ⟨tyOf_ok tys_ok,gOf_ok trivial⟩ (annl [] trivial)

noncomputable def q155V(k:Nat):Variant:=⟨[.val ty_10 false,.val ty_10 false,.val ty_0 false,.val ty_19 false],[(ty_10,false)],fun x=>spec_cbAround k x.1 x.2.1 x.2.2.1 x.2.2.2.1⟩
noncomputable def q155C(k:Nat):Cfg:=⟨Tryz.prog,tyOf tys,98,gOf [(179,[],q153V k),(180,[],q154V)],false,[],[]⟩
def q155i1:List PE := [e120,e121,e122,⟨3,112,.val ty_19 false,false⟩,⟨9,128,.eat ty_0,false⟩,⟨21,144,.val ty_10 false,false⟩,⟨22,160,.val ty_0 false,false⟩,⟨23,176,.val ty_0 false,false⟩]
def q155o1:List PE := [e120,e121,e122,⟨3,112,.val ty_19 false,false⟩,⟨9,128,.eat ty_0,false⟩]
noncomputable def q155f1(k:Nat)(n:Nat)(x1:PTe q155i1):=spec_cbAround_L58 k n x1.1 x1.2.1 x1.2.2.1 x1.2.2.2.1 x1.2.2.2.2.1 x1.2.2.2.2.2.1 x1.2.2.2.2.2.2.1 x1.2.2.2.2.2.2.2.1
def q155i2:List PE := [e120,e121,e122,⟨9,112,.eat ty_0,false⟩,⟨12,128,.eat ty_10,false⟩,⟨13,144,.eat ty_0,false⟩,⟨41,160,.val ty_19 false,false⟩,⟨42,176,.val ty_0 false,false⟩,⟨43,192,.val ty_0 false,false⟩]
def q155o2:List PE := [e123,e124,e125]
noncomputable def q155f2(k:Nat)(n:Nat)(x5:PTe q155i2):=spec_cbAround_L506 k n x5.1 x5.2.1 x5.2.2.1 x5.2.2.2.1 x5.2.2.2.2.1 x5.2.2.2.2.2.1 x5.2.2.2.2.2.2.1 x5.2.2.2.2.2.2.2.1 x5.2.2.2.2.2.2.2.2.1
def q155i3:List PE := [e123,e124,e125,e126,e25,e127,e128,⟨79,176,.val ty_0 false,false⟩,⟨80,192,.val ty_0 false,false⟩]
def q155o3:List PE := [e123,e124,e125,e126,e25,e127,e128]
noncomputable def q155f3(k:Nat)(n:Nat)(x9:PTe q155i3):=spec_cbAround_L1047142 k n x9.1 x9.2.1 x9.2.2.1 x9.2.2.2.1 x9.2.2.2.2.1 x9.2.2.2.2.2.1 x9.2.2.2.2.2.2.1 x9.2.2.2.2.2.2.2.1 x9.2.2.2.2.2.2.2.2.1
def q155i4:List PE := [e123,e124,e125,e126,e25,e127,e128]
def q155o4:List PE := [⟨17,64,.eat ty_0,false⟩]
noncomputable def q155f4(k:Nat)(n:Nat)(x12:PTe q155i4):=spec_cbAround_L4090 k n x12.1 x12.2.1 x12.2.2.1 x12.2.2.2.1 x12.2.2.2.2.1 x12.2.2.2.2.2.1 x12.2.2.2.2.2.2.1
def q155p:List PE := [e42,e4,e7,⟨3,48,.val ty_19 false,false⟩]
noncomputable def q155F(k:Nat):F8:=⟨q155C k,rr q155p [(ty_10,false)] Tryz.f138,fun p=>bif Nat.beq p 58 then some (.loop q155i1 q155o1 0 192 (q155f1 k k))else bif Nat.beq p 506 then some (.loop q155i2 q155o2 3 208 (q155f2 k k))else bif Nat.beq p 1047142 then some (.loop q155i3 q155o3 7 208 (q155f3 k k))else bif Nat.beq p 4090 then some (.loop q155i4 q155o4 5 176 (q155f4 k k))else none,0,[]⟩
theorem q155K(k:Nat):Contract Tryz.prog 138 (q155V k):=ctr (q155C k) (rs := [(ty_10,false)]) (ps:=q155p) (q155F k) Tryz.f138 64 ⟨tyOf_ok tys_ok,gOf_ok ⟨q153K k,q154K,trivial⟩⟩ (annl [58,506,4090,1047142] ⟨lok q155i1 q155o1 0 192 (q155f1 k) k,lok q155i2 q155o2 3 208 (q155f2 k) k,lok q155i4 q155o4 5 176 (q155f4 k) k,lok q155i3 q155o3 7 208 (q155f3 k) k,trivial⟩)

noncomputable def q156V(k:Nat):Variant:=⟨[.val ty_10 false,.val ty_0 false],[(.bool,false)],fun x=>spec_l1Has k x.1 x.2.1⟩
noncomputable def q156C(k:Nat):Cfg:=⟨Tryz.prog,tyOf tys,17,gOf [],false,[],[]⟩
def q156i1:List PE := [e28,⟨7,48,.val ty_10 false,false⟩,e46,e15]
def q156o1:List PE := []
noncomputable def q156f1(k:Nat)(n:Nat)(x1:PTe q156i1):=spec_l1Has_L26 k n x1.1 x1.2.1 x1.2.2.1 x1.2.2.2.1
def q156p:List PE := [e42,e3]
noncomputable def q156F(k:Nat):F3:=⟨q156C k,rr q156p [(.bool,false)] Tryz.f139,fun p=>bif Nat.beq p 26 then some (.loop q156i1 q156o1 0 96 (q156f1 k k))else none,0,[]⟩
theorem q156K(k:Nat):Contract Tryz.prog 139 (q156V k):=ctr (q156C k) (rs := [(.bool,false)]) (ps:=q156p) (q156F k) Tryz.f139 32 ⟨tyOf_ok tys_ok,gOf_ok trivial⟩ (annl [26] ⟨lok q156i1 q156o1 0 96 (q156f1 k) k,trivial⟩)

noncomputable def q157V:Variant:=⟨[.val ty_0 false,.val ty_0 false,.val ty_0 false],[(ty_0,false)],fun x=>spec_cbTriple x.1 x.2.1 x.2.2.1⟩
noncomputable def q157C:Cfg:=⟨Tryz.prog,tyOf tys,38,gOf [],false,[],[]⟩
def q157p:List PE := [e6,e3,e7]
noncomputable def q157F:F2:=⟨q157C,rr q157p [(ty_0,false)] Tryz.f140,fun p=>none,0,[]⟩
theorem q157K:Contract Tryz.prog 140 (q157V):=ctr q157C (rs := [(ty_0,false)]) (ps:=q157p) q157F Tryz.f140 48 ⟨tyOf_ok tys_ok,gOf_ok trivial⟩ (annl [] trivial)

noncomputable def q158V(k:Nat):Variant:=⟨[.val ty_10 false,.val ty_0 false],[(ty_0,false),(.bool,false)],fun x=>spec_cbDegree k x.1 x.2.1⟩
noncomputable def q158C(k:Nat):Cfg:=⟨Tryz.prog,tyOf tys,93,gOf [(57,[],q11V),(72,[],q12V k),(138,[],q155V k),(139,[],q156V k),(140,[],q157V)],false,[],[]⟩
def q158i1:List PE := [e105,e36,e129,e23,e13,e130,e131,e119,⟨59,160,.val ty_10 false,false⟩,⟨60,176,.val ty_0 false,false⟩,⟨61,192,.val ty_0 false,false⟩]
def q158o1:List PE := [e105,e36,e129,e23,e13,e130,e131,e119]
noncomputable def q158f1(k:Nat)(n:Nat)(x5:PTe q158i1):=spec_cbDegree_L524887194 k n x5.1 x5.2.1 x5.2.2.1 x5.2.2.2.1 x5.2.2.2.2.1 x5.2.2.2.2.2.1 x5.2.2.2.2.2.2.1 x5.2.2.2.2.2.2.2.1 x5.2.2.2.2.2.2.2.2.1 x5.2.2.2.2.2.2.2.2.2.1 x5.2.2.2.2.2.2.2.2.2.2.1
def q158i2:List PE := [e105,e36,e129,e23,e13,e130,e131,e119,⟨15,160,.val ty_0 false,false⟩]
def q158o2:List PE := [e105,e36,e129,e23,e13,e130,e131]
noncomputable def q158f2(k:Nat)(n:Nat)(x9:PTe q158i2):=spec_cbDegree_L524887198 k n x9.1 x9.2.1 x9.2.2.1 x9.2.2.2.1 x9.2.2.2.2.1 x9.2.2.2.2.2.1 x9.2.2.2.2.2.2.1 x9.2.2.2.2.2.2.2.1 x9.2.2.2.2.2.2.2.2.1
def q158i3:List PE := [e105,e36,e129,e23,e13,e130,e131]
def q158o3:List PE := [e105,e36,e129,e23,e13,e130]
noncomputable def q158f3(k:Nat)(n:Nat)(x30:PTe q158i3):=spec_cbDegree_L1025170 k n x30.1 x30.2.1 x30.2.2.1 x30.2.2.2.1 x30.2.2.2.2.1 x30.2.2.2.2.2.1 x30.2.2.2.2.2.2.1
def q158i4:List PE := [e105,e36,e129,e23,e13,e130]
def q158o4:List PE := [e105,e36,e129,e23,e13]
noncomputable def q158f4(k:Nat)(n:Nat)(x33:PTe q158i4):=spec_cbDegree_L16018 k n x33.1 x33.2.1 x33.2.2.1 x33.2.2.2.1 x33.2.2.2.2.1 x33.2.2.2.2.2.1
def q158i5:List PE := [e105,e36,e129,e23,e13]
def q158o5:List PE := [⟨8,32,.val ty_0 false,false⟩]
noncomputable def q158f5(k:Nat)(n:Nat)(x36:PTe q158i5):=spec_cbDegree_L250 k n x36.1 x36.2.1 x36.2.2.1 x36.2.2.2.1 x36.2.2.2.2.1
def q158p:List PE := [e42,e3]
noncomputable def q158F(k:Nat):F17:=⟨q158C k,rr q158p [(ty_0,false),(.bool,false)] Tryz.f92,fun p=>bif Nat.beq p 524887194 then some (.loop q158i1 q158o1 6 208 (q158f1 k k))else bif Nat.beq p 524887198 then some (.loop q158i2 q158o2 8 176 (q158f2 k k))else bif Nat.beq p 1025170 then some (.loop q158i3 q158o3 4 144 (q158f3 k k))else bif Nat.beq p 16018 then some (.loop q158i4 q158o4 2 128 (q158f4 k k))else bif Nat.beq p 250 then some (.loop q158i5 q158o5 0 112 (q158f5 k k))else none,0,[]⟩
theorem q158K(k:Nat):Contract Tryz.prog 92 (q158V k):=ctr (q158C k) (rs := [(ty_0,false),(.bool,false)]) (ps:=q158p) (q158F k) Tryz.f92 32 ⟨tyOf_ok tys_ok,gOf_ok ⟨q11K,q12K k,q155K k,q156K k,q157K,trivial⟩⟩ (annl [250,16018,1025170,524887194,524887198] ⟨lok q158i5 q158o5 0 112 (q158f5 k) k,lok q158i4 q158o4 2 128 (q158f4 k) k,lok q158i3 q158o3 4 144 (q158f3 k) k,lok q158i1 q158o1 6 208 (q158f1 k) k,lok q158i2 q158o2 8 176 (q158f2 k) k,trivial⟩)

noncomputable def q159V(k:Nat):Variant:=⟨[.val ty_10 false,.val ty_0 false],[(ty_0,false),(.bool,false)],fun x=>spec_DegreeOfLabels k x.1 x.2.1⟩
noncomputable def q159C(k:Nat):Cfg:=⟨Tryz.prog,tyOf tys,26,gOf [(71,[],q10V),(87,[],q134V),(91,[],q152V k),(92,[],q158V k)],false,[],[]⟩
def q159p:List PE := [e42,e3]
noncomputable def q159F(k:Nat):F17:=⟨q159C k,rr q159p [(ty_0,false),(.bool,false)] Tryz.f31,fun p=>none,0,[]⟩
theorem q159K(k:Nat):Contract Tryz.prog 31 (q159V k):=ctr (q159C k) (rs := [(ty_0,false),(.bool,false)]) (ps:=q159p) (q159F k) Tryz.f31 32 ⟨tyOf_ok tys_ok,gOf_ok ⟨q10K,q134K,q152K k,q158K k,trivial⟩⟩ (annl [] trivial)

noncomputable def q160V(k:Nat):Variant:=⟨[.val (.sl (.int .u8)) false],[(ty_10,false)],fun x=>spec_DrawLabelsText k x.1⟩
noncomputable def spec_DrawLabelsText_V0(k:Nat):Variant:=⟨[.val .ks false],[(ty_10,false)],fun _=>spec_DrawLabelsText k KSl.xs⟩
noncomputable def q160C(k:Nat):Cfg:=⟨Tryz.prog,tyOf tys,24,gOf [(93,[],q2V),(88,[],q135V k),(85,[],q14V)],false,[],[]⟩
def q160i1:List PE := [⟨3,16,.box ty_3 false,false⟩,⟨4,32,.eat ty_0,false⟩]
def q160o1:List PE := [⟨4,16,.eat ty_0,false⟩]
noncomputable def q160f1(k:Nat)(n:Nat)(x5:PTe q160i1):=spec_DrawLabelsText_L244 k KSl.xs n x5.1 x5.2.1
def q160p:List PE := [e5]
noncomputable def q160F(k:Nat):F8:=⟨q160C k,rr q160p [(ty_10,false)] Tryz.f32,fun p=>bif Nat.beq p 244 then some (.loop q160i1 q160o1 0 48 (q160f1 k k))else none,0,[]⟩
theorem spec_DrawLabelsText_K0(k:Nat):Contract Tryz.prog 32 (spec_DrawLabelsText_V0 k):=ctr (q160C k) (rs := [(ty_10,false)]) (ps:=q160p) (q160F k) Tryz.f32 16 ⟨tyOf_ok tys_ok,gOf_ok ⟨q2K,q135K k,q14K,trivial⟩⟩ (annl [244] ⟨lok q160i1 q160o1 0 48 (q160f1 k) k,trivial⟩)
theorem q160K(k:Nat):Contract Tryz.prog 32 (q160V k):=contractDraw (by kernel_rfl) (fun kk => @spec_DrawLabelsText_K0 kk k)

noncomputable def q161V:Variant:=⟨[.val ty_0 false],[(.str,false)],fun x=>internal_strconv_small x.1⟩
noncomputable def q161C:Cfg:=⟨Tryz.prog,tyOf tys,15,gOf [],false,[],[]⟩
def q161p:List PE := [e6]
noncomputable def q161F:F18:=⟨q161C,rr q161p [(.str,false)] Tryz.f207,fun p=>none,0,[]⟩
theorem q161K:Contract Tryz.prog 207 (q161V):=ctr q161C (rs := [(.str,false)]) (ps:=q161p) q161F Tryz.f207 16 ⟨tyOf_ok tys_ok,gOf_ok trivial⟩ (annl [] trivial)

noncomputable def q162V:Variant:=⟨[.val ty_0 false,.val ty_0 false],[(.str,false)],fun x=>internal_strconv_FormatInt x.1 x.2.1⟩
noncomputable def q162C:Cfg:=⟨Tryz.prog,tyOf tys,54,gOf [(207,[],q161V)],false,[],[]⟩
def q162p:List PE := [e6,e3]
noncomputable def q162F:F18:=⟨q162C,rr q162p [(.str,false)] Tryz.f192,fun p=>bif Nat.beq p 430 then some (.cut [e71,⟨5,48,.box ty_43 false,false⟩,⟨6,64,.val ty_1 false,false⟩] 80)else bif Nat.beq p 52 then some (.cut [e71] 48)else none,0,[]⟩
theorem q162K:Contract Tryz.prog 192 (q162V):=ctr q162C (rs := [(.str,false)]) (ps:=q162p) q162F Tryz.f192 32 ⟨tyOf_ok tys_ok,gOf_ok ⟨q161K,trivial⟩⟩ (annl [] trivial)

noncomputable def q163V:Variant:=⟨[.val ty_0 false],[(.str,false)],fun x=>internal_strconv_Itoa x.1⟩
noncomputable def q163C:Cfg:=⟨Tryz.prog,tyOf tys,5,gOf [(192,[],q162V)],false,[],[]⟩
def q163p:List PE := [e6]
noncomputable def q163F:F18:=⟨q163C,rr q163p [(.str,false)] Tryz.f169,fun p=>none,0,[]⟩
theorem q163K:Contract Tryz.prog 169 (q163V):=ctr q163C (rs := [(.str,false)]) (ps:=q163p) q163F Tryz.f169 16 ⟨tyOf_ok tys_ok,gOf_ok ⟨q162K,trivial⟩⟩ (annl [] trivial)

noncomputable def q164V:Variant:=⟨[.val ty_0 false],[(.str,false)],fun x=>strconv_Itoa x.1⟩
noncomputable def q164C:Cfg:=⟨Tryz.prog,tyOf tys,5,gOf [(169,[],q163V)],false,[],[]⟩
def q164p:List PE := [e6]
noncomputable def q164F:F18:=⟨q164C,rr q164p [(.str,false)] Tryz.f125,fun p=>none,0,[]⟩
theorem q164K:Contract Tryz.prog 125 (q164V):=ctr q164C (rs := [(.str,false)]) (ps:=q164p) q164F Tryz.f125 16 ⟨tyOf_ok tys_ok,gOf_ok ⟨q163K,trivial⟩⟩ (annl [] trivial)

noncomputable def q165V(k:Nat):Variant:=⟨[.val ty_10 false],[(.str,false)],fun x=>impl_digitsText k x.1⟩
noncomputable def q165C(k:Nat):Cfg:=⟨Tryz.prog,tyOf tys,18,gOf [(125,[],q164V)],false,[],[]⟩
def q165i1:List PE := [⟨3,16,.val .str false,false⟩,e44,e45,e46]
def q165o1:List PE := [⟨3,16,.val .str false,false⟩]
noncomputable def q165f1(k:Nat)(n:Nat)(x2:PTe q165i1):=impl_digitsText_L58 k n x2.1 x2.2.1 x2.2.2.1 x2.2.2.2.1
def q165p:List PE := [e42]
noncomputable def q165F(k:Nat):F18:=⟨q165C k,rr q165p [(.str,false)] Tryz.f68,fun p=>bif Nat.beq p 58 then some (.loop q165i1 q165o1 0 80 (q165f1 k k))else none,0,[]⟩
theorem q165K(k:Nat):Contract Tryz.prog 68 (q165V k):=ctr (q165C k) (rs := [(.str,false)]) (ps:=q165p) (q165F k) Tryz.f68 16 ⟨tyOf_ok tys_ok,gOf_ok ⟨q164K,trivial⟩⟩ (annl [58] ⟨lok q165i1 q165o1 0 80 (q165f1 k) k,trivial⟩)

noncomputable def q166V(k:Nat):Variant:=⟨[.val ty_10 false],[(.str,false),(.bool,false)],fun x=>impl_LabelsText k x.1⟩
noncomputable def q166C(k:Nat):Cfg:=⟨Tryz.prog,tyOf tys,14,gOf [(89,[],q140V k),(68,[],q165V k)],false,[],[]⟩
def q166p:List PE := [e42]
noncomputable def q166F(k:Nat):Fn (ByteArray×Bool):=⟨q166C k,rr q166p [(.str,false),(.bool,false)] Tryz.f33,fun p=>none,0,[]⟩
theorem q166K(k:Nat):Contract Tryz.prog 33 (q166V k):=ctr (q166C k) (rs := [(.str,false),(.bool,false)]) (ps:=q166p) (q166F k) Tryz.f33 16 ⟨tyOf_ok tys_ok,gOf_ok ⟨q140K k,q165K k,trivial⟩⟩ (annl [] trivial)

noncomputable def q167V(k:Nat):Variant:=⟨[.val ty_0 false],[(.str,false)],fun x=>spec_l1Num k x.1⟩
noncomputable def q167W(rc:Int→Option (ByteArray)):Variant:=⟨[.val ty_0 false],[(.str,false)],fun x=>rc x.1⟩
noncomputable def q167C(k:Nat)(rc:Int→Option (ByteArray)):Cfg:=⟨Tryz.prog,tyOf tys,20,gOf [(94,[],q167W rc)],false,[],[]⟩
def q167p:List PE := [e6]
noncomputable def q167F(k:Nat)(rc:Int→Option (ByteArray)):F18:=⟨q167C k rc,rr q167p [(.str,false)] Tryz.f94,fun p=>none,0,[]⟩
theorem q167KB(k:Nat)(rc:Int→Option (ByteArray))(hrc:Contract Tryz.prog 94 (q167W rc)):Contract Tryz.prog 94 (q167W (spec_l1Num_B k rc)):=ctr (q167C k rc) (rs := [(.str,false)]) (ps:=q167p) (q167F k rc) Tryz.f94 16 ⟨tyOf_ok tys_ok,gOf_ok ⟨hrc,trivial⟩⟩ (annl [] trivial)
theorem q167KR(k:Nat):∀n,Contract Tryz.prog 94 (q167W (spec_l1Num_R k n))
 | 0=>contract_none fun _=>rfl
 | n+1=>q167KB k _ (q167KR k n)
theorem q167K(k:Nat):Contract Tryz.prog 94 (q167V k):=q167KR k k

noncomputable def q168V(k:Nat):Variant:=⟨[.val ty_10 false],[(.str,false),(.bool,false)],fun x=>spec_LabelsText k x.1⟩
noncomputable def q168C(k:Nat):Cfg:=⟨Tryz.prog,tyOf tys,27,gOf [(91,[],q152V k),(94,[],q167V k)],false,[],[]⟩
def q168i1:List PE := [⟨4,16,.val .str false,false⟩,⟨15,32,.val ty_10 false,false⟩,⟨16,48,.val ty_0 false,false⟩,⟨17,64,.val ty_0 false,false⟩]
def q168o1:List PE := [⟨4,16,.val .str false,false⟩]
noncomputable def q168f1(k:Nat)(n:Nat)(x3:PTe q168i1):=spec_LabelsText_L122 k n x3.1 x3.2.1 x3.2.2.1 x3.2.2.2.1
def q168p:List PE := [e42]
noncomputable def q168F(k:Nat):Fn (ByteArray×Bool):=⟨q168C k,rr q168p [(.str,false),(.bool,false)] Tryz.f34,fun p=>bif Nat.beq p 122 then some (.loop q168i1 q168o1 0 80 (q168f1 k k))else none,0,[]⟩
theorem q168K(k:Nat):Contract Tryz.prog 34 (q168V k):=ctr (q168C k) (rs := [(.str,false),(.bool,false)]) (ps:=q168p) (q168F k) Tryz.f34 16 ⟨tyOf_ok tys_ok,gOf_ok ⟨q152K k,q167K k,trivial⟩⟩ (annl [122] ⟨lok q168i1 q168o1 0 80 (q168f1 k) k,trivial⟩)

noncomputable def q169V(k:Nat):Variant:=⟨[.val (.sl (.int .u8)) false],[(ty_16,false),(ty_12,true)],fun x=>spec_DrawIsCubeSystem k x.1⟩
noncomputable def spec_DrawIsCubeSystem_V0(k:Nat):Variant:=⟨[.val .ks false],[(ty_16,false),(ty_12,true)],fun _=>spec_DrawIsCubeSystem k KSl.xs⟩
noncomputable def q169C(k:Nat):Cfg:=⟨Tryz.prog,tyOf tys,12,gOf [(73,[],q37V k)],false,[],[]⟩
def q169p:List PE := [e5]
noncomputable def q169F(k:Nat):Fn ((List (List (Int×Int×Int×Int)))×Int×(List Int)×List Int):=⟨q169C k,rr q169p [(ty_16,false),(ty_12,true)] Tryz.f35,fun p=>none,0,[]⟩
theorem spec_DrawIsCubeSystem_K0(k:Nat):Contract Tryz.prog 35 (spec_DrawIsCubeSystem_V0 k):=ctr (q169C k) (rs := [(ty_16,false),(ty_12,true)]) (ps:=q169p) (q169F k) Tryz.f35 16 ⟨tyOf_ok tys_ok,gOf_ok ⟨q37K k,trivial⟩⟩ (annl [] trivial)
theorem q169K(k:Nat):Contract Tryz.prog 35 (q169V k):=contractDraw (by kernel_rfl) (fun kk => @spec_DrawIsCubeSystem_K0 kk k)

noncomputable def q170V(k:Nat):Variant:=⟨[.val ty_19 false,.val ty_19 false],[(.bool,false)],fun x=>laws_qCells k x.1 x.2.1⟩
noncomputable def q170C(k:Nat):Cfg:=⟨Tryz.prog,tyOf tys,26,gOf [],false,[],[]⟩
def q170i1:List PE := [⟨0,32,.val ty_19 false,false⟩,⟨1,48,.val ty_19 false,false⟩,⟨12,64,.val ty_0 false,false⟩,⟨13,80,.val ty_0 false,false⟩]
def q170o1:List PE := []
noncomputable def q170f1(k:Nat)(n:Nat)(x1:PTe q170i1):=laws_qCells_L58 k n x1.1 x1.2.1 x1.2.2.1 x1.2.2.2.1
def q170p:List PE := [⟨0,0,.val ty_19 false,false⟩,⟨1,16,.val ty_19 false,false⟩]
noncomputable def q170F(k:Nat):F3:=⟨q170C k,rr q170p [(.bool,false)] Tryz.f36,fun p=>bif Nat.beq p 58 then some (.loop q170i1 q170o1 0 96 (q170f1 k k))else none,0,[]⟩
theorem q170K(k:Nat):Contract Tryz.prog 36 (q170V k):=ctr (q170C k) (rs := [(.bool,false)]) (ps:=q170p) (q170F k) Tryz.f36 32 ⟨tyOf_ok tys_ok,gOf_ok trivial⟩ (annl [58] ⟨lok q170i1 q170o1 0 96 (q170f1 k) k,trivial⟩)

noncomputable def q171V(k:Nat):Variant:=⟨[.val ty_17 false,.val ty_17 false],[(.bool,false)],fun x=>laws_qIntervals k x.1 x.2.1⟩
noncomputable def q171C(k:Nat):Cfg:=⟨Tryz.prog,tyOf tys,26,gOf [],false,[],[]⟩
def q171i1:List PE := [⟨0,32,.val ty_17 false,false⟩,⟨1,48,.val ty_17 false,false⟩,⟨12,64,.val ty_0 false,false⟩,⟨13,80,.val ty_0 false,false⟩]
def q171o1:List PE := []
noncomputable def q171f1(k:Nat)(n:Nat)(x1:PTe q171i1):=laws_qIntervals_L58 k n x1.1 x1.2.1 x1.2.2.1 x1.2.2.2.1
def q171p:List PE := [⟨0,0,.val ty_17 false,false⟩,e91]
noncomputable def q171F(k:Nat):F3:=⟨q171C k,rr q171p [(.bool,false)] Tryz.f37,fun p=>bif Nat.beq p 58 then some (.loop q171i1 q171o1 0 96 (q171f1 k k))else none,0,[]⟩
theorem q171K(k:Nat):Contract Tryz.prog 37 (q171V k):=ctr (q171C k) (rs := [(.bool,false)]) (ps:=q171p) (q171F k) Tryz.f37 32 ⟨tyOf_ok tys_ok,gOf_ok trivial⟩ (annl [58] ⟨lok q171i1 q171o1 0 96 (q171f1 k) k,trivial⟩)

noncomputable def q172V(k:Nat):Variant:=⟨[.val ty_16 false,.val ty_12 true],[(.bool,false)],fun x=>impl_IsCubeSystem k x.1 x.2.1⟩
noncomputable def q172C(k:Nat):Cfg:=⟨Tryz.prog,tyOf tys,7,gOf [(81,[],q71V k)],false,[],[]⟩
def q172p:List PE := [e78,e93]
noncomputable def q172F(k:Nat):F3:=⟨q172C k,rr q172p [(.bool,false)] Tryz.f38,fun p=>none,0,[]⟩
theorem q172K(k:Nat):Contract Tryz.prog 38 (q172V k):=ctr (q172C k) (rs := [(.bool,false)]) (ps:=q172p) (q172F k) Tryz.f38 32 ⟨tyOf_ok tys_ok,gOf_ok ⟨q71K k,trivial⟩⟩ (annl [] trivial)

noncomputable def q173V(k:Nat):Variant:=⟨[.val ty_16 false,.val ty_12 true],[(.bool,false)],fun x=>spec_IsCubeSystem k x.1 x.2.1⟩
noncomputable def q173C(k:Nat):Cfg:=⟨Tryz.prog,tyOf tys,8,gOf [(95,[],q106V k)],false,[],[]⟩
def q173p:List PE := [e78,e93]
noncomputable def q173F(k:Nat):F3:=⟨q173C k,rr q173p [(.bool,false)] Tryz.f39,fun p=>none,0,[]⟩
theorem q173K(k:Nat):Contract Tryz.prog 39 (q173V k):=ctr (q173C k) (rs := [(.bool,false)]) (ps:=q173p) (q173F k) Tryz.f39 32 ⟨tyOf_ok tys_ok,gOf_ok ⟨q106K k,trivial⟩⟩ (annl [] trivial)

noncomputable def q174V(k:Nat):Variant:=⟨[.val ty_12 true],[(ty_17,false)],fun x=>spec_vaSides k x.1⟩
noncomputable def q174C(k:Nat):Cfg:=⟨Tryz.prog,tyOf tys,32,gOf [(118,[],q57V k)],false,[],[]⟩
def q174i1:List PE := [e43,⟨3,32,.eat ty_15,false⟩,⟨7,48,.val ty_10 false,false⟩,e46,e15]
def q174o1:List PE := [⟨3,16,.eat ty_15,false⟩]
noncomputable def q174f1(k:Nat)(n:Nat)(x3:PTe q174i1):=spec_vaSides_L58 k n x3.1 x3.2.1 x3.2.2.1 x3.2.2.2.1 x3.2.2.2.2.1
def q174p:List PE := [e47]
noncomputable def q174F(k:Nat):F12:=⟨q174C k,rr q174p [(ty_17,false)] Tryz.f97,fun p=>bif Nat.beq p 58 then some (.loop q174i1 q174o1 0 96 (q174f1 k k))else none,0,[]⟩
theorem q174K(k:Nat):Contract Tryz.prog 97 (q174V k):=ctr (q174C k) (rs := [(ty_17,false)]) (ps:=q174p) (q174F k) Tryz.f97 16 ⟨tyOf_ok tys_ok,gOf_ok ⟨q57K k,trivial⟩⟩ (annl [58] ⟨lok q174i1 q174o1 0 96 (q174f1 k) k,trivial⟩)

noncomputable def q175V(k:Nat):Variant:=⟨[.val ty_12 true],[(ty_17,false),(.bool,false)],fun x=>spec_SidesOver k x.1⟩
noncomputable def q175C(k:Nat):Cfg:=⟨Tryz.prog,tyOf tys,9,gOf [(96,[],q32V k),(97,[],q174V k)],false,[],[]⟩
def q175p:List PE := [e47]
noncomputable def q175F(k:Nat):F13:=⟨q175C k,rr q175p [(ty_17,false),(.bool,false)] Tryz.f40,fun p=>none,0,[]⟩
theorem q175K(k:Nat):Contract Tryz.prog 40 (q175V k):=ctr (q175C k) (rs := [(ty_17,false),(.bool,false)]) (ps:=q175p) (q175F k) Tryz.f40 16 ⟨tyOf_ok tys_ok,gOf_ok ⟨q32K k,q174K k,trivial⟩⟩ (annl [] trivial)

noncomputable def q176V:Variant:=⟨[.val ty_4 true,.val ty_4 true],[(.bool,false)],fun x=>spec_dyTwo x.1 x.2.1⟩
noncomputable def q176C:Cfg:=⟨Tryz.prog,tyOf tys,11,gOf [(190,[],q55V)],false,[],[]⟩
def q176p:List PE := [e70,e80]
noncomputable def q176F:F3:=⟨q176C,rr q176p [(.bool,false)] Tryz.f200,fun p=>none,0,[]⟩
theorem q176K:Contract Tryz.prog 200 (q176V):=ctr q176C (rs := [(.bool,false)]) (ps:=q176p) q176F Tryz.f200 32 ⟨tyOf_ok tys_ok,gOf_ok ⟨q55K,trivial⟩⟩ (annl [] trivial)

noncomputable def q177V(k:Nat):Variant:=⟨[.val ty_4 true,.val ty_4 true],[(ty_0,false),(.bool,false)],fun x=>spec_CompareDyadic k x.1 x.2.1⟩
noncomputable def q177C(k:Nat):Cfg:=⟨Tryz.prog,tyOf tys,13,gOf [(200,[],q176V),(189,[],q117V k)],false,[],[]⟩
def q177p:List PE := [e70,e80]
noncomputable def q177F(k:Nat):F17:=⟨q177C k,rr q177p [(ty_0,false),(.bool,false)] Tryz.f181,fun p=>none,0,[]⟩
theorem q177K(k:Nat):Contract Tryz.prog 181 (q177V k):=ctr (q177C k) (rs := [(ty_0,false),(.bool,false)]) (ps:=q177p) (q177F k) Tryz.f181 32 ⟨tyOf_ok tys_ok,gOf_ok ⟨q176K,q117K k,trivial⟩⟩ (annl [] trivial)

noncomputable def q178V(k:Nat):Variant:=⟨[.val ty_4 true,.val ty_4 true],[(ty_0,false)],fun x=>laws_qUp k x.1 x.2.1⟩
noncomputable def q178C(k:Nat):Cfg:=⟨Tryz.prog,tyOf tys,14,gOf [(181,[],q177V k)],false,[],[]⟩
def q178p:List PE := [e70,e80]
noncomputable def q178F(k:Nat):F2:=⟨q178C k,rr q178p [(ty_0,false)] Tryz.f142,fun p=>none,0,[]⟩
theorem q178K(k:Nat):Contract Tryz.prog 142 (q178V k):=ctr (q178C k) (rs := [(ty_0,false)]) (ps:=q178p) (q178F k) Tryz.f142 32 ⟨tyOf_ok tys_ok,gOf_ok ⟨q177K k,trivial⟩⟩ (annl [] trivial)

noncomputable def q179V(k:Nat):Variant:=⟨[.val ty_15 true,.val ty_4 true],[(.bool,false)],fun x=>laws_qIn k x.1 x.2.1⟩
noncomputable def q179C(k:Nat):Cfg:=⟨Tryz.prog,tyOf tys,17,gOf [(142,[],q178V k)],false,[],[]⟩
def q179p:List PE := [e84,e80]
noncomputable def q179F(k:Nat):F3:=⟨q179C k,rr q179p [(.bool,false)] Tryz.f98,fun p=>none,0,[]⟩
theorem q179K(k:Nat):Contract Tryz.prog 98 (q179V k):=ctr (q179C k) (rs := [(.bool,false)]) (ps:=q179p) (q179F k) Tryz.f98 32 ⟨tyOf_ok tys_ok,gOf_ok ⟨q178K k,trivial⟩⟩ (annl [] trivial)

noncomputable def q180V(k:Nat):Variant:=⟨[.val ty_15 true,.val ty_15 true],[(.bool,false)],fun x=>laws_qPart k x.1 x.2.1⟩
noncomputable def q180C(k:Nat):Cfg:=⟨Tryz.prog,tyOf tys,15,gOf [(98,[],q179V k)],false,[],[]⟩
def q180p:List PE := [e84,e85]
noncomputable def q180F(k:Nat):F3:=⟨q180C k,rr q180p [(.bool,false)] Tryz.f41,fun p=>none,0,[]⟩
theorem q180K(k:Nat):Contract Tryz.prog 41 (q180V k):=ctr (q180C k) (rs := [(.bool,false)]) (ps:=q180p) (q180F k) Tryz.f41 32 ⟨tyOf_ok tys_ok,gOf_ok ⟨q179K k,trivial⟩⟩ (annl [] trivial)

noncomputable def laws_FnCells_V(k:Nat):Variant:=⟨[.val ty_44 false,.val ty_44 false],[(.bool,false)],fun x=>laws_FnCells k x.1 x.2.1⟩
noncomputable def laws_FnCells_C(k:Nat):Cfg:=⟨Tryz.prog,tyOf tys,301,gOf [(20,[],q5V),(21,[],q8V k),(22,[],q13V k),(23,[],q39V k),(24,[],q51V k),(25,[],q59V k),(26,[],q60V k),(27,[],q102V k),(28,[],q132V k),(29,[],q136V k),(30,[],q151V k),(31,[],q159V k),(32,[],q160V k),(33,[],q166V k),(34,[],q168V k),(35,[],q169V k),(36,[],q170V k),(37,[],q171V k),(38,[],q172V k),(39,[],q173V k),(40,[],q175V k),(41,[],q180V k)],false,[],[]⟩
def laws_FnCells_i536870746:List PE := [e132,e133,e134,e135,e136,e137,⟨38,128,.eat ty_15,false⟩,⟨220,144,.val ty_17 false,false⟩,⟨221,160,.val ty_0 false,false⟩,⟨222,176,.val ty_0 false,false⟩]
def laws_FnCells_o536870746:List PE := [e132,e133,e134,e135,e136,e137,⟨38,128,.eat ty_15,false⟩]
noncomputable def laws_FnCells_f536870746(k:Nat)(n:Nat)(x24:PTe laws_FnCells_i536870746):=laws_FnCells_L536870746 k n x24.1 x24.2.1 x24.2.2.1 x24.2.2.2.1 x24.2.2.2.2.1 x24.2.2.2.2.2.1 x24.2.2.2.2.2.2.1 x24.2.2.2.2.2.2.2.1 x24.2.2.2.2.2.2.2.2.1 x24.2.2.2.2.2.2.2.2.2.1
def laws_FnCells_i536870826:List PE := [⟨26,32,.val ty_0 false,false⟩,⟨29,48,.val ty_0 false,false⟩,⟨43,64,.eat ty_0,false⟩,⟨270,80,.eat ty_0,false⟩,⟨271,96,.val ty_0 false,false⟩,⟨272,112,.val ty_0 false,false⟩]
def laws_FnCells_o536870826:List PE := [⟨26,32,.val ty_0 false,false⟩,⟨29,48,.val ty_0 false,false⟩,⟨43,64,.eat ty_0,false⟩]
noncomputable def laws_FnCells_f536870826(k:Nat)(n:Nat)(x30:PTe laws_FnCells_i536870826):=laws_FnCells_L536870826 k n x30.1 x30.2.1 x30.2.2.1 x30.2.2.2.1 x30.2.2.2.2.1 x30.2.2.2.2.2.1
def laws_FnCells_ps:List PE := [⟨0,0,.val ty_44 false,false⟩,⟨1,16,.val ty_44 false,false⟩]
noncomputable def laws_FnCells_F(k:Nat):F3:=⟨laws_FnCells_C k,rr laws_FnCells_ps [(.bool,false)] Tryz.f4,fun p=>bif Nat.beq p 536870746 then some (.loop laws_FnCells_i536870746 laws_FnCells_o536870746 0 192 (laws_FnCells_f536870746 k k))else bif Nat.beq p 536870750 then some (.cut [e132,e133,e134,e135,e136,e137,⟨42,128,.box ty_4 false,false⟩] 144)else bif Nat.beq p 536870826 then some (.loop laws_FnCells_i536870826 laws_FnCells_o536870826 2 128 (laws_FnCells_f536870826 k k))else bif Nat.beq p 4194302 then some (.cut [⟨25,32,.eat ty_0,false⟩,⟨26,48,.val ty_0 false,false⟩,⟨28,64,.val .bool false,false⟩,⟨29,80,.val ty_0 false,false⟩] 96)else bif Nat.beq p 2097150 then some (.cut [⟨10,32,.box ty_12 true,false⟩,⟨12,48,.box ty_6 false,false⟩,⟨14,64,.val .bool false,false⟩,⟨15,80,.eat ty_15,false⟩,⟨25,96,.eat ty_0,false⟩,⟨26,112,.val ty_0 false,false⟩,⟨28,128,.val .bool false,false⟩,⟨29,144,.val ty_0 false,false⟩] 160)else none,0,[]⟩
theorem laws_FnCells_K(k:Nat):Contract Tryz.prog 4 (laws_FnCells_V k):=ctr (laws_FnCells_C k) (rs := [(.bool,false)]) (ps:=laws_FnCells_ps) (laws_FnCells_F k) Tryz.f4 32 ⟨tyOf_ok tys_ok,gOf_ok ⟨q5K,q8K k,q13K k,q39K k,q51K k,q59K k,q60K k,q102K k,q132K k,q136K k,q151K k,q159K k,q160K k,q166K k,q168K k,q169K k,q170K k,q171K k,q172K k,q173K k,q175K k,q180K k,trivial⟩⟩ (annl [536870746,536870826] ⟨lok laws_FnCells_i536870746 laws_FnCells_o536870746 0 192 (laws_FnCells_f536870746 k) k,lok laws_FnCells_i536870826 laws_FnCells_o536870826 2 128 (laws_FnCells_f536870826 k) k,trivial⟩)
end Go.Ev.G
