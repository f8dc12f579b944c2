/- The contracts of the functions behind FnExactCubeDegree: a call of each returns what its plain function computes; for all inputs within the sizes named. -/
import Derived.Test.YthgmllplmpmmgaaGreatPCubeDegree1
import Derived.Test.YthgmllplmpmmgaaGreatProg
set_option linter.unusedVariables false
namespace Go.Ev.G
open Go Go.Ev Go.Proofs
set_option maxRecDepth 100000
abbrev ty_0:Ty:=(.int .i64)

abbrev ty_1:Ty:=(.pair ty_0 ty_0)

abbrev ty_2:Ty:=(.pair ty_0 ty_1)

abbrev ty_3:Ty:=(.pair ty_0 ty_2)

abbrev ty_4:Ty:=(.sl ty_3)

abbrev ty_5:Ty:=(.sl ty_4)

abbrev ty_6:Ty:=(.rm ty_3)

abbrev ty_7:Ty:=(.sl ty_0)

abbrev ty_8:Ty:=(.pair ty_7 ty_7)

abbrev ty_9:Ty:=(.pair ty_0 ty_8)

abbrev ty_10:Ty:=(.pair .bool ty_1)

abbrev ty_11:Ty:=(.pair ty_0 ty_10)

abbrev ty_12:Ty:=(.pair ty_1 ty_1)

abbrev ty_13:Ty:=(.sl ty_1)

abbrev ty_14:Ty:=(.sl ty_12)

abbrev ty_15:Ty:=(.sl ty_11)

abbrev ty_16:Ty:=(.int .u64)

abbrev ty_17:Ty:=(.pair ty_16 ty_16)

abbrev ty_18:Ty:=(.pair .bool ty_17)

abbrev ty_19:Ty:=(.rm ty_6)

abbrev ty_20:Ty:=(.rm ty_0)

abbrev ty_21:Ty:=(.pair ty_20 ty_20)

abbrev ty_22:Ty:=(.pair ty_0 ty_21)

def tys:List (TypeId×Ty) := [(3,ty_0),(4,.bool),(23,ty_7),(78,ty_11),(108,ty_1),(116,ty_12)]

theorem tys_ok:AllT Tryz.prog tys:=⟨⟨_,_,rfl,rfl,rfl,rfl⟩,⟨_,_,rfl,rfl,rfl,rfl⟩,⟨_,_,rfl,rfl,rfl,rfl⟩,⟨_,_,rfl,rfl,rfl,rfl⟩,⟨_,_,rfl,rfl,rfl,rfl⟩,⟨_,_,rfl,rfl,rfl,rfl⟩,trivial⟩

def tysR:List (TypeId×Ty) := [(3,ty_0),(47,ty_6),(50,ty_3)]

theorem tysR_ok:AllT Tryz.prog tysR:=⟨⟨_,_,rfl,rfl,rfl,rfl⟩,⟨_,_,rfl,rfl,rfl,rfl⟩,⟨_,_,rfl,rfl,rfl,rfl⟩,trivial⟩

theorem mix_ok:Tryz.prog.follows .mixedOrders=true:=by kernel_rfl

theorem ctr{g:FuncId}(C:Cfg){rs:List (Ty×Bool)}{ps:List PE}(F:Fn (CT (rs.map (·.1)++outs (ps.map (·.b)))))(fn:Func)(nx:Nat){f:PT (ps.map (·.b))→Option (CT (rs.map (·.1)++outs (ps.map (·.b))))}
  (hC:CfgOk C) (hann:AnnOk F (codeOf fn) 1) (hP:C.P=Tryz.prog:=by rfl) (hF:F.C=C:=by rfl) (hfn:C.P.funcs[g]? = some fn:=by kernel_rfl) (hb:fn.body=some (codeOf fn):=by kernel_rfl) (hn:(fn.name == "runtime.NumGoroutine")=false:=by kernel_rfl)
  (hnt:C.ntmps=fn.ntmps:=by kernel_rfl) (hle:Nat.ble ps.length fn.ntmps=true:=by kernel_rfl) (hpar:parOk 0 ps=true:=by kernel_rfl) (hfin:F.fin=rdRes C.P ps rs fn.results.toList .ret:=by rfl)
  (hpins:F.pins=pinIds ps:=by kernel_rfl) (hnd:nodupB F.pins=true:=by kernel_rfl) (hf:∀x,evFn F (codeOf fn) ps nx x=f x:=by intro x;kernel_rfl):Contract C.P g ⟨ps.map (·.b),rs,f⟩ :=
 contract hC hF hfn hb hn hnt hle hpar hfin hpins hnd hann (hP ▸ mix_ok) hf

theorem annl{R:Type}{F:Fn R}{c:Code}(l:List Nat)(hl:AllL F (l.map fun p=>(p,loopB c p)))(h:loopsOf c 1=l.map (fun p=>(p,loopB c p)):=by kernel_rfl):AnnOk F c 1:=AnnOk_list _ h hl

theorem lok{R:Type}{F:Fn R}{c:Code}{p:Nat}(pin pout:List PE)(ex nx:Nat)(Lf:Nat→PTe pin→Option (R ⊕ PTe pout))(k:Nat)(h:F.an p=some (.loop pin pout ex nx (Lf k)):=by kernel_rfl)(h0:∀x,Lf 0 x=none:=by intro x;rfl)
  (hs:∀n x,roundOf F c p pin pout ex nx (Lf n) x=Lf (n+1) x:=by intro n x;kernel_rfl):LoopOk F c p:=LoopOk.mk (pin:=pin) (pout:=pout) h h0 hs

noncomputable def rr(ps:List PE)(rs:List (Ty×Bool))(f:Func):=rdRes Tryz.prog ps rs f.results.toList .ret

theorem lokp{R:Type}{F:Fn R}{c:Code}{p:Nat}(pin pout:List PE)(ex nx:Nat)(Lf:Nat→PTe pin→Option (R ⊕ PTe pout))(k:Nat)(h:F.an p=some (.peel pin pout ex nx (Lf k)):=by kernel_rfl)(h0:∀x,Lf 0 x=none:=by intro x;rfl)
  (hs:∀n x,roundOf F c p pin pout ex nx (Lf n) x=Lf (n+1) x:=by intro n x;kernel_rfl):LoopOk F c p:=LoopOk.mkp (pin:=pin) (pout:=pout) h h0 hs

abbrev e1:PE:=⟨0,0,.val ty_4 false,false⟩
abbrev e2:PE:=⟨1,16,.val ty_0 false,false⟩
abbrev F1:Type 1:=Fn (Int)
abbrev e3:PE:=⟨0,32,.val ty_5 false,false⟩
abbrev e4:PE:=⟨1,48,.val ty_0 false,false⟩
abbrev e5:PE:=⟨5,64,.val ty_0 false,false⟩
abbrev e6:PE:=⟨1,32,.val ty_0 false,false⟩
abbrev e7:PE:=⟨0,0,.val ty_5 false,false⟩
abbrev e8:PE:=⟨0,0,.val ty_7 false,false⟩
abbrev e9:PE:=⟨0,0,.val ty_9 true,false⟩
abbrev e10:PE:=⟨0,0,.val ty_0 false,false⟩
abbrev e11:PE:=⟨0,0,.val ty_3 true,false⟩
abbrev e12:PE:=⟨0,32,.val ty_4 false,false⟩
abbrev e13:PE:=⟨5,48,.eat ty_3,false⟩
abbrev e14:PE:=⟨6,64,.val ty_0 false,false⟩
abbrev e15:PE:=⟨7,64,.val ty_0 false,false⟩
abbrev e16:PE:=⟨1,16,.val .bool false,false⟩
abbrev e17:PE:=⟨6,80,.val ty_0 false,false⟩
abbrev e18:PE:=⟨5,48,.eat ty_6,false⟩
abbrev e19:PE:=⟨0,32,.val ty_7 false,false⟩
abbrev e20:PE:=⟨5,48,.eat ty_0,false⟩
abbrev e21:PE:=⟨2,32,.val ty_0 false,false⟩
abbrev F2:Type 1:=Fn (Bool)
abbrev e22:PE:=⟨1,16,.val ty_3 true,false⟩
abbrev e23:PE:=⟨0,16,.val ty_4 false,false⟩
abbrev e24:PE:=⟨6,48,.val ty_0 false,false⟩
abbrev e25:PE:=⟨5,48,.val ty_0 false,false⟩
abbrev e26:PE:=⟨9,80,.val ty_0 false,false⟩
abbrev e27:PE:=⟨0,16,.val ty_5 false,false⟩
abbrev e28:PE:=⟨7,80,.val ty_0 false,false⟩
abbrev e29:PE:=⟨8,96,.val ty_0 false,false⟩
abbrev e30:PE:=⟨7,48,.val ty_0 false,false⟩
abbrev e31:PE:=⟨8,64,.val ty_0 false,false⟩
abbrev e32:PE:=⟨1,16,.val ty_9 true,false⟩
abbrev e33:PE:=⟨3,16,.eat ty_11,false⟩
abbrev e34:PE:=⟨4,32,.val ty_0 false,false⟩
abbrev e35:PE:=⟨7,64,.val .bool false,false⟩
abbrev e36:PE:=⟨8,80,.val ty_0 false,false⟩
abbrev e37:PE:=⟨9,96,.val ty_0 false,false⟩
abbrev e38:PE:=⟨17,112,.val ty_0 false,false⟩
abbrev e39:PE:=⟨18,128,.val ty_0 false,false⟩
abbrev e40:PE:=⟨18,96,.val ty_0 false,false⟩
abbrev e41:PE:=⟨2,48,.box ty_11 false,false⟩
abbrev e42:PE:=⟨7,48,.eat ty_0,false⟩
abbrev e43:PE:=⟨0,0,.val ty_11 true,false⟩
abbrev e44:PE:=⟨9,112,.val ty_0 false,false⟩
abbrev e45:PE:=⟨19,144,.val ty_0 false,false⟩
abbrev e46:PE:=⟨0,0,.val ty_1 true,false⟩
abbrev e47:PE:=⟨0,32,.val ty_0 false,false⟩
abbrev e48:PE:=⟨4,64,.box ty_1 false,false⟩
abbrev F3:Type 1:=Fn ((Int×Int)×Bool)
abbrev F4:Type 1:=Fn (Int×Int)
abbrev e49:PE:=⟨24,144,.val ty_0 false,false⟩
abbrev e50:PE:=⟨25,160,.val ty_0 false,false⟩
abbrev F5:Type 1:=Fn ((Int×Int)×Int×Int)
abbrev e51:PE:=⟨2,32,.box ty_1 false,false⟩
abbrev e52:PE:=⟨3,48,.box ty_1 false,false⟩
abbrev e53:PE:=⟨1,16,.val ty_1 true,false⟩
abbrev e54:PE:=⟨0,0,.val ty_12 true,false⟩
abbrev F6:Type 1:=Fn (Int×Bool)
abbrev e55:PE:=⟨2,16,.box ty_12 false,false⟩
abbrev e56:PE:=⟨3,32,.box ty_12 false,false⟩
abbrev e57:PE:=⟨4,32,.box ty_12 false,false⟩
abbrev F7:Type 1:=Fn (((Int×Int)×Int×Int)×Bool)
abbrev e58:PE:=⟨4,48,.box ty_12 false,false⟩
abbrev e59:PE:=⟨6,64,.eat ty_1,false⟩
abbrev e60:PE:=⟨28,160,.val ty_0 false,false⟩
abbrev e61:PE:=⟨29,176,.val ty_0 false,false⟩
abbrev e62:PE:=⟨19,112,.val ty_0 false,false⟩
abbrev e63:PE:=⟨1,16,.val ty_12 true,false⟩
abbrev e64:PE:=⟨2,32,.val ty_1 true,false⟩
abbrev e65:PE:=⟨1,32,.val ty_14 false,false⟩
abbrev e66:PE:=⟨6,64,.box ty_12 false,false⟩
abbrev e67:PE:=⟨1,16,.val ty_14 false,false⟩
abbrev e68:PE:=⟨7,96,.eat ty_0,false⟩
abbrev e69:PE:=⟨14,128,.val ty_0 false,false⟩
abbrev e70:PE:=⟨1,16,.val ty_7 false,false⟩
abbrev e71:PE:=⟨0,64,.val ty_7 false,false⟩
abbrev e72:PE:=⟨1,80,.val ty_7 false,false⟩
abbrev e73:PE:=⟨2,96,.val ty_0 false,false⟩
abbrev e74:PE:=⟨9,64,.eat ty_0,false⟩
abbrev e75:PE:=⟨12,80,.eat ty_7,false⟩
abbrev e76:PE:=⟨13,96,.eat ty_0,false⟩
abbrev e77:PE:=⟨17,112,.eat ty_0,false⟩
abbrev e78:PE:=⟨68,144,.val ty_0 false,false⟩
abbrev e79:PE:=⟨69,160,.val ty_0 false,false⟩
abbrev e80:PE:=⟨7,64,.eat ty_11,false⟩
abbrev e81:PE:=⟨10,112,.val ty_0 false,false⟩
abbrev e82:PE:=⟨11,128,.val ty_0 false,false⟩
abbrev e83:PE:=⟨12,144,.val ty_7 false,false⟩
abbrev e84:PE:=⟨9,48,.val ty_4 false,false⟩
abbrev e85:PE:=⟨10,64,.val ty_0 false,false⟩
abbrev e86:PE:=⟨11,80,.val ty_0 false,false⟩
abbrev e87:PE:=⟨0,0,.ptr ty_9 false,false⟩
abbrev e88:PE:=⟨1,16,.ptr ty_9 false,false⟩
abbrev e89:PE:=⟨0,16,.val ty_0 false,false⟩
abbrev e90:PE:=⟨3,32,.eat ty_11,false⟩
abbrev e91:PE:=⟨4,48,.val ty_0 false,false⟩
abbrev e92:PE:=⟨6,64,.val .bool false,false⟩
abbrev e93:PE:=⟨13,128,.val ty_0 false,false⟩
abbrev F8:Type 1:=Fn (Bool×Int×Int)
abbrev e94:PE:=⟨0,0,.val ty_18 true,false⟩
abbrev e95:PE:=⟨0,48,.ptr ty_9 false,false⟩
abbrev e96:PE:=⟨1,64,.val ty_0 false,false⟩
abbrev e97:PE:=⟨5,80,.box ty_11 false,false⟩
abbrev e98:PE:=⟨9,96,.eat ty_12,false⟩
abbrev e99:PE:=⟨12,112,.val ty_0 false,false⟩
abbrev e100:PE:=⟨24,144,.val ty_2 true,false⟩
abbrev e101:PE:=⟨0,0,.val ty_16 false,false⟩
abbrev e102:PE:=⟨0,0,.ptr .bool true,true⟩
abbrev e103:PE:=⟨1,16,.val ty_18 true,false⟩
abbrev e104:PE:=⟨6,64,.box .bool false,false⟩
abbrev e105:PE:=⟨7,80,.box ty_12 false,false⟩
abbrev e106:PE:=⟨2,32,.val ty_2 true,false⟩
abbrev e107:PE:=⟨3,48,.box ty_15 false,false⟩
abbrev e108:PE:=⟨4,64,.box ty_0 false,false⟩
abbrev e109:PE:=⟨5,80,.box ty_2 false,false⟩
abbrev e110:PE:=⟨8,112,.box ty_2 false,false⟩
abbrev e111:PE:=⟨6,64,.eat ty_11,false⟩
abbrev e112:PE:=⟨10,128,.val ty_0 false,false⟩
abbrev e113:PE:=⟨23,160,.val ty_0 false,false⟩
abbrev e114:PE:=⟨24,176,.val ty_0 false,false⟩
abbrev e115:PE:=⟨28,192,.val ty_0 false,false⟩
abbrev e116:PE:=⟨29,208,.val ty_0 false,false⟩
abbrev e117:PE:=⟨33,224,.val ty_0 false,false⟩
abbrev e118:PE:=⟨34,240,.val ty_0 false,false⟩

noncomputable def q1V:Variant:=⟨[.val ty_4 false,.val ty_0 false],[(ty_0,false)],fun x=>laws_szTermS x.1 x.2.1⟩
noncomputable def q1C:Cfg:=⟨Tryz.prog,tyOf tys,12,gOf [],false,[],[]⟩
def q1p:List PE := [e1,e2]
noncomputable def q1F:F1:=⟨q1C,rr q1p [(ty_0,false)] Tryz.f20,fun p=>none,0,[]⟩
theorem q1K:Contract Tryz.prog 20 (q1V):=ctr q1C (rs := [(ty_0,false)]) (ps:=q1p) q1F Tryz.f20 32 ⟨tyOf_ok tys_ok,gOf_ok trivial⟩ (annl [] trivial)

noncomputable def q2V(k:Nat):Variant:=⟨[.val ty_5 false,.val ty_0 false],[(ty_0,false)],fun x=>laws_szTermSS k x.1 x.2.1⟩
noncomputable def q2C(k:Nat):Cfg:=⟨Tryz.prog,tyOf tys,27,gOf [(20,[],q1V)],false,[],[]⟩
def q2i1:List PE := [e3,e4,e5]
def q2o1:List PE := [e6]
noncomputable def q2f1(k:Nat)(n:Nat)(x2:PTe q2i1):=laws_szTermSS_L122 k n x2.1 x2.2.1 x2.2.2.1
def q2p:List PE := [e7,e2]
noncomputable def q2F(k:Nat):F1:=⟨q2C k,rr q2p [(ty_0,false)] Tryz.f5,fun p=>bif Nat.beq p 122 then some (.loop q2i1 q2o1 0 80 (q2f1 k k))else none,0,[]⟩
theorem q2K(k:Nat):Contract Tryz.prog 5 (q2V k):=ctr (q2C k) (rs := [(ty_0,false)]) (ps:=q2p) (q2F k) Tryz.f5 32 ⟨tyOf_ok tys_ok,gOf_ok ⟨q1K,trivial⟩⟩ (annl [122] ⟨lok q2i1 q2o1 0 80 (q2f1 k) k,trivial⟩)

noncomputable def q3V:Variant:=⟨[.val ty_7 false,.val ty_0 false],[(ty_0,false)],fun x=>laws_szIntS x.1 x.2.1⟩
noncomputable def q3C:Cfg:=⟨Tryz.prog,tyOf tys,12,gOf [],false,[],[]⟩
def q3p:List PE := [e8,e2]
noncomputable def q3F:F1:=⟨q3C,rr q3p [(ty_0,false)] Tryz.f21,fun p=>none,0,[]⟩
theorem q3K:Contract Tryz.prog 21 (q3V):=ctr q3C (rs := [(ty_0,false)]) (ps:=q3p) q3F Tryz.f21 32 ⟨tyOf_ok tys_ok,gOf_ok trivial⟩ (annl [] trivial)

noncomputable def q4V:Variant:=⟨[.val ty_9 true,.val ty_0 false],[(ty_0,false)],fun x=>laws_szBox x.1 x.2.1⟩
noncomputable def q4C:Cfg:=⟨Tryz.prog,tyOf tys,18,gOf [(21,[],q3V)],false,[],[]⟩
def q4p:List PE := [e9,e2]
noncomputable def q4F:F1:=⟨q4C,rr q4p [(ty_0,false)] Tryz.f6,fun p=>none,0,[]⟩
theorem q4K:Contract Tryz.prog 6 (q4V):=ctr q4C (rs := [(ty_0,false)]) (ps:=q4p) q4F Tryz.f6 32 ⟨tyOf_ok tys_ok,gOf_ok ⟨q3K,trivial⟩⟩ (annl [] trivial)

noncomputable def q5V:Variant:=⟨[.val ty_0 false],[(ty_0,false)],fun x=>laws_roomBehind x.1⟩
noncomputable def q5C:Cfg:=⟨Tryz.prog,tyOf tys,10,gOf [],false,[],[]⟩
def q5p:List PE := [e10]
noncomputable def q5F:F1:=⟨q5C,rr q5p [(ty_0,false)] Tryz.f24,fun p=>none,0,[]⟩
theorem q5K:Contract Tryz.prog 24 (q5V):=ctr q5C (rs := [(ty_0,false)]) (ps:=q5p) q5F Tryz.f24 16 ⟨tyOf_ok tys_ok,gOf_ok trivial⟩ (annl [] trivial)

noncomputable def q6V:Variant:=⟨[.val ty_3 true],[(ty_3,true)],fun x=>laws_toTerm x.1⟩
noncomputable def q6C:Cfg:=⟨Tryz.prog,tyOf tysR,17,gOf [],true,[],[]⟩
def q6p:List PE := [e11]
noncomputable def q6F:Fn (Int×Int×Int×Int):=⟨q6C,rr q6p [(ty_3,true)] Tryz.f50,fun p=>none,0,[]⟩
theorem q6K:Contract Tryz.prog 50 (q6V):=ctr q6C (rs := [(ty_3,true)]) (ps:=q6p) q6F Tryz.f50 16 ⟨tyOf_ok tysR_ok,gOf_ok trivial⟩ (annl [] trivial)

noncomputable def q7V:Variant:=⟨[],[(ty_3,true)],fun x=>laws_fillerTerm⟩
noncomputable def q7C:Cfg:=⟨Tryz.prog,tyOf tys,2,gOf [],false,[],[]⟩
def q7p:List PE := []
noncomputable def q7F:Fn (Int×Int×Int×Int):=⟨q7C,rr q7p [(ty_3,true)] Tryz.f26,fun p=>none,0,[]⟩
theorem q7K:Contract Tryz.prog 26 (q7V):=ctr q7C (rs := [(ty_3,true)]) (ps:=q7p) q7F Tryz.f26 0 ⟨tyOf_ok tys_ok,gOf_ok trivial⟩ (annl [] trivial)

noncomputable def q8V(k:Nat):Variant:=⟨[.val ty_4 false,.val .bool false],[(ty_6,false)],fun x=>laws_toTermS k x.1 x.2.1⟩
noncomputable def q8C(k:Nat):Cfg:=⟨Tryz.prog,tyOf tysR,51,gOf [(24,[],q5V),(50,[],q6V),(26,[],q7V)],true,[],[]⟩
def q8i1:List PE := [e12,e13,e14]
def q8o1:List PE := [e12,e13]
noncomputable def q8f1(k:Nat)(n:Nat)(x4:PTe q8i1):=laws_toTermS_L122 k n x4.1 x4.2.1 x4.2.2.1
def q8i2:List PE := [e12,e13,e15]
def q8o2:List PE := [e12,e13]
noncomputable def q8f2(k:Nat)(n:Nat)(x8:PTe q8i2):=laws_toTermS_L250 k n x8.1 x8.2.1 x8.2.2.1
def q8p:List PE := [e1,e16]
noncomputable def q8F(k:Nat):Fn (List (Int×Int×Int×Int)×List (Int×Int×Int×Int)):=⟨q8C k,rr q8p [(ty_6,false)] Tryz.f25,fun p=>bif Nat.beq p 122 then some (.loop q8i1 q8o1 0 80 (q8f1 k k))else bif Nat.beq p 250 then some (.loop q8i2 q8o2 2 80 (q8f2 k k))else bif Nat.beq p 6 then some (.cut [e12] 48)else none,0,[]⟩
theorem q8K(k:Nat):Contract Tryz.prog 25 (q8V k):=ctr (q8C k) (rs := [(ty_6,false)]) (ps:=q8p) (q8F k) Tryz.f25 32 ⟨tyOf_ok tysR_ok,gOf_ok ⟨q5K,q6K,q7K,trivial⟩⟩ (annl [122,250] ⟨lok q8i1 q8o1 0 80 (q8f1 k) k,lok q8i2 q8o2 2 80 (q8f2 k) k,trivial⟩)

noncomputable def q9V(k:Nat):Variant:=⟨[.val ty_5 false,.val .bool false],[(ty_19,false)],fun x=>laws_toTermSS k x.1 x.2.1⟩
noncomputable def q9C(k:Nat):Cfg:=⟨Tryz.prog,tyOf tysR,53,gOf [(24,[],q5V),(25,[],q8V k),(26,[],q7V)],true,[5,27,39,44],[]⟩
def q9i1:List PE := [e3,⟨1,48,.val .bool false,false⟩,⟨5,64,.eat ty_6,false⟩,e17]
def q9o1:List PE := [e3,e18]
noncomputable def q9f1(k:Nat)(n:Nat)(x4:PTe q9i1):=laws_toTermSS_L122 k n x4.1 x4.2.1 x4.2.2.1 x4.2.2.2.1
def q9i2:List PE := [e3,e18,e15]
def q9o2:List PE := [e3,e18]
noncomputable def q9f2(k:Nat)(n:Nat)(x8:PTe q9i2):=laws_toTermSS_L250 k n x8.1 x8.2.1 x8.2.2.1
def q9p:List PE := [e7,e16]
noncomputable def q9F(k:Nat):Fn (List (List (Int×Int×Int×Int)×List (Int×Int×Int×Int))×List (List (Int×Int×Int×Int)×List (Int×Int×Int×Int))):=⟨q9C k,rr q9p [(ty_19,false)] Tryz.f8,fun p=>bif Nat.beq p 122 then some (.loop q9i1 q9o1 0 96 (q9f1 k k))else bif Nat.beq p 250 then some (.loop q9i2 q9o2 2 80 (q9f2 k k))else bif Nat.beq p 6 then some (.cut [e3,⟨1,48,.val .bool false,false⟩] 64)else none,0,[]⟩
theorem q9K(k:Nat):Contract Tryz.prog 8 (q9V k):=ctr (q9C k) (rs := [(ty_19,false)]) (ps:=q9p) (q9F k) Tryz.f8 32 ⟨tyOf_ok tysR_ok,gOf_ok ⟨q5K,q8K k,q7K,trivial⟩⟩ (annl [122,250] ⟨lok q9i1 q9o1 0 96 (q9f1 k) k,lok q9i2 q9o2 2 80 (q9f2 k) k,trivial⟩)

noncomputable def q10V(k:Nat):Variant:=⟨[.val ty_7 false,.val .bool false],[(ty_20,false)],fun x=>laws_toIntS k x.1 x.2.1⟩
noncomputable def q10C(k:Nat):Cfg:=⟨Tryz.prog,tyOf tysR,49,gOf [(24,[],q5V)],true,[],[]⟩
def q10i1:List PE := [e19,e20,e14]
def q10o1:List PE := [e19,e20]
noncomputable def q10f1(k:Nat)(n:Nat)(x3:PTe q10i1):=laws_toIntS_L122 k n x3.1 x3.2.1 x3.2.2.1
def q10i2:List PE := [e19,e20,e15]
def q10o2:List PE := [e19,e20]
noncomputable def q10f2(k:Nat)(n:Nat)(x6:PTe q10i2):=laws_toIntS_L250 k n x6.1 x6.2.1 x6.2.2.1
def q10p:List PE := [e8,e16]
noncomputable def q10F(k:Nat):Fn (List Int×List Int):=⟨q10C k,rr q10p [(ty_20,false)] Tryz.f27,fun p=>bif Nat.beq p 122 then some (.loop q10i1 q10o1 0 80 (q10f1 k k))else bif Nat.beq p 250 then some (.loop q10i2 q10o2 2 80 (q10f2 k k))else bif Nat.beq p 6 then some (.cut [e19] 48)else none,0,[]⟩
theorem q10K(k:Nat):Contract Tryz.prog 27 (q10V k):=ctr (q10C k) (rs := [(ty_20,false)]) (ps:=q10p) (q10F k) Tryz.f27 32 ⟨tyOf_ok tysR_ok,gOf_ok ⟨q5K,trivial⟩⟩ (annl [122,250] ⟨lok q10i1 q10o1 0 80 (q10f1 k) k,lok q10i2 q10o2 2 80 (q10f2 k) k,trivial⟩)

noncomputable def q11V(k:Nat):Variant:=⟨[.val ty_9 true,.val .bool false],[(ty_22,true)],fun x=>laws_toBox k x.1 x.2.1⟩
noncomputable def q11C(k:Nat):Cfg:=⟨Tryz.prog,tyOf tysR,20,gOf [(27,[],q10V k)],true,[],[]⟩
def q11p:List PE := [e9,e16]
noncomputable def q11F(k:Nat):Fn (Int×(List Int×List Int)×List Int×List Int):=⟨q11C k,rr q11p [(ty_22,true)] Tryz.f9,fun p=>none,0,[]⟩
theorem q11K(k:Nat):Contract Tryz.prog 9 (q11V k):=ctr (q11C k) (rs := [(ty_22,true)]) (ps:=q11p) (q11F k) Tryz.f9 32 ⟨tyOf_ok tysR_ok,gOf_ok ⟨q10K k,trivial⟩⟩ (annl [] trivial)

noncomputable def q12V:Variant:=⟨[.val ty_0 false,.val ty_0 false,.val ty_0 false],[(.bool,false)],fun x=>spec_l1In x.1 x.2.1 x.2.2.1⟩
noncomputable def q12C:Cfg:=⟨Tryz.prog,tyOf tys,15,gOf [],false,[],[]⟩
def q12p:List PE := [e10,e2,e21]
noncomputable def q12F:F2:=⟨q12C,rr q12p [(.bool,false)] Tryz.f60,fun p=>none,0,[]⟩
theorem q12K:Contract Tryz.prog 60 (q12V):=ctr q12C (rs := [(.bool,false)]) (ps:=q12p) q12F Tryz.f60 48 ⟨tyOf_ok tys_ok,gOf_ok trivial⟩ (annl [] trivial)

noncomputable def q13V:Variant:=⟨[.val ty_3 true],[(.bool,false)],fun x=>spec_poTerm x.1⟩
noncomputable def q13C:Cfg:=⟨Tryz.prog,tyOf tys,32,gOf [(60,[],q12V)],false,[],[]⟩
def q13p:List PE := [e11]
noncomputable def q13F:F2:=⟨q13C,rr q13p [(.bool,false)] Tryz.f122,fun p=>none,0,[]⟩
theorem q13K:Contract Tryz.prog 122 (q13V):=ctr q13C (rs := [(.bool,false)]) (ps:=q13p) q13F Tryz.f122 16 ⟨tyOf_ok tys_ok,gOf_ok ⟨q12K,trivial⟩⟩ (annl [] trivial)

noncomputable def q14V:Variant:=⟨[.val ty_0 false],[(ty_0,false)],fun x=>spec_l1Sign x.1⟩
noncomputable def q14C:Cfg:=⟨Tryz.prog,tyOf tys,9,gOf [],false,[],[]⟩
def q14p:List PE := [e10]
noncomputable def q14F:F1:=⟨q14C,rr q14p [(ty_0,false)] Tryz.f119,fun p=>none,0,[]⟩
theorem q14K:Contract Tryz.prog 119 (q14V):=ctr q14C (rs := [(ty_0,false)]) (ps:=q14p) q14F Tryz.f119 16 ⟨tyOf_ok tys_ok,gOf_ok trivial⟩ (annl [] trivial)

noncomputable def q15V:Variant:=⟨[.val ty_3 true,.val ty_3 true],[(ty_0,false)],fun x=>spec_poOrder x.1 x.2.1⟩
noncomputable def q15C:Cfg:=⟨Tryz.prog,tyOf tys,35,gOf [(119,[],q14V)],false,[],[]⟩
def q15p:List PE := [e11,e22]
noncomputable def q15F:F1:=⟨q15C,rr q15p [(ty_0,false)] Tryz.f123,fun p=>none,0,[]⟩
theorem q15K:Contract Tryz.prog 123 (q15V):=ctr q15C (rs := [(ty_0,false)]) (ps:=q15p) q15F Tryz.f123 32 ⟨tyOf_ok tys_ok,gOf_ok ⟨q14K,trivial⟩⟩ (annl [] trivial)

noncomputable def q16V(k:Nat):Variant:=⟨[.val ty_4 false],[(.bool,false)],fun x=>spec_poGood k x.1⟩
noncomputable def q16C(k:Nat):Cfg:=⟨Tryz.prog,tyOf tys,38,gOf [(122,[],q13V),(123,[],q15V)],false,[],[]⟩
def q16i1:List PE := [e23,⟨5,32,.val ty_4 false,false⟩,e24,e15]
def q16o1:List PE := [e23]
noncomputable def q16f1(k:Nat)(n:Nat)(x3:PTe q16i1):=spec_poGood_L26 k n x3.1 x3.2.1 x3.2.2.1 x3.2.2.2.1
def q16p:List PE := [e1]
noncomputable def q16F(k:Nat):F2:=⟨q16C k,rr q16p [(.bool,false)] Tryz.f96,fun p=>bif Nat.beq p 26 then some (.loop q16i1 q16o1 0 80 (q16f1 k k))else none,0,[]⟩
theorem q16K(k:Nat):Contract Tryz.prog 96 (q16V k):=ctr (q16C k) (rs := [(.bool,false)]) (ps:=q16p) (q16F k) Tryz.f96 16 ⟨tyOf_ok tys_ok,gOf_ok ⟨q13K,q15K,trivial⟩⟩ (annl [26] ⟨lok q16i1 q16o1 0 80 (q16f1 k) k,trivial⟩)

noncomputable def q17V:Variant:=⟨[.val ty_3 true,.val ty_0 false],[(ty_0,false)],fun x=>spec_poPower x.1 x.2.1⟩
noncomputable def q17C:Cfg:=⟨Tryz.prog,tyOf tys,16,gOf [],false,[],[]⟩
def q17p:List PE := [e11,e2]
noncomputable def q17F:F1:=⟨q17C,rr q17p [(ty_0,false)] Tryz.f125,fun p=>none,0,[]⟩
theorem q17K:Contract Tryz.prog 125 (q17V):=ctr q17C (rs := [(ty_0,false)]) (ps:=q17p) q17F Tryz.f125 32 ⟨tyOf_ok tys_ok,gOf_ok trivial⟩ (annl [] trivial)

noncomputable def q18V:Variant:=⟨[.val ty_0 false,.val ty_0 false],[(ty_0,false)],fun x=>spec_l1Most x.1 x.2.1⟩
noncomputable def q18C:Cfg:=⟨Tryz.prog,tyOf tys,10,gOf [],false,[],[]⟩
def q18p:List PE := [e10,e2]
noncomputable def q18F:F1:=⟨q18C,rr q18p [(ty_0,false)] Tryz.f124,fun p=>none,0,[]⟩
theorem q18K:Contract Tryz.prog 124 (q18V):=ctr q18C (rs := [(ty_0,false)]) (ps:=q18p) q18F Tryz.f124 32 ⟨tyOf_ok tys_ok,gOf_ok trivial⟩ (annl [] trivial)

noncomputable def q19V(k:Nat):Variant:=⟨[.val ty_4 false,.val ty_0 false],[(ty_0,false)],fun x=>spec_poDegreeIn k x.1 x.2.1⟩
noncomputable def q19C(k:Nat):Cfg:=⟨Tryz.prog,tyOf tys,21,gOf [(125,[],q17V),(124,[],q18V)],false,[],[]⟩
def q19i1:List PE := [e6,e25,⟨8,64,.val ty_4 false,false⟩,e26,⟨10,96,.val ty_0 false,false⟩]
def q19o1:List PE := [⟨5,32,.val ty_0 false,false⟩]
noncomputable def q19f1(k:Nat)(n:Nat)(x3:PTe q19i1):=spec_poDegreeIn_L58 k n x3.1 x3.2.1 x3.2.2.1 x3.2.2.2.1 x3.2.2.2.2.1
def q19p:List PE := [e1,e2]
noncomputable def q19F(k:Nat):F1:=⟨q19C k,rr q19p [(ty_0,false)] Tryz.f97,fun p=>bif Nat.beq p 58 then some (.loop q19i1 q19o1 0 112 (q19f1 k k))else none,0,[]⟩
theorem q19K(k:Nat):Contract Tryz.prog 97 (q19V k):=ctr (q19C k) (rs := [(ty_0,false)]) (ps:=q19p) (q19F k) Tryz.f97 32 ⟨tyOf_ok tys_ok,gOf_ok ⟨q17K,q18K,trivial⟩⟩ (annl [58] ⟨lok q19i1 q19o1 0 112 (q19f1 k) k,trivial⟩)

noncomputable def q20V(k:Nat):Variant:=⟨[.val ty_5 false],[(.bool,false)],fun x=>spec_poSystem k x.1⟩
noncomputable def q20C(k:Nat):Cfg:=⟨Tryz.prog,tyOf tys,29,gOf [(96,[],q16V k),(97,[],q19V k),(60,[],q12V)],false,[],[]⟩
def q20i1:List PE := [e27,⟨4,32,.val ty_4 false,false⟩,e25,⟨6,64,.val ty_5 false,false⟩,e28,e29]
def q20o1:List PE := [e27,⟨6,32,.val ty_5 false,false⟩,e30,e31]
noncomputable def q20f1(k:Nat)(n:Nat)(x3:PTe q20i1):=spec_poSystem_L13518 k n x3.1 x3.2.1 x3.2.2.1 x3.2.2.2.1 x3.2.2.2.2.1 x3.2.2.2.2.2.1
def q20i2:List PE := [e27,⟨6,32,.val ty_5 false,false⟩,e30,e31]
def q20o2:List PE := [e27]
noncomputable def q20f2(k:Nat)(n:Nat)(x6:PTe q20i2):=spec_poSystem_L26 k n x6.1 x6.2.1 x6.2.2.1 x6.2.2.2.1
def q20p:List PE := [e7]
noncomputable def q20F(k:Nat):F2:=⟨q20C k,rr q20p [(.bool,false)] Tryz.f64,fun p=>bif Nat.beq p 13518 then some (.loop q20i1 q20o1 2 112 (q20f1 k k))else bif Nat.beq p 26 then some (.loop q20i2 q20o2 0 80 (q20f2 k k))else none,0,[]⟩
theorem q20K(k:Nat):Contract Tryz.prog 64 (q20V k):=ctr (q20C k) (rs := [(.bool,false)]) (ps:=q20p) (q20F k) Tryz.f64 16 ⟨tyOf_ok tys_ok,gOf_ok ⟨q16K k,q19K k,q12K,trivial⟩⟩ (annl [26,13518] ⟨lok q20i2 q20o2 0 80 (q20f2 k) k,lok q20i1 q20o1 2 112 (q20f1 k) k,trivial⟩)

noncomputable def q21V:Variant:=⟨[.val ty_0 false],[(ty_0,false)],fun x=>spec_dyPower x.1⟩
noncomputable def q21C:Cfg:=⟨Tryz.prog,tyOf tys,6,gOf [],false,[],[]⟩
def q21p:List PE := [e10]
noncomputable def q21F:F1:=⟨q21C,rr q21p [(ty_0,false)] Tryz.f45,fun p=>none,0,[]⟩
theorem q21K:Contract Tryz.prog 45 (q21V):=ctr q21C (rs := [(ty_0,false)]) (ps:=q21p) q21F Tryz.f45 16 ⟨tyOf_ok tys_ok,gOf_ok trivial⟩ (annl [] trivial)

noncomputable def q22V(k:Nat):Variant:=⟨[.val ty_9 true],[(.bool,false)],fun x=>spec_bxGood k x.1⟩
noncomputable def q22C(k:Nat):Cfg:=⟨Tryz.prog,tyOf tys,80,gOf [(60,[],q12V),(45,[],q21V)],false,[],[]⟩
def q22i1:List PE := [⟨1,16,.box ty_9 false,false⟩,⟨3,32,.val ty_0 false,false⟩,⟨4,48,.val .bool false,false⟩,⟨36,64,.val ty_7 false,false⟩,⟨37,80,.val ty_0 false,false⟩,⟨38,96,.val ty_0 false,false⟩]
def q22o1:List PE := [⟨4,16,.val .bool false,false⟩]
noncomputable def q22f1(k:Nat)(n:Nat)(x6:PTe q22i1):=spec_bxGood_L250 k n x6.1 x6.2.1 x6.2.2.1 x6.2.2.2.1 x6.2.2.2.2.1 x6.2.2.2.2.2.1
def q22p:List PE := [e9]
noncomputable def q22F(k:Nat):F2:=⟨q22C k,rr q22p [(.bool,false)] Tryz.f59,fun p=>bif Nat.beq p 250 then some (.loop q22i1 q22o1 0 112 (q22f1 k k))else none,0,[]⟩
theorem q22K(k:Nat):Contract Tryz.prog 59 (q22V k):=ctr (q22C k) (rs := [(.bool,false)]) (ps:=q22p) (q22F k) Tryz.f59 16 ⟨tyOf_ok tys_ok,gOf_ok ⟨q12K,q21K,trivial⟩⟩ (annl [250] ⟨lok q22i1 q22o1 0 112 (q22f1 k) k,trivial⟩)

noncomputable def q23V(k:Nat):Variant:=⟨[.val ty_9 true],[(.bool,false)],fun x=>spec_cbBox k x.1⟩
noncomputable def q23C(k:Nat):Cfg:=⟨Tryz.prog,tyOf tys,16,gOf [(59,[],q22V k)],false,[],[]⟩
def q23p:List PE := [e9]
noncomputable def q23F(k:Nat):F2:=⟨q23C k,rr q23p [(.bool,false)] Tryz.f105,fun p=>none,0,[]⟩
theorem q23K(k:Nat):Contract Tryz.prog 105 (q23V k):=ctr (q23C k) (rs := [(.bool,false)]) (ps:=q23p) (q23F k) Tryz.f105 16 ⟨tyOf_ok tys_ok,gOf_ok ⟨q22K k,trivial⟩⟩ (annl [] trivial)

noncomputable def q24V(k:Nat):Variant:=⟨[.val ty_5 false,.val ty_9 true],[(.bool,false)],fun x=>spec_cbGood k x.1 x.2.1⟩
noncomputable def q24C(k:Nat):Cfg:=⟨Tryz.prog,tyOf tys,16,gOf [(64,[],q20V k),(105,[],q23V k)],false,[],[]⟩
def q24p:List PE := [e7,e32]
noncomputable def q24F(k:Nat):F2:=⟨q24C k,rr q24p [(.bool,false)] Tryz.f75,fun p=>none,0,[]⟩
theorem q24K(k:Nat):Contract Tryz.prog 75 (q24V k):=ctr (q24C k) (rs := [(.bool,false)]) (ps:=q24p) (q24F k) Tryz.f75 32 ⟨tyOf_ok tys_ok,gOf_ok ⟨q20K k,q23K k,trivial⟩⟩ (annl [] trivial)

noncomputable def q25V:Variant:=⟨[.val ty_0 false],[(.bool,false)],fun x=>spec_cbDepth x.1⟩
noncomputable def q25C:Cfg:=⟨Tryz.prog,tyOf tys,5,gOf [(60,[],q12V)],false,[],[]⟩
def q25p:List PE := [e10]
noncomputable def q25F:F2:=⟨q25C,rr q25p [(.bool,false)] Tryz.f76,fun p=>none,0,[]⟩
theorem q25K:Contract Tryz.prog 76 (q25V):=ctr q25C (rs := [(.bool,false)]) (ps:=q25p) q25F Tryz.f76 16 ⟨tyOf_ok tys_ok,gOf_ok ⟨q12K,trivial⟩⟩ (annl [] trivial)

noncomputable def q26V(k:Nat):Variant:=⟨[.val ty_5 false,.val ty_9 true,.val ty_0 false],[(.bool,false)],fun x=>spec_cbAsked k x.1 x.2.1 x.2.2.1⟩
noncomputable def q26C(k:Nat):Cfg:=⟨Tryz.prog,tyOf tys,14,gOf [(75,[],q24V k),(76,[],q25V)],false,[],[]⟩
def q26p:List PE := [e7,e32,e21]
noncomputable def q26F(k:Nat):F2:=⟨q26C k,rr q26p [(.bool,false)] Tryz.f42,fun p=>none,0,[]⟩
theorem q26K(k:Nat):Contract Tryz.prog 42 (q26V k):=ctr (q26C k) (rs := [(.bool,false)]) (ps:=q26p) (q26F k) Tryz.f42 48 ⟨tyOf_ok tys_ok,gOf_ok ⟨q24K k,q25K,trivial⟩⟩ (annl [] trivial)

noncomputable def q27V(k:Nat):Variant:=⟨[.val ty_0 false],[(ty_15,false)],fun x=>spec_cbCells k x.1⟩
noncomputable def q27C(k:Nat):Cfg:=⟨Tryz.prog,tyOf tys,42,gOf [(45,[],q21V)],false,[],[]⟩
def q27i1:List PE := [e33,e34,e25,e35,e36,e37,⟨16,112,.eat .bool,false⟩,⟨17,128,.val ty_0 false,false⟩,⟨18,144,.val ty_0 false,false⟩]
def q27o1:List PE := [e33,e34,e25,e35,e36,⟨16,96,.eat .bool,false⟩,e38,e39]
noncomputable def q27f1(k:Nat)(n:Nat)(x2:PTe q27i1):=spec_cbCells_L128227730 k n x2.1 x2.2.1 x2.2.2.1 x2.2.2.2.1 x2.2.2.2.2.1 x2.2.2.2.2.2.1 x2.2.2.2.2.2.2.1 x2.2.2.2.2.2.2.2.1 x2.2.2.2.2.2.2.2.2.1
def q27i2:List PE := [e33,e34,e25,e35,e36,⟨16,96,.eat .bool,false⟩,e38,e39]
def q27o2:List PE := [e33,e34,e25,⟨16,64,.eat .bool,false⟩,⟨17,80,.val ty_0 false,false⟩,e40]
noncomputable def q27f2(k:Nat)(n:Nat)(x5:PTe q27i2):=spec_cbCells_L2003558 k n x5.1 x5.2.1 x5.2.2.1 x5.2.2.2.1 x5.2.2.2.2.1 x5.2.2.2.2.2.1 x5.2.2.2.2.2.2.1 x5.2.2.2.2.2.2.2.1
def q27i3:List PE := [e33,e34,e25,⟨16,64,.eat .bool,false⟩,⟨17,80,.val ty_0 false,false⟩,e40]
def q27o3:List PE := [e33,e34,e25]
noncomputable def q27f3(k:Nat)(n:Nat)(x8:PTe q27i3):=spec_cbCells_L7826 k n x8.1 x8.2.1 x8.2.2.1 x8.2.2.2.1 x8.2.2.2.2.1 x8.2.2.2.2.2.1
def q27i4:List PE := [e33,e34,e25]
def q27o4:List PE := [e33]
noncomputable def q27f4(k:Nat)(n:Nat)(x11:PTe q27i4):=spec_cbCells_L122 k n x11.1 x11.2.1 x11.2.2.1
def q27p:List PE := [e10]
noncomputable def q27F(k:Nat):Fn (List (Int×Bool×Int×Int)):=⟨q27C k,rr q27p [(ty_15,false)] Tryz.f46,fun p=>bif Nat.beq p 128227730 then some (.loop q27i1 q27o1 6 160 (q27f1 k k))else bif Nat.beq p 2003558 then some (.loop q27i2 q27o2 4 144 (q27f2 k k))else bif Nat.beq p 7826 then some (.loop q27i3 q27o3 2 112 (q27f3 k k))else bif Nat.beq p 122 then some (.loop q27i4 q27o4 0 64 (q27f4 k k))else none,0,[]⟩
theorem q27K(k:Nat):Contract Tryz.prog 46 (q27V k):=ctr (q27C k) (rs := [(ty_15,false)]) (ps:=q27p) (q27F k) Tryz.f46 16 ⟨tyOf_ok tys_ok,gOf_ok ⟨q21K,trivial⟩⟩ (annl [122,7826,2003558,128227730] ⟨lok q27i4 q27o4 0 64 (q27f4 k) k,lok q27i3 q27o3 2 112 (q27f3 k) k,lok q27i2 q27o2 4 144 (q27f2 k) k,lok q27i1 q27o1 6 160 (q27f1 k) k,trivial⟩)

noncomputable def q28V(k:Nat):Variant:=⟨[.val ty_11 true,.val ty_0 false],[(ty_7,false),(ty_7,false)],fun x=>spec_cbRange k x.1 x.2.1⟩
noncomputable def q28C(k:Nat):Cfg:=⟨Tryz.prog,tyOf tys,57,gOf [],false,[],[]⟩
def q28i1:List PE := [e6,e41,⟨6,64,.eat ty_0,false⟩,⟨7,80,.eat ty_0,false⟩,⟨8,96,.val ty_7 false,false⟩,⟨18,112,.val ty_0 false,false⟩,⟨19,128,.val ty_0 false,false⟩]
def q28o1:List PE := [⟨6,32,.eat ty_0,false⟩,e42]
noncomputable def q28f1(k:Nat)(n:Nat)(x3:PTe q28i1):=spec_cbRange_L122 k n x3.1 x3.2.1 x3.2.2.1 x3.2.2.2.1 x3.2.2.2.2.1 x3.2.2.2.2.2.1 x3.2.2.2.2.2.2.1
def q28p:List PE := [e43,e2]
noncomputable def q28F(k:Nat):Fn ((List Int)×List Int):=⟨q28C k,rr q28p [(ty_7,false),(ty_7,false)] Tryz.f107,fun p=>bif Nat.beq p 125332 then some (.cut [e6,e41,⟨6,64,.eat ty_0,false⟩,⟨7,80,.eat ty_0,false⟩,⟨8,96,.val ty_7 false,false⟩,e44,e39,e45] 160)else bif Nat.beq p 122 then some (.loop q28i1 q28o1 0 144 (q28f1 k k))else none,0,[]⟩
theorem q28K(k:Nat):Contract Tryz.prog 107 (q28V k):=ctr (q28C k) (rs := [(ty_7,false),(ty_7,false)]) (ps:=q28p) (q28F k) Tryz.f107 32 ⟨tyOf_ok tys_ok,gOf_ok trivial⟩ (annl [122] ⟨lok q28i1 q28o1 0 144 (q28f1 k) k,trivial⟩)

noncomputable def q29V:Variant:=⟨[.val ty_1 true],[(.bool,false)],fun x=>spec_dyGood x.1⟩
noncomputable def q29C:Cfg:=⟨Tryz.prog,tyOf tys,22,gOf [(60,[],q12V)],false,[],[]⟩
def q29p:List PE := [e46]
noncomputable def q29F:F2:=⟨q29C,rr q29p [(.bool,false)] Tryz.f148,fun p=>none,0,[]⟩
theorem q29K:Contract Tryz.prog 148 (q29V):=ctr q29C (rs := [(.bool,false)]) (ps:=q29p) q29F Tryz.f148 16 ⟨tyOf_ok tys_ok,gOf_ok ⟨q12K,trivial⟩⟩ (annl [] trivial)

noncomputable def q30V(k:Nat):Variant:=⟨[.val ty_0 false,.val ty_0 false],[(ty_1,true),(.bool,false)],fun x=>spec_dyMake k x.1 x.2.1⟩
noncomputable def q30C(k:Nat):Cfg:=⟨Tryz.prog,tyOf tys,32,gOf [(148,[],q29V)],false,[],[]⟩
def q30i1:List PE := [e47,e4,e48]
def q30o1:List PE := [e47,e4,e48]
noncomputable def q30f1(k:Nat)(n:Nat)(x2:PTe q30i1):=spec_dyMake_L28 k n x2.1 x2.2.1 x2.2.2.1
def q30p:List PE := [e10,e2]
noncomputable def q30F(k:Nat):F3:=⟨q30C k,rr q30p [(ty_1,true),(.bool,false)] Tryz.f121,fun p=>bif Nat.beq p 28 then some (.loop q30i1 q30o1 0 80 (q30f1 k k))else bif Nat.beq p 6 then some (.cut [e47,e4,e48] 80)else none,0,[]⟩
theorem q30K(k:Nat):Contract Tryz.prog 121 (q30V k):=ctr (q30C k) (rs := [(ty_1,true),(.bool,false)]) (ps:=q30p) (q30F k) Tryz.f121 32 ⟨tyOf_ok tys_ok,gOf_ok ⟨q29K,trivial⟩⟩ (annl [28] ⟨lok q30i1 q30o1 0 80 (q30f1 k) k,trivial⟩)

noncomputable def q31V(k:Nat):Variant:=⟨[.val ty_0 false,.val ty_0 false],[(ty_1,true)],fun x=>spec_bxNumber k x.1 x.2.1⟩
noncomputable def q31C(k:Nat):Cfg:=⟨Tryz.prog,tyOf tys,14,gOf [(121,[],q30V k)],false,[],[]⟩
def q31p:List PE := [e10,e2]
noncomputable def q31F(k:Nat):F4:=⟨q31C k,rr q31p [(ty_1,true)] Tryz.f95,fun p=>none,0,[]⟩
theorem q31K(k:Nat):Contract Tryz.prog 95 (q31V k):=ctr (q31C k) (rs := [(ty_1,true)]) (ps:=q31p) (q31F k) Tryz.f95 32 ⟨tyOf_ok tys_ok,gOf_ok ⟨q30K k,trivial⟩⟩ (annl [] trivial)

noncomputable def q32V(k:Nat):Variant:=⟨[.val ty_9 true,.val ty_0 false,.val ty_11 true],[(ty_14,false)],fun x=>spec_cbSides k x.1 x.2.1 x.2.2.1⟩
noncomputable def q32C(k:Nat):Cfg:=⟨Tryz.prog,tyOf tys,85,gOf [(45,[],q21V),(107,[],q28V k),(95,[],q31V k)],false,[],[]⟩
def q32i1:List PE := [e4,⟨3,64,.box ty_9 false,false⟩,e28,⟨8,96,.eat ty_0,false⟩,⟨9,112,.eat ty_0,false⟩,⟨10,128,.eat ty_12,false⟩,e49,e50]
def q32o1:List PE := [⟨10,48,.eat ty_12,false⟩]
noncomputable def q32f1(k:Nat)(n:Nat)(x5:PTe q32i1):=spec_cbSides_L250 k n x5.1 x5.2.1 x5.2.2.1 x5.2.2.2.1 x5.2.2.2.2.1 x5.2.2.2.2.2.1 x5.2.2.2.2.2.2.1 x5.2.2.2.2.2.2.2.1
def q32p:List PE := [e9,e2,⟨2,32,.val ty_11 true,false⟩]
noncomputable def q32F(k:Nat):Fn (List ((Int×Int)×Int×Int)):=⟨q32C k,rr q32p [(ty_14,false)] Tryz.f78,fun p=>bif Nat.beq p 250 then some (.loop q32i1 q32o1 0 176 (q32f1 k k))else none,0,[]⟩
theorem q32K(k:Nat):Contract Tryz.prog 78 (q32V k):=ctr (q32C k) (rs := [(ty_14,false)]) (ps:=q32p) (q32F k) Tryz.f78 48 ⟨tyOf_ok tys_ok,gOf_ok ⟨q21K,q28K k,q31K k,trivial⟩⟩ (annl [250] ⟨lok q32i1 q32o1 0 176 (q32f1 k) k,trivial⟩)

noncomputable def q33V:Variant:=⟨[.val ty_0 false],[(ty_1,true)],fun x=>spec_dyInt x.1⟩
noncomputable def q33C:Cfg:=⟨Tryz.prog,tyOf tys,5,gOf [],false,[],[]⟩
def q33p:List PE := [e10]
noncomputable def q33F:F4:=⟨q33C,rr q33p [(ty_1,true)] Tryz.f154,fun p=>none,0,[]⟩
theorem q33K:Contract Tryz.prog 154 (q33V):=ctr q33C (rs := [(ty_1,true)]) (ps:=q33p) q33F Tryz.f154 16 ⟨tyOf_ok tys_ok,gOf_ok trivial⟩ (annl [] trivial)

noncomputable def q34V:Variant:=⟨[.val ty_1 true],[(ty_12,true)],fun x=>spec_vaPure x.1⟩
noncomputable def q34C:Cfg:=⟨Tryz.prog,tyOf tys,6,gOf [],false,[],[]⟩
def q34p:List PE := [e46]
noncomputable def q34F:F5:=⟨q34C,rr q34p [(ty_12,true)] Tryz.f153,fun p=>none,0,[]⟩
theorem q34K:Contract Tryz.prog 153 (q34V):=ctr q34C (rs := [(ty_12,true)]) (ps:=q34p) q34F Tryz.f153 16 ⟨tyOf_ok tys_ok,gOf_ok trivial⟩ (annl [] trivial)

noncomputable def q35V:Variant:=⟨[.val ty_0 false],[(ty_0,false)],fun x=>spec_l1Abs x.1⟩
noncomputable def q35C:Cfg:=⟨Tryz.prog,tyOf tys,7,gOf [(124,[],q18V)],false,[],[]⟩
def q35p:List PE := [e10]
noncomputable def q35F:F1:=⟨q35C,rr q35p [(ty_0,false)] Tryz.f184,fun p=>none,0,[]⟩
theorem q35K:Contract Tryz.prog 184 (q35V):=ctr q35C (rs := [(ty_0,false)]) (ps:=q35p) q35F Tryz.f184 16 ⟨tyOf_ok tys_ok,gOf_ok ⟨q18K,trivial⟩⟩ (annl [] trivial)

noncomputable def q36V(k:Nat):Variant:=⟨[.val ty_1 true,.val ty_1 true],[(ty_1,true),(.bool,false)],fun x=>spec_dyMul k x.1 x.2.1⟩
noncomputable def q36C(k:Nat):Cfg:=⟨Tryz.prog,tyOf tys,67,gOf [(184,[],q35V),(121,[],q30V k)],false,[],[]⟩
def q36i1:List PE := [e51,e52,e48,e17]
def q36o1:List PE := [e51,e52,e48,e17]
noncomputable def q36f1(k:Nat)(n:Nat)(x1:PTe q36i1):=spec_dyMul_L60 k n x1.1 x1.2.1 x1.2.2.1 x1.2.2.2.1
def q36i2:List PE := [e51,e52,e48,e17]
def q36o2:List PE := [e51,e52,e48,e17]
noncomputable def q36f2(k:Nat)(n:Nat)(x4:PTe q36i2):=spec_dyMul_L124 k n x4.1 x4.2.1 x4.2.2.1 x4.2.2.2.1
def q36p:List PE := [e46,e53]
noncomputable def q36F(k:Nat):F3:=⟨q36C k,rr q36p [(ty_1,true),(.bool,false)] Tryz.f171,fun p=>bif Nat.beq p 60 then some (.loop q36i1 q36o1 0 96 (q36f1 k k))else bif Nat.beq p 124 then some (.loop q36i2 q36o2 2 96 (q36f2 k k))else none,0,[]⟩
theorem q36K(k:Nat):Contract Tryz.prog 171 (q36V k):=ctr (q36C k) (rs := [(ty_1,true),(.bool,false)]) (ps:=q36p) (q36F k) Tryz.f171 32 ⟨tyOf_ok tys_ok,gOf_ok ⟨q35K,q30K k,trivial⟩⟩ (annl [60,124] ⟨lok q36i1 q36o1 0 96 (q36f1 k) k,lok q36i2 q36o2 2 96 (q36f2 k) k,trivial⟩)

noncomputable def q37V(k:Nat):Variant:=⟨[.val ty_1 true,.val ty_0 false],[(ty_1,true),(.bool,false)],fun x=>spec_ivRaise k x.1 x.2.1⟩
noncomputable def q37C(k:Nat):Cfg:=⟨Tryz.prog,tyOf tys,25,gOf [(154,[],q33V),(171,[],q36V k)],false,[],[]⟩
def q37i1:List PE := [e6,⟨2,48,.box ty_1 false,false⟩,e48,⟨6,80,.box ty_1 false,false⟩]
def q37o1:List PE := [⟨4,32,.box ty_1 false,false⟩,⟨6,48,.box ty_1 false,false⟩]
noncomputable def q37f1(k:Nat)(n:Nat)(x3:PTe q37i1):=spec_ivRaise_L28 k n x3.1 x3.2.1 x3.2.2.1 x3.2.2.2.1
def q37p:List PE := [e46,e2]
noncomputable def q37F(k:Nat):F3:=⟨q37C k,rr q37p [(ty_1,true),(.bool,false)] Tryz.f168,fun p=>bif Nat.beq p 28 then some (.loop q37i1 q37o1 0 96 (q37f1 k k))else none,0,[]⟩
theorem q37K(k:Nat):Contract Tryz.prog 168 (q37V k):=ctr (q37C k) (rs := [(ty_1,true),(.bool,false)]) (ps:=q37p) (q37F k) Tryz.f168 32 ⟨tyOf_ok tys_ok,gOf_ok ⟨q33K,q36K k,trivial⟩⟩ (annl [28] ⟨lok q37i1 q37o1 0 96 (q37f1 k) k,trivial⟩)

noncomputable def q38V:Variant:=⟨[.val ty_12 true],[(.bool,false)],fun x=>spec_ivZero x.1⟩
noncomputable def q38C:Cfg:=⟨Tryz.prog,tyOf tys,13,gOf [],false,[],[]⟩
def q38p:List PE := [e54]
noncomputable def q38F:F2:=⟨q38C,rr q38p [(.bool,false)] Tryz.f158,fun p=>none,0,[]⟩
theorem q38K:Contract Tryz.prog 158 (q38V):=ctr q38C (rs := [(.bool,false)]) (ps:=q38p) q38F Tryz.f158 16 ⟨tyOf_ok tys_ok,gOf_ok trivial⟩ (annl [] trivial)

noncomputable def q39V:Variant:=⟨[.val ty_0 false,.val ty_0 false],[(ty_0,false)],fun x=>spec_dyDown x.1 x.2.1⟩
noncomputable def q39C:Cfg:=⟨Tryz.prog,tyOf tys,16,gOf [],false,[],[]⟩
def q39p:List PE := [e10,e2]
noncomputable def q39F:F1:=⟨q39C,rr q39p [(ty_0,false)] Tryz.f147,fun p=>none,0,[]⟩
theorem q39K:Contract Tryz.prog 147 (q39V):=ctr q39C (rs := [(ty_0,false)]) (ps:=q39p) q39F Tryz.f147 32 ⟨tyOf_ok tys_ok,gOf_ok trivial⟩ (annl [] trivial)

noncomputable def q40V:Variant:=⟨[.val ty_1 true],[(ty_0,false)],fun x=>spec_dyFloor x.1⟩
noncomputable def q40C:Cfg:=⟨Tryz.prog,tyOf tys,9,gOf [(45,[],q21V),(147,[],q39V)],false,[],[]⟩
def q40p:List PE := [e46]
noncomputable def q40F:F1:=⟨q40C,rr q40p [(ty_0,false)] Tryz.f118,fun p=>none,0,[]⟩
theorem q40K:Contract Tryz.prog 118 (q40V):=ctr q40C (rs := [(ty_0,false)]) (ps:=q40p) q40F Tryz.f118 16 ⟨tyOf_ok tys_ok,gOf_ok ⟨q21K,q39K,trivial⟩⟩ (annl [] trivial)

noncomputable def q41V(k:Nat):Variant:=⟨[.val ty_1 true,.val ty_0 false],[(ty_0,false),(.bool,false)],fun x=>spec_dyAt k x.1 x.2.1⟩
noncomputable def q41C(k:Nat):Cfg:=⟨Tryz.prog,tyOf tys,30,gOf [(45,[],q21V),(60,[],q12V)],false,[],[]⟩
def q41i1:List PE := [e6,⟨2,48,.box ty_1 false,false⟩,e14]
def q41o1:List PE := [e51]
noncomputable def q41f1(k:Nat)(n:Nat)(x4:PTe q41i1):=spec_dyAt_L58 k n x4.1 x4.2.1 x4.2.2.1
def q41p:List PE := [e46,e2]
noncomputable def q41F(k:Nat):F6:=⟨q41C k,rr q41p [(ty_0,false),(.bool,false)] Tryz.f120,fun p=>bif Nat.beq p 58 then some (.loop q41i1 q41o1 0 80 (q41f1 k k))else none,0,[]⟩
theorem q41K(k:Nat):Contract Tryz.prog 120 (q41V k):=ctr (q41C k) (rs := [(ty_0,false),(.bool,false)]) (ps:=q41p) (q41F k) Tryz.f120 32 ⟨tyOf_ok tys_ok,gOf_ok ⟨q21K,q12K,trivial⟩⟩ (annl [58] ⟨lok q41i1 q41o1 0 80 (q41f1 k) k,trivial⟩)

noncomputable def q42V(k:Nat):Variant:=⟨[.val ty_1 true,.val ty_1 true],[(ty_0,false)],fun x=>spec_dyCmp k x.1 x.2.1⟩
noncomputable def q42C(k:Nat):Cfg:=⟨Tryz.prog,tyOf tys,56,gOf [(118,[],q40V),(119,[],q14V),(45,[],q21V),(120,[],q41V k)],false,[],[]⟩
def q42p:List PE := [e46,e53]
noncomputable def q42F(k:Nat):F1:=⟨q42C k,rr q42p [(ty_0,false)] Tryz.f94,fun p=>none,0,[]⟩
theorem q42K(k:Nat):Contract Tryz.prog 94 (q42V k):=ctr (q42C k) (rs := [(ty_0,false)]) (ps:=q42p) (q42F k) Tryz.f94 32 ⟨tyOf_ok tys_ok,gOf_ok ⟨q40K,q14K,q21K,q41K k,trivial⟩⟩ (annl [] trivial)

noncomputable def q43V(k:Nat):Variant:=⟨[.val ty_13 false],[(ty_12,true)],fun x=>spec_ivEnds k x.1⟩
noncomputable def q43C(k:Nat):Cfg:=⟨Tryz.prog,tyOf tys,35,gOf [(94,[],q42V k)],false,[],[]⟩
def q43i1:List PE := [e55,e56,⟨13,48,.val ty_13 false,false⟩,⟨14,64,.val ty_0 false,false⟩,⟨15,80,.val ty_0 false,false⟩]
def q43o1:List PE := [e55,e56]
noncomputable def q43f1(k:Nat)(n:Nat)(x5:PTe q43i1):=spec_ivEnds_L58 k n x5.1 x5.2.1 x5.2.2.1 x5.2.2.2.1 x5.2.2.2.2.1
def q43p:List PE := [⟨0,0,.val ty_13 false,false⟩]
noncomputable def q43F(k:Nat):F5:=⟨q43C k,rr q43p [(ty_12,true)] Tryz.f170,fun p=>bif Nat.beq p 7474 then some (.cut [e55,e56,⟨5,48,.box ty_1 false,false⟩,⟨13,64,.val ty_13 false,false⟩,⟨14,80,.val ty_0 false,false⟩,⟨15,96,.val ty_0 false,false⟩] 112)else bif Nat.beq p 58 then some (.loop q43i1 q43o1 0 96 (q43f1 k k))else none,0,[]⟩
theorem q43K(k:Nat):Contract Tryz.prog 170 (q43V k):=ctr (q43C k) (rs := [(ty_12,true)]) (ps:=q43p) (q43F k) Tryz.f170 16 ⟨tyOf_ok tys_ok,gOf_ok ⟨q42K k,trivial⟩⟩ (annl [58] ⟨lok q43i1 q43o1 0 96 (q43f1 k) k,trivial⟩)

noncomputable def q44V(k:Nat):Variant:=⟨[.val ty_1 true,.val ty_0 false],[(ty_1,true)],fun x=>spec_dyRound k x.1 x.2.1⟩
noncomputable def q44C(k:Nat):Cfg:=⟨Tryz.prog,tyOf tys,26,gOf [(45,[],q21V),(147,[],q39V),(121,[],q30V k)],false,[],[]⟩
def q44p:List PE := [e46,e2]
noncomputable def q44F(k:Nat):F4:=⟨q44C k,rr q44p [(ty_1,true)] Tryz.f182,fun p=>none,0,[]⟩
theorem q44K(k:Nat):Contract Tryz.prog 182 (q44V k):=ctr (q44C k) (rs := [(ty_1,true)]) (ps:=q44p) (q44F k) Tryz.f182 32 ⟨tyOf_ok tys_ok,gOf_ok ⟨q21K,q39K,q30K k,trivial⟩⟩ (annl [] trivial)

noncomputable def q45V:Variant:=⟨[.val ty_1 true],[(ty_1,true)],fun x=>spec_dyMinus x.1⟩
noncomputable def q45C:Cfg:=⟨Tryz.prog,tyOf tys,9,gOf [],false,[],[]⟩
def q45p:List PE := [e46]
noncomputable def q45F:F4:=⟨q45C,rr q45p [(ty_1,true)] Tryz.f188,fun p=>none,0,[]⟩
theorem q45K:Contract Tryz.prog 188 (q45V):=ctr q45C (rs := [(ty_1,true)]) (ps:=q45p) q45F Tryz.f188 16 ⟨tyOf_ok tys_ok,gOf_ok trivial⟩ (annl [] trivial)

noncomputable def q46V(k:Nat):Variant:=⟨[.val ty_1 true,.val ty_0 false],[(ty_1,true)],fun x=>spec_ivUp k x.1 x.2.1⟩
noncomputable def q46C(k:Nat):Cfg:=⟨Tryz.prog,tyOf tys,10,gOf [(188,[],q45V),(182,[],q44V k)],false,[],[]⟩
def q46p:List PE := [e46,e2]
noncomputable def q46F(k:Nat):F4:=⟨q46C k,rr q46p [(ty_1,true)] Tryz.f183,fun p=>none,0,[]⟩
theorem q46K(k:Nat):Contract Tryz.prog 183 (q46V k):=ctr (q46C k) (rs := [(ty_1,true)]) (ps:=q46p) (q46F k) Tryz.f183 32 ⟨tyOf_ok tys_ok,gOf_ok ⟨q45K,q44K k,trivial⟩⟩ (annl [] trivial)

noncomputable def q47V(k:Nat):Variant:=⟨[.val ty_12 true,.val ty_0 false],[(ty_12,true)],fun x=>spec_ivRound k x.1 x.2.1⟩
noncomputable def q47C(k:Nat):Cfg:=⟨Tryz.prog,tyOf tys,14,gOf [(182,[],q44V k),(183,[],q46V k)],false,[],[]⟩
def q47p:List PE := [e54,e2]
noncomputable def q47F(k:Nat):F5:=⟨q47C k,rr q47p [(ty_12,true)] Tryz.f169,fun p=>none,0,[]⟩
theorem q47K(k:Nat):Contract Tryz.prog 169 (q47V k):=ctr (q47C k) (rs := [(ty_12,true)]) (ps:=q47p) (q47F k) Tryz.f169 32 ⟨tyOf_ok tys_ok,gOf_ok ⟨q44K k,q46K k,trivial⟩⟩ (annl [] trivial)

noncomputable def q48V(k:Nat):Variant:=⟨[.val ty_12 true,.val ty_0 false],[(ty_12,true),(.bool,false)],fun x=>spec_ivPower k x.1 x.2.1⟩
noncomputable def q48C(k:Nat):Cfg:=⟨Tryz.prog,tyOf tys,53,gOf [(168,[],q37V k),(158,[],q38V),(154,[],q33V),(170,[],q43V k),(169,[],q47V k)],false,[],[]⟩
def q48p:List PE := [e54,e2]
noncomputable def q48F(k:Nat):F7:=⟨q48C k,rr q48p [(ty_12,true),(.bool,false)] Tryz.f155,fun p=>bif Nat.beq p 126 then some (.cut [e57,⟨10,48,.eat ty_1,false⟩] 64)else none,0,[]⟩
theorem q48K(k:Nat):Contract Tryz.prog 155 (q48V k):=ctr (q48C k) (rs := [(ty_12,true),(.bool,false)]) (ps:=q48p) (q48F k) Tryz.f155 32 ⟨tyOf_ok tys_ok,gOf_ok ⟨q37K k,q38K,q33K,q43K k,q47K k,trivial⟩⟩ (annl [] trivial)

noncomputable def q49V(k:Nat):Variant:=⟨[.val ty_12 true,.val ty_12 true],[(ty_12,true),(.bool,false)],fun x=>spec_ivMul k x.1 x.2.1⟩
noncomputable def q49C(k:Nat):Cfg:=⟨Tryz.prog,tyOf tys,51,gOf [(171,[],q36V k),(170,[],q43V k),(169,[],q47V k)],false,[],[]⟩
def q49i1:List PE := [e56,e58,e59,⟨8,80,.box ty_1 false,false⟩,⟨17,96,.eat ty_1,false⟩,⟨18,112,.val ty_0 false,false⟩,⟨19,128,.val ty_0 false,false⟩,⟨27,144,.eat ty_1,false⟩,e60,e61]
def q49o1:List PE := [e56,e58,e59,⟨17,80,.eat ty_1,false⟩,e40,e62]
noncomputable def q49f1(k:Nat)(n:Nat)(x2:PTe q49i1):=spec_ivMul_L14950 k n x2.1 x2.2.1 x2.2.2.1 x2.2.2.2.1 x2.2.2.2.2.1 x2.2.2.2.2.2.1 x2.2.2.2.2.2.2.1 x2.2.2.2.2.2.2.2.1 x2.2.2.2.2.2.2.2.2.1 x2.2.2.2.2.2.2.2.2.2.1
def q49i2:List PE := [e56,e58,e59,⟨17,80,.eat ty_1,false⟩,e40,e62]
def q49o2:List PE := [e57,⟨6,48,.eat ty_1,false⟩]
noncomputable def q49f2(k:Nat)(n:Nat)(x5:PTe q49i2):=spec_ivMul_L58 k n x5.1 x5.2.1 x5.2.2.1 x5.2.2.2.1 x5.2.2.2.2.1 x5.2.2.2.2.2.1
def q49p:List PE := [e54,e63]
noncomputable def q49F(k:Nat):F7:=⟨q49C k,rr q49p [(ty_12,true),(.bool,false)] Tryz.f156,fun p=>bif Nat.beq p 14950 then some (.loop q49i1 q49o1 2 192 (q49f1 k k))else bif Nat.beq p 58 then some (.loop q49i2 q49o2 0 128 (q49f2 k k))else none,0,[]⟩
theorem q49K(k:Nat):Contract Tryz.prog 156 (q49V k):=ctr (q49C k) (rs := [(ty_12,true),(.bool,false)]) (ps:=q49p) (q49F k) Tryz.f156 32 ⟨tyOf_ok tys_ok,gOf_ok ⟨q36K k,q43K k,q47K k,trivial⟩⟩ (annl [58,14950] ⟨lok q49i2 q49o2 0 128 (q49f2 k) k,lok q49i1 q49o1 2 192 (q49f1 k) k,trivial⟩)

noncomputable def q50V(k:Nat):Variant:=⟨[.val ty_1 true,.val ty_1 true],[(ty_1,true),(.bool,false)],fun x=>spec_dyAdd k x.1 x.2.1⟩
noncomputable def q50C(k:Nat):Cfg:=⟨Tryz.prog,tyOf tys,42,gOf [(124,[],q18V),(120,[],q41V k),(121,[],q30V k)],false,[],[]⟩
def q50p:List PE := [e46,e53]
noncomputable def q50F(k:Nat):F3:=⟨q50C k,rr q50p [(ty_1,true),(.bool,false)] Tryz.f172,fun p=>none,0,[]⟩
theorem q50K(k:Nat):Contract Tryz.prog 172 (q50V k):=ctr (q50C k) (rs := [(ty_1,true),(.bool,false)]) (ps:=q50p) (q50F k) Tryz.f172 32 ⟨tyOf_ok tys_ok,gOf_ok ⟨q18K,q41K k,q30K k,trivial⟩⟩ (annl [] trivial)

noncomputable def q51V:Variant:=⟨[.val ty_1 true,.val .bool false,.val ty_1 true,.val .bool false],[(ty_12,true),(.bool,false)],fun x=>spec_ivBoth x.1 x.2.1 x.2.2.1 x.2.2.2.1⟩
noncomputable def q51C:Cfg:=⟨Tryz.prog,tyOf tys,20,gOf [],false,[],[]⟩
def q51p:List PE := [e46,e16,e64,⟨3,48,.val .bool false,false⟩]
noncomputable def q51F:F7:=⟨q51C,rr q51p [(ty_12,true),(.bool,false)] Tryz.f173,fun p=>none,0,[]⟩
theorem q51K:Contract Tryz.prog 173 (q51V):=ctr q51C (rs := [(ty_12,true),(.bool,false)]) (ps:=q51p) q51F Tryz.f173 64 ⟨tyOf_ok tys_ok,gOf_ok trivial⟩ (annl [] trivial)

noncomputable def q52V(k:Nat):Variant:=⟨[.val ty_12 true,.val ty_12 true],[(ty_12,true),(.bool,false)],fun x=>spec_ivAdd k x.1 x.2.1⟩
noncomputable def q52C(k:Nat):Cfg:=⟨Tryz.prog,tyOf tys,33,gOf [(172,[],q50V k),(173,[],q51V)],false,[],[]⟩
def q52p:List PE := [e54,e63]
noncomputable def q52F(k:Nat):F7:=⟨q52C k,rr q52p [(ty_12,true),(.bool,false)] Tryz.f157,fun p=>none,0,[]⟩
theorem q52K(k:Nat):Contract Tryz.prog 157 (q52V k):=ctr (q52C k) (rs := [(ty_12,true),(.bool,false)]) (ps:=q52p) (q52F k) Tryz.f157 32 ⟨tyOf_ok tys_ok,gOf_ok ⟨q50K k,q51K,trivial⟩⟩ (annl [] trivial)

noncomputable def q53V(k:Nat):Variant:=⟨[.val ty_4 false,.val ty_14 false],[(ty_12,true),(.bool,false)],fun x=>spec_vaOver k x.1 x.2.1⟩
noncomputable def q53C(k:Nat):Cfg:=⟨Tryz.prog,tyOf tys,71,gOf [(154,[],q33V),(153,[],q34V),(125,[],q17V),(155,[],q48V k),(156,[],q49V k),(157,[],q52V k)],false,[],[]⟩
def q53i1:List PE := [e65,e58,e66,⟨8,80,.box ty_3 false,false⟩,⟨9,96,.box ty_12 false,false⟩,⟨20,112,.val ty_4 false,false⟩,⟨21,128,.val ty_0 false,false⟩,⟨22,144,.val ty_0 false,false⟩,⟨30,160,.val ty_14 false,false⟩,⟨31,176,.val ty_0 false,false⟩,⟨32,192,.val ty_0 false,false⟩]
def q53o1:List PE := [e65,e58,e66,⟨9,80,.box ty_12 false,false⟩,⟨20,96,.val ty_4 false,false⟩,⟨21,112,.val ty_0 false,false⟩,⟨22,128,.val ty_0 false,false⟩]
noncomputable def q53f1(k:Nat)(n:Nat)(x8:PTe q53i1):=spec_vaOver_L59802 k n x8.1 x8.2.1 x8.2.2.1 x8.2.2.2.1 x8.2.2.2.2.1 x8.2.2.2.2.2.1 x8.2.2.2.2.2.2.1 x8.2.2.2.2.2.2.2.1 x8.2.2.2.2.2.2.2.2.1 x8.2.2.2.2.2.2.2.2.2.1 x8.2.2.2.2.2.2.2.2.2.2.1
def q53i2:List PE := [e65,e58,e66,⟨20,80,.val ty_4 false,false⟩,⟨21,96,.val ty_0 false,false⟩,⟨22,112,.val ty_0 false,false⟩]
def q53o2:List PE := [e57,⟨6,48,.box ty_12 false,false⟩]
noncomputable def q53f2(k:Nat)(n:Nat)(x12:PTe q53i2):=spec_vaOver_L58 k n x12.1 x12.2.1 x12.2.2.1 x12.2.2.2.1 x12.2.2.2.2.1 x12.2.2.2.2.2.1
def q53p:List PE := [e1,e67]
noncomputable def q53F(k:Nat):F7:=⟨q53C k,rr q53p [(ty_12,true),(.bool,false)] Tryz.f132,fun p=>bif Nat.beq p 59802 then some (.loop q53i1 q53o1 2 208 (q53f1 k k))else bif Nat.beq p 58 then some (.loop q53i2 q53o2 0 128 (q53f2 k k))else none,0,[]⟩
theorem q53K(k:Nat):Contract Tryz.prog 132 (q53V k):=ctr (q53C k) (rs := [(ty_12,true),(.bool,false)]) (ps:=q53p) (q53F k) Tryz.f132 32 ⟨tyOf_ok tys_ok,gOf_ok ⟨q33K,q34K,q17K,q48K k,q49K k,q52K k,trivial⟩⟩ (annl [58,59802] ⟨lok q53i2 q53o2 0 128 (q53f2 k) k,lok q53i1 q53o1 2 208 (q53f1 k) k,trivial⟩)

noncomputable def q54V:Variant:=⟨[.val ty_12 true],[(ty_0,false)],fun x=>spec_ivSign x.1⟩
noncomputable def q54C:Cfg:=⟨Tryz.prog,tyOf tys,9,gOf [(158,[],q38V),(119,[],q14V)],false,[],[]⟩
def q54p:List PE := [e54]
noncomputable def q54F:F1:=⟨q54C,rr q54p [(ty_0,false)] Tryz.f133,fun p=>none,0,[]⟩
theorem q54K:Contract Tryz.prog 133 (q54V):=ctr q54C (rs := [(ty_0,false)]) (ps:=q54p) q54F Tryz.f133 16 ⟨tyOf_ok tys_ok,gOf_ok ⟨q38K,q14K,trivial⟩⟩ (annl [] trivial)

noncomputable def q55V(k:Nat):Variant:=⟨[.val ty_5 false,.val ty_14 false,.val ty_0 false],[(.bool,false)],fun x=>spec_cbHolds k x.1 x.2.1 x.2.2.1⟩
noncomputable def q55C(k:Nat):Cfg:=⟨Tryz.prog,tyOf tys,29,gOf [(132,[],q53V k),(133,[],q54V)],false,[],[]⟩
def q55p:List PE := [e7,e67,e21]
noncomputable def q55F(k:Nat):F2:=⟨q55C k,rr q55p [(.bool,false)] Tryz.f106,fun p=>none,0,[]⟩
theorem q55K(k:Nat):Contract Tryz.prog 106 (q55V k):=ctr (q55C k) (rs := [(.bool,false)]) (ps:=q55p) (q55F k) Tryz.f106 48 ⟨tyOf_ok tys_ok,gOf_ok ⟨q53K k,q54K,trivial⟩⟩ (annl [] trivial)

noncomputable def q56V(k:Nat):Variant:=⟨[.val ty_5 false,.val ty_14 false],[(ty_0,false),(.bool,false)],fun x=>spec_cbLabel k x.1 x.2.1⟩
noncomputable def q56C(k:Nat):Cfg:=⟨Tryz.prog,tyOf tys,16,gOf [(106,[],q55V k)],false,[],[]⟩
def q56i1:List PE := [e3,⟨1,48,.val ty_14 false,false⟩,e14]
def q56o1:List PE := []
noncomputable def q56f1(k:Nat)(n:Nat)(x2:PTe q56i1):=spec_cbLabel_L26 k n x2.1 x2.2.1 x2.2.2.1
def q56p:List PE := [e7,e67]
noncomputable def q56F(k:Nat):F6:=⟨q56C k,rr q56p [(ty_0,false),(.bool,false)] Tryz.f77,fun p=>bif Nat.beq p 26 then some (.loop q56i1 q56o1 0 80 (q56f1 k k))else none,0,[]⟩
theorem q56K(k:Nat):Contract Tryz.prog 77 (q56V k):=ctr (q56C k) (rs := [(ty_0,false),(.bool,false)]) (ps:=q56p) (q56F k) Tryz.f77 32 ⟨tyOf_ok tys_ok,gOf_ok ⟨q55K k,trivial⟩⟩ (annl [26] ⟨lok q56i1 q56o1 0 80 (q56f1 k) k,trivial⟩)

noncomputable def q57V(k:Nat):Variant:=⟨[.val ty_5 false,.val ty_9 true,.val ty_0 false],[(ty_7,false)],fun x=>spec_cbLabels k x.1 x.2.1 x.2.2.1⟩
noncomputable def q57C(k:Nat):Cfg:=⟨Tryz.prog,tyOf tys,37,gOf [(46,[],q27V k),(78,[],q32V k),(77,[],q56V k)],false,[],[]⟩
def q57i1:List PE := [⟨0,48,.val ty_5 false,false⟩,⟨2,64,.val ty_0 false,false⟩,⟨4,80,.box ty_9 false,false⟩,e68,⟨13,112,.eat ty_11,false⟩,e69,⟨15,144,.val ty_0 false,false⟩]
def q57o1:List PE := [e42]
noncomputable def q57f1(k:Nat)(n:Nat)(x4:PTe q57i1):=spec_cbLabels_L58 k n x4.1 x4.2.1 x4.2.2.1 x4.2.2.2.1 x4.2.2.2.2.1 x4.2.2.2.2.2.1 x4.2.2.2.2.2.2.1
def q57p:List PE := [e7,e32,e21]
noncomputable def q57F(k:Nat):Fn (List Int):=⟨q57C k,rr q57p [(ty_7,false)] Tryz.f43,fun p=>bif Nat.beq p 58 then some (.loop q57i1 q57o1 0 160 (q57f1 k k))else none,0,[]⟩
theorem q57K(k:Nat):Contract Tryz.prog 43 (q57V k):=ctr (q57C k) (rs := [(ty_7,false)]) (ps:=q57p) (q57F k) Tryz.f43 48 ⟨tyOf_ok tys_ok,gOf_ok ⟨q27K k,q32K k,q56K k,trivial⟩⟩ (annl [58] ⟨lok q57i1 q57o1 0 160 (q57f1 k) k,trivial⟩)

noncomputable def q58V:Variant:=⟨[.val ty_0 false],[(ty_0,false)],fun x=>spec_cbCount x.1⟩
noncomputable def q58C:Cfg:=⟨Tryz.prog,tyOf tys,7,gOf [(45,[],q21V)],false,[],[]⟩
def q58p:List PE := [e10]
noncomputable def q58F:F1:=⟨q58C,rr q58p [(ty_0,false)] Tryz.f44,fun p=>none,0,[]⟩
theorem q58K:Contract Tryz.prog 44 (q58V):=ctr q58C (rs := [(ty_0,false)]) (ps:=q58p) q58F Tryz.f44 16 ⟨tyOf_ok tys_ok,gOf_ok ⟨q21K,trivial⟩⟩ (annl [] trivial)

noncomputable def q59V(k:Nat):Variant:=⟨[.val ty_5 false,.val ty_9 true,.val ty_0 false],[(ty_7,false),(.bool,false)],fun x=>spec_SurfaceLabels k x.1 x.2.1 x.2.2.1⟩
noncomputable def q59C(k:Nat):Cfg:=⟨Tryz.prog,tyOf tys,24,gOf [(42,[],q26V k),(43,[],q57V k),(44,[],q58V)],false,[],[]⟩
def q59p:List PE := [e7,e32,e21]
noncomputable def q59F(k:Nat):Fn ((List Int)×Bool):=⟨q59C k,rr q59p [(ty_7,false),(.bool,false)] Tryz.f22,fun p=>none,0,[]⟩
theorem q59K(k:Nat):Contract Tryz.prog 22 (q59V k):=ctr (q59C k) (rs := [(ty_7,false),(.bool,false)]) (ps:=q59p) (q59F k) Tryz.f22 48 ⟨tyOf_ok tys_ok,gOf_ok ⟨q26K k,q57K k,q58K,trivial⟩⟩ (annl [] trivial)

noncomputable def q60V(k:Nat):Variant:=⟨[.val ty_11 true,.val ty_7 false,.val ty_0 false],[(ty_7,false)],fun x=>spec_cbOffset k x.1 x.2.1 x.2.2.1⟩
noncomputable def q60C(k:Nat):Cfg:=⟨Tryz.prog,tyOf tys,53,gOf [(107,[],q28V k),(60,[],q12V)],false,[],[]⟩
def q60i1:List PE := [e42,⟨8,64,.eat ty_0,false⟩,⟨9,80,.eat ty_0,false⟩,⟨18,96,.val ty_7 false,false⟩,e62,⟨20,128,.val ty_0 false,false⟩]
def q60o1:List PE := [⟨9,48,.eat ty_0,false⟩]
noncomputable def q60f1(k:Nat)(n:Nat)(x3:PTe q60i1):=spec_cbOffset_L122 k n x3.1 x3.2.1 x3.2.2.1 x3.2.2.2.1 x3.2.2.2.2.1 x3.2.2.2.2.2.1
def q60p:List PE := [e43,e70,e21]
noncomputable def q60F(k:Nat):Fn (List Int):=⟨q60C k,rr q60p [(ty_7,false)] Tryz.f79,fun p=>bif Nat.beq p 122 then some (.loop q60i1 q60o1 0 144 (q60f1 k k))else none,0,[]⟩
theorem q60K(k:Nat):Contract Tryz.prog 79 (q60V k):=ctr (q60C k) (rs := [(ty_7,false)]) (ps:=q60p) (q60F k) Tryz.f79 48 ⟨tyOf_ok tys_ok,gOf_ok ⟨q28K k,q12K,trivial⟩⟩ (annl [122] ⟨lok q60i1 q60o1 0 144 (q60f1 k) k,trivial⟩)

noncomputable def q61V:Variant:=⟨[.val ty_7 false,.val ty_7 false,.val ty_7 false],[(ty_0,false)],fun x=>spec_cbTurn x.1 x.2.1 x.2.2.1⟩
noncomputable def q61C:Cfg:=⟨Tryz.prog,tyOf tys,66,gOf [],false,[],[]⟩
def q61p:List PE := [e8,e70,⟨2,32,.val ty_7 false,false⟩]
noncomputable def q61F:F1:=⟨q61C,rr q61p [(ty_0,false)] Tryz.f80,fun p=>none,0,[]⟩
theorem q61K:Contract Tryz.prog 80 (q61V):=ctr q61C (rs := [(ty_0,false)]) (ps:=q61p) q61F Tryz.f80 48 ⟨tyOf_ok tys_ok,gOf_ok trivial⟩ (annl [] trivial)

noncomputable def q62V(k:Nat):Variant:=⟨[.val ty_7 false,.val ty_7 false,.val ty_0 false,.val ty_15 false],[(ty_7,false)],fun x=>spec_cbAround k x.1 x.2.1 x.2.2.1 x.2.2.2.1⟩
noncomputable def q62C(k:Nat):Cfg:=⟨Tryz.prog,tyOf tys,98,gOf [(79,[],q60V k),(80,[],q61V)],false,[],[]⟩
def q62i1:List PE := [e71,e72,e73,⟨3,112,.val ty_15 false,false⟩,⟨9,128,.eat ty_0,false⟩,⟨21,144,.val ty_7 false,false⟩,⟨22,160,.val ty_0 false,false⟩,⟨23,176,.val ty_0 false,false⟩]
def q62o1:List PE := [e71,e72,e73,⟨3,112,.val ty_15 false,false⟩,⟨9,128,.eat ty_0,false⟩]
noncomputable def q62f1(k:Nat)(n:Nat)(x1:PTe q62i1):=spec_cbAround_L58 k n x1.1 x1.2.1 x1.2.2.1 x1.2.2.2.1 x1.2.2.2.2.1 x1.2.2.2.2.2.1 x1.2.2.2.2.2.2.1 x1.2.2.2.2.2.2.2.1
def q62i2:List PE := [e71,e72,e73,⟨9,112,.eat ty_0,false⟩,⟨12,128,.eat ty_7,false⟩,⟨13,144,.eat ty_0,false⟩,⟨41,160,.val ty_15 false,false⟩,⟨42,176,.val ty_0 false,false⟩,⟨43,192,.val ty_0 false,false⟩]
def q62o2:List PE := [e74,e75,e76]
noncomputable def q62f2(k:Nat)(n:Nat)(x5:PTe q62i2):=spec_cbAround_L506 k n x5.1 x5.2.1 x5.2.2.1 x5.2.2.2.1 x5.2.2.2.2.1 x5.2.2.2.2.2.1 x5.2.2.2.2.2.2.1 x5.2.2.2.2.2.2.2.1 x5.2.2.2.2.2.2.2.2.1
def q62i3:List PE := [e74,e75,e76,e77,e39,e78,e79,⟨79,176,.val ty_0 false,false⟩,⟨80,192,.val ty_0 false,false⟩]
def q62o3:List PE := [e74,e75,e76,e77,e39,e78,e79]
noncomputable def q62f3(k:Nat)(n:Nat)(x9:PTe q62i3):=spec_cbAround_L1047142 k n x9.1 x9.2.1 x9.2.2.1 x9.2.2.2.1 x9.2.2.2.2.1 x9.2.2.2.2.2.1 x9.2.2.2.2.2.2.1 x9.2.2.2.2.2.2.2.1 x9.2.2.2.2.2.2.2.2.1
def q62i4:List PE := [e74,e75,e76,e77,e39,e78,e79]
def q62o4:List PE := [⟨17,64,.eat ty_0,false⟩]
noncomputable def q62f4(k:Nat)(n:Nat)(x12:PTe q62i4):=spec_cbAround_L4090 k n x12.1 x12.2.1 x12.2.2.1 x12.2.2.2.1 x12.2.2.2.2.1 x12.2.2.2.2.2.1 x12.2.2.2.2.2.2.1
def q62p:List PE := [e8,e70,e21,⟨3,48,.val ty_15 false,false⟩]
noncomputable def q62F(k:Nat):Fn (List Int):=⟨q62C k,rr q62p [(ty_7,false)] Tryz.f47,fun p=>bif Nat.beq p 58 then some (.loop q62i1 q62o1 0 192 (q62f1 k k))else bif Nat.beq p 506 then some (.loop q62i2 q62o2 3 208 (q62f2 k k))else bif Nat.beq p 1047142 then some (.loop q62i3 q62o3 7 208 (q62f3 k k))else bif Nat.beq p 4090 then some (.loop q62i4 q62o4 5 176 (q62f4 k k))else none,0,[]⟩
theorem q62K(k:Nat):Contract Tryz.prog 47 (q62V k):=ctr (q62C k) (rs := [(ty_7,false)]) (ps:=q62p) (q62F k) Tryz.f47 64 ⟨tyOf_ok tys_ok,gOf_ok ⟨q60K k,q61K,trivial⟩⟩ (annl [58,506,4090,1047142] ⟨lok q62i1 q62o1 0 192 (q62f1 k) k,lok q62i2 q62o2 3 208 (q62f2 k) k,lok q62i4 q62o4 5 176 (q62f4 k) k,lok q62i3 q62o3 7 208 (q62f3 k) k,trivial⟩)

noncomputable def q63V(k:Nat):Variant:=⟨[.val ty_7 false,.val ty_0 false],[(.bool,false)],fun x=>spec_l1Has k x.1 x.2.1⟩
noncomputable def q63C(k:Nat):Cfg:=⟨Tryz.prog,tyOf tys,17,gOf [],false,[],[]⟩
def q63i1:List PE := [e6,⟨7,48,.val ty_7 false,false⟩,e31,e26]
def q63o1:List PE := []
noncomputable def q63f1(k:Nat)(n:Nat)(x1:PTe q63i1):=spec_l1Has_L26 k n x1.1 x1.2.1 x1.2.2.1 x1.2.2.2.1
def q63p:List PE := [e8,e2]
noncomputable def q63F(k:Nat):F2:=⟨q63C k,rr q63p [(.bool,false)] Tryz.f48,fun p=>bif Nat.beq p 26 then some (.loop q63i1 q63o1 0 96 (q63f1 k k))else none,0,[]⟩
theorem q63K(k:Nat):Contract Tryz.prog 48 (q63V k):=ctr (q63C k) (rs := [(.bool,false)]) (ps:=q63p) (q63F k) Tryz.f48 32 ⟨tyOf_ok tys_ok,gOf_ok trivial⟩ (annl [26] ⟨lok q63i1 q63o1 0 96 (q63f1 k) k,trivial⟩)

noncomputable def q64V:Variant:=⟨[.val ty_0 false,.val ty_0 false,.val ty_0 false],[(ty_0,false)],fun x=>spec_cbTriple x.1 x.2.1 x.2.2.1⟩
noncomputable def q64C:Cfg:=⟨Tryz.prog,tyOf tys,38,gOf [],false,[],[]⟩
def q64p:List PE := [e10,e2,e21]
noncomputable def q64F:F1:=⟨q64C,rr q64p [(ty_0,false)] Tryz.f49,fun p=>none,0,[]⟩
theorem q64K:Contract Tryz.prog 49 (q64V):=ctr q64C (rs := [(ty_0,false)]) (ps:=q64p) q64F Tryz.f49 48 ⟨tyOf_ok tys_ok,gOf_ok trivial⟩ (annl [] trivial)

noncomputable def q65V(k:Nat):Variant:=⟨[.val ty_7 false,.val ty_0 false],[(ty_0,false),(.bool,false)],fun x=>spec_cbDegree k x.1 x.2.1⟩
noncomputable def q65C(k:Nat):Cfg:=⟨Tryz.prog,tyOf tys,93,gOf [(45,[],q21V),(46,[],q27V k),(47,[],q62V k),(48,[],q63V k),(49,[],q64V)],false,[],[]⟩
def q65i1:List PE := [e19,e24,e80,e36,e37,e81,e82,e83,⟨59,160,.val ty_7 false,false⟩,⟨60,176,.val ty_0 false,false⟩,⟨61,192,.val ty_0 false,false⟩]
def q65o1:List PE := [e19,e24,e80,e36,e37,e81,e82,e83]
noncomputable def q65f1(k:Nat)(n:Nat)(x5:PTe q65i1):=spec_cbDegree_L524887194 k n x5.1 x5.2.1 x5.2.2.1 x5.2.2.2.1 x5.2.2.2.2.1 x5.2.2.2.2.2.1 x5.2.2.2.2.2.2.1 x5.2.2.2.2.2.2.2.1 x5.2.2.2.2.2.2.2.2.1 x5.2.2.2.2.2.2.2.2.2.1 x5.2.2.2.2.2.2.2.2.2.2.1
def q65i2:List PE := [e19,e24,e80,e36,e37,e81,e82,e83,⟨15,160,.val ty_0 false,false⟩]
def q65o2:List PE := [e19,e24,e80,e36,e37,e81,e82]
noncomputable def q65f2(k:Nat)(n:Nat)(x9:PTe q65i2):=spec_cbDegree_L524887198 k n x9.1 x9.2.1 x9.2.2.1 x9.2.2.2.1 x9.2.2.2.2.1 x9.2.2.2.2.2.1 x9.2.2.2.2.2.2.1 x9.2.2.2.2.2.2.2.1 x9.2.2.2.2.2.2.2.2.1
def q65i3:List PE := [e19,e24,e80,e36,e37,e81,e82]
def q65o3:List PE := [e19,e24,e80,e36,e37,e81]
noncomputable def q65f3(k:Nat)(n:Nat)(x30:PTe q65i3):=spec_cbDegree_L1025170 k n x30.1 x30.2.1 x30.2.2.1 x30.2.2.2.1 x30.2.2.2.2.1 x30.2.2.2.2.2.1 x30.2.2.2.2.2.2.1
def q65i4:List PE := [e19,e24,e80,e36,e37,e81]
def q65o4:List PE := [e19,e24,e80,e36,e37]
noncomputable def q65f4(k:Nat)(n:Nat)(x33:PTe q65i4):=spec_cbDegree_L16018 k n x33.1 x33.2.1 x33.2.2.1 x33.2.2.2.1 x33.2.2.2.2.1 x33.2.2.2.2.2.1
def q65i5:List PE := [e19,e24,e80,e36,e37]
def q65o5:List PE := [⟨8,32,.val ty_0 false,false⟩]
noncomputable def q65f5(k:Nat)(n:Nat)(x36:PTe q65i5):=spec_cbDegree_L250 k n x36.1 x36.2.1 x36.2.2.1 x36.2.2.2.1 x36.2.2.2.2.1
def q65p:List PE := [e8,e2]
noncomputable def q65F(k:Nat):F6:=⟨q65C k,rr q65p [(ty_0,false),(.bool,false)] Tryz.f23,fun p=>bif Nat.beq p 524887194 then some (.loop q65i1 q65o1 6 208 (q65f1 k k))else bif Nat.beq p 524887198 then some (.loop q65i2 q65o2 8 176 (q65f2 k k))else bif Nat.beq p 1025170 then some (.loop q65i3 q65o3 4 144 (q65f3 k k))else bif Nat.beq p 16018 then some (.loop q65i4 q65o4 2 128 (q65f4 k k))else bif Nat.beq p 250 then some (.loop q65i5 q65o5 0 112 (q65f5 k k))else none,0,[]⟩
theorem q65K(k:Nat):Contract Tryz.prog 23 (q65V k):=ctr (q65C k) (rs := [(ty_0,false),(.bool,false)]) (ps:=q65p) (q65F k) Tryz.f23 32 ⟨tyOf_ok tys_ok,gOf_ok ⟨q21K,q27K k,q62K k,q63K k,q64K,trivial⟩⟩ (annl [250,16018,1025170,524887194,524887198] ⟨lok q65i5 q65o5 0 112 (q65f5 k) k,lok q65i4 q65o4 2 128 (q65f4 k) k,lok q65i3 q65o3 4 144 (q65f3 k) k,lok q65i1 q65o1 6 208 (q65f1 k) k,lok q65i2 q65o2 8 176 (q65f2 k) k,trivial⟩)

noncomputable def q66V(k:Nat):Variant:=⟨[.val ty_5 false,.val ty_9 true,.val ty_0 false],[(ty_0,false),(.bool,false)],fun x=>spec_CubeDegree k x.1 x.2.1 x.2.2.1⟩
noncomputable def q66C(k:Nat):Cfg:=⟨Tryz.prog,tyOf tys,24,gOf [(22,[],q59V k),(23,[],q65V k)],false,[],[]⟩
def q66p:List PE := [e7,e32,e21]
noncomputable def q66F(k:Nat):F6:=⟨q66C k,rr q66p [(ty_0,false),(.bool,false)] Tryz.f7,fun p=>none,0,[]⟩
theorem q66K(k:Nat):Contract Tryz.prog 7 (q66V k):=ctr (q66C k) (rs := [(ty_0,false),(.bool,false)]) (ps:=q66p) (q66F k) Tryz.f7 48 ⟨tyOf_ok tys_ok,gOf_ok ⟨q59K k,q65K k,trivial⟩⟩ (annl [] trivial)

noncomputable def q67V:Variant:=⟨[.val ty_0 false,.val ty_0 false,.val ty_0 false],[(.bool,false)],fun x=>impl_inside x.1 x.2.1 x.2.2.1⟩
noncomputable def q67C:Cfg:=⟨Tryz.prog,tyOf tys,15,gOf [],false,[],[]⟩
def q67p:List PE := [e10,e2,e21]
noncomputable def q67F:F2:=⟨q67C,rr q67p [(.bool,false)] Tryz.f29,fun p=>none,0,[]⟩
theorem q67K:Contract Tryz.prog 29 (q67V):=ctr q67C (rs := [(.bool,false)]) (ps:=q67p) q67F Tryz.f29 48 ⟨tyOf_ok tys_ok,gOf_ok trivial⟩ (annl [] trivial)

noncomputable def q68V:Variant:=⟨[.val ty_3 true],[(ty_0,false)],fun x=>impl_Term_degree x.1⟩
noncomputable def q68C:Cfg:=⟨Tryz.prog,tyOf tys,11,gOf [],false,[],[]⟩
def q68p:List PE := [e11]
noncomputable def q68F:F1:=⟨q68C,rr q68p [(ty_0,false)] Tryz.f134,fun p=>none,0,[]⟩
theorem q68K:Contract Tryz.prog 134 (q68V):=ctr q68C (rs := [(ty_0,false)]) (ps:=q68p) q68F Tryz.f134 16 ⟨tyOf_ok tys_ok,gOf_ok trivial⟩ (annl [] trivial)

noncomputable def q69V:Variant:=⟨[.val ty_3 true],[(.bool,false)],fun x=>impl_hasDegree x.1⟩
noncomputable def q69C:Cfg:=⟨Tryz.prog,tyOf tys,21,gOf [(29,[],q67V),(134,[],q68V)],false,[],[]⟩
def q69p:List PE := [e11]
noncomputable def q69F:F2:=⟨q69C,rr q69p [(.bool,false)] Tryz.f108,fun p=>none,0,[]⟩
theorem q69K:Contract Tryz.prog 108 (q69V):=ctr q69C (rs := [(.bool,false)]) (ps:=q69p) q69F Tryz.f108 16 ⟨tyOf_ok tys_ok,gOf_ok ⟨q67K,q68K,trivial⟩⟩ (annl [] trivial)

noncomputable def q70V:Variant:=⟨[.val ty_0 false],[(.bool,false)],fun x=>cmp_isNaN_int x.1⟩
noncomputable def q70C:Cfg:=⟨Tryz.prog,tyOf tys,6,gOf [],false,[],[]⟩
def q70p:List PE := [e10]
noncomputable def q70F:F2:=⟨q70C,rr q70p [(.bool,false)] Tryz.f159,fun p=>none,0,[]⟩
theorem q70K:Contract Tryz.prog 159 (q70V):=ctr q70C (rs := [(.bool,false)]) (ps:=q70p) q70F Tryz.f159 16 ⟨tyOf_ok tys_ok,gOf_ok trivial⟩ (annl [] trivial)

noncomputable def q71V:Variant:=⟨[.val ty_0 false,.val ty_0 false],[(ty_0,false)],fun x=>cmp_Compare_int x.1 x.2.1⟩
noncomputable def q71C:Cfg:=⟨Tryz.prog,tyOf tys,20,gOf [(159,[],q70V)],false,[],[]⟩
def q71p:List PE := [e10,e2]
noncomputable def q71F:F1:=⟨q71C,rr q71p [(ty_0,false)] Tryz.f136,fun p=>none,0,[]⟩
theorem q71K:Contract Tryz.prog 136 (q71V):=ctr q71C (rs := [(ty_0,false)]) (ps:=q71p) q71F Tryz.f136 32 ⟨tyOf_ok tys_ok,gOf_ok ⟨q70K,trivial⟩⟩ (annl [] trivial)

noncomputable def q72V(k:Nat):Variant:=⟨[.val ty_7 false],[(ty_0,false)],fun x=>cmp_Or_int k x.1⟩
noncomputable def q72C(k:Nat):Cfg:=⟨Tryz.prog,tyOf tys,18,gOf [],false,[],[]⟩
def q72i1:List PE := [⟨3,16,.val ty_0 false,false⟩,⟨6,32,.val ty_7 false,false⟩,e30,e31]
def q72o1:List PE := [⟨3,16,.val ty_0 false,false⟩]
noncomputable def q72f1(k:Nat)(n:Nat)(x1:PTe q72i1):=cmp_Or_int_L58 k n x1.1 x1.2.1 x1.2.2.1 x1.2.2.2.1
def q72p:List PE := [e8]
noncomputable def q72F(k:Nat):F1:=⟨q72C k,rr q72p [(ty_0,false)] Tryz.f135,fun p=>bif Nat.beq p 58 then some (.loop q72i1 q72o1 0 80 (q72f1 k k))else none,0,[]⟩
theorem q72K(k:Nat):Contract Tryz.prog 135 (q72V k):=ctr (q72C k) (rs := [(ty_0,false)]) (ps:=q72p) (q72F k) Tryz.f135 16 ⟨tyOf_ok tys_ok,gOf_ok trivial⟩ (annl [58] ⟨lok q72i1 q72o1 0 80 (q72f1 k) k,trivial⟩)

noncomputable def q73V(k:Nat):Variant:=⟨[.val ty_3 true,.val ty_3 true],[(ty_0,false)],fun x=>impl_compareTerms k x.1 x.2.1⟩
noncomputable def q73C(k:Nat):Cfg:=⟨Tryz.prog,tyOf tys,22,gOf [(136,[],q71V),(135,[],q72V k)],false,[],[]⟩
def q73p:List PE := [e11,e22]
noncomputable def q73F(k:Nat):F1:=⟨q73C k,rr q73p [(ty_0,false)] Tryz.f109,fun p=>none,0,[]⟩
theorem q73K(k:Nat):Contract Tryz.prog 109 (q73V k):=ctr (q73C k) (rs := [(ty_0,false)]) (ps:=q73p) (q73F k) Tryz.f109 32 ⟨tyOf_ok tys_ok,gOf_ok ⟨q71K,q72K k,trivial⟩⟩ (annl [] trivial)

noncomputable def q74V(k:Nat):Variant:=⟨[.val ty_4 false],[(.bool,false)],fun x=>impl_isPoly k x.1⟩
noncomputable def q74C(k:Nat):Cfg:=⟨Tryz.prog,tyOf tys,44,gOf [(29,[],q67V),(108,[],q69V),(109,[],q73V k)],false,[],[]⟩
def q74i1:List PE := [e23,⟨5,32,.val ty_4 false,false⟩,e24,e15]
def q74o1:List PE := [e23]
noncomputable def q74f1(k:Nat)(n:Nat)(x4:PTe q74i1):=impl_isPoly_L26 k n x4.1 x4.2.1 x4.2.2.1 x4.2.2.2.1
def q74p:List PE := [e1]
noncomputable def q74F(k:Nat):F2:=⟨q74C k,rr q74p [(.bool,false)] Tryz.f81,fun p=>bif Nat.beq p 26 then some (.loop q74i1 q74o1 0 80 (q74f1 k k))else none,0,[]⟩
theorem q74K(k:Nat):Contract Tryz.prog 81 (q74V k):=ctr (q74C k) (rs := [(.bool,false)]) (ps:=q74p) (q74F k) Tryz.f81 16 ⟨tyOf_ok tys_ok,gOf_ok ⟨q67K,q69K,q73K k,trivial⟩⟩ (annl [26] ⟨lok q74i1 q74o1 0 80 (q74f1 k) k,trivial⟩)

noncomputable def q75V:Variant:=⟨[.val ty_3 true],[(ty_2,true)],fun x=>impl_Term_exponents x.1⟩
noncomputable def q75C:Cfg:=⟨Tryz.prog,tyOf tys,10,gOf [],false,[],[]⟩
def q75p:List PE := [e11]
noncomputable def q75F:Fn (Int×Int×Int):=⟨q75C,rr q75p [(ty_2,true)] Tryz.f110,fun p=>none,0,[]⟩
theorem q75K:Contract Tryz.prog 110 (q75V):=ctr q75C (rs := [(ty_2,true)]) (ps:=q75p) q75F Tryz.f110 16 ⟨tyOf_ok tys_ok,gOf_ok trivial⟩ (annl [] trivial)

noncomputable def q76V(k:Nat):Variant:=⟨[.val ty_4 false,.val ty_0 false],[(.bool,false)],fun x=>impl_needsAtMost k x.1 x.2.1⟩
noncomputable def q76C(k:Nat):Cfg:=⟨Tryz.prog,tyOf tys,30,gOf [(110,[],q75V)],false,[],[]⟩
def q76i1:List PE := [e6,e84,e85,e86,⟨16,96,.val ty_2 true,false⟩,e38]
def q76o1:List PE := [e6,e84,e85,e86]
noncomputable def q76f1(k:Nat)(n:Nat)(x2:PTe q76i1):=impl_needsAtMost_L6758 k n x2.1 x2.2.1 x2.2.2.1 x2.2.2.2.1 x2.2.2.2.2.1 x2.2.2.2.2.2.1
def q76i2:List PE := [e6,e84,e85,e86]
def q76o2:List PE := []
noncomputable def q76f2(k:Nat)(n:Nat)(x5:PTe q76i2):=impl_needsAtMost_L26 k n x5.1 x5.2.1 x5.2.2.1 x5.2.2.2.1
def q76p:List PE := [e1,e2]
noncomputable def q76F(k:Nat):F2:=⟨q76C k,rr q76p [(.bool,false)] Tryz.f82,fun p=>bif Nat.beq p 6758 then some (.loop q76i1 q76o1 2 128 (q76f1 k k))else bif Nat.beq p 26 then some (.loop q76i2 q76o2 0 96 (q76f2 k k))else none,0,[]⟩
theorem q76K(k:Nat):Contract Tryz.prog 82 (q76V k):=ctr (q76C k) (rs := [(.bool,false)]) (ps:=q76p) (q76F k) Tryz.f82 32 ⟨tyOf_ok tys_ok,gOf_ok ⟨q75K,trivial⟩⟩ (annl [26,6758] ⟨lok q76i2 q76o2 0 96 (q76f2 k) k,lok q76i1 q76o1 2 128 (q76f1 k) k,trivial⟩)

noncomputable def q77V(k:Nat):Variant:=⟨[.val ty_5 false],[(.bool,false)],fun x=>impl_isSystem k x.1⟩
noncomputable def q77C(k:Nat):Cfg:=⟨Tryz.prog,tyOf tys,25,gOf [(81,[],q74V k),(82,[],q76V k),(29,[],q67V)],false,[],[]⟩
def q77i1:List PE := [e27,⟨5,32,.val ty_5 false,false⟩,e24,e15]
def q77o1:List PE := [e27]
noncomputable def q77f1(k:Nat)(n:Nat)(x3:PTe q77i1):=impl_isSystem_L26 k n x3.1 x3.2.1 x3.2.2.1 x3.2.2.2.1
def q77p:List PE := [e7]
noncomputable def q77F(k:Nat):F2:=⟨q77C k,rr q77p [(.bool,false)] Tryz.f51,fun p=>bif Nat.beq p 26 then some (.loop q77i1 q77o1 0 80 (q77f1 k k))else none,0,[]⟩
theorem q77K(k:Nat):Contract Tryz.prog 51 (q77V k):=ctr (q77C k) (rs := [(.bool,false)]) (ps:=q77p) (q77F k) Tryz.f51 16 ⟨tyOf_ok tys_ok,gOf_ok ⟨q74K k,q76K k,q67K,trivial⟩⟩ (annl [26] ⟨lok q77i1 q77o1 0 80 (q77f1 k) k,trivial⟩)

noncomputable def q78V(k:Nat):Variant:=⟨[.ptr ty_9 false],[(.bool,false)],fun x=>impl_isBox k x.1⟩
noncomputable def q78C(k:Nat):Cfg:=⟨Tryz.prog,tyOf tys,94,gOf [(29,[],q67V)],false,[],[]⟩
def q78i1:List PE := [⟨0,16,.ptr ty_9 false,false⟩,⟨3,32,.val ty_0 false,false⟩,⟨4,48,.val .bool false,false⟩,⟨48,64,.val ty_7 false,false⟩,⟨49,80,.val ty_0 false,false⟩,⟨50,96,.val ty_0 false,false⟩]
def q78o1:List PE := [⟨4,16,.val .bool false,false⟩]
noncomputable def q78f1(k:Nat)(n:Nat)(x5:PTe q78i1):=impl_isBox_L122 k n x5.1 x5.2.1 x5.2.2.1 x5.2.2.2.1 x5.2.2.2.2.1 x5.2.2.2.2.2.1
def q78p:List PE := [e87]
noncomputable def q78F(k:Nat):F2:=⟨q78C k,rr q78p [(.bool,false)] Tryz.f83,fun p=>bif Nat.beq p 122 then some (.loop q78i1 q78o1 0 112 (q78f1 k k))else none,0,[]⟩
theorem q78K(k:Nat):Contract Tryz.prog 83 (q78V k):=ctr (q78C k) (rs := [(.bool,false)]) (ps:=q78p) (q78F k) Tryz.f83 16 ⟨tyOf_ok tys_ok,gOf_ok ⟨q67K,trivial⟩⟩ (annl [122] ⟨lok q78i1 q78o1 0 112 (q78f1 k) k,trivial⟩)

noncomputable def q79V(k:Nat):Variant:=⟨[.ptr ty_9 false],[(.bool,false)],fun x=>impl_isCubeBox k x.1⟩
noncomputable def q79C(k:Nat):Cfg:=⟨Tryz.prog,tyOf tys,20,gOf [(83,[],q78V k)],false,[],[]⟩
def q79p:List PE := [e87]
noncomputable def q79F(k:Nat):F2:=⟨q79C k,rr q79p [(.bool,false)] Tryz.f52,fun p=>none,0,[]⟩
theorem q79K(k:Nat):Contract Tryz.prog 52 (q79V k):=ctr (q79C k) (rs := [(.bool,false)]) (ps:=q79p) (q79F k) Tryz.f52 16 ⟨tyOf_ok tys_ok,gOf_ok ⟨q78K k,trivial⟩⟩ (annl [] trivial)

noncomputable def q80V(k:Nat):Variant:=⟨[.val ty_5 false,.ptr ty_9 false],[(.bool,false)],fun x=>impl_isCube k x.1 x.2.1⟩
noncomputable def q80C(k:Nat):Cfg:=⟨Tryz.prog,tyOf tys,16,gOf [(51,[],q77V k),(52,[],q79V k)],false,[],[]⟩
def q80p:List PE := [e7,e88]
noncomputable def q80F(k:Nat):F2:=⟨q80C k,rr q80p [(.bool,false)] Tryz.f28,fun p=>none,0,[]⟩
theorem q80K(k:Nat):Contract Tryz.prog 28 (q80V k):=ctr (q80C k) (rs := [(.bool,false)]) (ps:=q80p) (q80F k) Tryz.f28 32 ⟨tyOf_ok tys_ok,gOf_ok ⟨q77K k,q79K k,trivial⟩⟩ (annl [] trivial)

noncomputable def q81V(k:Nat):Variant:=⟨[.val ty_0 false],[(ty_15,false)],fun x=>impl_surfaceCells k x.1⟩
noncomputable def q81C(k:Nat):Cfg:=⟨Tryz.prog,tyOf tys,41,gOf [],false,[],[]⟩
def q81i1:List PE := [e89,e90,e91,e92,e28,e37,⟨12,112,.eat .bool,false⟩,e93,⟨14,144,.val ty_0 false,false⟩,⟨19,160,.val ty_0 false,false⟩,⟨20,176,.val ty_0 false,false⟩,⟨24,192,.val ty_0 false,false⟩,⟨25,208,.val ty_0 false,false⟩]
def q81o1:List PE := [e89,e90,e91,e92,e26,⟨12,96,.eat .bool,false⟩,⟨13,112,.val ty_0 false,false⟩,e69,e45,⟨20,160,.val ty_0 false,false⟩]
noncomputable def q81f1(k:Nat)(n:Nat)(x1:PTe q81i1):=impl_surfaceCells_L979789414 k n x1.1 x1.2.1 x1.2.2.1 x1.2.2.2.1 x1.2.2.2.2.1 x1.2.2.2.2.2.1 x1.2.2.2.2.2.2.1 x1.2.2.2.2.2.2.2.1 x1.2.2.2.2.2.2.2.2.1 x1.2.2.2.2.2.2.2.2.2.1 x1.2.2.2.2.2.2.2.2.2.2.1 x1.2.2.2.2.2.2.2.2.2.2.2.1 x1.2.2.2.2.2.2.2.2.2.2.2.2.1
def q81i2:List PE := [e89,e90,e91,e92,e26,⟨12,96,.eat .bool,false⟩,⟨13,112,.val ty_0 false,false⟩,e69,e45,⟨20,160,.val ty_0 false,false⟩]
def q81o2:List PE := [e89,e90,e91,⟨9,64,.val ty_0 false,false⟩,⟨12,80,.eat .bool,false⟩,⟨13,96,.val ty_0 false,false⟩,⟨14,112,.val ty_0 false,false⟩]
noncomputable def q81f2(k:Nat)(n:Nat)(x4:PTe q81i2):=impl_surfaceCells_L3827302 k n x4.1 x4.2.1 x4.2.2.1 x4.2.2.2.1 x4.2.2.2.2.1 x4.2.2.2.2.2.1 x4.2.2.2.2.2.2.1 x4.2.2.2.2.2.2.2.1 x4.2.2.2.2.2.2.2.2.1 x4.2.2.2.2.2.2.2.2.2.1
def q81i3:List PE := [e89,e90,e91,⟨9,64,.val ty_0 false,false⟩,⟨12,80,.eat .bool,false⟩,⟨13,96,.val ty_0 false,false⟩,⟨14,112,.val ty_0 false,false⟩]
def q81o3:List PE := [e89,e90,⟨9,48,.val ty_0 false,false⟩]
noncomputable def q81f3(k:Nat)(n:Nat)(x7:PTe q81i3):=impl_surfaceCells_L14950 k n x7.1 x7.2.1 x7.2.2.1 x7.2.2.2.1 x7.2.2.2.2.1 x7.2.2.2.2.2.1 x7.2.2.2.2.2.2.1
def q81i4:List PE := [e89,e90,⟨9,48,.val ty_0 false,false⟩]
def q81o4:List PE := [e33]
noncomputable def q81f4(k:Nat)(n:Nat)(x10:PTe q81i4):=impl_surfaceCells_L58 k n x10.1 x10.2.1 x10.2.2.1
def q81p:List PE := [e10]
noncomputable def q81F(k:Nat):Fn (List (Int×Bool×Int×Int)):=⟨q81C k,rr q81p [(ty_15,false)] Tryz.f53,fun p=>bif Nat.beq p 979789414 then some (.loop q81i1 q81o1 6 224 (q81f1 k k))else bif Nat.beq p 3827302 then some (.loop q81i2 q81o2 4 176 (q81f2 k k))else bif Nat.beq p 14950 then some (.loop q81i3 q81o3 2 128 (q81f3 k k))else bif Nat.beq p 58 then some (.loop q81i4 q81o4 0 64 (q81f4 k k))else none,0,[]⟩
theorem q81K(k:Nat):Contract Tryz.prog 53 (q81V k):=ctr (q81C k) (rs := [(ty_15,false)]) (ps:=q81p) (q81F k) Tryz.f53 16 ⟨tyOf_ok tys_ok,gOf_ok trivial⟩ (annl [58,14950,3827302,979789414] ⟨lok q81i4 q81o4 0 64 (q81f4 k) k,lok q81i3 q81o3 2 128 (q81f3 k) k,lok q81i2 q81o2 4 176 (q81f2 k) k,lok q81i1 q81o1 6 224 (q81f1 k) k,trivial⟩)

noncomputable def q82V:Variant:=⟨[.val ty_11 true,.val ty_0 false],[(ty_2,true),(ty_1,true)],fun x=>impl_Cell_lowest x.1 x.2.1⟩
noncomputable def q82C:Cfg:=⟨Tryz.prog,tyOf tys,37,gOf [],false,[],[]⟩
def q82p:List PE := [e43,e2]
noncomputable def q82F:Fn ((Int×Int×Int)×Int×Int):=⟨q82C,rr q82p [(ty_2,true),(ty_1,true)] Tryz.f111,fun p=>bif Nat.beq p 62 then some (.cut [⟨2,32,.box ty_11 false,false⟩,⟨4,48,.box ty_2 false,false⟩,⟨5,64,.box ty_1 false,false⟩,⟨6,80,.box ty_1 false,false⟩,⟨7,96,.box ty_2 false,false⟩] 112)else bif Nat.beq p 14 then some (.cut [e6,e41,⟨4,64,.box ty_2 false,false⟩,⟨5,80,.box ty_1 false,false⟩,⟨6,96,.box ty_1 false,false⟩] 112)else none,0,[]⟩
theorem q82K:Contract Tryz.prog 111 (q82V):=ctr q82C (rs := [(ty_2,true),(ty_1,true)]) (ps:=q82p) q82F Tryz.f111 32 ⟨tyOf_ok tys_ok,gOf_ok trivial⟩ (annl [] trivial)

noncomputable def q83V:Variant:=⟨[.ptr ty_9 false,.val ty_0 false],[(ty_0,false)],fun x=>impl_Box_length x.1 x.2.1⟩
noncomputable def q83C:Cfg:=⟨Tryz.prog,tyOf tys,20,gOf [],false,[],[]⟩
def q83p:List PE := [e87,e2]
noncomputable def q83F:F1:=⟨q83C,rr q83p [(ty_0,false)] Tryz.f71,fun p=>none,0,[]⟩
theorem q83K:Contract Tryz.prog 71 (q83V):=ctr q83C (rs := [(ty_0,false)]) (ps:=q83p) q83F Tryz.f71 32 ⟨tyOf_ok tys_ok,gOf_ok trivial⟩ (annl [] trivial)

noncomputable def q84V:Variant:=⟨[.val ty_0 false],[(ty_16,false)],fun x=>impl_size x.1⟩
noncomputable def q84C:Cfg:=⟨Tryz.prog,tyOf tys,10,gOf [],false,[],[]⟩
def q84p:List PE := [e10]
noncomputable def q84F:F1:=⟨q84C,rr q84p [(ty_16,false)] Tryz.f137,fun p=>none,0,[]⟩
theorem q84K:Contract Tryz.prog 137 (q84V):=ctr q84C (rs := [(ty_16,false)]) (ps:=q84p) q84F Tryz.f137 16 ⟨tyOf_ok tys_ok,gOf_ok trivial⟩ (annl [] trivial)

noncomputable def q85V:Variant:=⟨[.val ty_0 false],[(ty_18,true)],fun x=>impl_wideOf x.1⟩
noncomputable def q85C:Cfg:=⟨Tryz.prog,tyOf tys,8,gOf [(137,[],q84V)],false,[],[]⟩
def q85p:List PE := [e10]
noncomputable def q85F:F8:=⟨q85C,rr q85p [(ty_18,true)] Tryz.f112,fun p=>none,0,[]⟩
theorem q85K:Contract Tryz.prog 112 (q85V):=ctr q85C (rs := [(ty_18,true)]) (ps:=q85p) q85F Tryz.f112 16 ⟨tyOf_ok tys_ok,gOf_ok ⟨q84K,trivial⟩⟩ (annl [] trivial)

noncomputable def q86V:Variant:=⟨[.val ty_18 true],[(.bool,false)],fun x=>impl_wide_isZero x.1⟩
noncomputable def q86C:Cfg:=⟨Tryz.prog,tyOf tys,11,gOf [],false,[],[]⟩
def q86p:List PE := [e94]
noncomputable def q86F:F2:=⟨q86C,rr q86p [(.bool,false)] Tryz.f138,fun p=>none,0,[]⟩
theorem q86K:Contract Tryz.prog 138 (q86V):=ctr q86C (rs := [(.bool,false)]) (ps:=q86p) q86F Tryz.f138 16 ⟨tyOf_ok tys_ok,gOf_ok trivial⟩ (annl [] trivial)

noncomputable def q87V:Variant:=⟨[.val ty_18 true,.val ty_0 false],[(ty_18,true)],fun x=>impl_wide_shift x.1 x.2.1⟩
noncomputable def q87C:Cfg:=⟨Tryz.prog,tyOf tys,63,gOf [],false,[],[]⟩
def q87p:List PE := [e94,e2]
noncomputable def q87F:F8:=⟨q87C,rr q87p [(ty_18,true)] Tryz.f139,fun p=>none,0,[]⟩
theorem q87K:Contract Tryz.prog 139 (q87V):=ctr q87C (rs := [(ty_18,true)]) (ps:=q87p) q87F Tryz.f139 32 ⟨tyOf_ok tys_ok,gOf_ok trivial⟩ (annl [] trivial)

noncomputable def q88V(k:Nat):Variant:=⟨[.val ty_18 true,.val ty_0 false],[(ty_1,true),(.bool,false)],fun x=>impl_wide_fit k x.1 x.2.1⟩
noncomputable def q88C(k:Nat):Cfg:=⟨Tryz.prog,tyOf tys,45,gOf [(138,[],q86V),(139,[],q87V)],false,[],[]⟩
def q88i1:List PE := [e6,⟨2,48,.box ty_18 false,false⟩,e48]
def q88o1:List PE := [e6,⟨2,48,.box ty_18 false,false⟩,e48]
noncomputable def q88f1(k:Nat)(n:Nat)(x3:PTe q88i1):=impl_wide_fit_L28 k n x3.1 x3.2.1 x3.2.2.1
def q88p:List PE := [e94,e2]
noncomputable def q88F(k:Nat):F3:=⟨q88C k,rr q88p [(ty_1,true),(.bool,false)] Tryz.f113,fun p=>bif Nat.beq p 28 then some (.loop q88i1 q88o1 0 80 (q88f1 k k))else none,0,[]⟩
theorem q88K(k:Nat):Contract Tryz.prog 113 (q88V k):=ctr (q88C k) (rs := [(ty_1,true),(.bool,false)]) (ps:=q88p) (q88F k) Tryz.f113 32 ⟨tyOf_ok tys_ok,gOf_ok ⟨q86K,q87K,trivial⟩⟩ (annl [28] ⟨lok q88i1 q88o1 0 80 (q88f1 k) k,trivial⟩)

noncomputable def q89V(k:Nat):Variant:=⟨[.ptr ty_9 false,.val ty_0 false,.val ty_11 true],[(ty_14,false)],fun x=>impl_cellSides k x.1 x.2.1 x.2.2.1⟩
noncomputable def q89C(k:Nat):Cfg:=⟨Tryz.prog,tyOf tys,86,gOf [(111,[],q82V),(71,[],q83V),(112,[],q85V),(113,[],q88V k)],false,[],[]⟩
def q89i1:List PE := [e95,e96,e97,e98,⟨24,112,.val ty_2 true,false⟩,⟨25,128,.val ty_0 false,false⟩]
def q89o1:List PE := [⟨9,48,.eat ty_12,false⟩]
noncomputable def q89f1(k:Nat)(n:Nat)(x26:PTe q89i1):=impl_cellSides_L122 k n x26.1 x26.2.1 x26.2.2.1 x26.2.2.2.1 x26.2.2.2.2.1 x26.2.2.2.2.2.1
def q89p:List PE := [e87,e2,⟨2,32,.val ty_11 true,false⟩]
noncomputable def q89F(k:Nat):Fn (List ((Int×Int)×Int×Int)):=⟨q89C k,rr q89p [(ty_14,false)] Tryz.f84,fun p=>bif Nat.beq p 62670 then some (.cut [e95,e96,e97,e98,e99,e93,e100,e50] 176)else bif Nat.beq p 62670 then some (.cut [e95,e96,e97,e98,e99,e93,e100,e50] 176)else bif Nat.beq p 62670 then some (.cut [e95,e96,e97,e98,e99,e93,e100,e50] 176)else bif Nat.beq p 122 then some (.loop q89i1 q89o1 0 144 (q89f1 k k))else none,0,[]⟩
theorem q89K(k:Nat):Contract Tryz.prog 84 (q89V k):=ctr (q89C k) (rs := [(ty_14,false)]) (ps:=q89p) (q89F k) Tryz.f84 48 ⟨tyOf_ok tys_ok,gOf_ok ⟨q82K,q83K,q85K,q88K k,trivial⟩⟩ (annl [122] ⟨lok q89i1 q89o1 0 144 (q89f1 k) k,trivial⟩)

noncomputable def q90V:Variant:=⟨[.val ty_0 false],[(ty_1,true)],fun x=>impl_integer x.1⟩
noncomputable def q90C:Cfg:=⟨Tryz.prog,tyOf tys,5,gOf [],false,[],[]⟩
def q90p:List PE := [e10]
noncomputable def q90F:F4:=⟨q90C,rr q90p [(ty_1,true)] Tryz.f141,fun p=>none,0,[]⟩
theorem q90K:Contract Tryz.prog 141 (q90V):=ctr q90C (rs := [(ty_1,true)]) (ps:=q90p) q90F Tryz.f141 16 ⟨tyOf_ok tys_ok,gOf_ok trivial⟩ (annl [] trivial)

noncomputable def q91V:Variant:=⟨[.val ty_1 true],[(ty_12,true)],fun x=>impl_single x.1⟩
noncomputable def q91C:Cfg:=⟨Tryz.prog,tyOf tys,6,gOf [],false,[],[]⟩
def q91p:List PE := [e46]
noncomputable def q91F:F5:=⟨q91C,rr q91p [(ty_12,true)] Tryz.f140,fun p=>none,0,[]⟩
theorem q91K:Contract Tryz.prog 140 (q91V):=ctr q91C (rs := [(ty_12,true)]) (ps:=q91p) q91F Tryz.f140 16 ⟨tyOf_ok tys_ok,gOf_ok trivial⟩ (annl [] trivial)

noncomputable def q92V:Variant:=⟨[.val ty_16 false,.val ty_16 false],[(ty_16,false),(ty_16,false)],fun x=>math_bits_Mul64 x.1 x.2.1⟩
noncomputable def q92C:Cfg:=⟨Tryz.prog,tyOf tys,51,gOf [],false,[],[]⟩
def q92p:List PE := [e101,⟨1,16,.val ty_16 false,false⟩]
noncomputable def q92F:F4:=⟨q92C,rr q92p [(ty_16,false),(ty_16,false)] Tryz.f189,fun p=>none,0,[]⟩
theorem q92K:Contract Tryz.prog 189 (q92V):=ctr q92C (rs := [(ty_16,false),(ty_16,false)]) (ps:=q92p) q92F Tryz.f189 32 ⟨tyOf_ok tys_ok,gOf_ok trivial⟩ (annl [] trivial)

noncomputable def q93V:Variant:=⟨[.val ty_0 false,.val ty_0 false],[(ty_18,true)],fun x=>impl_timesWide x.1 x.2.1⟩
noncomputable def q93C:Cfg:=⟨Tryz.prog,tyOf tys,23,gOf [(137,[],q84V),(189,[],q92V)],false,[],[]⟩
def q93p:List PE := [e10,e2]
noncomputable def q93F:F8:=⟨q93C,rr q93p [(ty_18,true)] Tryz.f185,fun p=>none,0,[]⟩
theorem q93K:Contract Tryz.prog 185 (q93V):=ctr q93C (rs := [(ty_18,true)]) (ps:=q93p) q93F Tryz.f185 32 ⟨tyOf_ok tys_ok,gOf_ok ⟨q84K,q92K,trivial⟩⟩ (annl [] trivial)

noncomputable def q94V(k:Nat):Variant:=⟨[.val ty_1 true,.val ty_1 true],[(ty_1,true),(.bool,false)],fun x=>impl_productOf k x.1 x.2.1⟩
noncomputable def q94C(k:Nat):Cfg:=⟨Tryz.prog,tyOf tys,19,gOf [(185,[],q93V),(113,[],q88V k)],false,[],[]⟩
def q94p:List PE := [e46,e53]
noncomputable def q94F(k:Nat):F3:=⟨q94C k,rr q94p [(ty_1,true),(.bool,false)] Tryz.f175,fun p=>none,0,[]⟩
theorem q94K(k:Nat):Contract Tryz.prog 175 (q94V k):=ctr (q94C k) (rs := [(ty_1,true),(.bool,false)]) (ps:=q94p) (q94F k) Tryz.f175 32 ⟨tyOf_ok tys_ok,gOf_ok ⟨q93K,q88K k,trivial⟩⟩ (annl [] trivial)

noncomputable def q95V:Variant:=⟨[.ptr .bool true,.val ty_1 true,.val .bool false],[(ty_1,true)],fun x=>impl_reckoner_keep x.1 x.2.1 x.2.2.1⟩
noncomputable def q95C:Cfg:=⟨Tryz.prog,tyOf tys,24,gOf [],false,[],[]⟩
def q95p:List PE := [e102,e53,⟨2,32,.val .bool false,false⟩]
noncomputable def q95F:F3:=⟨q95C,rr q95p [(ty_1,true)] Tryz.f174,fun p=>none,0,[0]⟩
theorem q95K:Contract Tryz.prog 174 (q95V):=ctr q95C (rs := [(ty_1,true)]) (ps:=q95p) q95F Tryz.f174 48 ⟨tyOf_ok tys_ok,gOf_ok trivial⟩ (annl [] trivial)

noncomputable def q96V(k:Nat):Variant:=⟨[.ptr .bool true,.val ty_1 true,.val ty_1 true],[(ty_1,true)],fun x=>impl_reckoner_product k x.1 x.2.1 x.2.2.1⟩
noncomputable def q96C(k:Nat):Cfg:=⟨Tryz.prog,tyOf tys,14,gOf [(175,[],q94V k),(174,[],q95V)],false,[],[]⟩
def q96p:List PE := [e102,e53,e64]
noncomputable def q96F(k:Nat):F3:=⟨q96C k,rr q96p [(ty_1,true)] Tryz.f160,fun p=>none,0,[0]⟩
theorem q96K(k:Nat):Contract Tryz.prog 160 (q96V k):=ctr (q96C k) (rs := [(ty_1,true)]) (ps:=q96p) (q96F k) Tryz.f160 48 ⟨tyOf_ok tys_ok,gOf_ok ⟨q94K k,q95K,trivial⟩⟩ (annl [] trivial)

noncomputable def q97V:Variant:=⟨[.val ty_16 false],[(.bool,false)],fun x=>cmp_isNaN_uint64 x.1⟩
noncomputable def q97C:Cfg:=⟨Tryz.prog,tyOf tys,6,gOf [],false,[],[]⟩
def q97p:List PE := [e101]
noncomputable def q97F:F2:=⟨q97C,rr q97p [(.bool,false)] Tryz.f194,fun p=>none,0,[]⟩
theorem q97K:Contract Tryz.prog 194 (q97V):=ctr q97C (rs := [(.bool,false)]) (ps:=q97p) q97F Tryz.f194 16 ⟨tyOf_ok tys_ok,gOf_ok trivial⟩ (annl [] trivial)

noncomputable def q98V:Variant:=⟨[.val ty_16 false,.val ty_16 false],[(ty_0,false)],fun x=>cmp_Compare_uint64 x.1 x.2.1⟩
noncomputable def q98C:Cfg:=⟨Tryz.prog,tyOf tys,20,gOf [(194,[],q97V)],false,[],[]⟩
def q98p:List PE := [e101,⟨1,16,.val ty_16 false,false⟩]
noncomputable def q98F:F1:=⟨q98C,rr q98p [(ty_0,false)] Tryz.f193,fun p=>none,0,[]⟩
theorem q98K:Contract Tryz.prog 193 (q98V):=ctr q98C (rs := [(ty_0,false)]) (ps:=q98p) q98F Tryz.f193 32 ⟨tyOf_ok tys_ok,gOf_ok ⟨q97K,trivial⟩⟩ (annl [] trivial)

noncomputable def q99V(k:Nat):Variant:=⟨[.val ty_18 true,.val ty_18 true],[(ty_0,false)],fun x=>impl_compareSizes k x.1 x.2.1⟩
noncomputable def q99C(k:Nat):Cfg:=⟨Tryz.prog,tyOf tys,17,gOf [(193,[],q98V),(135,[],q72V k)],false,[],[]⟩
def q99p:List PE := [e94,e103]
noncomputable def q99F(k:Nat):F1:=⟨q99C k,rr q99p [(ty_0,false)] Tryz.f190,fun p=>none,0,[]⟩
theorem q99K(k:Nat):Contract Tryz.prog 190 (q99V k):=ctr (q99C k) (rs := [(ty_0,false)]) (ps:=q99p) (q99F k) Tryz.f190 32 ⟨tyOf_ok tys_ok,gOf_ok ⟨q98K,q72K k,trivial⟩⟩ (annl [] trivial)

noncomputable def q100V(k:Nat):Variant:=⟨[.val ty_18 true,.val ty_18 true],[(ty_0,false)],fun x=>impl_compareWide k x.1 x.2.1⟩
noncomputable def q100C(k:Nat):Cfg:=⟨Tryz.prog,tyOf tys,29,gOf [(138,[],q86V),(190,[],q99V k)],false,[],[]⟩
def q100p:List PE := [e94,e103]
noncomputable def q100F(k:Nat):F1:=⟨q100C k,rr q100p [(ty_0,false)] Tryz.f186,fun p=>bif Nat.beq p 6 then some (.cut [⟨2,32,.box ty_18 false,false⟩,⟨3,48,.box ty_18 false,false⟩] 64)else none,0,[]⟩
theorem q100K(k:Nat):Contract Tryz.prog 186 (q100V k):=ctr (q100C k) (rs := [(ty_0,false)]) (ps:=q100p) (q100F k) Tryz.f186 32 ⟨tyOf_ok tys_ok,gOf_ok ⟨q86K,q99K k,trivial⟩⟩ (annl [] trivial)

noncomputable def q101V(k:Nat):Variant:=⟨[.val ty_1 true,.val ty_1 true],[(ty_0,false)],fun x=>impl_compareD k x.1 x.2.1⟩
noncomputable def q101C(k:Nat):Cfg:=⟨Tryz.prog,tyOf tys,28,gOf [(112,[],q85V),(139,[],q87V),(186,[],q100V k)],false,[],[]⟩
def q101p:List PE := [e46,e53]
noncomputable def q101F(k:Nat):F1:=⟨q101C k,rr q101p [(ty_0,false)] Tryz.f178,fun p=>none,0,[]⟩
theorem q101K(k:Nat):Contract Tryz.prog 178 (q101V k):=ctr (q101C k) (rs := [(ty_0,false)]) (ps:=q101p) (q101F k) Tryz.f178 32 ⟨tyOf_ok tys_ok,gOf_ok ⟨q85K,q87K,q100K k,trivial⟩⟩ (annl [] trivial)

noncomputable def q102V(k:Nat):Variant:=⟨[.val ty_1 true,.val ty_1 true],[(ty_1,true)],fun x=>impl_lesser k x.1 x.2.1⟩
noncomputable def q102C(k:Nat):Cfg:=⟨Tryz.prog,tyOf tys,11,gOf [(178,[],q101V k)],false,[],[]⟩
def q102p:List PE := [e46,e53]
noncomputable def q102F(k:Nat):F4:=⟨q102C k,rr q102p [(ty_1,true)] Tryz.f162,fun p=>none,0,[]⟩
theorem q102K(k:Nat):Contract Tryz.prog 162 (q102V k):=ctr (q102C k) (rs := [(ty_1,true)]) (ps:=q102p) (q102F k) Tryz.f162 32 ⟨tyOf_ok tys_ok,gOf_ok ⟨q101K k,trivial⟩⟩ (annl [] trivial)

noncomputable def q103V(k:Nat):Variant:=⟨[.val ty_1 true,.val ty_1 true],[(ty_1,true)],fun x=>impl_greater k x.1 x.2.1⟩
noncomputable def q103C(k:Nat):Cfg:=⟨Tryz.prog,tyOf tys,11,gOf [(178,[],q101V k)],false,[],[]⟩
def q103p:List PE := [e46,e53]
noncomputable def q103F(k:Nat):F4:=⟨q103C k,rr q103p [(ty_1,true)] Tryz.f163,fun p=>none,0,[]⟩
theorem q103K(k:Nat):Contract Tryz.prog 163 (q103V k):=ctr (q103C k) (rs := [(ty_1,true)]) (ps:=q103p) (q103F k) Tryz.f163 32 ⟨tyOf_ok tys_ok,gOf_ok ⟨q101K k,trivial⟩⟩ (annl [] trivial)

noncomputable def q104V:Variant:=⟨[.val ty_12 true],[(ty_0,false)],fun x=>impl_signOf x.1⟩
noncomputable def q104C:Cfg:=⟨Tryz.prog,tyOf tys,13,gOf [],false,[],[]⟩
def q104p:List PE := [e54]
noncomputable def q104F:F1:=⟨q104C,rr q104p [(ty_0,false)] Tryz.f115,fun p=>none,0,[]⟩
theorem q104K:Contract Tryz.prog 115 (q104V):=ctr q104C (rs := [(ty_0,false)]) (ps:=q104p) q104F Tryz.f115 16 ⟨tyOf_ok tys_ok,gOf_ok trivial⟩ (annl [] trivial)

noncomputable def q105V(k:Nat):Variant:=⟨[.val ty_1 true,.val ty_0 false],[(ty_1,true)],fun x=>impl_roundDown k x.1 x.2.1⟩
noncomputable def q105C(k:Nat):Cfg:=⟨Tryz.prog,tyOf tys,26,gOf [(112,[],q85V),(113,[],q88V k)],false,[],[]⟩
def q105p:List PE := [e46,e2]
noncomputable def q105F(k:Nat):F4:=⟨q105C k,rr q105p [(ty_1,true)] Tryz.f176,fun p=>none,0,[]⟩
theorem q105K(k:Nat):Contract Tryz.prog 176 (q105V k):=ctr (q105C k) (rs := [(ty_1,true)]) (ps:=q105p) (q105F k) Tryz.f176 32 ⟨tyOf_ok tys_ok,gOf_ok ⟨q85K,q88K k,trivial⟩⟩ (annl [] trivial)

noncomputable def q106V:Variant:=⟨[.val ty_1 true],[(ty_1,true)],fun x=>impl_minus x.1⟩
noncomputable def q106C:Cfg:=⟨Tryz.prog,tyOf tys,9,gOf [],false,[],[]⟩
def q106p:List PE := [e46]
noncomputable def q106F:F4:=⟨q106C,rr q106p [(ty_1,true)] Tryz.f177,fun p=>none,0,[]⟩
theorem q106K:Contract Tryz.prog 177 (q106V):=ctr q106C (rs := [(ty_1,true)]) (ps:=q106p) q106F Tryz.f177 16 ⟨tyOf_ok tys_ok,gOf_ok trivial⟩ (annl [] trivial)

noncomputable def q107V(k:Nat):Variant:=⟨[.val ty_12 true,.val ty_0 false],[(ty_12,true)],fun x=>impl_roundOut k x.1 x.2.1⟩
noncomputable def q107C(k:Nat):Cfg:=⟨Tryz.prog,tyOf tys,16,gOf [(176,[],q105V k),(177,[],q106V)],false,[],[]⟩
def q107p:List PE := [e54,e2]
noncomputable def q107F(k:Nat):F5:=⟨q107C k,rr q107p [(ty_12,true)] Tryz.f161,fun p=>none,0,[]⟩
theorem q107K(k:Nat):Contract Tryz.prog 161 (q107V k):=ctr (q107C k) (rs := [(ty_12,true)]) (ps:=q107p) (q107F k) Tryz.f161 32 ⟨tyOf_ok tys_ok,gOf_ok ⟨q105K k,q106K,trivial⟩⟩ (annl [] trivial)

noncomputable def q108V(k:Nat):Variant:=⟨[.ptr .bool true,.val ty_12 true,.val ty_0 false],[(ty_12,true)],fun x=>impl_reckoner_power k x.1 x.2.1 x.2.2.1⟩
noncomputable def q108C(k:Nat):Cfg:=⟨Tryz.prog,tyOf tys,49,gOf [(141,[],q90V),(140,[],q91V),(160,[],q96V k),(162,[],q102V k),(163,[],q103V k),(115,[],q104V),(161,[],q107V k)],false,[],[]⟩
def q108i1:List PE := [e102,⟨2,48,.val ty_0 false,false⟩,⟨4,64,.box ty_12 false,false⟩,⟨6,80,.box ty_12 false,false⟩,⟨7,96,.box ty_1 false,false⟩,⟨8,112,.box ty_1 false,false⟩,e39,e45]
def q108o1:List PE := [⟨2,48,.val ty_0 false,false⟩,⟨4,64,.box ty_12 false,false⟩,⟨6,80,.box ty_12 false,false⟩,⟨7,96,.box ty_1 false,false⟩,⟨8,112,.box ty_1 false,false⟩,e102]
noncomputable def q108f1(k:Nat)(n:Nat)(x5:PTe q108i1):=impl_reckoner_power_L122 k n x5.1 x5.2.1 x5.2.2.1 x5.2.2.2.1 x5.2.2.2.2.1 x5.2.2.2.2.2.1 x5.2.2.2.2.2.2.1 x5.2.2.2.2.2.2.2.1
def q108p:List PE := [e102,e63,e21]
noncomputable def q108F(k:Nat):F7:=⟨q108C k,rr q108p [(ty_12,true)] Tryz.f143,fun p=>bif Nat.beq p 122 then some (.loop q108i1 q108o1 0 160 (q108f1 k k))else bif Nat.beq p 62 then some (.cut [⟨6,48,.box ty_12 false,false⟩,⟨7,64,.box ty_1 false,false⟩,⟨8,80,.box ty_1 false,false⟩,e102] 96)else none,0,[0]⟩
theorem q108K(k:Nat):Contract Tryz.prog 143 (q108V k):=ctr (q108C k) (rs := [(ty_12,true)]) (ps:=q108p) (q108F k) Tryz.f143 48 ⟨tyOf_ok tys_ok,gOf_ok ⟨q90K,q91K,q96K k,q102K k,q103K k,q104K,q107K k,trivial⟩⟩ (annl [122] ⟨lok q108i1 q108o1 0 160 (q108f1 k) k,trivial⟩)

noncomputable def q109V(k:Nat):Variant:=⟨[.ptr .bool true,.val ty_12 true,.val ty_12 true],[(ty_12,true)],fun x=>impl_reckoner_multiply k x.1 x.2.1 x.2.2.1⟩
noncomputable def q109C(k:Nat):Cfg:=⟨Tryz.prog,tyOf tys,51,gOf [(160,[],q96V k),(162,[],q102V k),(163,[],q103V k),(161,[],q107V k)],false,[],[]⟩
def q109p:List PE := [e102,e63,⟨2,32,.val ty_12 true,false⟩]
noncomputable def q109F(k:Nat):F7:=⟨q109C k,rr q109p [(ty_12,true)] Tryz.f142,fun p=>none,0,[0]⟩
theorem q109K(k:Nat):Contract Tryz.prog 142 (q109V k):=ctr (q109C k) (rs := [(ty_12,true)]) (ps:=q109p) (q109F k) Tryz.f142 48 ⟨tyOf_ok tys_ok,gOf_ok ⟨q96K k,q102K k,q103K k,q107K k,trivial⟩⟩ (annl [] trivial)

noncomputable def q110V:Variant:=V64 math_bits_Add64
theorem q110K:Contract Tryz.prog 191 q110V:=contractAdd64 (fn:=Tryz.f191) (by kernel_rfl) (by kernel_rfl) (by kernel_rfl) (by kernel_rfl) (by kernel_rfl)

noncomputable def q111V:Variant:=V64 math_bits_Sub64
theorem q111K:Contract Tryz.prog 192 q111V:=contractSub64 (fn:=Tryz.f192) (by kernel_rfl) (by kernel_rfl) (by kernel_rfl) (by kernel_rfl) (by kernel_rfl)

noncomputable def q112V(k:Nat):Variant:=⟨[.val ty_18 true,.val ty_18 true],[(ty_18,true)],fun x=>impl_wide_add k x.1 x.2.1⟩
noncomputable def q112C(k:Nat):Cfg:=⟨Tryz.prog,tyOf tys,68,gOf [(191,[],q110V),(190,[],q99V k),(192,[],q111V)],false,[],[]⟩
def q112p:List PE := [e94,e103]
noncomputable def q112F(k:Nat):F8:=⟨q112C k,rr q112p [(ty_18,true)] Tryz.f187,fun p=>bif Nat.beq p 14 then some (.cut [⟨2,32,.box ty_18 false,false⟩,⟨3,48,.box ty_18 false,false⟩,⟨4,64,.box ty_18 false,false⟩] 80)else none,0,[]⟩
theorem q112K(k:Nat):Contract Tryz.prog 187 (q112V k):=ctr (q112C k) (rs := [(ty_18,true)]) (ps:=q112p) (q112F k) Tryz.f187 32 ⟨tyOf_ok tys_ok,gOf_ok ⟨q110K,q99K k,q111K,trivial⟩⟩ (annl [] trivial)

noncomputable def q113V(k:Nat):Variant:=⟨[.val ty_1 true,.val ty_1 true],[(ty_1,true),(.bool,false)],fun x=>impl_sumOf k x.1 x.2.1⟩
noncomputable def q113C(k:Nat):Cfg:=⟨Tryz.prog,tyOf tys,33,gOf [(112,[],q85V),(139,[],q87V),(187,[],q112V k),(113,[],q88V k)],false,[],[]⟩
def q113p:List PE := [e46,e53]
noncomputable def q113F(k:Nat):F3:=⟨q113C k,rr q113p [(ty_1,true),(.bool,false)] Tryz.f179,fun p=>none,0,[]⟩
theorem q113K(k:Nat):Contract Tryz.prog 179 (q113V k):=ctr (q113C k) (rs := [(ty_1,true),(.bool,false)]) (ps:=q113p) (q113F k) Tryz.f179 32 ⟨tyOf_ok tys_ok,gOf_ok ⟨q85K,q87K,q112K k,q88K k,trivial⟩⟩ (annl [] trivial)

noncomputable def q114V(k:Nat):Variant:=⟨[.ptr .bool true,.val ty_1 true,.val ty_1 true],[(ty_1,true)],fun x=>impl_reckoner_sum k x.1 x.2.1 x.2.2.1⟩
noncomputable def q114C(k:Nat):Cfg:=⟨Tryz.prog,tyOf tys,14,gOf [(179,[],q113V k),(174,[],q95V)],false,[],[]⟩
def q114p:List PE := [e102,e53,e64]
noncomputable def q114F(k:Nat):F3:=⟨q114C k,rr q114p [(ty_1,true)] Tryz.f164,fun p=>none,0,[0]⟩
theorem q114K(k:Nat):Contract Tryz.prog 164 (q114V k):=ctr (q114C k) (rs := [(ty_1,true)]) (ps:=q114p) (q114F k) Tryz.f164 48 ⟨tyOf_ok tys_ok,gOf_ok ⟨q113K k,q95K,trivial⟩⟩ (annl [] trivial)

noncomputable def q115V(k:Nat):Variant:=⟨[.ptr .bool true,.val ty_12 true,.val ty_12 true],[(ty_12,true)],fun x=>impl_reckoner_add k x.1 x.2.1 x.2.2.1⟩
noncomputable def q115C(k:Nat):Cfg:=⟨Tryz.prog,tyOf tys,20,gOf [(164,[],q114V k)],false,[],[]⟩
def q115p:List PE := [e102,e63,⟨2,32,.val ty_12 true,false⟩]
noncomputable def q115F(k:Nat):F7:=⟨q115C k,rr q115p [(ty_12,true)] Tryz.f144,fun p=>none,0,[0]⟩
theorem q115K(k:Nat):Contract Tryz.prog 144 (q115V k):=ctr (q115C k) (rs := [(ty_12,true)]) (ps:=q115p) (q115F k) Tryz.f144 48 ⟨tyOf_ok tys_ok,gOf_ok ⟨q114K k,trivial⟩⟩ (annl [] trivial)

noncomputable def q116V:Variant:=⟨[.ptr .bool true,.val ty_12 true],[(ty_12,true),(.bool,false)],fun x=>impl_reckoner_result x.1 x.2.1⟩
noncomputable def q116C:Cfg:=⟨Tryz.prog,tyOf tys,13,gOf [],false,[],[]⟩
def q116p:List PE := [e102,e63]
noncomputable def q116F:Fn (((Int×Int)×Int×Int)×Bool×Bool):=⟨q116C,rr q116p [(ty_12,true),(.bool,false)] Tryz.f145,fun p=>none,0,[0]⟩
theorem q116K:Contract Tryz.prog 145 (q116V):=ctr q116C (rs := [(ty_12,true),(.bool,false)]) (ps:=q116p) q116F Tryz.f145 32 ⟨tyOf_ok tys_ok,gOf_ok trivial⟩ (annl [] trivial)

noncomputable def q117V(k:Nat):Variant:=⟨[.val ty_4 false,.val ty_14 false],[(ty_12,true),(.bool,false)],fun x=>impl_valueOver k x.1 x.2.1⟩
noncomputable def q117C(k:Nat):Cfg:=⟨Tryz.prog,tyOf tys,54,gOf [(141,[],q90V),(140,[],q91V),(110,[],q75V),(143,[],q108V k),(142,[],q109V k),(144,[],q115V k),(145,[],q116V)],false,[],[]⟩
def q117i1:List PE := [e65,e58,e104,e105,⟨9,96,.box ty_3 false,false⟩,⟨10,112,.box ty_12 false,false⟩,⟨16,128,.val ty_4 false,false⟩,⟨17,144,.val ty_0 false,false⟩,⟨18,160,.val ty_0 false,false⟩,⟨26,176,.val ty_14 false,false⟩,⟨27,192,.val ty_0 false,false⟩,⟨28,208,.val ty_0 false,false⟩]
def q117o1:List PE := [e65,e58,e104,e105,⟨10,96,.box ty_12 false,false⟩,⟨16,112,.val ty_4 false,false⟩,⟨17,128,.val ty_0 false,false⟩,⟨18,144,.val ty_0 false,false⟩]
noncomputable def q117f1(k:Nat)(n:Nat)(x10:PTe q117i1):=impl_valueOver_L125338 k n x10.1 x10.2.1 x10.2.2.1 x10.2.2.2.1 x10.2.2.2.2.1 x10.2.2.2.2.2.1 x10.2.2.2.2.2.2.1 x10.2.2.2.2.2.2.2.1 x10.2.2.2.2.2.2.2.2.1 x10.2.2.2.2.2.2.2.2.2.1 x10.2.2.2.2.2.2.2.2.2.2.1 x10.2.2.2.2.2.2.2.2.2.2.2.1
def q117i2:List PE := [e65,e58,e104,e105,⟨16,96,.val ty_4 false,false⟩,e38,e39]
def q117o2:List PE := [e57,⟨6,48,.box .bool false,false⟩,⟨7,64,.box ty_12 false,false⟩]
noncomputable def q117f2(k:Nat)(n:Nat)(x14:PTe q117i2):=impl_valueOver_L122 k n x14.1 x14.2.1 x14.2.2.1 x14.2.2.2.1 x14.2.2.2.2.1 x14.2.2.2.2.2.1 x14.2.2.2.2.2.2.1
def q117p:List PE := [e1,e67]
noncomputable def q117F(k:Nat):F7:=⟨q117C k,rr q117p [(ty_12,true),(.bool,false)] Tryz.f114,fun p=>bif Nat.beq p 125338 then some (.loop q117i1 q117o1 2 224 (q117f1 k k))else bif Nat.beq p 122 then some (.loop q117i2 q117o2 0 144 (q117f2 k k))else none,0,[]⟩
theorem q117K(k:Nat):Contract Tryz.prog 114 (q117V k):=ctr (q117C k) (rs := [(ty_12,true),(.bool,false)]) (ps:=q117p) (q117F k) Tryz.f114 32 ⟨tyOf_ok tys_ok,gOf_ok ⟨q90K,q91K,q75K,q108K k,q109K k,q115K k,q116K,trivial⟩⟩ (annl [122,125338] ⟨lok q117i2 q117o2 0 144 (q117f2 k) k,lok q117i1 q117o1 2 224 (q117f1 k) k,trivial⟩)

noncomputable def q118V(k:Nat):Variant:=⟨[.val ty_5 false,.val ty_14 false,.val ty_0 false],[(.bool,false)],fun x=>impl_labelHolds k x.1 x.2.1 x.2.2.1⟩
noncomputable def q118C(k:Nat):Cfg:=⟨Tryz.prog,tyOf tys,32,gOf [(29,[],q67V),(114,[],q117V k),(115,[],q104V)],false,[],[]⟩
def q118p:List PE := [e7,e67,e21]
noncomputable def q118F(k:Nat):F2:=⟨q118C k,rr q118p [(.bool,false)] Tryz.f85,fun p=>none,0,[]⟩
theorem q118K(k:Nat):Contract Tryz.prog 85 (q118V k):=ctr (q118C k) (rs := [(.bool,false)]) (ps:=q118p) (q118F k) Tryz.f85 48 ⟨tyOf_ok tys_ok,gOf_ok ⟨q67K,q117K k,q104K,trivial⟩⟩ (annl [] trivial)

noncomputable def q119V(k:Nat):Variant:=⟨[.val ty_5 false,.ptr ty_9 false,.val ty_0 false,.val ty_11 true],[(ty_0,false)],fun x=>impl_cellLabel k x.1 x.2.1 x.2.2.1 x.2.2.2.1⟩
noncomputable def q119C(k:Nat):Cfg:=⟨Tryz.prog,tyOf tys,24,gOf [(84,[],q89V k),(85,[],q118V k)],false,[],[]⟩
def q119i1:List PE := [⟨0,64,.val ty_5 false,false⟩,⟨9,80,.eat ty_12,false⟩,⟨15,96,.val ty_0 false,false⟩]
def q119o1:List PE := []
noncomputable def q119f1(k:Nat)(n:Nat)(x3:PTe q119i1):=impl_cellLabel_L58 k n x3.1 x3.2.1 x3.2.2.1
def q119p:List PE := [e7,e88,e21,⟨3,48,.val ty_11 true,false⟩]
noncomputable def q119F(k:Nat):F1:=⟨q119C k,rr q119p [(ty_0,false)] Tryz.f54,fun p=>bif Nat.beq p 58 then some (.loop q119i1 q119o1 0 112 (q119f1 k k))else none,0,[]⟩
theorem q119K(k:Nat):Contract Tryz.prog 54 (q119V k):=ctr (q119C k) (rs := [(ty_0,false)]) (ps:=q119p) (q119F k) Tryz.f54 64 ⟨tyOf_ok tys_ok,gOf_ok ⟨q89K k,q118K k,trivial⟩⟩ (annl [58] ⟨lok q119i1 q119o1 0 112 (q119f1 k) k,trivial⟩)

noncomputable def q120V(k:Nat):Variant:=⟨[.val ty_5 false,.ptr ty_9 false,.val ty_0 false],[(ty_7,false),(.bool,false)],fun x=>impl_surfaceLabels k x.1 x.2.1 x.2.2.1⟩
noncomputable def q120C(k:Nat):Cfg:=⟨Tryz.prog,tyOf tys,32,gOf [(53,[],q81V k),(54,[],q119V k)],false,[],[]⟩
def q120i1:List PE := [⟨0,48,.val ty_5 false,false⟩,⟨1,64,.ptr ty_9 false,false⟩,⟨2,80,.val ty_0 false,false⟩,⟨8,96,.eat ty_0,false⟩,⟨13,112,.eat ty_11,false⟩,e69,⟨15,144,.val ty_0 false,false⟩]
def q120o1:List PE := [⟨8,48,.eat ty_0,false⟩]
noncomputable def q120f1(k:Nat)(n:Nat)(x3:PTe q120i1):=impl_surfaceLabels_L58 k n x3.1 x3.2.1 x3.2.2.1 x3.2.2.2.1 x3.2.2.2.2.1 x3.2.2.2.2.2.1 x3.2.2.2.2.2.2.1
def q120p:List PE := [e7,e88,e21]
noncomputable def q120F(k:Nat):Fn ((List Int)×Bool):=⟨q120C k,rr q120p [(ty_7,false),(.bool,false)] Tryz.f30,fun p=>bif Nat.beq p 58 then some (.loop q120i1 q120o1 0 160 (q120f1 k k))else none,0,[]⟩
theorem q120K(k:Nat):Contract Tryz.prog 30 (q120V k):=ctr (q120C k) (rs := [(ty_7,false),(.bool,false)]) (ps:=q120p) (q120F k) Tryz.f30 48 ⟨tyOf_ok tys_ok,gOf_ok ⟨q81K k,q119K k,trivial⟩⟩ (annl [58] ⟨lok q120i1 q120o1 0 160 (q120f1 k) k,trivial⟩)

noncomputable def q121V:Variant:=⟨[.val ty_11 true,.val ty_0 false,.val ty_2 true],[(.bool,false)],fun x=>impl_Cell_touches x.1 x.2.1 x.2.2.1⟩
noncomputable def q121C:Cfg:=⟨Tryz.prog,tyOf tys,44,gOf [(111,[],q82V),(29,[],q67V)],false,[],[]⟩
def q121p:List PE := [e43,e2,e106]
noncomputable def q121F:F2:=⟨q121C,rr q121p [(.bool,false)] Tryz.f86,fun p=>none,0,[]⟩
theorem q121K:Contract Tryz.prog 86 (q121V):=ctr q121C (rs := [(.bool,false)]) (ps:=q121p) q121F Tryz.f86 48 ⟨tyOf_ok tys_ok,gOf_ok ⟨q82K,q67K,trivial⟩⟩ (annl [] trivial)

noncomputable def q122V(k:Nat):Variant:=⟨[.val ty_11 true,.val ty_0 false,.val ty_2 true],[(ty_2,true)],fun x=>impl_Cell_from k x.1 x.2.1 x.2.2.1⟩
noncomputable def q122C(k:Nat):Cfg:=⟨Tryz.prog,tyOf tys,37,gOf [(111,[],q82V)],false,[],[]⟩
def q122i1:List PE := [⟨5,48,.box ty_2 false,false⟩,⟨6,64,.box ty_2 false,false⟩,⟨7,80,.box ty_2 false,false⟩,⟨9,96,.box ty_2 false,false⟩,⟨19,112,.val ty_1 true,false⟩,⟨20,128,.val ty_0 false,false⟩]
def q122o1:List PE := [⟨6,48,.box ty_2 false,false⟩,⟨9,64,.box ty_2 false,false⟩]
noncomputable def q122f1(k:Nat)(n:Nat)(x2:PTe q122i1):=impl_Cell_from_L122 k n x2.1 x2.2.1 x2.2.2.1 x2.2.2.2.1 x2.2.2.2.2.1 x2.2.2.2.2.2.1
def q122p:List PE := [e43,e2,e106]
noncomputable def q122F(k:Nat):Fn (Int×Int×Int):=⟨q122C k,rr q122p [(ty_2,true)] Tryz.f87,fun p=>bif Nat.beq p 122 then some (.loop q122i1 q122o1 0 144 (q122f1 k k))else none,0,[]⟩
theorem q122K(k:Nat):Contract Tryz.prog 87 (q122V k):=ctr (q122C k) (rs := [(ty_2,true)]) (ps:=q122p) (q122F k) Tryz.f87 48 ⟨tyOf_ok tys_ok,gOf_ok ⟨q82K,trivial⟩⟩ (annl [122] ⟨lok q122i1 q122o1 0 144 (q122f1 k) k,trivial⟩)

noncomputable def q123V:Variant:=⟨[.val ty_2 true,.val ty_2 true,.val ty_2 true],[(ty_0,false)],fun x=>impl_turned x.1 x.2.1 x.2.2.1⟩
noncomputable def q123C:Cfg:=⟨Tryz.prog,tyOf tys,51,gOf [],false,[],[]⟩
def q123p:List PE := [⟨0,0,.val ty_2 true,false⟩,⟨1,16,.val ty_2 true,false⟩,e106]
noncomputable def q123F:F1:=⟨q123C,rr q123p [(ty_0,false)] Tryz.f90,fun p=>none,0,[]⟩
theorem q123K:Contract Tryz.prog 90 (q123V):=ctr q123C (rs := [(ty_0,false)]) (ps:=q123p) q123F Tryz.f90 48 ⟨tyOf_ok tys_ok,gOf_ok trivial⟩ (annl [] trivial)

noncomputable def q124V(k:Nat):Variant:=⟨[.val ty_0 false,.ptr ty_2 false,.ptr ty_15 false,.ptr ty_0 false,.ptr ty_2 false,.ptr ty_2 false],[(.bool,false)],fun x=>impl_around_1 k x.1 x.2.1 x.2.2.1 x.2.2.2.1 x.2.2.2.2.1 x.2.2.2.2.2.1⟩
noncomputable def q124C(k:Nat):Cfg:=⟨Tryz.prog,tyOf tys,19,gOf [(87,[],q122V k),(90,[],q123V)],false,[],[]⟩
def q124p:List PE := [e10,⟨1,16,.ptr ty_2 false,false⟩,⟨2,32,.ptr ty_15 false,false⟩,⟨3,48,.ptr ty_0 false,false⟩,⟨4,64,.ptr ty_2 false,false⟩,⟨5,80,.ptr ty_2 false,false⟩]
noncomputable def q124F(k:Nat):F2:=⟨q124C k,rr q124p [(.bool,false)] Tryz.f89,fun p=>none,0,[]⟩
theorem q124K(k:Nat):Contract Tryz.prog 89 (q124V k):=ctr (q124C k) (rs := [(.bool,false)]) (ps:=q124p) (q124F k) Tryz.f89 96 ⟨tyOf_ok tys_ok,gOf_ok ⟨q122K k,q123K,trivial⟩⟩ (annl [] trivial)

noncomputable def q125V(k:Nat):Variant:=⟨[.val ty_7 false,.fn 89 [(ty_2,.pr),(ty_15,.pr),(ty_0,.pr),(ty_2,.pr),(ty_2,.pr)]],[(ty_0,false)],fun x=>slices_IndexFunc_int_int_impl_around_1 k x.1 x.2.1⟩
noncomputable def q125C(k:Nat):Cfg:=⟨Tryz.prog,tyOf tys,19,gOf [(89,[],q124V k)],false,[],[]⟩
def q125i1:List PE := [e19,⟨1,48,.fn 89 [(ty_2,.pr),(ty_15,.pr),(ty_0,.pr),(ty_2,.pr),(ty_2,.pr)],false⟩,e15,e36]
def q125o1:List PE := []
noncomputable def q125f1(k:Nat)(n:Nat)(x2:PTe q125i1):=slices_IndexFunc_int_int_impl_around_1_L26 k n x2.1 x2.2.1 x2.2.2.1 x2.2.2.2.1
def q125p:List PE := [e8,⟨1,16,.fn 89 [(ty_2,.pr),(ty_15,.pr),(ty_0,.pr),(ty_2,.pr),(ty_2,.pr)],false⟩]
noncomputable def q125F(k:Nat):F1:=⟨q125C k,rr q125p [(ty_0,false)] Tryz.f88,fun p=>bif Nat.beq p 26 then some (.loop q125i1 q125o1 0 96 (q125f1 k k))else none,0,[]⟩
theorem q125K(k:Nat):Contract Tryz.prog 88 (q125V k):=ctr (q125C k) (rs := [(ty_0,false)]) (ps:=q125p) (q125F k) Tryz.f88 32 ⟨tyOf_ok tys_ok,gOf_ok ⟨q124K k,trivial⟩⟩ (annl [26] ⟨lok q125i1 q125o1 0 96 (q125f1 k) k,trivial⟩)

noncomputable def q126V(k:Nat):Variant:=⟨[.val ty_15 false,.val ty_0 false,.val ty_2 true],[(ty_7,false)],fun x=>impl_around k x.1 x.2.1 x.2.2.1⟩
noncomputable def q126C(k:Nat):Cfg:=⟨Tryz.prog,tyOf tys,73,gOf [(86,[],q121V),(87,[],q122V k),(88,[89],q125V k)],true,[],[]⟩
def q126i1:List PE := [e107,e108,e109,e68,e110,⟨15,128,.val ty_15 false,false⟩,⟨16,144,.val ty_0 false,false⟩,⟨17,160,.val ty_0 false,false⟩]
def q126o1:List PE := [e107,e108,e109,e68,e110]
noncomputable def q126f1(k:Nat)(n:Nat)(x2:PTe q126i1):=impl_around_L122 k n x2.1 x2.2.1 x2.2.2.1 x2.2.2.2.1 x2.2.2.2.2.1 x2.2.2.2.2.2.1 x2.2.2.2.2.2.2.1 x2.2.2.2.2.2.2.2.1
def q126i2:List PE := [e107,e108,e109,e68,e110,⟨11,128,.eat ty_0,false⟩]
def q126o2:List PE := [⟨11,48,.eat ty_0,false⟩]
noncomputable def q126f2(k:Nat)(n:Nat)(x9:PTe q126i2):=impl_around_L508 k n x9.1 x9.2.1 x9.2.2.1 x9.2.2.2.1 x9.2.2.2.2.1 x9.2.2.2.2.2.1
def q126p:List PE := [⟨0,0,.val ty_15 false,false⟩,e2,e106]
noncomputable def q126F(k:Nat):Fn (List Int):=⟨q126C k,rr q126p [(ty_7,false)] Tryz.f55,fun p=>bif Nat.beq p 122 then some (.loop q126i1 q126o1 0 176 (q126f1 k k))else bif Nat.beq p 508 then some (.peel q126i2 q126o2 2 144 (q126f2 k k))else none,0,[]⟩
theorem q126K(k:Nat):Contract Tryz.prog 55 (q126V k):=ctr (q126C k) (rs := [(ty_7,false)]) (ps:=q126p) (q126F k) Tryz.f55 48 ⟨tyOf_ok tys_ok,gOf_ok ⟨q121K,q122K k,q125K k,trivial⟩⟩ (annl [122,508] ⟨lok q126i1 q126o1 0 176 (q126f1 k) k,lokp q126i2 q126o2 2 144 (q126f2 k) k,trivial⟩)

noncomputable def q127V(k:Nat):Variant:=⟨[.val ty_7 false,.val ty_0 false],[(ty_0,false)],fun x=>slices_Index_int_int k x.1 x.2.1⟩
noncomputable def q127C(k:Nat):Cfg:=⟨Tryz.prog,tyOf tys,19,gOf [],false,[],[]⟩
def q127i1:List PE := [e19,e4,e15,e36]
def q127o1:List PE := []
noncomputable def q127f1(k:Nat)(n:Nat)(x1:PTe q127i1):=slices_Index_int_int_L26 k n x1.1 x1.2.1 x1.2.2.1 x1.2.2.2.1
def q127p:List PE := [e8,e2]
noncomputable def q127F(k:Nat):F1:=⟨q127C k,rr q127p [(ty_0,false)] Tryz.f91,fun p=>bif Nat.beq p 26 then some (.loop q127i1 q127o1 0 96 (q127f1 k k))else none,0,[]⟩
theorem q127K(k:Nat):Contract Tryz.prog 91 (q127V k):=ctr (q127C k) (rs := [(ty_0,false)]) (ps:=q127p) (q127F k) Tryz.f91 32 ⟨tyOf_ok tys_ok,gOf_ok trivial⟩ (annl [26] ⟨lok q127i1 q127o1 0 96 (q127f1 k) k,trivial⟩)

noncomputable def q128V(k:Nat):Variant:=⟨[.val ty_7 false,.val ty_0 false],[(.bool,false)],fun x=>slices_Contains_int_int k x.1 x.2.1⟩
noncomputable def q128C(k:Nat):Cfg:=⟨Tryz.prog,tyOf tys,9,gOf [(91,[],q127V k)],false,[],[]⟩
def q128p:List PE := [e8,e2]
noncomputable def q128F(k:Nat):F2:=⟨q128C k,rr q128p [(.bool,false)] Tryz.f56,fun p=>none,0,[]⟩
theorem q128K(k:Nat):Contract Tryz.prog 56 (q128V k):=ctr (q128C k) (rs := [(.bool,false)]) (ps:=q128p) (q128F k) Tryz.f56 32 ⟨tyOf_ok tys_ok,gOf_ok ⟨q127K k,trivial⟩⟩ (annl [] trivial)

noncomputable def q129V:Variant:=⟨[.val ty_0 false,.val ty_0 false,.val ty_0 false],[(ty_0,false)],fun x=>impl_countOf x.1 x.2.1 x.2.2.1⟩
noncomputable def q129C:Cfg:=⟨Tryz.prog,tyOf tys,25,gOf [],false,[],[]⟩
def q129p:List PE := [e10,e2,e21]
noncomputable def q129F:F1:=⟨q129C,rr q129p [(ty_0,false)] Tryz.f57,fun p=>bif Nat.beq p 52 then some (.cut [⟨10,48,.val ty_2 true,false⟩,⟨11,64,.val .bool false,false⟩] 80)else none,0,[]⟩
theorem q129K:Contract Tryz.prog 57 (q129V):=ctr q129C (rs := [(ty_0,false)]) (ps:=q129p) q129F Tryz.f57 48 ⟨tyOf_ok tys_ok,gOf_ok trivial⟩ (annl [] trivial)

noncomputable def q130V(k:Nat):Variant:=⟨[.val ty_7 false,.val ty_0 false],[(ty_0,false),(.bool,false)],fun x=>impl_degreeOfLabels k x.1 x.2.1⟩
noncomputable def q130C(k:Nat):Cfg:=⟨Tryz.prog,tyOf tys,98,gOf [(53,[],q81V k),(55,[],q126V k),(56,[],q128V k),(57,[],q129V)],false,[],[]⟩
def q130i1:List PE := [e19,e4,e111,e28,e29,e44,e112,⟨12,144,.eat ty_0,false⟩,e113,e114,e115,e116,e117,e118,⟨43,256,.eat ty_0,false⟩,⟨44,272,.val ty_0 false,false⟩,⟨45,288,.val ty_0 false,false⟩]
def q130o1:List PE := [e19,e4,e111,e28,e29,e44,e112,⟨12,144,.eat ty_0,false⟩,e113,e114,e115,e116,e117,e118]
noncomputable def q130f1(k:Nat)(n:Nat)(x3:PTe q130i1):=impl_degreeOfLabels_L3919157658 k n x3.1 x3.2.1 x3.2.2.1 x3.2.2.2.1 x3.2.2.2.2.1 x3.2.2.2.2.2.1 x3.2.2.2.2.2.2.1 x3.2.2.2.2.2.2.2.1 x3.2.2.2.2.2.2.2.2.1 x3.2.2.2.2.2.2.2.2.2.1 x3.2.2.2.2.2.2.2.2.2.2.1 x3.2.2.2.2.2.2.2.2.2.2.2.1 x3.2.2.2.2.2.2.2.2.2.2.2.2.1 x3.2.2.2.2.2.2.2.2.2.2.2.2.2.1 x3.2.2.2.2.2.2.2.2.2.2.2.2.2.2.1 x3.2.2.2.2.2.2.2.2.2.2.2.2.2.2.2.1 x3.2.2.2.2.2.2.2.2.2.2.2.2.2.2.2.2.1
def q130i2:List PE := [e19,e4,e111,e28,e29,e44,e112,e83,e113,e114,e115,e116,e117,e118,⟨57,256,.val ty_7 false,false⟩,⟨58,272,.val ty_0 false,false⟩,⟨59,288,.val ty_0 false,false⟩]
def q130o2:List PE := [e19,e4,e111,e28,e29,e44,e112,e83,e113,e114,e115,e116,e117,e118]
noncomputable def q130f2(k:Nat)(n:Nat)(x7:PTe q130i2):=impl_degreeOfLabels_L7838315322 k n x7.1 x7.2.1 x7.2.2.1 x7.2.2.2.1 x7.2.2.2.2.1 x7.2.2.2.2.2.1 x7.2.2.2.2.2.2.1 x7.2.2.2.2.2.2.2.1 x7.2.2.2.2.2.2.2.2.1 x7.2.2.2.2.2.2.2.2.2.1 x7.2.2.2.2.2.2.2.2.2.2.1 x7.2.2.2.2.2.2.2.2.2.2.2.1 x7.2.2.2.2.2.2.2.2.2.2.2.2.1 x7.2.2.2.2.2.2.2.2.2.2.2.2.2.1 x7.2.2.2.2.2.2.2.2.2.2.2.2.2.2.1 x7.2.2.2.2.2.2.2.2.2.2.2.2.2.2.2.1 x7.2.2.2.2.2.2.2.2.2.2.2.2.2.2.2.2.1
def q130i3:List PE := [e19,e4,e111,e28,e29,e44,e112,e83,⟨17,160,.val ty_0 false,false⟩,⟨23,176,.val ty_0 false,false⟩,⟨24,192,.val ty_0 false,false⟩,⟨28,208,.val ty_0 false,false⟩,⟨29,224,.val ty_0 false,false⟩,⟨33,240,.val ty_0 false,false⟩,⟨34,256,.val ty_0 false,false⟩]
def q130o3:List PE := [e19,e4,e111,e28,e29,e44,e112,⟨23,144,.val ty_0 false,false⟩,⟨24,160,.val ty_0 false,false⟩,⟨28,176,.val ty_0 false,false⟩,⟨29,192,.val ty_0 false,false⟩,⟨33,208,.val ty_0 false,false⟩,⟨34,224,.val ty_0 false,false⟩]
noncomputable def q130f3(k:Nat)(n:Nat)(x11:PTe q130i3):=impl_degreeOfLabels_L7838315326 k n x11.1 x11.2.1 x11.2.2.1 x11.2.2.2.1 x11.2.2.2.2.1 x11.2.2.2.2.2.1 x11.2.2.2.2.2.2.1 x11.2.2.2.2.2.2.2.1 x11.2.2.2.2.2.2.2.2.1 x11.2.2.2.2.2.2.2.2.2.1 x11.2.2.2.2.2.2.2.2.2.2.1 x11.2.2.2.2.2.2.2.2.2.2.2.1 x11.2.2.2.2.2.2.2.2.2.2.2.2.1 x11.2.2.2.2.2.2.2.2.2.2.2.2.2.1 x11.2.2.2.2.2.2.2.2.2.2.2.2.2.2.1
def q130i4:List PE := [e19,e4,e111,e28,e29,e44,e112,⟨23,144,.val ty_0 false,false⟩,⟨24,160,.val ty_0 false,false⟩,⟨28,176,.val ty_0 false,false⟩,⟨29,192,.val ty_0 false,false⟩,⟨33,208,.val ty_0 false,false⟩,⟨34,224,.val ty_0 false,false⟩]
def q130o4:List PE := [e19,e4,e111,e28,e29,e44,⟨23,128,.val ty_0 false,false⟩,e49,e60,e61]
noncomputable def q130f4(k:Nat)(n:Nat)(x14:PTe q130i4):=impl_degreeOfLabels_L3827302 k n x14.1 x14.2.1 x14.2.2.1 x14.2.2.2.1 x14.2.2.2.2.1 x14.2.2.2.2.2.1 x14.2.2.2.2.2.2.1 x14.2.2.2.2.2.2.2.1 x14.2.2.2.2.2.2.2.2.1 x14.2.2.2.2.2.2.2.2.2.1 x14.2.2.2.2.2.2.2.2.2.2.1 x14.2.2.2.2.2.2.2.2.2.2.2.1 x14.2.2.2.2.2.2.2.2.2.2.2.2.1
def q130i5:List PE := [e19,e4,e111,e28,e29,e44,⟨23,128,.val ty_0 false,false⟩,e49,e60,e61]
def q130o5:List PE := [e19,e4,e111,e28,e29,⟨23,112,.val ty_0 false,false⟩,⟨24,128,.val ty_0 false,false⟩]
noncomputable def q130f5(k:Nat)(n:Nat)(x17:PTe q130i5):=impl_degreeOfLabels_L14950 k n x17.1 x17.2.1 x17.2.2.1 x17.2.2.2.1 x17.2.2.2.2.1 x17.2.2.2.2.2.1 x17.2.2.2.2.2.2.1 x17.2.2.2.2.2.2.2.1 x17.2.2.2.2.2.2.2.2.1 x17.2.2.2.2.2.2.2.2.2.1
def q130i6:List PE := [e19,e4,e111,e28,e29,⟨23,112,.val ty_0 false,false⟩,⟨24,128,.val ty_0 false,false⟩]
def q130o6:List PE := [⟨8,32,.val ty_0 false,false⟩]
noncomputable def q130f6(k:Nat)(n:Nat)(x20:PTe q130i6):=impl_degreeOfLabels_L58 k n x20.1 x20.2.1 x20.2.2.1 x20.2.2.2.1 x20.2.2.2.2.1 x20.2.2.2.2.2.1 x20.2.2.2.2.2.2.1
def q130p:List PE := [e8,e2]
noncomputable def q130F(k:Nat):F6:=⟨q130C k,rr q130p [(ty_0,false),(.bool,false)] Tryz.f31,fun p=>bif Nat.beq p 3919157658 then some (.loop q130i1 q130o1 6 304 (q130f1 k k))else bif Nat.beq p 7838315322 then some (.loop q130i2 q130o2 8 304 (q130f2 k k))else bif Nat.beq p 7838315326 then some (.loop q130i3 q130o3 10 272 (q130f3 k k))else bif Nat.beq p 3827302 then some (.loop q130i4 q130o4 4 240 (q130f4 k k))else bif Nat.beq p 14950 then some (.loop q130i5 q130o5 2 192 (q130f5 k k))else bif Nat.beq p 58 then some (.loop q130i6 q130o6 0 144 (q130f6 k k))else none,0,[]⟩
theorem q130K(k:Nat):Contract Tryz.prog 31 (q130V k):=ctr (q130C k) (rs := [(ty_0,false),(.bool,false)]) (ps:=q130p) (q130F k) Tryz.f31 32 ⟨tyOf_ok tys_ok,gOf_ok ⟨q81K k,q126K k,q128K k,q129K,trivial⟩⟩ (annl [58,14950,3827302,3919157658,7838315322,7838315326] ⟨lok q130i6 q130o6 0 144 (q130f6 k) k,lok q130i5 q130o5 2 192 (q130f5 k) k,lok q130i4 q130o4 4 240 (q130f4 k) k,lok q130i1 q130o1 6 304 (q130f1 k) k,lok q130i2 q130o2 8 304 (q130f2 k) k,lok q130i3 q130o3 10 272 (q130f3 k) k,trivial⟩)

noncomputable def q131V(k:Nat):Variant:=⟨[.val ty_5 false,.val ty_9 true,.val ty_0 false],[(ty_0,false),(.bool,false)],fun x=>impl_CubeDegree k x.1 x.2.1 x.2.2.1⟩
noncomputable def q131C(k:Nat):Cfg:=⟨Tryz.prog,tyOf tys,31,gOf [(28,[],q80V k),(29,[],q67V),(30,[],q120V k),(31,[],q130V k)],false,[],[]⟩
def q131p:List PE := [e7,e32,e21]
noncomputable def q131F(k:Nat):F6:=⟨q131C k,rr q131p [(ty_0,false),(.bool,false)] Tryz.f10,fun p=>none,0,[]⟩
theorem q131K(k:Nat):Contract Tryz.prog 10 (q131V k):=ctr (q131C k) (rs := [(ty_0,false),(.bool,false)]) (ps:=q131p) (q131F k) Tryz.f10 48 ⟨tyOf_ok tys_ok,gOf_ok ⟨q80K k,q67K,q120K k,q130K k,trivial⟩⟩ (annl [] trivial)

noncomputable def q132V:Variant:=⟨[.val ty_3 true,.val ty_3 true],[(.bool,false)],fun x=>laws_eqTerm x.1 x.2.1⟩
noncomputable def q132C:Cfg:=⟨Tryz.prog,tyOf tys,25,gOf [],false,[],[]⟩
def q132p:List PE := [e11,e22]
noncomputable def q132F:F2:=⟨q132C,rr q132p [(.bool,false)] Tryz.f92,fun p=>none,0,[]⟩
theorem q132K:Contract Tryz.prog 92 (q132V):=ctr q132C (rs := [(.bool,false)]) (ps:=q132p) q132F Tryz.f92 32 ⟨tyOf_ok tys_ok,gOf_ok trivial⟩ (annl [] trivial)

noncomputable def q133V(k:Nat):Variant:=⟨[.val ty_4 false,.val ty_4 false],[(.bool,false)],fun x=>laws_eqTermS k x.1 x.2.1⟩
noncomputable def q133C(k:Nat):Cfg:=⟨Tryz.prog,tyOf tys,27,gOf [(92,[],q132V)],false,[],[]⟩
def q133i1:List PE := [e12,⟨1,48,.val ty_4 false,false⟩,e5]
def q133o1:List PE := []
noncomputable def q133f1(k:Nat)(n:Nat)(x2:PTe q133i1):=laws_eqTermS_L58 k n x2.1 x2.2.1 x2.2.2.1
def q133p:List PE := [e1,⟨1,16,.val ty_4 false,false⟩]
noncomputable def q133F(k:Nat):F2:=⟨q133C k,rr q133p [(.bool,false)] Tryz.f58,fun p=>bif Nat.beq p 58 then some (.loop q133i1 q133o1 0 80 (q133f1 k k))else none,0,[]⟩
theorem q133K(k:Nat):Contract Tryz.prog 58 (q133V k):=ctr (q133C k) (rs := [(.bool,false)]) (ps:=q133p) (q133F k) Tryz.f58 32 ⟨tyOf_ok tys_ok,gOf_ok ⟨q132K,trivial⟩⟩ (annl [58] ⟨lok q133i1 q133o1 0 80 (q133f1 k) k,trivial⟩)

noncomputable def q134V(k:Nat):Variant:=⟨[.val ty_6 false,.val ty_6 false],[(.bool,false)],fun x=>laws_intactTermS k x.1 x.2.1⟩
noncomputable def q134C(k:Nat):Cfg:=⟨Tryz.prog,tyOf tys,26,gOf [(24,[],q5V),(58,[],q133V k)],false,[],[]⟩
def q134p:List PE := [⟨0,0,.val ty_6 false,false⟩,⟨1,16,.val ty_6 false,false⟩]
noncomputable def q134F(k:Nat):F2:=⟨q134C k,rr q134p [(.bool,false)] Tryz.f32,fun p=>none,0,[]⟩
theorem q134K(k:Nat):Contract Tryz.prog 32 (q134V k):=ctr (q134C k) (rs := [(.bool,false)]) (ps:=q134p) (q134F k) Tryz.f32 32 ⟨tyOf_ok tys_ok,gOf_ok ⟨q5K,q133K k,trivial⟩⟩ (annl [] trivial)

noncomputable def q135V(k:Nat):Variant:=⟨[.val ty_5 false,.val ty_5 false],[(.bool,false)],fun x=>laws_eqTermSS k x.1 x.2.1⟩
noncomputable def q135C(k:Nat):Cfg:=⟨Tryz.prog,tyOf tys,27,gOf [(58,[],q133V k)],false,[],[]⟩
def q135i1:List PE := [e3,⟨1,48,.val ty_5 false,false⟩,e5]
def q135o1:List PE := []
noncomputable def q135f1(k:Nat)(n:Nat)(x2:PTe q135i1):=laws_eqTermSS_L58 k n x2.1 x2.2.1 x2.2.2.1
def q135p:List PE := [e7,⟨1,16,.val ty_5 false,false⟩]
noncomputable def q135F(k:Nat):F2:=⟨q135C k,rr q135p [(.bool,false)] Tryz.f33,fun p=>bif Nat.beq p 58 then some (.loop q135i1 q135o1 0 80 (q135f1 k k))else none,0,[]⟩
theorem q135K(k:Nat):Contract Tryz.prog 33 (q135V k):=ctr (q135C k) (rs := [(.bool,false)]) (ps:=q135p) (q135F k) Tryz.f33 32 ⟨tyOf_ok tys_ok,gOf_ok ⟨q133K k,trivial⟩⟩ (annl [58] ⟨lok q135i1 q135o1 0 80 (q135f1 k) k,trivial⟩)

noncomputable def q136V(k:Nat):Variant:=⟨[.val ty_19 false,.val ty_19 false],[(.bool,false)],fun x=>laws_intactTermSS k x.1 x.2.1⟩
noncomputable def q136C(k:Nat):Cfg:=⟨Tryz.prog,tyOf tys,45,gOf [(24,[],q5V),(32,[],q134V k),(33,[],q135V k)],false,[],[]⟩
def q136i1:List PE := [⟨0,32,.val ty_19 false,false⟩,⟨1,48,.val ty_19 false,false⟩,e5,e17]
def q136o1:List PE := [⟨0,32,.val ty_19 false,false⟩,⟨1,48,.val ty_19 false,false⟩,e5]
noncomputable def q136f1(k:Nat)(n:Nat)(x3:PTe q136i1):=laws_intactTermSS_L122 k n x3.1 x3.2.1 x3.2.2.1 x3.2.2.2.1
def q136p:List PE := [⟨0,0,.val ty_19 false,false⟩,⟨1,16,.val ty_19 false,false⟩]
noncomputable def q136F(k:Nat):F2:=⟨q136C k,rr q136p [(.bool,false)] Tryz.f11,fun p=>bif Nat.beq p 122 then some (.loop q136i1 q136o1 0 96 (q136f1 k k))else none,0,[]⟩
theorem q136K(k:Nat):Contract Tryz.prog 11 (q136V k):=ctr (q136C k) (rs := [(.bool,false)]) (ps:=q136p) (q136F k) Tryz.f11 32 ⟨tyOf_ok tys_ok,gOf_ok ⟨q5K,q134K k,q135K k,trivial⟩⟩ (annl [122] ⟨lok q136i1 q136o1 0 96 (q136f1 k) k,trivial⟩)

noncomputable def q137V(k:Nat):Variant:=⟨[.val ty_7 false,.val ty_7 false],[(.bool,false)],fun x=>laws_eqIntS k x.1 x.2.1⟩
noncomputable def q137C(k:Nat):Cfg:=⟨Tryz.prog,tyOf tys,26,gOf [],false,[],[]⟩
def q137i1:List PE := [e19,⟨1,48,.val ty_7 false,false⟩,e5]
def q137o1:List PE := []
noncomputable def q137f1(k:Nat)(n:Nat)(x1:PTe q137i1):=laws_eqIntS_L58 k n x1.1 x1.2.1 x1.2.2.1
def q137p:List PE := [e8,e70]
noncomputable def q137F(k:Nat):F2:=⟨q137C k,rr q137p [(.bool,false)] Tryz.f15,fun p=>bif Nat.beq p 58 then some (.loop q137i1 q137o1 0 80 (q137f1 k k))else none,0,[]⟩
theorem q137K(k:Nat):Contract Tryz.prog 15 (q137V k):=ctr (q137C k) (rs := [(.bool,false)]) (ps:=q137p) (q137F k) Tryz.f15 32 ⟨tyOf_ok tys_ok,gOf_ok trivial⟩ (annl [58] ⟨lok q137i1 q137o1 0 80 (q137f1 k) k,trivial⟩)

noncomputable def q138V(k:Nat):Variant:=⟨[.val ty_20 false,.val ty_20 false],[(.bool,false)],fun x=>laws_intactIntS k x.1 x.2.1⟩
noncomputable def q138C(k:Nat):Cfg:=⟨Tryz.prog,tyOf tys,26,gOf [(24,[],q5V),(15,[],q137V k)],false,[],[]⟩
def q138p:List PE := [⟨0,0,.val ty_20 false,false⟩,⟨1,16,.val ty_20 false,false⟩]
noncomputable def q138F(k:Nat):F2:=⟨q138C k,rr q138p [(.bool,false)] Tryz.f34,fun p=>none,0,[]⟩
theorem q138K(k:Nat):Contract Tryz.prog 34 (q138V k):=ctr (q138C k) (rs := [(.bool,false)]) (ps:=q138p) (q138F k) Tryz.f34 32 ⟨tyOf_ok tys_ok,gOf_ok ⟨q5K,q137K k,trivial⟩⟩ (annl [] trivial)

noncomputable def q139V(k:Nat):Variant:=⟨[.val ty_22 true,.val ty_22 true],[(.bool,false)],fun x=>laws_intactBox k x.1 x.2.1⟩
noncomputable def q139C(k:Nat):Cfg:=⟨Tryz.prog,tyOf tys,22,gOf [(34,[],q138V k)],false,[],[]⟩
def q139p:List PE := [⟨0,0,.val ty_22 true,false⟩,⟨1,16,.val ty_22 true,false⟩]
noncomputable def q139F(k:Nat):F2:=⟨q139C k,rr q139p [(.bool,false)] Tryz.f12,fun p=>none,0,[]⟩
theorem q139K(k:Nat):Contract Tryz.prog 12 (q139V k):=ctr (q139C k) (rs := [(.bool,false)]) (ps:=q139p) (q139F k) Tryz.f12 32 ⟨tyOf_ok tys_ok,gOf_ok ⟨q138K k,trivial⟩⟩ (annl [] trivial)

noncomputable def laws_FnExactCubeDegree_V(k:Nat):Variant:=⟨[.val ty_5 false,.val ty_9 true,.val ty_0 false],[(.bool,false)],fun x=>laws_FnExactCubeDegree k x.1 x.2.1 x.2.2.1⟩
noncomputable def laws_FnExactCubeDegree_C(k:Nat):Cfg:=⟨Tryz.prog,tyOf tys,81,gOf [(5,[],q2V k),(6,[],q4V),(8,[],q9V k),(9,[],q11V k),(7,[],q66V k),(10,[],q131V k),(11,[],q136V k),(12,[],q139V k)],false,[],[]⟩
def laws_FnExactCubeDegree_ps:List PE := [e7,e32,e21]
noncomputable def laws_FnExactCubeDegree_F(k:Nat):F2:=⟨laws_FnExactCubeDegree_C k,rr laws_FnExactCubeDegree_ps [(.bool,false)] Tryz.f3,fun p=>none,0,[]⟩
theorem laws_FnExactCubeDegree_K(k:Nat):Contract Tryz.prog 3 (laws_FnExactCubeDegree_V k):=ctr (laws_FnExactCubeDegree_C k) (rs := [(.bool,false)]) (ps:=laws_FnExactCubeDegree_ps) (laws_FnExactCubeDegree_F k) Tryz.f3 48 ⟨tyOf_ok tys_ok,gOf_ok ⟨q2K k,q4K,q9K k,q11K k,q66K k,q131K k,q136K k,q139K k,trivial⟩⟩ (annl [] trivial)
end Go.Ev.G
