/- The contracts of the functions behind FnExactDegreesOfParts: a call of each returns what its plain function computes; for all inputs within the sizes named. -/
import Derived.Test.YtmlkiaicppkigaaGreatPDegreesOfParts1
import Derived.Test.YtmlkiaicppkigaaGreatProg
set_option linter.unusedVariables false
set_option linter.unusedSectionVars false
namespace Go.Ev.G
open Go Go.Ev Go.Proofs
set_option maxRecDepth 100000
variable [KSl]
abbrev ty_0:Ty:=(.int .i64)

abbrev ty_1:Ty:=(.pair ty_0 ty_0)

abbrev ty_2:Ty:=(.pair ty_0 ty_1)

abbrev ty_3:Ty:=(.pair ty_0 ty_2)

abbrev ty_4:Ty:=(.sl ty_3)

abbrev ty_5:Ty:=(.sl ty_4)

abbrev ty_6:Ty:=(.rm ty_3)

abbrev ty_7:Ty:=(.sl ty_0)

abbrev ty_8:Ty:=(.pair ty_7 ty_7)

abbrev ty_9:Ty:=(.pair ty_0 ty_8)

abbrev ty_10:Ty:=(.pair ty_1 ty_1)

abbrev ty_11:Ty:=(.pair ty_1 ty_10)

abbrev ty_12:Ty:=(.pair ty_0 ty_11)

abbrev ty_13:Ty:=(.sl ty_1)

abbrev ty_14:Ty:=(.sl ty_10)

abbrev ty_15:Ty:=(.sl ty_9)

abbrev ty_16:Ty:=(.sl ty_7)

abbrev ty_17:Ty:=(.int .u64)

abbrev ty_18:Ty:=(.pair ty_17 ty_17)

abbrev ty_19:Ty:=(.pair .bool ty_18)

abbrev ty_20:Ty:=(.rm ty_6)

abbrev ty_21:Ty:=(.rm ty_0)

abbrev ty_22:Ty:=(.pair ty_21 ty_21)

abbrev ty_23:Ty:=(.pair ty_0 ty_22)

abbrev ty_24:Ty:=(.sl ty_12)

def tys:List (TypeId×Ty) := [(3,ty_0),(23,ty_7),(32,ty_9),(75,ty_1),(103,ty_12),(124,ty_10)]

theorem tys_ok:AllT Tryz.prog tys:=⟨⟨_,_,rfl,rfl,rfl,rfl⟩,⟨_,_,rfl,rfl,rfl,rfl⟩,⟨_,_,rfl,rfl,rfl,rfl⟩,⟨_,_,rfl,rfl,rfl,rfl⟩,⟨_,_,rfl,rfl,rfl,rfl⟩,⟨_,_,rfl,rfl,rfl,rfl⟩,trivial⟩

def tysR:List (TypeId×Ty) := [(3,ty_0),(50,ty_6),(53,ty_3)]

theorem tysR_ok:AllT Tryz.prog tysR:=⟨⟨_,_,rfl,rfl,rfl,rfl⟩,⟨_,_,rfl,rfl,rfl,rfl⟩,⟨_,_,rfl,rfl,rfl,rfl⟩,trivial⟩

theorem mix_ok:Tryz.prog.follows .mixedOrders=true:=by kernel_rfl

theorem ctr{g:FuncId}(C:Cfg){rs:List (Ty×Bool)}{ps:List PE}(F:Fn (CT (rs.map (·.1)++outs (ps.map (·.b)))))(fn:Func)(nx:Nat){f:PT (ps.map (·.b))→Option (CT (rs.map (·.1)++outs (ps.map (·.b))))}
  (hC:CfgOk C) (hann:AnnOk F (codeOf fn) 1) (hP:C.P=Tryz.prog:=by rfl) (hF:F.C=C:=by rfl) (hfn:C.P.funcs[g]? = some fn:=by kernel_rfl) (hb:fn.body=some (codeOf fn):=by kernel_rfl) (hn:(fn.name == "runtime.NumGoroutine")=false:=by kernel_rfl)
  (hnt:C.ntmps=fn.ntmps:=by kernel_rfl) (hle:Nat.ble ps.length fn.ntmps=true:=by kernel_rfl) (hpar:parOk 0 ps=true:=by kernel_rfl) (hfin:F.fin=rdRes C.P ps rs fn.results.toList .ret:=by rfl)
  (hpins:F.pins=pinIds ps:=by kernel_rfl) (hnd:nodupB F.pins=true:=by kernel_rfl) (hf:∀x,evFn F (codeOf fn) ps nx x=f x:=by intro x;kernel_rfl):Contract C.P g ⟨ps.map (·.b),rs,f⟩ :=
 contract hC hF hfn hb hn hnt hle hpar hfin hpins hnd hann (hP ▸ mix_ok) hf

theorem annl{R:Type}{F:Fn R}{c:Code}(l:List Nat)(hl:AllL F (l.map fun p=>(p,loopB c p)))(h:loopsOf c 1=l.map (fun p=>(p,loopB c p)):=by kernel_rfl):AnnOk F c 1:=AnnOk_list _ h hl

theorem lok{R:Type}{F:Fn R}{c:Code}{p:Nat}(pin pout:List PE)(ex nx:Nat)(Lf:Nat→PTe pin→Option (R ⊕ PTe pout))(k:Nat)(h:F.an p=some (.loop pin pout ex nx (Lf k)):=by kernel_rfl)(h0:∀x,Lf 0 x=none:=by intro x;rfl)
  (hs:∀n x,roundOf F c p pin pout ex nx (Lf n) x=Lf (n+1) x:=by intro n x;kernel_rfl):LoopOk F c p:=LoopOk.mk (pin:=pin) (pout:=pout) h h0 hs

noncomputable def rr(ps:List PE)(rs:List (Ty×Bool))(f:Func):=rdRes Tryz.prog ps rs f.results.toList .ret

abbrev e1:PE:=⟨0,0,.val ty_4 false,false⟩
abbrev e2:PE:=⟨1,16,.val ty_0 false,false⟩
abbrev F1:Type 1:=Fn (Int)
abbrev e3:PE:=⟨0,32,.val ty_5 false,false⟩
abbrev e4:PE:=⟨1,48,.val ty_0 false,false⟩
abbrev e5:PE:=⟨5,64,.val ty_0 false,false⟩
abbrev e6:PE:=⟨1,32,.val ty_0 false,false⟩
abbrev e7:PE:=⟨0,0,.val ty_5 false,false⟩
abbrev e8:PE:=⟨0,0,.val ty_7 false,false⟩
abbrev e9:PE:=⟨0,0,.val ty_9 true,false⟩
abbrev e10:PE:=⟨0,0,.val ty_0 false,false⟩
abbrev e11:PE:=⟨0,0,.val ty_3 true,false⟩
abbrev e12:PE:=⟨0,32,.val ty_4 false,false⟩
abbrev e13:PE:=⟨5,48,.eat ty_3,false⟩
abbrev e14:PE:=⟨6,64,.val ty_0 false,false⟩
abbrev e15:PE:=⟨7,64,.val ty_0 false,false⟩
abbrev e16:PE:=⟨1,16,.val .bool false,false⟩
abbrev e17:PE:=⟨6,80,.val ty_0 false,false⟩
abbrev e18:PE:=⟨5,48,.eat ty_6,false⟩
abbrev e19:PE:=⟨0,32,.val ty_7 false,false⟩
abbrev e20:PE:=⟨5,48,.eat ty_0,false⟩
abbrev e21:PE:=⟨2,32,.val ty_0 false,false⟩
abbrev F2:Type 1:=Fn (Bool)
abbrev e22:PE:=⟨1,16,.box ty_9 false,false⟩
abbrev e23:PE:=⟨3,32,.val ty_0 false,false⟩
abbrev F3:Type 1:=Fn (List Int)
abbrev e24:PE:=⟨7,48,.val ty_0 false,false⟩
abbrev e25:PE:=⟨8,64,.val ty_0 false,false⟩
abbrev e26:PE:=⟨6,48,.box ty_9 true,false⟩
abbrev e27:PE:=⟨8,64,.box ty_9 true,false⟩
abbrev e28:PE:=⟨30,96,.val ty_0 false,false⟩
abbrev e29:PE:=⟨1,16,.val ty_7 false,false⟩
abbrev F4:Type 1:=Fn ((Int×(List Int)×List Int)×Bool)
abbrev F5:Type 1:=Fn ((List (Int×(List Int)×List Int))×Bool)
abbrev e30:PE:=⟨0,0,.val ty_1 true,false⟩
abbrev e31:PE:=⟨0,32,.val ty_0 false,false⟩
abbrev e32:PE:=⟨4,64,.box ty_1 false,false⟩
abbrev F6:Type 1:=Fn ((Int×Int)×Bool)
abbrev F7:Type 1:=Fn (Int×Int)
abbrev e33:PE:=⟨2,32,.box ty_1 false,false⟩
abbrev F8:Type 1:=Fn (Int×Bool)
abbrev e34:PE:=⟨1,16,.val ty_1 true,false⟩
abbrev e35:PE:=⟨1,16,.val ty_9 true,false⟩
abbrev e36:PE:=⟨40,96,.val ty_0 false,false⟩
abbrev e37:PE:=⟨12,32,.eat ty_9,false⟩
abbrev e38:PE:=⟨1,16,.val ty_3 true,false⟩
abbrev e39:PE:=⟨0,16,.val ty_4 false,false⟩
abbrev e40:PE:=⟨6,48,.val ty_0 false,false⟩
abbrev e41:PE:=⟨5,48,.val ty_0 false,false⟩
abbrev e42:PE:=⟨9,80,.val ty_0 false,false⟩
abbrev e43:PE:=⟨0,16,.val ty_5 false,false⟩
abbrev F9:Type 1:=Fn (List (Int×(Int×Int)×(Int×Int)×Int×Int))
abbrev e44:PE:=⟨2,16,.box ty_10 false,false⟩
abbrev e45:PE:=⟨3,32,.box ty_10 false,false⟩
abbrev e46:PE:=⟨15,96,.val ty_0 false,false⟩
abbrev F10:Type 1:=Fn ((Int×Int)×Int×Int)
abbrev e47:PE:=⟨3,48,.box ty_1 false,false⟩
abbrev e48:PE:=⟨0,0,.val ty_10 true,false⟩
abbrev e49:PE:=⟨4,32,.box ty_10 false,false⟩
abbrev F11:Type 1:=Fn (((Int×Int)×Int×Int)×Bool)
abbrev e50:PE:=⟨4,48,.box ty_10 false,false⟩
abbrev e51:PE:=⟨6,64,.eat ty_1,false⟩
abbrev e52:PE:=⟨1,16,.val ty_10 true,false⟩
abbrev e53:PE:=⟨2,32,.val ty_1 true,false⟩
abbrev e54:PE:=⟨1,32,.val ty_14 false,false⟩
abbrev e55:PE:=⟨6,64,.box ty_10 false,false⟩
abbrev e56:PE:=⟨1,16,.val ty_14 false,false⟩
abbrev e57:PE:=⟨0,48,.val ty_5 false,false⟩
abbrev F12:Type 1:=Fn ((List Int)×Bool)
abbrev e58:PE:=⟨9,48,.val ty_4 false,false⟩
abbrev e59:PE:=⟨10,64,.val ty_0 false,false⟩
abbrev e60:PE:=⟨11,80,.val ty_0 false,false⟩
abbrev e61:PE:=⟨0,0,.ptr ty_9 false,false⟩
abbrev e62:PE:=⟨1,16,.ptr ty_9 false,false⟩
abbrev e63:PE:=⟨8,80,.val ty_0 false,false⟩
abbrev e64:PE:=⟨0,32,.ptr ty_9 false,false⟩
abbrev e65:PE:=⟨8,80,.eat ty_9,false⟩
abbrev F13:Type 1:=Fn (Bool×Int×Int)
abbrev e66:PE:=⟨0,0,.val ty_19 true,false⟩
abbrev e67:PE:=⟨5,32,.ptr ty_0 false,false⟩
abbrev e68:PE:=⟨6,48,.fn 95 [(ty_9,.pp),(ty_0,.pr),(ty_0,.pr)],false⟩
abbrev e69:PE:=⟨7,64,.eat ty_12,false⟩
abbrev e70:PE:=⟨9,96,.val ty_0 false,false⟩
abbrev e71:PE:=⟨10,112,.box ty_1 false,false⟩
abbrev e72:PE:=⟨17,128,.val ty_0 false,false⟩
abbrev e73:PE:=⟨0,0,.val ty_17 false,false⟩
abbrev e74:PE:=⟨1,16,.val ty_19 true,false⟩
abbrev e75:PE:=⟨0,0,.ptr .bool true,true⟩
abbrev e76:PE:=⟨6,64,.box .bool false,false⟩
abbrev e77:PE:=⟨7,80,.box ty_10 false,false⟩
abbrev e78:PE:=⟨0,0,.own ty_3,true⟩
abbrev e79:PE:=⟨0,0,.own ty_4,true⟩
abbrev e80:PE:=⟨0,0,.own ty_0,true⟩

noncomputable def q1V:Variant:=⟨[.val ty_4 false,.val ty_0 false],[(ty_0,false)],fun x=>laws_szTermS x.1 x.2.1⟩
noncomputable def q1C:Cfg:=⟨Tryz.prog,tyOf tys,12,gOf [],false,[],[]⟩
def q1p:List PE := [e1,e2]
noncomputable def q1F:F1:=⟨q1C,rr q1p [(ty_0,false)] Tryz.f17,fun p=>none,0,[]⟩
theorem q1K:Contract Tryz.prog 17 (q1V):=ctr q1C (rs := [(ty_0,false)]) (ps:=q1p) q1F Tryz.f17 32 ⟨tyOf_ok tys_ok,gOf_ok trivial⟩ (annl [] trivial)

noncomputable def q2V(k:Nat):Variant:=⟨[.val ty_5 false,.val ty_0 false],[(ty_0,false)],fun x=>laws_szTermSS k x.1 x.2.1⟩
noncomputable def q2C(k:Nat):Cfg:=⟨Tryz.prog,tyOf tys,27,gOf [(17,[],q1V)],false,[],[]⟩
def q2i1:List PE := [e3,e4,e5]
def q2o1:List PE := [e6]
noncomputable def q2f1(k:Nat)(n:Nat)(x2:PTe q2i1):=laws_szTermSS_L122 k n x2.1 x2.2.1 x2.2.2.1
def q2p:List PE := [e7,e2]
noncomputable def q2F(k:Nat):F1:=⟨q2C k,rr q2p [(ty_0,false)] Tryz.f4,fun p=>bif Nat.beq p 122 then some (.loop q2i1 q2o1 0 80 (q2f1 k k))else none,0,[]⟩
theorem q2K(k:Nat):Contract Tryz.prog 4 (q2V k):=ctr (q2C k) (rs := [(ty_0,false)]) (ps:=q2p) (q2F k) Tryz.f4 32 ⟨tyOf_ok tys_ok,gOf_ok ⟨q1K,trivial⟩⟩ (annl [122] ⟨lok q2i1 q2o1 0 80 (q2f1 k) k,trivial⟩)

noncomputable def q3V:Variant:=⟨[.val ty_7 false,.val ty_0 false],[(ty_0,false)],fun x=>laws_szIntS x.1 x.2.1⟩
noncomputable def q3C:Cfg:=⟨Tryz.prog,tyOf tys,12,gOf [],false,[],[]⟩
def q3p:List PE := [e8,e2]
noncomputable def q3F:F1:=⟨q3C,rr q3p [(ty_0,false)] Tryz.f18,fun p=>none,0,[]⟩
theorem q3K:Contract Tryz.prog 18 (q3V):=ctr q3C (rs := [(ty_0,false)]) (ps:=q3p) q3F Tryz.f18 32 ⟨tyOf_ok tys_ok,gOf_ok trivial⟩ (annl [] trivial)

noncomputable def q4V:Variant:=⟨[.val ty_9 true,.val ty_0 false],[(ty_0,false)],fun x=>laws_szBox x.1 x.2.1⟩
noncomputable def q4C:Cfg:=⟨Tryz.prog,tyOf tys,18,gOf [(18,[],q3V)],false,[],[]⟩
def q4p:List PE := [e9,e2]
noncomputable def q4F:F1:=⟨q4C,rr q4p [(ty_0,false)] Tryz.f5,fun p=>none,0,[]⟩
theorem q4K:Contract Tryz.prog 5 (q4V):=ctr q4C (rs := [(ty_0,false)]) (ps:=q4p) q4F Tryz.f5 32 ⟨tyOf_ok tys_ok,gOf_ok ⟨q3K,trivial⟩⟩ (annl [] trivial)

noncomputable def q5V:Variant:=⟨[.val ty_0 false],[(ty_0,false)],fun x=>laws_roomBehind x.1⟩
noncomputable def q5C:Cfg:=⟨Tryz.prog,tyOf tys,10,gOf [],false,[],[]⟩
def q5p:List PE := [e10]
noncomputable def q5F:F1:=⟨q5C,rr q5p [(ty_0,false)] Tryz.f22,fun p=>none,0,[]⟩
theorem q5K:Contract Tryz.prog 22 (q5V):=ctr q5C (rs := [(ty_0,false)]) (ps:=q5p) q5F Tryz.f22 16 ⟨tyOf_ok tys_ok,gOf_ok trivial⟩ (annl [] trivial)

noncomputable def q6V:Variant:=⟨[.val ty_3 true],[(ty_3,true)],fun x=>laws_toTerm x.1⟩
noncomputable def q6C:Cfg:=⟨Tryz.prog,tyOf tysR,17,gOf [],true,[],[]⟩
def q6p:List PE := [e11]
noncomputable def q6F:Fn (Int×Int×Int×Int):=⟨q6C,rr q6p [(ty_3,true)] Tryz.f42,fun p=>none,0,[]⟩
theorem q6K:Contract Tryz.prog 42 (q6V):=ctr q6C (rs := [(ty_3,true)]) (ps:=q6p) q6F Tryz.f42 16 ⟨tyOf_ok tysR_ok,gOf_ok trivial⟩ (annl [] trivial)

noncomputable def q7V:Variant:=⟨[],[(ty_3,true)],fun x=>laws_fillerTerm⟩
noncomputable def q7C:Cfg:=⟨Tryz.prog,tyOf tys,2,gOf [],false,[],[]⟩
def q7p:List PE := []
noncomputable def q7F:Fn (Int×Int×Int×Int):=⟨q7C,rr q7p [(ty_3,true)] Tryz.f24,fun p=>none,0,[]⟩
theorem q7K:Contract Tryz.prog 24 (q7V):=ctr q7C (rs := [(ty_3,true)]) (ps:=q7p) q7F Tryz.f24 0 ⟨tyOf_ok tys_ok,gOf_ok trivial⟩ (annl [] trivial)

noncomputable def q8V(k:Nat):Variant:=⟨[.val ty_4 false,.val .bool false],[(ty_6,false)],fun x=>laws_toTermS k x.1 x.2.1⟩
noncomputable def q8C(k:Nat):Cfg:=⟨Tryz.prog,tyOf tysR,51,gOf [(22,[],q5V),(42,[],q6V),(24,[],q7V)],true,[],[]⟩
def q8i1:List PE := [e12,e13,e14]
def q8o1:List PE := [e12,e13]
noncomputable def q8f1(k:Nat)(n:Nat)(x4:PTe q8i1):=laws_toTermS_L122 k n x4.1 x4.2.1 x4.2.2.1
def q8i2:List PE := [e12,e13,e15]
def q8o2:List PE := [e12,e13]
noncomputable def q8f2(k:Nat)(n:Nat)(x8:PTe q8i2):=laws_toTermS_L250 k n x8.1 x8.2.1 x8.2.2.1
def q8p:List PE := [e1,e16]
noncomputable def q8F(k:Nat):Fn (List (Int×Int×Int×Int)×List (Int×Int×Int×Int)):=⟨q8C k,rr q8p [(ty_6,false)] Tryz.f23,fun p=>bif Nat.beq p 122 then some (.loop q8i1 q8o1 0 80 (q8f1 k k))else bif Nat.beq p 250 then some (.loop q8i2 q8o2 2 80 (q8f2 k k))else bif Nat.beq p 6 then some (.cut [e12] 48)else none,0,[]⟩
theorem q8K(k:Nat):Contract Tryz.prog 23 (q8V k):=ctr (q8C k) (rs := [(ty_6,false)]) (ps:=q8p) (q8F k) Tryz.f23 32 ⟨tyOf_ok tysR_ok,gOf_ok ⟨q5K,q6K,q7K,trivial⟩⟩ (annl [122,250] ⟨lok q8i1 q8o1 0 80 (q8f1 k) k,lok q8i2 q8o2 2 80 (q8f2 k) k,trivial⟩)

noncomputable def q9V(k:Nat):Variant:=⟨[.val ty_5 false,.val .bool false],[(ty_20,false)],fun x=>laws_toTermSS k x.1 x.2.1⟩
noncomputable def q9C(k:Nat):Cfg:=⟨Tryz.prog,tyOf tysR,53,gOf [(22,[],q5V),(23,[],q8V k),(24,[],q7V)],true,[5,27,39,44],[]⟩
def q9i1:List PE := [e3,⟨1,48,.val .bool false,false⟩,⟨5,64,.eat ty_6,false⟩,e17]
def q9o1:List PE := [e3,e18]
noncomputable def q9f1(k:Nat)(n:Nat)(x4:PTe q9i1):=laws_toTermSS_L122 k n x4.1 x4.2.1 x4.2.2.1 x4.2.2.2.1
def q9i2:List PE := [e3,e18,e15]
def q9o2:List PE := [e3,e18]
noncomputable def q9f2(k:Nat)(n:Nat)(x8:PTe q9i2):=laws_toTermSS_L250 k n x8.1 x8.2.1 x8.2.2.1
def q9p:List PE := [e7,e16]
noncomputable def q9F(k:Nat):Fn (List (List (Int×Int×Int×Int)×List (Int×Int×Int×Int))×List (List (Int×Int×Int×Int)×List (Int×Int×Int×Int))):=⟨q9C k,rr q9p [(ty_20,false)] Tryz.f7,fun p=>bif Nat.beq p 122 then some (.loop q9i1 q9o1 0 96 (q9f1 k k))else bif Nat.beq p 250 then some (.loop q9i2 q9o2 2 80 (q9f2 k k))else bif Nat.beq p 6 then some (.cut [e3,⟨1,48,.val .bool false,false⟩] 64)else none,0,[]⟩
theorem q9K(k:Nat):Contract Tryz.prog 7 (q9V k):=ctr (q9C k) (rs := [(ty_20,false)]) (ps:=q9p) (q9F k) Tryz.f7 32 ⟨tyOf_ok tysR_ok,gOf_ok ⟨q5K,q8K k,q7K,trivial⟩⟩ (annl [122,250] ⟨lok q9i1 q9o1 0 96 (q9f1 k) k,lok q9i2 q9o2 2 80 (q9f2 k) k,trivial⟩)

noncomputable def q10V(k:Nat):Variant:=⟨[.val ty_7 false,.val .bool false],[(ty_21,false)],fun x=>laws_toIntS k x.1 x.2.1⟩
noncomputable def q10C(k:Nat):Cfg:=⟨Tryz.prog,tyOf tysR,49,gOf [(22,[],q5V)],true,[],[]⟩
def q10i1:List PE := [e19,e20,e14]
def q10o1:List PE := [e19,e20]
noncomputable def q10f1(k:Nat)(n:Nat)(x3:PTe q10i1):=laws_toIntS_L122 k n x3.1 x3.2.1 x3.2.2.1
def q10i2:List PE := [e19,e20,e15]
def q10o2:List PE := [e19,e20]
noncomputable def q10f2(k:Nat)(n:Nat)(x6:PTe q10i2):=laws_toIntS_L250 k n x6.1 x6.2.1 x6.2.2.1
def q10p:List PE := [e8,e16]
noncomputable def q10F(k:Nat):Fn (List Int×List Int):=⟨q10C k,rr q10p [(ty_21,false)] Tryz.f25,fun p=>bif Nat.beq p 122 then some (.loop q10i1 q10o1 0 80 (q10f1 k k))else bif Nat.beq p 250 then some (.loop q10i2 q10o2 2 80 (q10f2 k k))else bif Nat.beq p 6 then some (.cut [e19] 48)else none,0,[]⟩
theorem q10K(k:Nat):Contract Tryz.prog 25 (q10V k):=ctr (q10C k) (rs := [(ty_21,false)]) (ps:=q10p) (q10F k) Tryz.f25 32 ⟨tyOf_ok tysR_ok,gOf_ok ⟨q5K,trivial⟩⟩ (annl [122,250] ⟨lok q10i1 q10o1 0 80 (q10f1 k) k,lok q10i2 q10o2 2 80 (q10f2 k) k,trivial⟩)

noncomputable def q11V(k:Nat):Variant:=⟨[.val ty_9 true,.val .bool false],[(ty_23,true)],fun x=>laws_toBox k x.1 x.2.1⟩
noncomputable def q11C(k:Nat):Cfg:=⟨Tryz.prog,tyOf tysR,20,gOf [(25,[],q10V k)],true,[],[]⟩
def q11p:List PE := [e9,e16]
noncomputable def q11F(k:Nat):Fn (Int×(List Int×List Int)×List Int×List Int):=⟨q11C k,rr q11p [(ty_23,true)] Tryz.f8,fun p=>none,0,[]⟩
theorem q11K(k:Nat):Contract Tryz.prog 8 (q11V k):=ctr (q11C k) (rs := [(ty_23,true)]) (ps:=q11p) (q11F k) Tryz.f8 32 ⟨tyOf_ok tysR_ok,gOf_ok ⟨q10K k,trivial⟩⟩ (annl [] trivial)

noncomputable def q12V:Variant:=⟨[.val ty_0 false,.val ty_0 false,.val ty_0 false],[(.bool,false)],fun x=>spec_l1In x.1 x.2.1 x.2.2.1⟩
noncomputable def q12C:Cfg:=⟨Tryz.prog,tyOf tys,15,gOf [],false,[],[]⟩
def q12p:List PE := [e10,e2,e21]
noncomputable def q12F:F2:=⟨q12C,rr q12p [(.bool,false)] Tryz.f35,fun p=>none,0,[]⟩
theorem q12K:Contract Tryz.prog 35 (q12V):=ctr q12C (rs := [(.bool,false)]) (ps:=q12p) q12F Tryz.f35 48 ⟨tyOf_ok tys_ok,gOf_ok trivial⟩ (annl [] trivial)

noncomputable def q13V:Variant:=⟨[.val ty_0 false],[(ty_0,false)],fun x=>spec_dyPower x.1⟩
noncomputable def q13C:Cfg:=⟨Tryz.prog,tyOf tys,6,gOf [],false,[],[]⟩
def q13p:List PE := [e10]
noncomputable def q13F:F1:=⟨q13C,rr q13p [(ty_0,false)] Tryz.f52,fun p=>none,0,[]⟩
theorem q13K:Contract Tryz.prog 52 (q13V):=ctr q13C (rs := [(ty_0,false)]) (ps:=q13p) q13F Tryz.f52 16 ⟨tyOf_ok tys_ok,gOf_ok trivial⟩ (annl [] trivial)

noncomputable def q14V(k:Nat):Variant:=⟨[.val ty_9 true],[(.bool,false)],fun x=>spec_bxGood k x.1⟩
noncomputable def q14C(k:Nat):Cfg:=⟨Tryz.prog,tyOf tys,80,gOf [(35,[],q12V),(52,[],q13V)],false,[],[]⟩
def q14i1:List PE := [e22,e23,⟨4,48,.val .bool false,false⟩,⟨36,64,.val ty_7 false,false⟩,⟨37,80,.val ty_0 false,false⟩,⟨38,96,.val ty_0 false,false⟩]
def q14o1:List PE := [⟨4,16,.val .bool false,false⟩]
noncomputable def q14f1(k:Nat)(n:Nat)(x6:PTe q14i1):=spec_bxGood_L250 k n x6.1 x6.2.1 x6.2.2.1 x6.2.2.2.1 x6.2.2.2.2.1 x6.2.2.2.2.2.1
def q14p:List PE := [e9]
noncomputable def q14F(k:Nat):F2:=⟨q14C k,rr q14p [(.bool,false)] Tryz.f34,fun p=>bif Nat.beq p 250 then some (.loop q14i1 q14o1 0 112 (q14f1 k k))else none,0,[]⟩
theorem q14K(k:Nat):Contract Tryz.prog 34 (q14V k):=ctr (q14C k) (rs := [(.bool,false)]) (ps:=q14p) (q14F k) Tryz.f34 16 ⟨tyOf_ok tys_ok,gOf_ok ⟨q12K,q13K,trivial⟩⟩ (annl [250] ⟨lok q14i1 q14o1 0 112 (q14f1 k) k,trivial⟩)

noncomputable def q15V:Variant:=⟨[.val ty_7 false],[(ty_7,false)],fun x=>spec_l1Own x.1⟩
noncomputable def q15C:Cfg:=⟨Tryz.prog,tyOf tys,6,gOf [],false,[],[]⟩
def q15p:List PE := [e8]
noncomputable def q15F:F3:=⟨q15C,rr q15p [(ty_7,false)] Tryz.f36,fun p=>none,0,[]⟩
theorem q15K:Contract Tryz.prog 36 (q15V):=ctr q15C (rs := [(ty_7,false)]) (ps:=q15p) q15F Tryz.f36 16 ⟨tyOf_ok tys_ok,gOf_ok trivial⟩ (annl [] trivial)

noncomputable def q16V(k:Nat):Variant:=⟨[.val ty_9 true],[(ty_7,false),(ty_7,false)],fun x=>spec_bxFine k x.1⟩
noncomputable def q16C(k:Nat):Cfg:=⟨Tryz.prog,tyOf tys,33,gOf [],false,[],[]⟩
def q16i1:List PE := [e22,⟨4,32,.eat ty_0,false⟩,e20,⟨9,64,.val ty_7 false,false⟩,⟨10,80,.val ty_0 false,false⟩,⟨11,96,.val ty_0 false,false⟩]
def q16o1:List PE := [⟨4,16,.eat ty_0,false⟩,⟨5,32,.eat ty_0,false⟩]
noncomputable def q16f1(k:Nat)(n:Nat)(x1:PTe q16i1):=spec_bxFine_L58 k n x1.1 x1.2.1 x1.2.2.1 x1.2.2.2.1 x1.2.2.2.2.1 x1.2.2.2.2.2.1
def q16p:List PE := [e9]
noncomputable def q16F(k:Nat):Fn ((List Int)×List Int):=⟨q16C k,rr q16p [(ty_7,false),(ty_7,false)] Tryz.f68,fun p=>bif Nat.beq p 58 then some (.loop q16i1 q16o1 0 112 (q16f1 k k))else none,0,[]⟩
theorem q16K(k:Nat):Contract Tryz.prog 68 (q16V k):=ctr (q16C k) (rs := [(ty_7,false),(ty_7,false)]) (ps:=q16p) (q16F k) Tryz.f68 16 ⟨tyOf_ok tys_ok,gOf_ok trivial⟩ (annl [58] ⟨lok q16i1 q16o1 0 112 (q16f1 k) k,trivial⟩)

noncomputable def q17V(k:Nat):Variant:=⟨[.val ty_9 true],[(.bool,false)],fun x=>spec_bxEven k x.1⟩
noncomputable def q17C(k:Nat):Cfg:=⟨Tryz.prog,tyOf tys,26,gOf [],false,[],[]⟩
def q17i1:List PE := [e22,⟨6,32,.val ty_7 false,false⟩,e24,e25]
def q17o1:List PE := []
noncomputable def q17f1(k:Nat)(n:Nat)(x1:PTe q17i1):=spec_bxEven_L26 k n x1.1 x1.2.1 x1.2.2.1 x1.2.2.2.1
def q17p:List PE := [e9]
noncomputable def q17F(k:Nat):F2:=⟨q17C k,rr q17p [(.bool,false)] Tryz.f87,fun p=>bif Nat.beq p 26 then some (.loop q17i1 q17o1 0 80 (q17f1 k k))else none,0,[]⟩
theorem q17K(k:Nat):Contract Tryz.prog 87 (q17V k):=ctr (q17C k) (rs := [(.bool,false)]) (ps:=q17p) (q17F k) Tryz.f87 16 ⟨tyOf_ok tys_ok,gOf_ok trivial⟩ (annl [26] ⟨lok q17i1 q17o1 0 80 (q17f1 k) k,trivial⟩)

noncomputable def q18V(k:Nat):Variant:=⟨[.val ty_0 false,.val ty_7 false,.val ty_7 false],[(ty_9,true),(.bool,false)],fun x=>spec_bxMake k x.1 x.2.1 x.2.2.1⟩
noncomputable def q18C(k:Nat):Cfg:=⟨Tryz.prog,tyOf tys,53,gOf [(36,[],q15V),(87,[],q17V k),(34,[],q14V k)],false,[],[]⟩
def q18i1:List PE := [e26,e27,⟨29,80,.val ty_0 false,false⟩,e28]
def q18o1:List PE := [e26,e27]
noncomputable def q18f1(k:Nat)(n:Nat)(x4:PTe q18i1):=spec_bxMake_L1814 k n x4.1 x4.2.1 x4.2.2.1 x4.2.2.2.1
def q18i2:List PE := [e26,e27]
def q18o2:List PE := [e26,e27]
noncomputable def q18f2(k:Nat)(n:Nat)(x7:PTe q18i2):=spec_bxMake_L28 k n x7.1 x7.2.1
def q18p:List PE := [e10,e29,⟨2,32,.val ty_7 false,false⟩]
noncomputable def q18F(k:Nat):F4:=⟨q18C k,rr q18p [(ty_9,true),(.bool,false)] Tryz.f69,fun p=>bif Nat.beq p 1814 then some (.loop q18i1 q18o1 2 112 (q18f1 k k))else bif Nat.beq p 28 then some (.loop q18i2 q18o2 0 80 (q18f2 k k))else none,0,[]⟩
theorem q18K(k:Nat):Contract Tryz.prog 69 (q18V k):=ctr (q18C k) (rs := [(ty_9,true),(.bool,false)]) (ps:=q18p) (q18F k) Tryz.f69 48 ⟨tyOf_ok tys_ok,gOf_ok ⟨q15K,q17K k,q14K k,trivial⟩⟩ (annl [28,1814] ⟨lok q18i2 q18o2 0 80 (q18f2 k) k,lok q18i1 q18o1 2 112 (q18f1 k) k,trivial⟩)

noncomputable def q19V(k:Nat):Variant:=⟨[.val ty_9 true,.val ty_0 false],[(ty_15,false),(.bool,false)],fun x=>spec_bxHalves k x.1 x.2.1⟩
noncomputable def q19C(k:Nat):Cfg:=⟨Tryz.prog,tyOf tys,70,gOf [(68,[],q16V k),(36,[],q15V),(69,[],q18V k)],false,[],[]⟩
def q19p:List PE := [e9,e2]
noncomputable def q19F(k:Nat):F5:=⟨q19C k,rr q19p [(ty_15,false),(.bool,false)] Tryz.f53,fun p=>none,0,[]⟩
theorem q19K(k:Nat):Contract Tryz.prog 53 (q19V k):=ctr (q19C k) (rs := [(ty_15,false),(.bool,false)]) (ps:=q19p) (q19F k) Tryz.f53 32 ⟨tyOf_ok tys_ok,gOf_ok ⟨q16K k,q15K,q18K k,trivial⟩⟩ (annl [] trivial)

noncomputable def q20V(k:Nat):Variant:=⟨[.gob ty_9 true,.val ty_0 false],[(ty_15,false),(.bool,false)],fun x=>spec_bxParts k x.1 x.2.1⟩
noncomputable def q20W(rc:(Int×(List Int)×List Int)→Int→Option ((List (Int×(List Int)×List Int))×Bool)):Variant:=⟨[.gob ty_9 true,.val ty_0 false],[(ty_15,false),(.bool,false)],fun x=>rc x.1 x.2.1⟩
noncomputable def q20C(k:Nat)(rc:(Int×(List Int)×List Int)→Int→Option ((List (Int×(List Int)×List Int))×Bool)):Cfg:=⟨Tryz.prog,tyOf tys,52,gOf [(53,[],q19V k),(37,[],q20W rc)],false,[6,23,28,37],[100030,100039]⟩
def q20p:List PE := [⟨0,0,.gob ty_9 true,false⟩,e2]
noncomputable def q20F(k:Nat)(rc:(Int×(List Int)×List Int)→Int→Option ((List (Int×(List Int)×List Int))×Bool)):F5:=⟨q20C k rc,rr q20p [(ty_15,false),(.bool,false)] Tryz.f37,fun p=>none,0,[]⟩
theorem q20KB(k:Nat)(rc:(Int×(List Int)×List Int)→Int→Option ((List (Int×(List Int)×List Int))×Bool))(hrc:Contract Tryz.prog 37 (q20W rc)):Contract Tryz.prog 37 (q20W (spec_bxParts_B k rc)):=ctr (q20C k rc) (rs := [(ty_15,false),(.bool,false)]) (ps:=q20p) (q20F k rc) Tryz.f37 32 ⟨tyOf_ok tys_ok,gOf_ok ⟨q19K k,hrc,trivial⟩⟩ (annl [] trivial)
theorem q20KR(k:Nat):∀n,Contract Tryz.prog 37 (q20W (spec_bxParts_R k n))
 | 0=>contract_none fun _=>rfl
 | n+1=>q20KB k _ (q20KR k n)
theorem q20K(k:Nat):Contract Tryz.prog 37 (q20V k):=q20KR k k

noncomputable def q21V(k:Nat):Variant:=⟨[.val ty_9 true,.val ty_0 false],[(ty_15,false),(.bool,false)],fun x=>spec_bxParts_s k x.1 x.2.1⟩
noncomputable def q21C(k:Nat):Cfg:=⟨Tryz.prog,tyOf tys,52,gOf [(53,[],q19V k),(37,[],q20V k)],false,[6,23,28,37],[100030,100039]⟩
def q21p:List PE := [e9,e2]
noncomputable def q21F(k:Nat):F5:=⟨q21C k,rr q21p [(ty_15,false),(.bool,false)] Tryz.f37,fun p=>none,0,[]⟩
theorem q21K(k:Nat):Contract Tryz.prog 37 (q21V k):=ctr (q21C k) (rs := [(ty_15,false),(.bool,false)]) (ps:=q21p) (q21F k) Tryz.f37 32 ⟨tyOf_ok tys_ok,gOf_ok ⟨q19K k,q20K k,trivial⟩⟩ (annl [] trivial)

noncomputable def q22V:Variant:=⟨[.val ty_1 true],[(.bool,false)],fun x=>spec_dyGood x.1⟩
noncomputable def q22C:Cfg:=⟨Tryz.prog,tyOf tys,22,gOf [(35,[],q12V)],false,[],[]⟩
def q22p:List PE := [e30]
noncomputable def q22F:F2:=⟨q22C,rr q22p [(.bool,false)] Tryz.f89,fun p=>none,0,[]⟩
theorem q22K:Contract Tryz.prog 89 (q22V):=ctr q22C (rs := [(.bool,false)]) (ps:=q22p) q22F Tryz.f89 16 ⟨tyOf_ok tys_ok,gOf_ok ⟨q12K,trivial⟩⟩ (annl [] trivial)

noncomputable def q23V(k:Nat):Variant:=⟨[.val ty_0 false,.val ty_0 false],[(ty_1,true),(.bool,false)],fun x=>spec_dyMake k x.1 x.2.1⟩
noncomputable def q23C(k:Nat):Cfg:=⟨Tryz.prog,tyOf tys,32,gOf [(89,[],q22V)],false,[],[]⟩
def q23i1:List PE := [e31,e4,e32]
def q23o1:List PE := [e31,e4,e32]
noncomputable def q23f1(k:Nat)(n:Nat)(x2:PTe q23i1):=spec_dyMake_L28 k n x2.1 x2.2.1 x2.2.2.1
def q23p:List PE := [e10,e2]
noncomputable def q23F(k:Nat):F6:=⟨q23C k,rr q23p [(ty_1,true),(.bool,false)] Tryz.f73,fun p=>bif Nat.beq p 28 then some (.loop q23i1 q23o1 0 80 (q23f1 k k))else bif Nat.beq p 6 then some (.cut [e31,e4,e32] 80)else none,0,[]⟩
theorem q23K(k:Nat):Contract Tryz.prog 73 (q23V k):=ctr (q23C k) (rs := [(ty_1,true),(.bool,false)]) (ps:=q23p) (q23F k) Tryz.f73 32 ⟨tyOf_ok tys_ok,gOf_ok ⟨q22K,trivial⟩⟩ (annl [28] ⟨lok q23i1 q23o1 0 80 (q23f1 k) k,trivial⟩)

noncomputable def q24V(k:Nat):Variant:=⟨[.val ty_0 false,.val ty_0 false],[(ty_1,true)],fun x=>spec_bxNumber k x.1 x.2.1⟩
noncomputable def q24C(k:Nat):Cfg:=⟨Tryz.prog,tyOf tys,14,gOf [(73,[],q23V k)],false,[],[]⟩
def q24p:List PE := [e10,e2]
noncomputable def q24F(k:Nat):F7:=⟨q24C k,rr q24p [(ty_1,true)] Tryz.f55,fun p=>none,0,[]⟩
theorem q24K(k:Nat):Contract Tryz.prog 55 (q24V k):=ctr (q24C k) (rs := [(ty_1,true)]) (ps:=q24p) (q24F k) Tryz.f55 32 ⟨tyOf_ok tys_ok,gOf_ok ⟨q23K k,trivial⟩⟩ (annl [] trivial)

noncomputable def q25V:Variant:=⟨[.val ty_0 false,.val ty_0 false],[(ty_0,false)],fun x=>spec_dyDown x.1 x.2.1⟩
noncomputable def q25C:Cfg:=⟨Tryz.prog,tyOf tys,16,gOf [],false,[],[]⟩
def q25p:List PE := [e10,e2]
noncomputable def q25F:F1:=⟨q25C,rr q25p [(ty_0,false)] Tryz.f88,fun p=>none,0,[]⟩
theorem q25K:Contract Tryz.prog 88 (q25V):=ctr q25C (rs := [(ty_0,false)]) (ps:=q25p) q25F Tryz.f88 32 ⟨tyOf_ok tys_ok,gOf_ok trivial⟩ (annl [] trivial)

noncomputable def q26V:Variant:=⟨[.val ty_1 true],[(ty_0,false)],fun x=>spec_dyFloor x.1⟩
noncomputable def q26C:Cfg:=⟨Tryz.prog,tyOf tys,9,gOf [(52,[],q13V),(88,[],q25V)],false,[],[]⟩
def q26p:List PE := [e30]
noncomputable def q26F:F1:=⟨q26C,rr q26p [(ty_0,false)] Tryz.f70,fun p=>none,0,[]⟩
theorem q26K:Contract Tryz.prog 70 (q26V):=ctr q26C (rs := [(ty_0,false)]) (ps:=q26p) q26F Tryz.f70 16 ⟨tyOf_ok tys_ok,gOf_ok ⟨q13K,q25K,trivial⟩⟩ (annl [] trivial)

noncomputable def q27V:Variant:=⟨[.val ty_0 false],[(ty_0,false)],fun x=>spec_l1Sign x.1⟩
noncomputable def q27C:Cfg:=⟨Tryz.prog,tyOf tys,9,gOf [],false,[],[]⟩
def q27p:List PE := [e10]
noncomputable def q27F:F1:=⟨q27C,rr q27p [(ty_0,false)] Tryz.f71,fun p=>none,0,[]⟩
theorem q27K:Contract Tryz.prog 71 (q27V):=ctr q27C (rs := [(ty_0,false)]) (ps:=q27p) q27F Tryz.f71 16 ⟨tyOf_ok tys_ok,gOf_ok trivial⟩ (annl [] trivial)

noncomputable def q28V(k:Nat):Variant:=⟨[.val ty_1 true,.val ty_0 false],[(ty_0,false),(.bool,false)],fun x=>spec_dyAt k x.1 x.2.1⟩
noncomputable def q28C(k:Nat):Cfg:=⟨Tryz.prog,tyOf tys,30,gOf [(52,[],q13V),(35,[],q12V)],false,[],[]⟩
def q28i1:List PE := [e6,⟨2,48,.box ty_1 false,false⟩,e14]
def q28o1:List PE := [e33]
noncomputable def q28f1(k:Nat)(n:Nat)(x4:PTe q28i1):=spec_dyAt_L58 k n x4.1 x4.2.1 x4.2.2.1
def q28p:List PE := [e30,e2]
noncomputable def q28F(k:Nat):F8:=⟨q28C k,rr q28p [(ty_0,false),(.bool,false)] Tryz.f72,fun p=>bif Nat.beq p 58 then some (.loop q28i1 q28o1 0 80 (q28f1 k k))else none,0,[]⟩
theorem q28K(k:Nat):Contract Tryz.prog 72 (q28V k):=ctr (q28C k) (rs := [(ty_0,false),(.bool,false)]) (ps:=q28p) (q28F k) Tryz.f72 32 ⟨tyOf_ok tys_ok,gOf_ok ⟨q13K,q12K,trivial⟩⟩ (annl [58] ⟨lok q28i1 q28o1 0 80 (q28f1 k) k,trivial⟩)

noncomputable def q29V(k:Nat):Variant:=⟨[.val ty_1 true,.val ty_1 true],[(ty_0,false)],fun x=>spec_dyCmp k x.1 x.2.1⟩
noncomputable def q29C(k:Nat):Cfg:=⟨Tryz.prog,tyOf tys,56,gOf [(70,[],q26V),(71,[],q27V),(52,[],q13V),(72,[],q28V k)],false,[],[]⟩
def q29p:List PE := [e30,e34]
noncomputable def q29F(k:Nat):F1:=⟨q29C k,rr q29p [(ty_0,false)] Tryz.f54,fun p=>none,0,[]⟩
theorem q29K(k:Nat):Contract Tryz.prog 54 (q29V k):=ctr (q29C k) (rs := [(ty_0,false)]) (ps:=q29p) (q29F k) Tryz.f54 32 ⟨tyOf_ok tys_ok,gOf_ok ⟨q26K,q27K,q13K,q28K k,trivial⟩⟩ (annl [] trivial)

noncomputable def q30V(k:Nat):Variant:=⟨[.val ty_9 true,.val ty_9 true],[(.bool,false)],fun x=>spec_bxBefore k x.1 x.2.1⟩
noncomputable def q30C(k:Nat):Cfg:=⟨Tryz.prog,tyOf tys,34,gOf [(55,[],q24V k),(54,[],q29V k)],false,[],[]⟩
def q30i1:List PE := [⟨2,32,.box ty_9 false,false⟩,⟨3,48,.box ty_9 false,false⟩,⟨9,64,.val ty_7 false,false⟩,⟨10,80,.val ty_0 false,false⟩,⟨11,96,.val ty_0 false,false⟩]
def q30o1:List PE := []
noncomputable def q30f1(k:Nat)(n:Nat)(x4:PTe q30i1):=spec_bxBefore_L26 k n x4.1 x4.2.1 x4.2.2.1 x4.2.2.2.1 x4.2.2.2.2.1
def q30p:List PE := [e9,e35]
noncomputable def q30F(k:Nat):F2:=⟨q30C k,rr q30p [(.bool,false)] Tryz.f38,fun p=>bif Nat.beq p 26 then some (.loop q30i1 q30o1 0 112 (q30f1 k k))else none,0,[]⟩
theorem q30K(k:Nat):Contract Tryz.prog 38 (q30V k):=ctr (q30C k) (rs := [(.bool,false)]) (ps:=q30p) (q30F k) Tryz.f38 32 ⟨tyOf_ok tys_ok,gOf_ok ⟨q24K k,q29K k,trivial⟩⟩ (annl [26] ⟨lok q30i1 q30o1 0 112 (q30f1 k) k,trivial⟩)

noncomputable def q31V(k:Nat):Variant:=⟨[.val ty_9 true,.val ty_0 false],[(ty_15,false),(.bool,false)],fun x=>spec_PartsOf k x.1 x.2.1⟩
noncomputable def q31C(k:Nat):Cfg:=⟨Tryz.prog,tyOf tys,91,gOf [(34,[],q14V k),(35,[],q12V),(36,[],q15V),(37,[],q21V k),(38,[],q30V k)],false,[56],[100061,100080,100087,300012]⟩
def q31i1:List PE := [e6,⟨7,48,.eat ty_9,false⟩,⟨38,64,.eat ty_9,false⟩,⟨39,80,.val ty_0 false,false⟩,e36]
def q31o1:List PE := [e6,⟨7,48,.eat ty_9,false⟩]
noncomputable def q31f1(k:Nat)(n:Nat)(x6:PTe q31i1):=spec_PartsOf_L15434 k n x6.1 x6.2.1 x6.2.2.1 x6.2.2.2.1 x6.2.2.2.2.1
def q31i2:List PE := [e6,⟨6,48,.eat ty_9,false⟩]
def q31o2:List PE := [⟨6,32,.eat ty_9,false⟩]
noncomputable def q31f2(k:Nat)(n:Nat)(x9:PTe q31i2):=spec_PartsOf_L60 k n x9.1 x9.2.1
def q31i3:List PE := [e37,⟨14,48,.box ty_9 true,false⟩,⟨15,64,.val ty_0 false,false⟩,⟨56,80,.hof ty_9,false⟩,⟨57,96,.val ty_0 false,false⟩,⟨58,112,.val ty_0 false,false⟩]
def q31o3:List PE := [e37,⟨14,48,.box ty_9 true,false⟩,⟨15,64,.val ty_0 false,false⟩,⟨56,80,.hof ty_9,false⟩,⟨57,96,.val ty_0 false,false⟩,⟨58,112,.val ty_0 false,false⟩]
noncomputable def q31f3(k:Nat)(n:Nat)(x13:PTe q31i3):=spec_PartsOf_L259276 k n x13.1 x13.2.1 x13.2.2.1 x13.2.2.2.1 x13.2.2.2.2.1 x13.2.2.2.2.2.1
def q31i4:List PE := [e37,⟨56,48,.hof ty_9,false⟩,⟨57,64,.val ty_0 false,false⟩,⟨58,80,.val ty_0 false,false⟩]
def q31o4:List PE := [e37]
noncomputable def q31f4(k:Nat)(n:Nat)(x16:PTe q31i4):=spec_PartsOf_L506 k n x16.1 x16.2.1 x16.2.2.1 x16.2.2.2.1
def q31p:List PE := [e9,e2]
noncomputable def q31F(k:Nat):F5:=⟨q31C k,rr q31p [(ty_15,false),(.bool,false)] Tryz.f19,fun p=>bif Nat.beq p 15434 then some (.loop q31i1 q31o1 2 112 (q31f1 k k))else bif Nat.beq p 60 then some (.loop q31i2 q31o2 0 64 (q31f2 k k))else bif Nat.beq p 259276 then some (.loop q31i3 q31o3 6 128 (q31f3 k k))else bif Nat.beq p 506 then some (.loop q31i4 q31o4 4 96 (q31f4 k k))else none,0,[]⟩
theorem q31K(k:Nat):Contract Tryz.prog 19 (q31V k):=ctr (q31C k) (rs := [(ty_15,false),(.bool,false)]) (ps:=q31p) (q31F k) Tryz.f19 32 ⟨tyOf_ok tys_ok,gOf_ok ⟨q14K k,q12K,q15K,q21K k,q30K k,trivial⟩⟩ (annl [60,15434,506,259276] ⟨lok q31i2 q31o2 0 64 (q31f2 k) k,lok q31i1 q31o1 2 112 (q31f1 k) k,lok q31i4 q31o4 4 96 (q31f4 k) k,lok q31i3 q31o3 6 128 (q31f3 k) k,trivial⟩)

noncomputable def q32V:Variant:=⟨[.val ty_3 true],[(.bool,false)],fun x=>spec_poTerm x.1⟩
noncomputable def q32C:Cfg:=⟨Tryz.prog,tyOf tys,32,gOf [(35,[],q12V)],false,[],[]⟩
def q32p:List PE := [e11]
noncomputable def q32F:F2:=⟨q32C,rr q32p [(.bool,false)] Tryz.f74,fun p=>none,0,[]⟩
theorem q32K:Contract Tryz.prog 74 (q32V):=ctr q32C (rs := [(.bool,false)]) (ps:=q32p) q32F Tryz.f74 16 ⟨tyOf_ok tys_ok,gOf_ok ⟨q12K,trivial⟩⟩ (annl [] trivial)

noncomputable def q33V:Variant:=⟨[.val ty_3 true,.val ty_3 true],[(ty_0,false)],fun x=>spec_poOrder x.1 x.2.1⟩
noncomputable def q33C:Cfg:=⟨Tryz.prog,tyOf tys,35,gOf [(71,[],q27V)],false,[],[]⟩
def q33p:List PE := [e11,e38]
noncomputable def q33F:F1:=⟨q33C,rr q33p [(ty_0,false)] Tryz.f75,fun p=>none,0,[]⟩
theorem q33K:Contract Tryz.prog 75 (q33V):=ctr q33C (rs := [(ty_0,false)]) (ps:=q33p) q33F Tryz.f75 32 ⟨tyOf_ok tys_ok,gOf_ok ⟨q27K,trivial⟩⟩ (annl [] trivial)

noncomputable def q34V(k:Nat):Variant:=⟨[.val ty_4 false],[(.bool,false)],fun x=>spec_poGood k x.1⟩
noncomputable def q34C(k:Nat):Cfg:=⟨Tryz.prog,tyOf tys,38,gOf [(74,[],q32V),(75,[],q33V)],false,[],[]⟩
def q34i1:List PE := [e39,⟨5,32,.val ty_4 false,false⟩,e40,e15]
def q34o1:List PE := [e39]
noncomputable def q34f1(k:Nat)(n:Nat)(x3:PTe q34i1):=spec_poGood_L26 k n x3.1 x3.2.1 x3.2.2.1 x3.2.2.2.1
def q34p:List PE := [e1]
noncomputable def q34F(k:Nat):F2:=⟨q34C k,rr q34p [(.bool,false)] Tryz.f56,fun p=>bif Nat.beq p 26 then some (.loop q34i1 q34o1 0 80 (q34f1 k k))else none,0,[]⟩
theorem q34K(k:Nat):Contract Tryz.prog 56 (q34V k):=ctr (q34C k) (rs := [(.bool,false)]) (ps:=q34p) (q34F k) Tryz.f56 16 ⟨tyOf_ok tys_ok,gOf_ok ⟨q32K,q33K,trivial⟩⟩ (annl [26] ⟨lok q34i1 q34o1 0 80 (q34f1 k) k,trivial⟩)

noncomputable def q35V:Variant:=⟨[.val ty_3 true,.val ty_0 false],[(ty_0,false)],fun x=>spec_poPower x.1 x.2.1⟩
noncomputable def q35C:Cfg:=⟨Tryz.prog,tyOf tys,16,gOf [],false,[],[]⟩
def q35p:List PE := [e11,e2]
noncomputable def q35F:F1:=⟨q35C,rr q35p [(ty_0,false)] Tryz.f77,fun p=>none,0,[]⟩
theorem q35K:Contract Tryz.prog 77 (q35V):=ctr q35C (rs := [(ty_0,false)]) (ps:=q35p) q35F Tryz.f77 32 ⟨tyOf_ok tys_ok,gOf_ok trivial⟩ (annl [] trivial)

noncomputable def q36V:Variant:=⟨[.val ty_0 false,.val ty_0 false],[(ty_0,false)],fun x=>spec_l1Most x.1 x.2.1⟩
noncomputable def q36C:Cfg:=⟨Tryz.prog,tyOf tys,10,gOf [],false,[],[]⟩
def q36p:List PE := [e10,e2]
noncomputable def q36F:F1:=⟨q36C,rr q36p [(ty_0,false)] Tryz.f76,fun p=>none,0,[]⟩
theorem q36K:Contract Tryz.prog 76 (q36V):=ctr q36C (rs := [(ty_0,false)]) (ps:=q36p) q36F Tryz.f76 32 ⟨tyOf_ok tys_ok,gOf_ok trivial⟩ (annl [] trivial)

noncomputable def q37V(k:Nat):Variant:=⟨[.val ty_4 false,.val ty_0 false],[(ty_0,false)],fun x=>spec_poDegreeIn k x.1 x.2.1⟩
noncomputable def q37C(k:Nat):Cfg:=⟨Tryz.prog,tyOf tys,21,gOf [(77,[],q35V),(76,[],q36V)],false,[],[]⟩
def q37i1:List PE := [e6,e41,⟨8,64,.val ty_4 false,false⟩,e42,⟨10,96,.val ty_0 false,false⟩]
def q37o1:List PE := [⟨5,32,.val ty_0 false,false⟩]
noncomputable def q37f1(k:Nat)(n:Nat)(x3:PTe q37i1):=spec_poDegreeIn_L58 k n x3.1 x3.2.1 x3.2.2.1 x3.2.2.2.1 x3.2.2.2.2.1
def q37p:List PE := [e1,e2]
noncomputable def q37F(k:Nat):F1:=⟨q37C k,rr q37p [(ty_0,false)] Tryz.f57,fun p=>bif Nat.beq p 58 then some (.loop q37i1 q37o1 0 112 (q37f1 k k))else none,0,[]⟩
theorem q37K(k:Nat):Contract Tryz.prog 57 (q37V k):=ctr (q37C k) (rs := [(ty_0,false)]) (ps:=q37p) (q37F k) Tryz.f57 32 ⟨tyOf_ok tys_ok,gOf_ok ⟨q35K,q36K,trivial⟩⟩ (annl [58] ⟨lok q37i1 q37o1 0 112 (q37f1 k) k,trivial⟩)

noncomputable def q38V(k:Nat):Variant:=⟨[.val ty_5 false],[(.bool,false)],fun x=>spec_poSystem k x.1⟩
noncomputable def q38C(k:Nat):Cfg:=⟨Tryz.prog,tyOf tys,29,gOf [(56,[],q34V k),(57,[],q37V k),(35,[],q12V)],false,[],[]⟩
def q38i1:List PE := [e43,⟨4,32,.val ty_4 false,false⟩,e41,⟨6,64,.val ty_5 false,false⟩,⟨7,80,.val ty_0 false,false⟩,⟨8,96,.val ty_0 false,false⟩]
def q38o1:List PE := [e43,⟨6,32,.val ty_5 false,false⟩,e24,e25]
noncomputable def q38f1(k:Nat)(n:Nat)(x3:PTe q38i1):=spec_poSystem_L13518 k n x3.1 x3.2.1 x3.2.2.1 x3.2.2.2.1 x3.2.2.2.2.1 x3.2.2.2.2.2.1
def q38i2:List PE := [e43,⟨6,32,.val ty_5 false,false⟩,e24,e25]
def q38o2:List PE := [e43]
noncomputable def q38f2(k:Nat)(n:Nat)(x6:PTe q38i2):=spec_poSystem_L26 k n x6.1 x6.2.1 x6.2.2.1 x6.2.2.2.1
def q38p:List PE := [e7]
noncomputable def q38F(k:Nat):F2:=⟨q38C k,rr q38p [(.bool,false)] Tryz.f39,fun p=>bif Nat.beq p 13518 then some (.loop q38i1 q38o1 2 112 (q38f1 k k))else bif Nat.beq p 26 then some (.loop q38i2 q38o2 0 80 (q38f2 k k))else none,0,[]⟩
theorem q38K(k:Nat):Contract Tryz.prog 39 (q38V k):=ctr (q38C k) (rs := [(.bool,false)]) (ps:=q38p) (q38F k) Tryz.f39 16 ⟨tyOf_ok tys_ok,gOf_ok ⟨q34K k,q37K k,q12K,trivial⟩⟩ (annl [26,13518] ⟨lok q38i2 q38o2 0 80 (q38f2 k) k,lok q38i1 q38o1 2 112 (q38f1 k) k,trivial⟩)

noncomputable def q39V(k:Nat):Variant:=⟨[.val ty_9 true],[(.bool,false)],fun x=>spec_imBox k x.1⟩
noncomputable def q39C(k:Nat):Cfg:=⟨Tryz.prog,tyOf tys,16,gOf [(34,[],q14V k)],false,[],[]⟩
def q39p:List PE := [e9]
noncomputable def q39F(k:Nat):F2:=⟨q39C k,rr q39p [(.bool,false)] Tryz.f40,fun p=>none,0,[]⟩
theorem q39K(k:Nat):Contract Tryz.prog 40 (q39V k):=ctr (q39C k) (rs := [(.bool,false)]) (ps:=q39p) (q39F k) Tryz.f40 16 ⟨tyOf_ok tys_ok,gOf_ok ⟨q14K k,trivial⟩⟩ (annl [] trivial)

noncomputable def q40V(k:Nat):Variant:=⟨[.val ty_5 false,.val ty_9 true],[(.bool,false)],fun x=>spec_imGood k x.1 x.2.1⟩
noncomputable def q40C(k:Nat):Cfg:=⟨Tryz.prog,tyOf tys,16,gOf [(39,[],q38V k),(40,[],q39V k)],false,[],[]⟩
def q40p:List PE := [e7,e35]
noncomputable def q40F(k:Nat):F2:=⟨q40C k,rr q40p [(.bool,false)] Tryz.f20,fun p=>none,0,[]⟩
theorem q40K(k:Nat):Contract Tryz.prog 20 (q40V k):=ctr (q40C k) (rs := [(.bool,false)]) (ps:=q40p) (q40F k) Tryz.f20 32 ⟨tyOf_ok tys_ok,gOf_ok ⟨q38K k,q39K k,trivial⟩⟩ (annl [] trivial)

noncomputable def q41V(k:Nat):Variant:=⟨[.val ty_0 false,.val ty_1 true,.val ty_0 false,.val ty_0 false,.val ty_0 false,.val ty_0 false],[(ty_24,false)],fun x=>spec_imWay k x.1 x.2.1 x.2.2.1 x.2.2.2.1 x.2.2.2.2.1 x.2.2.2.2.2.1⟩
noncomputable def q41C(k:Nat):Cfg:=⟨Tryz.prog,tyOf tys,61,gOf [(52,[],q13V),(55,[],q24V k)],false,[],[]⟩
def q41i1:List PE := [⟨0,96,.val ty_0 false,false⟩,⟨2,112,.val ty_0 false,false⟩,⟨3,128,.val ty_0 false,false⟩,⟨4,144,.val ty_0 false,false⟩,⟨5,160,.val ty_0 false,false⟩,⟨7,176,.box ty_1 false,false⟩,⟨13,192,.eat ty_12,false⟩,⟨14,208,.val ty_0 false,false⟩,⟨15,224,.val ty_0 false,false⟩]
def q41o1:List PE := [⟨13,96,.eat ty_12,false⟩]
noncomputable def q41f1(k:Nat)(n:Nat)(x4:PTe q41i1):=spec_imWay_L122 k n x4.1 x4.2.1 x4.2.2.1 x4.2.2.2.1 x4.2.2.2.2.1 x4.2.2.2.2.2.1 x4.2.2.2.2.2.2.1 x4.2.2.2.2.2.2.2.1 x4.2.2.2.2.2.2.2.2.1
def q41p:List PE := [e10,e34,e21,⟨3,48,.val ty_0 false,false⟩,⟨4,64,.val ty_0 false,false⟩,⟨5,80,.val ty_0 false,false⟩]
noncomputable def q41F(k:Nat):F9:=⟨q41C k,rr q41p [(ty_24,false)] Tryz.f113,fun p=>bif Nat.beq p 122 then some (.loop q41i1 q41o1 0 240 (q41f1 k k))else none,0,[]⟩
theorem q41K(k:Nat):Contract Tryz.prog 113 (q41V k):=ctr (q41C k) (rs := [(ty_24,false)]) (ps:=q41p) (q41F k) Tryz.f113 96 ⟨tyOf_ok tys_ok,gOf_ok ⟨q13K,q24K k,trivial⟩⟩ (annl [122] ⟨lok q41i1 q41o1 0 240 (q41f1 k) k,trivial⟩)

noncomputable def q42V(k:Nat):Variant:=⟨[.val ty_9 true,.val ty_0 false],[(ty_24,false)],fun x=>spec_imEdges k x.1 x.2.1⟩
noncomputable def q42C(k:Nat):Cfg:=⟨Tryz.prog,tyOf tys,72,gOf [(55,[],q24V k),(113,[],q41V k)],false,[],[]⟩
def q42p:List PE := [e9,e2]
noncomputable def q42F(k:Nat):F9:=⟨q42C k,rr q42p [(ty_24,false)] Tryz.f99,fun p=>none,0,[]⟩
theorem q42K(k:Nat):Contract Tryz.prog 99 (q42V k):=ctr (q42C k) (rs := [(ty_24,false)]) (ps:=q42p) (q42F k) Tryz.f99 32 ⟨tyOf_ok tys_ok,gOf_ok ⟨q24K k,q41K k,trivial⟩⟩ (annl [] trivial)

noncomputable def q43V(k:Nat):Variant:=⟨[.val ty_13 false],[(ty_10,true)],fun x=>spec_ivEnds k x.1⟩
noncomputable def q43C(k:Nat):Cfg:=⟨Tryz.prog,tyOf tys,35,gOf [(54,[],q29V k)],false,[],[]⟩
def q43i1:List PE := [e44,e45,⟨13,48,.val ty_13 false,false⟩,⟨14,64,.val ty_0 false,false⟩,⟨15,80,.val ty_0 false,false⟩]
def q43o1:List PE := [e44,e45]
noncomputable def q43f1(k:Nat)(n:Nat)(x5:PTe q43i1):=spec_ivEnds_L58 k n x5.1 x5.2.1 x5.2.2.1 x5.2.2.2.1 x5.2.2.2.2.1
def q43p:List PE := [⟨0,0,.val ty_13 false,false⟩]
noncomputable def q43F(k:Nat):F10:=⟨q43C k,rr q43p [(ty_10,true)] Tryz.f115,fun p=>bif Nat.beq p 7474 then some (.cut [e44,e45,⟨5,48,.box ty_1 false,false⟩,⟨13,64,.val ty_13 false,false⟩,⟨14,80,.val ty_0 false,false⟩,e46] 112)else bif Nat.beq p 58 then some (.loop q43i1 q43o1 0 96 (q43f1 k k))else none,0,[]⟩
theorem q43K(k:Nat):Contract Tryz.prog 115 (q43V k):=ctr (q43C k) (rs := [(ty_10,true)]) (ps:=q43p) (q43F k) Tryz.f115 16 ⟨tyOf_ok tys_ok,gOf_ok ⟨q29K k,trivial⟩⟩ (annl [58] ⟨lok q43i1 q43o1 0 96 (q43f1 k) k,trivial⟩)

noncomputable def q44V:Variant:=⟨[.val ty_1 true],[(ty_10,true)],fun x=>spec_vaPure x.1⟩
noncomputable def q44C:Cfg:=⟨Tryz.prog,tyOf tys,6,gOf [],false,[],[]⟩
def q44p:List PE := [e30]
noncomputable def q44F:F10:=⟨q44C,rr q44p [(ty_10,true)] Tryz.f116,fun p=>none,0,[]⟩
theorem q44K:Contract Tryz.prog 116 (q44V):=ctr q44C (rs := [(ty_10,true)]) (ps:=q44p) q44F Tryz.f116 16 ⟨tyOf_ok tys_ok,gOf_ok trivial⟩ (annl [] trivial)

noncomputable def q45V(k:Nat):Variant:=⟨[.val ty_12 true],[(ty_14,false)],fun x=>spec_imSides k x.1⟩
noncomputable def q45C(k:Nat):Cfg:=⟨Tryz.prog,tyOf tys,23,gOf [(115,[],q43V k),(116,[],q44V)],false,[],[]⟩
def q45p:List PE := [⟨0,0,.val ty_12 true,false⟩]
noncomputable def q45F(k:Nat):Fn (List ((Int×Int)×Int×Int)):=⟨q45C k,rr q45p [(ty_14,false)] Tryz.f101,fun p=>none,0,[]⟩
theorem q45K(k:Nat):Contract Tryz.prog 101 (q45V k):=ctr (q45C k) (rs := [(ty_14,false)]) (ps:=q45p) (q45F k) Tryz.f101 16 ⟨tyOf_ok tys_ok,gOf_ok ⟨q43K k,q44K,trivial⟩⟩ (annl [] trivial)

noncomputable def q46V:Variant:=⟨[.val ty_0 false],[(ty_1,true)],fun x=>spec_dyInt x.1⟩
noncomputable def q46C:Cfg:=⟨Tryz.prog,tyOf tys,5,gOf [],false,[],[]⟩
def q46p:List PE := [e10]
noncomputable def q46F:F7:=⟨q46C,rr q46p [(ty_1,true)] Tryz.f130,fun p=>none,0,[]⟩
theorem q46K:Contract Tryz.prog 130 (q46V):=ctr q46C (rs := [(ty_1,true)]) (ps:=q46p) q46F Tryz.f130 16 ⟨tyOf_ok tys_ok,gOf_ok trivial⟩ (annl [] trivial)

noncomputable def q47V:Variant:=⟨[.val ty_0 false],[(ty_0,false)],fun x=>spec_l1Abs x.1⟩
noncomputable def q47C:Cfg:=⟨Tryz.prog,tyOf tys,7,gOf [(76,[],q36V)],false,[],[]⟩
def q47p:List PE := [e10]
noncomputable def q47F:F1:=⟨q47C,rr q47p [(ty_0,false)] Tryz.f151,fun p=>none,0,[]⟩
theorem q47K:Contract Tryz.prog 151 (q47V):=ctr q47C (rs := [(ty_0,false)]) (ps:=q47p) q47F Tryz.f151 16 ⟨tyOf_ok tys_ok,gOf_ok ⟨q36K,trivial⟩⟩ (annl [] trivial)

noncomputable def q48V(k:Nat):Variant:=⟨[.val ty_1 true,.val ty_1 true],[(ty_1,true),(.bool,false)],fun x=>spec_dyMul k x.1 x.2.1⟩
noncomputable def q48C(k:Nat):Cfg:=⟨Tryz.prog,tyOf tys,67,gOf [(151,[],q47V),(73,[],q23V k)],false,[],[]⟩
def q48i1:List PE := [e33,e47,e32,e17]
def q48o1:List PE := [e33,e47,e32,e17]
noncomputable def q48f1(k:Nat)(n:Nat)(x1:PTe q48i1):=spec_dyMul_L60 k n x1.1 x1.2.1 x1.2.2.1 x1.2.2.2.1
def q48i2:List PE := [e33,e47,e32,e17]
def q48o2:List PE := [e33,e47,e32,e17]
noncomputable def q48f2(k:Nat)(n:Nat)(x4:PTe q48i2):=spec_dyMul_L124 k n x4.1 x4.2.1 x4.2.2.1 x4.2.2.2.1
def q48p:List PE := [e30,e34]
noncomputable def q48F(k:Nat):F6:=⟨q48C k,rr q48p [(ty_1,true),(.bool,false)] Tryz.f143,fun p=>bif Nat.beq p 60 then some (.loop q48i1 q48o1 0 96 (q48f1 k k))else bif Nat.beq p 124 then some (.loop q48i2 q48o2 2 96 (q48f2 k k))else none,0,[]⟩
theorem q48K(k:Nat):Contract Tryz.prog 143 (q48V k):=ctr (q48C k) (rs := [(ty_1,true),(.bool,false)]) (ps:=q48p) (q48F k) Tryz.f143 32 ⟨tyOf_ok tys_ok,gOf_ok ⟨q47K,q23K k,trivial⟩⟩ (annl [60,124] ⟨lok q48i1 q48o1 0 96 (q48f1 k) k,lok q48i2 q48o2 2 96 (q48f2 k) k,trivial⟩)

noncomputable def q49V(k:Nat):Variant:=⟨[.val ty_1 true,.val ty_0 false],[(ty_1,true),(.bool,false)],fun x=>spec_ivRaise k x.1 x.2.1⟩
noncomputable def q49C(k:Nat):Cfg:=⟨Tryz.prog,tyOf tys,25,gOf [(130,[],q46V),(143,[],q48V k)],false,[],[]⟩
def q49i1:List PE := [e6,⟨2,48,.box ty_1 false,false⟩,e32,⟨6,80,.box ty_1 false,false⟩]
def q49o1:List PE := [⟨4,32,.box ty_1 false,false⟩,⟨6,48,.box ty_1 false,false⟩]
noncomputable def q49f1(k:Nat)(n:Nat)(x3:PTe q49i1):=spec_ivRaise_L28 k n x3.1 x3.2.1 x3.2.2.1 x3.2.2.2.1
def q49p:List PE := [e30,e2]
noncomputable def q49F(k:Nat):F6:=⟨q49C k,rr q49p [(ty_1,true),(.bool,false)] Tryz.f141,fun p=>bif Nat.beq p 28 then some (.loop q49i1 q49o1 0 96 (q49f1 k k))else none,0,[]⟩
theorem q49K(k:Nat):Contract Tryz.prog 141 (q49V k):=ctr (q49C k) (rs := [(ty_1,true),(.bool,false)]) (ps:=q49p) (q49F k) Tryz.f141 32 ⟨tyOf_ok tys_ok,gOf_ok ⟨q46K,q48K k,trivial⟩⟩ (annl [28] ⟨lok q49i1 q49o1 0 96 (q49f1 k) k,trivial⟩)

noncomputable def q50V:Variant:=⟨[.val ty_10 true],[(.bool,false)],fun x=>spec_ivZero x.1⟩
noncomputable def q50C:Cfg:=⟨Tryz.prog,tyOf tys,13,gOf [],false,[],[]⟩
def q50p:List PE := [e48]
noncomputable def q50F:F2:=⟨q50C,rr q50p [(.bool,false)] Tryz.f134,fun p=>none,0,[]⟩
theorem q50K:Contract Tryz.prog 134 (q50V):=ctr q50C (rs := [(.bool,false)]) (ps:=q50p) q50F Tryz.f134 16 ⟨tyOf_ok tys_ok,gOf_ok trivial⟩ (annl [] trivial)

noncomputable def q51V(k:Nat):Variant:=⟨[.val ty_1 true,.val ty_0 false],[(ty_1,true)],fun x=>spec_dyRound k x.1 x.2.1⟩
noncomputable def q51C(k:Nat):Cfg:=⟨Tryz.prog,tyOf tys,26,gOf [(52,[],q13V),(88,[],q25V),(73,[],q23V k)],false,[],[]⟩
def q51p:List PE := [e30,e2]
noncomputable def q51F(k:Nat):F7:=⟨q51C k,rr q51p [(ty_1,true)] Tryz.f149,fun p=>none,0,[]⟩
theorem q51K(k:Nat):Contract Tryz.prog 149 (q51V k):=ctr (q51C k) (rs := [(ty_1,true)]) (ps:=q51p) (q51F k) Tryz.f149 32 ⟨tyOf_ok tys_ok,gOf_ok ⟨q13K,q25K,q23K k,trivial⟩⟩ (annl [] trivial)

noncomputable def q52V:Variant:=⟨[.val ty_1 true],[(ty_1,true)],fun x=>spec_dyMinus x.1⟩
noncomputable def q52C:Cfg:=⟨Tryz.prog,tyOf tys,9,gOf [],false,[],[]⟩
def q52p:List PE := [e30]
noncomputable def q52F:F7:=⟨q52C,rr q52p [(ty_1,true)] Tryz.f156,fun p=>none,0,[]⟩
theorem q52K:Contract Tryz.prog 156 (q52V):=ctr q52C (rs := [(ty_1,true)]) (ps:=q52p) q52F Tryz.f156 16 ⟨tyOf_ok tys_ok,gOf_ok trivial⟩ (annl [] trivial)

noncomputable def q53V(k:Nat):Variant:=⟨[.val ty_1 true,.val ty_0 false],[(ty_1,true)],fun x=>spec_ivUp k x.1 x.2.1⟩
noncomputable def q53C(k:Nat):Cfg:=⟨Tryz.prog,tyOf tys,10,gOf [(156,[],q52V),(149,[],q51V k)],false,[],[]⟩
def q53p:List PE := [e30,e2]
noncomputable def q53F(k:Nat):F7:=⟨q53C k,rr q53p [(ty_1,true)] Tryz.f150,fun p=>none,0,[]⟩
theorem q53K(k:Nat):Contract Tryz.prog 150 (q53V k):=ctr (q53C k) (rs := [(ty_1,true)]) (ps:=q53p) (q53F k) Tryz.f150 32 ⟨tyOf_ok tys_ok,gOf_ok ⟨q52K,q51K k,trivial⟩⟩ (annl [] trivial)

noncomputable def q54V(k:Nat):Variant:=⟨[.val ty_10 true,.val ty_0 false],[(ty_10,true)],fun x=>spec_ivRound k x.1 x.2.1⟩
noncomputable def q54C(k:Nat):Cfg:=⟨Tryz.prog,tyOf tys,14,gOf [(149,[],q51V k),(150,[],q53V k)],false,[],[]⟩
def q54p:List PE := [e48,e2]
noncomputable def q54F(k:Nat):F10:=⟨q54C k,rr q54p [(ty_10,true)] Tryz.f142,fun p=>none,0,[]⟩
theorem q54K(k:Nat):Contract Tryz.prog 142 (q54V k):=ctr (q54C k) (rs := [(ty_10,true)]) (ps:=q54p) (q54F k) Tryz.f142 32 ⟨tyOf_ok tys_ok,gOf_ok ⟨q51K k,q53K k,trivial⟩⟩ (annl [] trivial)

noncomputable def q55V(k:Nat):Variant:=⟨[.val ty_10 true,.val ty_0 false],[(ty_10,true),(.bool,false)],fun x=>spec_ivPower k x.1 x.2.1⟩
noncomputable def q55C(k:Nat):Cfg:=⟨Tryz.prog,tyOf tys,53,gOf [(141,[],q49V k),(134,[],q50V),(130,[],q46V),(115,[],q43V k),(142,[],q54V k)],false,[],[]⟩
def q55p:List PE := [e48,e2]
noncomputable def q55F(k:Nat):F11:=⟨q55C k,rr q55p [(ty_10,true),(.bool,false)] Tryz.f131,fun p=>bif Nat.beq p 126 then some (.cut [e49,⟨10,48,.eat ty_1,false⟩] 64)else none,0,[]⟩
theorem q55K(k:Nat):Contract Tryz.prog 131 (q55V k):=ctr (q55C k) (rs := [(ty_10,true),(.bool,false)]) (ps:=q55p) (q55F k) Tryz.f131 32 ⟨tyOf_ok tys_ok,gOf_ok ⟨q49K k,q50K,q46K,q43K k,q54K k,trivial⟩⟩ (annl [] trivial)

noncomputable def q56V(k:Nat):Variant:=⟨[.val ty_10 true,.val ty_10 true],[(ty_10,true),(.bool,false)],fun x=>spec_ivMul k x.1 x.2.1⟩
noncomputable def q56C(k:Nat):Cfg:=⟨Tryz.prog,tyOf tys,51,gOf [(143,[],q48V k),(115,[],q43V k),(142,[],q54V k)],false,[],[]⟩
def q56i1:List PE := [e45,e50,e51,⟨8,80,.box ty_1 false,false⟩,⟨17,96,.eat ty_1,false⟩,⟨18,112,.val ty_0 false,false⟩,⟨19,128,.val ty_0 false,false⟩,⟨27,144,.eat ty_1,false⟩,⟨28,160,.val ty_0 false,false⟩,⟨29,176,.val ty_0 false,false⟩]
def q56o1:List PE := [e45,e50,e51,⟨17,80,.eat ty_1,false⟩,⟨18,96,.val ty_0 false,false⟩,⟨19,112,.val ty_0 false,false⟩]
noncomputable def q56f1(k:Nat)(n:Nat)(x2:PTe q56i1):=spec_ivMul_L14950 k n x2.1 x2.2.1 x2.2.2.1 x2.2.2.2.1 x2.2.2.2.2.1 x2.2.2.2.2.2.1 x2.2.2.2.2.2.2.1 x2.2.2.2.2.2.2.2.1 x2.2.2.2.2.2.2.2.2.1 x2.2.2.2.2.2.2.2.2.2.1
def q56i2:List PE := [e45,e50,e51,⟨17,80,.eat ty_1,false⟩,⟨18,96,.val ty_0 false,false⟩,⟨19,112,.val ty_0 false,false⟩]
def q56o2:List PE := [e49,⟨6,48,.eat ty_1,false⟩]
noncomputable def q56f2(k:Nat)(n:Nat)(x5:PTe q56i2):=spec_ivMul_L58 k n x5.1 x5.2.1 x5.2.2.1 x5.2.2.2.1 x5.2.2.2.2.1 x5.2.2.2.2.2.1
def q56p:List PE := [e48,e52]
noncomputable def q56F(k:Nat):F11:=⟨q56C k,rr q56p [(ty_10,true),(.bool,false)] Tryz.f132,fun p=>bif Nat.beq p 14950 then some (.loop q56i1 q56o1 2 192 (q56f1 k k))else bif Nat.beq p 58 then some (.loop q56i2 q56o2 0 128 (q56f2 k k))else none,0,[]⟩
theorem q56K(k:Nat):Contract Tryz.prog 132 (q56V k):=ctr (q56C k) (rs := [(ty_10,true),(.bool,false)]) (ps:=q56p) (q56F k) Tryz.f132 32 ⟨tyOf_ok tys_ok,gOf_ok ⟨q48K k,q43K k,q54K k,trivial⟩⟩ (annl [58,14950] ⟨lok q56i2 q56o2 0 128 (q56f2 k) k,lok q56i1 q56o1 2 192 (q56f1 k) k,trivial⟩)

noncomputable def q57V(k:Nat):Variant:=⟨[.val ty_1 true,.val ty_1 true],[(ty_1,true),(.bool,false)],fun x=>spec_dyAdd k x.1 x.2.1⟩
noncomputable def q57C(k:Nat):Cfg:=⟨Tryz.prog,tyOf tys,42,gOf [(76,[],q36V),(72,[],q28V k),(73,[],q23V k)],false,[],[]⟩
def q57p:List PE := [e30,e34]
noncomputable def q57F(k:Nat):F6:=⟨q57C k,rr q57p [(ty_1,true),(.bool,false)] Tryz.f144,fun p=>none,0,[]⟩
theorem q57K(k:Nat):Contract Tryz.prog 144 (q57V k):=ctr (q57C k) (rs := [(ty_1,true),(.bool,false)]) (ps:=q57p) (q57F k) Tryz.f144 32 ⟨tyOf_ok tys_ok,gOf_ok ⟨q36K,q28K k,q23K k,trivial⟩⟩ (annl [] trivial)

noncomputable def q58V:Variant:=⟨[.val ty_1 true,.val .bool false,.val ty_1 true,.val .bool false],[(ty_10,true),(.bool,false)],fun x=>spec_ivBoth x.1 x.2.1 x.2.2.1 x.2.2.2.1⟩
noncomputable def q58C:Cfg:=⟨Tryz.prog,tyOf tys,20,gOf [],false,[],[]⟩
def q58p:List PE := [e30,e16,e53,⟨3,48,.val .bool false,false⟩]
noncomputable def q58F:F11:=⟨q58C,rr q58p [(ty_10,true),(.bool,false)] Tryz.f145,fun p=>none,0,[]⟩
theorem q58K:Contract Tryz.prog 145 (q58V):=ctr q58C (rs := [(ty_10,true),(.bool,false)]) (ps:=q58p) q58F Tryz.f145 64 ⟨tyOf_ok tys_ok,gOf_ok trivial⟩ (annl [] trivial)

noncomputable def q59V(k:Nat):Variant:=⟨[.val ty_10 true,.val ty_10 true],[(ty_10,true),(.bool,false)],fun x=>spec_ivAdd k x.1 x.2.1⟩
noncomputable def q59C(k:Nat):Cfg:=⟨Tryz.prog,tyOf tys,33,gOf [(144,[],q57V k),(145,[],q58V)],false,[],[]⟩
def q59p:List PE := [e48,e52]
noncomputable def q59F(k:Nat):F11:=⟨q59C k,rr q59p [(ty_10,true),(.bool,false)] Tryz.f133,fun p=>none,0,[]⟩
theorem q59K(k:Nat):Contract Tryz.prog 133 (q59V k):=ctr (q59C k) (rs := [(ty_10,true),(.bool,false)]) (ps:=q59p) (q59F k) Tryz.f133 32 ⟨tyOf_ok tys_ok,gOf_ok ⟨q57K k,q58K,trivial⟩⟩ (annl [] trivial)

noncomputable def q60V(k:Nat):Variant:=⟨[.val ty_4 false,.val ty_14 false],[(ty_10,true),(.bool,false)],fun x=>spec_vaOver k x.1 x.2.1⟩
noncomputable def q60C(k:Nat):Cfg:=⟨Tryz.prog,tyOf tys,71,gOf [(130,[],q46V),(116,[],q44V),(77,[],q35V),(131,[],q55V k),(132,[],q56V k),(133,[],q59V k)],false,[],[]⟩
def q60i1:List PE := [e54,e50,e55,⟨8,80,.box ty_3 false,false⟩,⟨9,96,.box ty_10 false,false⟩,⟨20,112,.val ty_4 false,false⟩,⟨21,128,.val ty_0 false,false⟩,⟨22,144,.val ty_0 false,false⟩,⟨30,160,.val ty_14 false,false⟩,⟨31,176,.val ty_0 false,false⟩,⟨32,192,.val ty_0 false,false⟩]
def q60o1:List PE := [e54,e50,e55,⟨9,80,.box ty_10 false,false⟩,⟨20,96,.val ty_4 false,false⟩,⟨21,112,.val ty_0 false,false⟩,⟨22,128,.val ty_0 false,false⟩]
noncomputable def q60f1(k:Nat)(n:Nat)(x8:PTe q60i1):=spec_vaOver_L59802 k n x8.1 x8.2.1 x8.2.2.1 x8.2.2.2.1 x8.2.2.2.2.1 x8.2.2.2.2.2.1 x8.2.2.2.2.2.2.1 x8.2.2.2.2.2.2.2.1 x8.2.2.2.2.2.2.2.2.1 x8.2.2.2.2.2.2.2.2.2.1 x8.2.2.2.2.2.2.2.2.2.2.1
def q60i2:List PE := [e54,e50,e55,⟨20,80,.val ty_4 false,false⟩,⟨21,96,.val ty_0 false,false⟩,⟨22,112,.val ty_0 false,false⟩]
def q60o2:List PE := [e49,⟨6,48,.box ty_10 false,false⟩]
noncomputable def q60f2(k:Nat)(n:Nat)(x12:PTe q60i2):=spec_vaOver_L58 k n x12.1 x12.2.1 x12.2.2.1 x12.2.2.2.1 x12.2.2.2.2.1 x12.2.2.2.2.2.1
def q60p:List PE := [e1,e56]
noncomputable def q60F(k:Nat):F11:=⟨q60C k,rr q60p [(ty_10,true),(.bool,false)] Tryz.f124,fun p=>bif Nat.beq p 59802 then some (.loop q60i1 q60o1 2 208 (q60f1 k k))else bif Nat.beq p 58 then some (.loop q60i2 q60o2 0 128 (q60f2 k k))else none,0,[]⟩
theorem q60K(k:Nat):Contract Tryz.prog 124 (q60V k):=ctr (q60C k) (rs := [(ty_10,true),(.bool,false)]) (ps:=q60p) (q60F k) Tryz.f124 32 ⟨tyOf_ok tys_ok,gOf_ok ⟨q46K,q44K,q35K,q55K k,q56K k,q59K k,trivial⟩⟩ (annl [58,59802] ⟨lok q60i2 q60o2 0 128 (q60f2 k) k,lok q60i1 q60o1 2 208 (q60f1 k) k,trivial⟩)

noncomputable def q61V:Variant:=⟨[.val ty_10 true],[(ty_0,false)],fun x=>spec_ivSign x.1⟩
noncomputable def q61C:Cfg:=⟨Tryz.prog,tyOf tys,9,gOf [(134,[],q50V),(71,[],q27V)],false,[],[]⟩
def q61p:List PE := [e48]
noncomputable def q61F:F1:=⟨q61C,rr q61p [(ty_0,false)] Tryz.f125,fun p=>none,0,[]⟩
theorem q61K:Contract Tryz.prog 125 (q61V):=ctr q61C (rs := [(ty_0,false)]) (ps:=q61p) q61F Tryz.f125 16 ⟨tyOf_ok tys_ok,gOf_ok ⟨q50K,q27K,trivial⟩⟩ (annl [] trivial)

noncomputable def q62V(k:Nat):Variant:=⟨[.val ty_5 false,.val ty_14 false,.val ty_0 false],[(.bool,false)],fun x=>spec_imHolds k x.1 x.2.1 x.2.2.1⟩
noncomputable def q62C(k:Nat):Cfg:=⟨Tryz.prog,tyOf tys,29,gOf [(124,[],q60V k),(125,[],q61V)],false,[],[]⟩
def q62p:List PE := [e7,e56,e21]
noncomputable def q62F(k:Nat):F2:=⟨q62C k,rr q62p [(.bool,false)] Tryz.f114,fun p=>none,0,[]⟩
theorem q62K(k:Nat):Contract Tryz.prog 114 (q62V k):=ctr (q62C k) (rs := [(.bool,false)]) (ps:=q62p) (q62F k) Tryz.f114 48 ⟨tyOf_ok tys_ok,gOf_ok ⟨q60K k,q61K,trivial⟩⟩ (annl [] trivial)

noncomputable def q63V(k:Nat):Variant:=⟨[.val ty_5 false,.val ty_14 false],[(ty_0,false),(.bool,false)],fun x=>spec_imReason k x.1 x.2.1⟩
noncomputable def q63C(k:Nat):Cfg:=⟨Tryz.prog,tyOf tys,16,gOf [(114,[],q62V k)],false,[],[]⟩
def q63i1:List PE := [e3,⟨1,48,.val ty_14 false,false⟩,e14]
def q63o1:List PE := []
noncomputable def q63f1(k:Nat)(n:Nat)(x2:PTe q63i1):=spec_imReason_L26 k n x2.1 x2.2.1 x2.2.2.1
def q63p:List PE := [e7,e56]
noncomputable def q63F(k:Nat):F8:=⟨q63C k,rr q63p [(ty_0,false),(.bool,false)] Tryz.f100,fun p=>bif Nat.beq p 26 then some (.loop q63i1 q63o1 0 80 (q63f1 k k))else none,0,[]⟩
theorem q63K(k:Nat):Contract Tryz.prog 100 (q63V k):=ctr (q63C k) (rs := [(ty_0,false),(.bool,false)]) (ps:=q63p) (q63F k) Tryz.f100 32 ⟨tyOf_ok tys_ok,gOf_ok ⟨q62K k,trivial⟩⟩ (annl [26] ⟨lok q63i1 q63o1 0 80 (q63f1 k) k,trivial⟩)

noncomputable def q64V(k:Nat):Variant:=⟨[.val ty_5 false,.val ty_9 true,.val ty_0 false],[(ty_7,false)],fun x=>spec_imReasons k x.1 x.2.1 x.2.2.1⟩
noncomputable def q64C(k:Nat):Cfg:=⟨Tryz.prog,tyOf tys,36,gOf [(99,[],q42V k),(101,[],q45V k),(100,[],q63V k)],false,[],[]⟩
def q64i1:List PE := [e57,⟨7,64,.eat ty_0,false⟩,⟨14,80,.eat ty_12,false⟩,e46,⟨16,112,.val ty_0 false,false⟩]
def q64o1:List PE := [⟨7,48,.eat ty_0,false⟩]
noncomputable def q64f1(k:Nat)(n:Nat)(x4:PTe q64i1):=spec_imReasons_L58 k n x4.1 x4.2.1 x4.2.2.1 x4.2.2.2.1 x4.2.2.2.2.1
def q64p:List PE := [e7,e35,e21]
noncomputable def q64F(k:Nat):F3:=⟨q64C k,rr q64p [(ty_7,false)] Tryz.f90,fun p=>bif Nat.beq p 58 then some (.loop q64i1 q64o1 0 128 (q64f1 k k))else none,0,[]⟩
theorem q64K(k:Nat):Contract Tryz.prog 90 (q64V k):=ctr (q64C k) (rs := [(ty_7,false)]) (ps:=q64p) (q64F k) Tryz.f90 48 ⟨tyOf_ok tys_ok,gOf_ok ⟨q42K k,q45K k,q63K k,trivial⟩⟩ (annl [58] ⟨lok q64i1 q64o1 0 128 (q64f1 k) k,trivial⟩)

noncomputable def q65V(k:Nat):Variant:=⟨[.val ty_5 false,.val ty_9 true,.val ty_0 false],[(ty_7,false),(.bool,false)],fun x=>spec_imAll k x.1 x.2.1 x.2.2.1⟩
noncomputable def q65C(k:Nat):Cfg:=⟨Tryz.prog,tyOf tys,20,gOf [(90,[],q64V k),(52,[],q13V)],false,[],[]⟩
def q65p:List PE := [e7,e35,e21]
noncomputable def q65F(k:Nat):F12:=⟨q65C k,rr q65p [(ty_7,false),(.bool,false)] Tryz.f78,fun p=>none,0,[]⟩
theorem q65K(k:Nat):Contract Tryz.prog 78 (q65V k):=ctr (q65C k) (rs := [(ty_7,false),(.bool,false)]) (ps:=q65p) (q65F k) Tryz.f78 48 ⟨tyOf_ok tys_ok,gOf_ok ⟨q64K k,q13K,trivial⟩⟩ (annl [] trivial)

noncomputable def q66V(k:Nat):Variant:=⟨[.val ty_5 false,.val ty_9 true],[(ty_0,false),(.bool,false)],fun x=>spec_LeastDepth k x.1 x.2.1⟩
noncomputable def q66C(k:Nat):Cfg:=⟨Tryz.prog,tyOf tys,26,gOf [(20,[],q40V k),(78,[],q65V k)],false,[],[]⟩
def q66i1:List PE := [e3,⟨3,48,.box ty_9 false,false⟩,e14]
def q66o1:List PE := []
noncomputable def q66f1(k:Nat)(n:Nat)(x3:PTe q66i1):=spec_LeastDepth_L58 k n x3.1 x3.2.1 x3.2.2.1
def q66p:List PE := [e7,e35]
noncomputable def q66F(k:Nat):F8:=⟨q66C k,rr q66p [(ty_0,false),(.bool,false)] Tryz.f58,fun p=>bif Nat.beq p 58 then some (.loop q66i1 q66o1 0 80 (q66f1 k k))else none,0,[]⟩
theorem q66K(k:Nat):Contract Tryz.prog 58 (q66V k):=ctr (q66C k) (rs := [(ty_0,false),(.bool,false)]) (ps:=q66p) (q66F k) Tryz.f58 32 ⟨tyOf_ok tys_ok,gOf_ok ⟨q40K k,q65K k,trivial⟩⟩ (annl [58] ⟨lok q66i1 q66o1 0 80 (q66f1 k) k,trivial⟩)

noncomputable def q67V:Variant:=⟨[.val ty_0 false],[(.bool,false)],fun x=>spec_imDepth x.1⟩
noncomputable def q67C:Cfg:=⟨Tryz.prog,tyOf tys,5,gOf [(35,[],q12V)],false,[],[]⟩
def q67p:List PE := [e10]
noncomputable def q67F:F2:=⟨q67C,rr q67p [(.bool,false)] Tryz.f91,fun p=>none,0,[]⟩
theorem q67K:Contract Tryz.prog 91 (q67V):=ctr q67C (rs := [(.bool,false)]) (ps:=q67p) q67F Tryz.f91 16 ⟨tyOf_ok tys_ok,gOf_ok ⟨q12K,trivial⟩⟩ (annl [] trivial)

noncomputable def q68V(k:Nat):Variant:=⟨[.val ty_5 false,.val ty_9 true,.val ty_0 false],[(.bool,false)],fun x=>spec_imAsked k x.1 x.2.1 x.2.2.1⟩
noncomputable def q68C(k:Nat):Cfg:=⟨Tryz.prog,tyOf tys,14,gOf [(20,[],q40V k),(91,[],q67V)],false,[],[]⟩
def q68p:List PE := [e7,e35,e21]
noncomputable def q68F(k:Nat):F2:=⟨q68C k,rr q68p [(.bool,false)] Tryz.f79,fun p=>none,0,[]⟩
theorem q68K(k:Nat):Contract Tryz.prog 79 (q68V k):=ctr (q68C k) (rs := [(.bool,false)]) (ps:=q68p) (q68F k) Tryz.f79 48 ⟨tyOf_ok tys_ok,gOf_ok ⟨q40K k,q67K,trivial⟩⟩ (annl [] trivial)

noncomputable def q69V(k:Nat):Variant:=⟨[.val ty_7 false],[(ty_0,false),(.bool,false)],fun x=>spec_imTurns k x.1⟩
noncomputable def q69C(k:Nat):Cfg:=⟨Tryz.prog,tyOf tys,42,gOf [],false,[],[]⟩
def q69i1:List PE := [⟨0,16,.val ty_7 false,false⟩,⟨4,32,.val ty_0 false,false⟩,⟨7,48,.val ty_7 false,false⟩,e25,e42]
def q69o1:List PE := [⟨4,16,.val ty_0 false,false⟩]
noncomputable def q69f1(k:Nat)(n:Nat)(x1:PTe q69i1):=spec_imTurns_L58 k n x1.1 x1.2.1 x1.2.2.1 x1.2.2.2.1 x1.2.2.2.2.1
def q69p:List PE := [e8]
noncomputable def q69F(k:Nat):F8:=⟨q69C k,rr q69p [(ty_0,false),(.bool,false)] Tryz.f80,fun p=>bif Nat.beq p 58 then some (.loop q69i1 q69o1 0 96 (q69f1 k k))else none,0,[]⟩
theorem q69K(k:Nat):Contract Tryz.prog 80 (q69V k):=ctr (q69C k) (rs := [(ty_0,false),(.bool,false)]) (ps:=q69p) (q69F k) Tryz.f80 16 ⟨tyOf_ok tys_ok,gOf_ok trivial⟩ (annl [58] ⟨lok q69i1 q69o1 0 96 (q69f1 k) k,trivial⟩)

noncomputable def q70V(k:Nat):Variant:=⟨[.val ty_5 false,.val ty_9 true,.val ty_0 false],[(ty_0,false),(.bool,false)],fun x=>spec_WindingOf k x.1 x.2.1 x.2.2.1⟩
noncomputable def q70C(k:Nat):Cfg:=⟨Tryz.prog,tyOf tys,34,gOf [(79,[],q68V k),(78,[],q65V k),(80,[],q69V k)],false,[],[]⟩
def q70p:List PE := [e7,e35,e21]
noncomputable def q70F(k:Nat):F8:=⟨q70C k,rr q70p [(ty_0,false),(.bool,false)] Tryz.f59,fun p=>none,0,[]⟩
theorem q70K(k:Nat):Contract Tryz.prog 59 (q70V k):=ctr (q70C k) (rs := [(ty_0,false),(.bool,false)]) (ps:=q70p) (q70F k) Tryz.f59 48 ⟨tyOf_ok tys_ok,gOf_ok ⟨q68K k,q65K k,q69K k,trivial⟩⟩ (annl [] trivial)

noncomputable def q71V(k:Nat):Variant:=⟨[.val ty_5 false,.val ty_9 true],[(ty_0,false),(.bool,false)],fun x=>spec_dgPlane k x.1 x.2.1⟩
noncomputable def q71C(k:Nat):Cfg:=⟨Tryz.prog,tyOf tys,22,gOf [(58,[],q66V k),(59,[],q70V k)],false,[],[]⟩
def q71p:List PE := [e7,e35]
noncomputable def q71F(k:Nat):F8:=⟨q71C k,rr q71p [(ty_0,false),(.bool,false)] Tryz.f41,fun p=>none,0,[]⟩
theorem q71K(k:Nat):Contract Tryz.prog 41 (q71V k):=ctr (q71C k) (rs := [(ty_0,false),(.bool,false)]) (ps:=q71p) (q71F k) Tryz.f41 32 ⟨tyOf_ok tys_ok,gOf_ok ⟨q66K k,q70K k,trivial⟩⟩ (annl [] trivial)

noncomputable def q72V(k:Nat):Variant:=⟨[.val ty_5 false,.val ty_9 true],[(ty_0,false),(.bool,false)],fun x=>spec_DegreeOver k x.1 x.2.1⟩
noncomputable def q72C(k:Nat):Cfg:=⟨Tryz.prog,tyOf tys,15,gOf [(20,[],q40V k),(41,[],q71V k)],false,[],[]⟩
def q72p:List PE := [e7,e35]
noncomputable def q72F(k:Nat):F8:=⟨q72C k,rr q72p [(ty_0,false),(.bool,false)] Tryz.f21,fun p=>none,0,[]⟩
theorem q72K(k:Nat):Contract Tryz.prog 21 (q72V k):=ctr (q72C k) (rs := [(ty_0,false),(.bool,false)]) (ps:=q72p) (q72F k) Tryz.f21 32 ⟨tyOf_ok tys_ok,gOf_ok ⟨q40K k,q71K k,trivial⟩⟩ (annl [] trivial)

noncomputable def q73V(k:Nat):Variant:=⟨[.val ty_5 false,.val ty_9 true,.val ty_0 false],[(ty_7,false),(.bool,false)],fun x=>spec_DegreesOfParts k x.1 x.2.1 x.2.2.1⟩
noncomputable def q73C(k:Nat):Cfg:=⟨Tryz.prog,tyOf tys,49,gOf [(19,[],q31V k),(20,[],q40V k),(21,[],q72V k)],false,[],[]⟩
def q73i1:List PE := [e57,⟨10,64,.eat ty_0,false⟩,⟨29,80,.eat ty_9,false⟩,e28,⟨31,112,.val ty_0 false,false⟩]
def q73o1:List PE := [⟨10,48,.eat ty_0,false⟩]
noncomputable def q73f1(k:Nat)(n:Nat)(x4:PTe q73i1):=spec_DegreesOfParts_L250 k n x4.1 x4.2.1 x4.2.2.1 x4.2.2.2.1 x4.2.2.2.2.1
def q73p:List PE := [e7,e35,e21]
noncomputable def q73F(k:Nat):F12:=⟨q73C k,rr q73p [(ty_7,false),(.bool,false)] Tryz.f6,fun p=>bif Nat.beq p 250 then some (.loop q73i1 q73o1 0 128 (q73f1 k k))else none,0,[]⟩
theorem q73K(k:Nat):Contract Tryz.prog 6 (q73V k):=ctr (q73C k) (rs := [(ty_7,false),(.bool,false)]) (ps:=q73p) (q73F k) Tryz.f6 48 ⟨tyOf_ok tys_ok,gOf_ok ⟨q31K k,q40K k,q72K k,trivial⟩⟩ (annl [250] ⟨lok q73i1 q73o1 0 128 (q73f1 k) k,trivial⟩)

noncomputable def q74V:Variant:=⟨[.val ty_0 false,.val ty_0 false,.val ty_0 false],[(.bool,false)],fun x=>impl_inside x.1 x.2.1 x.2.2.1⟩
noncomputable def q74C:Cfg:=⟨Tryz.prog,tyOf tys,15,gOf [],false,[],[]⟩
def q74p:List PE := [e10,e2,e21]
noncomputable def q74F:F2:=⟨q74C,rr q74p [(.bool,false)] Tryz.f27,fun p=>none,0,[]⟩
theorem q74K:Contract Tryz.prog 27 (q74V):=ctr q74C (rs := [(.bool,false)]) (ps:=q74p) q74F Tryz.f27 48 ⟨tyOf_ok tys_ok,gOf_ok trivial⟩ (annl [] trivial)

noncomputable def q75V:Variant:=⟨[.val ty_3 true],[(ty_0,false)],fun x=>impl_Term_degree x.1⟩
noncomputable def q75C:Cfg:=⟨Tryz.prog,tyOf tys,11,gOf [],false,[],[]⟩
def q75p:List PE := [e11]
noncomputable def q75F:F1:=⟨q75C,rr q75p [(ty_0,false)] Tryz.f102,fun p=>none,0,[]⟩
theorem q75K:Contract Tryz.prog 102 (q75V):=ctr q75C (rs := [(ty_0,false)]) (ps:=q75p) q75F Tryz.f102 16 ⟨tyOf_ok tys_ok,gOf_ok trivial⟩ (annl [] trivial)

noncomputable def q76V:Variant:=⟨[.val ty_3 true],[(.bool,false)],fun x=>impl_hasDegree x.1⟩
noncomputable def q76C:Cfg:=⟨Tryz.prog,tyOf tys,21,gOf [(27,[],q74V),(102,[],q75V)],false,[],[]⟩
def q76p:List PE := [e11]
noncomputable def q76F:F2:=⟨q76C,rr q76p [(.bool,false)] Tryz.f92,fun p=>none,0,[]⟩
theorem q76K:Contract Tryz.prog 92 (q76V):=ctr q76C (rs := [(.bool,false)]) (ps:=q76p) q76F Tryz.f92 16 ⟨tyOf_ok tys_ok,gOf_ok ⟨q74K,q75K,trivial⟩⟩ (annl [] trivial)

noncomputable def q77V:Variant:=⟨[.val ty_0 false],[(.bool,false)],fun x=>cmp_isNaN_int x.1⟩
noncomputable def q77C:Cfg:=⟨Tryz.prog,tyOf tys,6,gOf [],false,[],[]⟩
def q77p:List PE := [e10]
noncomputable def q77F:F2:=⟨q77C,rr q77p [(.bool,false)] Tryz.f117,fun p=>none,0,[]⟩
theorem q77K:Contract Tryz.prog 117 (q77V):=ctr q77C (rs := [(.bool,false)]) (ps:=q77p) q77F Tryz.f117 16 ⟨tyOf_ok tys_ok,gOf_ok trivial⟩ (annl [] trivial)

noncomputable def q78V:Variant:=⟨[.val ty_0 false,.val ty_0 false],[(ty_0,false)],fun x=>cmp_Compare_int x.1 x.2.1⟩
noncomputable def q78C:Cfg:=⟨Tryz.prog,tyOf tys,20,gOf [(117,[],q77V)],false,[],[]⟩
def q78p:List PE := [e10,e2]
noncomputable def q78F:F1:=⟨q78C,rr q78p [(ty_0,false)] Tryz.f104,fun p=>none,0,[]⟩
theorem q78K:Contract Tryz.prog 104 (q78V):=ctr q78C (rs := [(ty_0,false)]) (ps:=q78p) q78F Tryz.f104 32 ⟨tyOf_ok tys_ok,gOf_ok ⟨q77K,trivial⟩⟩ (annl [] trivial)

noncomputable def q79V(k:Nat):Variant:=⟨[.val ty_7 false],[(ty_0,false)],fun x=>cmp_Or_int k x.1⟩
noncomputable def q79C(k:Nat):Cfg:=⟨Tryz.prog,tyOf tys,18,gOf [],false,[],[]⟩
def q79i1:List PE := [⟨3,16,.val ty_0 false,false⟩,⟨6,32,.val ty_7 false,false⟩,e24,e25]
def q79o1:List PE := [⟨3,16,.val ty_0 false,false⟩]
noncomputable def q79f1(k:Nat)(n:Nat)(x1:PTe q79i1):=cmp_Or_int_L58 k n x1.1 x1.2.1 x1.2.2.1 x1.2.2.2.1
def q79p:List PE := [e8]
noncomputable def q79F(k:Nat):F1:=⟨q79C k,rr q79p [(ty_0,false)] Tryz.f103,fun p=>bif Nat.beq p 58 then some (.loop q79i1 q79o1 0 80 (q79f1 k k))else none,0,[]⟩
theorem q79K(k:Nat):Contract Tryz.prog 103 (q79V k):=ctr (q79C k) (rs := [(ty_0,false)]) (ps:=q79p) (q79F k) Tryz.f103 16 ⟨tyOf_ok tys_ok,gOf_ok trivial⟩ (annl [58] ⟨lok q79i1 q79o1 0 80 (q79f1 k) k,trivial⟩)

noncomputable def q80V(k:Nat):Variant:=⟨[.val ty_3 true,.val ty_3 true],[(ty_0,false)],fun x=>impl_compareTerms k x.1 x.2.1⟩
noncomputable def q80C(k:Nat):Cfg:=⟨Tryz.prog,tyOf tys,22,gOf [(104,[],q78V),(103,[],q79V k)],false,[],[]⟩
def q80p:List PE := [e11,e38]
noncomputable def q80F(k:Nat):F1:=⟨q80C k,rr q80p [(ty_0,false)] Tryz.f93,fun p=>none,0,[]⟩
theorem q80K(k:Nat):Contract Tryz.prog 93 (q80V k):=ctr (q80C k) (rs := [(ty_0,false)]) (ps:=q80p) (q80F k) Tryz.f93 32 ⟨tyOf_ok tys_ok,gOf_ok ⟨q78K,q79K k,trivial⟩⟩ (annl [] trivial)

noncomputable def q81V(k:Nat):Variant:=⟨[.val ty_4 false],[(.bool,false)],fun x=>impl_isPoly k x.1⟩
noncomputable def q81C(k:Nat):Cfg:=⟨Tryz.prog,tyOf tys,44,gOf [(27,[],q74V),(92,[],q76V),(93,[],q80V k)],false,[],[]⟩
def q81i1:List PE := [e39,⟨5,32,.val ty_4 false,false⟩,e40,e15]
def q81o1:List PE := [e39]
noncomputable def q81f1(k:Nat)(n:Nat)(x4:PTe q81i1):=impl_isPoly_L26 k n x4.1 x4.2.1 x4.2.2.1 x4.2.2.2.1
def q81p:List PE := [e1]
noncomputable def q81F(k:Nat):F2:=⟨q81C k,rr q81p [(.bool,false)] Tryz.f81,fun p=>bif Nat.beq p 26 then some (.loop q81i1 q81o1 0 80 (q81f1 k k))else none,0,[]⟩
theorem q81K(k:Nat):Contract Tryz.prog 81 (q81V k):=ctr (q81C k) (rs := [(.bool,false)]) (ps:=q81p) (q81F k) Tryz.f81 16 ⟨tyOf_ok tys_ok,gOf_ok ⟨q74K,q76K,q80K k,trivial⟩⟩ (annl [26] ⟨lok q81i1 q81o1 0 80 (q81f1 k) k,trivial⟩)

noncomputable def q82V:Variant:=⟨[.val ty_3 true],[(ty_2,true)],fun x=>impl_Term_exponents x.1⟩
noncomputable def q82C:Cfg:=⟨Tryz.prog,tyOf tys,10,gOf [],false,[],[]⟩
def q82p:List PE := [e11]
noncomputable def q82F:Fn (Int×Int×Int):=⟨q82C,rr q82p [(ty_2,true)] Tryz.f94,fun p=>none,0,[]⟩
theorem q82K:Contract Tryz.prog 94 (q82V):=ctr q82C (rs := [(ty_2,true)]) (ps:=q82p) q82F Tryz.f94 16 ⟨tyOf_ok tys_ok,gOf_ok trivial⟩ (annl [] trivial)

noncomputable def q83V(k:Nat):Variant:=⟨[.val ty_4 false,.val ty_0 false],[(.bool,false)],fun x=>impl_needsAtMost k x.1 x.2.1⟩
noncomputable def q83C(k:Nat):Cfg:=⟨Tryz.prog,tyOf tys,30,gOf [(94,[],q82V)],false,[],[]⟩
def q83i1:List PE := [e6,e58,e59,e60,⟨16,96,.val ty_2 true,false⟩,⟨17,112,.val ty_0 false,false⟩]
def q83o1:List PE := [e6,e58,e59,e60]
noncomputable def q83f1(k:Nat)(n:Nat)(x2:PTe q83i1):=impl_needsAtMost_L6758 k n x2.1 x2.2.1 x2.2.2.1 x2.2.2.2.1 x2.2.2.2.2.1 x2.2.2.2.2.2.1
def q83i2:List PE := [e6,e58,e59,e60]
def q83o2:List PE := []
noncomputable def q83f2(k:Nat)(n:Nat)(x5:PTe q83i2):=impl_needsAtMost_L26 k n x5.1 x5.2.1 x5.2.2.1 x5.2.2.2.1
def q83p:List PE := [e1,e2]
noncomputable def q83F(k:Nat):F2:=⟨q83C k,rr q83p [(.bool,false)] Tryz.f82,fun p=>bif Nat.beq p 6758 then some (.loop q83i1 q83o1 2 128 (q83f1 k k))else bif Nat.beq p 26 then some (.loop q83i2 q83o2 0 96 (q83f2 k k))else none,0,[]⟩
theorem q83K(k:Nat):Contract Tryz.prog 82 (q83V k):=ctr (q83C k) (rs := [(.bool,false)]) (ps:=q83p) (q83F k) Tryz.f82 32 ⟨tyOf_ok tys_ok,gOf_ok ⟨q82K,trivial⟩⟩ (annl [26,6758] ⟨lok q83i2 q83o2 0 96 (q83f2 k) k,lok q83i1 q83o1 2 128 (q83f1 k) k,trivial⟩)

noncomputable def q84V(k:Nat):Variant:=⟨[.val ty_5 false],[(.bool,false)],fun x=>impl_isSystem k x.1⟩
noncomputable def q84C(k:Nat):Cfg:=⟨Tryz.prog,tyOf tys,25,gOf [(81,[],q81V k),(82,[],q83V k),(27,[],q74V)],false,[],[]⟩
def q84i1:List PE := [e43,⟨5,32,.val ty_5 false,false⟩,e40,e15]
def q84o1:List PE := [e43]
noncomputable def q84f1(k:Nat)(n:Nat)(x3:PTe q84i1):=impl_isSystem_L26 k n x3.1 x3.2.1 x3.2.2.1 x3.2.2.2.1
def q84p:List PE := [e7]
noncomputable def q84F(k:Nat):F2:=⟨q84C k,rr q84p [(.bool,false)] Tryz.f60,fun p=>bif Nat.beq p 26 then some (.loop q84i1 q84o1 0 80 (q84f1 k k))else none,0,[]⟩
theorem q84K(k:Nat):Contract Tryz.prog 60 (q84V k):=ctr (q84C k) (rs := [(.bool,false)]) (ps:=q84p) (q84F k) Tryz.f60 16 ⟨tyOf_ok tys_ok,gOf_ok ⟨q81K k,q83K k,q74K,trivial⟩⟩ (annl [26] ⟨lok q84i1 q84o1 0 80 (q84f1 k) k,trivial⟩)

noncomputable def q85V(k:Nat):Variant:=⟨[.val ty_5 false],[(.bool,false)],fun x=>impl_isTwo k x.1⟩
noncomputable def q85C(k:Nat):Cfg:=⟨Tryz.prog,tyOf tys,10,gOf [(60,[],q84V k)],false,[],[]⟩
def q85p:List PE := [e7]
noncomputable def q85F(k:Nat):F2:=⟨q85C k,rr q85p [(.bool,false)] Tryz.f43,fun p=>none,0,[]⟩
theorem q85K(k:Nat):Contract Tryz.prog 43 (q85V k):=ctr (q85C k) (rs := [(.bool,false)]) (ps:=q85p) (q85F k) Tryz.f43 16 ⟨tyOf_ok tys_ok,gOf_ok ⟨q84K k,trivial⟩⟩ (annl [] trivial)

noncomputable def q86V(k:Nat):Variant:=⟨[.ptr ty_9 false],[(.bool,false)],fun x=>impl_isBox k x.1⟩
noncomputable def q86C(k:Nat):Cfg:=⟨Tryz.prog,tyOf tys,94,gOf [(27,[],q74V)],false,[],[]⟩
def q86i1:List PE := [⟨0,16,.ptr ty_9 false,false⟩,e23,⟨4,48,.val .bool false,false⟩,⟨48,64,.val ty_7 false,false⟩,⟨49,80,.val ty_0 false,false⟩,⟨50,96,.val ty_0 false,false⟩]
def q86o1:List PE := [⟨4,16,.val .bool false,false⟩]
noncomputable def q86f1(k:Nat)(n:Nat)(x5:PTe q86i1):=impl_isBox_L122 k n x5.1 x5.2.1 x5.2.2.1 x5.2.2.2.1 x5.2.2.2.2.1 x5.2.2.2.2.2.1
def q86p:List PE := [e61]
noncomputable def q86F(k:Nat):F2:=⟨q86C k,rr q86p [(.bool,false)] Tryz.f61,fun p=>bif Nat.beq p 122 then some (.loop q86i1 q86o1 0 112 (q86f1 k k))else none,0,[]⟩
theorem q86K(k:Nat):Contract Tryz.prog 61 (q86V k):=ctr (q86C k) (rs := [(.bool,false)]) (ps:=q86p) (q86F k) Tryz.f61 16 ⟨tyOf_ok tys_ok,gOf_ok ⟨q74K,trivial⟩⟩ (annl [122] ⟨lok q86i1 q86o1 0 112 (q86f1 k) k,trivial⟩)

noncomputable def q87V(k:Nat):Variant:=⟨[.ptr ty_9 false],[(.bool,false)],fun x=>impl_isPlaneBox k x.1⟩
noncomputable def q87C(k:Nat):Cfg:=⟨Tryz.prog,tyOf tys,20,gOf [(61,[],q86V k)],false,[],[]⟩
def q87p:List PE := [e61]
noncomputable def q87F(k:Nat):F2:=⟨q87C k,rr q87p [(.bool,false)] Tryz.f44,fun p=>none,0,[]⟩
theorem q87K(k:Nat):Contract Tryz.prog 44 (q87V k):=ctr (q87C k) (rs := [(.bool,false)]) (ps:=q87p) (q87F k) Tryz.f44 16 ⟨tyOf_ok tys_ok,gOf_ok ⟨q86K k,trivial⟩⟩ (annl [] trivial)

noncomputable def q88V(k:Nat):Variant:=⟨[.val ty_5 false,.ptr ty_9 false],[(.bool,false)],fun x=>impl_isPlane k x.1 x.2.1⟩
noncomputable def q88C(k:Nat):Cfg:=⟨Tryz.prog,tyOf tys,11,gOf [(43,[],q85V k),(44,[],q87V k)],false,[],[]⟩
def q88p:List PE := [e7,e62]
noncomputable def q88F(k:Nat):F2:=⟨q88C k,rr q88p [(.bool,false)] Tryz.f26,fun p=>none,0,[]⟩
theorem q88K(k:Nat):Contract Tryz.prog 26 (q88V k):=ctr (q88C k) (rs := [(.bool,false)]) (ps:=q88p) (q88F k) Tryz.f26 32 ⟨tyOf_ok tys_ok,gOf_ok ⟨q85K k,q87K k,trivial⟩⟩ (annl [] trivial)

noncomputable def q89V(k:Nat):Variant:=⟨[.val ty_7 false,.val ty_0 false],[(ty_7,false)],fun x=>impl_scaled k x.1 x.2.1⟩
noncomputable def q89C(k:Nat):Cfg:=⟨Tryz.prog,tyOf tys,22,gOf [],false,[],[]⟩
def q89i1:List PE := [e6,e20,⟨8,64,.val ty_7 false,false⟩,e42,⟨10,96,.val ty_0 false,false⟩]
def q89o1:List PE := [⟨5,32,.eat ty_0,false⟩]
noncomputable def q89f1(k:Nat)(n:Nat)(x1:PTe q89i1):=impl_scaled_L58 k n x1.1 x1.2.1 x1.2.2.1 x1.2.2.2.1 x1.2.2.2.2.1
def q89p:List PE := [e8,e2]
noncomputable def q89F(k:Nat):F3:=⟨q89C k,rr q89p [(ty_7,false)] Tryz.f45,fun p=>bif Nat.beq p 58 then some (.loop q89i1 q89o1 0 112 (q89f1 k k))else none,0,[]⟩
theorem q89K(k:Nat):Contract Tryz.prog 45 (q89V k):=ctr (q89C k) (rs := [(ty_7,false)]) (ps:=q89p) (q89F k) Tryz.f45 32 ⟨tyOf_ok tys_ok,gOf_ok trivial⟩ (annl [58] ⟨lok q89i1 q89o1 0 112 (q89f1 k) k,trivial⟩)

noncomputable def q90V:Variant:=⟨[.val ty_7 false],[(ty_7,false)],fun x=>slices_Clone_int_int x.1⟩
noncomputable def q90C:Cfg:=⟨Tryz.prog,tyOf tys,8,gOf [],false,[],[]⟩
def q90p:List PE := [e8]
noncomputable def q90F:F3:=⟨q90C,rr q90p [(ty_7,false)] Tryz.f46,fun p=>none,0,[]⟩
theorem q90eq(x:PTe q90p):evFnN false (q90F) (codeOf Tryz.f46) q90p 16 x=slices_Clone_int_int x.1:=by kernel_rfl
theorem q90e0(x:(Unit)):evFnN true (q90F) (codeOf Tryz.f46) q90p 16 (([]:List Int),x)=slices_Clone_int_int []:=by kernel_rfl
theorem q90K:Contract Tryz.prog 46 (q90V) :=
 contractN (C:=q90C) (F:=q90F) (fn:=Tryz.f46) (ps:=q90p) (rs := [(ty_7,false)]) (nx:=16) rfl ⟨tyOf_ok tys_ok,gOf_ok trivial⟩ rfl (by kernel_rfl) (by kernel_rfl) (by kernel_rfl) (by kernel_rfl) (by kernel_rfl) (by kernel_rfl) rfl (by kernel_rfl) (by kernel_rfl) (AnnOk_list [] (by kernel_rfl) trivial) mix_ok (q90eq) (fun x h=>by obtain⟨x1,x2⟩:=x;have h:x1 = []:=h;subst h;exact q90e0 x2)

noncomputable def q91V:Variant:=⟨[.ptr ty_9 false,.val ty_0 false],[(ty_0,false)],fun x=>impl_Box_length x.1 x.2.1⟩
noncomputable def q91C:Cfg:=⟨Tryz.prog,tyOf tys,20,gOf [],false,[],[]⟩
def q91p:List PE := [e61,e2]
noncomputable def q91F:F1:=⟨q91C,rr q91p [(ty_0,false)] Tryz.f47,fun p=>none,0,[]⟩
theorem q91K:Contract Tryz.prog 47 (q91V):=ctr q91C (rs := [(ty_0,false)]) (ps:=q91p) q91F Tryz.f47 32 ⟨tyOf_ok tys_ok,gOf_ok trivial⟩ (annl [] trivial)

noncomputable def q92V:Variant:=⟨[.lit (.slice none 0 0),.val ty_0 false],[(ty_7,false)],fun x=>slices_Grow_int_int x.1 x.2.1⟩
noncomputable def q92C:Cfg:=⟨Tryz.prog,tyOf tys,27,gOf [],true,[],[]⟩
def q92p:List PE := [⟨0,0,.lit (.slice none 0 0),false⟩,e2]
noncomputable def q92F:F3:=⟨q92C,rr q92p [(ty_7,false)] Tryz.f84,fun p=>none,0,[]⟩
theorem q92K:Contract Tryz.prog 84 (q92V):=ctr q92C (rs := [(ty_7,false)]) (ps:=q92p) q92F Tryz.f84 32 ⟨tyOf_ok tys_ok,gOf_ok trivial⟩ (annl [] trivial)

noncomputable def q93V(k:Nat):Variant:=⟨[.val ty_16 false],[(ty_7,false)],fun x=>slices_Concat_int_int k x.1⟩
noncomputable def q93C(k:Nat):Cfg:=⟨Tryz.prog,tyOf tys,36,gOf [(84,[],q92V)],false,[],[]⟩
def q93i1:List PE := [⟨0,16,.val ty_16 false,false⟩,e23,⟨9,48,.val ty_16 false,false⟩,e59,e60]
def q93o1:List PE := [⟨0,16,.val ty_16 false,false⟩,e23]
noncomputable def q93f1(k:Nat)(n:Nat)(x1:PTe q93i1):=slices_Concat_int_int_L58 k n x1.1 x1.2.1 x1.2.2.1 x1.2.2.2.1 x1.2.2.2.2.1
def q93i2:List PE := [⟨6,16,.eat ty_0,false⟩,⟨25,32,.val ty_16 false,false⟩,⟨26,48,.val ty_0 false,false⟩,⟨27,64,.val ty_0 false,false⟩]
def q93o2:List PE := [⟨6,16,.eat ty_0,false⟩]
noncomputable def q93f2(k:Nat)(n:Nat)(x5:PTe q93i2):=slices_Concat_int_int_L250 k n x5.1 x5.2.1 x5.2.2.1 x5.2.2.2.1
def q93p:List PE := [⟨0,0,.val ty_16 false,false⟩]
noncomputable def q93F(k:Nat):F3:=⟨q93C k,rr q93p [(ty_7,false)] Tryz.f63,fun p=>bif Nat.beq p 58 then some (.loop q93i1 q93o1 0 96 (q93f1 k k))else bif Nat.beq p 250 then some (.loop q93i2 q93o2 2 80 (q93f2 k k))else none,0,[]⟩
theorem q93K(k:Nat):Contract Tryz.prog 63 (q93V k):=ctr (q93C k) (rs := [(ty_7,false)]) (ps:=q93p) (q93F k) Tryz.f63 16 ⟨tyOf_ok tys_ok,gOf_ok ⟨q92K,trivial⟩⟩ (annl [58,250] ⟨lok q93i1 q93o1 0 96 (q93f1 k) k,lok q93i2 q93o2 2 80 (q93f2 k) k,trivial⟩)

noncomputable def q94V:Variant:=⟨[.val ty_0 false],[(.bool,false)],fun x=>impl_boxOf_1 x.1⟩
noncomputable def q94C:Cfg:=⟨Tryz.prog,tyOf tys,6,gOf [],false,[],[]⟩
def q94p:List PE := [e10]
noncomputable def q94F:F2:=⟨q94C,rr q94p [(.bool,false)] Tryz.f64,fun p=>none,0,[]⟩
theorem q94K:Contract Tryz.prog 64 (q94V):=ctr q94C (rs := [(.bool,false)]) (ps:=q94p) q94F Tryz.f64 16 ⟨tyOf_ok tys_ok,gOf_ok trivial⟩ (annl [] trivial)

noncomputable def q95V(k:Nat):Variant:=⟨[.val ty_7 false,.fn 64 []],[(ty_0,false)],fun x=>slices_IndexFunc_int_int_impl_boxOf_1 k x.1 x.2.1⟩
noncomputable def q95C(k:Nat):Cfg:=⟨Tryz.prog,tyOf tys,19,gOf [(64,[],q94V)],false,[],[]⟩
def q95i1:List PE := [e19,⟨1,48,.fn 64 [],false⟩,e15,e63]
def q95o1:List PE := []
noncomputable def q95f1(k:Nat)(n:Nat)(x2:PTe q95i1):=slices_IndexFunc_int_int_impl_boxOf_1_L26 k n x2.1 x2.2.1 x2.2.2.1 x2.2.2.2.1
def q95p:List PE := [e8,⟨1,16,.fn 64 [],false⟩]
noncomputable def q95F(k:Nat):F1:=⟨q95C k,rr q95p [(ty_0,false)] Tryz.f83,fun p=>bif Nat.beq p 26 then some (.loop q95i1 q95o1 0 96 (q95f1 k k))else none,0,[]⟩
theorem q95K(k:Nat):Contract Tryz.prog 83 (q95V k):=ctr (q95C k) (rs := [(ty_0,false)]) (ps:=q95p) (q95F k) Tryz.f83 32 ⟨tyOf_ok tys_ok,gOf_ok ⟨q94K,trivial⟩⟩ (annl [26] ⟨lok q95i1 q95o1 0 96 (q95f1 k) k,trivial⟩)

noncomputable def q96V(k:Nat):Variant:=⟨[.val ty_7 false,.fn 64 []],[(.bool,false)],fun x=>slices_ContainsFunc_int_int_impl_boxOf_1 k x.1 x.2.1⟩
noncomputable def q96C(k:Nat):Cfg:=⟨Tryz.prog,tyOf tys,9,gOf [(83,[64],q95V k)],false,[],[]⟩
def q96p:List PE := [e8,⟨1,16,.fn 64 [],false⟩]
noncomputable def q96F(k:Nat):F2:=⟨q96C k,rr q96p [(.bool,false)] Tryz.f62,fun p=>none,0,[]⟩
theorem q96K(k:Nat):Contract Tryz.prog 62 (q96V k):=ctr (q96C k) (rs := [(.bool,false)]) (ps:=q96p) (q96F k) Tryz.f62 32 ⟨tyOf_ok tys_ok,gOf_ok ⟨q95K k,trivial⟩⟩ (annl [] trivial)

noncomputable def q97V(k:Nat):Variant:=⟨[.val ty_0 false,.val ty_7 false,.val ty_7 false],[(ty_9,true),(.bool,false)],fun x=>impl_boxOf k x.1 x.2.1 x.2.2.1⟩
noncomputable def q97C(k:Nat):Cfg:=⟨Tryz.prog,tyOf tys,62,gOf [(46,[],q90V),(63,[],q93V k),(62,[64],q96V k),(61,[],q86V k)],false,[],[26,200039]⟩
def q97i1:List PE := [⟨10,48,.fsel 8 [1,2],false⟩,⟨39,64,.al 8 [1,2],false⟩,⟨6,80,.box ty_9 true,false⟩,⟨8,96,.box ty_9 true,false⟩,⟨40,112,.val ty_0 false,false⟩,⟨41,128,.val ty_0 false,false⟩,⟨46,144,.val ty_0 false,false⟩,⟨47,160,.val ty_0 false,false⟩]
def q97o1:List PE := [⟨39,48,.al 8 [1,2],false⟩,⟨6,64,.box ty_9 true,false⟩,⟨8,80,.box ty_9 true,false⟩,e36,⟨41,112,.val ty_0 false,false⟩]
noncomputable def q97f1(k:Nat)(n:Nat)(x5:PTe q97i1):=impl_boxOf_L464486 k n x5.1 x5.2.1 x5.2.2.1 x5.2.2.2.1 x5.2.2.2.2.1 x5.2.2.2.2.2.1 x5.2.2.2.2.2.2.1 x5.2.2.2.2.2.2.2.1
def q97i2:List PE := [⟨39,48,.al 8 [1,2],false⟩,⟨6,64,.box ty_9 true,false⟩,⟨8,80,.box ty_9 true,false⟩,e36,⟨41,112,.val ty_0 false,false⟩]
def q97o2:List PE := [e26,e27]
noncomputable def q97f2(k:Nat)(n:Nat)(x11:PTe q97i2):=impl_boxOf_L1814 k n x11.1 x11.2.1 x11.2.2.1 x11.2.2.2.1 x11.2.2.2.2.1
def q97i3:List PE := [e26,e27]
def q97o3:List PE := [e26,e27]
noncomputable def q97f3(k:Nat)(n:Nat)(x14:PTe q97i3):=impl_boxOf_L28 k n x14.1 x14.2.1
def q97p:List PE := [e10,e29,⟨2,32,.val ty_7 false,false⟩]
noncomputable def q97F(k:Nat):F4:=⟨q97C k,rr q97p [(ty_9,true),(.bool,false)] Tryz.f48,fun p=>bif Nat.beq p 464486 then some (.loop q97i1 q97o1 4 176 (q97f1 k k))else bif Nat.beq p 1814 then some (.loop q97i2 q97o2 2 128 (q97f2 k k))else bif Nat.beq p 28 then some (.loop q97i3 q97o3 0 80 (q97f3 k k))else none,0,[]⟩
theorem q97K(k:Nat):Contract Tryz.prog 48 (q97V k):=ctr (q97C k) (rs := [(ty_9,true),(.bool,false)]) (ps:=q97p) (q97F k) Tryz.f48 48 ⟨tyOf_ok tys_ok,gOf_ok ⟨q90K,q93K k,q96K k,q86K k,trivial⟩⟩ (annl [28,1814,464486] ⟨lok q97i3 q97o3 0 80 (q97f3 k) k,lok q97i2 q97o2 2 128 (q97f2 k) k,lok q97i1 q97o1 4 176 (q97f1 k) k,trivial⟩)

noncomputable def q98V(k:Nat):Variant:=⟨[.ptr ty_9 false,.val ty_0 false],[(ty_15,false),(.bool,false)],fun x=>impl_Box_parts k x.1 x.2.1⟩
noncomputable def q98C(k:Nat):Cfg:=⟨Tryz.prog,tyOf tys,122,gOf [(45,[],q89V k),(46,[],q90V),(47,[],q91V),(48,[],q97V k)],false,[6,93,116],[]⟩
def q98i1:List PE := [e64,e4,e15,e65,⟨10,96,.box ty_9 false,false⟩,⟨35,112,.val ty_0 false,false⟩,⟨36,128,.val ty_0 false,false⟩,⟨39,144,.val ty_15 false,false⟩,⟨40,160,.val ty_0 false,false⟩,⟨41,176,.val ty_0 false,false⟩,⟨46,192,.val ty_0 false,false⟩,⟨47,208,.val ty_0 false,false⟩]
def q98o1:List PE := [e64,e4,e15,e65,⟨35,96,.val ty_0 false,false⟩,⟨36,112,.val ty_0 false,false⟩,⟨39,128,.val ty_15 false,false⟩,⟨40,144,.val ty_0 false,false⟩,⟨41,160,.val ty_0 false,false⟩]
noncomputable def q98f1(k:Nat)(n:Nat)(x7:PTe q98i1):=impl_Box_parts_L15309414 k n x7.1 x7.2.1 x7.2.2.1 x7.2.2.2.1 x7.2.2.2.2.1 x7.2.2.2.2.2.1 x7.2.2.2.2.2.2.1 x7.2.2.2.2.2.2.2.1 x7.2.2.2.2.2.2.2.2.1 x7.2.2.2.2.2.2.2.2.2.1 x7.2.2.2.2.2.2.2.2.2.2.1 x7.2.2.2.2.2.2.2.2.2.2.2.1
def q98i2:List PE := [e64,e4,e15,e65,⟨35,96,.val ty_0 false,false⟩,⟨36,112,.val ty_0 false,false⟩,⟨39,128,.val ty_15 false,false⟩,⟨40,144,.val ty_0 false,false⟩,⟨41,160,.val ty_0 false,false⟩]
def q98o2:List PE := [e64,e4,⟨8,64,.eat ty_9,false⟩,⟨35,80,.val ty_0 false,false⟩,⟨36,96,.val ty_0 false,false⟩]
noncomputable def q98f2(k:Nat)(n:Nat)(x10:PTe q98i2):=impl_Box_parts_L59802 k n x10.1 x10.2.1 x10.2.2.1 x10.2.2.2.1 x10.2.2.2.2.1 x10.2.2.2.2.2.1 x10.2.2.2.2.2.2.1 x10.2.2.2.2.2.2.2.1 x10.2.2.2.2.2.2.2.2.1
def q98i3:List PE := [e64,e4,⟨6,64,.eat ty_9,false⟩,⟨35,80,.val ty_0 false,false⟩,⟨36,96,.val ty_0 false,false⟩]
def q98o3:List PE := [e64,e4,⟨6,64,.eat ty_9,false⟩]
noncomputable def q98f3(k:Nat)(n:Nat)(x13:PTe q98i3):=impl_Box_parts_L58 k n x13.1 x13.2.1 x13.2.2.1 x13.2.2.2.1 x13.2.2.2.2.1
def q98i4:List PE := [⟨93,32,.same 6,false⟩,⟨0,48,.ptr ty_9 false,false⟩,⟨1,64,.val ty_0 false,false⟩,⟨6,80,.eat ty_9,false⟩,⟨94,96,.val ty_0 false,false⟩,⟨95,112,.val ty_0 false,false⟩]
def q98o4:List PE := [⟨6,32,.eat ty_9,false⟩]
noncomputable def q98f4(k:Nat)(n:Nat)(x17:PTe q98i4):=impl_Box_parts_L122 k n x17.1 x17.2.1 x17.2.2.1 x17.2.2.2.1 x17.2.2.2.2.1 x17.2.2.2.2.2.1
def q98p:List PE := [e61,e2]
noncomputable def q98F(k:Nat):F5:=⟨q98C k,rr q98p [(ty_15,false),(.bool,false)] Tryz.f28,fun p=>bif Nat.beq p 15309414 then some (.loop q98i1 q98o1 4 224 (q98f1 k k))else bif Nat.beq p 59802 then some (.loop q98i2 q98o2 2 176 (q98f2 k k))else bif Nat.beq p 58 then some (.loop q98i3 q98o3 0 112 (q98f3 k k))else bif Nat.beq p 122 then some (.loop q98i4 q98o4 6 128 (q98f4 k k))else none,0,[]⟩
theorem q98K(k:Nat):Contract Tryz.prog 28 (q98V k):=ctr (q98C k) (rs := [(ty_15,false),(.bool,false)]) (ps:=q98p) (q98F k) Tryz.f28 32 ⟨tyOf_ok tys_ok,gOf_ok ⟨q89K k,q90K,q91K,q97K k,trivial⟩⟩ (annl [58,59802,15309414,122] ⟨lok q98i3 q98o3 0 112 (q98f3 k) k,lok q98i2 q98o2 2 176 (q98f2 k) k,lok q98i1 q98o1 4 224 (q98f1 k) k,lok q98i4 q98o4 6 128 (q98f4 k) k,trivial⟩)

noncomputable def q99V:Variant:=⟨[.val ty_0 false],[(ty_17,false)],fun x=>impl_size x.1⟩
noncomputable def q99C:Cfg:=⟨Tryz.prog,tyOf tys,10,gOf [],false,[],[]⟩
def q99p:List PE := [e10]
noncomputable def q99F:F1:=⟨q99C,rr q99p [(ty_17,false)] Tryz.f105,fun p=>none,0,[]⟩
theorem q99K:Contract Tryz.prog 105 (q99V):=ctr q99C (rs := [(ty_17,false)]) (ps:=q99p) q99F Tryz.f105 16 ⟨tyOf_ok tys_ok,gOf_ok trivial⟩ (annl [] trivial)

noncomputable def q100V:Variant:=⟨[.val ty_0 false],[(ty_19,true)],fun x=>impl_wideOf x.1⟩
noncomputable def q100C:Cfg:=⟨Tryz.prog,tyOf tys,8,gOf [(105,[],q99V)],false,[],[]⟩
def q100p:List PE := [e10]
noncomputable def q100F:F13:=⟨q100C,rr q100p [(ty_19,true)] Tryz.f96,fun p=>none,0,[]⟩
theorem q100K:Contract Tryz.prog 96 (q100V):=ctr q100C (rs := [(ty_19,true)]) (ps:=q100p) q100F Tryz.f96 16 ⟨tyOf_ok tys_ok,gOf_ok ⟨q99K,trivial⟩⟩ (annl [] trivial)

noncomputable def q101V:Variant:=⟨[.val ty_19 true],[(.bool,false)],fun x=>impl_wide_isZero x.1⟩
noncomputable def q101C:Cfg:=⟨Tryz.prog,tyOf tys,11,gOf [],false,[],[]⟩
def q101p:List PE := [e66]
noncomputable def q101F:F2:=⟨q101C,rr q101p [(.bool,false)] Tryz.f106,fun p=>none,0,[]⟩
theorem q101K:Contract Tryz.prog 106 (q101V):=ctr q101C (rs := [(.bool,false)]) (ps:=q101p) q101F Tryz.f106 16 ⟨tyOf_ok tys_ok,gOf_ok trivial⟩ (annl [] trivial)

noncomputable def q102V:Variant:=⟨[.val ty_19 true,.val ty_0 false],[(ty_19,true)],fun x=>impl_wide_shift x.1 x.2.1⟩
noncomputable def q102C:Cfg:=⟨Tryz.prog,tyOf tys,63,gOf [],false,[],[]⟩
def q102p:List PE := [e66,e2]
noncomputable def q102F:F13:=⟨q102C,rr q102p [(ty_19,true)] Tryz.f107,fun p=>none,0,[]⟩
theorem q102K:Contract Tryz.prog 107 (q102V):=ctr q102C (rs := [(ty_19,true)]) (ps:=q102p) q102F Tryz.f107 32 ⟨tyOf_ok tys_ok,gOf_ok trivial⟩ (annl [] trivial)

noncomputable def q103V(k:Nat):Variant:=⟨[.val ty_19 true,.val ty_0 false],[(ty_1,true),(.bool,false)],fun x=>impl_wide_fit k x.1 x.2.1⟩
noncomputable def q103C(k:Nat):Cfg:=⟨Tryz.prog,tyOf tys,45,gOf [(106,[],q101V),(107,[],q102V)],false,[],[]⟩
def q103i1:List PE := [e6,⟨2,48,.box ty_19 false,false⟩,e32]
def q103o1:List PE := [e6,⟨2,48,.box ty_19 false,false⟩,e32]
noncomputable def q103f1(k:Nat)(n:Nat)(x3:PTe q103i1):=impl_wide_fit_L28 k n x3.1 x3.2.1 x3.2.2.1
def q103p:List PE := [e66,e2]
noncomputable def q103F(k:Nat):F6:=⟨q103C k,rr q103p [(ty_1,true),(.bool,false)] Tryz.f97,fun p=>bif Nat.beq p 28 then some (.loop q103i1 q103o1 0 80 (q103f1 k k))else none,0,[]⟩
theorem q103K(k:Nat):Contract Tryz.prog 97 (q103V k):=ctr (q103C k) (rs := [(ty_1,true),(.bool,false)]) (ps:=q103p) (q103F k) Tryz.f97 32 ⟨tyOf_ok tys_ok,gOf_ok ⟨q101K,q102K,trivial⟩⟩ (annl [28] ⟨lok q103i1 q103o1 0 80 (q103f1 k) k,trivial⟩)

noncomputable def q104V(k:Nat):Variant:=⟨[.val ty_0 false,.val ty_0 false,.pp ty_9,.ptr ty_0 false,.ptr ty_0 false],[(ty_1,true)],fun x=>impl_boundaryEdges_1 k x.1 x.2.1 x.2.2.1 x.2.2.2.1 x.2.2.2.2.1⟩
noncomputable def q104C(k:Nat):Cfg:=⟨Tryz.prog,tyOf tys,37,gOf [(47,[],q91V),(96,[],q100V),(97,[],q103V k)],false,[],[]⟩
def q104p:List PE := [e10,e2,⟨2,32,.pp ty_9,false⟩,⟨3,48,.ptr ty_0 false,false⟩,⟨4,64,.ptr ty_0 false,false⟩]
noncomputable def q104F(k:Nat):F7:=⟨q104C k,rr q104p [(ty_1,true)] Tryz.f95,fun p=>none,0,[]⟩
theorem q104K(k:Nat):Contract Tryz.prog 95 (q104V k):=ctr (q104C k) (rs := [(ty_1,true)]) (ps:=q104p) (q104F k) Tryz.f95 80 ⟨tyOf_ok tys_ok,gOf_ok ⟨q91K,q100K,q103K k,trivial⟩⟩ (annl [] trivial)

noncomputable def q105V(k:Nat):Variant:=⟨[.ptr ty_9 false,.val ty_0 false],[(ty_24,false)],fun x=>impl_boundaryEdges k x.1 x.2.1⟩
noncomputable def q105C(k:Nat):Cfg:=⟨Tryz.prog,tyOf tys,71,gOf [(95,[],q104V k)],false,[],[]⟩
def q105i1:List PE := [e67,e68,e69,e63,e70,e71,e72,⟨36,144,.val ty_0 false,false⟩,⟨37,160,.val ty_0 false,false⟩]
def q105o1:List PE := [e67,e68,e69,⟨17,80,.val ty_0 false,false⟩]
noncomputable def q105f1(k:Nat)(n:Nat)(x9:PTe q105i1):=impl_boundaryEdges_L512830 k n x9.1 x9.2.1 x9.2.2.1 x9.2.2.2.1 x9.2.2.2.2.1 x9.2.2.2.2.2.1 x9.2.2.2.2.2.2.1 x9.2.2.2.2.2.2.2.1 x9.2.2.2.2.2.2.2.2.1
def q105i2:List PE := [e67,e68,e69,⟨17,80,.val ty_0 false,false⟩]
def q105o2:List PE := [⟨7,32,.eat ty_12,false⟩]
noncomputable def q105f2(k:Nat)(n:Nat)(x13:PTe q105i2):=impl_boundaryEdges_L250 k n x13.1 x13.2.1 x13.2.2.1 x13.2.2.2.1
def q105p:List PE := [e61,e2]
noncomputable def q105F(k:Nat):F9:=⟨q105C k,rr q105p [(ty_24,false)] Tryz.f85,fun p=>bif Nat.beq p 131284582 then some (.cut [e67,e68,e69,e63,e70,e71,⟨12,128,.val ty_0 false,false⟩,⟨13,144,.val ty_0 false,false⟩,⟨17,160,.val ty_0 false,false⟩,⟨36,176,.val ty_0 false,false⟩,⟨37,192,.val ty_0 false,false⟩] 208)else bif Nat.beq p 512830 then some (.loop q105i1 q105o1 2 176 (q105f1 k k))else bif Nat.beq p 128206 then some (.cut [e67,e68,e69,e63,e70,e71,e72] 144)else bif Nat.beq p 250 then some (.loop q105i2 q105o2 0 96 (q105f2 k k))else none,0,[]⟩
theorem q105K(k:Nat):Contract Tryz.prog 85 (q105V k):=ctr (q105C k) (rs := [(ty_24,false)]) (ps:=q105p) (q105F k) Tryz.f85 32 ⟨tyOf_ok tys_ok,gOf_ok ⟨q104K k,trivial⟩⟩ (annl [250,512830] ⟨lok q105i2 q105o2 0 96 (q105f2 k) k,lok q105i1 q105o1 2 176 (q105f1 k) k,trivial⟩)

noncomputable def q106V:Variant:=⟨[.val ty_1 true],[(ty_10,true)],fun x=>impl_single x.1⟩
noncomputable def q106C:Cfg:=⟨Tryz.prog,tyOf tys,6,gOf [],false,[],[]⟩
def q106p:List PE := [e30]
noncomputable def q106F:F10:=⟨q106C,rr q106p [(ty_10,true)] Tryz.f108,fun p=>none,0,[]⟩
theorem q106K:Contract Tryz.prog 108 (q106V):=ctr q106C (rs := [(ty_10,true)]) (ps:=q106p) q106F Tryz.f108 16 ⟨tyOf_ok tys_ok,gOf_ok trivial⟩ (annl [] trivial)

noncomputable def q107V:Variant:=⟨[.val ty_17 false],[(.bool,false)],fun x=>cmp_isNaN_uint64 x.1⟩
noncomputable def q107C:Cfg:=⟨Tryz.prog,tyOf tys,6,gOf [],false,[],[]⟩
def q107p:List PE := [e73]
noncomputable def q107F:F2:=⟨q107C,rr q107p [(.bool,false)] Tryz.f152,fun p=>none,0,[]⟩
theorem q107K:Contract Tryz.prog 152 (q107V):=ctr q107C (rs := [(.bool,false)]) (ps:=q107p) q107F Tryz.f152 16 ⟨tyOf_ok tys_ok,gOf_ok trivial⟩ (annl [] trivial)

noncomputable def q108V:Variant:=⟨[.val ty_17 false,.val ty_17 false],[(ty_0,false)],fun x=>cmp_Compare_uint64 x.1 x.2.1⟩
noncomputable def q108C:Cfg:=⟨Tryz.prog,tyOf tys,20,gOf [(152,[],q107V)],false,[],[]⟩
def q108p:List PE := [e73,⟨1,16,.val ty_17 false,false⟩]
noncomputable def q108F:F1:=⟨q108C,rr q108p [(ty_0,false)] Tryz.f146,fun p=>none,0,[]⟩
theorem q108K:Contract Tryz.prog 146 (q108V):=ctr q108C (rs := [(ty_0,false)]) (ps:=q108p) q108F Tryz.f146 32 ⟨tyOf_ok tys_ok,gOf_ok ⟨q107K,trivial⟩⟩ (annl [] trivial)

noncomputable def q109V(k:Nat):Variant:=⟨[.val ty_19 true,.val ty_19 true],[(ty_0,false)],fun x=>impl_compareSizes k x.1 x.2.1⟩
noncomputable def q109C(k:Nat):Cfg:=⟨Tryz.prog,tyOf tys,17,gOf [(146,[],q108V),(103,[],q79V k)],false,[],[]⟩
def q109p:List PE := [e66,e74]
noncomputable def q109F(k:Nat):F1:=⟨q109C k,rr q109p [(ty_0,false)] Tryz.f135,fun p=>none,0,[]⟩
theorem q109K(k:Nat):Contract Tryz.prog 135 (q109V k):=ctr (q109C k) (rs := [(ty_0,false)]) (ps:=q109p) (q109F k) Tryz.f135 32 ⟨tyOf_ok tys_ok,gOf_ok ⟨q108K,q79K k,trivial⟩⟩ (annl [] trivial)

noncomputable def q110V(k:Nat):Variant:=⟨[.val ty_19 true,.val ty_19 true],[(ty_0,false)],fun x=>impl_compareWide k x.1 x.2.1⟩
noncomputable def q110C(k:Nat):Cfg:=⟨Tryz.prog,tyOf tys,29,gOf [(106,[],q101V),(135,[],q109V k)],false,[],[]⟩
def q110p:List PE := [e66,e74]
noncomputable def q110F(k:Nat):F1:=⟨q110C k,rr q110p [(ty_0,false)] Tryz.f126,fun p=>bif Nat.beq p 6 then some (.cut [⟨2,32,.box ty_19 false,false⟩,⟨3,48,.box ty_19 false,false⟩] 64)else none,0,[]⟩
theorem q110K(k:Nat):Contract Tryz.prog 126 (q110V k):=ctr (q110C k) (rs := [(ty_0,false)]) (ps:=q110p) (q110F k) Tryz.f126 32 ⟨tyOf_ok tys_ok,gOf_ok ⟨q101K,q109K k,trivial⟩⟩ (annl [] trivial)

noncomputable def q111V(k:Nat):Variant:=⟨[.val ty_1 true,.val ty_1 true],[(ty_0,false)],fun x=>impl_compareD k x.1 x.2.1⟩
noncomputable def q111C(k:Nat):Cfg:=⟨Tryz.prog,tyOf tys,28,gOf [(96,[],q100V),(107,[],q102V),(126,[],q110V k)],false,[],[]⟩
def q111p:List PE := [e30,e34]
noncomputable def q111F(k:Nat):F1:=⟨q111C k,rr q111p [(ty_0,false)] Tryz.f118,fun p=>none,0,[]⟩
theorem q111K(k:Nat):Contract Tryz.prog 118 (q111V k):=ctr (q111C k) (rs := [(ty_0,false)]) (ps:=q111p) (q111F k) Tryz.f118 32 ⟨tyOf_ok tys_ok,gOf_ok ⟨q100K,q102K,q110K k,trivial⟩⟩ (annl [] trivial)

noncomputable def q112V(k:Nat):Variant:=⟨[.val ty_1 true,.val ty_1 true],[(ty_1,true)],fun x=>impl_lesser k x.1 x.2.1⟩
noncomputable def q112C(k:Nat):Cfg:=⟨Tryz.prog,tyOf tys,11,gOf [(118,[],q111V k)],false,[],[]⟩
def q112p:List PE := [e30,e34]
noncomputable def q112F(k:Nat):F7:=⟨q112C k,rr q112p [(ty_1,true)] Tryz.f109,fun p=>none,0,[]⟩
theorem q112K(k:Nat):Contract Tryz.prog 109 (q112V k):=ctr (q112C k) (rs := [(ty_1,true)]) (ps:=q112p) (q112F k) Tryz.f109 32 ⟨tyOf_ok tys_ok,gOf_ok ⟨q111K k,trivial⟩⟩ (annl [] trivial)

noncomputable def q113V(k:Nat):Variant:=⟨[.val ty_1 true,.val ty_1 true],[(ty_1,true)],fun x=>impl_greater k x.1 x.2.1⟩
noncomputable def q113C(k:Nat):Cfg:=⟨Tryz.prog,tyOf tys,11,gOf [(118,[],q111V k)],false,[],[]⟩
def q113p:List PE := [e30,e34]
noncomputable def q113F(k:Nat):F7:=⟨q113C k,rr q113p [(ty_1,true)] Tryz.f110,fun p=>none,0,[]⟩
theorem q113K(k:Nat):Contract Tryz.prog 110 (q113V k):=ctr (q113C k) (rs := [(ty_1,true)]) (ps:=q113p) (q113F k) Tryz.f110 32 ⟨tyOf_ok tys_ok,gOf_ok ⟨q111K k,trivial⟩⟩ (annl [] trivial)

noncomputable def q114V:Variant:=⟨[.val ty_0 false],[(ty_1,true)],fun x=>impl_integer x.1⟩
noncomputable def q114C:Cfg:=⟨Tryz.prog,tyOf tys,5,gOf [],false,[],[]⟩
def q114p:List PE := [e10]
noncomputable def q114F:F7:=⟨q114C,rr q114p [(ty_1,true)] Tryz.f119,fun p=>none,0,[]⟩
theorem q114K:Contract Tryz.prog 119 (q114V):=ctr q114C (rs := [(ty_1,true)]) (ps:=q114p) q114F Tryz.f119 16 ⟨tyOf_ok tys_ok,gOf_ok trivial⟩ (annl [] trivial)

noncomputable def q115V:Variant:=⟨[.val ty_17 false,.val ty_17 false],[(ty_17,false),(ty_17,false)],fun x=>math_bits_Mul64 x.1 x.2.1⟩
noncomputable def q115C:Cfg:=⟨Tryz.prog,tyOf tys,51,gOf [],false,[],[]⟩
def q115p:List PE := [e73,⟨1,16,.val ty_17 false,false⟩]
noncomputable def q115F:F7:=⟨q115C,rr q115p [(ty_17,false),(ty_17,false)] Tryz.f153,fun p=>none,0,[]⟩
theorem q115K:Contract Tryz.prog 153 (q115V):=ctr q115C (rs := [(ty_17,false),(ty_17,false)]) (ps:=q115p) q115F Tryz.f153 32 ⟨tyOf_ok tys_ok,gOf_ok trivial⟩ (annl [] trivial)

noncomputable def q116V:Variant:=⟨[.val ty_0 false,.val ty_0 false],[(ty_19,true)],fun x=>impl_timesWide x.1 x.2.1⟩
noncomputable def q116C:Cfg:=⟨Tryz.prog,tyOf tys,23,gOf [(105,[],q99V),(153,[],q115V)],false,[],[]⟩
def q116p:List PE := [e10,e2]
noncomputable def q116F:F13:=⟨q116C,rr q116p [(ty_19,true)] Tryz.f147,fun p=>none,0,[]⟩
theorem q116K:Contract Tryz.prog 147 (q116V):=ctr q116C (rs := [(ty_19,true)]) (ps:=q116p) q116F Tryz.f147 32 ⟨tyOf_ok tys_ok,gOf_ok ⟨q99K,q115K,trivial⟩⟩ (annl [] trivial)

noncomputable def q117V(k:Nat):Variant:=⟨[.val ty_1 true,.val ty_1 true],[(ty_1,true),(.bool,false)],fun x=>impl_productOf k x.1 x.2.1⟩
noncomputable def q117C(k:Nat):Cfg:=⟨Tryz.prog,tyOf tys,19,gOf [(147,[],q116V),(97,[],q103V k)],false,[],[]⟩
def q117p:List PE := [e30,e34]
noncomputable def q117F(k:Nat):F6:=⟨q117C k,rr q117p [(ty_1,true),(.bool,false)] Tryz.f137,fun p=>none,0,[]⟩
theorem q117K(k:Nat):Contract Tryz.prog 137 (q117V k):=ctr (q117C k) (rs := [(ty_1,true),(.bool,false)]) (ps:=q117p) (q117F k) Tryz.f137 32 ⟨tyOf_ok tys_ok,gOf_ok ⟨q116K,q103K k,trivial⟩⟩ (annl [] trivial)

noncomputable def q118V:Variant:=⟨[.ptr .bool true,.val ty_1 true,.val .bool false],[(ty_1,true)],fun x=>impl_reckoner_keep x.1 x.2.1 x.2.2.1⟩
noncomputable def q118C:Cfg:=⟨Tryz.prog,tyOf tys,24,gOf [],false,[],[]⟩
def q118p:List PE := [e75,e34,⟨2,32,.val .bool false,false⟩]
noncomputable def q118F:F6:=⟨q118C,rr q118p [(ty_1,true)] Tryz.f136,fun p=>none,0,[0]⟩
theorem q118K:Contract Tryz.prog 136 (q118V):=ctr q118C (rs := [(ty_1,true)]) (ps:=q118p) q118F Tryz.f136 48 ⟨tyOf_ok tys_ok,gOf_ok trivial⟩ (annl [] trivial)

noncomputable def q119V(k:Nat):Variant:=⟨[.ptr .bool true,.val ty_1 true,.val ty_1 true],[(ty_1,true)],fun x=>impl_reckoner_product k x.1 x.2.1 x.2.2.1⟩
noncomputable def q119C(k:Nat):Cfg:=⟨Tryz.prog,tyOf tys,14,gOf [(137,[],q117V k),(136,[],q118V)],false,[],[]⟩
def q119p:List PE := [e75,e34,e53]
noncomputable def q119F(k:Nat):F6:=⟨q119C k,rr q119p [(ty_1,true)] Tryz.f127,fun p=>none,0,[0]⟩
theorem q119K(k:Nat):Contract Tryz.prog 127 (q119V k):=ctr (q119C k) (rs := [(ty_1,true)]) (ps:=q119p) (q119F k) Tryz.f127 48 ⟨tyOf_ok tys_ok,gOf_ok ⟨q117K k,q118K,trivial⟩⟩ (annl [] trivial)

noncomputable def q120V:Variant:=⟨[.val ty_10 true],[(ty_0,false)],fun x=>impl_signOf x.1⟩
noncomputable def q120C:Cfg:=⟨Tryz.prog,tyOf tys,13,gOf [],false,[],[]⟩
def q120p:List PE := [e48]
noncomputable def q120F:F1:=⟨q120C,rr q120p [(ty_0,false)] Tryz.f112,fun p=>none,0,[]⟩
theorem q120K:Contract Tryz.prog 112 (q120V):=ctr q120C (rs := [(ty_0,false)]) (ps:=q120p) q120F Tryz.f112 16 ⟨tyOf_ok tys_ok,gOf_ok trivial⟩ (annl [] trivial)

noncomputable def q121V(k:Nat):Variant:=⟨[.val ty_1 true,.val ty_0 false],[(ty_1,true)],fun x=>impl_roundDown k x.1 x.2.1⟩
noncomputable def q121C(k:Nat):Cfg:=⟨Tryz.prog,tyOf tys,26,gOf [(96,[],q100V),(97,[],q103V k)],false,[],[]⟩
def q121p:List PE := [e30,e2]
noncomputable def q121F(k:Nat):F7:=⟨q121C k,rr q121p [(ty_1,true)] Tryz.f138,fun p=>none,0,[]⟩
theorem q121K(k:Nat):Contract Tryz.prog 138 (q121V k):=ctr (q121C k) (rs := [(ty_1,true)]) (ps:=q121p) (q121F k) Tryz.f138 32 ⟨tyOf_ok tys_ok,gOf_ok ⟨q100K,q103K k,trivial⟩⟩ (annl [] trivial)

noncomputable def q122V:Variant:=⟨[.val ty_1 true],[(ty_1,true)],fun x=>impl_minus x.1⟩
noncomputable def q122C:Cfg:=⟨Tryz.prog,tyOf tys,9,gOf [],false,[],[]⟩
def q122p:List PE := [e30]
noncomputable def q122F:F7:=⟨q122C,rr q122p [(ty_1,true)] Tryz.f139,fun p=>none,0,[]⟩
theorem q122K:Contract Tryz.prog 139 (q122V):=ctr q122C (rs := [(ty_1,true)]) (ps:=q122p) q122F Tryz.f139 16 ⟨tyOf_ok tys_ok,gOf_ok trivial⟩ (annl [] trivial)

noncomputable def q123V(k:Nat):Variant:=⟨[.val ty_10 true,.val ty_0 false],[(ty_10,true)],fun x=>impl_roundOut k x.1 x.2.1⟩
noncomputable def q123C(k:Nat):Cfg:=⟨Tryz.prog,tyOf tys,16,gOf [(138,[],q121V k),(139,[],q122V)],false,[],[]⟩
def q123p:List PE := [e48,e2]
noncomputable def q123F(k:Nat):F10:=⟨q123C k,rr q123p [(ty_10,true)] Tryz.f128,fun p=>none,0,[]⟩
theorem q123K(k:Nat):Contract Tryz.prog 128 (q123V k):=ctr (q123C k) (rs := [(ty_10,true)]) (ps:=q123p) (q123F k) Tryz.f128 32 ⟨tyOf_ok tys_ok,gOf_ok ⟨q121K k,q122K,trivial⟩⟩ (annl [] trivial)

noncomputable def q124V(k:Nat):Variant:=⟨[.ptr .bool true,.val ty_10 true,.val ty_0 false],[(ty_10,true)],fun x=>impl_reckoner_power k x.1 x.2.1 x.2.2.1⟩
noncomputable def q124C(k:Nat):Cfg:=⟨Tryz.prog,tyOf tys,49,gOf [(119,[],q114V),(108,[],q106V),(127,[],q119V k),(109,[],q112V k),(110,[],q113V k),(112,[],q120V),(128,[],q123V k)],false,[],[]⟩
def q124i1:List PE := [e75,⟨2,48,.val ty_0 false,false⟩,⟨4,64,.box ty_10 false,false⟩,⟨6,80,.box ty_10 false,false⟩,⟨7,96,.box ty_1 false,false⟩,⟨8,112,.box ty_1 false,false⟩,⟨18,128,.val ty_0 false,false⟩,⟨19,144,.val ty_0 false,false⟩]
def q124o1:List PE := [⟨2,48,.val ty_0 false,false⟩,⟨4,64,.box ty_10 false,false⟩,⟨6,80,.box ty_10 false,false⟩,⟨7,96,.box ty_1 false,false⟩,⟨8,112,.box ty_1 false,false⟩,e75]
noncomputable def q124f1(k:Nat)(n:Nat)(x5:PTe q124i1):=impl_reckoner_power_L122 k n x5.1 x5.2.1 x5.2.2.1 x5.2.2.2.1 x5.2.2.2.2.1 x5.2.2.2.2.2.1 x5.2.2.2.2.2.2.1 x5.2.2.2.2.2.2.2.1
def q124p:List PE := [e75,e52,e21]
noncomputable def q124F(k:Nat):F11:=⟨q124C k,rr q124p [(ty_10,true)] Tryz.f121,fun p=>bif Nat.beq p 122 then some (.loop q124i1 q124o1 0 160 (q124f1 k k))else bif Nat.beq p 62 then some (.cut [⟨6,48,.box ty_10 false,false⟩,⟨7,64,.box ty_1 false,false⟩,⟨8,80,.box ty_1 false,false⟩,e75] 96)else none,0,[0]⟩
theorem q124K(k:Nat):Contract Tryz.prog 121 (q124V k):=ctr (q124C k) (rs := [(ty_10,true)]) (ps:=q124p) (q124F k) Tryz.f121 48 ⟨tyOf_ok tys_ok,gOf_ok ⟨q114K,q106K,q119K k,q112K k,q113K k,q120K,q123K k,trivial⟩⟩ (annl [122] ⟨lok q124i1 q124o1 0 160 (q124f1 k) k,trivial⟩)

noncomputable def q125V(k:Nat):Variant:=⟨[.ptr .bool true,.val ty_10 true,.val ty_10 true],[(ty_10,true)],fun x=>impl_reckoner_multiply k x.1 x.2.1 x.2.2.1⟩
noncomputable def q125C(k:Nat):Cfg:=⟨Tryz.prog,tyOf tys,51,gOf [(127,[],q119V k),(109,[],q112V k),(110,[],q113V k),(128,[],q123V k)],false,[],[]⟩
def q125p:List PE := [e75,e52,⟨2,32,.val ty_10 true,false⟩]
noncomputable def q125F(k:Nat):F11:=⟨q125C k,rr q125p [(ty_10,true)] Tryz.f120,fun p=>none,0,[0]⟩
theorem q125K(k:Nat):Contract Tryz.prog 120 (q125V k):=ctr (q125C k) (rs := [(ty_10,true)]) (ps:=q125p) (q125F k) Tryz.f120 48 ⟨tyOf_ok tys_ok,gOf_ok ⟨q119K k,q112K k,q113K k,q123K k,trivial⟩⟩ (annl [] trivial)

noncomputable def q126V:Variant:=V64 math_bits_Add64
theorem q126K:Contract Tryz.prog 154 q126V:=contractAdd64 (fn:=Tryz.f154) (by kernel_rfl) (by kernel_rfl) (by kernel_rfl) (by kernel_rfl) (by kernel_rfl)

noncomputable def q127V:Variant:=V64 math_bits_Sub64
theorem q127K:Contract Tryz.prog 155 q127V:=contractSub64 (fn:=Tryz.f155) (by kernel_rfl) (by kernel_rfl) (by kernel_rfl) (by kernel_rfl) (by kernel_rfl)

noncomputable def q128V(k:Nat):Variant:=⟨[.val ty_19 true,.val ty_19 true],[(ty_19,true)],fun x=>impl_wide_add k x.1 x.2.1⟩
noncomputable def q128C(k:Nat):Cfg:=⟨Tryz.prog,tyOf tys,68,gOf [(154,[],q126V),(135,[],q109V k),(155,[],q127V)],false,[],[]⟩
def q128p:List PE := [e66,e74]
noncomputable def q128F(k:Nat):F13:=⟨q128C k,rr q128p [(ty_19,true)] Tryz.f148,fun p=>bif Nat.beq p 14 then some (.cut [⟨2,32,.box ty_19 false,false⟩,⟨3,48,.box ty_19 false,false⟩,⟨4,64,.box ty_19 false,false⟩] 80)else none,0,[]⟩
theorem q128K(k:Nat):Contract Tryz.prog 148 (q128V k):=ctr (q128C k) (rs := [(ty_19,true)]) (ps:=q128p) (q128F k) Tryz.f148 32 ⟨tyOf_ok tys_ok,gOf_ok ⟨q126K,q109K k,q127K,trivial⟩⟩ (annl [] trivial)

noncomputable def q129V(k:Nat):Variant:=⟨[.val ty_1 true,.val ty_1 true],[(ty_1,true),(.bool,false)],fun x=>impl_sumOf k x.1 x.2.1⟩
noncomputable def q129C(k:Nat):Cfg:=⟨Tryz.prog,tyOf tys,33,gOf [(96,[],q100V),(107,[],q102V),(148,[],q128V k),(97,[],q103V k)],false,[],[]⟩
def q129p:List PE := [e30,e34]
noncomputable def q129F(k:Nat):F6:=⟨q129C k,rr q129p [(ty_1,true),(.bool,false)] Tryz.f140,fun p=>none,0,[]⟩
theorem q129K(k:Nat):Contract Tryz.prog 140 (q129V k):=ctr (q129C k) (rs := [(ty_1,true),(.bool,false)]) (ps:=q129p) (q129F k) Tryz.f140 32 ⟨tyOf_ok tys_ok,gOf_ok ⟨q100K,q102K,q128K k,q103K k,trivial⟩⟩ (annl [] trivial)

noncomputable def q130V(k:Nat):Variant:=⟨[.ptr .bool true,.val ty_1 true,.val ty_1 true],[(ty_1,true)],fun x=>impl_reckoner_sum k x.1 x.2.1 x.2.2.1⟩
noncomputable def q130C(k:Nat):Cfg:=⟨Tryz.prog,tyOf tys,14,gOf [(140,[],q129V k),(136,[],q118V)],false,[],[]⟩
def q130p:List PE := [e75,e34,e53]
noncomputable def q130F(k:Nat):F6:=⟨q130C k,rr q130p [(ty_1,true)] Tryz.f129,fun p=>none,0,[0]⟩
theorem q130K(k:Nat):Contract Tryz.prog 129 (q130V k):=ctr (q130C k) (rs := [(ty_1,true)]) (ps:=q130p) (q130F k) Tryz.f129 48 ⟨tyOf_ok tys_ok,gOf_ok ⟨q129K k,q118K,trivial⟩⟩ (annl [] trivial)

noncomputable def q131V(k:Nat):Variant:=⟨[.ptr .bool true,.val ty_10 true,.val ty_10 true],[(ty_10,true)],fun x=>impl_reckoner_add k x.1 x.2.1 x.2.2.1⟩
noncomputable def q131C(k:Nat):Cfg:=⟨Tryz.prog,tyOf tys,20,gOf [(129,[],q130V k)],false,[],[]⟩
def q131p:List PE := [e75,e52,⟨2,32,.val ty_10 true,false⟩]
noncomputable def q131F(k:Nat):F11:=⟨q131C k,rr q131p [(ty_10,true)] Tryz.f122,fun p=>none,0,[0]⟩
theorem q131K(k:Nat):Contract Tryz.prog 122 (q131V k):=ctr (q131C k) (rs := [(ty_10,true)]) (ps:=q131p) (q131F k) Tryz.f122 48 ⟨tyOf_ok tys_ok,gOf_ok ⟨q130K k,trivial⟩⟩ (annl [] trivial)

noncomputable def q132V:Variant:=⟨[.ptr .bool true,.val ty_10 true],[(ty_10,true),(.bool,false)],fun x=>impl_reckoner_result x.1 x.2.1⟩
noncomputable def q132C:Cfg:=⟨Tryz.prog,tyOf tys,13,gOf [],false,[],[]⟩
def q132p:List PE := [e75,e52]
noncomputable def q132F:Fn (((Int×Int)×Int×Int)×Bool×Bool):=⟨q132C,rr q132p [(ty_10,true),(.bool,false)] Tryz.f123,fun p=>none,0,[0]⟩
theorem q132K:Contract Tryz.prog 123 (q132V):=ctr q132C (rs := [(ty_10,true),(.bool,false)]) (ps:=q132p) q132F Tryz.f123 32 ⟨tyOf_ok tys_ok,gOf_ok trivial⟩ (annl [] trivial)

noncomputable def q133V(k:Nat):Variant:=⟨[.val ty_4 false,.val ty_14 false],[(ty_10,true),(.bool,false)],fun x=>impl_valueOver k x.1 x.2.1⟩
noncomputable def q133C(k:Nat):Cfg:=⟨Tryz.prog,tyOf tys,54,gOf [(119,[],q114V),(108,[],q106V),(94,[],q82V),(121,[],q124V k),(120,[],q125V k),(122,[],q131V k),(123,[],q132V)],false,[],[]⟩
def q133i1:List PE := [e54,e50,e76,e77,⟨9,96,.box ty_3 false,false⟩,⟨10,112,.box ty_10 false,false⟩,⟨16,128,.val ty_4 false,false⟩,⟨17,144,.val ty_0 false,false⟩,⟨18,160,.val ty_0 false,false⟩,⟨26,176,.val ty_14 false,false⟩,⟨27,192,.val ty_0 false,false⟩,⟨28,208,.val ty_0 false,false⟩]
def q133o1:List PE := [e54,e50,e76,e77,⟨10,96,.box ty_10 false,false⟩,⟨16,112,.val ty_4 false,false⟩,e72,⟨18,144,.val ty_0 false,false⟩]
noncomputable def q133f1(k:Nat)(n:Nat)(x10:PTe q133i1):=impl_valueOver_L125338 k n x10.1 x10.2.1 x10.2.2.1 x10.2.2.2.1 x10.2.2.2.2.1 x10.2.2.2.2.2.1 x10.2.2.2.2.2.2.1 x10.2.2.2.2.2.2.2.1 x10.2.2.2.2.2.2.2.2.1 x10.2.2.2.2.2.2.2.2.2.1 x10.2.2.2.2.2.2.2.2.2.2.1 x10.2.2.2.2.2.2.2.2.2.2.2.1
def q133i2:List PE := [e54,e50,e76,e77,⟨16,96,.val ty_4 false,false⟩,⟨17,112,.val ty_0 false,false⟩,⟨18,128,.val ty_0 false,false⟩]
def q133o2:List PE := [e49,⟨6,48,.box .bool false,false⟩,⟨7,64,.box ty_10 false,false⟩]
noncomputable def q133f2(k:Nat)(n:Nat)(x14:PTe q133i2):=impl_valueOver_L122 k n x14.1 x14.2.1 x14.2.2.1 x14.2.2.2.1 x14.2.2.2.2.1 x14.2.2.2.2.2.1 x14.2.2.2.2.2.2.1
def q133p:List PE := [e1,e56]
noncomputable def q133F(k:Nat):F11:=⟨q133C k,rr q133p [(ty_10,true),(.bool,false)] Tryz.f111,fun p=>bif Nat.beq p 125338 then some (.loop q133i1 q133o1 2 224 (q133f1 k k))else bif Nat.beq p 122 then some (.loop q133i2 q133o2 0 144 (q133f2 k k))else none,0,[]⟩
theorem q133K(k:Nat):Contract Tryz.prog 111 (q133V k):=ctr (q133C k) (rs := [(ty_10,true),(.bool,false)]) (ps:=q133p) (q133F k) Tryz.f111 32 ⟨tyOf_ok tys_ok,gOf_ok ⟨q114K,q106K,q82K,q124K k,q125K k,q131K k,q132K,trivial⟩⟩ (annl [122,125338] ⟨lok q133i2 q133o2 0 144 (q133f2 k) k,lok q133i1 q133o1 2 224 (q133f1 k) k,trivial⟩)

noncomputable def q134V(k:Nat):Variant:=⟨[.val ty_5 false,.val ty_12 true,.val ty_0 false],[(.bool,false)],fun x=>impl_edgeHolds k x.1 x.2.1 x.2.2.1⟩
noncomputable def q134C(k:Nat):Cfg:=⟨Tryz.prog,tyOf tys,58,gOf [(108,[],q106V),(109,[],q112V k),(110,[],q113V k),(111,[],q133V k),(112,[],q120V)],false,[],[]⟩
def q134p:List PE := [e7,⟨1,16,.val ty_12 true,false⟩,e21]
noncomputable def q134F(k:Nat):F2:=⟨q134C k,rr q134p [(.bool,false)] Tryz.f98,fun p=>bif Nat.beq p 14 then some (.cut [e57,⟨2,64,.val ty_0 false,false⟩,⟨7,80,.eat ty_10,false⟩] 96)else none,0,[]⟩
theorem q134K(k:Nat):Contract Tryz.prog 98 (q134V k):=ctr (q134C k) (rs := [(.bool,false)]) (ps:=q134p) (q134F k) Tryz.f98 48 ⟨tyOf_ok tys_ok,gOf_ok ⟨q106K,q112K k,q113K k,q133K k,q120K,trivial⟩⟩ (annl [] trivial)

noncomputable def q135V(k:Nat):Variant:=⟨[.val ty_5 false,.val ty_12 true],[(ty_0,false)],fun x=>impl_edgeReason k x.1 x.2.1⟩
noncomputable def q135C(k:Nat):Cfg:=⟨Tryz.prog,tyOf tys,15,gOf [(98,[],q134V k)],false,[],[]⟩
def q135i1:List PE := [e3,⟨3,48,.box ty_12 false,false⟩,e14]
def q135o1:List PE := []
noncomputable def q135f1(k:Nat)(n:Nat)(x2:PTe q135i1):=impl_edgeReason_L26 k n x2.1 x2.2.1 x2.2.2.1
def q135p:List PE := [e7,⟨1,16,.val ty_12 true,false⟩]
noncomputable def q135F(k:Nat):F1:=⟨q135C k,rr q135p [(ty_0,false)] Tryz.f86,fun p=>bif Nat.beq p 26 then some (.loop q135i1 q135o1 0 80 (q135f1 k k))else none,0,[]⟩
theorem q135K(k:Nat):Contract Tryz.prog 86 (q135V k):=ctr (q135C k) (rs := [(ty_0,false)]) (ps:=q135p) (q135F k) Tryz.f86 32 ⟨tyOf_ok tys_ok,gOf_ok ⟨q134K k,trivial⟩⟩ (annl [26] ⟨lok q135i1 q135o1 0 80 (q135f1 k) k,trivial⟩)

noncomputable def q136V(k:Nat):Variant:=⟨[.val ty_5 false,.ptr ty_9 false,.val ty_0 false],[(ty_7,false),(.bool,false)],fun x=>impl_boundaryReasons k x.1 x.2.1 x.2.2.1⟩
noncomputable def q136C(k:Nat):Cfg:=⟨Tryz.prog,tyOf tys,31,gOf [(85,[],q105V k),(86,[],q135V k)],false,[],[]⟩
def q136i1:List PE := [e57,⟨8,64,.eat ty_0,false⟩,⟨14,80,.eat ty_12,false⟩,e46,⟨16,112,.val ty_0 false,false⟩]
def q136o1:List PE := [⟨8,48,.eat ty_0,false⟩]
noncomputable def q136f1(k:Nat)(n:Nat)(x3:PTe q136i1):=impl_boundaryReasons_L58 k n x3.1 x3.2.1 x3.2.2.1 x3.2.2.2.1 x3.2.2.2.2.1
def q136p:List PE := [e7,e62,e21]
noncomputable def q136F(k:Nat):F12:=⟨q136C k,rr q136p [(ty_7,false),(.bool,false)] Tryz.f65,fun p=>bif Nat.beq p 58 then some (.loop q136i1 q136o1 0 128 (q136f1 k k))else none,0,[]⟩
theorem q136K(k:Nat):Contract Tryz.prog 65 (q136V k):=ctr (q136C k) (rs := [(ty_7,false),(.bool,false)]) (ps:=q136p) (q136F k) Tryz.f65 48 ⟨tyOf_ok tys_ok,gOf_ok ⟨q105K k,q135K k,trivial⟩⟩ (annl [58] ⟨lok q136i1 q136o1 0 128 (q136f1 k) k,trivial⟩)

noncomputable def q137V(k:Nat):Variant:=⟨[.val ty_5 false,.ptr ty_9 false],[(ty_0,false),(.bool,false)],fun x=>impl_leastDepth k x.1 x.2.1⟩
noncomputable def q137C(k:Nat):Cfg:=⟨Tryz.prog,tyOf tys,22,gOf [(65,[],q136V k)],false,[],[]⟩
def q137i1:List PE := [e3,⟨1,48,.ptr ty_9 false,false⟩,⟨9,64,.val ty_0 false,false⟩]
def q137o1:List PE := []
noncomputable def q137f1(k:Nat)(n:Nat)(x2:PTe q137i1):=impl_leastDepth_L26 k n x2.1 x2.2.1 x2.2.2.1
def q137p:List PE := [e7,e62]
noncomputable def q137F(k:Nat):F8:=⟨q137C k,rr q137p [(ty_0,false),(.bool,false)] Tryz.f49,fun p=>bif Nat.beq p 26 then some (.loop q137i1 q137o1 0 80 (q137f1 k k))else none,0,[]⟩
theorem q137K(k:Nat):Contract Tryz.prog 49 (q137V k):=ctr (q137C k) (rs := [(ty_0,false),(.bool,false)]) (ps:=q137p) (q137F k) Tryz.f49 32 ⟨tyOf_ok tys_ok,gOf_ok ⟨q136K k,trivial⟩⟩ (annl [26] ⟨lok q137i1 q137o1 0 80 (q137f1 k) k,trivial⟩)

noncomputable def q138V(k:Nat):Variant:=⟨[.val ty_7 false],[(ty_0,false),(.bool,false)],fun x=>impl_turnsOf k x.1⟩
noncomputable def q138C(k:Nat):Cfg:=⟨Tryz.prog,tyOf tys,42,gOf [],false,[],[]⟩
def q138i1:List PE := [⟨0,16,.val ty_7 false,false⟩,⟨4,32,.val ty_0 false,false⟩,⟨7,48,.val ty_7 false,false⟩,e25,e42]
def q138o1:List PE := [⟨4,16,.val ty_0 false,false⟩]
noncomputable def q138f1(k:Nat)(n:Nat)(x1:PTe q138i1):=impl_turnsOf_L58 k n x1.1 x1.2.1 x1.2.2.1 x1.2.2.2.1 x1.2.2.2.2.1
def q138p:List PE := [e8]
noncomputable def q138F(k:Nat):F8:=⟨q138C k,rr q138p [(ty_0,false),(.bool,false)] Tryz.f66,fun p=>bif Nat.beq p 58 then some (.loop q138i1 q138o1 0 96 (q138f1 k k))else none,0,[]⟩
theorem q138K(k:Nat):Contract Tryz.prog 66 (q138V k):=ctr (q138C k) (rs := [(ty_0,false),(.bool,false)]) (ps:=q138p) (q138F k) Tryz.f66 16 ⟨tyOf_ok tys_ok,gOf_ok trivial⟩ (annl [58] ⟨lok q138i1 q138o1 0 96 (q138f1 k) k,trivial⟩)

noncomputable def q139V(k:Nat):Variant:=⟨[.val ty_5 false,.ptr ty_9 false,.val ty_0 false],[(ty_0,false),(.bool,false)],fun x=>impl_windingOf k x.1 x.2.1 x.2.2.1⟩
noncomputable def q139C(k:Nat):Cfg:=⟨Tryz.prog,tyOf tys,23,gOf [(65,[],q136V k),(66,[],q138V k)],false,[],[]⟩
def q139p:List PE := [e7,e62,e21]
noncomputable def q139F(k:Nat):F8:=⟨q139C k,rr q139p [(ty_0,false),(.bool,false)] Tryz.f50,fun p=>none,0,[]⟩
theorem q139K(k:Nat):Contract Tryz.prog 50 (q139V k):=ctr (q139C k) (rs := [(ty_0,false),(.bool,false)]) (ps:=q139p) (q139F k) Tryz.f50 48 ⟨tyOf_ok tys_ok,gOf_ok ⟨q136K k,q138K k,trivial⟩⟩ (annl [] trivial)

noncomputable def q140V(k:Nat):Variant:=⟨[.val ty_5 false,.ptr ty_9 false],[(ty_0,false),(.bool,false)],fun x=>impl_degreeOver k x.1 x.2.1⟩
noncomputable def q140C(k:Nat):Cfg:=⟨Tryz.prog,tyOf tys,22,gOf [(49,[],q137V k),(50,[],q139V k)],false,[],[]⟩
def q140p:List PE := [e7,e62]
noncomputable def q140F(k:Nat):F8:=⟨q140C k,rr q140p [(ty_0,false),(.bool,false)] Tryz.f29,fun p=>none,0,[]⟩
theorem q140K(k:Nat):Contract Tryz.prog 29 (q140V k):=ctr (q140C k) (rs := [(ty_0,false),(.bool,false)]) (ps:=q140p) (q140F k) Tryz.f29 32 ⟨tyOf_ok tys_ok,gOf_ok ⟨q137K k,q139K k,trivial⟩⟩ (annl [] trivial)

noncomputable def q141V(k:Nat):Variant:=⟨[.val ty_5 false,.val ty_9 true,.val ty_0 false],[(ty_7,false),(.bool,false)],fun x=>impl_DegreesOfParts k x.1 x.2.1 x.2.2.1⟩
noncomputable def q141C(k:Nat):Cfg:=⟨Tryz.prog,tyOf tys,56,gOf [(26,[],q88V k),(27,[],q74V),(28,[],q98V k),(29,[],q140V k)],false,[],[]⟩
def q141i1:List PE := [e57,⟨8,64,.eat ty_9,false⟩,⟨10,80,.eat ty_0,false⟩,e28,⟨31,112,.val ty_0 false,false⟩]
def q141o1:List PE := [⟨10,48,.eat ty_0,false⟩]
noncomputable def q141f1(k:Nat)(n:Nat)(x6:PTe q141i1):=impl_DegreesOfParts_L506 k n x6.1 x6.2.1 x6.2.2.1 x6.2.2.2.1 x6.2.2.2.2.1
def q141p:List PE := [e7,e35,e21]
noncomputable def q141F(k:Nat):F12:=⟨q141C k,rr q141p [(ty_7,false),(.bool,false)] Tryz.f9,fun p=>bif Nat.beq p 506 then some (.loop q141i1 q141o1 0 128 (q141f1 k k))else none,0,[]⟩
theorem q141K(k:Nat):Contract Tryz.prog 9 (q141V k):=ctr (q141C k) (rs := [(ty_7,false),(.bool,false)]) (ps:=q141p) (q141F k) Tryz.f9 48 ⟨tyOf_ok tys_ok,gOf_ok ⟨q88K k,q74K,q98K k,q140K k,trivial⟩⟩ (annl [506] ⟨lok q141i1 q141o1 0 128 (q141f1 k) k,trivial⟩)

noncomputable def q142V(k:Nat):Variant:=⟨[.val ty_7 false,.val ty_7 false],[(.bool,false)],fun x=>laws_eqIntS k x.1 x.2.1⟩
noncomputable def q142C(k:Nat):Cfg:=⟨Tryz.prog,tyOf tys,26,gOf [],false,[],[]⟩
def q142i1:List PE := [e19,⟨1,48,.val ty_7 false,false⟩,e5]
def q142o1:List PE := []
noncomputable def q142f1(k:Nat)(n:Nat)(x1:PTe q142i1):=laws_eqIntS_L58 k n x1.1 x1.2.1 x1.2.2.1
def q142p:List PE := [e8,e29]
noncomputable def q142F(k:Nat):F2:=⟨q142C k,rr q142p [(.bool,false)] Tryz.f10,fun p=>bif Nat.beq p 58 then some (.loop q142i1 q142o1 0 80 (q142f1 k k))else none,0,[]⟩
theorem q142K(k:Nat):Contract Tryz.prog 10 (q142V k):=ctr (q142C k) (rs := [(.bool,false)]) (ps:=q142p) (q142F k) Tryz.f10 32 ⟨tyOf_ok tys_ok,gOf_ok trivial⟩ (annl [58] ⟨lok q142i1 q142o1 0 80 (q142f1 k) k,trivial⟩)

noncomputable def q143V:Variant:=⟨[.val ty_3 true,.val ty_3 true],[(.bool,false)],fun x=>laws_eqTerm x.1 x.2.1⟩
noncomputable def q143C:Cfg:=⟨Tryz.prog,tyOf tys,25,gOf [],false,[],[]⟩
def q143p:List PE := [e11,e38]
noncomputable def q143F:F2:=⟨q143C,rr q143p [(.bool,false)] Tryz.f67,fun p=>none,0,[]⟩
theorem q143K:Contract Tryz.prog 67 (q143V):=ctr q143C (rs := [(.bool,false)]) (ps:=q143p) q143F Tryz.f67 32 ⟨tyOf_ok tys_ok,gOf_ok trivial⟩ (annl [] trivial)

noncomputable def q144V(k:Nat):Variant:=⟨[.val ty_4 false,.val ty_4 false],[(.bool,false)],fun x=>laws_eqTermS k x.1 x.2.1⟩
noncomputable def q144C(k:Nat):Cfg:=⟨Tryz.prog,tyOf tys,27,gOf [(67,[],q143V)],false,[],[]⟩
def q144i1:List PE := [e12,⟨1,48,.val ty_4 false,false⟩,e5]
def q144o1:List PE := []
noncomputable def q144f1(k:Nat)(n:Nat)(x2:PTe q144i1):=laws_eqTermS_L58 k n x2.1 x2.2.1 x2.2.2.1
def q144p:List PE := [e1,⟨1,16,.val ty_4 false,false⟩]
noncomputable def q144F(k:Nat):F2:=⟨q144C k,rr q144p [(.bool,false)] Tryz.f51,fun p=>bif Nat.beq p 58 then some (.loop q144i1 q144o1 0 80 (q144f1 k k))else none,0,[]⟩
theorem q144K(k:Nat):Contract Tryz.prog 51 (q144V k):=ctr (q144C k) (rs := [(.bool,false)]) (ps:=q144p) (q144F k) Tryz.f51 32 ⟨tyOf_ok tys_ok,gOf_ok ⟨q143K,trivial⟩⟩ (annl [58] ⟨lok q144i1 q144o1 0 80 (q144f1 k) k,trivial⟩)

noncomputable def q145V(k:Nat):Variant:=⟨[.val ty_6 false,.val ty_6 false],[(.bool,false)],fun x=>laws_intactTermS k x.1 x.2.1⟩
noncomputable def q145C(k:Nat):Cfg:=⟨Tryz.prog,tyOf tys,26,gOf [(22,[],q5V),(51,[],q144V k)],false,[],[]⟩
def q145p:List PE := [⟨0,0,.val ty_6 false,false⟩,⟨1,16,.val ty_6 false,false⟩]
noncomputable def q145F(k:Nat):F2:=⟨q145C k,rr q145p [(.bool,false)] Tryz.f30,fun p=>none,0,[]⟩
theorem q145K(k:Nat):Contract Tryz.prog 30 (q145V k):=ctr (q145C k) (rs := [(.bool,false)]) (ps:=q145p) (q145F k) Tryz.f30 32 ⟨tyOf_ok tys_ok,gOf_ok ⟨q5K,q144K k,trivial⟩⟩ (annl [] trivial)

noncomputable def q146V(k:Nat):Variant:=⟨[.val ty_5 false,.val ty_5 false],[(.bool,false)],fun x=>laws_eqTermSS k x.1 x.2.1⟩
noncomputable def q146C(k:Nat):Cfg:=⟨Tryz.prog,tyOf tys,27,gOf [(51,[],q144V k)],false,[],[]⟩
def q146i1:List PE := [e3,⟨1,48,.val ty_5 false,false⟩,e5]
def q146o1:List PE := []
noncomputable def q146f1(k:Nat)(n:Nat)(x2:PTe q146i1):=laws_eqTermSS_L58 k n x2.1 x2.2.1 x2.2.2.1
def q146p:List PE := [e7,⟨1,16,.val ty_5 false,false⟩]
noncomputable def q146F(k:Nat):F2:=⟨q146C k,rr q146p [(.bool,false)] Tryz.f31,fun p=>bif Nat.beq p 58 then some (.loop q146i1 q146o1 0 80 (q146f1 k k))else none,0,[]⟩
theorem q146K(k:Nat):Contract Tryz.prog 31 (q146V k):=ctr (q146C k) (rs := [(.bool,false)]) (ps:=q146p) (q146F k) Tryz.f31 32 ⟨tyOf_ok tys_ok,gOf_ok ⟨q144K k,trivial⟩⟩ (annl [58] ⟨lok q146i1 q146o1 0 80 (q146f1 k) k,trivial⟩)

noncomputable def q147V(k:Nat):Variant:=⟨[.val ty_20 false,.val ty_20 false],[(.bool,false)],fun x=>laws_intactTermSS k x.1 x.2.1⟩
noncomputable def q147C(k:Nat):Cfg:=⟨Tryz.prog,tyOf tys,45,gOf [(22,[],q5V),(30,[],q145V k),(31,[],q146V k)],false,[],[]⟩
def q147i1:List PE := [⟨0,32,.val ty_20 false,false⟩,⟨1,48,.val ty_20 false,false⟩,e5,e17]
def q147o1:List PE := [⟨0,32,.val ty_20 false,false⟩,⟨1,48,.val ty_20 false,false⟩,e5]
noncomputable def q147f1(k:Nat)(n:Nat)(x3:PTe q147i1):=laws_intactTermSS_L122 k n x3.1 x3.2.1 x3.2.2.1 x3.2.2.2.1
def q147p:List PE := [⟨0,0,.val ty_20 false,false⟩,⟨1,16,.val ty_20 false,false⟩]
noncomputable def q147F(k:Nat):F2:=⟨q147C k,rr q147p [(.bool,false)] Tryz.f11,fun p=>bif Nat.beq p 122 then some (.loop q147i1 q147o1 0 96 (q147f1 k k))else none,0,[]⟩
theorem q147K(k:Nat):Contract Tryz.prog 11 (q147V k):=ctr (q147C k) (rs := [(.bool,false)]) (ps:=q147p) (q147F k) Tryz.f11 32 ⟨tyOf_ok tys_ok,gOf_ok ⟨q5K,q145K k,q146K k,trivial⟩⟩ (annl [122] ⟨lok q147i1 q147o1 0 96 (q147f1 k) k,trivial⟩)

noncomputable def q148V(k:Nat):Variant:=⟨[.val ty_21 false,.val ty_21 false],[(.bool,false)],fun x=>laws_intactIntS k x.1 x.2.1⟩
noncomputable def q148C(k:Nat):Cfg:=⟨Tryz.prog,tyOf tys,26,gOf [(22,[],q5V),(10,[],q142V k)],false,[],[]⟩
def q148p:List PE := [⟨0,0,.val ty_21 false,false⟩,⟨1,16,.val ty_21 false,false⟩]
noncomputable def q148F(k:Nat):F2:=⟨q148C k,rr q148p [(.bool,false)] Tryz.f32,fun p=>none,0,[]⟩
theorem q148K(k:Nat):Contract Tryz.prog 32 (q148V k):=ctr (q148C k) (rs := [(.bool,false)]) (ps:=q148p) (q148F k) Tryz.f32 32 ⟨tyOf_ok tys_ok,gOf_ok ⟨q5K,q142K k,trivial⟩⟩ (annl [] trivial)

noncomputable def q149V(k:Nat):Variant:=⟨[.val ty_23 true,.val ty_23 true],[(.bool,false)],fun x=>laws_intactBox k x.1 x.2.1⟩
noncomputable def q149C(k:Nat):Cfg:=⟨Tryz.prog,tyOf tys,22,gOf [(32,[],q148V k)],false,[],[]⟩
def q149p:List PE := [⟨0,0,.val ty_23 true,false⟩,⟨1,16,.val ty_23 true,false⟩]
noncomputable def q149F(k:Nat):F2:=⟨q149C k,rr q149p [(.bool,false)] Tryz.f12,fun p=>none,0,[]⟩
theorem q149K(k:Nat):Contract Tryz.prog 12 (q149V k):=ctr (q149C k) (rs := [(.bool,false)]) (ps:=q149p) (q149F k) Tryz.f12 32 ⟨tyOf_ok tys_ok,gOf_ok ⟨q148K k,trivial⟩⟩ (annl [] trivial)

noncomputable def q150V(k:Nat):Variant:=⟨[.own ty_3,.val ty_0 false],[(ty_0,false)],fun x=>laws_markTermS k x.1 x.2.1⟩
noncomputable def q150C(k:Nat):Cfg:=⟨Tryz.prog,tyOf tys,41,gOf [],false,[],[]⟩
def q150i1:List PE := [e78,e6,e41]
def q150o1:List PE := [e6,e78]
noncomputable def q150f1(k:Nat)(n:Nat)(x1:PTe q150i1):=laws_markTermS_L26 k n x1.1 x1.2.1 x1.2.2.1
def q150p:List PE := [e78,e2]
noncomputable def q150F(k:Nat):Fn (Int×List (Int×Int×Int×Int)):=⟨q150C k,rr q150p [(ty_0,false)] Tryz.f33,fun p=>bif Nat.beq p 26 then some (.loop q150i1 q150o1 0 64 (q150f1 k k))else none,0,[0]⟩
theorem q150K(k:Nat):Contract Tryz.prog 33 (q150V k):=ctr (q150C k) (rs := [(ty_0,false)]) (ps:=q150p) (q150F k) Tryz.f33 32 ⟨tyOf_ok tys_ok,gOf_ok trivial⟩ (annl [26] ⟨lok q150i1 q150o1 0 64 (q150f1 k) k,trivial⟩)

noncomputable def q151V(k:Nat):Variant:=⟨[.own ty_4,.val ty_0 false],[(ty_0,false)],fun x=>laws_markTermSS k x.1 x.2.1⟩
noncomputable def q151C(k:Nat):Cfg:=⟨Tryz.prog,tyOf tys,19,gOf [(33,[],q150V k)],false,[],[]⟩
def q151i1:List PE := [e79,e6,e41]
def q151o1:List PE := [e6,e79]
noncomputable def q151f1(k:Nat)(n:Nat)(x2:PTe q151i1):=laws_markTermSS_L26 k n x2.1 x2.2.1 x2.2.2.1
def q151p:List PE := [e79,e2]
noncomputable def q151F(k:Nat):Fn (Int×List (List (Int×Int×Int×Int))):=⟨q151C k,rr q151p [(ty_0,false)] Tryz.f13,fun p=>bif Nat.beq p 26 then some (.loop q151i1 q151o1 0 64 (q151f1 k k))else none,0,[0]⟩
theorem q151K(k:Nat):Contract Tryz.prog 13 (q151V k):=ctr (q151C k) (rs := [(ty_0,false)]) (ps:=q151p) (q151F k) Tryz.f13 32 ⟨tyOf_ok tys_ok,gOf_ok ⟨q150K k,trivial⟩⟩ (annl [26] ⟨lok q151i1 q151o1 0 64 (q151f1 k) k,trivial⟩)

noncomputable def q152V(k:Nat):Variant:=⟨[.own ty_0,.val ty_0 false],[(ty_0,false)],fun x=>laws_markIntS k x.1 x.2.1⟩
noncomputable def q152C(k:Nat):Cfg:=⟨Tryz.prog,tyOf tys,19,gOf [],false,[],[]⟩
def q152i1:List PE := [e80,e6,e41]
def q152o1:List PE := [e6,e80]
noncomputable def q152f1(k:Nat)(n:Nat)(x1:PTe q152i1):=laws_markIntS_L26 k n x1.1 x1.2.1 x1.2.2.1
def q152p:List PE := [e80,e2]
noncomputable def q152F(k:Nat):Fn (Int×List Int):=⟨q152C k,rr q152p [(ty_0,false)] Tryz.f15,fun p=>bif Nat.beq p 26 then some (.loop q152i1 q152o1 0 64 (q152f1 k k))else none,0,[0]⟩
theorem q152K(k:Nat):Contract Tryz.prog 15 (q152V k):=ctr (q152C k) (rs := [(ty_0,false)]) (ps:=q152p) (q152F k) Tryz.f15 32 ⟨tyOf_ok tys_ok,gOf_ok trivial⟩ (annl [26] ⟨lok q152i1 q152o1 0 64 (q152f1 k) k,trivial⟩)

noncomputable def q153V(k:Nat):Variant:=⟨[.gob ty_9 true,.val ty_0 false],[(ty_0,false)],fun x=>laws_markBox k x.1 x.2.1⟩
noncomputable def q153C(k:Nat):Cfg:=⟨Tryz.prog,tyOf tys,14,gOf [(15,[],q152V k)],false,[],[]⟩
def q153p:List PE := [⟨0,0,.gob ty_9 true,false⟩,e2]
noncomputable def q153F(k:Nat):F1:=⟨q153C k,rr q153p [(ty_0,false)] Tryz.f14,fun p=>none,0,[]⟩
theorem q153K(k:Nat):Contract Tryz.prog 14 (q153V k):=ctr (q153C k) (rs := [(ty_0,false)]) (ps:=q153p) (q153F k) Tryz.f14 32 ⟨tyOf_ok tys_ok,gOf_ok ⟨q152K k,trivial⟩⟩ (annl [] trivial)

noncomputable def q154V(k:Nat):Variant:=⟨[.val ty_7 false,.val ty_0 false],[(ty_0,false)],fun x=>laws_heldIntS k x.1 x.2.1⟩
noncomputable def q154C(k:Nat):Cfg:=⟨Tryz.prog,tyOf tys,21,gOf [],false,[],[]⟩
def q154i1:List PE := [e19,e4,e5]
def q154o1:List PE := [e6]
noncomputable def q154f1(k:Nat)(n:Nat)(x1:PTe q154i1):=laws_heldIntS_L26 k n x1.1 x1.2.1 x1.2.2.1
def q154p:List PE := [e8,e2]
noncomputable def q154F(k:Nat):F1:=⟨q154C k,rr q154p [(ty_0,false)] Tryz.f16,fun p=>bif Nat.beq p 26 then some (.loop q154i1 q154o1 0 80 (q154f1 k k))else none,0,[]⟩
theorem q154K(k:Nat):Contract Tryz.prog 16 (q154V k):=ctr (q154C k) (rs := [(ty_0,false)]) (ps:=q154p) (q154F k) Tryz.f16 32 ⟨tyOf_ok tys_ok,gOf_ok trivial⟩ (annl [26] ⟨lok q154i1 q154o1 0 80 (q154f1 k) k,trivial⟩)

noncomputable def laws_FnExactDegreesOfParts_V(k:Nat):Variant:=⟨[.val ty_5 false,.val ty_9 true,.val ty_0 false],[(.bool,false)],fun x=>laws_FnExactDegreesOfParts k x.1 x.2.1 x.2.2.1⟩
noncomputable def laws_FnExactDegreesOfParts_C(k:Nat):Cfg:=⟨Tryz.prog,tyOf tys,124,gOf [(4,[],q2V k),(5,[],q4V),(7,[],q9V k),(8,[],q11V k),(6,[],q73V k),(9,[],q141V k),(10,[],q142V k),(11,[],q147V k),(12,[],q149V k),(13,[],q151V k),(14,[],q153V k),(15,[],q152V k),(16,[],q154V k)],false,[],[]⟩
def laws_FnExactDegreesOfParts_ps:List PE := [e7,e35,e21]
noncomputable def laws_FnExactDegreesOfParts_F(k:Nat):F2:=⟨laws_FnExactDegreesOfParts_C k,rr laws_FnExactDegreesOfParts_ps [(.bool,false)] Tryz.f3,fun p=>none,0,[]⟩
theorem laws_FnExactDegreesOfParts_K(k:Nat):Contract Tryz.prog 3 (laws_FnExactDegreesOfParts_V k):=ctr (laws_FnExactDegreesOfParts_C k) (rs := [(.bool,false)]) (ps:=laws_FnExactDegreesOfParts_ps) (laws_FnExactDegreesOfParts_F k) Tryz.f3 48 ⟨tyOf_ok tys_ok,gOf_ok ⟨q2K k,q4K,q9K k,q11K k,q73K k,q141K k,q142K k,q147K k,q149K k,q151K k,q153K k,q152K k,q154K k,trivial⟩⟩ (annl [] trivial)
end Go.Ev.G
