/- The contracts of the functions behind FnExactFaceSigns: a call of each returns what its plain function computes; for all inputs within the sizes named. -/
import Derived.Test.YtbbbcdmgjjechaaPFaceSigns1
import Derived.Test.YtbbbcdmgjjechaaProg
set_option linter.unusedVariables false
namespace Go.Ev.G
open Go Go.Ev Go.Proofs
set_option maxRecDepth 100000
abbrev ty_0:Ty:=(.int .i64)

abbrev ty_1:Ty:=(.pair ty_0 ty_0)

abbrev ty_2:Ty:=(.pair ty_0 ty_1)

abbrev ty_3:Ty:=(.pair ty_0 ty_2)

abbrev ty_4:Ty:=(.sl ty_3)

abbrev ty_5:Ty:=(.sl ty_4)

abbrev ty_6:Ty:=(.rm ty_3)

abbrev ty_7:Ty:=(.sl ty_0)

abbrev ty_8:Ty:=(.pair ty_7 ty_7)

abbrev ty_9:Ty:=(.pair ty_0 ty_8)

abbrev ty_10:Ty:=(.sl ty_7)

abbrev ty_11:Ty:=(.rm ty_6)

abbrev ty_12:Ty:=(.rm ty_0)

abbrev ty_13:Ty:=(.pair ty_12 ty_12)

abbrev ty_14:Ty:=(.pair ty_0 ty_13)

def tys:List (TypeId×Ty) := [(3,ty_0),(23,ty_7)]

theorem tys_ok:AllT Try.prog tys:=⟨⟨_,_,rfl,rfl,rfl,rfl⟩,⟨_,_,rfl,rfl,rfl,rfl⟩,trivial⟩

def tysR:List (TypeId×Ty) := [(3,ty_0),(30,ty_6),(61,ty_3)]

theorem tysR_ok:AllT Try.prog tysR:=⟨⟨_,_,rfl,rfl,rfl,rfl⟩,⟨_,_,rfl,rfl,rfl,rfl⟩,⟨_,_,rfl,rfl,rfl,rfl⟩,trivial⟩

theorem mix_ok:Try.prog.follows .mixedOrders=true:=by kernel_rfl

theorem ctr{g:FuncId}(C:Cfg){rs:List (Ty×Bool)}{ps:List PE}(F:Fn (CT (rs.map (·.1)++outs (ps.map (·.b)))))(fn:Func)(nx:Nat){f:PT (ps.map (·.b))→Option (CT (rs.map (·.1)++outs (ps.map (·.b))))}
  (hC:CfgOk C) (hann:AnnOk F (codeOf fn) 1) (hP:C.P=Try.prog:=by rfl) (hF:F.C=C:=by rfl) (hfn:C.P.funcs[g]? = some fn:=by kernel_rfl) (hb:fn.body=some (codeOf fn):=by kernel_rfl) (hn:(fn.name == "runtime.NumGoroutine")=false:=by kernel_rfl)
  (hnt:C.ntmps=fn.ntmps:=by kernel_rfl) (hle:Nat.ble ps.length fn.ntmps=true:=by kernel_rfl) (hpar:parOk 0 ps=true:=by kernel_rfl) (hfin:F.fin=rdRes C.P ps rs fn.results.toList .ret:=by rfl)
  (hpins:F.pins=pinIds ps:=by kernel_rfl) (hnd:nodupB F.pins=true:=by kernel_rfl) (hf:∀x,evFn F (codeOf fn) ps nx x=f x:=by intro x;kernel_rfl):Contract C.P g ⟨ps.map (·.b),rs,f⟩ :=
 contract hC hF hfn hb hn hnt hle hpar hfin hpins hnd hann (hP ▸ mix_ok) hf

theorem annl{R:Type}{F:Fn R}{c:Code}(l:List Nat)(hl:AllL F (l.map fun p=>(p,loopB c p)))(h:loopsOf c 1=l.map (fun p=>(p,loopB c p)):=by kernel_rfl):AnnOk F c 1:=AnnOk_list _ h hl

theorem lok{R:Type}{F:Fn R}{c:Code}{p:Nat}(pin pout:List PE)(ex nx:Nat)(Lf:Nat→PTe pin→Option (R ⊕ PTe pout))(k:Nat)(h:F.an p=some (.loop pin pout ex nx (Lf k)):=by kernel_rfl)(h0:∀x,Lf 0 x=none:=by intro x;rfl)
  (hs:∀n x,roundOf F c p pin pout ex nx (Lf n) x=Lf (n+1) x:=by intro n x;kernel_rfl):LoopOk F c p:=LoopOk.mk (pin:=pin) (pout:=pout) h h0 hs

noncomputable def rr(ps:List PE)(rs:List (Ty×Bool))(f:Func):=rdRes Try.prog ps rs f.results.toList .ret

abbrev e1:PE:=⟨0,0,.val ty_4 false,false⟩
abbrev e2:PE:=⟨1,16,.val ty_0 false,false⟩
abbrev F1:Type 1:=Fn (Int)
abbrev e3:PE:=⟨0,32,.val ty_5 false,false⟩
abbrev e4:PE:=⟨1,48,.val ty_0 false,false⟩
abbrev e5:PE:=⟨5,64,.val ty_0 false,false⟩
abbrev e6:PE:=⟨1,32,.val ty_0 false,false⟩
abbrev e7:PE:=⟨0,0,.val ty_5 false,false⟩
abbrev e8:PE:=⟨0,0,.val ty_7 false,false⟩
abbrev e9:PE:=⟨0,0,.val ty_9 true,false⟩
abbrev e10:PE:=⟨0,0,.val ty_0 false,false⟩
abbrev e11:PE:=⟨0,0,.val ty_3 true,false⟩
abbrev e12:PE:=⟨0,32,.val ty_4 false,false⟩
abbrev e13:PE:=⟨5,48,.eat ty_3,false⟩
abbrev e14:PE:=⟨6,64,.val ty_0 false,false⟩
abbrev e15:PE:=⟨7,64,.val ty_0 false,false⟩
abbrev e16:PE:=⟨1,16,.val .bool false,false⟩
abbrev e17:PE:=⟨6,80,.val ty_0 false,false⟩
abbrev e18:PE:=⟨5,48,.eat ty_6,false⟩
abbrev e19:PE:=⟨0,32,.val ty_7 false,false⟩
abbrev e20:PE:=⟨5,48,.eat ty_0,false⟩
abbrev e21:PE:=⟨2,32,.val ty_0 false,false⟩
abbrev F2:Type 1:=Fn (Bool)
abbrev e22:PE:=⟨1,16,.val ty_3 true,false⟩
abbrev e23:PE:=⟨0,16,.val ty_4 false,false⟩
abbrev e24:PE:=⟨6,48,.val ty_0 false,false⟩
abbrev e25:PE:=⟨5,48,.val ty_0 false,false⟩
abbrev e26:PE:=⟨5,32,.val ty_0 false,false⟩
abbrev e27:PE:=⟨0,16,.val ty_5 false,false⟩
abbrev e28:PE:=⟨7,48,.val ty_0 false,false⟩
abbrev e29:PE:=⟨8,64,.val ty_0 false,false⟩
abbrev e30:PE:=⟨3,32,.val ty_0 false,false⟩
abbrev e31:PE:=⟨1,16,.val ty_9 true,false⟩
abbrev F3:Type 1:=Fn (List Int)
abbrev e32:PE:=⟨2,80,.val ty_7 false,false⟩
abbrev e33:PE:=⟨1,16,.val ty_7 false,false⟩
abbrev e34:PE:=⟨2,32,.val ty_7 false,false⟩
abbrev e35:PE:=⟨3,16,.val ty_0 false,false⟩
abbrev e36:PE:=⟨0,32,.val ty_0 false,false⟩
abbrev e37:PE:=⟨3,48,.val ty_0 false,false⟩
abbrev e38:PE:=⟨0,64,.val ty_4 false,false⟩
abbrev e39:PE:=⟨10,128,.eat ty_0,false⟩
abbrev e40:PE:=⟨13,176,.eat ty_0,false⟩
abbrev e41:PE:=⟨3,80,.val ty_0 false,false⟩
abbrev e42:PE:=⟨10,96,.eat ty_0,false⟩
abbrev e43:PE:=⟨11,112,.eat ty_0,false⟩
abbrev e44:PE:=⟨12,128,.eat ty_0,false⟩
abbrev e45:PE:=⟨13,144,.eat ty_0,false⟩
abbrev e46:PE:=⟨16,160,.box ty_3 false,false⟩
abbrev e47:PE:=⟨17,176,.val ty_0 false,false⟩
abbrev e48:PE:=⟨18,192,.val ty_0 false,false⟩
abbrev e49:PE:=⟨19,208,.val ty_0 false,false⟩
abbrev e50:PE:=⟨10,64,.eat ty_0,false⟩
abbrev e51:PE:=⟨11,80,.eat ty_0,false⟩
abbrev e52:PE:=⟨0,16,.val ty_7 false,false⟩
abbrev e53:PE:=⟨4,48,.eat ty_0,false⟩
abbrev e54:PE:=⟨12,64,.val ty_0 false,false⟩
abbrev e55:PE:=⟨13,80,.val ty_0 false,false⟩
abbrev e56:PE:=⟨0,0,.own ty_0,true⟩
abbrev e57:PE:=⟨1,32,.val ty_7 false,false⟩
abbrev e58:PE:=⟨12,96,.val ty_0 false,false⟩
abbrev e59:PE:=⟨13,112,.val ty_0 false,false⟩
abbrev e60:PE:=⟨16,96,.val ty_0 false,false⟩
abbrev e61:PE:=⟨17,112,.val ty_0 false,false⟩
abbrev e62:PE:=⟨20,96,.val ty_0 false,false⟩
abbrev e63:PE:=⟨21,112,.val ty_0 false,false⟩
abbrev e64:PE:=⟨3,48,.box ty_9 false,false⟩
abbrev e65:PE:=⟨6,64,.eat ty_7,false⟩
abbrev e66:PE:=⟨6,32,.eat ty_7,false⟩
abbrev e67:PE:=⟨9,48,.val ty_4 false,false⟩
abbrev e68:PE:=⟨10,64,.val ty_0 false,false⟩
abbrev e69:PE:=⟨11,80,.val ty_0 false,false⟩
abbrev e70:PE:=⟨13,64,.val ty_4 false,false⟩
abbrev e71:PE:=⟨14,80,.val ty_0 false,false⟩
abbrev e72:PE:=⟨15,96,.val ty_0 false,false⟩
abbrev e73:PE:=⟨24,144,.val ty_0 false,false⟩
abbrev e74:PE:=⟨5,16,.val ty_0 false,false⟩
abbrev e75:PE:=⟨1,64,.val ty_0 false,false⟩
abbrev e76:PE:=⟨3,96,.val ty_7 false,false⟩
abbrev e77:PE:=⟨9,112,.val ty_0 false,false⟩
abbrev e78:PE:=⟨11,144,.val ty_0 false,false⟩
abbrev e79:PE:=⟨12,160,.val ty_10 false,false⟩
abbrev e80:PE:=⟨15,192,.box ty_3 false,false⟩
abbrev e81:PE:=⟨16,208,.ptr ty_2 false,false⟩
abbrev e82:PE:=⟨17,224,.val ty_0 false,false⟩
abbrev e83:PE:=⟨18,240,.val ty_7 false,false⟩
abbrev e84:PE:=⟨19,256,.val ty_0 false,false⟩
abbrev e85:PE:=⟨20,272,.val ty_0 false,false⟩
abbrev e86:PE:=⟨9,64,.val ty_0 false,false⟩
abbrev e87:PE:=⟨10,80,.eat ty_0,false⟩
abbrev e88:PE:=⟨12,96,.val ty_10 false,false⟩
abbrev e89:PE:=⟨13,112,.eat ty_0,false⟩
abbrev e90:PE:=⟨23,128,.eat ty_0,false⟩
abbrev e91:PE:=⟨25,160,.val ty_7 false,false⟩
abbrev e92:PE:=⟨3,32,.box ty_9 false,false⟩
abbrev e93:PE:=⟨6,48,.eat ty_7,false⟩
abbrev e94:PE:=⟨0,0,.own ty_3,true⟩
abbrev e95:PE:=⟨0,0,.own ty_4,true⟩
abbrev e96:PE:=⟨0,0,.own ty_7,true⟩

noncomputable def q1V:Variant:=⟨[.val ty_4 false,.val ty_0 false],[(ty_0,false)],fun x=>laws_szTermS x.1 x.2.1⟩
noncomputable def q1C:Cfg:=⟨Try.prog,tyOf tys,12,gOf [],false,[],[]⟩
def q1p:List PE := [e1,e2]
noncomputable def q1F:F1:=⟨q1C,rr q1p [(ty_0,false)] Try.f6,fun p=>none,0,[]⟩
theorem q1K:Contract Try.prog 6 (q1V):=ctr q1C (rs := [(ty_0,false)]) (ps:=q1p) q1F Try.f6 32 ⟨tyOf_ok tys_ok,gOf_ok trivial⟩ (annl [] trivial)

noncomputable def q2V(k:Nat):Variant:=⟨[.val ty_5 false,.val ty_0 false],[(ty_0,false)],fun x=>laws_szTermSS k x.1 x.2.1⟩
noncomputable def q2C(k:Nat):Cfg:=⟨Try.prog,tyOf tys,27,gOf [(6,[],q1V)],false,[],[]⟩
def q2i1:List PE := [e3,e4,e5]
def q2o1:List PE := [e6]
noncomputable def q2f1(k:Nat)(n:Nat)(x2:PTe q2i1):=laws_szTermSS_L122 k n x2.1 x2.2.1 x2.2.2.1
def q2p:List PE := [e7,e2]
noncomputable def q2F(k:Nat):F1:=⟨q2C k,rr q2p [(ty_0,false)] Try.f21,fun p=>bif Nat.beq p 122 then some (.loop q2i1 q2o1 0 80 (q2f1 k k))else none,0,[]⟩
theorem q2K(k:Nat):Contract Try.prog 21 (q2V k):=ctr (q2C k) (rs := [(ty_0,false)]) (ps:=q2p) (q2F k) Try.f21 32 ⟨tyOf_ok tys_ok,gOf_ok ⟨q1K,trivial⟩⟩ (annl [122] ⟨lok q2i1 q2o1 0 80 (q2f1 k) k,trivial⟩)

noncomputable def q3V:Variant:=⟨[.val ty_7 false,.val ty_0 false],[(ty_0,false)],fun x=>laws_szIntS x.1 x.2.1⟩
noncomputable def q3C:Cfg:=⟨Try.prog,tyOf tys,12,gOf [],false,[],[]⟩
def q3p:List PE := [e8,e2]
noncomputable def q3F:F1:=⟨q3C,rr q3p [(ty_0,false)] Try.f30,fun p=>none,0,[]⟩
theorem q3K:Contract Try.prog 30 (q3V):=ctr q3C (rs := [(ty_0,false)]) (ps:=q3p) q3F Try.f30 32 ⟨tyOf_ok tys_ok,gOf_ok trivial⟩ (annl [] trivial)

noncomputable def q4V:Variant:=⟨[.val ty_9 true,.val ty_0 false],[(ty_0,false)],fun x=>laws_szBox x.1 x.2.1⟩
noncomputable def q4C:Cfg:=⟨Try.prog,tyOf tys,18,gOf [(30,[],q3V)],false,[],[]⟩
def q4p:List PE := [e9,e2]
noncomputable def q4F:F1:=⟨q4C,rr q4p [(ty_0,false)] Try.f7,fun p=>none,0,[]⟩
theorem q4K:Contract Try.prog 7 (q4V):=ctr q4C (rs := [(ty_0,false)]) (ps:=q4p) q4F Try.f7 32 ⟨tyOf_ok tys_ok,gOf_ok ⟨q3K,trivial⟩⟩ (annl [] trivial)

noncomputable def q5V:Variant:=⟨[.val ty_0 false],[(ty_0,false)],fun x=>laws_roomBehind x.1⟩
noncomputable def q5C:Cfg:=⟨Try.prog,tyOf tys,10,gOf [],false,[],[]⟩
def q5p:List PE := [e10]
noncomputable def q5F:F1:=⟨q5C,rr q5p [(ty_0,false)] Try.f34,fun p=>none,0,[]⟩
theorem q5K:Contract Try.prog 34 (q5V):=ctr q5C (rs := [(ty_0,false)]) (ps:=q5p) q5F Try.f34 16 ⟨tyOf_ok tys_ok,gOf_ok trivial⟩ (annl [] trivial)

noncomputable def q6V:Variant:=⟨[.val ty_3 true],[(ty_3,true)],fun x=>laws_toTerm x.1⟩
noncomputable def q6C:Cfg:=⟨Try.prog,tyOf tysR,17,gOf [],true,[],[]⟩
def q6p:List PE := [e11]
noncomputable def q6F:Fn (Int×Int×Int×Int):=⟨q6C,rr q6p [(ty_3,true)] Try.f35,fun p=>none,0,[]⟩
theorem q6K:Contract Try.prog 35 (q6V):=ctr q6C (rs := [(ty_3,true)]) (ps:=q6p) q6F Try.f35 16 ⟨tyOf_ok tysR_ok,gOf_ok trivial⟩ (annl [] trivial)

noncomputable def q7V:Variant:=⟨[],[(ty_3,true)],fun x=>laws_fillerTerm⟩
noncomputable def q7C:Cfg:=⟨Try.prog,tyOf tys,2,gOf [],false,[],[]⟩
def q7p:List PE := []
noncomputable def q7F:Fn (Int×Int×Int×Int):=⟨q7C,rr q7p [(ty_3,true)] Try.f36,fun p=>none,0,[]⟩
theorem q7K:Contract Try.prog 36 (q7V):=ctr q7C (rs := [(ty_3,true)]) (ps:=q7p) q7F Try.f36 0 ⟨tyOf_ok tys_ok,gOf_ok trivial⟩ (annl [] trivial)

noncomputable def q8V(k:Nat):Variant:=⟨[.val ty_4 false,.val .bool false],[(ty_6,false)],fun x=>laws_toTermS k x.1 x.2.1⟩
noncomputable def q8C(k:Nat):Cfg:=⟨Try.prog,tyOf tysR,51,gOf [(34,[],q5V),(35,[],q6V),(36,[],q7V)],true,[],[]⟩
def q8i1:List PE := [e12,e13,e14]
def q8o1:List PE := [e12,e13]
noncomputable def q8f1(k:Nat)(n:Nat)(x4:PTe q8i1):=laws_toTermS_L122 k n x4.1 x4.2.1 x4.2.2.1
def q8i2:List PE := [e12,e13,e15]
def q8o2:List PE := [e12,e13]
noncomputable def q8f2(k:Nat)(n:Nat)(x8:PTe q8i2):=laws_toTermS_L250 k n x8.1 x8.2.1 x8.2.2.1
def q8p:List PE := [e1,e16]
noncomputable def q8F(k:Nat):Fn (List (Int×Int×Int×Int)×List (Int×Int×Int×Int)):=⟨q8C k,rr q8p [(ty_6,false)] Try.f9,fun p=>bif Nat.beq p 122 then some (.loop q8i1 q8o1 0 80 (q8f1 k k))else bif Nat.beq p 250 then some (.loop q8i2 q8o2 2 80 (q8f2 k k))else bif Nat.beq p 6 then some (.cut [e12] 48)else none,0,[]⟩
theorem q8K(k:Nat):Contract Try.prog 9 (q8V k):=ctr (q8C k) (rs := [(ty_6,false)]) (ps:=q8p) (q8F k) Try.f9 32 ⟨tyOf_ok tysR_ok,gOf_ok ⟨q5K,q6K,q7K,trivial⟩⟩ (annl [122,250] ⟨lok q8i1 q8o1 0 80 (q8f1 k) k,lok q8i2 q8o2 2 80 (q8f2 k) k,trivial⟩)

noncomputable def q9V(k:Nat):Variant:=⟨[.val ty_5 false,.val .bool false],[(ty_11,false)],fun x=>laws_toTermSS k x.1 x.2.1⟩
noncomputable def q9C(k:Nat):Cfg:=⟨Try.prog,tyOf tysR,53,gOf [(34,[],q5V),(9,[],q8V k),(36,[],q7V)],true,[5,27,39,44],[]⟩
def q9i1:List PE := [e3,⟨1,48,.val .bool false,false⟩,⟨5,64,.eat ty_6,false⟩,e17]
def q9o1:List PE := [e3,e18]
noncomputable def q9f1(k:Nat)(n:Nat)(x4:PTe q9i1):=laws_toTermSS_L122 k n x4.1 x4.2.1 x4.2.2.1 x4.2.2.2.1
def q9i2:List PE := [e3,e18,e15]
def q9o2:List PE := [e3,e18]
noncomputable def q9f2(k:Nat)(n:Nat)(x8:PTe q9i2):=laws_toTermSS_L250 k n x8.1 x8.2.1 x8.2.2.1
def q9p:List PE := [e7,e16]
noncomputable def q9F(k:Nat):Fn (List (List (Int×Int×Int×Int)×List (Int×Int×Int×Int))×List (List (Int×Int×Int×Int)×List (Int×Int×Int×Int))):=⟨q9C k,rr q9p [(ty_11,false)] Try.f23,fun p=>bif Nat.beq p 122 then some (.loop q9i1 q9o1 0 96 (q9f1 k k))else bif Nat.beq p 250 then some (.loop q9i2 q9o2 2 80 (q9f2 k k))else bif Nat.beq p 6 then some (.cut [e3,⟨1,48,.val .bool false,false⟩] 64)else none,0,[]⟩
theorem q9K(k:Nat):Contract Try.prog 23 (q9V k):=ctr (q9C k) (rs := [(ty_11,false)]) (ps:=q9p) (q9F k) Try.f23 32 ⟨tyOf_ok tysR_ok,gOf_ok ⟨q5K,q8K k,q7K,trivial⟩⟩ (annl [122,250] ⟨lok q9i1 q9o1 0 96 (q9f1 k) k,lok q9i2 q9o2 2 80 (q9f2 k) k,trivial⟩)

noncomputable def q10V(k:Nat):Variant:=⟨[.val ty_7 false,.val .bool false],[(ty_12,false)],fun x=>laws_toIntS k x.1 x.2.1⟩
noncomputable def q10C(k:Nat):Cfg:=⟨Try.prog,tyOf tysR,49,gOf [(34,[],q5V)],true,[],[]⟩
def q10i1:List PE := [e19,e20,e14]
def q10o1:List PE := [e19,e20]
noncomputable def q10f1(k:Nat)(n:Nat)(x3:PTe q10i1):=laws_toIntS_L122 k n x3.1 x3.2.1 x3.2.2.1
def q10i2:List PE := [e19,e20,e15]
def q10o2:List PE := [e19,e20]
noncomputable def q10f2(k:Nat)(n:Nat)(x6:PTe q10i2):=laws_toIntS_L250 k n x6.1 x6.2.1 x6.2.2.1
def q10p:List PE := [e8,e16]
noncomputable def q10F(k:Nat):Fn (List Int×List Int):=⟨q10C k,rr q10p [(ty_12,false)] Try.f37,fun p=>bif Nat.beq p 122 then some (.loop q10i1 q10o1 0 80 (q10f1 k k))else bif Nat.beq p 250 then some (.loop q10i2 q10o2 2 80 (q10f2 k k))else bif Nat.beq p 6 then some (.cut [e19] 48)else none,0,[]⟩
theorem q10K(k:Nat):Contract Try.prog 37 (q10V k):=ctr (q10C k) (rs := [(ty_12,false)]) (ps:=q10p) (q10F k) Try.f37 32 ⟨tyOf_ok tysR_ok,gOf_ok ⟨q5K,trivial⟩⟩ (annl [122,250] ⟨lok q10i1 q10o1 0 80 (q10f1 k) k,lok q10i2 q10o2 2 80 (q10f2 k) k,trivial⟩)

noncomputable def q11V(k:Nat):Variant:=⟨[.val ty_9 true,.val .bool false],[(ty_14,true)],fun x=>laws_toBox k x.1 x.2.1⟩
noncomputable def q11C(k:Nat):Cfg:=⟨Try.prog,tyOf tysR,20,gOf [(37,[],q10V k)],true,[],[]⟩
def q11p:List PE := [e9,e16]
noncomputable def q11F(k:Nat):Fn (Int×(List Int×List Int)×List Int×List Int):=⟨q11C k,rr q11p [(ty_14,true)] Try.f10,fun p=>none,0,[]⟩
theorem q11K(k:Nat):Contract Try.prog 10 (q11V k):=ctr (q11C k) (rs := [(ty_14,true)]) (ps:=q11p) (q11F k) Try.f10 32 ⟨tyOf_ok tysR_ok,gOf_ok ⟨q10K k,trivial⟩⟩ (annl [] trivial)

noncomputable def q12V:Variant:=⟨[.val ty_0 false,.val ty_0 false,.val ty_0 false],[(.bool,false)],fun x=>spec_l1In x.1 x.2.1 x.2.2.1⟩
noncomputable def q12C:Cfg:=⟨Try.prog,tyOf tys,15,gOf [],false,[],[]⟩
def q12p:List PE := [e10,e2,e21]
noncomputable def q12F:F2:=⟨q12C,rr q12p [(.bool,false)] Try.f32,fun p=>none,0,[]⟩
theorem q12K:Contract Try.prog 32 (q12V):=ctr q12C (rs := [(.bool,false)]) (ps:=q12p) q12F Try.f32 48 ⟨tyOf_ok tys_ok,gOf_ok trivial⟩ (annl [] trivial)

noncomputable def q13V:Variant:=⟨[.val ty_3 true],[(.bool,false)],fun x=>spec_poTerm x.1⟩
noncomputable def q13C:Cfg:=⟨Try.prog,tyOf tys,32,gOf [(32,[],q12V)],false,[],[]⟩
def q13p:List PE := [e11]
noncomputable def q13F:F2:=⟨q13C,rr q13p [(.bool,false)] Try.f63,fun p=>none,0,[]⟩
theorem q13K:Contract Try.prog 63 (q13V):=ctr q13C (rs := [(.bool,false)]) (ps:=q13p) q13F Try.f63 16 ⟨tyOf_ok tys_ok,gOf_ok ⟨q12K,trivial⟩⟩ (annl [] trivial)

noncomputable def q14V:Variant:=⟨[.val ty_0 false],[(ty_0,false)],fun x=>spec_l1Sign x.1⟩
noncomputable def q14C:Cfg:=⟨Try.prog,tyOf tys,9,gOf [],false,[],[]⟩
def q14p:List PE := [e10]
noncomputable def q14F:F1:=⟨q14C,rr q14p [(ty_0,false)] Try.f71,fun p=>none,0,[]⟩
theorem q14K:Contract Try.prog 71 (q14V):=ctr q14C (rs := [(ty_0,false)]) (ps:=q14p) q14F Try.f71 16 ⟨tyOf_ok tys_ok,gOf_ok trivial⟩ (annl [] trivial)

noncomputable def q15V:Variant:=⟨[.val ty_3 true,.val ty_3 true],[(ty_0,false)],fun x=>spec_poOrder x.1 x.2.1⟩
noncomputable def q15C:Cfg:=⟨Try.prog,tyOf tys,35,gOf [(71,[],q14V)],false,[],[]⟩
def q15p:List PE := [e11,e22]
noncomputable def q15F:F1:=⟨q15C,rr q15p [(ty_0,false)] Try.f64,fun p=>none,0,[]⟩
theorem q15K:Contract Try.prog 64 (q15V):=ctr q15C (rs := [(ty_0,false)]) (ps:=q15p) q15F Try.f64 32 ⟨tyOf_ok tys_ok,gOf_ok ⟨q14K,trivial⟩⟩ (annl [] trivial)

noncomputable def q16V(k:Nat):Variant:=⟨[.val ty_4 false],[(.bool,false)],fun x=>spec_poGood k x.1⟩
noncomputable def q16C(k:Nat):Cfg:=⟨Try.prog,tyOf tys,38,gOf [(63,[],q13V),(64,[],q15V)],false,[],[]⟩
def q16i1:List PE := [e23,⟨5,32,.val ty_4 false,false⟩,e24,e15]
def q16o1:List PE := [e23]
noncomputable def q16f1(k:Nat)(n:Nat)(x3:PTe q16i1):=spec_poGood_L26 k n x3.1 x3.2.1 x3.2.2.1 x3.2.2.2.1
def q16p:List PE := [e1]
noncomputable def q16F(k:Nat):F2:=⟨q16C k,rr q16p [(.bool,false)] Try.f48,fun p=>bif Nat.beq p 26 then some (.loop q16i1 q16o1 0 80 (q16f1 k k))else none,0,[]⟩
theorem q16K(k:Nat):Contract Try.prog 48 (q16V k):=ctr (q16C k) (rs := [(.bool,false)]) (ps:=q16p) (q16F k) Try.f48 16 ⟨tyOf_ok tys_ok,gOf_ok ⟨q13K,q15K,trivial⟩⟩ (annl [26] ⟨lok q16i1 q16o1 0 80 (q16f1 k) k,trivial⟩)

noncomputable def q17V:Variant:=⟨[.val ty_3 true,.val ty_0 false],[(ty_0,false)],fun x=>spec_poPower x.1 x.2.1⟩
noncomputable def q17C:Cfg:=⟨Try.prog,tyOf tys,16,gOf [],false,[],[]⟩
def q17p:List PE := [e11,e2]
noncomputable def q17F:F1:=⟨q17C,rr q17p [(ty_0,false)] Try.f67,fun p=>none,0,[]⟩
theorem q17K:Contract Try.prog 67 (q17V):=ctr q17C (rs := [(ty_0,false)]) (ps:=q17p) q17F Try.f67 32 ⟨tyOf_ok tys_ok,gOf_ok trivial⟩ (annl [] trivial)

noncomputable def q18V:Variant:=⟨[.val ty_0 false,.val ty_0 false],[(ty_0,false)],fun x=>spec_l1Most x.1 x.2.1⟩
noncomputable def q18C:Cfg:=⟨Try.prog,tyOf tys,10,gOf [],false,[],[]⟩
def q18p:List PE := [e10,e2]
noncomputable def q18F:F1:=⟨q18C,rr q18p [(ty_0,false)] Try.f66,fun p=>none,0,[]⟩
theorem q18K:Contract Try.prog 66 (q18V):=ctr q18C (rs := [(ty_0,false)]) (ps:=q18p) q18F Try.f66 32 ⟨tyOf_ok tys_ok,gOf_ok trivial⟩ (annl [] trivial)

noncomputable def q19V(k:Nat):Variant:=⟨[.val ty_4 false,.val ty_0 false],[(ty_0,false)],fun x=>spec_poDegreeIn k x.1 x.2.1⟩
noncomputable def q19C(k:Nat):Cfg:=⟨Try.prog,tyOf tys,21,gOf [(67,[],q17V),(66,[],q18V)],false,[],[]⟩
def q19i1:List PE := [e6,e25,⟨8,64,.val ty_4 false,false⟩,⟨9,80,.val ty_0 false,false⟩,⟨10,96,.val ty_0 false,false⟩]
def q19o1:List PE := [e26]
noncomputable def q19f1(k:Nat)(n:Nat)(x3:PTe q19i1):=spec_poDegreeIn_L58 k n x3.1 x3.2.1 x3.2.2.1 x3.2.2.2.1 x3.2.2.2.2.1
def q19p:List PE := [e1,e2]
noncomputable def q19F(k:Nat):F1:=⟨q19C k,rr q19p [(ty_0,false)] Try.f50,fun p=>bif Nat.beq p 58 then some (.loop q19i1 q19o1 0 112 (q19f1 k k))else none,0,[]⟩
theorem q19K(k:Nat):Contract Try.prog 50 (q19V k):=ctr (q19C k) (rs := [(ty_0,false)]) (ps:=q19p) (q19F k) Try.f50 32 ⟨tyOf_ok tys_ok,gOf_ok ⟨q17K,q18K,trivial⟩⟩ (annl [58] ⟨lok q19i1 q19o1 0 112 (q19f1 k) k,trivial⟩)

noncomputable def q20V(k:Nat):Variant:=⟨[.val ty_5 false],[(.bool,false)],fun x=>spec_poSystem k x.1⟩
noncomputable def q20C(k:Nat):Cfg:=⟨Try.prog,tyOf tys,29,gOf [(48,[],q16V k),(50,[],q19V k),(32,[],q12V)],false,[],[]⟩
def q20i1:List PE := [e27,⟨4,32,.val ty_4 false,false⟩,e25,⟨6,64,.val ty_5 false,false⟩,⟨7,80,.val ty_0 false,false⟩,⟨8,96,.val ty_0 false,false⟩]
def q20o1:List PE := [e27,⟨6,32,.val ty_5 false,false⟩,e28,e29]
noncomputable def q20f1(k:Nat)(n:Nat)(x3:PTe q20i1):=spec_poSystem_L13518 k n x3.1 x3.2.1 x3.2.2.1 x3.2.2.2.1 x3.2.2.2.2.1 x3.2.2.2.2.2.1
def q20i2:List PE := [e27,⟨6,32,.val ty_5 false,false⟩,e28,e29]
def q20o2:List PE := [e27]
noncomputable def q20f2(k:Nat)(n:Nat)(x6:PTe q20i2):=spec_poSystem_L26 k n x6.1 x6.2.1 x6.2.2.1 x6.2.2.2.1
def q20p:List PE := [e7]
noncomputable def q20F(k:Nat):F2:=⟨q20C k,rr q20p [(.bool,false)] Try.f60,fun p=>bif Nat.beq p 13518 then some (.loop q20i1 q20o1 2 112 (q20f1 k k))else bif Nat.beq p 26 then some (.loop q20i2 q20o2 0 80 (q20f2 k k))else none,0,[]⟩
theorem q20K(k:Nat):Contract Try.prog 60 (q20V k):=ctr (q20C k) (rs := [(.bool,false)]) (ps:=q20p) (q20F k) Try.f60 16 ⟨tyOf_ok tys_ok,gOf_ok ⟨q16K k,q19K k,q12K,trivial⟩⟩ (annl [26,13518] ⟨lok q20i2 q20o2 0 80 (q20f2 k) k,lok q20i1 q20o1 2 112 (q20f1 k) k,trivial⟩)

noncomputable def q21V:Variant:=⟨[.val ty_0 false],[(ty_0,false)],fun x=>spec_dyPower x.1⟩
noncomputable def q21C:Cfg:=⟨Try.prog,tyOf tys,6,gOf [],false,[],[]⟩
def q21p:List PE := [e10]
noncomputable def q21F:F1:=⟨q21C,rr q21p [(ty_0,false)] Try.f65,fun p=>none,0,[]⟩
theorem q21K:Contract Try.prog 65 (q21V):=ctr q21C (rs := [(ty_0,false)]) (ps:=q21p) q21F Try.f65 16 ⟨tyOf_ok tys_ok,gOf_ok trivial⟩ (annl [] trivial)

noncomputable def q22V(k:Nat):Variant:=⟨[.val ty_9 true],[(.bool,false)],fun x=>spec_bxGood k x.1⟩
noncomputable def q22C(k:Nat):Cfg:=⟨Try.prog,tyOf tys,80,gOf [(32,[],q12V),(65,[],q21V)],false,[],[]⟩
def q22i1:List PE := [⟨1,16,.box ty_9 false,false⟩,e30,⟨4,48,.val .bool false,false⟩,⟨36,64,.val ty_7 false,false⟩,⟨37,80,.val ty_0 false,false⟩,⟨38,96,.val ty_0 false,false⟩]
def q22o1:List PE := [⟨4,16,.val .bool false,false⟩]
noncomputable def q22f1(k:Nat)(n:Nat)(x6:PTe q22i1):=spec_bxGood_L250 k n x6.1 x6.2.1 x6.2.2.1 x6.2.2.2.1 x6.2.2.2.2.1 x6.2.2.2.2.2.1
def q22p:List PE := [e9]
noncomputable def q22F(k:Nat):F2:=⟨q22C k,rr q22p [(.bool,false)] Try.f49,fun p=>bif Nat.beq p 250 then some (.loop q22i1 q22o1 0 112 (q22f1 k k))else none,0,[]⟩
theorem q22K(k:Nat):Contract Try.prog 49 (q22V k):=ctr (q22C k) (rs := [(.bool,false)]) (ps:=q22p) (q22F k) Try.f49 16 ⟨tyOf_ok tys_ok,gOf_ok ⟨q12K,q21K,trivial⟩⟩ (annl [250] ⟨lok q22i1 q22o1 0 112 (q22f1 k) k,trivial⟩)

noncomputable def q23V(k:Nat):Variant:=⟨[.val ty_5 false,.val ty_9 true],[(.bool,false)],fun x=>spec_miAsked k x.1 x.2.1⟩
noncomputable def q23C(k:Nat):Cfg:=⟨Try.prog,tyOf tys,24,gOf [(60,[],q20V k),(49,[],q22V k)],false,[],[]⟩
def q23p:List PE := [e7,e31]
noncomputable def q23F(k:Nat):F2:=⟨q23C k,rr q23p [(.bool,false)] Try.f45,fun p=>none,0,[]⟩
theorem q23K(k:Nat):Contract Try.prog 45 (q23V k):=ctr (q23C k) (rs := [(.bool,false)]) (ps:=q23p) (q23F k) Try.f45 32 ⟨tyOf_ok tys_ok,gOf_ok ⟨q20K k,q22K k,trivial⟩⟩ (annl [] trivial)

noncomputable def q24V:Variant:=⟨[.val ty_7 false],[(ty_7,false)],fun x=>spec_l1Own x.1⟩
noncomputable def q24C:Cfg:=⟨Try.prog,tyOf tys,6,gOf [],false,[],[]⟩
def q24p:List PE := [e8]
noncomputable def q24F:F3:=⟨q24C,rr q24p [(ty_7,false)] Try.f51,fun p=>none,0,[]⟩
theorem q24K:Contract Try.prog 51 (q24V):=ctr q24C (rs := [(ty_7,false)]) (ps:=q24p) q24F Try.f51 16 ⟨tyOf_ok tys_ok,gOf_ok trivial⟩ (annl [] trivial)

noncomputable def q25V(k:Nat):Variant:=⟨[.val ty_4 false,.val ty_7 false,.val ty_7 false],[(ty_7,false)],fun x=>spec_beDegrees k x.1 x.2.1 x.2.2.1⟩
noncomputable def q25C(k:Nat):Cfg:=⟨Try.prog,tyOf tys,33,gOf [(50,[],q19V k),(66,[],q18V)],false,[],[]⟩
def q25i1:List PE := [⟨0,48,.val ty_4 false,false⟩,⟨1,64,.val ty_7 false,false⟩,e32,⟨7,96,.eat ty_0,false⟩,⟨11,112,.val ty_0 false,false⟩,⟨12,128,.val ty_0 false,false⟩]
def q25o1:List PE := [⟨7,48,.eat ty_0,false⟩]
noncomputable def q25f1(k:Nat)(n:Nat)(x3:PTe q25i1):=spec_beDegrees_L58 k n x3.1 x3.2.1 x3.2.2.1 x3.2.2.2.1 x3.2.2.2.2.1 x3.2.2.2.2.2.1
def q25p:List PE := [e1,e33,e34]
noncomputable def q25F(k:Nat):F3:=⟨q25C k,rr q25p [(ty_7,false)] Try.f83,fun p=>bif Nat.beq p 58 then some (.loop q25i1 q25o1 0 144 (q25f1 k k))else none,0,[]⟩
theorem q25K(k:Nat):Contract Try.prog 83 (q25V k):=ctr (q25C k) (rs := [(ty_7,false)]) (ps:=q25p) (q25F k) Try.f83 48 ⟨tyOf_ok tys_ok,gOf_ok ⟨q19K k,q18K,trivial⟩⟩ (annl [58] ⟨lok q25i1 q25o1 0 144 (q25f1 k) k,trivial⟩)

noncomputable def q26V(k:Nat):Variant:=⟨[.val ty_4 false],[(ty_0,false)],fun x=>spec_poDegree k x.1⟩
noncomputable def q26C(k:Nat):Cfg:=⟨Try.prog,tyOf tys,24,gOf [(66,[],q18V)],false,[],[]⟩
def q26i1:List PE := [e35,⟨6,32,.val ty_4 false,false⟩,e28,e29]
def q26o1:List PE := [e35]
noncomputable def q26f1(k:Nat)(n:Nat)(x2:PTe q26i1):=spec_poDegree_L58 k n x2.1 x2.2.1 x2.2.2.1 x2.2.2.2.1
def q26p:List PE := [e1]
noncomputable def q26F(k:Nat):F1:=⟨q26C k,rr q26p [(ty_0,false)] Try.f85,fun p=>bif Nat.beq p 58 then some (.loop q26i1 q26o1 0 80 (q26f1 k k))else none,0,[]⟩
theorem q26K(k:Nat):Contract Try.prog 85 (q26V k):=ctr (q26C k) (rs := [(ty_0,false)]) (ps:=q26p) (q26F k) Try.f85 16 ⟨tyOf_ok tys_ok,gOf_ok ⟨q18K,trivial⟩⟩ (annl [58] ⟨lok q26i1 q26o1 0 80 (q26f1 k) k,trivial⟩)

noncomputable def q27V(k:Nat):Variant:=⟨[.val ty_0 false,.val ty_0 false],[(ty_0,false)],fun x=>spec_bePower k x.1 x.2.1⟩
noncomputable def q27C(k:Nat):Cfg:=⟨Try.prog,tyOf tys,14,gOf [],false,[],[]⟩
def q27i1:List PE := [e36,e4,e5]
def q27o1:List PE := [e26]
noncomputable def q27f1(k:Nat)(n:Nat)(x1:PTe q27i1):=spec_bePower_L28 k n x1.1 x1.2.1 x1.2.2.1
def q27p:List PE := [e10,e2]
noncomputable def q27F(k:Nat):F1:=⟨q27C k,rr q27p [(ty_0,false)] Try.f84,fun p=>bif Nat.beq p 28 then some (.loop q27i1 q27o1 0 80 (q27f1 k k))else none,0,[]⟩
theorem q27K(k:Nat):Contract Try.prog 84 (q27V k):=ctr (q27C k) (rs := [(ty_0,false)]) (ps:=q27p) (q27F k) Try.f84 32 ⟨tyOf_ok tys_ok,gOf_ok trivial⟩ (annl [28] ⟨lok q27i1 q27o1 0 80 (q27f1 k) k,trivial⟩)

noncomputable def q28V:Variant:=⟨[.val ty_0 false,.val ty_0 false],[(ty_0,false)],fun x=>spec_l1Least x.1 x.2.1⟩
noncomputable def q28C:Cfg:=⟨Try.prog,tyOf tys,10,gOf [],false,[],[]⟩
def q28p:List PE := [e10,e2]
noncomputable def q28F:F1:=⟨q28C,rr q28p [(ty_0,false)] Try.f86,fun p=>none,0,[]⟩
theorem q28K:Contract Try.prog 86 (q28V):=ctr q28C (rs := [(ty_0,false)]) (ps:=q28p) q28F Try.f86 32 ⟨tyOf_ok tys_ok,gOf_ok trivial⟩ (annl [] trivial)

noncomputable def q29V:Variant:=⟨[.val ty_7 false,.val ty_0 false,.val ty_0 false,.val ty_0 false],[(ty_0,false)],fun x=>spec_beAt x.1 x.2.1 x.2.2.1 x.2.2.2.1⟩
noncomputable def q29C:Cfg:=⟨Try.prog,tyOf tys,24,gOf [],false,[],[]⟩
def q29p:List PE := [e8,e2,e21,e37]
noncomputable def q29F:F1:=⟨q29C,rr q29p [(ty_0,false)] Try.f69,fun p=>none,0,[]⟩
theorem q29K:Contract Try.prog 69 (q29V):=ctr q29C (rs := [(ty_0,false)]) (ps:=q29p) q29F Try.f69 64 ⟨tyOf_ok tys_ok,gOf_ok trivial⟩ (annl [] trivial)

noncomputable def q30V(k:Nat):Variant:=⟨[.val ty_0 false,.val ty_0 false],[(ty_0,false)],fun x=>spec_beChoose k x.1 x.2.1⟩
noncomputable def q30C(k:Nat):Cfg:=⟨Try.prog,tyOf tys,21,gOf [],false,[],[]⟩
def q30i1:List PE := [e36,e4,e5,e17]
def q30o1:List PE := [e26]
noncomputable def q30f1(k:Nat)(n:Nat)(x1:PTe q30i1):=spec_beChoose_L58 k n x1.1 x1.2.1 x1.2.2.1 x1.2.2.2.1
def q30p:List PE := [e10,e2]
noncomputable def q30F(k:Nat):F1:=⟨q30C k,rr q30p [(ty_0,false)] Try.f91,fun p=>bif Nat.beq p 58 then some (.loop q30i1 q30o1 0 96 (q30f1 k k))else none,0,[]⟩
theorem q30K(k:Nat):Contract Try.prog 91 (q30V k):=ctr (q30C k) (rs := [(ty_0,false)]) (ps:=q30p) (q30F k) Try.f91 32 ⟨tyOf_ok tys_ok,gOf_ok trivial⟩ (annl [58] ⟨lok q30i1 q30o1 0 96 (q30f1 k) k,trivial⟩)

noncomputable def q31V(k:Nat):Variant:=⟨[.val ty_0 false,.val ty_0 false,.val ty_0 false,.val ty_0 false],[(ty_0,false)],fun x=>spec_bePart k x.1 x.2.1 x.2.2.1 x.2.2.2.1⟩
noncomputable def q31C(k:Nat):Cfg:=⟨Try.prog,tyOf tys,24,gOf [(91,[],q30V k),(84,[],q27V k)],false,[],[]⟩
def q31p:List PE := [e10,e2,e21,e37]
noncomputable def q31F(k:Nat):F1:=⟨q31C k,rr q31p [(ty_0,false)] Try.f87,fun p=>none,0,[]⟩
theorem q31K(k:Nat):Contract Try.prog 87 (q31V k):=ctr (q31C k) (rs := [(ty_0,false)]) (ps:=q31p) (q31F k) Try.f87 64 ⟨tyOf_ok tys_ok,gOf_ok ⟨q30K k,q27K k,trivial⟩⟩ (annl [] trivial)

noncomputable def q32V(k:Nat):Variant:=⟨[.val ty_4 false,.val ty_7 false,.val ty_7 false,.val ty_0 false],[(ty_7,false),(ty_7,false)],fun x=>spec_beGrid k x.1 x.2.1 x.2.2.1 x.2.2.2.1⟩
noncomputable def q32C(k:Nat):Cfg:=⟨Try.prog,tyOf tys,162,gOf [(83,[],q25V k),(65,[],q21V),(85,[],q26V k),(84,[],q27V k),(86,[],q28V),(69,[],q29V),(87,[],q31V k)],false,[],[]⟩
def q32i1:List PE := [e38,⟨1,80,.val ty_7 false,false⟩,⟨2,96,.val ty_7 false,false⟩,⟨3,112,.val ty_0 false,false⟩,e39,⟨11,144,.eat ty_0,false⟩,⟨12,160,.eat ty_0,false⟩,e40,⟨43,192,.val ty_0 false,false⟩,⟨44,208,.val ty_0 false,false⟩]
def q32o1:List PE := [e38,e41,e42,e43,e44,e45]
noncomputable def q32f1(k:Nat)(n:Nat)(x2:PTe q32i1):=spec_beGrid_L250 k n x2.1 x2.2.1 x2.2.2.1 x2.2.2.2.1 x2.2.2.2.2.1 x2.2.2.2.2.2.1 x2.2.2.2.2.2.2.1 x2.2.2.2.2.2.2.2.1 x2.2.2.2.2.2.2.2.2.1 x2.2.2.2.2.2.2.2.2.2.1
def q32i2:List PE := [e38,e41,e42,e43,e44,e45,e46,e47,e48,e49,⟨20,224,.val ty_0 false,false⟩,⟨62,240,.val ty_4 false,false⟩,⟨63,256,.val ty_0 false,false⟩,⟨64,272,.val ty_0 false,false⟩]
def q32o2:List PE := [e38,e41,e42,e43,e44,e45,e46,e47,e48,e49,⟨62,224,.val ty_4 false,false⟩,⟨63,240,.val ty_0 false,false⟩,⟨64,256,.val ty_0 false,false⟩]
noncomputable def q32f2(k:Nat)(n:Nat)(x15:PTe q32i2):=spec_beGrid_L1062003858 k n x15.1 x15.2.1 x15.2.2.1 x15.2.2.2.1 x15.2.2.2.2.1 x15.2.2.2.2.2.1 x15.2.2.2.2.2.2.1 x15.2.2.2.2.2.2.2.1 x15.2.2.2.2.2.2.2.2.1 x15.2.2.2.2.2.2.2.2.2.1 x15.2.2.2.2.2.2.2.2.2.2.1 x15.2.2.2.2.2.2.2.2.2.2.2.1 x15.2.2.2.2.2.2.2.2.2.2.2.2.1 x15.2.2.2.2.2.2.2.2.2.2.2.2.2.1
def q32i3:List PE := [e38,e41,e42,e43,e44,e45,e46,e47,e48,e49,⟨62,224,.val ty_4 false,false⟩,⟨63,240,.val ty_0 false,false⟩,⟨64,256,.val ty_0 false,false⟩]
def q32o3:List PE := [e38,e41,e42,e43,e44,e45,e46,e47,e48,⟨62,208,.val ty_4 false,false⟩,⟨63,224,.val ty_0 false,false⟩,⟨64,240,.val ty_0 false,false⟩]
noncomputable def q32f3(k:Nat)(n:Nat)(x18:PTe q32i3):=spec_beGrid_L16593810 k n x18.1 x18.2.1 x18.2.2.1 x18.2.2.2.1 x18.2.2.2.2.1 x18.2.2.2.2.2.1 x18.2.2.2.2.2.2.1 x18.2.2.2.2.2.2.2.1 x18.2.2.2.2.2.2.2.2.1 x18.2.2.2.2.2.2.2.2.2.1 x18.2.2.2.2.2.2.2.2.2.2.1 x18.2.2.2.2.2.2.2.2.2.2.2.1 x18.2.2.2.2.2.2.2.2.2.2.2.2.1
def q32i4:List PE := [e38,e41,e42,e43,e44,e45,e46,e47,e48,⟨62,208,.val ty_4 false,false⟩,⟨63,224,.val ty_0 false,false⟩,⟨64,240,.val ty_0 false,false⟩]
def q32o4:List PE := [e38,e41,e42,e43,e44,e45,⟨62,160,.val ty_4 false,false⟩,⟨63,176,.val ty_0 false,false⟩,⟨64,192,.val ty_0 false,false⟩]
noncomputable def q32f4(k:Nat)(n:Nat)(x21:PTe q32i4):=spec_beGrid_L259278 k n x21.1 x21.2.1 x21.2.2.1 x21.2.2.2.1 x21.2.2.2.2.1 x21.2.2.2.2.2.1 x21.2.2.2.2.2.2.1 x21.2.2.2.2.2.2.2.1 x21.2.2.2.2.2.2.2.2.1 x21.2.2.2.2.2.2.2.2.2.1 x21.2.2.2.2.2.2.2.2.2.2.1 x21.2.2.2.2.2.2.2.2.2.2.2.1
def q32i5:List PE := [e38,e41,e42,e43,e44,e45,⟨62,160,.val ty_4 false,false⟩,⟨63,176,.val ty_0 false,false⟩,⟨64,192,.val ty_0 false,false⟩]
def q32o5:List PE := [e50,e51]
noncomputable def q32f5(k:Nat)(n:Nat)(x24:PTe q32i5):=spec_beGrid_L506 k n x24.1 x24.2.1 x24.2.2.1 x24.2.2.2.1 x24.2.2.2.2.1 x24.2.2.2.2.2.1 x24.2.2.2.2.2.2.1 x24.2.2.2.2.2.2.2.1 x24.2.2.2.2.2.2.2.2.1
def q32p:List PE := [e1,e33,e34,e37]
noncomputable def q32F(k:Nat):Fn ((List Int)×List Int):=⟨q32C k,rr q32p [(ty_7,false),(ty_7,false)] Try.f68,fun p=>bif Nat.beq p 250 then some (.loop q32i1 q32o1 0 224 (q32f1 k k))else bif Nat.beq p 1062003858 then some (.loop q32i2 q32o2 8 288 (q32f2 k k))else bif Nat.beq p 16593810 then some (.loop q32i3 q32o3 6 272 (q32f3 k k))else bif Nat.beq p 259278 then some (.loop q32i4 q32o4 4 256 (q32f4 k k))else bif Nat.beq p 506 then some (.loop q32i5 q32o5 2 208 (q32f5 k k))else none,0,[]⟩
theorem q32K(k:Nat):Contract Try.prog 68 (q32V k):=ctr (q32C k) (rs := [(ty_7,false),(ty_7,false)]) (ps:=q32p) (q32F k) Try.f68 64 ⟨tyOf_ok tys_ok,gOf_ok ⟨q25K k,q21K,q26K k,q27K k,q28K,q29K,q31K k,trivial⟩⟩ (annl [250,506,259278,16593810,1062003858] ⟨lok q32i1 q32o1 0 224 (q32f1 k) k,lok q32i5 q32o5 2 208 (q32f5 k) k,lok q32i4 q32o4 4 256 (q32f4 k) k,lok q32i3 q32o3 6 272 (q32f3 k) k,lok q32i2 q32o2 8 288 (q32f2 k) k,trivial⟩)

noncomputable def q33V:Variant:=⟨[.val ty_0 false],[(ty_0,false)],fun x=>spec_beFactor x.1⟩
noncomputable def q33C:Cfg:=⟨Try.prog,tyOf tys,7,gOf [],false,[],[]⟩
def q33p:List PE := [e10]
noncomputable def q33F:F1:=⟨q33C,rr q33p [(ty_0,false)] Try.f92,fun p=>none,0,[]⟩
theorem q33K:Contract Try.prog 92 (q33V):=ctr q33C (rs := [(ty_0,false)]) (ps:=q33p) q33F Try.f92 16 ⟨tyOf_ok tys_ok,gOf_ok trivial⟩ (annl [] trivial)

noncomputable def q34V(k:Nat):Variant:=⟨[.val ty_7 false],[(ty_7,false)],fun x=>spec_beOne k x.1⟩
noncomputable def q34C(k:Nat):Cfg:=⟨Try.prog,tyOf tys,44,gOf [(91,[],q30V k),(92,[],q33V)],false,[],[]⟩
def q34i1:List PE := [e52,e30,e53,e5,e17,⟨7,96,.val ty_0 false,false⟩,⟨12,112,.val ty_0 false,false⟩,⟨13,128,.val ty_0 false,false⟩]
def q34o1:List PE := [e52,e30,e53,e14,⟨12,80,.val ty_0 false,false⟩,⟨13,96,.val ty_0 false,false⟩]
noncomputable def q34f1(k:Nat)(n:Nat)(x4:PTe q34i1):=spec_beOne_L125338 k n x4.1 x4.2.1 x4.2.2.1 x4.2.2.2.1 x4.2.2.2.2.1 x4.2.2.2.2.2.1 x4.2.2.2.2.2.2.1 x4.2.2.2.2.2.2.2.1
def q34i2:List PE := [e52,e30,e53,e54,e55]
def q34o2:List PE := [⟨4,16,.eat ty_0,false⟩]
noncomputable def q34f2(k:Nat)(n:Nat)(x7:PTe q34i2):=spec_beOne_L122 k n x7.1 x7.2.1 x7.2.2.1 x7.2.2.2.1 x7.2.2.2.2.1
def q34p:List PE := [e8]
noncomputable def q34F(k:Nat):F3:=⟨q34C k,rr q34p [(ty_7,false)] Try.f88,fun p=>bif Nat.beq p 125338 then some (.loop q34i1 q34o1 2 144 (q34f1 k k))else bif Nat.beq p 122 then some (.loop q34i2 q34o2 0 96 (q34f2 k k))else none,0,[]⟩
theorem q34K(k:Nat):Contract Try.prog 88 (q34V k):=ctr (q34C k) (rs := [(ty_7,false)]) (ps:=q34p) (q34F k) Try.f88 16 ⟨tyOf_ok tys_ok,gOf_ok ⟨q30K k,q33K,trivial⟩⟩ (annl [122,125338] ⟨lok q34i2 q34o2 0 96 (q34f2 k) k,lok q34i1 q34o1 2 144 (q34f1 k) k,trivial⟩)

noncomputable def q35V(k:Nat):Variant:=⟨[.own ty_0,.val ty_7 false],[],fun x=>spec_beLine k x.1 x.2.1⟩
noncomputable def q35C(k:Nat):Cfg:=⟨Try.prog,tyOf tys,39,gOf [(88,[],q34V k)],false,[],[]⟩
def q35i1:List PE := [e56,e57,e53,⟨9,64,.val ty_7 false,false⟩,⟨10,80,.val ty_0 false,false⟩,⟨11,96,.val ty_0 false,false⟩]
def q35o1:List PE := [e56,e57,e53]
noncomputable def q35f1(k:Nat)(n:Nat)(x1:PTe q35i1):=spec_beLine_L26 k n x1.1 x1.2.1 x1.2.2.1 x1.2.2.2.1 x1.2.2.2.2.1 x1.2.2.2.2.2.1
def q35i2:List PE := [e56,e57,⟨24,48,.eat ty_0,false⟩,⟨25,64,.val ty_0 false,false⟩,⟨26,80,.val ty_0 false,false⟩]
def q35o2:List PE := [e56]
noncomputable def q35f2(k:Nat)(n:Nat)(x5:PTe q35i2):=spec_beLine_L30 k n x5.1 x5.2.1 x5.2.2.1 x5.2.2.2.1 x5.2.2.2.2.1
def q35p:List PE := [e56,e33]
noncomputable def q35F(k:Nat):F3:=⟨q35C k,rr q35p [] Try.f70,fun p=>bif Nat.beq p 26 then some (.loop q35i1 q35o1 0 112 (q35f1 k k))else bif Nat.beq p 30 then some (.loop q35i2 q35o2 2 96 (q35f2 k k))else none,0,[0]⟩
theorem q35K(k:Nat):Contract Try.prog 70 (q35V k):=ctr (q35C k) (rs := []) (ps:=q35p) (q35F k) Try.f70 32 ⟨tyOf_ok tys_ok,gOf_ok ⟨q34K k,trivial⟩⟩ (annl [26,30] ⟨lok q35i1 q35o1 0 112 (q35f1 k) k,lok q35i2 q35o2 2 96 (q35f2 k) k,trivial⟩)

noncomputable def q36V(k:Nat):Variant:=⟨[.val ty_4 false,.val ty_7 false,.val ty_7 false,.val ty_0 false],[(ty_7,false),(ty_7,false)],fun x=>spec_beList k x.1 x.2.1 x.2.2.1 x.2.2.2.1⟩
noncomputable def q36C(k:Nat):Cfg:=⟨Try.prog,tyOf tys,130,gOf [(68,[],q32V k),(69,[],q29V),(70,[],q35V k)],false,[],[]⟩
def q36i1:List PE := [e50,e51,e58,e59,⟨14,128,.eat ty_0,false⟩,⟨15,144,.val ty_0 false,false⟩]
def q36o1:List PE := [e50,e51,e58,e59,⟨14,128,.eat ty_0,false⟩]
noncomputable def q36f1(k:Nat)(n:Nat)(x3:PTe q36i1):=spec_beList_L954954 k n x3.1 x3.2.1 x3.2.2.1 x3.2.2.2.1 x3.2.2.2.2.1 x3.2.2.2.2.2.1
def q36i2:List PE := [e50,e51,e58,e59]
def q36o2:List PE := [e50,e51,e58]
noncomputable def q36f2(k:Nat)(n:Nat)(x7:PTe q36i2):=spec_beList_L3730 k n x7.1 x7.2.1 x7.2.2.1 x7.2.2.2.1
def q36i3:List PE := [e50,e51,e58]
def q36o3:List PE := [e50,e51]
noncomputable def q36f3(k:Nat)(n:Nat)(x10:PTe q36i3):=spec_beList_L58 k n x10.1 x10.2.1 x10.2.2.1
def q36i4:List PE := [e50,e51,e60,e61,⟨18,128,.eat ty_0,false⟩,⟨19,144,.val ty_0 false,false⟩]
def q36o4:List PE := [e50,e51,e60,e61,⟨18,128,.eat ty_0,false⟩]
noncomputable def q36f4(k:Nat)(n:Nat)(x14:PTe q36i4):=spec_beList_L2003530 k n x14.1 x14.2.1 x14.2.2.1 x14.2.2.2.1 x14.2.2.2.2.1 x14.2.2.2.2.2.1
def q36i5:List PE := [e50,e51,e60,e61]
def q36o5:List PE := [e50,e51,e60]
noncomputable def q36f5(k:Nat)(n:Nat)(x18:PTe q36i5):=spec_beList_L7826 k n x18.1 x18.2.1 x18.2.2.1 x18.2.2.2.1
def q36i6:List PE := [e50,e51,e60]
def q36o6:List PE := [e50,e51]
noncomputable def q36f6(k:Nat)(n:Nat)(x21:PTe q36i6):=spec_beList_L122 k n x21.1 x21.2.1 x21.2.2.1
def q36i7:List PE := [e50,e51,e62,e63,⟨22,128,.eat ty_0,false⟩,⟨23,144,.val ty_0 false,false⟩]
def q36o7:List PE := [e50,e51,e62,e63,⟨22,128,.eat ty_0,false⟩]
noncomputable def q36f7(k:Nat)(n:Nat)(x25:PTe q36i7):=spec_beList_L4100682 k n x25.1 x25.2.1 x25.2.2.1 x25.2.2.2.1 x25.2.2.2.2.1 x25.2.2.2.2.2.1
def q36i8:List PE := [e50,e51,e62,e63]
def q36o8:List PE := [e50,e51,e62]
noncomputable def q36f8(k:Nat)(n:Nat)(x29:PTe q36i8):=spec_beList_L16018 k n x29.1 x29.2.1 x29.2.2.1 x29.2.2.2.1
def q36i9:List PE := [e50,e51,e62]
def q36o9:List PE := [e50,e51]
noncomputable def q36f9(k:Nat)(n:Nat)(x32:PTe q36i9):=spec_beList_L250 k n x32.1 x32.2.1 x32.2.2.1
def q36p:List PE := [e1,e33,e34,e37]
noncomputable def q36F(k:Nat):Fn ((List Int)×List Int):=⟨q36C k,rr q36p [(ty_7,false),(ty_7,false)] Try.f52,fun p=>bif Nat.beq p 954954 then some (.loop q36i1 q36o1 4 160 (q36f1 k k))else bif Nat.beq p 3730 then some (.loop q36i2 q36o2 2 128 (q36f2 k k))else bif Nat.beq p 58 then some (.loop q36i3 q36o3 0 112 (q36f3 k k))else bif Nat.beq p 2003530 then some (.loop q36i4 q36o4 10 160 (q36f4 k k))else bif Nat.beq p 7826 then some (.loop q36i5 q36o5 8 128 (q36f5 k k))else bif Nat.beq p 122 then some (.loop q36i6 q36o6 6 112 (q36f6 k k))else bif Nat.beq p 4100682 then some (.loop q36i7 q36o7 16 160 (q36f7 k k))else bif Nat.beq p 16018 then some (.loop q36i8 q36o8 14 128 (q36f8 k k))else bif Nat.beq p 250 then some (.loop q36i9 q36o9 12 112 (q36f9 k k))else none,0,[]⟩
theorem q36K(k:Nat):Contract Try.prog 52 (q36V k):=ctr (q36C k) (rs := [(ty_7,false),(ty_7,false)]) (ps:=q36p) (q36F k) Try.f52 64 ⟨tyOf_ok tys_ok,gOf_ok ⟨q32K k,q29K,q35K k,trivial⟩⟩ (annl [58,3730,954954,122,7826,2003530,250,16018,4100682] ⟨lok q36i3 q36o3 0 112 (q36f3 k) k,lok q36i2 q36o2 2 128 (q36f2 k) k,lok q36i1 q36o1 4 160 (q36f1 k) k,lok q36i6 q36o6 6 112 (q36f6 k) k,lok q36i5 q36o5 8 128 (q36f5 k) k,lok q36i4 q36o4 10 160 (q36f4 k) k,lok q36i9 q36o9 12 112 (q36f9 k) k,lok q36i8 q36o8 14 128 (q36f8 k) k,lok q36i7 q36o7 16 160 (q36f7 k) k,trivial⟩)

noncomputable def q37V(k:Nat):Variant:=⟨[.val ty_7 false],[(ty_0,false)],fun x=>spec_beSign k x.1⟩
noncomputable def q37C(k:Nat):Cfg:=⟨Try.prog,tyOf tys,22,gOf [(71,[],q14V)],false,[],[]⟩
def q37i1:List PE := [e35,⟨10,32,.val ty_7 false,false⟩,⟨11,48,.val ty_0 false,false⟩,e54]
def q37o1:List PE := [e35]
noncomputable def q37f1(k:Nat)(n:Nat)(x3:PTe q37i1):=spec_beSign_L58 k n x3.1 x3.2.1 x3.2.2.1 x3.2.2.2.1
def q37p:List PE := [e8]
noncomputable def q37F(k:Nat):F1:=⟨q37C k,rr q37p [(ty_0,false)] Try.f53,fun p=>bif Nat.beq p 58 then some (.loop q37i1 q37o1 0 80 (q37f1 k k))else none,0,[]⟩
theorem q37K(k:Nat):Contract Try.prog 53 (q37V k):=ctr (q37C k) (rs := [(ty_0,false)]) (ps:=q37p) (q37F k) Try.f53 16 ⟨tyOf_ok tys_ok,gOf_ok ⟨q14K,trivial⟩⟩ (annl [58] ⟨lok q37i1 q37o1 0 80 (q37f1 k) k,trivial⟩)

noncomputable def q38V(k:Nat):Variant:=⟨[.val ty_4 false,.val ty_9 true,.val ty_0 false,.val .bool false],[(ty_0,false)],fun x=>spec_miFace k x.1 x.2.1 x.2.2.1 x.2.2.2.1⟩
noncomputable def q38C(k:Nat):Cfg:=⟨Try.prog,tyOf tys,45,gOf [(51,[],q24V),(52,[],q36V k),(53,[],q37V k)],false,[],[]⟩
def q38p:List PE := [e1,e31,e21,⟨3,48,.val .bool false,false⟩]
noncomputable def q38F(k:Nat):F1:=⟨q38C k,rr q38p [(ty_0,false)] Try.f33,fun p=>bif Nat.beq p 14 then some (.cut [e38,⟨2,80,.val ty_0 false,false⟩,⟨5,96,.box ty_9 false,false⟩,⟨9,112,.eat ty_0,false⟩,e39] 144)else none,0,[]⟩
theorem q38K(k:Nat):Contract Try.prog 33 (q38V k):=ctr (q38C k) (rs := [(ty_0,false)]) (ps:=q38p) (q38F k) Try.f33 64 ⟨tyOf_ok tys_ok,gOf_ok ⟨q24K,q36K k,q37K k,trivial⟩⟩ (annl [] trivial)

noncomputable def q39V(k:Nat):Variant:=⟨[.val ty_5 false,.val ty_9 true],[(ty_10,false),(.bool,false)],fun x=>spec_FaceSigns k x.1 x.2.1⟩
noncomputable def q39C(k:Nat):Cfg:=⟨Try.prog,tyOf tys,44,gOf [(45,[],q23V k),(33,[],q38V k)],false,[],[]⟩
def q39i1:List PE := [e3,e64,e65,⟨8,80,.val ty_4 false,false⟩,⟨9,96,.eat ty_0,false⟩,⟨15,112,.val ty_5 false,false⟩,⟨16,128,.val ty_0 false,false⟩,⟨17,144,.val ty_0 false,false⟩,⟨22,160,.val ty_0 false,false⟩,⟨23,176,.val ty_0 false,false⟩]
def q39o1:List PE := [e3,e64,e65,⟨9,80,.eat ty_0,false⟩,⟨15,96,.val ty_5 false,false⟩,⟨16,112,.val ty_0 false,false⟩,⟨17,128,.val ty_0 false,false⟩]
noncomputable def q39f1(k:Nat)(n:Nat)(x4:PTe q39i1):=spec_FaceSigns_L125338 k n x4.1 x4.2.1 x4.2.2.1 x4.2.2.2.1 x4.2.2.2.2.1 x4.2.2.2.2.2.1 x4.2.2.2.2.2.2.1 x4.2.2.2.2.2.2.2.1 x4.2.2.2.2.2.2.2.2.1 x4.2.2.2.2.2.2.2.2.2.1
def q39i2:List PE := [e3,e64,e65,⟨15,80,.val ty_5 false,false⟩,e60,e61]
def q39o2:List PE := [e66]
noncomputable def q39f2(k:Nat)(n:Nat)(x7:PTe q39i2):=spec_FaceSigns_L122 k n x7.1 x7.2.1 x7.2.2.1 x7.2.2.2.1 x7.2.2.2.2.1 x7.2.2.2.2.2.1
def q39p:List PE := [e7,e31]
noncomputable def q39F(k:Nat):Fn ((List (List Int))×Bool):=⟨q39C k,rr q39p [(ty_10,false),(.bool,false)] Try.f22,fun p=>bif Nat.beq p 125338 then some (.loop q39i1 q39o1 2 192 (q39f1 k k))else bif Nat.beq p 122 then some (.loop q39i2 q39o2 0 128 (q39f2 k k))else none,0,[]⟩
theorem q39K(k:Nat):Contract Try.prog 22 (q39V k):=ctr (q39C k) (rs := [(ty_10,false),(.bool,false)]) (ps:=q39p) (q39F k) Try.f22 32 ⟨tyOf_ok tys_ok,gOf_ok ⟨q23K k,q38K k,trivial⟩⟩ (annl [122,125338] ⟨lok q39i2 q39o2 0 128 (q39f2 k) k,lok q39i1 q39o1 2 192 (q39f1 k) k,trivial⟩)

noncomputable def q40V:Variant:=⟨[.val ty_0 false,.val ty_0 false,.val ty_0 false],[(.bool,false)],fun x=>impl_inside x.1 x.2.1 x.2.2.1⟩
noncomputable def q40C:Cfg:=⟨Try.prog,tyOf tys,15,gOf [],false,[],[]⟩
def q40p:List PE := [e10,e2,e21]
noncomputable def q40F:F2:=⟨q40C,rr q40p [(.bool,false)] Try.f55,fun p=>none,0,[]⟩
theorem q40K:Contract Try.prog 55 (q40V):=ctr q40C (rs := [(.bool,false)]) (ps:=q40p) q40F Try.f55 48 ⟨tyOf_ok tys_ok,gOf_ok trivial⟩ (annl [] trivial)

noncomputable def q41V:Variant:=⟨[.val ty_3 true],[(ty_0,false)],fun x=>impl_Term_degree x.1⟩
noncomputable def q41C:Cfg:=⟨Try.prog,tyOf tys,11,gOf [],false,[],[]⟩
def q41p:List PE := [e11]
noncomputable def q41F:F1:=⟨q41C,rr q41p [(ty_0,false)] Try.f80,fun p=>none,0,[]⟩
theorem q41K:Contract Try.prog 80 (q41V):=ctr q41C (rs := [(ty_0,false)]) (ps:=q41p) q41F Try.f80 16 ⟨tyOf_ok tys_ok,gOf_ok trivial⟩ (annl [] trivial)

noncomputable def q42V:Variant:=⟨[.val ty_3 true],[(.bool,false)],fun x=>impl_hasDegree x.1⟩
noncomputable def q42C:Cfg:=⟨Try.prog,tyOf tys,21,gOf [(55,[],q40V),(80,[],q41V)],false,[],[]⟩
def q42p:List PE := [e11]
noncomputable def q42F:F2:=⟨q42C,rr q42p [(.bool,false)] Try.f89,fun p=>none,0,[]⟩
theorem q42K:Contract Try.prog 89 (q42V):=ctr q42C (rs := [(.bool,false)]) (ps:=q42p) q42F Try.f89 16 ⟨tyOf_ok tys_ok,gOf_ok ⟨q40K,q41K,trivial⟩⟩ (annl [] trivial)

noncomputable def q43V:Variant:=⟨[.val ty_0 false],[(.bool,false)],fun x=>cmp_isNaN_int x.1⟩
noncomputable def q43C:Cfg:=⟨Try.prog,tyOf tys,6,gOf [],false,[],[]⟩
def q43p:List PE := [e10]
noncomputable def q43F:F2:=⟨q43C,rr q43p [(.bool,false)] Try.f95,fun p=>none,0,[]⟩
theorem q43K:Contract Try.prog 95 (q43V):=ctr q43C (rs := [(.bool,false)]) (ps:=q43p) q43F Try.f95 16 ⟨tyOf_ok tys_ok,gOf_ok trivial⟩ (annl [] trivial)

noncomputable def q44V:Variant:=⟨[.val ty_0 false,.val ty_0 false],[(ty_0,false)],fun x=>cmp_Compare_int x.1 x.2.1⟩
noncomputable def q44C:Cfg:=⟨Try.prog,tyOf tys,20,gOf [(95,[],q43V)],false,[],[]⟩
def q44p:List PE := [e10,e2]
noncomputable def q44F:F1:=⟨q44C,rr q44p [(ty_0,false)] Try.f94,fun p=>none,0,[]⟩
theorem q44K:Contract Try.prog 94 (q44V):=ctr q44C (rs := [(ty_0,false)]) (ps:=q44p) q44F Try.f94 32 ⟨tyOf_ok tys_ok,gOf_ok ⟨q43K,trivial⟩⟩ (annl [] trivial)

noncomputable def q45V(k:Nat):Variant:=⟨[.val ty_7 false],[(ty_0,false)],fun x=>cmp_Or_int k x.1⟩
noncomputable def q45C(k:Nat):Cfg:=⟨Try.prog,tyOf tys,18,gOf [],false,[],[]⟩
def q45i1:List PE := [e35,⟨6,32,.val ty_7 false,false⟩,e28,e29]
def q45o1:List PE := [e35]
noncomputable def q45f1(k:Nat)(n:Nat)(x1:PTe q45i1):=cmp_Or_int_L58 k n x1.1 x1.2.1 x1.2.2.1 x1.2.2.2.1
def q45p:List PE := [e8]
noncomputable def q45F(k:Nat):F1:=⟨q45C k,rr q45p [(ty_0,false)] Try.f93,fun p=>bif Nat.beq p 58 then some (.loop q45i1 q45o1 0 80 (q45f1 k k))else none,0,[]⟩
theorem q45K(k:Nat):Contract Try.prog 93 (q45V k):=ctr (q45C k) (rs := [(ty_0,false)]) (ps:=q45p) (q45F k) Try.f93 16 ⟨tyOf_ok tys_ok,gOf_ok trivial⟩ (annl [58] ⟨lok q45i1 q45o1 0 80 (q45f1 k) k,trivial⟩)

noncomputable def q46V(k:Nat):Variant:=⟨[.val ty_3 true,.val ty_3 true],[(ty_0,false)],fun x=>impl_compareTerms k x.1 x.2.1⟩
noncomputable def q46C(k:Nat):Cfg:=⟨Try.prog,tyOf tys,22,gOf [(94,[],q44V),(93,[],q45V k)],false,[],[]⟩
def q46p:List PE := [e11,e22]
noncomputable def q46F(k:Nat):F1:=⟨q46C k,rr q46p [(ty_0,false)] Try.f90,fun p=>none,0,[]⟩
theorem q46K(k:Nat):Contract Try.prog 90 (q46V k):=ctr (q46C k) (rs := [(ty_0,false)]) (ps:=q46p) (q46F k) Try.f90 32 ⟨tyOf_ok tys_ok,gOf_ok ⟨q44K,q45K k,trivial⟩⟩ (annl [] trivial)

noncomputable def q47V(k:Nat):Variant:=⟨[.val ty_4 false],[(.bool,false)],fun x=>impl_isPoly k x.1⟩
noncomputable def q47C(k:Nat):Cfg:=⟨Try.prog,tyOf tys,44,gOf [(55,[],q40V),(89,[],q42V),(90,[],q46V k)],false,[],[]⟩
def q47i1:List PE := [e23,⟨5,32,.val ty_4 false,false⟩,e24,e15]
def q47o1:List PE := [e23]
noncomputable def q47f1(k:Nat)(n:Nat)(x4:PTe q47i1):=impl_isPoly_L26 k n x4.1 x4.2.1 x4.2.2.1 x4.2.2.2.1
def q47p:List PE := [e1]
noncomputable def q47F(k:Nat):F2:=⟨q47C k,rr q47p [(.bool,false)] Try.f72,fun p=>bif Nat.beq p 26 then some (.loop q47i1 q47o1 0 80 (q47f1 k k))else none,0,[]⟩
theorem q47K(k:Nat):Contract Try.prog 72 (q47V k):=ctr (q47C k) (rs := [(.bool,false)]) (ps:=q47p) (q47F k) Try.f72 16 ⟨tyOf_ok tys_ok,gOf_ok ⟨q40K,q42K,q46K k,trivial⟩⟩ (annl [26] ⟨lok q47i1 q47o1 0 80 (q47f1 k) k,trivial⟩)

noncomputable def q48V:Variant:=⟨[.val ty_3 true],[(ty_2,true)],fun x=>impl_Term_exponents x.1⟩
noncomputable def q48C:Cfg:=⟨Try.prog,tyOf tys,10,gOf [],false,[],[]⟩
def q48p:List PE := [e11]
noncomputable def q48F:Fn (Int×Int×Int):=⟨q48C,rr q48p [(ty_2,true)] Try.f79,fun p=>none,0,[]⟩
theorem q48K:Contract Try.prog 79 (q48V):=ctr q48C (rs := [(ty_2,true)]) (ps:=q48p) q48F Try.f79 16 ⟨tyOf_ok tys_ok,gOf_ok trivial⟩ (annl [] trivial)

noncomputable def q49V(k:Nat):Variant:=⟨[.val ty_4 false,.val ty_0 false],[(.bool,false)],fun x=>impl_needsAtMost k x.1 x.2.1⟩
noncomputable def q49C(k:Nat):Cfg:=⟨Try.prog,tyOf tys,30,gOf [(79,[],q48V)],false,[],[]⟩
def q49i1:List PE := [e6,e67,e68,e69,⟨16,96,.val ty_2 true,false⟩,e61]
def q49o1:List PE := [e6,e67,e68,e69]
noncomputable def q49f1(k:Nat)(n:Nat)(x2:PTe q49i1):=impl_needsAtMost_L6758 k n x2.1 x2.2.1 x2.2.2.1 x2.2.2.2.1 x2.2.2.2.2.1 x2.2.2.2.2.2.1
def q49i2:List PE := [e6,e67,e68,e69]
def q49o2:List PE := []
noncomputable def q49f2(k:Nat)(n:Nat)(x5:PTe q49i2):=impl_needsAtMost_L26 k n x5.1 x5.2.1 x5.2.2.1 x5.2.2.2.1
def q49p:List PE := [e1,e2]
noncomputable def q49F(k:Nat):F2:=⟨q49C k,rr q49p [(.bool,false)] Try.f73,fun p=>bif Nat.beq p 6758 then some (.loop q49i1 q49o1 2 128 (q49f1 k k))else bif Nat.beq p 26 then some (.loop q49i2 q49o2 0 96 (q49f2 k k))else none,0,[]⟩
theorem q49K(k:Nat):Contract Try.prog 73 (q49V k):=ctr (q49C k) (rs := [(.bool,false)]) (ps:=q49p) (q49F k) Try.f73 32 ⟨tyOf_ok tys_ok,gOf_ok ⟨q48K,trivial⟩⟩ (annl [26,6758] ⟨lok q49i2 q49o2 0 96 (q49f2 k) k,lok q49i1 q49o1 2 128 (q49f1 k) k,trivial⟩)

noncomputable def q50V(k:Nat):Variant:=⟨[.val ty_5 false],[(.bool,false)],fun x=>impl_isSystem k x.1⟩
noncomputable def q50C(k:Nat):Cfg:=⟨Try.prog,tyOf tys,25,gOf [(72,[],q47V k),(73,[],q49V k),(55,[],q40V)],false,[],[]⟩
def q50i1:List PE := [e27,⟨5,32,.val ty_5 false,false⟩,e24,e15]
def q50o1:List PE := [e27]
noncomputable def q50f1(k:Nat)(n:Nat)(x3:PTe q50i1):=impl_isSystem_L26 k n x3.1 x3.2.1 x3.2.2.1 x3.2.2.2.1
def q50p:List PE := [e7]
noncomputable def q50F(k:Nat):F2:=⟨q50C k,rr q50p [(.bool,false)] Try.f61,fun p=>bif Nat.beq p 26 then some (.loop q50i1 q50o1 0 80 (q50f1 k k))else none,0,[]⟩
theorem q50K(k:Nat):Contract Try.prog 61 (q50V k):=ctr (q50C k) (rs := [(.bool,false)]) (ps:=q50p) (q50F k) Try.f61 16 ⟨tyOf_ok tys_ok,gOf_ok ⟨q47K k,q49K k,q40K,trivial⟩⟩ (annl [26] ⟨lok q50i1 q50o1 0 80 (q50f1 k) k,trivial⟩)

noncomputable def q51V(k:Nat):Variant:=⟨[.ptr ty_9 false],[(.bool,false)],fun x=>impl_isBox k x.1⟩
noncomputable def q51C(k:Nat):Cfg:=⟨Try.prog,tyOf tys,94,gOf [(55,[],q40V)],false,[],[]⟩
def q51i1:List PE := [⟨0,16,.ptr ty_9 false,false⟩,e30,⟨4,48,.val .bool false,false⟩,⟨48,64,.val ty_7 false,false⟩,⟨49,80,.val ty_0 false,false⟩,⟨50,96,.val ty_0 false,false⟩]
def q51o1:List PE := [⟨4,16,.val .bool false,false⟩]
noncomputable def q51f1(k:Nat)(n:Nat)(x5:PTe q51i1):=impl_isBox_L122 k n x5.1 x5.2.1 x5.2.2.1 x5.2.2.2.1 x5.2.2.2.2.1 x5.2.2.2.2.2.1
def q51p:List PE := [⟨0,0,.ptr ty_9 false,false⟩]
noncomputable def q51F(k:Nat):F2:=⟨q51C k,rr q51p [(.bool,false)] Try.f62,fun p=>bif Nat.beq p 122 then some (.loop q51i1 q51o1 0 112 (q51f1 k k))else none,0,[]⟩
theorem q51K(k:Nat):Contract Try.prog 62 (q51V k):=ctr (q51C k) (rs := [(.bool,false)]) (ps:=q51p) (q51F k) Try.f62 16 ⟨tyOf_ok tys_ok,gOf_ok ⟨q40K,trivial⟩⟩ (annl [122] ⟨lok q51i1 q51o1 0 112 (q51f1 k) k,trivial⟩)

noncomputable def q52V(k:Nat):Variant:=⟨[.val ty_5 false,.ptr ty_9 false],[(.bool,false)],fun x=>impl_systemOver k x.1 x.2.1⟩
noncomputable def q52C(k:Nat):Cfg:=⟨Try.prog,tyOf tys,21,gOf [(61,[],q50V k),(62,[],q51V k)],false,[],[]⟩
def q52p:List PE := [e7,⟨1,16,.ptr ty_9 false,false⟩]
noncomputable def q52F(k:Nat):F2:=⟨q52C k,rr q52p [(.bool,false)] Try.f46,fun p=>none,0,[]⟩
theorem q52K(k:Nat):Contract Try.prog 46 (q52V k):=ctr (q52C k) (rs := [(.bool,false)]) (ps:=q52p) (q52F k) Try.f46 32 ⟨tyOf_ok tys_ok,gOf_ok ⟨q50K k,q51K k,trivial⟩⟩ (annl [] trivial)

noncomputable def q53V:Variant:=⟨[.val ty_7 false],[(ty_7,false)],fun x=>slices_Clone_int_int x.1⟩
noncomputable def q53C:Cfg:=⟨Try.prog,tyOf tys,8,gOf [],false,[],[]⟩
def q53p:List PE := [e8]
noncomputable def q53F:F3:=⟨q53C,rr q53p [(ty_7,false)] Try.f56,fun p=>none,0,[]⟩
theorem q53eq(x:PTe q53p):evFnN false (q53F) (codeOf Try.f56) q53p 16 x=slices_Clone_int_int x.1:=by kernel_rfl
theorem q53e0(x:(Unit)):evFnN true (q53F) (codeOf Try.f56) q53p 16 (([]:List Int),x)=slices_Clone_int_int []:=by kernel_rfl
theorem q53K:Contract Try.prog 56 (q53V) :=
 contractN (C:=q53C) (F:=q53F) (fn:=Try.f56) (ps:=q53p) (rs := [(ty_7,false)]) (nx:=16) rfl ⟨tyOf_ok tys_ok,gOf_ok trivial⟩ rfl (by kernel_rfl) (by kernel_rfl) (by kernel_rfl) (by kernel_rfl) (by kernel_rfl) (by kernel_rfl) rfl (by kernel_rfl) (by kernel_rfl) (AnnOk_list [] (by kernel_rfl) trivial) mix_ok (q53eq) (fun x h=>by obtain⟨x1,x2⟩:=x;have h:x1 = []:=h;subst h;exact q53e0 x2)

noncomputable def q54V(k:Nat):Variant:=⟨[.val ty_4 false,.val ty_0 false],[(ty_7,false)],fun x=>impl_degreesOf k x.1 x.2.1⟩
noncomputable def q54C(k:Nat):Cfg:=⟨Try.prog,tyOf tys,41,gOf [(79,[],q48V)],false,[],[]⟩
def q54i1:List PE := [e6,e20,e70,e71,e72,⟨22,112,.val ty_7 false,false⟩,⟨23,128,.val ty_0 false,false⟩,e73]
def q54o1:List PE := [e6,e20,e70,e71,e72]
noncomputable def q54f1(k:Nat)(n:Nat)(x2:PTe q54i1):=impl_degreesOf_L29902 k n x2.1 x2.2.1 x2.2.2.1 x2.2.2.2.1 x2.2.2.2.2.1 x2.2.2.2.2.2.1 x2.2.2.2.2.2.2.1 x2.2.2.2.2.2.2.2.1
def q54i2:List PE := [e6,e20,e70,e71,e72]
def q54o2:List PE := [⟨5,32,.eat ty_0,false⟩]
noncomputable def q54f2(k:Nat)(n:Nat)(x5:PTe q54i2):=impl_degreesOf_L58 k n x5.1 x5.2.1 x5.2.2.1 x5.2.2.2.1 x5.2.2.2.2.1
def q54p:List PE := [e1,e2]
noncomputable def q54F(k:Nat):F3:=⟨q54C k,rr q54p [(ty_7,false)] Try.f76,fun p=>bif Nat.beq p 29902 then some (.loop q54i1 q54o1 2 160 (q54f1 k k))else bif Nat.beq p 58 then some (.loop q54i2 q54o2 0 112 (q54f2 k k))else none,0,[]⟩
theorem q54K(k:Nat):Contract Try.prog 76 (q54V k):=ctr (q54C k) (rs := [(ty_7,false)]) (ps:=q54p) (q54F k) Try.f76 32 ⟨tyOf_ok tys_ok,gOf_ok ⟨q48K,trivial⟩⟩ (annl [58,29902] ⟨lok q54i2 q54o2 0 112 (q54f2 k) k,lok q54i1 q54o1 2 160 (q54f1 k) k,trivial⟩)

noncomputable def q55V(k:Nat):Variant:=⟨[.val ty_4 false],[(ty_0,false)],fun x=>impl_degreeOf k x.1⟩
noncomputable def q55C(k:Nat):Cfg:=⟨Try.prog,tyOf tys,18,gOf [(80,[],q41V)],false,[],[]⟩
def q55i1:List PE := [e35,⟨6,32,.val ty_4 false,false⟩,e28,e29]
def q55o1:List PE := [e35]
noncomputable def q55f1(k:Nat)(n:Nat)(x2:PTe q55i1):=impl_degreeOf_L58 k n x2.1 x2.2.1 x2.2.2.1 x2.2.2.2.1
def q55p:List PE := [e1]
noncomputable def q55F(k:Nat):F1:=⟨q55C k,rr q55p [(ty_0,false)] Try.f77,fun p=>bif Nat.beq p 58 then some (.loop q55i1 q55o1 0 80 (q55f1 k k))else none,0,[]⟩
theorem q55K(k:Nat):Contract Try.prog 77 (q55V k):=ctr (q55C k) (rs := [(ty_0,false)]) (ps:=q55p) (q55F k) Try.f77 16 ⟨tyOf_ok tys_ok,gOf_ok ⟨q41K,trivial⟩⟩ (annl [58] ⟨lok q55i1 q55o1 0 80 (q55f1 k) k,trivial⟩)

noncomputable def q56V(k:Nat):Variant:=⟨[.val ty_7 false],[(ty_10,false)],fun x=>impl_places k x.1⟩
noncomputable def q56C(k:Nat):Cfg:=⟨Try.prog,tyOf tys,41,gOf [(56,[],q53V)],false,[],[]⟩
def q56i1:List PE := [e74,e66,⟨8,48,.val ty_7 false,false⟩,⟨11,64,.val ty_7 false,false⟩,⟨12,80,.val ty_0 false,false⟩,⟨13,96,.val ty_0 false,false⟩,⟨17,112,.val ty_10 false,false⟩,⟨18,128,.val ty_0 false,false⟩,⟨19,144,.val ty_0 false,false⟩,⟨24,160,.val ty_0 false,false⟩,⟨25,176,.val ty_0 false,false⟩]
def q56o1:List PE := [e74,e66,⟨11,48,.val ty_7 false,false⟩,e54,e55,⟨17,96,.val ty_10 false,false⟩,⟨18,112,.val ty_0 false,false⟩,⟨19,128,.val ty_0 false,false⟩]
noncomputable def q56f1(k:Nat)(n:Nat)(x2:PTe q56i1):=impl_places_L15309414 k n x2.1 x2.2.1 x2.2.2.1 x2.2.2.2.1 x2.2.2.2.2.1 x2.2.2.2.2.2.1 x2.2.2.2.2.2.2.1 x2.2.2.2.2.2.2.2.1 x2.2.2.2.2.2.2.2.2.1 x2.2.2.2.2.2.2.2.2.2.1 x2.2.2.2.2.2.2.2.2.2.2.1
def q56i2:List PE := [e74,e66,⟨11,48,.val ty_7 false,false⟩,e54,e55,⟨17,96,.val ty_10 false,false⟩,⟨18,112,.val ty_0 false,false⟩,⟨19,128,.val ty_0 false,false⟩]
def q56o2:List PE := [⟨6,16,.eat ty_7,false⟩,⟨11,32,.val ty_7 false,false⟩,⟨12,48,.val ty_0 false,false⟩,⟨13,64,.val ty_0 false,false⟩]
noncomputable def q56f2(k:Nat)(n:Nat)(x5:PTe q56i2):=impl_places_L59802 k n x5.1 x5.2.1 x5.2.2.1 x5.2.2.2.1 x5.2.2.2.2.1 x5.2.2.2.2.2.1 x5.2.2.2.2.2.2.1 x5.2.2.2.2.2.2.2.1
def q56i3:List PE := [⟨3,16,.eat ty_7,false⟩,⟨11,32,.val ty_7 false,false⟩,⟨12,48,.val ty_0 false,false⟩,⟨13,64,.val ty_0 false,false⟩]
def q56o3:List PE := [⟨3,16,.eat ty_7,false⟩]
noncomputable def q56f3(k:Nat)(n:Nat)(x8:PTe q56i3):=impl_places_L58 k n x8.1 x8.2.1 x8.2.2.1 x8.2.2.2.1
def q56p:List PE := [e8]
noncomputable def q56F(k:Nat):Fn (List (List Int)):=⟨q56C k,rr q56p [(ty_10,false)] Try.f78,fun p=>bif Nat.beq p 15309414 then some (.loop q56i1 q56o1 4 192 (q56f1 k k))else bif Nat.beq p 59802 then some (.loop q56i2 q56o2 2 144 (q56f2 k k))else bif Nat.beq p 58 then some (.loop q56i3 q56o3 0 80 (q56f3 k k))else none,0,[]⟩
theorem q56K(k:Nat):Contract Try.prog 78 (q56V k):=ctr (q56C k) (rs := [(ty_10,false)]) (ps:=q56p) (q56F k) Try.f78 16 ⟨tyOf_ok tys_ok,gOf_ok ⟨q53K,trivial⟩⟩ (annl [58,59802,15309414] ⟨lok q56i3 q56o3 0 80 (q56f3 k) k,lok q56i2 q56o2 2 144 (q56f2 k) k,lok q56i1 q56o1 4 192 (q56f1 k) k,trivial⟩)

noncomputable def q57V(k:Nat):Variant:=⟨[.val ty_0 false,.val ty_0 false],[(ty_0,false)],fun x=>impl_choose k x.1 x.2.1⟩
noncomputable def q57C(k:Nat):Cfg:=⟨Try.prog,tyOf tys,21,gOf [],false,[],[]⟩
def q57i1:List PE := [e36,e25,e15,⟨8,80,.val ty_0 false,false⟩]
def q57o1:List PE := [e26]
noncomputable def q57f1(k:Nat)(n:Nat)(x1:PTe q57i1):=impl_choose_L58 k n x1.1 x1.2.1 x1.2.2.1 x1.2.2.2.1
def q57p:List PE := [e10,e2]
noncomputable def q57F(k:Nat):F1:=⟨q57C k,rr q57p [(ty_0,false)] Try.f81,fun p=>bif Nat.beq p 58 then some (.loop q57i1 q57o1 0 96 (q57f1 k k))else none,0,[]⟩
theorem q57K(k:Nat):Contract Try.prog 81 (q57V k):=ctr (q57C k) (rs := [(ty_0,false)]) (ps:=q57p) (q57F k) Try.f81 32 ⟨tyOf_ok tys_ok,gOf_ok trivial⟩ (annl [58] ⟨lok q57i1 q57o1 0 96 (q57f1 k) k,trivial⟩)

noncomputable def q58V:Variant:=⟨[.val ty_0 false],[(ty_0,false)],fun x=>impl_multiple x.1⟩
noncomputable def q58C:Cfg:=⟨Try.prog,tyOf tys,6,gOf [],false,[],[]⟩
def q58p:List PE := [e10]
noncomputable def q58F:F1:=⟨q58C,rr q58p [(ty_0,false)] Try.f82,fun p=>none,0,[]⟩
theorem q58K:Contract Try.prog 82 (q58V):=ctr q58C (rs := [(ty_0,false)]) (ps:=q58p) q58F Try.f82 16 ⟨tyOf_ok tys_ok,gOf_ok trivial⟩ (annl [] trivial)

noncomputable def q59V(k:Nat):Variant:=⟨[.val ty_4 false,.val ty_0 false,.val ty_7 false,.val ty_7 false],[(ty_7,false)],fun x=>impl_bernstein k x.1 x.2.1 x.2.2.1 x.2.2.2.1⟩
noncomputable def q59C(k:Nat):Cfg:=⟨Try.prog,tyOf tys,183,gOf [(76,[],q54V k),(77,[],q55V k),(78,[],q56V k),(79,[],q48V),(80,[],q41V),(81,[],q57V k),(82,[],q58V)],false,[],[]⟩
def q59i1:List PE := [e75,e32,e76,e77,e39,e78,e79,e40,e80,e81,e82,e83,e84,e85,⟨21,288,.val ty_0 false,false⟩,⟨22,304,.val ty_0 false,false⟩,⟨42,320,.val ty_4 false,false⟩,⟨43,336,.val ty_0 false,false⟩,⟨44,352,.val ty_0 false,false⟩,⟨50,368,.val ty_10 false,false⟩,⟨51,384,.val ty_0 false,false⟩,⟨52,400,.val ty_0 false,false⟩,⟨67,416,.val ty_7 false,false⟩,⟨68,432,.val ty_0 false,false⟩,⟨69,448,.val ty_0 false,false⟩,⟨83,464,.val ty_0 false,false⟩,⟨84,480,.val ty_0 false,false⟩]
def q59o1:List PE := [e75,e32,e76,e77,e39,e78,e79,e40,e80,e81,e82,e83,e84,e85,⟨21,288,.val ty_0 false,false⟩,⟨22,304,.val ty_0 false,false⟩,⟨42,320,.val ty_4 false,false⟩,⟨43,336,.val ty_0 false,false⟩,⟨44,352,.val ty_0 false,false⟩,⟨50,368,.val ty_10 false,false⟩,⟨51,384,.val ty_0 false,false⟩,⟨52,400,.val ty_0 false,false⟩,⟨67,416,.val ty_7 false,false⟩,⟨68,432,.val ty_0 false,false⟩,⟨69,448,.val ty_0 false,false⟩]
noncomputable def q59f1(k:Nat)(n:Nat)(x7:PTe q59i1):=impl_bernstein_L543746216762 k n x7.1 x7.2.1 x7.2.2.1 x7.2.2.2.1 x7.2.2.2.2.1 x7.2.2.2.2.2.1 x7.2.2.2.2.2.2.1 x7.2.2.2.2.2.2.2.1 x7.2.2.2.2.2.2.2.2.1 x7.2.2.2.2.2.2.2.2.2.1 x7.2.2.2.2.2.2.2.2.2.2.1 x7.2.2.2.2.2.2.2.2.2.2.2.1 x7.2.2.2.2.2.2.2.2.2.2.2.2.1 x7.2.2.2.2.2.2.2.2.2.2.2.2.2.1 x7.2.2.2.2.2.2.2.2.2.2.2.2.2.2.1 x7.2.2.2.2.2.2.2.2.2.2.2.2.2.2.2.1 x7.2.2.2.2.2.2.2.2.2.2.2.2.2.2.2.2.1 x7.2.2.2.2.2.2.2.2.2.2.2.2.2.2.2.2.2.1 x7.2.2.2.2.2.2.2.2.2.2.2.2.2.2.2.2.2.2.1 x7.2.2.2.2.2.2.2.2.2.2.2.2.2.2.2.2.2.2.2.1 x7.2.2.2.2.2.2.2.2.2.2.2.2.2.2.2.2.2.2.2.2.1 x7.2.2.2.2.2.2.2.2.2.2.2.2.2.2.2.2.2.2.2.2.2.1 x7.2.2.2.2.2.2.2.2.2.2.2.2.2.2.2.2.2.2.2.2.2.2.1 x7.2.2.2.2.2.2.2.2.2.2.2.2.2.2.2.2.2.2.2.2.2.2.2.1 x7.2.2.2.2.2.2.2.2.2.2.2.2.2.2.2.2.2.2.2.2.2.2.2.2.1 x7.2.2.2.2.2.2.2.2.2.2.2.2.2.2.2.2.2.2.2.2.2.2.2.2.2.1 x7.2.2.2.2.2.2.2.2.2.2.2.2.2.2.2.2.2.2.2.2.2.2.2.2.2.2.1
def q59i2:List PE := [e75,e32,e76,e77,e39,e78,e79,e40,e80,e81,e82,e83,e84,e85,⟨42,288,.val ty_4 false,false⟩,⟨43,304,.val ty_0 false,false⟩,⟨44,320,.val ty_0 false,false⟩,⟨50,336,.val ty_10 false,false⟩,⟨51,352,.val ty_0 false,false⟩,⟨52,368,.val ty_0 false,false⟩,⟨67,384,.val ty_7 false,false⟩,⟨68,400,.val ty_0 false,false⟩,⟨69,416,.val ty_0 false,false⟩,⟨100,432,.val ty_0 false,false⟩,⟨101,448,.val ty_0 false,false⟩]
def q59o2:List PE := [e75,e32,e76,e77,e39,e78,e79,e40,e80,e81,e82,e83,e84,⟨42,272,.val ty_4 false,false⟩,⟨43,288,.val ty_0 false,false⟩,⟨44,304,.val ty_0 false,false⟩,⟨50,320,.val ty_10 false,false⟩,⟨51,336,.val ty_0 false,false⟩,⟨52,352,.val ty_0 false,false⟩,⟨67,368,.val ty_7 false,false⟩,⟨68,384,.val ty_0 false,false⟩,⟨69,400,.val ty_0 false,false⟩]
noncomputable def q59f2(k:Nat)(n:Nat)(x10:PTe q59i2):=impl_bernstein_L543746216766 k n x10.1 x10.2.1 x10.2.2.1 x10.2.2.2.1 x10.2.2.2.2.1 x10.2.2.2.2.2.1 x10.2.2.2.2.2.2.1 x10.2.2.2.2.2.2.2.1 x10.2.2.2.2.2.2.2.2.1 x10.2.2.2.2.2.2.2.2.2.1 x10.2.2.2.2.2.2.2.2.2.2.1 x10.2.2.2.2.2.2.2.2.2.2.2.1 x10.2.2.2.2.2.2.2.2.2.2.2.2.1 x10.2.2.2.2.2.2.2.2.2.2.2.2.2.1 x10.2.2.2.2.2.2.2.2.2.2.2.2.2.2.1 x10.2.2.2.2.2.2.2.2.2.2.2.2.2.2.2.1 x10.2.2.2.2.2.2.2.2.2.2.2.2.2.2.2.2.1 x10.2.2.2.2.2.2.2.2.2.2.2.2.2.2.2.2.2.1 x10.2.2.2.2.2.2.2.2.2.2.2.2.2.2.2.2.2.2.1 x10.2.2.2.2.2.2.2.2.2.2.2.2.2.2.2.2.2.2.2.1 x10.2.2.2.2.2.2.2.2.2.2.2.2.2.2.2.2.2.2.2.2.1 x10.2.2.2.2.2.2.2.2.2.2.2.2.2.2.2.2.2.2.2.2.2.1 x10.2.2.2.2.2.2.2.2.2.2.2.2.2.2.2.2.2.2.2.2.2.2.1 x10.2.2.2.2.2.2.2.2.2.2.2.2.2.2.2.2.2.2.2.2.2.2.2.1 x10.2.2.2.2.2.2.2.2.2.2.2.2.2.2.2.2.2.2.2.2.2.2.2.2.1
def q59i3:List PE := [e75,e32,e76,e77,e39,e78,e79,e40,e80,e81,e82,e83,e84,⟨42,272,.val ty_4 false,false⟩,⟨43,288,.val ty_0 false,false⟩,⟨44,304,.val ty_0 false,false⟩,⟨50,320,.val ty_10 false,false⟩,⟨51,336,.val ty_0 false,false⟩,⟨52,352,.val ty_0 false,false⟩,⟨67,368,.val ty_7 false,false⟩,⟨68,384,.val ty_0 false,false⟩,⟨69,400,.val ty_0 false,false⟩]
def q59o3:List PE := [e75,e32,e76,e77,e39,e78,e79,e40,e80,e81,e82,⟨19,240,.val ty_0 false,false⟩,⟨42,256,.val ty_4 false,false⟩,⟨43,272,.val ty_0 false,false⟩,⟨44,288,.val ty_0 false,false⟩,⟨50,304,.val ty_10 false,false⟩,⟨51,320,.val ty_0 false,false⟩,⟨52,336,.val ty_0 false,false⟩]
noncomputable def q59f3(k:Nat)(n:Nat)(x13:PTe q59i3):=impl_bernstein_L265501082 k n x13.1 x13.2.1 x13.2.2.1 x13.2.2.2.1 x13.2.2.2.2.1 x13.2.2.2.2.2.1 x13.2.2.2.2.2.2.1 x13.2.2.2.2.2.2.2.1 x13.2.2.2.2.2.2.2.2.1 x13.2.2.2.2.2.2.2.2.2.1 x13.2.2.2.2.2.2.2.2.2.2.1 x13.2.2.2.2.2.2.2.2.2.2.2.1 x13.2.2.2.2.2.2.2.2.2.2.2.2.1 x13.2.2.2.2.2.2.2.2.2.2.2.2.2.1 x13.2.2.2.2.2.2.2.2.2.2.2.2.2.2.1 x13.2.2.2.2.2.2.2.2.2.2.2.2.2.2.2.1 x13.2.2.2.2.2.2.2.2.2.2.2.2.2.2.2.2.1 x13.2.2.2.2.2.2.2.2.2.2.2.2.2.2.2.2.2.1 x13.2.2.2.2.2.2.2.2.2.2.2.2.2.2.2.2.2.2.1 x13.2.2.2.2.2.2.2.2.2.2.2.2.2.2.2.2.2.2.2.1 x13.2.2.2.2.2.2.2.2.2.2.2.2.2.2.2.2.2.2.2.2.1 x13.2.2.2.2.2.2.2.2.2.2.2.2.2.2.2.2.2.2.2.2.2.1
def q59i4:List PE := [e75,e32,e76,e77,e39,e78,e79,e40,e80,e81,⟨42,224,.val ty_4 false,false⟩,⟨43,240,.val ty_0 false,false⟩,⟨44,256,.val ty_0 false,false⟩,⟨50,272,.val ty_10 false,false⟩,⟨51,288,.val ty_0 false,false⟩,⟨52,304,.val ty_0 false,false⟩]
def q59o4:List PE := [e75,e32,e76,e77,e39,e78,e79,e40,⟨42,192,.val ty_4 false,false⟩,⟨43,208,.val ty_0 false,false⟩,⟨44,224,.val ty_0 false,false⟩]
noncomputable def q59f4(k:Nat)(n:Nat)(x16:PTe q59i4):=impl_bernstein_L259278 k n x16.1 x16.2.1 x16.2.2.1 x16.2.2.2.1 x16.2.2.2.2.1 x16.2.2.2.2.2.1 x16.2.2.2.2.2.2.1 x16.2.2.2.2.2.2.2.1 x16.2.2.2.2.2.2.2.2.1 x16.2.2.2.2.2.2.2.2.2.1 x16.2.2.2.2.2.2.2.2.2.2.1 x16.2.2.2.2.2.2.2.2.2.2.2.1 x16.2.2.2.2.2.2.2.2.2.2.2.2.1 x16.2.2.2.2.2.2.2.2.2.2.2.2.2.1 x16.2.2.2.2.2.2.2.2.2.2.2.2.2.2.1 x16.2.2.2.2.2.2.2.2.2.2.2.2.2.2.2.1
def q59i5:List PE := [e75,e32,e76,e77,e39,e78,e79,e40,⟨42,192,.val ty_4 false,false⟩,⟨43,208,.val ty_0 false,false⟩,⟨44,224,.val ty_0 false,false⟩]
def q59o5:List PE := [e86,e87,e88,e89]
noncomputable def q59f5(k:Nat)(n:Nat)(x19:PTe q59i5):=impl_bernstein_L506 k n x19.1 x19.2.1 x19.2.2.1 x19.2.2.2.1 x19.2.2.2.2.1 x19.2.2.2.2.2.1 x19.2.2.2.2.2.2.1 x19.2.2.2.2.2.2.2.1 x19.2.2.2.2.2.2.2.2.1 x19.2.2.2.2.2.2.2.2.2.1 x19.2.2.2.2.2.2.2.2.2.2.1
def q59i6:List PE := [e86,e87,e88,e89,e90,e73,e91,⟨27,176,.val ty_7 false,false⟩,⟨28,192,.val ty_0 false,false⟩,⟨123,208,.val ty_10 false,false⟩,⟨124,224,.val ty_0 false,false⟩,⟨125,240,.val ty_0 false,false⟩,⟨130,256,.val ty_10 false,false⟩,⟨131,272,.val ty_0 false,false⟩,⟨132,288,.val ty_0 false,false⟩,⟨141,304,.val ty_0 false,false⟩,⟨142,320,.val ty_0 false,false⟩]
def q59o6:List PE := [e86,e87,e88,e89,e90,e73,e91,⟨28,176,.val ty_0 false,false⟩,⟨123,192,.val ty_10 false,false⟩,⟨124,208,.val ty_0 false,false⟩,⟨125,224,.val ty_0 false,false⟩,⟨130,240,.val ty_10 false,false⟩,⟨131,256,.val ty_0 false,false⟩,⟨132,272,.val ty_0 false,false⟩]
noncomputable def q59f6(k:Nat)(n:Nat)(x25:PTe q59i6):=impl_bernstein_L535402906 k n x25.1 x25.2.1 x25.2.2.1 x25.2.2.2.1 x25.2.2.2.2.1 x25.2.2.2.2.2.1 x25.2.2.2.2.2.2.1 x25.2.2.2.2.2.2.2.1 x25.2.2.2.2.2.2.2.2.1 x25.2.2.2.2.2.2.2.2.2.1 x25.2.2.2.2.2.2.2.2.2.2.1 x25.2.2.2.2.2.2.2.2.2.2.2.1 x25.2.2.2.2.2.2.2.2.2.2.2.2.1 x25.2.2.2.2.2.2.2.2.2.2.2.2.2.1 x25.2.2.2.2.2.2.2.2.2.2.2.2.2.2.1 x25.2.2.2.2.2.2.2.2.2.2.2.2.2.2.2.1 x25.2.2.2.2.2.2.2.2.2.2.2.2.2.2.2.2.1
def q59i7:List PE := [e86,e87,e88,e89,e90,e73,e91,⟨123,176,.val ty_10 false,false⟩,⟨124,192,.val ty_0 false,false⟩,⟨125,208,.val ty_0 false,false⟩,⟨130,224,.val ty_10 false,false⟩,⟨131,240,.val ty_0 false,false⟩,⟨132,256,.val ty_0 false,false⟩]
def q59o7:List PE := [e86,e87,e88,e89,e90,⟨123,144,.val ty_10 false,false⟩,⟨124,160,.val ty_0 false,false⟩,⟨125,176,.val ty_0 false,false⟩]
noncomputable def q59f7(k:Nat)(n:Nat)(x28:PTe q59i7):=impl_bernstein_L522854 k n x28.1 x28.2.1 x28.2.2.1 x28.2.2.2.1 x28.2.2.2.2.1 x28.2.2.2.2.2.1 x28.2.2.2.2.2.2.1 x28.2.2.2.2.2.2.2.1 x28.2.2.2.2.2.2.2.2.1 x28.2.2.2.2.2.2.2.2.2.1 x28.2.2.2.2.2.2.2.2.2.2.1 x28.2.2.2.2.2.2.2.2.2.2.2.1 x28.2.2.2.2.2.2.2.2.2.2.2.2.1
def q59i8:List PE := [e86,e87,e88,e89,e90,⟨123,144,.val ty_10 false,false⟩,⟨124,160,.val ty_0 false,false⟩,⟨125,176,.val ty_0 false,false⟩]
def q59o8:List PE := [⟨23,64,.eat ty_0,false⟩]
noncomputable def q59f8(k:Nat)(n:Nat)(x31:PTe q59i8):=impl_bernstein_L2042 k n x31.1 x31.2.1 x31.2.2.1 x31.2.2.2.1 x31.2.2.2.2.1 x31.2.2.2.2.2.1 x31.2.2.2.2.2.2.1 x31.2.2.2.2.2.2.2.1
def q59p:List PE := [e1,e2,e34,⟨3,48,.val ty_7 false,false⟩]
noncomputable def q59F(k:Nat):F3:=⟨q59C k,rr q59p [(ty_7,false)] Try.f58,fun p=>bif Nat.beq p 543746216762 then some (.loop q59i1 q59o1 6 496 (q59f1 k k))else bif Nat.beq p 543746216766 then some (.loop q59i2 q59o2 8 464 (q59f2 k k))else bif Nat.beq p 265501082 then some (.loop q59i3 q59o3 4 416 (q59f3 k k))else bif Nat.beq p 259278 then some (.loop q59i4 q59o4 2 320 (q59f4 k k))else bif Nat.beq p 506 then some (.loop q59i5 q59o5 0 240 (q59f5 k k))else bif Nat.beq p 535402906 then some (.loop q59i6 q59o6 14 336 (q59f6 k k))else bif Nat.beq p 522854 then some (.loop q59i7 q59o7 12 272 (q59f7 k k))else bif Nat.beq p 2042 then some (.loop q59i8 q59o8 10 192 (q59f8 k k))else none,0,[]⟩
theorem q59K(k:Nat):Contract Try.prog 58 (q59V k):=ctr (q59C k) (rs := [(ty_7,false)]) (ps:=q59p) (q59F k) Try.f58 64 ⟨tyOf_ok tys_ok,gOf_ok ⟨q54K k,q55K k,q56K k,q48K,q41K,q57K k,q58K,trivial⟩⟩ (annl [506,259278,265501082,543746216762,543746216766,2042,522854,535402906] ⟨lok q59i5 q59o5 0 240 (q59f5 k) k,lok q59i4 q59o4 2 320 (q59f4 k) k,lok q59i3 q59o3 4 416 (q59f3 k) k,lok q59i1 q59o1 6 496 (q59f1 k) k,lok q59i2 q59o2 8 464 (q59f2 k) k,lok q59i8 q59o8 10 192 (q59f8 k) k,lok q59i7 q59o7 12 272 (q59f7 k) k,lok q59i6 q59o6 14 336 (q59f6 k) k,trivial⟩)

noncomputable def q60V(k:Nat):Variant:=⟨[.val ty_7 false],[(ty_0,false)],fun x=>slices_Min_int_int k x.1⟩
noncomputable def q60C(k:Nat):Cfg:=⟨Try.prog,tyOf tys,25,gOf [],false,[],[]⟩
def q60i1:List PE := [e52,e30,⟨4,48,.val ty_0 false,false⟩]
def q60o1:List PE := [e35]
noncomputable def q60f1(k:Nat)(n:Nat)(x1:PTe q60i1):=slices_Min_int_int_L122 k n x1.1 x1.2.1 x1.2.2.1
def q60p:List PE := [e8]
noncomputable def q60F(k:Nat):F1:=⟨q60C k,rr q60p [(ty_0,false)] Try.f74,fun p=>bif Nat.beq p 122 then some (.loop q60i1 q60o1 0 64 (q60f1 k k))else none,0,[]⟩
theorem q60K(k:Nat):Contract Try.prog 74 (q60V k):=ctr (q60C k) (rs := [(ty_0,false)]) (ps:=q60p) (q60F k) Try.f74 16 ⟨tyOf_ok tys_ok,gOf_ok trivial⟩ (annl [122] ⟨lok q60i1 q60o1 0 64 (q60f1 k) k,trivial⟩)

noncomputable def q61V(k:Nat):Variant:=⟨[.val ty_7 false],[(ty_0,false)],fun x=>slices_Max_int_int k x.1⟩
noncomputable def q61C(k:Nat):Cfg:=⟨Try.prog,tyOf tys,25,gOf [],false,[],[]⟩
def q61i1:List PE := [e52,e30,⟨4,48,.val ty_0 false,false⟩]
def q61o1:List PE := [e35]
noncomputable def q61f1(k:Nat)(n:Nat)(x1:PTe q61i1):=slices_Max_int_int_L122 k n x1.1 x1.2.1 x1.2.2.1
def q61p:List PE := [e8]
noncomputable def q61F(k:Nat):F1:=⟨q61C k,rr q61p [(ty_0,false)] Try.f75,fun p=>bif Nat.beq p 122 then some (.loop q61i1 q61o1 0 64 (q61f1 k k))else none,0,[]⟩
theorem q61K(k:Nat):Contract Try.prog 75 (q61V k):=ctr (q61C k) (rs := [(ty_0,false)]) (ps:=q61p) (q61F k) Try.f75 16 ⟨tyOf_ok tys_ok,gOf_ok trivial⟩ (annl [122] ⟨lok q61i1 q61o1 0 64 (q61f1 k) k,trivial⟩)

noncomputable def q62V(k:Nat):Variant:=⟨[.val ty_7 false],[(ty_0,false)],fun x=>impl_commonSign k x.1⟩
noncomputable def q62C(k:Nat):Cfg:=⟨Try.prog,tyOf tys,11,gOf [(74,[],q60V k),(75,[],q61V k)],false,[],[]⟩
def q62p:List PE := [e8]
noncomputable def q62F(k:Nat):F1:=⟨q62C k,rr q62p [(ty_0,false)] Try.f57,fun p=>none,0,[]⟩
theorem q62K(k:Nat):Contract Try.prog 57 (q62V k):=ctr (q62C k) (rs := [(ty_0,false)]) (ps:=q62p) (q62F k) Try.f57 16 ⟨tyOf_ok tys_ok,gOf_ok ⟨q60K k,q61K k,trivial⟩⟩ (annl [] trivial)

noncomputable def q63V(k:Nat):Variant:=⟨[.val ty_4 false,.ptr ty_9 false,.val ty_0 false,.val .bool false],[(ty_0,false)],fun x=>impl_faceSign k x.1 x.2.1 x.2.2.1 x.2.2.2.1⟩
noncomputable def q63C(k:Nat):Cfg:=⟨Try.prog,tyOf tys,45,gOf [(56,[],q53V),(58,[],q59V k),(57,[],q62V k)],false,[],[]⟩
def q63p:List PE := [e1,⟨1,16,.ptr ty_9 false,false⟩,e21,⟨3,48,.val .bool false,false⟩]
noncomputable def q63F(k:Nat):F1:=⟨q63C k,rr q63p [(ty_0,false)] Try.f40,fun p=>bif Nat.beq p 14 then some (.cut [e38,⟨1,80,.ptr ty_9 false,false⟩,⟨9,96,.eat ty_0,false⟩,⟨10,112,.eat ty_0,false⟩] 128)else none,0,[]⟩
theorem q63K(k:Nat):Contract Try.prog 40 (q63V k):=ctr (q63C k) (rs := [(ty_0,false)]) (ps:=q63p) (q63F k) Try.f40 64 ⟨tyOf_ok tys_ok,gOf_ok ⟨q53K,q59K k,q62K k,trivial⟩⟩ (annl [] trivial)

noncomputable def q64V(k:Nat):Variant:=⟨[.val ty_5 false,.val ty_9 true],[(ty_10,false),(.bool,false)],fun x=>impl_FaceSigns k x.1 x.2.1⟩
noncomputable def q64C(k:Nat):Cfg:=⟨Try.prog,tyOf tys,47,gOf [(46,[],q52V k),(40,[],q63V k)],false,[],[]⟩
def q64i1:List PE := [e92,e93,⟨8,64,.val ty_4 false,false⟩,⟨9,80,.eat ty_0,false⟩,⟨19,96,.val ty_5 false,false⟩,⟨20,112,.val ty_0 false,false⟩,⟨21,128,.val ty_0 false,false⟩,⟨27,144,.val ty_0 false,false⟩,⟨28,160,.val ty_0 false,false⟩]
def q64o1:List PE := [e92,e93,⟨9,64,.eat ty_0,false⟩,⟨19,80,.val ty_5 false,false⟩,e62,e63]
noncomputable def q64f1(k:Nat)(n:Nat)(x4:PTe q64i1):=impl_FaceSigns_L125338 k n x4.1 x4.2.1 x4.2.2.1 x4.2.2.2.1 x4.2.2.2.2.1 x4.2.2.2.2.2.1 x4.2.2.2.2.2.2.1 x4.2.2.2.2.2.2.2.1 x4.2.2.2.2.2.2.2.2.1
def q64i2:List PE := [e92,e93,⟨19,64,.val ty_5 false,false⟩,⟨20,80,.val ty_0 false,false⟩,⟨21,96,.val ty_0 false,false⟩]
def q64o2:List PE := [e66]
noncomputable def q64f2(k:Nat)(n:Nat)(x7:PTe q64i2):=impl_FaceSigns_L122 k n x7.1 x7.2.1 x7.2.2.1 x7.2.2.2.1 x7.2.2.2.2.1
def q64p:List PE := [e7,e31]
noncomputable def q64F(k:Nat):Fn ((List (List Int))×Bool):=⟨q64C k,rr q64p [(ty_10,false),(.bool,false)] Try.f24,fun p=>bif Nat.beq p 125338 then some (.loop q64i1 q64o1 2 176 (q64f1 k k))else bif Nat.beq p 122 then some (.loop q64i2 q64o2 0 112 (q64f2 k k))else none,0,[]⟩
theorem q64K(k:Nat):Contract Try.prog 24 (q64V k):=ctr (q64C k) (rs := [(ty_10,false),(.bool,false)]) (ps:=q64p) (q64F k) Try.f24 32 ⟨tyOf_ok tys_ok,gOf_ok ⟨q52K k,q63K k,trivial⟩⟩ (annl [122,125338] ⟨lok q64i2 q64o2 0 112 (q64f2 k) k,lok q64i1 q64o1 2 176 (q64f1 k) k,trivial⟩)

noncomputable def q65V(k:Nat):Variant:=⟨[.val ty_7 false,.val ty_7 false],[(.bool,false)],fun x=>laws_eqIntS k x.1 x.2.1⟩
noncomputable def q65C(k:Nat):Cfg:=⟨Try.prog,tyOf tys,26,gOf [],false,[],[]⟩
def q65i1:List PE := [e19,⟨1,48,.val ty_7 false,false⟩,e5]
def q65o1:List PE := []
noncomputable def q65f1(k:Nat)(n:Nat)(x1:PTe q65i1):=laws_eqIntS_L58 k n x1.1 x1.2.1 x1.2.2.1
def q65p:List PE := [e8,e33]
noncomputable def q65F(k:Nat):F2:=⟨q65C k,rr q65p [(.bool,false)] Try.f16,fun p=>bif Nat.beq p 58 then some (.loop q65i1 q65o1 0 80 (q65f1 k k))else none,0,[]⟩
theorem q65K(k:Nat):Contract Try.prog 16 (q65V k):=ctr (q65C k) (rs := [(.bool,false)]) (ps:=q65p) (q65F k) Try.f16 32 ⟨tyOf_ok tys_ok,gOf_ok trivial⟩ (annl [58] ⟨lok q65i1 q65o1 0 80 (q65f1 k) k,trivial⟩)

noncomputable def q66V(k:Nat):Variant:=⟨[.val ty_10 false,.val ty_10 false],[(.bool,false)],fun x=>laws_eqIntSS k x.1 x.2.1⟩
noncomputable def q66C(k:Nat):Cfg:=⟨Try.prog,tyOf tys,27,gOf [(16,[],q65V k)],false,[],[]⟩
def q66i1:List PE := [⟨0,32,.val ty_10 false,false⟩,⟨1,48,.val ty_10 false,false⟩,e5]
def q66o1:List PE := []
noncomputable def q66f1(k:Nat)(n:Nat)(x2:PTe q66i1):=laws_eqIntSS_L58 k n x2.1 x2.2.1 x2.2.2.1
def q66p:List PE := [⟨0,0,.val ty_10 false,false⟩,⟨1,16,.val ty_10 false,false⟩]
noncomputable def q66F(k:Nat):F2:=⟨q66C k,rr q66p [(.bool,false)] Try.f25,fun p=>bif Nat.beq p 58 then some (.loop q66i1 q66o1 0 80 (q66f1 k k))else none,0,[]⟩
theorem q66K(k:Nat):Contract Try.prog 25 (q66V k):=ctr (q66C k) (rs := [(.bool,false)]) (ps:=q66p) (q66F k) Try.f25 32 ⟨tyOf_ok tys_ok,gOf_ok ⟨q65K k,trivial⟩⟩ (annl [58] ⟨lok q66i1 q66o1 0 80 (q66f1 k) k,trivial⟩)

noncomputable def q67V:Variant:=⟨[.val ty_3 true,.val ty_3 true],[(.bool,false)],fun x=>laws_eqTerm x.1 x.2.1⟩
noncomputable def q67C:Cfg:=⟨Try.prog,tyOf tys,25,gOf [],false,[],[]⟩
def q67p:List PE := [e11,e22]
noncomputable def q67F:F2:=⟨q67C,rr q67p [(.bool,false)] Try.f59,fun p=>none,0,[]⟩
theorem q67K:Contract Try.prog 59 (q67V):=ctr q67C (rs := [(.bool,false)]) (ps:=q67p) q67F Try.f59 32 ⟨tyOf_ok tys_ok,gOf_ok trivial⟩ (annl [] trivial)

noncomputable def q68V(k:Nat):Variant:=⟨[.val ty_4 false,.val ty_4 false],[(.bool,false)],fun x=>laws_eqTermS k x.1 x.2.1⟩
noncomputable def q68C(k:Nat):Cfg:=⟨Try.prog,tyOf tys,27,gOf [(59,[],q67V)],false,[],[]⟩
def q68i1:List PE := [e12,⟨1,48,.val ty_4 false,false⟩,e5]
def q68o1:List PE := []
noncomputable def q68f1(k:Nat)(n:Nat)(x2:PTe q68i1):=laws_eqTermS_L58 k n x2.1 x2.2.1 x2.2.2.1
def q68p:List PE := [e1,⟨1,16,.val ty_4 false,false⟩]
noncomputable def q68F(k:Nat):F2:=⟨q68C k,rr q68p [(.bool,false)] Try.f41,fun p=>bif Nat.beq p 58 then some (.loop q68i1 q68o1 0 80 (q68f1 k k))else none,0,[]⟩
theorem q68K(k:Nat):Contract Try.prog 41 (q68V k):=ctr (q68C k) (rs := [(.bool,false)]) (ps:=q68p) (q68F k) Try.f41 32 ⟨tyOf_ok tys_ok,gOf_ok ⟨q67K,trivial⟩⟩ (annl [58] ⟨lok q68i1 q68o1 0 80 (q68f1 k) k,trivial⟩)

noncomputable def q69V(k:Nat):Variant:=⟨[.val ty_6 false,.val ty_6 false],[(.bool,false)],fun x=>laws_intactTermS k x.1 x.2.1⟩
noncomputable def q69C(k:Nat):Cfg:=⟨Try.prog,tyOf tys,26,gOf [(34,[],q5V),(41,[],q68V k)],false,[],[]⟩
def q69p:List PE := [⟨0,0,.val ty_6 false,false⟩,⟨1,16,.val ty_6 false,false⟩]
noncomputable def q69F(k:Nat):F2:=⟨q69C k,rr q69p [(.bool,false)] Try.f12,fun p=>none,0,[]⟩
theorem q69K(k:Nat):Contract Try.prog 12 (q69V k):=ctr (q69C k) (rs := [(.bool,false)]) (ps:=q69p) (q69F k) Try.f12 32 ⟨tyOf_ok tys_ok,gOf_ok ⟨q5K,q68K k,trivial⟩⟩ (annl [] trivial)

noncomputable def q70V(k:Nat):Variant:=⟨[.val ty_5 false,.val ty_5 false],[(.bool,false)],fun x=>laws_eqTermSS k x.1 x.2.1⟩
noncomputable def q70C(k:Nat):Cfg:=⟨Try.prog,tyOf tys,27,gOf [(41,[],q68V k)],false,[],[]⟩
def q70i1:List PE := [e3,⟨1,48,.val ty_5 false,false⟩,e5]
def q70o1:List PE := []
noncomputable def q70f1(k:Nat)(n:Nat)(x2:PTe q70i1):=laws_eqTermSS_L58 k n x2.1 x2.2.1 x2.2.2.1
def q70p:List PE := [e7,⟨1,16,.val ty_5 false,false⟩]
noncomputable def q70F(k:Nat):F2:=⟨q70C k,rr q70p [(.bool,false)] Try.f47,fun p=>bif Nat.beq p 58 then some (.loop q70i1 q70o1 0 80 (q70f1 k k))else none,0,[]⟩
theorem q70K(k:Nat):Contract Try.prog 47 (q70V k):=ctr (q70C k) (rs := [(.bool,false)]) (ps:=q70p) (q70F k) Try.f47 32 ⟨tyOf_ok tys_ok,gOf_ok ⟨q68K k,trivial⟩⟩ (annl [58] ⟨lok q70i1 q70o1 0 80 (q70f1 k) k,trivial⟩)

noncomputable def q71V(k:Nat):Variant:=⟨[.val ty_11 false,.val ty_11 false],[(.bool,false)],fun x=>laws_intactTermSS k x.1 x.2.1⟩
noncomputable def q71C(k:Nat):Cfg:=⟨Try.prog,tyOf tys,45,gOf [(34,[],q5V),(12,[],q69V k),(47,[],q70V k)],false,[],[]⟩
def q71i1:List PE := [⟨0,32,.val ty_11 false,false⟩,⟨1,48,.val ty_11 false,false⟩,e5,e17]
def q71o1:List PE := [⟨0,32,.val ty_11 false,false⟩,⟨1,48,.val ty_11 false,false⟩,e5]
noncomputable def q71f1(k:Nat)(n:Nat)(x3:PTe q71i1):=laws_intactTermSS_L122 k n x3.1 x3.2.1 x3.2.2.1 x3.2.2.2.1
def q71p:List PE := [⟨0,0,.val ty_11 false,false⟩,⟨1,16,.val ty_11 false,false⟩]
noncomputable def q71F(k:Nat):F2:=⟨q71C k,rr q71p [(.bool,false)] Try.f26,fun p=>bif Nat.beq p 122 then some (.loop q71i1 q71o1 0 96 (q71f1 k k))else none,0,[]⟩
theorem q71K(k:Nat):Contract Try.prog 26 (q71V k):=ctr (q71C k) (rs := [(.bool,false)]) (ps:=q71p) (q71F k) Try.f26 32 ⟨tyOf_ok tys_ok,gOf_ok ⟨q5K,q69K k,q70K k,trivial⟩⟩ (annl [122] ⟨lok q71i1 q71o1 0 96 (q71f1 k) k,trivial⟩)

noncomputable def q72V(k:Nat):Variant:=⟨[.val ty_12 false,.val ty_12 false],[(.bool,false)],fun x=>laws_intactIntS k x.1 x.2.1⟩
noncomputable def q72C(k:Nat):Cfg:=⟨Try.prog,tyOf tys,26,gOf [(34,[],q5V),(16,[],q65V k)],false,[],[]⟩
def q72p:List PE := [⟨0,0,.val ty_12 false,false⟩,⟨1,16,.val ty_12 false,false⟩]
noncomputable def q72F(k:Nat):F2:=⟨q72C k,rr q72p [(.bool,false)] Try.f42,fun p=>none,0,[]⟩
theorem q72K(k:Nat):Contract Try.prog 42 (q72V k):=ctr (q72C k) (rs := [(.bool,false)]) (ps:=q72p) (q72F k) Try.f42 32 ⟨tyOf_ok tys_ok,gOf_ok ⟨q5K,q65K k,trivial⟩⟩ (annl [] trivial)

noncomputable def q73V(k:Nat):Variant:=⟨[.val ty_14 true,.val ty_14 true],[(.bool,false)],fun x=>laws_intactBox k x.1 x.2.1⟩
noncomputable def q73C(k:Nat):Cfg:=⟨Try.prog,tyOf tys,22,gOf [(42,[],q72V k)],false,[],[]⟩
def q73p:List PE := [⟨0,0,.val ty_14 true,false⟩,⟨1,16,.val ty_14 true,false⟩]
noncomputable def q73F(k:Nat):F2:=⟨q73C k,rr q73p [(.bool,false)] Try.f13,fun p=>none,0,[]⟩
theorem q73K(k:Nat):Contract Try.prog 13 (q73V k):=ctr (q73C k) (rs := [(.bool,false)]) (ps:=q73p) (q73F k) Try.f13 32 ⟨tyOf_ok tys_ok,gOf_ok ⟨q72K k,trivial⟩⟩ (annl [] trivial)

noncomputable def q74V(k:Nat):Variant:=⟨[.own ty_3,.val ty_0 false],[(ty_0,false)],fun x=>laws_markTermS k x.1 x.2.1⟩
noncomputable def q74C(k:Nat):Cfg:=⟨Try.prog,tyOf tys,41,gOf [],false,[],[]⟩
def q74i1:List PE := [e94,e6,e25]
def q74o1:List PE := [e6,e94]
noncomputable def q74f1(k:Nat)(n:Nat)(x1:PTe q74i1):=laws_markTermS_L26 k n x1.1 x1.2.1 x1.2.2.1
def q74p:List PE := [e94,e2]
noncomputable def q74F(k:Nat):Fn (Int×List (Int×Int×Int×Int)):=⟨q74C k,rr q74p [(ty_0,false)] Try.f17,fun p=>bif Nat.beq p 26 then some (.loop q74i1 q74o1 0 64 (q74f1 k k))else none,0,[0]⟩
theorem q74K(k:Nat):Contract Try.prog 17 (q74V k):=ctr (q74C k) (rs := [(ty_0,false)]) (ps:=q74p) (q74F k) Try.f17 32 ⟨tyOf_ok tys_ok,gOf_ok trivial⟩ (annl [26] ⟨lok q74i1 q74o1 0 64 (q74f1 k) k,trivial⟩)

noncomputable def q75V(k:Nat):Variant:=⟨[.own ty_4,.val ty_0 false],[(ty_0,false)],fun x=>laws_markTermSS k x.1 x.2.1⟩
noncomputable def q75C(k:Nat):Cfg:=⟨Try.prog,tyOf tys,19,gOf [(17,[],q74V k)],false,[],[]⟩
def q75i1:List PE := [e95,e6,e25]
def q75o1:List PE := [e6,e95]
noncomputable def q75f1(k:Nat)(n:Nat)(x2:PTe q75i1):=laws_markTermSS_L26 k n x2.1 x2.2.1 x2.2.2.1
def q75p:List PE := [e95,e2]
noncomputable def q75F(k:Nat):Fn (Int×List (List (Int×Int×Int×Int))):=⟨q75C k,rr q75p [(ty_0,false)] Try.f27,fun p=>bif Nat.beq p 26 then some (.loop q75i1 q75o1 0 64 (q75f1 k k))else none,0,[0]⟩
theorem q75K(k:Nat):Contract Try.prog 27 (q75V k):=ctr (q75C k) (rs := [(ty_0,false)]) (ps:=q75p) (q75F k) Try.f27 32 ⟨tyOf_ok tys_ok,gOf_ok ⟨q74K k,trivial⟩⟩ (annl [26] ⟨lok q75i1 q75o1 0 64 (q75f1 k) k,trivial⟩)

noncomputable def q76V(k:Nat):Variant:=⟨[.own ty_0,.val ty_0 false],[(ty_0,false)],fun x=>laws_markIntS k x.1 x.2.1⟩
noncomputable def q76C(k:Nat):Cfg:=⟨Try.prog,tyOf tys,19,gOf [],false,[],[]⟩
def q76i1:List PE := [e56,e6,e25]
def q76o1:List PE := [e6,e56]
noncomputable def q76f1(k:Nat)(n:Nat)(x1:PTe q76i1):=laws_markIntS_L26 k n x1.1 x1.2.1 x1.2.2.1
def q76p:List PE := [e56,e2]
noncomputable def q76F(k:Nat):Fn (Int×List Int):=⟨q76C k,rr q76p [(ty_0,false)] Try.f19,fun p=>bif Nat.beq p 26 then some (.loop q76i1 q76o1 0 64 (q76f1 k k))else none,0,[0]⟩
theorem q76K(k:Nat):Contract Try.prog 19 (q76V k):=ctr (q76C k) (rs := [(ty_0,false)]) (ps:=q76p) (q76F k) Try.f19 32 ⟨tyOf_ok tys_ok,gOf_ok trivial⟩ (annl [26] ⟨lok q76i1 q76o1 0 64 (q76f1 k) k,trivial⟩)

noncomputable def q77V(k:Nat):Variant:=⟨[.gob ty_9 true,.val ty_0 false],[(ty_0,false)],fun x=>laws_markBox k x.1 x.2.1⟩
noncomputable def q77C(k:Nat):Cfg:=⟨Try.prog,tyOf tys,14,gOf [(19,[],q76V k)],false,[],[]⟩
def q77p:List PE := [⟨0,0,.gob ty_9 true,false⟩,e2]
noncomputable def q77F(k:Nat):F1:=⟨q77C k,rr q77p [(ty_0,false)] Try.f18,fun p=>none,0,[]⟩
theorem q77K(k:Nat):Contract Try.prog 18 (q77V k):=ctr (q77C k) (rs := [(ty_0,false)]) (ps:=q77p) (q77F k) Try.f18 32 ⟨tyOf_ok tys_ok,gOf_ok ⟨q76K k,trivial⟩⟩ (annl [] trivial)

noncomputable def q78V(k:Nat):Variant:=⟨[.own ty_7,.val ty_0 false],[(ty_0,false)],fun x=>laws_markIntSS k x.1 x.2.1⟩
noncomputable def q78C(k:Nat):Cfg:=⟨Try.prog,tyOf tys,19,gOf [(19,[],q76V k)],false,[],[]⟩
def q78i1:List PE := [e96,e6,e25]
def q78o1:List PE := [e6,e96]
noncomputable def q78f1(k:Nat)(n:Nat)(x2:PTe q78i1):=laws_markIntSS_L26 k n x2.1 x2.2.1 x2.2.2.1
def q78p:List PE := [e96,e2]
noncomputable def q78F(k:Nat):Fn (Int×List (List Int)):=⟨q78C k,rr q78p [(ty_0,false)] Try.f28,fun p=>bif Nat.beq p 26 then some (.loop q78i1 q78o1 0 64 (q78f1 k k))else none,0,[0]⟩
theorem q78K(k:Nat):Contract Try.prog 28 (q78V k):=ctr (q78C k) (rs := [(ty_0,false)]) (ps:=q78p) (q78F k) Try.f28 32 ⟨tyOf_ok tys_ok,gOf_ok ⟨q76K k,trivial⟩⟩ (annl [26] ⟨lok q78i1 q78o1 0 64 (q78f1 k) k,trivial⟩)

noncomputable def q79V(k:Nat):Variant:=⟨[.val ty_7 false,.val ty_0 false],[(ty_0,false)],fun x=>laws_heldIntS k x.1 x.2.1⟩
noncomputable def q79C(k:Nat):Cfg:=⟨Try.prog,tyOf tys,21,gOf [],false,[],[]⟩
def q79i1:List PE := [e19,e4,e5]
def q79o1:List PE := [e6]
noncomputable def q79f1(k:Nat)(n:Nat)(x1:PTe q79i1):=laws_heldIntS_L26 k n x1.1 x1.2.1 x1.2.2.1
def q79p:List PE := [e8,e2]
noncomputable def q79F(k:Nat):F1:=⟨q79C k,rr q79p [(ty_0,false)] Try.f20,fun p=>bif Nat.beq p 26 then some (.loop q79i1 q79o1 0 80 (q79f1 k k))else none,0,[]⟩
theorem q79K(k:Nat):Contract Try.prog 20 (q79V k):=ctr (q79C k) (rs := [(ty_0,false)]) (ps:=q79p) (q79F k) Try.f20 32 ⟨tyOf_ok tys_ok,gOf_ok trivial⟩ (annl [26] ⟨lok q79i1 q79o1 0 80 (q79f1 k) k,trivial⟩)

noncomputable def q80V(k:Nat):Variant:=⟨[.val ty_10 false,.val ty_0 false],[(ty_0,false)],fun x=>laws_heldIntSS k x.1 x.2.1⟩
noncomputable def q80C(k:Nat):Cfg:=⟨Try.prog,tyOf tys,21,gOf [(20,[],q79V k)],false,[],[]⟩
def q80i1:List PE := [⟨0,32,.val ty_10 false,false⟩,e4,e5]
def q80o1:List PE := [e6]
noncomputable def q80f1(k:Nat)(n:Nat)(x2:PTe q80i1):=laws_heldIntSS_L26 k n x2.1 x2.2.1 x2.2.2.1
def q80p:List PE := [⟨0,0,.val ty_10 false,false⟩,e2]
noncomputable def q80F(k:Nat):F1:=⟨q80C k,rr q80p [(ty_0,false)] Try.f29,fun p=>bif Nat.beq p 26 then some (.loop q80i1 q80o1 0 80 (q80f1 k k))else none,0,[]⟩
theorem q80K(k:Nat):Contract Try.prog 29 (q80V k):=ctr (q80C k) (rs := [(ty_0,false)]) (ps:=q80p) (q80F k) Try.f29 32 ⟨tyOf_ok tys_ok,gOf_ok ⟨q79K k,trivial⟩⟩ (annl [26] ⟨lok q80i1 q80o1 0 80 (q80f1 k) k,trivial⟩)

noncomputable def laws_FnExactFaceSigns_V(k:Nat):Variant:=⟨[.val ty_5 false,.val ty_9 true],[(.bool,false)],fun x=>laws_FnExactFaceSigns k x.1 x.2.1⟩
noncomputable def laws_FnExactFaceSigns_C(k:Nat):Cfg:=⟨Try.prog,tyOf tys,119,gOf [(21,[],q2V k),(7,[],q4V),(23,[],q9V k),(10,[],q11V k),(22,[],q39V k),(24,[],q64V k),(25,[],q66V k),(26,[],q71V k),(13,[],q73V k),(27,[],q75V k),(18,[],q77V k),(28,[],q78V k),(29,[],q80V k)],false,[],[]⟩
def laws_FnExactFaceSigns_ps:List PE := [e7,e31]
noncomputable def laws_FnExactFaceSigns_F(k:Nat):F2:=⟨laws_FnExactFaceSigns_C k,rr laws_FnExactFaceSigns_ps [(.bool,false)] Try.f5,fun p=>none,0,[]⟩
theorem laws_FnExactFaceSigns_K(k:Nat):Contract Try.prog 5 (laws_FnExactFaceSigns_V k):=ctr (laws_FnExactFaceSigns_C k) (rs := [(.bool,false)]) (ps:=laws_FnExactFaceSigns_ps) (laws_FnExactFaceSigns_F k) Try.f5 32 ⟨tyOf_ok tys_ok,gOf_ok ⟨q2K k,q4K,q9K k,q11K k,q39K k,q64K k,q66K k,q71K k,q73K k,q75K k,q77K k,q78K k,q80K k,trivial⟩⟩ (annl [] trivial)
end Go.Ev.G
