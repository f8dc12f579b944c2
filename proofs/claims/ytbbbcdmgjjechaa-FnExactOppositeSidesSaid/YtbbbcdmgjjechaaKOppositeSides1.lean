/- The contracts of the functions behind FnExactOppositeSides: a call of each returns what its plain function computes; for all inputs within the sizes named. -/
import Derived.Test.YtbbbcdmgjjechaaPOppositeSides1
import Derived.Test.YtbbbcdmgjjechaaProg
set_option linter.unusedVariables false
namespace Go.Ev.G
open Go Go.Ev Go.Proofs
set_option maxRecDepth 100000
abbrev ty_0:Ty:=(.int .i64)

abbrev ty_1:Ty:=(.pair ty_0 ty_0)

abbrev ty_2:Ty:=(.pair ty_0 ty_1)

abbrev ty_3:Ty:=(.pair ty_0 ty_2)

abbrev ty_4:Ty:=(.sl ty_3)

abbrev ty_5:Ty:=(.sl ty_0)

abbrev ty_6:Ty:=(.pair ty_5 ty_5)

abbrev ty_7:Ty:=(.pair ty_0 ty_6)

abbrev ty_8:Ty:=(.sl ty_5)

abbrev ty_9:Ty:=(.rm ty_3)

abbrev ty_10:Ty:=(.rm ty_0)

abbrev ty_11:Ty:=(.pair ty_10 ty_10)

abbrev ty_12:Ty:=(.pair ty_0 ty_11)

def tys:List (TypeId×Ty) := [(3,ty_0),(23,ty_5)]

theorem tys_ok:AllT Try.prog tys:=⟨⟨_,_,rfl,rfl,rfl,rfl⟩,⟨_,_,rfl,rfl,rfl,rfl⟩,trivial⟩

def tysR:List (TypeId×Ty) := [(3,ty_0),(61,ty_3)]

theorem tysR_ok:AllT Try.prog tysR:=⟨⟨_,_,rfl,rfl,rfl,rfl⟩,⟨_,_,rfl,rfl,rfl,rfl⟩,trivial⟩

theorem mix_ok:Try.prog.follows .mixedOrders=true:=by kernel_rfl

theorem ctr{g:FuncId}(C:Cfg){rs:List (Ty×Bool)}{ps:List PE}(F:Fn (CT (rs.map (·.1)++outs (ps.map (·.b)))))(fn:Func)(nx:Nat){f:PT (ps.map (·.b))→Option (CT (rs.map (·.1)++outs (ps.map (·.b))))}
  (hC:CfgOk C) (hann:AnnOk F (codeOf fn) 1) (hP:C.P=Try.prog:=by rfl) (hF:F.C=C:=by rfl) (hfn:C.P.funcs[g]? = some fn:=by kernel_rfl) (hb:fn.body=some (codeOf fn):=by kernel_rfl) (hn:(fn.name == "runtime.NumGoroutine")=false:=by kernel_rfl)
  (hnt:C.ntmps=fn.ntmps:=by kernel_rfl) (hle:Nat.ble ps.length fn.ntmps=true:=by kernel_rfl) (hpar:parOk 0 ps=true:=by kernel_rfl) (hfin:F.fin=rdRes C.P ps rs fn.results.toList .ret:=by rfl)
  (hpins:F.pins=pinIds ps:=by kernel_rfl) (hnd:nodupB F.pins=true:=by kernel_rfl) (hf:∀x,evFn F (codeOf fn) ps nx x=f x:=by intro x;kernel_rfl):Contract C.P g ⟨ps.map (·.b),rs,f⟩ :=
 contract hC hF hfn hb hn hnt hle hpar hfin hpins hnd hann (hP ▸ mix_ok) hf

theorem annl{R:Type}{F:Fn R}{c:Code}(l:List Nat)(hl:AllL F (l.map fun p=>(p,loopB c p)))(h:loopsOf c 1=l.map (fun p=>(p,loopB c p)):=by kernel_rfl):AnnOk F c 1:=AnnOk_list _ h hl

theorem lok{R:Type}{F:Fn R}{c:Code}{p:Nat}(pin pout:List PE)(ex nx:Nat)(Lf:Nat→PTe pin→Option (R ⊕ PTe pout))(k:Nat)(h:F.an p=some (.loop pin pout ex nx (Lf k)):=by kernel_rfl)(h0:∀x,Lf 0 x=none:=by intro x;rfl)
  (hs:∀n x,roundOf F c p pin pout ex nx (Lf n) x=Lf (n+1) x:=by intro n x;kernel_rfl):LoopOk F c p:=LoopOk.mk (pin:=pin) (pout:=pout) h h0 hs

noncomputable def rr(ps:List PE)(rs:List (Ty×Bool))(f:Func):=rdRes Try.prog ps rs f.results.toList .ret

abbrev e1:PE:=⟨0,0,.val ty_4 false,false⟩
abbrev e2:PE:=⟨1,16,.val ty_0 false,false⟩
abbrev F1:Type 1:=Fn (Int)
abbrev e3:PE:=⟨0,0,.val ty_5 false,false⟩
abbrev e4:PE:=⟨0,0,.val ty_7 true,false⟩
abbrev e5:PE:=⟨0,0,.val ty_0 false,false⟩
abbrev e6:PE:=⟨0,0,.val ty_3 true,false⟩
abbrev e7:PE:=⟨0,32,.val ty_4 false,false⟩
abbrev e8:PE:=⟨5,48,.eat ty_3,false⟩
abbrev e9:PE:=⟨6,64,.val ty_0 false,false⟩
abbrev e10:PE:=⟨7,64,.val ty_0 false,false⟩
abbrev e11:PE:=⟨1,16,.val .bool false,false⟩
abbrev e12:PE:=⟨0,32,.val ty_5 false,false⟩
abbrev e13:PE:=⟨5,48,.eat ty_0,false⟩
abbrev e14:PE:=⟨2,32,.val ty_0 false,false⟩
abbrev F2:Type 1:=Fn (Bool)
abbrev e15:PE:=⟨1,16,.val ty_3 true,false⟩
abbrev e16:PE:=⟨0,16,.val ty_4 false,false⟩
abbrev e17:PE:=⟨3,32,.val ty_0 false,false⟩
abbrev e18:PE:=⟨1,32,.val ty_0 false,false⟩
abbrev e19:PE:=⟨5,48,.val ty_0 false,false⟩
abbrev e20:PE:=⟨5,32,.val ty_0 false,false⟩
abbrev e21:PE:=⟨1,16,.val ty_7 true,false⟩
abbrev F3:Type 1:=Fn (List Int)
abbrev e22:PE:=⟨2,80,.val ty_5 false,false⟩
abbrev e23:PE:=⟨1,16,.val ty_5 false,false⟩
abbrev e24:PE:=⟨2,32,.val ty_5 false,false⟩
abbrev e25:PE:=⟨3,16,.val ty_0 false,false⟩
abbrev e26:PE:=⟨7,48,.val ty_0 false,false⟩
abbrev e27:PE:=⟨8,64,.val ty_0 false,false⟩
abbrev e28:PE:=⟨0,32,.val ty_0 false,false⟩
abbrev e29:PE:=⟨1,48,.val ty_0 false,false⟩
abbrev e30:PE:=⟨5,64,.val ty_0 false,false⟩
abbrev e31:PE:=⟨3,48,.val ty_0 false,false⟩
abbrev e32:PE:=⟨0,64,.val ty_4 false,false⟩
abbrev e33:PE:=⟨10,128,.eat ty_0,false⟩
abbrev e34:PE:=⟨13,176,.eat ty_0,false⟩
abbrev e35:PE:=⟨3,80,.val ty_0 false,false⟩
abbrev e36:PE:=⟨10,96,.eat ty_0,false⟩
abbrev e37:PE:=⟨11,112,.eat ty_0,false⟩
abbrev e38:PE:=⟨12,128,.eat ty_0,false⟩
abbrev e39:PE:=⟨13,144,.eat ty_0,false⟩
abbrev e40:PE:=⟨16,160,.box ty_3 false,false⟩
abbrev e41:PE:=⟨17,176,.val ty_0 false,false⟩
abbrev e42:PE:=⟨18,192,.val ty_0 false,false⟩
abbrev e43:PE:=⟨19,208,.val ty_0 false,false⟩
abbrev e44:PE:=⟨10,64,.eat ty_0,false⟩
abbrev e45:PE:=⟨11,80,.eat ty_0,false⟩
abbrev e46:PE:=⟨0,16,.val ty_5 false,false⟩
abbrev e47:PE:=⟨4,48,.eat ty_0,false⟩
abbrev e48:PE:=⟨12,64,.val ty_0 false,false⟩
abbrev e49:PE:=⟨13,80,.val ty_0 false,false⟩
abbrev e50:PE:=⟨0,0,.own ty_0,true⟩
abbrev e51:PE:=⟨1,32,.val ty_5 false,false⟩
abbrev e52:PE:=⟨12,96,.val ty_0 false,false⟩
abbrev e53:PE:=⟨13,112,.val ty_0 false,false⟩
abbrev e54:PE:=⟨16,96,.val ty_0 false,false⟩
abbrev e55:PE:=⟨17,112,.val ty_0 false,false⟩
abbrev e56:PE:=⟨20,96,.val ty_0 false,false⟩
abbrev e57:PE:=⟨21,112,.val ty_0 false,false⟩
abbrev e58:PE:=⟨14,80,.val ty_0 false,false⟩
abbrev e59:PE:=⟨15,96,.val ty_0 false,false⟩
abbrev e60:PE:=⟨9,48,.val ty_4 false,false⟩
abbrev e61:PE:=⟨10,64,.val ty_0 false,false⟩
abbrev e62:PE:=⟨11,80,.val ty_0 false,false⟩
abbrev e63:PE:=⟨1,16,.ptr ty_7 false,false⟩
abbrev e64:PE:=⟨13,64,.val ty_4 false,false⟩
abbrev e65:PE:=⟨24,144,.val ty_0 false,false⟩
abbrev e66:PE:=⟨5,16,.val ty_0 false,false⟩
abbrev e67:PE:=⟨6,32,.eat ty_5,false⟩
abbrev e68:PE:=⟨1,64,.val ty_0 false,false⟩
abbrev e69:PE:=⟨3,96,.val ty_5 false,false⟩
abbrev e70:PE:=⟨9,112,.val ty_0 false,false⟩
abbrev e71:PE:=⟨11,144,.val ty_0 false,false⟩
abbrev e72:PE:=⟨12,160,.val ty_8 false,false⟩
abbrev e73:PE:=⟨15,192,.box ty_3 false,false⟩
abbrev e74:PE:=⟨16,208,.ptr ty_2 false,false⟩
abbrev e75:PE:=⟨17,224,.val ty_0 false,false⟩
abbrev e76:PE:=⟨18,240,.val ty_5 false,false⟩
abbrev e77:PE:=⟨19,256,.val ty_0 false,false⟩
abbrev e78:PE:=⟨20,272,.val ty_0 false,false⟩
abbrev e79:PE:=⟨9,64,.val ty_0 false,false⟩
abbrev e80:PE:=⟨10,80,.eat ty_0,false⟩
abbrev e81:PE:=⟨12,96,.val ty_8 false,false⟩
abbrev e82:PE:=⟨13,112,.eat ty_0,false⟩
abbrev e83:PE:=⟨23,128,.eat ty_0,false⟩
abbrev e84:PE:=⟨25,160,.val ty_5 false,false⟩
abbrev e85:PE:=⟨0,0,.own ty_3,true⟩

noncomputable def q1V:Variant:=⟨[.val ty_4 false,.val ty_0 false],[(ty_0,false)],fun x=>laws_szTermS x.1 x.2.1⟩
noncomputable def q1C:Cfg:=⟨Try.prog,tyOf tys,12,gOf [],false,[],[]⟩
def q1p:List PE := [e1,e2]
noncomputable def q1F:F1:=⟨q1C,rr q1p [(ty_0,false)] Try.f6,fun p=>none,0,[]⟩
theorem q1K:Contract Try.prog 6 (q1V):=ctr q1C (rs := [(ty_0,false)]) (ps:=q1p) q1F Try.f6 32 ⟨tyOf_ok tys_ok,gOf_ok trivial⟩ (annl [] trivial)

noncomputable def q2V:Variant:=⟨[.val ty_5 false,.val ty_0 false],[(ty_0,false)],fun x=>laws_szIntS x.1 x.2.1⟩
noncomputable def q2C:Cfg:=⟨Try.prog,tyOf tys,12,gOf [],false,[],[]⟩
def q2p:List PE := [e3,e2]
noncomputable def q2F:F1:=⟨q2C,rr q2p [(ty_0,false)] Try.f30,fun p=>none,0,[]⟩
theorem q2K:Contract Try.prog 30 (q2V):=ctr q2C (rs := [(ty_0,false)]) (ps:=q2p) q2F Try.f30 32 ⟨tyOf_ok tys_ok,gOf_ok trivial⟩ (annl [] trivial)

noncomputable def q3V:Variant:=⟨[.val ty_7 true,.val ty_0 false],[(ty_0,false)],fun x=>laws_szBox x.1 x.2.1⟩
noncomputable def q3C:Cfg:=⟨Try.prog,tyOf tys,18,gOf [(30,[],q2V)],false,[],[]⟩
def q3p:List PE := [e4,e2]
noncomputable def q3F:F1:=⟨q3C,rr q3p [(ty_0,false)] Try.f7,fun p=>none,0,[]⟩
theorem q3K:Contract Try.prog 7 (q3V):=ctr q3C (rs := [(ty_0,false)]) (ps:=q3p) q3F Try.f7 32 ⟨tyOf_ok tys_ok,gOf_ok ⟨q2K,trivial⟩⟩ (annl [] trivial)

noncomputable def q4V:Variant:=⟨[.val ty_0 false],[(ty_0,false)],fun x=>laws_roomBehind x.1⟩
noncomputable def q4C:Cfg:=⟨Try.prog,tyOf tys,10,gOf [],false,[],[]⟩
def q4p:List PE := [e5]
noncomputable def q4F:F1:=⟨q4C,rr q4p [(ty_0,false)] Try.f34,fun p=>none,0,[]⟩
theorem q4K:Contract Try.prog 34 (q4V):=ctr q4C (rs := [(ty_0,false)]) (ps:=q4p) q4F Try.f34 16 ⟨tyOf_ok tys_ok,gOf_ok trivial⟩ (annl [] trivial)

noncomputable def q5V:Variant:=⟨[.val ty_3 true],[(ty_3,true)],fun x=>laws_toTerm x.1⟩
noncomputable def q5C:Cfg:=⟨Try.prog,tyOf tysR,17,gOf [],true,[],[]⟩
def q5p:List PE := [e6]
noncomputable def q5F:Fn (Int×Int×Int×Int):=⟨q5C,rr q5p [(ty_3,true)] Try.f35,fun p=>none,0,[]⟩
theorem q5K:Contract Try.prog 35 (q5V):=ctr q5C (rs := [(ty_3,true)]) (ps:=q5p) q5F Try.f35 16 ⟨tyOf_ok tysR_ok,gOf_ok trivial⟩ (annl [] trivial)

noncomputable def q6V:Variant:=⟨[],[(ty_3,true)],fun x=>laws_fillerTerm⟩
noncomputable def q6C:Cfg:=⟨Try.prog,tyOf tys,2,gOf [],false,[],[]⟩
def q6p:List PE := []
noncomputable def q6F:Fn (Int×Int×Int×Int):=⟨q6C,rr q6p [(ty_3,true)] Try.f36,fun p=>none,0,[]⟩
theorem q6K:Contract Try.prog 36 (q6V):=ctr q6C (rs := [(ty_3,true)]) (ps:=q6p) q6F Try.f36 0 ⟨tyOf_ok tys_ok,gOf_ok trivial⟩ (annl [] trivial)

noncomputable def q7V(k:Nat):Variant:=⟨[.val ty_4 false,.val .bool false],[(ty_9,false)],fun x=>laws_toTermS k x.1 x.2.1⟩
noncomputable def q7C(k:Nat):Cfg:=⟨Try.prog,tyOf tysR,51,gOf [(34,[],q4V),(35,[],q5V),(36,[],q6V)],true,[],[]⟩
def q7i1:List PE := [e7,e8,e9]
def q7o1:List PE := [e7,e8]
noncomputable def q7f1(k:Nat)(n:Nat)(x4:PTe q7i1):=laws_toTermS_L122 k n x4.1 x4.2.1 x4.2.2.1
def q7i2:List PE := [e7,e8,e10]
def q7o2:List PE := [e7,e8]
noncomputable def q7f2(k:Nat)(n:Nat)(x8:PTe q7i2):=laws_toTermS_L250 k n x8.1 x8.2.1 x8.2.2.1
def q7p:List PE := [e1,e11]
noncomputable def q7F(k:Nat):Fn (List (Int×Int×Int×Int)×List (Int×Int×Int×Int)):=⟨q7C k,rr q7p [(ty_9,false)] Try.f9,fun p=>bif Nat.beq p 122 then some (.loop q7i1 q7o1 0 80 (q7f1 k k))else bif Nat.beq p 250 then some (.loop q7i2 q7o2 2 80 (q7f2 k k))else bif Nat.beq p 6 then some (.cut [e7] 48)else none,0,[]⟩
theorem q7K(k:Nat):Contract Try.prog 9 (q7V k):=ctr (q7C k) (rs := [(ty_9,false)]) (ps:=q7p) (q7F k) Try.f9 32 ⟨tyOf_ok tysR_ok,gOf_ok ⟨q4K,q5K,q6K,trivial⟩⟩ (annl [122,250] ⟨lok q7i1 q7o1 0 80 (q7f1 k) k,lok q7i2 q7o2 2 80 (q7f2 k) k,trivial⟩)

noncomputable def q8V(k:Nat):Variant:=⟨[.val ty_5 false,.val .bool false],[(ty_10,false)],fun x=>laws_toIntS k x.1 x.2.1⟩
noncomputable def q8C(k:Nat):Cfg:=⟨Try.prog,tyOf tysR,49,gOf [(34,[],q4V)],true,[],[]⟩
def q8i1:List PE := [e12,e13,e9]
def q8o1:List PE := [e12,e13]
noncomputable def q8f1(k:Nat)(n:Nat)(x3:PTe q8i1):=laws_toIntS_L122 k n x3.1 x3.2.1 x3.2.2.1
def q8i2:List PE := [e12,e13,e10]
def q8o2:List PE := [e12,e13]
noncomputable def q8f2(k:Nat)(n:Nat)(x6:PTe q8i2):=laws_toIntS_L250 k n x6.1 x6.2.1 x6.2.2.1
def q8p:List PE := [e3,e11]
noncomputable def q8F(k:Nat):Fn (List Int×List Int):=⟨q8C k,rr q8p [(ty_10,false)] Try.f37,fun p=>bif Nat.beq p 122 then some (.loop q8i1 q8o1 0 80 (q8f1 k k))else bif Nat.beq p 250 then some (.loop q8i2 q8o2 2 80 (q8f2 k k))else bif Nat.beq p 6 then some (.cut [e12] 48)else none,0,[]⟩
theorem q8K(k:Nat):Contract Try.prog 37 (q8V k):=ctr (q8C k) (rs := [(ty_10,false)]) (ps:=q8p) (q8F k) Try.f37 32 ⟨tyOf_ok tysR_ok,gOf_ok ⟨q4K,trivial⟩⟩ (annl [122,250] ⟨lok q8i1 q8o1 0 80 (q8f1 k) k,lok q8i2 q8o2 2 80 (q8f2 k) k,trivial⟩)

noncomputable def q9V(k:Nat):Variant:=⟨[.val ty_7 true,.val .bool false],[(ty_12,true)],fun x=>laws_toBox k x.1 x.2.1⟩
noncomputable def q9C(k:Nat):Cfg:=⟨Try.prog,tyOf tysR,20,gOf [(37,[],q8V k)],true,[],[]⟩
def q9p:List PE := [e4,e11]
noncomputable def q9F(k:Nat):Fn (Int×(List Int×List Int)×List Int×List Int):=⟨q9C k,rr q9p [(ty_12,true)] Try.f10,fun p=>none,0,[]⟩
theorem q9K(k:Nat):Contract Try.prog 10 (q9V k):=ctr (q9C k) (rs := [(ty_12,true)]) (ps:=q9p) (q9F k) Try.f10 32 ⟨tyOf_ok tysR_ok,gOf_ok ⟨q8K k,trivial⟩⟩ (annl [] trivial)

noncomputable def q10V:Variant:=⟨[.val ty_0 false,.val ty_0 false,.val ty_0 false],[(.bool,false)],fun x=>spec_l1In x.1 x.2.1 x.2.2.1⟩
noncomputable def q10C:Cfg:=⟨Try.prog,tyOf tys,15,gOf [],false,[],[]⟩
def q10p:List PE := [e5,e2,e14]
noncomputable def q10F:F2:=⟨q10C,rr q10p [(.bool,false)] Try.f32,fun p=>none,0,[]⟩
theorem q10K:Contract Try.prog 32 (q10V):=ctr q10C (rs := [(.bool,false)]) (ps:=q10p) q10F Try.f32 48 ⟨tyOf_ok tys_ok,gOf_ok trivial⟩ (annl [] trivial)

noncomputable def q11V:Variant:=⟨[.val ty_3 true],[(.bool,false)],fun x=>spec_poTerm x.1⟩
noncomputable def q11C:Cfg:=⟨Try.prog,tyOf tys,32,gOf [(32,[],q10V)],false,[],[]⟩
def q11p:List PE := [e6]
noncomputable def q11F:F2:=⟨q11C,rr q11p [(.bool,false)] Try.f63,fun p=>none,0,[]⟩
theorem q11K:Contract Try.prog 63 (q11V):=ctr q11C (rs := [(.bool,false)]) (ps:=q11p) q11F Try.f63 16 ⟨tyOf_ok tys_ok,gOf_ok ⟨q10K,trivial⟩⟩ (annl [] trivial)

noncomputable def q12V:Variant:=⟨[.val ty_0 false],[(ty_0,false)],fun x=>spec_l1Sign x.1⟩
noncomputable def q12C:Cfg:=⟨Try.prog,tyOf tys,9,gOf [],false,[],[]⟩
def q12p:List PE := [e5]
noncomputable def q12F:F1:=⟨q12C,rr q12p [(ty_0,false)] Try.f71,fun p=>none,0,[]⟩
theorem q12K:Contract Try.prog 71 (q12V):=ctr q12C (rs := [(ty_0,false)]) (ps:=q12p) q12F Try.f71 16 ⟨tyOf_ok tys_ok,gOf_ok trivial⟩ (annl [] trivial)

noncomputable def q13V:Variant:=⟨[.val ty_3 true,.val ty_3 true],[(ty_0,false)],fun x=>spec_poOrder x.1 x.2.1⟩
noncomputable def q13C:Cfg:=⟨Try.prog,tyOf tys,35,gOf [(71,[],q12V)],false,[],[]⟩
def q13p:List PE := [e6,e15]
noncomputable def q13F:F1:=⟨q13C,rr q13p [(ty_0,false)] Try.f64,fun p=>none,0,[]⟩
theorem q13K:Contract Try.prog 64 (q13V):=ctr q13C (rs := [(ty_0,false)]) (ps:=q13p) q13F Try.f64 32 ⟨tyOf_ok tys_ok,gOf_ok ⟨q12K,trivial⟩⟩ (annl [] trivial)

noncomputable def q14V(k:Nat):Variant:=⟨[.val ty_4 false],[(.bool,false)],fun x=>spec_poGood k x.1⟩
noncomputable def q14C(k:Nat):Cfg:=⟨Try.prog,tyOf tys,38,gOf [(63,[],q11V),(64,[],q13V)],false,[],[]⟩
def q14i1:List PE := [e16,⟨5,32,.val ty_4 false,false⟩,⟨6,48,.val ty_0 false,false⟩,e10]
def q14o1:List PE := [e16]
noncomputable def q14f1(k:Nat)(n:Nat)(x3:PTe q14i1):=spec_poGood_L26 k n x3.1 x3.2.1 x3.2.2.1 x3.2.2.2.1
def q14p:List PE := [e1]
noncomputable def q14F(k:Nat):F2:=⟨q14C k,rr q14p [(.bool,false)] Try.f48,fun p=>bif Nat.beq p 26 then some (.loop q14i1 q14o1 0 80 (q14f1 k k))else none,0,[]⟩
theorem q14K(k:Nat):Contract Try.prog 48 (q14V k):=ctr (q14C k) (rs := [(.bool,false)]) (ps:=q14p) (q14F k) Try.f48 16 ⟨tyOf_ok tys_ok,gOf_ok ⟨q11K,q13K,trivial⟩⟩ (annl [26] ⟨lok q14i1 q14o1 0 80 (q14f1 k) k,trivial⟩)

noncomputable def q15V:Variant:=⟨[.val ty_0 false],[(ty_0,false)],fun x=>spec_dyPower x.1⟩
noncomputable def q15C:Cfg:=⟨Try.prog,tyOf tys,6,gOf [],false,[],[]⟩
def q15p:List PE := [e5]
noncomputable def q15F:F1:=⟨q15C,rr q15p [(ty_0,false)] Try.f65,fun p=>none,0,[]⟩
theorem q15K:Contract Try.prog 65 (q15V):=ctr q15C (rs := [(ty_0,false)]) (ps:=q15p) q15F Try.f65 16 ⟨tyOf_ok tys_ok,gOf_ok trivial⟩ (annl [] trivial)

noncomputable def q16V(k:Nat):Variant:=⟨[.val ty_7 true],[(.bool,false)],fun x=>spec_bxGood k x.1⟩
noncomputable def q16C(k:Nat):Cfg:=⟨Try.prog,tyOf tys,80,gOf [(32,[],q10V),(65,[],q15V)],false,[],[]⟩
def q16i1:List PE := [⟨1,16,.box ty_7 false,false⟩,e17,⟨4,48,.val .bool false,false⟩,⟨36,64,.val ty_5 false,false⟩,⟨37,80,.val ty_0 false,false⟩,⟨38,96,.val ty_0 false,false⟩]
def q16o1:List PE := [⟨4,16,.val .bool false,false⟩]
noncomputable def q16f1(k:Nat)(n:Nat)(x6:PTe q16i1):=spec_bxGood_L250 k n x6.1 x6.2.1 x6.2.2.1 x6.2.2.2.1 x6.2.2.2.2.1 x6.2.2.2.2.2.1
def q16p:List PE := [e4]
noncomputable def q16F(k:Nat):F2:=⟨q16C k,rr q16p [(.bool,false)] Try.f49,fun p=>bif Nat.beq p 250 then some (.loop q16i1 q16o1 0 112 (q16f1 k k))else none,0,[]⟩
theorem q16K(k:Nat):Contract Try.prog 49 (q16V k):=ctr (q16C k) (rs := [(.bool,false)]) (ps:=q16p) (q16F k) Try.f49 16 ⟨tyOf_ok tys_ok,gOf_ok ⟨q10K,q15K,trivial⟩⟩ (annl [250] ⟨lok q16i1 q16o1 0 112 (q16f1 k) k,trivial⟩)

noncomputable def q17V:Variant:=⟨[.val ty_3 true,.val ty_0 false],[(ty_0,false)],fun x=>spec_poPower x.1 x.2.1⟩
noncomputable def q17C:Cfg:=⟨Try.prog,tyOf tys,16,gOf [],false,[],[]⟩
def q17p:List PE := [e6,e2]
noncomputable def q17F:F1:=⟨q17C,rr q17p [(ty_0,false)] Try.f67,fun p=>none,0,[]⟩
theorem q17K:Contract Try.prog 67 (q17V):=ctr q17C (rs := [(ty_0,false)]) (ps:=q17p) q17F Try.f67 32 ⟨tyOf_ok tys_ok,gOf_ok trivial⟩ (annl [] trivial)

noncomputable def q18V:Variant:=⟨[.val ty_0 false,.val ty_0 false],[(ty_0,false)],fun x=>spec_l1Most x.1 x.2.1⟩
noncomputable def q18C:Cfg:=⟨Try.prog,tyOf tys,10,gOf [],false,[],[]⟩
def q18p:List PE := [e5,e2]
noncomputable def q18F:F1:=⟨q18C,rr q18p [(ty_0,false)] Try.f66,fun p=>none,0,[]⟩
theorem q18K:Contract Try.prog 66 (q18V):=ctr q18C (rs := [(ty_0,false)]) (ps:=q18p) q18F Try.f66 32 ⟨tyOf_ok tys_ok,gOf_ok trivial⟩ (annl [] trivial)

noncomputable def q19V(k:Nat):Variant:=⟨[.val ty_4 false,.val ty_0 false],[(ty_0,false)],fun x=>spec_poDegreeIn k x.1 x.2.1⟩
noncomputable def q19C(k:Nat):Cfg:=⟨Try.prog,tyOf tys,21,gOf [(67,[],q17V),(66,[],q18V)],false,[],[]⟩
def q19i1:List PE := [e18,e19,⟨8,64,.val ty_4 false,false⟩,⟨9,80,.val ty_0 false,false⟩,⟨10,96,.val ty_0 false,false⟩]
def q19o1:List PE := [e20]
noncomputable def q19f1(k:Nat)(n:Nat)(x3:PTe q19i1):=spec_poDegreeIn_L58 k n x3.1 x3.2.1 x3.2.2.1 x3.2.2.2.1 x3.2.2.2.2.1
def q19p:List PE := [e1,e2]
noncomputable def q19F(k:Nat):F1:=⟨q19C k,rr q19p [(ty_0,false)] Try.f50,fun p=>bif Nat.beq p 58 then some (.loop q19i1 q19o1 0 112 (q19f1 k k))else none,0,[]⟩
theorem q19K(k:Nat):Contract Try.prog 50 (q19V k):=ctr (q19C k) (rs := [(ty_0,false)]) (ps:=q19p) (q19F k) Try.f50 32 ⟨tyOf_ok tys_ok,gOf_ok ⟨q17K,q18K,trivial⟩⟩ (annl [58] ⟨lok q19i1 q19o1 0 112 (q19f1 k) k,trivial⟩)

noncomputable def q20V(k:Nat):Variant:=⟨[.val ty_4 false,.val ty_7 true],[(.bool,false)],fun x=>spec_beAsked k x.1 x.2.1⟩
noncomputable def q20C(k:Nat):Cfg:=⟨Try.prog,tyOf tys,30,gOf [(48,[],q14V k),(49,[],q16V k),(50,[],q19V k)],false,[],[]⟩
def q20i1:List PE := [e7,e19]
def q20o1:List PE := []
noncomputable def q20f1(k:Nat)(n:Nat)(x4:PTe q20i1):=spec_beAsked_L58 k n x4.1 x4.2.1
def q20p:List PE := [e1,e21]
noncomputable def q20F(k:Nat):F2:=⟨q20C k,rr q20p [(.bool,false)] Try.f31,fun p=>bif Nat.beq p 58 then some (.loop q20i1 q20o1 0 64 (q20f1 k k))else none,0,[]⟩
theorem q20K(k:Nat):Contract Try.prog 31 (q20V k):=ctr (q20C k) (rs := [(.bool,false)]) (ps:=q20p) (q20F k) Try.f31 32 ⟨tyOf_ok tys_ok,gOf_ok ⟨q14K k,q16K k,q19K k,trivial⟩⟩ (annl [58] ⟨lok q20i1 q20o1 0 64 (q20f1 k) k,trivial⟩)

noncomputable def q21V:Variant:=⟨[.val ty_5 false],[(ty_5,false)],fun x=>spec_l1Own x.1⟩
noncomputable def q21C:Cfg:=⟨Try.prog,tyOf tys,6,gOf [],false,[],[]⟩
def q21p:List PE := [e3]
noncomputable def q21F:F3:=⟨q21C,rr q21p [(ty_5,false)] Try.f51,fun p=>none,0,[]⟩
theorem q21K:Contract Try.prog 51 (q21V):=ctr q21C (rs := [(ty_5,false)]) (ps:=q21p) q21F Try.f51 16 ⟨tyOf_ok tys_ok,gOf_ok trivial⟩ (annl [] trivial)

noncomputable def q22V(k:Nat):Variant:=⟨[.val ty_4 false,.val ty_5 false,.val ty_5 false],[(ty_5,false)],fun x=>spec_beDegrees k x.1 x.2.1 x.2.2.1⟩
noncomputable def q22C(k:Nat):Cfg:=⟨Try.prog,tyOf tys,33,gOf [(50,[],q19V k),(66,[],q18V)],false,[],[]⟩
def q22i1:List PE := [⟨0,48,.val ty_4 false,false⟩,⟨1,64,.val ty_5 false,false⟩,e22,⟨7,96,.eat ty_0,false⟩,⟨11,112,.val ty_0 false,false⟩,⟨12,128,.val ty_0 false,false⟩]
def q22o1:List PE := [⟨7,48,.eat ty_0,false⟩]
noncomputable def q22f1(k:Nat)(n:Nat)(x3:PTe q22i1):=spec_beDegrees_L58 k n x3.1 x3.2.1 x3.2.2.1 x3.2.2.2.1 x3.2.2.2.2.1 x3.2.2.2.2.2.1
def q22p:List PE := [e1,e23,e24]
noncomputable def q22F(k:Nat):F3:=⟨q22C k,rr q22p [(ty_5,false)] Try.f83,fun p=>bif Nat.beq p 58 then some (.loop q22i1 q22o1 0 144 (q22f1 k k))else none,0,[]⟩
theorem q22K(k:Nat):Contract Try.prog 83 (q22V k):=ctr (q22C k) (rs := [(ty_5,false)]) (ps:=q22p) (q22F k) Try.f83 48 ⟨tyOf_ok tys_ok,gOf_ok ⟨q19K k,q18K,trivial⟩⟩ (annl [58] ⟨lok q22i1 q22o1 0 144 (q22f1 k) k,trivial⟩)

noncomputable def q23V(k:Nat):Variant:=⟨[.val ty_4 false],[(ty_0,false)],fun x=>spec_poDegree k x.1⟩
noncomputable def q23C(k:Nat):Cfg:=⟨Try.prog,tyOf tys,24,gOf [(66,[],q18V)],false,[],[]⟩
def q23i1:List PE := [e25,⟨6,32,.val ty_4 false,false⟩,e26,e27]
def q23o1:List PE := [e25]
noncomputable def q23f1(k:Nat)(n:Nat)(x2:PTe q23i1):=spec_poDegree_L58 k n x2.1 x2.2.1 x2.2.2.1 x2.2.2.2.1
def q23p:List PE := [e1]
noncomputable def q23F(k:Nat):F1:=⟨q23C k,rr q23p [(ty_0,false)] Try.f85,fun p=>bif Nat.beq p 58 then some (.loop q23i1 q23o1 0 80 (q23f1 k k))else none,0,[]⟩
theorem q23K(k:Nat):Contract Try.prog 85 (q23V k):=ctr (q23C k) (rs := [(ty_0,false)]) (ps:=q23p) (q23F k) Try.f85 16 ⟨tyOf_ok tys_ok,gOf_ok ⟨q18K,trivial⟩⟩ (annl [58] ⟨lok q23i1 q23o1 0 80 (q23f1 k) k,trivial⟩)

noncomputable def q24V(k:Nat):Variant:=⟨[.val ty_0 false,.val ty_0 false],[(ty_0,false)],fun x=>spec_bePower k x.1 x.2.1⟩
noncomputable def q24C(k:Nat):Cfg:=⟨Try.prog,tyOf tys,14,gOf [],false,[],[]⟩
def q24i1:List PE := [e28,e29,e30]
def q24o1:List PE := [e20]
noncomputable def q24f1(k:Nat)(n:Nat)(x1:PTe q24i1):=spec_bePower_L28 k n x1.1 x1.2.1 x1.2.2.1
def q24p:List PE := [e5,e2]
noncomputable def q24F(k:Nat):F1:=⟨q24C k,rr q24p [(ty_0,false)] Try.f84,fun p=>bif Nat.beq p 28 then some (.loop q24i1 q24o1 0 80 (q24f1 k k))else none,0,[]⟩
theorem q24K(k:Nat):Contract Try.prog 84 (q24V k):=ctr (q24C k) (rs := [(ty_0,false)]) (ps:=q24p) (q24F k) Try.f84 32 ⟨tyOf_ok tys_ok,gOf_ok trivial⟩ (annl [28] ⟨lok q24i1 q24o1 0 80 (q24f1 k) k,trivial⟩)

noncomputable def q25V:Variant:=⟨[.val ty_0 false,.val ty_0 false],[(ty_0,false)],fun x=>spec_l1Least x.1 x.2.1⟩
noncomputable def q25C:Cfg:=⟨Try.prog,tyOf tys,10,gOf [],false,[],[]⟩
def q25p:List PE := [e5,e2]
noncomputable def q25F:F1:=⟨q25C,rr q25p [(ty_0,false)] Try.f86,fun p=>none,0,[]⟩
theorem q25K:Contract Try.prog 86 (q25V):=ctr q25C (rs := [(ty_0,false)]) (ps:=q25p) q25F Try.f86 32 ⟨tyOf_ok tys_ok,gOf_ok trivial⟩ (annl [] trivial)

noncomputable def q26V:Variant:=⟨[.val ty_5 false,.val ty_0 false,.val ty_0 false,.val ty_0 false],[(ty_0,false)],fun x=>spec_beAt x.1 x.2.1 x.2.2.1 x.2.2.2.1⟩
noncomputable def q26C:Cfg:=⟨Try.prog,tyOf tys,24,gOf [],false,[],[]⟩
def q26p:List PE := [e3,e2,e14,e31]
noncomputable def q26F:F1:=⟨q26C,rr q26p [(ty_0,false)] Try.f69,fun p=>none,0,[]⟩
theorem q26K:Contract Try.prog 69 (q26V):=ctr q26C (rs := [(ty_0,false)]) (ps:=q26p) q26F Try.f69 64 ⟨tyOf_ok tys_ok,gOf_ok trivial⟩ (annl [] trivial)

noncomputable def q27V(k:Nat):Variant:=⟨[.val ty_0 false,.val ty_0 false],[(ty_0,false)],fun x=>spec_beChoose k x.1 x.2.1⟩
noncomputable def q27C(k:Nat):Cfg:=⟨Try.prog,tyOf tys,21,gOf [],false,[],[]⟩
def q27i1:List PE := [e28,e29,e30,⟨6,80,.val ty_0 false,false⟩]
def q27o1:List PE := [e20]
noncomputable def q27f1(k:Nat)(n:Nat)(x1:PTe q27i1):=spec_beChoose_L58 k n x1.1 x1.2.1 x1.2.2.1 x1.2.2.2.1
def q27p:List PE := [e5,e2]
noncomputable def q27F(k:Nat):F1:=⟨q27C k,rr q27p [(ty_0,false)] Try.f91,fun p=>bif Nat.beq p 58 then some (.loop q27i1 q27o1 0 96 (q27f1 k k))else none,0,[]⟩
theorem q27K(k:Nat):Contract Try.prog 91 (q27V k):=ctr (q27C k) (rs := [(ty_0,false)]) (ps:=q27p) (q27F k) Try.f91 32 ⟨tyOf_ok tys_ok,gOf_ok trivial⟩ (annl [58] ⟨lok q27i1 q27o1 0 96 (q27f1 k) k,trivial⟩)

noncomputable def q28V(k:Nat):Variant:=⟨[.val ty_0 false,.val ty_0 false,.val ty_0 false,.val ty_0 false],[(ty_0,false)],fun x=>spec_bePart k x.1 x.2.1 x.2.2.1 x.2.2.2.1⟩
noncomputable def q28C(k:Nat):Cfg:=⟨Try.prog,tyOf tys,24,gOf [(91,[],q27V k),(84,[],q24V k)],false,[],[]⟩
def q28p:List PE := [e5,e2,e14,e31]
noncomputable def q28F(k:Nat):F1:=⟨q28C k,rr q28p [(ty_0,false)] Try.f87,fun p=>none,0,[]⟩
theorem q28K(k:Nat):Contract Try.prog 87 (q28V k):=ctr (q28C k) (rs := [(ty_0,false)]) (ps:=q28p) (q28F k) Try.f87 64 ⟨tyOf_ok tys_ok,gOf_ok ⟨q27K k,q24K k,trivial⟩⟩ (annl [] trivial)

noncomputable def q29V(k:Nat):Variant:=⟨[.val ty_4 false,.val ty_5 false,.val ty_5 false,.val ty_0 false],[(ty_5,false),(ty_5,false)],fun x=>spec_beGrid k x.1 x.2.1 x.2.2.1 x.2.2.2.1⟩
noncomputable def q29C(k:Nat):Cfg:=⟨Try.prog,tyOf tys,162,gOf [(83,[],q22V k),(65,[],q15V),(85,[],q23V k),(84,[],q24V k),(86,[],q25V),(69,[],q26V),(87,[],q28V k)],false,[],[]⟩
def q29i1:List PE := [e32,⟨1,80,.val ty_5 false,false⟩,⟨2,96,.val ty_5 false,false⟩,⟨3,112,.val ty_0 false,false⟩,e33,⟨11,144,.eat ty_0,false⟩,⟨12,160,.eat ty_0,false⟩,e34,⟨43,192,.val ty_0 false,false⟩,⟨44,208,.val ty_0 false,false⟩]
def q29o1:List PE := [e32,e35,e36,e37,e38,e39]
noncomputable def q29f1(k:Nat)(n:Nat)(x2:PTe q29i1):=spec_beGrid_L250 k n x2.1 x2.2.1 x2.2.2.1 x2.2.2.2.1 x2.2.2.2.2.1 x2.2.2.2.2.2.1 x2.2.2.2.2.2.2.1 x2.2.2.2.2.2.2.2.1 x2.2.2.2.2.2.2.2.2.1 x2.2.2.2.2.2.2.2.2.2.1
def q29i2:List PE := [e32,e35,e36,e37,e38,e39,e40,e41,e42,e43,⟨20,224,.val ty_0 false,false⟩,⟨62,240,.val ty_4 false,false⟩,⟨63,256,.val ty_0 false,false⟩,⟨64,272,.val ty_0 false,false⟩]
def q29o2:List PE := [e32,e35,e36,e37,e38,e39,e40,e41,e42,e43,⟨62,224,.val ty_4 false,false⟩,⟨63,240,.val ty_0 false,false⟩,⟨64,256,.val ty_0 false,false⟩]
noncomputable def q29f2(k:Nat)(n:Nat)(x15:PTe q29i2):=spec_beGrid_L1062003858 k n x15.1 x15.2.1 x15.2.2.1 x15.2.2.2.1 x15.2.2.2.2.1 x15.2.2.2.2.2.1 x15.2.2.2.2.2.2.1 x15.2.2.2.2.2.2.2.1 x15.2.2.2.2.2.2.2.2.1 x15.2.2.2.2.2.2.2.2.2.1 x15.2.2.2.2.2.2.2.2.2.2.1 x15.2.2.2.2.2.2.2.2.2.2.2.1 x15.2.2.2.2.2.2.2.2.2.2.2.2.1 x15.2.2.2.2.2.2.2.2.2.2.2.2.2.1
def q29i3:List PE := [e32,e35,e36,e37,e38,e39,e40,e41,e42,e43,⟨62,224,.val ty_4 false,false⟩,⟨63,240,.val ty_0 false,false⟩,⟨64,256,.val ty_0 false,false⟩]
def q29o3:List PE := [e32,e35,e36,e37,e38,e39,e40,e41,e42,⟨62,208,.val ty_4 false,false⟩,⟨63,224,.val ty_0 false,false⟩,⟨64,240,.val ty_0 false,false⟩]
noncomputable def q29f3(k:Nat)(n:Nat)(x18:PTe q29i3):=spec_beGrid_L16593810 k n x18.1 x18.2.1 x18.2.2.1 x18.2.2.2.1 x18.2.2.2.2.1 x18.2.2.2.2.2.1 x18.2.2.2.2.2.2.1 x18.2.2.2.2.2.2.2.1 x18.2.2.2.2.2.2.2.2.1 x18.2.2.2.2.2.2.2.2.2.1 x18.2.2.2.2.2.2.2.2.2.2.1 x18.2.2.2.2.2.2.2.2.2.2.2.1 x18.2.2.2.2.2.2.2.2.2.2.2.2.1
def q29i4:List PE := [e32,e35,e36,e37,e38,e39,e40,e41,e42,⟨62,208,.val ty_4 false,false⟩,⟨63,224,.val ty_0 false,false⟩,⟨64,240,.val ty_0 false,false⟩]
def q29o4:List PE := [e32,e35,e36,e37,e38,e39,⟨62,160,.val ty_4 false,false⟩,⟨63,176,.val ty_0 false,false⟩,⟨64,192,.val ty_0 false,false⟩]
noncomputable def q29f4(k:Nat)(n:Nat)(x21:PTe q29i4):=spec_beGrid_L259278 k n x21.1 x21.2.1 x21.2.2.1 x21.2.2.2.1 x21.2.2.2.2.1 x21.2.2.2.2.2.1 x21.2.2.2.2.2.2.1 x21.2.2.2.2.2.2.2.1 x21.2.2.2.2.2.2.2.2.1 x21.2.2.2.2.2.2.2.2.2.1 x21.2.2.2.2.2.2.2.2.2.2.1 x21.2.2.2.2.2.2.2.2.2.2.2.1
def q29i5:List PE := [e32,e35,e36,e37,e38,e39,⟨62,160,.val ty_4 false,false⟩,⟨63,176,.val ty_0 false,false⟩,⟨64,192,.val ty_0 false,false⟩]
def q29o5:List PE := [e44,e45]
noncomputable def q29f5(k:Nat)(n:Nat)(x24:PTe q29i5):=spec_beGrid_L506 k n x24.1 x24.2.1 x24.2.2.1 x24.2.2.2.1 x24.2.2.2.2.1 x24.2.2.2.2.2.1 x24.2.2.2.2.2.2.1 x24.2.2.2.2.2.2.2.1 x24.2.2.2.2.2.2.2.2.1
def q29p:List PE := [e1,e23,e24,e31]
noncomputable def q29F(k:Nat):Fn ((List Int)×List Int):=⟨q29C k,rr q29p [(ty_5,false),(ty_5,false)] Try.f68,fun p=>bif Nat.beq p 250 then some (.loop q29i1 q29o1 0 224 (q29f1 k k))else bif Nat.beq p 1062003858 then some (.loop q29i2 q29o2 8 288 (q29f2 k k))else bif Nat.beq p 16593810 then some (.loop q29i3 q29o3 6 272 (q29f3 k k))else bif Nat.beq p 259278 then some (.loop q29i4 q29o4 4 256 (q29f4 k k))else bif Nat.beq p 506 then some (.loop q29i5 q29o5 2 208 (q29f5 k k))else none,0,[]⟩
theorem q29K(k:Nat):Contract Try.prog 68 (q29V k):=ctr (q29C k) (rs := [(ty_5,false),(ty_5,false)]) (ps:=q29p) (q29F k) Try.f68 64 ⟨tyOf_ok tys_ok,gOf_ok ⟨q22K k,q15K,q23K k,q24K k,q25K,q26K,q28K k,trivial⟩⟩ (annl [250,506,259278,16593810,1062003858] ⟨lok q29i1 q29o1 0 224 (q29f1 k) k,lok q29i5 q29o5 2 208 (q29f5 k) k,lok q29i4 q29o4 4 256 (q29f4 k) k,lok q29i3 q29o3 6 272 (q29f3 k) k,lok q29i2 q29o2 8 288 (q29f2 k) k,trivial⟩)

noncomputable def q30V:Variant:=⟨[.val ty_0 false],[(ty_0,false)],fun x=>spec_beFactor x.1⟩
noncomputable def q30C:Cfg:=⟨Try.prog,tyOf tys,7,gOf [],false,[],[]⟩
def q30p:List PE := [e5]
noncomputable def q30F:F1:=⟨q30C,rr q30p [(ty_0,false)] Try.f92,fun p=>none,0,[]⟩
theorem q30K:Contract Try.prog 92 (q30V):=ctr q30C (rs := [(ty_0,false)]) (ps:=q30p) q30F Try.f92 16 ⟨tyOf_ok tys_ok,gOf_ok trivial⟩ (annl [] trivial)

noncomputable def q31V(k:Nat):Variant:=⟨[.val ty_5 false],[(ty_5,false)],fun x=>spec_beOne k x.1⟩
noncomputable def q31C(k:Nat):Cfg:=⟨Try.prog,tyOf tys,44,gOf [(91,[],q27V k),(92,[],q30V)],false,[],[]⟩
def q31i1:List PE := [e46,e17,e47,e30,⟨6,80,.val ty_0 false,false⟩,⟨7,96,.val ty_0 false,false⟩,⟨12,112,.val ty_0 false,false⟩,⟨13,128,.val ty_0 false,false⟩]
def q31o1:List PE := [e46,e17,e47,e9,⟨12,80,.val ty_0 false,false⟩,⟨13,96,.val ty_0 false,false⟩]
noncomputable def q31f1(k:Nat)(n:Nat)(x4:PTe q31i1):=spec_beOne_L125338 k n x4.1 x4.2.1 x4.2.2.1 x4.2.2.2.1 x4.2.2.2.2.1 x4.2.2.2.2.2.1 x4.2.2.2.2.2.2.1 x4.2.2.2.2.2.2.2.1
def q31i2:List PE := [e46,e17,e47,e48,e49]
def q31o2:List PE := [⟨4,16,.eat ty_0,false⟩]
noncomputable def q31f2(k:Nat)(n:Nat)(x7:PTe q31i2):=spec_beOne_L122 k n x7.1 x7.2.1 x7.2.2.1 x7.2.2.2.1 x7.2.2.2.2.1
def q31p:List PE := [e3]
noncomputable def q31F(k:Nat):F3:=⟨q31C k,rr q31p [(ty_5,false)] Try.f88,fun p=>bif Nat.beq p 125338 then some (.loop q31i1 q31o1 2 144 (q31f1 k k))else bif Nat.beq p 122 then some (.loop q31i2 q31o2 0 96 (q31f2 k k))else none,0,[]⟩
theorem q31K(k:Nat):Contract Try.prog 88 (q31V k):=ctr (q31C k) (rs := [(ty_5,false)]) (ps:=q31p) (q31F k) Try.f88 16 ⟨tyOf_ok tys_ok,gOf_ok ⟨q27K k,q30K,trivial⟩⟩ (annl [122,125338] ⟨lok q31i2 q31o2 0 96 (q31f2 k) k,lok q31i1 q31o1 2 144 (q31f1 k) k,trivial⟩)

noncomputable def q32V(k:Nat):Variant:=⟨[.own ty_0,.val ty_5 false],[],fun x=>spec_beLine k x.1 x.2.1⟩
noncomputable def q32C(k:Nat):Cfg:=⟨Try.prog,tyOf tys,39,gOf [(88,[],q31V k)],false,[],[]⟩
def q32i1:List PE := [e50,e51,e47,⟨9,64,.val ty_5 false,false⟩,⟨10,80,.val ty_0 false,false⟩,⟨11,96,.val ty_0 false,false⟩]
def q32o1:List PE := [e50,e51,e47]
noncomputable def q32f1(k:Nat)(n:Nat)(x1:PTe q32i1):=spec_beLine_L26 k n x1.1 x1.2.1 x1.2.2.1 x1.2.2.2.1 x1.2.2.2.2.1 x1.2.2.2.2.2.1
def q32i2:List PE := [e50,e51,⟨24,48,.eat ty_0,false⟩,⟨25,64,.val ty_0 false,false⟩,⟨26,80,.val ty_0 false,false⟩]
def q32o2:List PE := [e50]
noncomputable def q32f2(k:Nat)(n:Nat)(x5:PTe q32i2):=spec_beLine_L30 k n x5.1 x5.2.1 x5.2.2.1 x5.2.2.2.1 x5.2.2.2.2.1
def q32p:List PE := [e50,e23]
noncomputable def q32F(k:Nat):F3:=⟨q32C k,rr q32p [] Try.f70,fun p=>bif Nat.beq p 26 then some (.loop q32i1 q32o1 0 112 (q32f1 k k))else bif Nat.beq p 30 then some (.loop q32i2 q32o2 2 96 (q32f2 k k))else none,0,[0]⟩
theorem q32K(k:Nat):Contract Try.prog 70 (q32V k):=ctr (q32C k) (rs := []) (ps:=q32p) (q32F k) Try.f70 32 ⟨tyOf_ok tys_ok,gOf_ok ⟨q31K k,trivial⟩⟩ (annl [26,30] ⟨lok q32i1 q32o1 0 112 (q32f1 k) k,lok q32i2 q32o2 2 96 (q32f2 k) k,trivial⟩)

noncomputable def q33V(k:Nat):Variant:=⟨[.val ty_4 false,.val ty_5 false,.val ty_5 false,.val ty_0 false],[(ty_5,false),(ty_5,false)],fun x=>spec_beList k x.1 x.2.1 x.2.2.1 x.2.2.2.1⟩
noncomputable def q33C(k:Nat):Cfg:=⟨Try.prog,tyOf tys,130,gOf [(68,[],q29V k),(69,[],q26V),(70,[],q32V k)],false,[],[]⟩
def q33i1:List PE := [e44,e45,e52,e53,⟨14,128,.eat ty_0,false⟩,⟨15,144,.val ty_0 false,false⟩]
def q33o1:List PE := [e44,e45,e52,e53,⟨14,128,.eat ty_0,false⟩]
noncomputable def q33f1(k:Nat)(n:Nat)(x3:PTe q33i1):=spec_beList_L954954 k n x3.1 x3.2.1 x3.2.2.1 x3.2.2.2.1 x3.2.2.2.2.1 x3.2.2.2.2.2.1
def q33i2:List PE := [e44,e45,e52,e53]
def q33o2:List PE := [e44,e45,e52]
noncomputable def q33f2(k:Nat)(n:Nat)(x7:PTe q33i2):=spec_beList_L3730 k n x7.1 x7.2.1 x7.2.2.1 x7.2.2.2.1
def q33i3:List PE := [e44,e45,e52]
def q33o3:List PE := [e44,e45]
noncomputable def q33f3(k:Nat)(n:Nat)(x10:PTe q33i3):=spec_beList_L58 k n x10.1 x10.2.1 x10.2.2.1
def q33i4:List PE := [e44,e45,e54,e55,⟨18,128,.eat ty_0,false⟩,⟨19,144,.val ty_0 false,false⟩]
def q33o4:List PE := [e44,e45,e54,e55,⟨18,128,.eat ty_0,false⟩]
noncomputable def q33f4(k:Nat)(n:Nat)(x14:PTe q33i4):=spec_beList_L2003530 k n x14.1 x14.2.1 x14.2.2.1 x14.2.2.2.1 x14.2.2.2.2.1 x14.2.2.2.2.2.1
def q33i5:List PE := [e44,e45,e54,e55]
def q33o5:List PE := [e44,e45,e54]
noncomputable def q33f5(k:Nat)(n:Nat)(x18:PTe q33i5):=spec_beList_L7826 k n x18.1 x18.2.1 x18.2.2.1 x18.2.2.2.1
def q33i6:List PE := [e44,e45,e54]
def q33o6:List PE := [e44,e45]
noncomputable def q33f6(k:Nat)(n:Nat)(x21:PTe q33i6):=spec_beList_L122 k n x21.1 x21.2.1 x21.2.2.1
def q33i7:List PE := [e44,e45,e56,e57,⟨22,128,.eat ty_0,false⟩,⟨23,144,.val ty_0 false,false⟩]
def q33o7:List PE := [e44,e45,e56,e57,⟨22,128,.eat ty_0,false⟩]
noncomputable def q33f7(k:Nat)(n:Nat)(x25:PTe q33i7):=spec_beList_L4100682 k n x25.1 x25.2.1 x25.2.2.1 x25.2.2.2.1 x25.2.2.2.2.1 x25.2.2.2.2.2.1
def q33i8:List PE := [e44,e45,e56,e57]
def q33o8:List PE := [e44,e45,e56]
noncomputable def q33f8(k:Nat)(n:Nat)(x29:PTe q33i8):=spec_beList_L16018 k n x29.1 x29.2.1 x29.2.2.1 x29.2.2.2.1
def q33i9:List PE := [e44,e45,e56]
def q33o9:List PE := [e44,e45]
noncomputable def q33f9(k:Nat)(n:Nat)(x32:PTe q33i9):=spec_beList_L250 k n x32.1 x32.2.1 x32.2.2.1
def q33p:List PE := [e1,e23,e24,e31]
noncomputable def q33F(k:Nat):Fn ((List Int)×List Int):=⟨q33C k,rr q33p [(ty_5,false),(ty_5,false)] Try.f52,fun p=>bif Nat.beq p 954954 then some (.loop q33i1 q33o1 4 160 (q33f1 k k))else bif Nat.beq p 3730 then some (.loop q33i2 q33o2 2 128 (q33f2 k k))else bif Nat.beq p 58 then some (.loop q33i3 q33o3 0 112 (q33f3 k k))else bif Nat.beq p 2003530 then some (.loop q33i4 q33o4 10 160 (q33f4 k k))else bif Nat.beq p 7826 then some (.loop q33i5 q33o5 8 128 (q33f5 k k))else bif Nat.beq p 122 then some (.loop q33i6 q33o6 6 112 (q33f6 k k))else bif Nat.beq p 4100682 then some (.loop q33i7 q33o7 16 160 (q33f7 k k))else bif Nat.beq p 16018 then some (.loop q33i8 q33o8 14 128 (q33f8 k k))else bif Nat.beq p 250 then some (.loop q33i9 q33o9 12 112 (q33f9 k k))else none,0,[]⟩
theorem q33K(k:Nat):Contract Try.prog 52 (q33V k):=ctr (q33C k) (rs := [(ty_5,false),(ty_5,false)]) (ps:=q33p) (q33F k) Try.f52 64 ⟨tyOf_ok tys_ok,gOf_ok ⟨q29K k,q26K,q32K k,trivial⟩⟩ (annl [58,3730,954954,122,7826,2003530,250,16018,4100682] ⟨lok q33i3 q33o3 0 112 (q33f3 k) k,lok q33i2 q33o2 2 128 (q33f2 k) k,lok q33i1 q33o1 4 160 (q33f1 k) k,lok q33i6 q33o6 6 112 (q33f6 k) k,lok q33i5 q33o5 8 128 (q33f5 k) k,lok q33i4 q33o4 10 160 (q33f4 k) k,lok q33i9 q33o9 12 112 (q33f9 k) k,lok q33i8 q33o8 14 128 (q33f8 k) k,lok q33i7 q33o7 16 160 (q33f7 k) k,trivial⟩)

noncomputable def q34V(k:Nat):Variant:=⟨[.val ty_5 false],[(ty_0,false)],fun x=>spec_beSign k x.1⟩
noncomputable def q34C(k:Nat):Cfg:=⟨Try.prog,tyOf tys,22,gOf [(71,[],q12V)],false,[],[]⟩
def q34i1:List PE := [e25,⟨10,32,.val ty_5 false,false⟩,⟨11,48,.val ty_0 false,false⟩,e48]
def q34o1:List PE := [e25]
noncomputable def q34f1(k:Nat)(n:Nat)(x3:PTe q34i1):=spec_beSign_L58 k n x3.1 x3.2.1 x3.2.2.1 x3.2.2.2.1
def q34p:List PE := [e3]
noncomputable def q34F(k:Nat):F1:=⟨q34C k,rr q34p [(ty_0,false)] Try.f53,fun p=>bif Nat.beq p 58 then some (.loop q34i1 q34o1 0 80 (q34f1 k k))else none,0,[]⟩
theorem q34K(k:Nat):Contract Try.prog 53 (q34V k):=ctr (q34C k) (rs := [(ty_0,false)]) (ps:=q34p) (q34F k) Try.f53 16 ⟨tyOf_ok tys_ok,gOf_ok ⟨q12K,trivial⟩⟩ (annl [58] ⟨lok q34i1 q34o1 0 80 (q34f1 k) k,trivial⟩)

noncomputable def q35V(k:Nat):Variant:=⟨[.val ty_4 false,.val ty_7 true,.val ty_0 false,.val .bool false],[(ty_0,false)],fun x=>spec_miFace k x.1 x.2.1 x.2.2.1 x.2.2.2.1⟩
noncomputable def q35C(k:Nat):Cfg:=⟨Try.prog,tyOf tys,45,gOf [(51,[],q21V),(52,[],q33V k),(53,[],q34V k)],false,[],[]⟩
def q35p:List PE := [e1,e21,e14,⟨3,48,.val .bool false,false⟩]
noncomputable def q35F(k:Nat):F1:=⟨q35C k,rr q35p [(ty_0,false)] Try.f33,fun p=>bif Nat.beq p 14 then some (.cut [e32,⟨2,80,.val ty_0 false,false⟩,⟨5,96,.box ty_7 false,false⟩,⟨9,112,.eat ty_0,false⟩,e33] 144)else none,0,[]⟩
theorem q35K(k:Nat):Contract Try.prog 33 (q35V k):=ctr (q35C k) (rs := [(ty_0,false)]) (ps:=q35p) (q35F k) Try.f33 64 ⟨tyOf_ok tys_ok,gOf_ok ⟨q21K,q33K k,q34K k,trivial⟩⟩ (annl [] trivial)

noncomputable def q36V(k:Nat):Variant:=⟨[.val ty_4 false,.val ty_7 true,.val ty_0 false],[(.bool,false)],fun x=>spec_miOpposite k x.1 x.2.1 x.2.2.1⟩
noncomputable def q36C(k:Nat):Cfg:=⟨Try.prog,tyOf tys,17,gOf [(33,[],q35V k)],false,[],[]⟩
def q36p:List PE := [e1,e21,e14]
noncomputable def q36F(k:Nat):F2:=⟨q36C k,rr q36p [(.bool,false)] Try.f43,fun p=>none,0,[]⟩
theorem q36K(k:Nat):Contract Try.prog 43 (q36V k):=ctr (q36C k) (rs := [(.bool,false)]) (ps:=q36p) (q36F k) Try.f43 48 ⟨tyOf_ok tys_ok,gOf_ok ⟨q35K k,trivial⟩⟩ (annl [] trivial)

noncomputable def q37V(k:Nat):Variant:=⟨[.val ty_4 false,.val ty_7 true],[(ty_5,false),(.bool,false)],fun x=>spec_OppositeSides k x.1 x.2.1⟩
noncomputable def q37C(k:Nat):Cfg:=⟨Try.prog,tyOf tys,28,gOf [(31,[],q20V k),(43,[],q36V k)],false,[],[]⟩
def q37i1:List PE := [e7,⟨3,48,.box ty_7 false,false⟩,⟨6,64,.eat ty_0,false⟩,e58,e59]
def q37o1:List PE := [⟨6,32,.eat ty_0,false⟩]
noncomputable def q37f1(k:Nat)(n:Nat)(x3:PTe q37i1):=spec_OppositeSides_L122 k n x3.1 x3.2.1 x3.2.2.1 x3.2.2.2.1 x3.2.2.2.2.1
def q37p:List PE := [e1,e21]
noncomputable def q37F(k:Nat):Fn ((List Int)×Bool):=⟨q37C k,rr q37p [(ty_5,false),(.bool,false)] Try.f14,fun p=>bif Nat.beq p 122 then some (.loop q37i1 q37o1 0 112 (q37f1 k k))else none,0,[]⟩
theorem q37K(k:Nat):Contract Try.prog 14 (q37V k):=ctr (q37C k) (rs := [(ty_5,false),(.bool,false)]) (ps:=q37p) (q37F k) Try.f14 32 ⟨tyOf_ok tys_ok,gOf_ok ⟨q20K k,q36K k,trivial⟩⟩ (annl [122] ⟨lok q37i1 q37o1 0 112 (q37f1 k) k,trivial⟩)

noncomputable def q38V:Variant:=⟨[.val ty_0 false,.val ty_0 false,.val ty_0 false],[(.bool,false)],fun x=>impl_inside x.1 x.2.1 x.2.2.1⟩
noncomputable def q38C:Cfg:=⟨Try.prog,tyOf tys,15,gOf [],false,[],[]⟩
def q38p:List PE := [e5,e2,e14]
noncomputable def q38F:F2:=⟨q38C,rr q38p [(.bool,false)] Try.f55,fun p=>none,0,[]⟩
theorem q38K:Contract Try.prog 55 (q38V):=ctr q38C (rs := [(.bool,false)]) (ps:=q38p) q38F Try.f55 48 ⟨tyOf_ok tys_ok,gOf_ok trivial⟩ (annl [] trivial)

noncomputable def q39V:Variant:=⟨[.val ty_3 true],[(ty_0,false)],fun x=>impl_Term_degree x.1⟩
noncomputable def q39C:Cfg:=⟨Try.prog,tyOf tys,11,gOf [],false,[],[]⟩
def q39p:List PE := [e6]
noncomputable def q39F:F1:=⟨q39C,rr q39p [(ty_0,false)] Try.f80,fun p=>none,0,[]⟩
theorem q39K:Contract Try.prog 80 (q39V):=ctr q39C (rs := [(ty_0,false)]) (ps:=q39p) q39F Try.f80 16 ⟨tyOf_ok tys_ok,gOf_ok trivial⟩ (annl [] trivial)

noncomputable def q40V:Variant:=⟨[.val ty_3 true],[(.bool,false)],fun x=>impl_hasDegree x.1⟩
noncomputable def q40C:Cfg:=⟨Try.prog,tyOf tys,21,gOf [(55,[],q38V),(80,[],q39V)],false,[],[]⟩
def q40p:List PE := [e6]
noncomputable def q40F:F2:=⟨q40C,rr q40p [(.bool,false)] Try.f89,fun p=>none,0,[]⟩
theorem q40K:Contract Try.prog 89 (q40V):=ctr q40C (rs := [(.bool,false)]) (ps:=q40p) q40F Try.f89 16 ⟨tyOf_ok tys_ok,gOf_ok ⟨q38K,q39K,trivial⟩⟩ (annl [] trivial)

noncomputable def q41V:Variant:=⟨[.val ty_0 false],[(.bool,false)],fun x=>cmp_isNaN_int x.1⟩
noncomputable def q41C:Cfg:=⟨Try.prog,tyOf tys,6,gOf [],false,[],[]⟩
def q41p:List PE := [e5]
noncomputable def q41F:F2:=⟨q41C,rr q41p [(.bool,false)] Try.f95,fun p=>none,0,[]⟩
theorem q41K:Contract Try.prog 95 (q41V):=ctr q41C (rs := [(.bool,false)]) (ps:=q41p) q41F Try.f95 16 ⟨tyOf_ok tys_ok,gOf_ok trivial⟩ (annl [] trivial)

noncomputable def q42V:Variant:=⟨[.val ty_0 false,.val ty_0 false],[(ty_0,false)],fun x=>cmp_Compare_int x.1 x.2.1⟩
noncomputable def q42C:Cfg:=⟨Try.prog,tyOf tys,20,gOf [(95,[],q41V)],false,[],[]⟩
def q42p:List PE := [e5,e2]
noncomputable def q42F:F1:=⟨q42C,rr q42p [(ty_0,false)] Try.f94,fun p=>none,0,[]⟩
theorem q42K:Contract Try.prog 94 (q42V):=ctr q42C (rs := [(ty_0,false)]) (ps:=q42p) q42F Try.f94 32 ⟨tyOf_ok tys_ok,gOf_ok ⟨q41K,trivial⟩⟩ (annl [] trivial)

noncomputable def q43V(k:Nat):Variant:=⟨[.val ty_5 false],[(ty_0,false)],fun x=>cmp_Or_int k x.1⟩
noncomputable def q43C(k:Nat):Cfg:=⟨Try.prog,tyOf tys,18,gOf [],false,[],[]⟩
def q43i1:List PE := [e25,⟨6,32,.val ty_5 false,false⟩,e26,e27]
def q43o1:List PE := [e25]
noncomputable def q43f1(k:Nat)(n:Nat)(x1:PTe q43i1):=cmp_Or_int_L58 k n x1.1 x1.2.1 x1.2.2.1 x1.2.2.2.1
def q43p:List PE := [e3]
noncomputable def q43F(k:Nat):F1:=⟨q43C k,rr q43p [(ty_0,false)] Try.f93,fun p=>bif Nat.beq p 58 then some (.loop q43i1 q43o1 0 80 (q43f1 k k))else none,0,[]⟩
theorem q43K(k:Nat):Contract Try.prog 93 (q43V k):=ctr (q43C k) (rs := [(ty_0,false)]) (ps:=q43p) (q43F k) Try.f93 16 ⟨tyOf_ok tys_ok,gOf_ok trivial⟩ (annl [58] ⟨lok q43i1 q43o1 0 80 (q43f1 k) k,trivial⟩)

noncomputable def q44V(k:Nat):Variant:=⟨[.val ty_3 true,.val ty_3 true],[(ty_0,false)],fun x=>impl_compareTerms k x.1 x.2.1⟩
noncomputable def q44C(k:Nat):Cfg:=⟨Try.prog,tyOf tys,22,gOf [(94,[],q42V),(93,[],q43V k)],false,[],[]⟩
def q44p:List PE := [e6,e15]
noncomputable def q44F(k:Nat):F1:=⟨q44C k,rr q44p [(ty_0,false)] Try.f90,fun p=>none,0,[]⟩
theorem q44K(k:Nat):Contract Try.prog 90 (q44V k):=ctr (q44C k) (rs := [(ty_0,false)]) (ps:=q44p) (q44F k) Try.f90 32 ⟨tyOf_ok tys_ok,gOf_ok ⟨q42K,q43K k,trivial⟩⟩ (annl [] trivial)

noncomputable def q45V(k:Nat):Variant:=⟨[.val ty_4 false],[(.bool,false)],fun x=>impl_isPoly k x.1⟩
noncomputable def q45C(k:Nat):Cfg:=⟨Try.prog,tyOf tys,44,gOf [(55,[],q38V),(89,[],q40V),(90,[],q44V k)],false,[],[]⟩
def q45i1:List PE := [e16,⟨5,32,.val ty_4 false,false⟩,⟨6,48,.val ty_0 false,false⟩,e10]
def q45o1:List PE := [e16]
noncomputable def q45f1(k:Nat)(n:Nat)(x4:PTe q45i1):=impl_isPoly_L26 k n x4.1 x4.2.1 x4.2.2.1 x4.2.2.2.1
def q45p:List PE := [e1]
noncomputable def q45F(k:Nat):F2:=⟨q45C k,rr q45p [(.bool,false)] Try.f72,fun p=>bif Nat.beq p 26 then some (.loop q45i1 q45o1 0 80 (q45f1 k k))else none,0,[]⟩
theorem q45K(k:Nat):Contract Try.prog 72 (q45V k):=ctr (q45C k) (rs := [(.bool,false)]) (ps:=q45p) (q45F k) Try.f72 16 ⟨tyOf_ok tys_ok,gOf_ok ⟨q38K,q40K,q44K k,trivial⟩⟩ (annl [26] ⟨lok q45i1 q45o1 0 80 (q45f1 k) k,trivial⟩)

noncomputable def q46V(k:Nat):Variant:=⟨[.ptr ty_7 false],[(.bool,false)],fun x=>impl_isBox k x.1⟩
noncomputable def q46C(k:Nat):Cfg:=⟨Try.prog,tyOf tys,94,gOf [(55,[],q38V)],false,[],[]⟩
def q46i1:List PE := [⟨0,16,.ptr ty_7 false,false⟩,e17,⟨4,48,.val .bool false,false⟩,⟨48,64,.val ty_5 false,false⟩,⟨49,80,.val ty_0 false,false⟩,⟨50,96,.val ty_0 false,false⟩]
def q46o1:List PE := [⟨4,16,.val .bool false,false⟩]
noncomputable def q46f1(k:Nat)(n:Nat)(x5:PTe q46i1):=impl_isBox_L122 k n x5.1 x5.2.1 x5.2.2.1 x5.2.2.2.1 x5.2.2.2.2.1 x5.2.2.2.2.2.1
def q46p:List PE := [⟨0,0,.ptr ty_7 false,false⟩]
noncomputable def q46F(k:Nat):F2:=⟨q46C k,rr q46p [(.bool,false)] Try.f62,fun p=>bif Nat.beq p 122 then some (.loop q46i1 q46o1 0 112 (q46f1 k k))else none,0,[]⟩
theorem q46K(k:Nat):Contract Try.prog 62 (q46V k):=ctr (q46C k) (rs := [(.bool,false)]) (ps:=q46p) (q46F k) Try.f62 16 ⟨tyOf_ok tys_ok,gOf_ok ⟨q38K,trivial⟩⟩ (annl [122] ⟨lok q46i1 q46o1 0 112 (q46f1 k) k,trivial⟩)

noncomputable def q47V:Variant:=⟨[.val ty_3 true],[(ty_2,true)],fun x=>impl_Term_exponents x.1⟩
noncomputable def q47C:Cfg:=⟨Try.prog,tyOf tys,10,gOf [],false,[],[]⟩
def q47p:List PE := [e6]
noncomputable def q47F:Fn (Int×Int×Int):=⟨q47C,rr q47p [(ty_2,true)] Try.f79,fun p=>none,0,[]⟩
theorem q47K:Contract Try.prog 79 (q47V):=ctr q47C (rs := [(ty_2,true)]) (ps:=q47p) q47F Try.f79 16 ⟨tyOf_ok tys_ok,gOf_ok trivial⟩ (annl [] trivial)

noncomputable def q48V(k:Nat):Variant:=⟨[.val ty_4 false,.val ty_0 false],[(.bool,false)],fun x=>impl_needsAtMost k x.1 x.2.1⟩
noncomputable def q48C(k:Nat):Cfg:=⟨Try.prog,tyOf tys,30,gOf [(79,[],q47V)],false,[],[]⟩
def q48i1:List PE := [e18,e60,e61,e62,⟨16,96,.val ty_2 true,false⟩,e55]
def q48o1:List PE := [e18,e60,e61,e62]
noncomputable def q48f1(k:Nat)(n:Nat)(x2:PTe q48i1):=impl_needsAtMost_L6758 k n x2.1 x2.2.1 x2.2.2.1 x2.2.2.2.1 x2.2.2.2.2.1 x2.2.2.2.2.2.1
def q48i2:List PE := [e18,e60,e61,e62]
def q48o2:List PE := []
noncomputable def q48f2(k:Nat)(n:Nat)(x5:PTe q48i2):=impl_needsAtMost_L26 k n x5.1 x5.2.1 x5.2.2.1 x5.2.2.2.1
def q48p:List PE := [e1,e2]
noncomputable def q48F(k:Nat):F2:=⟨q48C k,rr q48p [(.bool,false)] Try.f73,fun p=>bif Nat.beq p 6758 then some (.loop q48i1 q48o1 2 128 (q48f1 k k))else bif Nat.beq p 26 then some (.loop q48i2 q48o2 0 96 (q48f2 k k))else none,0,[]⟩
theorem q48K(k:Nat):Contract Try.prog 73 (q48V k):=ctr (q48C k) (rs := [(.bool,false)]) (ps:=q48p) (q48F k) Try.f73 32 ⟨tyOf_ok tys_ok,gOf_ok ⟨q47K,trivial⟩⟩ (annl [26,6758] ⟨lok q48i2 q48o2 0 96 (q48f2 k) k,lok q48i1 q48o1 2 128 (q48f1 k) k,trivial⟩)

noncomputable def q49V(k:Nat):Variant:=⟨[.val ty_4 false,.ptr ty_7 false],[(.bool,false)],fun x=>impl_polyOver k x.1 x.2.1⟩
noncomputable def q49C(k:Nat):Cfg:=⟨Try.prog,tyOf tys,20,gOf [(72,[],q45V k),(62,[],q46V k),(73,[],q48V k)],false,[],[]⟩
def q49p:List PE := [e1,e63]
noncomputable def q49F(k:Nat):F2:=⟨q49C k,rr q49p [(.bool,false)] Try.f54,fun p=>none,0,[]⟩
theorem q49K(k:Nat):Contract Try.prog 54 (q49V k):=ctr (q49C k) (rs := [(.bool,false)]) (ps:=q49p) (q49F k) Try.f54 32 ⟨tyOf_ok tys_ok,gOf_ok ⟨q45K k,q46K k,q48K k,trivial⟩⟩ (annl [] trivial)

noncomputable def q50V(k:Nat):Variant:=⟨[.val ty_4 false,.ptr ty_7 false],[(.bool,false)],fun x=>impl_belongs k x.1 x.2.1⟩
noncomputable def q50C(k:Nat):Cfg:=⟨Try.prog,tyOf tys,15,gOf [(54,[],q49V k)],false,[],[]⟩
def q50p:List PE := [e1,e63]
noncomputable def q50F(k:Nat):F2:=⟨q50C k,rr q50p [(.bool,false)] Try.f38,fun p=>none,0,[]⟩
theorem q50K(k:Nat):Contract Try.prog 38 (q50V k):=ctr (q50C k) (rs := [(.bool,false)]) (ps:=q50p) (q50F k) Try.f38 32 ⟨tyOf_ok tys_ok,gOf_ok ⟨q49K k,trivial⟩⟩ (annl [] trivial)

noncomputable def q51V:Variant:=⟨[.val ty_5 false],[(ty_5,false)],fun x=>slices_Clone_int_int x.1⟩
noncomputable def q51C:Cfg:=⟨Try.prog,tyOf tys,8,gOf [],false,[],[]⟩
def q51p:List PE := [e3]
noncomputable def q51F:F3:=⟨q51C,rr q51p [(ty_5,false)] Try.f56,fun p=>none,0,[]⟩
theorem q51eq(x:PTe q51p):evFnN false (q51F) (codeOf Try.f56) q51p 16 x=slices_Clone_int_int x.1:=by kernel_rfl
theorem q51e0(x:(Unit)):evFnN true (q51F) (codeOf Try.f56) q51p 16 (([]:List Int),x)=slices_Clone_int_int []:=by kernel_rfl
theorem q51K:Contract Try.prog 56 (q51V) :=
 contractN (C:=q51C) (F:=q51F) (fn:=Try.f56) (ps:=q51p) (rs := [(ty_5,false)]) (nx:=16) rfl ⟨tyOf_ok tys_ok,gOf_ok trivial⟩ rfl (by kernel_rfl) (by kernel_rfl) (by kernel_rfl) (by kernel_rfl) (by kernel_rfl) (by kernel_rfl) rfl (by kernel_rfl) (by kernel_rfl) (AnnOk_list [] (by kernel_rfl) trivial) mix_ok (q51eq) (fun x h=>by obtain⟨x1,x2⟩:=x;have h:x1 = []:=h;subst h;exact q51e0 x2)

noncomputable def q52V(k:Nat):Variant:=⟨[.val ty_4 false,.val ty_0 false],[(ty_5,false)],fun x=>impl_degreesOf k x.1 x.2.1⟩
noncomputable def q52C(k:Nat):Cfg:=⟨Try.prog,tyOf tys,41,gOf [(79,[],q47V)],false,[],[]⟩
def q52i1:List PE := [e18,e13,e64,e58,e59,⟨22,112,.val ty_5 false,false⟩,⟨23,128,.val ty_0 false,false⟩,e65]
def q52o1:List PE := [e18,e13,e64,e58,e59]
noncomputable def q52f1(k:Nat)(n:Nat)(x2:PTe q52i1):=impl_degreesOf_L29902 k n x2.1 x2.2.1 x2.2.2.1 x2.2.2.2.1 x2.2.2.2.2.1 x2.2.2.2.2.2.1 x2.2.2.2.2.2.2.1 x2.2.2.2.2.2.2.2.1
def q52i2:List PE := [e18,e13,e64,e58,e59]
def q52o2:List PE := [⟨5,32,.eat ty_0,false⟩]
noncomputable def q52f2(k:Nat)(n:Nat)(x5:PTe q52i2):=impl_degreesOf_L58 k n x5.1 x5.2.1 x5.2.2.1 x5.2.2.2.1 x5.2.2.2.2.1
def q52p:List PE := [e1,e2]
noncomputable def q52F(k:Nat):F3:=⟨q52C k,rr q52p [(ty_5,false)] Try.f76,fun p=>bif Nat.beq p 29902 then some (.loop q52i1 q52o1 2 160 (q52f1 k k))else bif Nat.beq p 58 then some (.loop q52i2 q52o2 0 112 (q52f2 k k))else none,0,[]⟩
theorem q52K(k:Nat):Contract Try.prog 76 (q52V k):=ctr (q52C k) (rs := [(ty_5,false)]) (ps:=q52p) (q52F k) Try.f76 32 ⟨tyOf_ok tys_ok,gOf_ok ⟨q47K,trivial⟩⟩ (annl [58,29902] ⟨lok q52i2 q52o2 0 112 (q52f2 k) k,lok q52i1 q52o1 2 160 (q52f1 k) k,trivial⟩)

noncomputable def q53V(k:Nat):Variant:=⟨[.val ty_4 false],[(ty_0,false)],fun x=>impl_degreeOf k x.1⟩
noncomputable def q53C(k:Nat):Cfg:=⟨Try.prog,tyOf tys,18,gOf [(80,[],q39V)],false,[],[]⟩
def q53i1:List PE := [e25,⟨6,32,.val ty_4 false,false⟩,e26,e27]
def q53o1:List PE := [e25]
noncomputable def q53f1(k:Nat)(n:Nat)(x2:PTe q53i1):=impl_degreeOf_L58 k n x2.1 x2.2.1 x2.2.2.1 x2.2.2.2.1
def q53p:List PE := [e1]
noncomputable def q53F(k:Nat):F1:=⟨q53C k,rr q53p [(ty_0,false)] Try.f77,fun p=>bif Nat.beq p 58 then some (.loop q53i1 q53o1 0 80 (q53f1 k k))else none,0,[]⟩
theorem q53K(k:Nat):Contract Try.prog 77 (q53V k):=ctr (q53C k) (rs := [(ty_0,false)]) (ps:=q53p) (q53F k) Try.f77 16 ⟨tyOf_ok tys_ok,gOf_ok ⟨q39K,trivial⟩⟩ (annl [58] ⟨lok q53i1 q53o1 0 80 (q53f1 k) k,trivial⟩)

noncomputable def q54V(k:Nat):Variant:=⟨[.val ty_5 false],[(ty_8,false)],fun x=>impl_places k x.1⟩
noncomputable def q54C(k:Nat):Cfg:=⟨Try.prog,tyOf tys,41,gOf [(56,[],q51V)],false,[],[]⟩
def q54i1:List PE := [e66,e67,⟨8,48,.val ty_5 false,false⟩,⟨11,64,.val ty_5 false,false⟩,⟨12,80,.val ty_0 false,false⟩,⟨13,96,.val ty_0 false,false⟩,⟨17,112,.val ty_8 false,false⟩,⟨18,128,.val ty_0 false,false⟩,⟨19,144,.val ty_0 false,false⟩,⟨24,160,.val ty_0 false,false⟩,⟨25,176,.val ty_0 false,false⟩]
def q54o1:List PE := [e66,e67,⟨11,48,.val ty_5 false,false⟩,e48,e49,⟨17,96,.val ty_8 false,false⟩,⟨18,112,.val ty_0 false,false⟩,⟨19,128,.val ty_0 false,false⟩]
noncomputable def q54f1(k:Nat)(n:Nat)(x2:PTe q54i1):=impl_places_L15309414 k n x2.1 x2.2.1 x2.2.2.1 x2.2.2.2.1 x2.2.2.2.2.1 x2.2.2.2.2.2.1 x2.2.2.2.2.2.2.1 x2.2.2.2.2.2.2.2.1 x2.2.2.2.2.2.2.2.2.1 x2.2.2.2.2.2.2.2.2.2.1 x2.2.2.2.2.2.2.2.2.2.2.1
def q54i2:List PE := [e66,e67,⟨11,48,.val ty_5 false,false⟩,e48,e49,⟨17,96,.val ty_8 false,false⟩,⟨18,112,.val ty_0 false,false⟩,⟨19,128,.val ty_0 false,false⟩]
def q54o2:List PE := [⟨6,16,.eat ty_5,false⟩,⟨11,32,.val ty_5 false,false⟩,⟨12,48,.val ty_0 false,false⟩,⟨13,64,.val ty_0 false,false⟩]
noncomputable def q54f2(k:Nat)(n:Nat)(x5:PTe q54i2):=impl_places_L59802 k n x5.1 x5.2.1 x5.2.2.1 x5.2.2.2.1 x5.2.2.2.2.1 x5.2.2.2.2.2.1 x5.2.2.2.2.2.2.1 x5.2.2.2.2.2.2.2.1
def q54i3:List PE := [⟨3,16,.eat ty_5,false⟩,⟨11,32,.val ty_5 false,false⟩,⟨12,48,.val ty_0 false,false⟩,⟨13,64,.val ty_0 false,false⟩]
def q54o3:List PE := [⟨3,16,.eat ty_5,false⟩]
noncomputable def q54f3(k:Nat)(n:Nat)(x8:PTe q54i3):=impl_places_L58 k n x8.1 x8.2.1 x8.2.2.1 x8.2.2.2.1
def q54p:List PE := [e3]
noncomputable def q54F(k:Nat):Fn (List (List Int)):=⟨q54C k,rr q54p [(ty_8,false)] Try.f78,fun p=>bif Nat.beq p 15309414 then some (.loop q54i1 q54o1 4 192 (q54f1 k k))else bif Nat.beq p 59802 then some (.loop q54i2 q54o2 2 144 (q54f2 k k))else bif Nat.beq p 58 then some (.loop q54i3 q54o3 0 80 (q54f3 k k))else none,0,[]⟩
theorem q54K(k:Nat):Contract Try.prog 78 (q54V k):=ctr (q54C k) (rs := [(ty_8,false)]) (ps:=q54p) (q54F k) Try.f78 16 ⟨tyOf_ok tys_ok,gOf_ok ⟨q51K,trivial⟩⟩ (annl [58,59802,15309414] ⟨lok q54i3 q54o3 0 80 (q54f3 k) k,lok q54i2 q54o2 2 144 (q54f2 k) k,lok q54i1 q54o1 4 192 (q54f1 k) k,trivial⟩)

noncomputable def q55V(k:Nat):Variant:=⟨[.val ty_0 false,.val ty_0 false],[(ty_0,false)],fun x=>impl_choose k x.1 x.2.1⟩
noncomputable def q55C(k:Nat):Cfg:=⟨Try.prog,tyOf tys,21,gOf [],false,[],[]⟩
def q55i1:List PE := [e28,e19,e10,⟨8,80,.val ty_0 false,false⟩]
def q55o1:List PE := [e20]
noncomputable def q55f1(k:Nat)(n:Nat)(x1:PTe q55i1):=impl_choose_L58 k n x1.1 x1.2.1 x1.2.2.1 x1.2.2.2.1
def q55p:List PE := [e5,e2]
noncomputable def q55F(k:Nat):F1:=⟨q55C k,rr q55p [(ty_0,false)] Try.f81,fun p=>bif Nat.beq p 58 then some (.loop q55i1 q55o1 0 96 (q55f1 k k))else none,0,[]⟩
theorem q55K(k:Nat):Contract Try.prog 81 (q55V k):=ctr (q55C k) (rs := [(ty_0,false)]) (ps:=q55p) (q55F k) Try.f81 32 ⟨tyOf_ok tys_ok,gOf_ok trivial⟩ (annl [58] ⟨lok q55i1 q55o1 0 96 (q55f1 k) k,trivial⟩)

noncomputable def q56V:Variant:=⟨[.val ty_0 false],[(ty_0,false)],fun x=>impl_multiple x.1⟩
noncomputable def q56C:Cfg:=⟨Try.prog,tyOf tys,6,gOf [],false,[],[]⟩
def q56p:List PE := [e5]
noncomputable def q56F:F1:=⟨q56C,rr q56p [(ty_0,false)] Try.f82,fun p=>none,0,[]⟩
theorem q56K:Contract Try.prog 82 (q56V):=ctr q56C (rs := [(ty_0,false)]) (ps:=q56p) q56F Try.f82 16 ⟨tyOf_ok tys_ok,gOf_ok trivial⟩ (annl [] trivial)

noncomputable def q57V(k:Nat):Variant:=⟨[.val ty_4 false,.val ty_0 false,.val ty_5 false,.val ty_5 false],[(ty_5,false)],fun x=>impl_bernstein k x.1 x.2.1 x.2.2.1 x.2.2.2.1⟩
noncomputable def q57C(k:Nat):Cfg:=⟨Try.prog,tyOf tys,183,gOf [(76,[],q52V k),(77,[],q53V k),(78,[],q54V k),(79,[],q47V),(80,[],q39V),(81,[],q55V k),(82,[],q56V)],false,[],[]⟩
def q57i1:List PE := [e68,e22,e69,e70,e33,e71,e72,e34,e73,e74,e75,e76,e77,e78,⟨21,288,.val ty_0 false,false⟩,⟨22,304,.val ty_0 false,false⟩,⟨42,320,.val ty_4 false,false⟩,⟨43,336,.val ty_0 false,false⟩,⟨44,352,.val ty_0 false,false⟩,⟨50,368,.val ty_8 false,false⟩,⟨51,384,.val ty_0 false,false⟩,⟨52,400,.val ty_0 false,false⟩,⟨67,416,.val ty_5 false,false⟩,⟨68,432,.val ty_0 false,false⟩,⟨69,448,.val ty_0 false,false⟩,⟨83,464,.val ty_0 false,false⟩,⟨84,480,.val ty_0 false,false⟩]
def q57o1:List PE := [e68,e22,e69,e70,e33,e71,e72,e34,e73,e74,e75,e76,e77,e78,⟨21,288,.val ty_0 false,false⟩,⟨22,304,.val ty_0 false,false⟩,⟨42,320,.val ty_4 false,false⟩,⟨43,336,.val ty_0 false,false⟩,⟨44,352,.val ty_0 false,false⟩,⟨50,368,.val ty_8 false,false⟩,⟨51,384,.val ty_0 false,false⟩,⟨52,400,.val ty_0 false,false⟩,⟨67,416,.val ty_5 false,false⟩,⟨68,432,.val ty_0 false,false⟩,⟨69,448,.val ty_0 false,false⟩]
noncomputable def q57f1(k:Nat)(n:Nat)(x7:PTe q57i1):=impl_bernstein_L543746216762 k n x7.1 x7.2.1 x7.2.2.1 x7.2.2.2.1 x7.2.2.2.2.1 x7.2.2.2.2.2.1 x7.2.2.2.2.2.2.1 x7.2.2.2.2.2.2.2.1 x7.2.2.2.2.2.2.2.2.1 x7.2.2.2.2.2.2.2.2.2.1 x7.2.2.2.2.2.2.2.2.2.2.1 x7.2.2.2.2.2.2.2.2.2.2.2.1 x7.2.2.2.2.2.2.2.2.2.2.2.2.1 x7.2.2.2.2.2.2.2.2.2.2.2.2.2.1 x7.2.2.2.2.2.2.2.2.2.2.2.2.2.2.1 x7.2.2.2.2.2.2.2.2.2.2.2.2.2.2.2.1 x7.2.2.2.2.2.2.2.2.2.2.2.2.2.2.2.2.1 x7.2.2.2.2.2.2.2.2.2.2.2.2.2.2.2.2.2.1 x7.2.2.2.2.2.2.2.2.2.2.2.2.2.2.2.2.2.2.1 x7.2.2.2.2.2.2.2.2.2.2.2.2.2.2.2.2.2.2.2.1 x7.2.2.2.2.2.2.2.2.2.2.2.2.2.2.2.2.2.2.2.2.1 x7.2.2.2.2.2.2.2.2.2.2.2.2.2.2.2.2.2.2.2.2.2.1 x7.2.2.2.2.2.2.2.2.2.2.2.2.2.2.2.2.2.2.2.2.2.2.1 x7.2.2.2.2.2.2.2.2.2.2.2.2.2.2.2.2.2.2.2.2.2.2.2.1 x7.2.2.2.2.2.2.2.2.2.2.2.2.2.2.2.2.2.2.2.2.2.2.2.2.1 x7.2.2.2.2.2.2.2.2.2.2.2.2.2.2.2.2.2.2.2.2.2.2.2.2.2.1 x7.2.2.2.2.2.2.2.2.2.2.2.2.2.2.2.2.2.2.2.2.2.2.2.2.2.2.1
def q57i2:List PE := [e68,e22,e69,e70,e33,e71,e72,e34,e73,e74,e75,e76,e77,e78,⟨42,288,.val ty_4 false,false⟩,⟨43,304,.val ty_0 false,false⟩,⟨44,320,.val ty_0 false,false⟩,⟨50,336,.val ty_8 false,false⟩,⟨51,352,.val ty_0 false,false⟩,⟨52,368,.val ty_0 false,false⟩,⟨67,384,.val ty_5 false,false⟩,⟨68,400,.val ty_0 false,false⟩,⟨69,416,.val ty_0 false,false⟩,⟨100,432,.val ty_0 false,false⟩,⟨101,448,.val ty_0 false,false⟩]
def q57o2:List PE := [e68,e22,e69,e70,e33,e71,e72,e34,e73,e74,e75,e76,e77,⟨42,272,.val ty_4 false,false⟩,⟨43,288,.val ty_0 false,false⟩,⟨44,304,.val ty_0 false,false⟩,⟨50,320,.val ty_8 false,false⟩,⟨51,336,.val ty_0 false,false⟩,⟨52,352,.val ty_0 false,false⟩,⟨67,368,.val ty_5 false,false⟩,⟨68,384,.val ty_0 false,false⟩,⟨69,400,.val ty_0 false,false⟩]
noncomputable def q57f2(k:Nat)(n:Nat)(x10:PTe q57i2):=impl_bernstein_L543746216766 k n x10.1 x10.2.1 x10.2.2.1 x10.2.2.2.1 x10.2.2.2.2.1 x10.2.2.2.2.2.1 x10.2.2.2.2.2.2.1 x10.2.2.2.2.2.2.2.1 x10.2.2.2.2.2.2.2.2.1 x10.2.2.2.2.2.2.2.2.2.1 x10.2.2.2.2.2.2.2.2.2.2.1 x10.2.2.2.2.2.2.2.2.2.2.2.1 x10.2.2.2.2.2.2.2.2.2.2.2.2.1 x10.2.2.2.2.2.2.2.2.2.2.2.2.2.1 x10.2.2.2.2.2.2.2.2.2.2.2.2.2.2.1 x10.2.2.2.2.2.2.2.2.2.2.2.2.2.2.2.1 x10.2.2.2.2.2.2.2.2.2.2.2.2.2.2.2.2.1 x10.2.2.2.2.2.2.2.2.2.2.2.2.2.2.2.2.2.1 x10.2.2.2.2.2.2.2.2.2.2.2.2.2.2.2.2.2.2.1 x10.2.2.2.2.2.2.2.2.2.2.2.2.2.2.2.2.2.2.2.1 x10.2.2.2.2.2.2.2.2.2.2.2.2.2.2.2.2.2.2.2.2.1 x10.2.2.2.2.2.2.2.2.2.2.2.2.2.2.2.2.2.2.2.2.2.1 x10.2.2.2.2.2.2.2.2.2.2.2.2.2.2.2.2.2.2.2.2.2.2.1 x10.2.2.2.2.2.2.2.2.2.2.2.2.2.2.2.2.2.2.2.2.2.2.2.1 x10.2.2.2.2.2.2.2.2.2.2.2.2.2.2.2.2.2.2.2.2.2.2.2.2.1
def q57i3:List PE := [e68,e22,e69,e70,e33,e71,e72,e34,e73,e74,e75,e76,e77,⟨42,272,.val ty_4 false,false⟩,⟨43,288,.val ty_0 false,false⟩,⟨44,304,.val ty_0 false,false⟩,⟨50,320,.val ty_8 false,false⟩,⟨51,336,.val ty_0 false,false⟩,⟨52,352,.val ty_0 false,false⟩,⟨67,368,.val ty_5 false,false⟩,⟨68,384,.val ty_0 false,false⟩,⟨69,400,.val ty_0 false,false⟩]
def q57o3:List PE := [e68,e22,e69,e70,e33,e71,e72,e34,e73,e74,e75,⟨19,240,.val ty_0 false,false⟩,⟨42,256,.val ty_4 false,false⟩,⟨43,272,.val ty_0 false,false⟩,⟨44,288,.val ty_0 false,false⟩,⟨50,304,.val ty_8 false,false⟩,⟨51,320,.val ty_0 false,false⟩,⟨52,336,.val ty_0 false,false⟩]
noncomputable def q57f3(k:Nat)(n:Nat)(x13:PTe q57i3):=impl_bernstein_L265501082 k n x13.1 x13.2.1 x13.2.2.1 x13.2.2.2.1 x13.2.2.2.2.1 x13.2.2.2.2.2.1 x13.2.2.2.2.2.2.1 x13.2.2.2.2.2.2.2.1 x13.2.2.2.2.2.2.2.2.1 x13.2.2.2.2.2.2.2.2.2.1 x13.2.2.2.2.2.2.2.2.2.2.1 x13.2.2.2.2.2.2.2.2.2.2.2.1 x13.2.2.2.2.2.2.2.2.2.2.2.2.1 x13.2.2.2.2.2.2.2.2.2.2.2.2.2.1 x13.2.2.2.2.2.2.2.2.2.2.2.2.2.2.1 x13.2.2.2.2.2.2.2.2.2.2.2.2.2.2.2.1 x13.2.2.2.2.2.2.2.2.2.2.2.2.2.2.2.2.1 x13.2.2.2.2.2.2.2.2.2.2.2.2.2.2.2.2.2.1 x13.2.2.2.2.2.2.2.2.2.2.2.2.2.2.2.2.2.2.1 x13.2.2.2.2.2.2.2.2.2.2.2.2.2.2.2.2.2.2.2.1 x13.2.2.2.2.2.2.2.2.2.2.2.2.2.2.2.2.2.2.2.2.1 x13.2.2.2.2.2.2.2.2.2.2.2.2.2.2.2.2.2.2.2.2.2.1
def q57i4:List PE := [e68,e22,e69,e70,e33,e71,e72,e34,e73,e74,⟨42,224,.val ty_4 false,false⟩,⟨43,240,.val ty_0 false,false⟩,⟨44,256,.val ty_0 false,false⟩,⟨50,272,.val ty_8 false,false⟩,⟨51,288,.val ty_0 false,false⟩,⟨52,304,.val ty_0 false,false⟩]
def q57o4:List PE := [e68,e22,e69,e70,e33,e71,e72,e34,⟨42,192,.val ty_4 false,false⟩,⟨43,208,.val ty_0 false,false⟩,⟨44,224,.val ty_0 false,false⟩]
noncomputable def q57f4(k:Nat)(n:Nat)(x16:PTe q57i4):=impl_bernstein_L259278 k n x16.1 x16.2.1 x16.2.2.1 x16.2.2.2.1 x16.2.2.2.2.1 x16.2.2.2.2.2.1 x16.2.2.2.2.2.2.1 x16.2.2.2.2.2.2.2.1 x16.2.2.2.2.2.2.2.2.1 x16.2.2.2.2.2.2.2.2.2.1 x16.2.2.2.2.2.2.2.2.2.2.1 x16.2.2.2.2.2.2.2.2.2.2.2.1 x16.2.2.2.2.2.2.2.2.2.2.2.2.1 x16.2.2.2.2.2.2.2.2.2.2.2.2.2.1 x16.2.2.2.2.2.2.2.2.2.2.2.2.2.2.1 x16.2.2.2.2.2.2.2.2.2.2.2.2.2.2.2.1
def q57i5:List PE := [e68,e22,e69,e70,e33,e71,e72,e34,⟨42,192,.val ty_4 false,false⟩,⟨43,208,.val ty_0 false,false⟩,⟨44,224,.val ty_0 false,false⟩]
def q57o5:List PE := [e79,e80,e81,e82]
noncomputable def q57f5(k:Nat)(n:Nat)(x19:PTe q57i5):=impl_bernstein_L506 k n x19.1 x19.2.1 x19.2.2.1 x19.2.2.2.1 x19.2.2.2.2.1 x19.2.2.2.2.2.1 x19.2.2.2.2.2.2.1 x19.2.2.2.2.2.2.2.1 x19.2.2.2.2.2.2.2.2.1 x19.2.2.2.2.2.2.2.2.2.1 x19.2.2.2.2.2.2.2.2.2.2.1
def q57i6:List PE := [e79,e80,e81,e82,e83,e65,e84,⟨27,176,.val ty_5 false,false⟩,⟨28,192,.val ty_0 false,false⟩,⟨123,208,.val ty_8 false,false⟩,⟨124,224,.val ty_0 false,false⟩,⟨125,240,.val ty_0 false,false⟩,⟨130,256,.val ty_8 false,false⟩,⟨131,272,.val ty_0 false,false⟩,⟨132,288,.val ty_0 false,false⟩,⟨141,304,.val ty_0 false,false⟩,⟨142,320,.val ty_0 false,false⟩]
def q57o6:List PE := [e79,e80,e81,e82,e83,e65,e84,⟨28,176,.val ty_0 false,false⟩,⟨123,192,.val ty_8 false,false⟩,⟨124,208,.val ty_0 false,false⟩,⟨125,224,.val ty_0 false,false⟩,⟨130,240,.val ty_8 false,false⟩,⟨131,256,.val ty_0 false,false⟩,⟨132,272,.val ty_0 false,false⟩]
noncomputable def q57f6(k:Nat)(n:Nat)(x25:PTe q57i6):=impl_bernstein_L535402906 k n x25.1 x25.2.1 x25.2.2.1 x25.2.2.2.1 x25.2.2.2.2.1 x25.2.2.2.2.2.1 x25.2.2.2.2.2.2.1 x25.2.2.2.2.2.2.2.1 x25.2.2.2.2.2.2.2.2.1 x25.2.2.2.2.2.2.2.2.2.1 x25.2.2.2.2.2.2.2.2.2.2.1 x25.2.2.2.2.2.2.2.2.2.2.2.1 x25.2.2.2.2.2.2.2.2.2.2.2.2.1 x25.2.2.2.2.2.2.2.2.2.2.2.2.2.1 x25.2.2.2.2.2.2.2.2.2.2.2.2.2.2.1 x25.2.2.2.2.2.2.2.2.2.2.2.2.2.2.2.1 x25.2.2.2.2.2.2.2.2.2.2.2.2.2.2.2.2.1
def q57i7:List PE := [e79,e80,e81,e82,e83,e65,e84,⟨123,176,.val ty_8 false,false⟩,⟨124,192,.val ty_0 false,false⟩,⟨125,208,.val ty_0 false,false⟩,⟨130,224,.val ty_8 false,false⟩,⟨131,240,.val ty_0 false,false⟩,⟨132,256,.val ty_0 false,false⟩]
def q57o7:List PE := [e79,e80,e81,e82,e83,⟨123,144,.val ty_8 false,false⟩,⟨124,160,.val ty_0 false,false⟩,⟨125,176,.val ty_0 false,false⟩]
noncomputable def q57f7(k:Nat)(n:Nat)(x28:PTe q57i7):=impl_bernstein_L522854 k n x28.1 x28.2.1 x28.2.2.1 x28.2.2.2.1 x28.2.2.2.2.1 x28.2.2.2.2.2.1 x28.2.2.2.2.2.2.1 x28.2.2.2.2.2.2.2.1 x28.2.2.2.2.2.2.2.2.1 x28.2.2.2.2.2.2.2.2.2.1 x28.2.2.2.2.2.2.2.2.2.2.1 x28.2.2.2.2.2.2.2.2.2.2.2.1 x28.2.2.2.2.2.2.2.2.2.2.2.2.1
def q57i8:List PE := [e79,e80,e81,e82,e83,⟨123,144,.val ty_8 false,false⟩,⟨124,160,.val ty_0 false,false⟩,⟨125,176,.val ty_0 false,false⟩]
def q57o8:List PE := [⟨23,64,.eat ty_0,false⟩]
noncomputable def q57f8(k:Nat)(n:Nat)(x31:PTe q57i8):=impl_bernstein_L2042 k n x31.1 x31.2.1 x31.2.2.1 x31.2.2.2.1 x31.2.2.2.2.1 x31.2.2.2.2.2.1 x31.2.2.2.2.2.2.1 x31.2.2.2.2.2.2.2.1
def q57p:List PE := [e1,e2,e24,⟨3,48,.val ty_5 false,false⟩]
noncomputable def q57F(k:Nat):F3:=⟨q57C k,rr q57p [(ty_5,false)] Try.f58,fun p=>bif Nat.beq p 543746216762 then some (.loop q57i1 q57o1 6 496 (q57f1 k k))else bif Nat.beq p 543746216766 then some (.loop q57i2 q57o2 8 464 (q57f2 k k))else bif Nat.beq p 265501082 then some (.loop q57i3 q57o3 4 416 (q57f3 k k))else bif Nat.beq p 259278 then some (.loop q57i4 q57o4 2 320 (q57f4 k k))else bif Nat.beq p 506 then some (.loop q57i5 q57o5 0 240 (q57f5 k k))else bif Nat.beq p 535402906 then some (.loop q57i6 q57o6 14 336 (q57f6 k k))else bif Nat.beq p 522854 then some (.loop q57i7 q57o7 12 272 (q57f7 k k))else bif Nat.beq p 2042 then some (.loop q57i8 q57o8 10 192 (q57f8 k k))else none,0,[]⟩
theorem q57K(k:Nat):Contract Try.prog 58 (q57V k):=ctr (q57C k) (rs := [(ty_5,false)]) (ps:=q57p) (q57F k) Try.f58 64 ⟨tyOf_ok tys_ok,gOf_ok ⟨q52K k,q53K k,q54K k,q47K,q39K,q55K k,q56K,trivial⟩⟩ (annl [506,259278,265501082,543746216762,543746216766,2042,522854,535402906] ⟨lok q57i5 q57o5 0 240 (q57f5 k) k,lok q57i4 q57o4 2 320 (q57f4 k) k,lok q57i3 q57o3 4 416 (q57f3 k) k,lok q57i1 q57o1 6 496 (q57f1 k) k,lok q57i2 q57o2 8 464 (q57f2 k) k,lok q57i8 q57o8 10 192 (q57f8 k) k,lok q57i7 q57o7 12 272 (q57f7 k) k,lok q57i6 q57o6 14 336 (q57f6 k) k,trivial⟩)

noncomputable def q58V(k:Nat):Variant:=⟨[.val ty_5 false],[(ty_0,false)],fun x=>slices_Min_int_int k x.1⟩
noncomputable def q58C(k:Nat):Cfg:=⟨Try.prog,tyOf tys,25,gOf [],false,[],[]⟩
def q58i1:List PE := [e46,e17,⟨4,48,.val ty_0 false,false⟩]
def q58o1:List PE := [e25]
noncomputable def q58f1(k:Nat)(n:Nat)(x1:PTe q58i1):=slices_Min_int_int_L122 k n x1.1 x1.2.1 x1.2.2.1
def q58p:List PE := [e3]
noncomputable def q58F(k:Nat):F1:=⟨q58C k,rr q58p [(ty_0,false)] Try.f74,fun p=>bif Nat.beq p 122 then some (.loop q58i1 q58o1 0 64 (q58f1 k k))else none,0,[]⟩
theorem q58K(k:Nat):Contract Try.prog 74 (q58V k):=ctr (q58C k) (rs := [(ty_0,false)]) (ps:=q58p) (q58F k) Try.f74 16 ⟨tyOf_ok tys_ok,gOf_ok trivial⟩ (annl [122] ⟨lok q58i1 q58o1 0 64 (q58f1 k) k,trivial⟩)

noncomputable def q59V(k:Nat):Variant:=⟨[.val ty_5 false],[(ty_0,false)],fun x=>slices_Max_int_int k x.1⟩
noncomputable def q59C(k:Nat):Cfg:=⟨Try.prog,tyOf tys,25,gOf [],false,[],[]⟩
def q59i1:List PE := [e46,e17,⟨4,48,.val ty_0 false,false⟩]
def q59o1:List PE := [e25]
noncomputable def q59f1(k:Nat)(n:Nat)(x1:PTe q59i1):=slices_Max_int_int_L122 k n x1.1 x1.2.1 x1.2.2.1
def q59p:List PE := [e3]
noncomputable def q59F(k:Nat):F1:=⟨q59C k,rr q59p [(ty_0,false)] Try.f75,fun p=>bif Nat.beq p 122 then some (.loop q59i1 q59o1 0 64 (q59f1 k k))else none,0,[]⟩
theorem q59K(k:Nat):Contract Try.prog 75 (q59V k):=ctr (q59C k) (rs := [(ty_0,false)]) (ps:=q59p) (q59F k) Try.f75 16 ⟨tyOf_ok tys_ok,gOf_ok trivial⟩ (annl [122] ⟨lok q59i1 q59o1 0 64 (q59f1 k) k,trivial⟩)

noncomputable def q60V(k:Nat):Variant:=⟨[.val ty_5 false],[(ty_0,false)],fun x=>impl_commonSign k x.1⟩
noncomputable def q60C(k:Nat):Cfg:=⟨Try.prog,tyOf tys,11,gOf [(74,[],q58V k),(75,[],q59V k)],false,[],[]⟩
def q60p:List PE := [e3]
noncomputable def q60F(k:Nat):F1:=⟨q60C k,rr q60p [(ty_0,false)] Try.f57,fun p=>none,0,[]⟩
theorem q60K(k:Nat):Contract Try.prog 57 (q60V k):=ctr (q60C k) (rs := [(ty_0,false)]) (ps:=q60p) (q60F k) Try.f57 16 ⟨tyOf_ok tys_ok,gOf_ok ⟨q58K k,q59K k,trivial⟩⟩ (annl [] trivial)

noncomputable def q61V(k:Nat):Variant:=⟨[.val ty_4 false,.ptr ty_7 false,.val ty_0 false,.val .bool false],[(ty_0,false)],fun x=>impl_faceSign k x.1 x.2.1 x.2.2.1 x.2.2.2.1⟩
noncomputable def q61C(k:Nat):Cfg:=⟨Try.prog,tyOf tys,45,gOf [(56,[],q51V),(58,[],q57V k),(57,[],q60V k)],false,[],[]⟩
def q61p:List PE := [e1,e63,e14,⟨3,48,.val .bool false,false⟩]
noncomputable def q61F(k:Nat):F1:=⟨q61C k,rr q61p [(ty_0,false)] Try.f40,fun p=>bif Nat.beq p 14 then some (.cut [e32,⟨1,80,.ptr ty_7 false,false⟩,⟨9,96,.eat ty_0,false⟩,⟨10,112,.eat ty_0,false⟩] 128)else none,0,[]⟩
theorem q61K(k:Nat):Contract Try.prog 40 (q61V k):=ctr (q61C k) (rs := [(ty_0,false)]) (ps:=q61p) (q61F k) Try.f40 64 ⟨tyOf_ok tys_ok,gOf_ok ⟨q51K,q57K k,q60K k,trivial⟩⟩ (annl [] trivial)

noncomputable def q62V(k:Nat):Variant:=⟨[.val ty_4 false,.ptr ty_7 false,.val ty_0 false],[(.bool,false)],fun x=>impl_isOpposite k x.1 x.2.1 x.2.2.1⟩
noncomputable def q62C(k:Nat):Cfg:=⟨Try.prog,tyOf tys,17,gOf [(40,[],q61V k)],false,[],[]⟩
def q62p:List PE := [e1,e63,e14]
noncomputable def q62F(k:Nat):F2:=⟨q62C k,rr q62p [(.bool,false)] Try.f44,fun p=>none,0,[]⟩
theorem q62K(k:Nat):Contract Try.prog 44 (q62V k):=ctr (q62C k) (rs := [(.bool,false)]) (ps:=q62p) (q62F k) Try.f44 48 ⟨tyOf_ok tys_ok,gOf_ok ⟨q61K k,trivial⟩⟩ (annl [] trivial)

noncomputable def q63V(k:Nat):Variant:=⟨[.val ty_4 false,.val ty_7 true],[(ty_5,false),(.bool,false)],fun x=>impl_OppositeSides k x.1 x.2.1⟩
noncomputable def q63C(k:Nat):Cfg:=⟨Try.prog,tyOf tys,26,gOf [(38,[],q50V k),(44,[],q62V k)],false,[],[]⟩
def q63i1:List PE := [e7,⟨3,48,.box ty_7 false,false⟩,⟨6,64,.eat ty_0,false⟩,e49,⟨14,96,.val ty_0 false,false⟩]
def q63o1:List PE := [⟨6,32,.eat ty_0,false⟩]
noncomputable def q63f1(k:Nat)(n:Nat)(x3:PTe q63i1):=impl_OppositeSides_L122 k n x3.1 x3.2.1 x3.2.2.1 x3.2.2.2.1 x3.2.2.2.2.1
def q63p:List PE := [e1,e21]
noncomputable def q63F(k:Nat):Fn ((List Int)×Bool):=⟨q63C k,rr q63p [(ty_5,false),(.bool,false)] Try.f15,fun p=>bif Nat.beq p 122 then some (.loop q63i1 q63o1 0 112 (q63f1 k k))else none,0,[]⟩
theorem q63K(k:Nat):Contract Try.prog 15 (q63V k):=ctr (q63C k) (rs := [(ty_5,false),(.bool,false)]) (ps:=q63p) (q63F k) Try.f15 32 ⟨tyOf_ok tys_ok,gOf_ok ⟨q50K k,q62K k,trivial⟩⟩ (annl [122] ⟨lok q63i1 q63o1 0 112 (q63f1 k) k,trivial⟩)

noncomputable def q64V(k:Nat):Variant:=⟨[.val ty_5 false,.val ty_5 false],[(.bool,false)],fun x=>laws_eqIntS k x.1 x.2.1⟩
noncomputable def q64C(k:Nat):Cfg:=⟨Try.prog,tyOf tys,26,gOf [],false,[],[]⟩
def q64i1:List PE := [e12,⟨1,48,.val ty_5 false,false⟩,e30]
def q64o1:List PE := []
noncomputable def q64f1(k:Nat)(n:Nat)(x1:PTe q64i1):=laws_eqIntS_L58 k n x1.1 x1.2.1 x1.2.2.1
def q64p:List PE := [e3,e23]
noncomputable def q64F(k:Nat):F2:=⟨q64C k,rr q64p [(.bool,false)] Try.f16,fun p=>bif Nat.beq p 58 then some (.loop q64i1 q64o1 0 80 (q64f1 k k))else none,0,[]⟩
theorem q64K(k:Nat):Contract Try.prog 16 (q64V k):=ctr (q64C k) (rs := [(.bool,false)]) (ps:=q64p) (q64F k) Try.f16 32 ⟨tyOf_ok tys_ok,gOf_ok trivial⟩ (annl [58] ⟨lok q64i1 q64o1 0 80 (q64f1 k) k,trivial⟩)

noncomputable def q65V:Variant:=⟨[.val ty_3 true,.val ty_3 true],[(.bool,false)],fun x=>laws_eqTerm x.1 x.2.1⟩
noncomputable def q65C:Cfg:=⟨Try.prog,tyOf tys,25,gOf [],false,[],[]⟩
def q65p:List PE := [e6,e15]
noncomputable def q65F:F2:=⟨q65C,rr q65p [(.bool,false)] Try.f59,fun p=>none,0,[]⟩
theorem q65K:Contract Try.prog 59 (q65V):=ctr q65C (rs := [(.bool,false)]) (ps:=q65p) q65F Try.f59 32 ⟨tyOf_ok tys_ok,gOf_ok trivial⟩ (annl [] trivial)

noncomputable def q66V(k:Nat):Variant:=⟨[.val ty_4 false,.val ty_4 false],[(.bool,false)],fun x=>laws_eqTermS k x.1 x.2.1⟩
noncomputable def q66C(k:Nat):Cfg:=⟨Try.prog,tyOf tys,27,gOf [(59,[],q65V)],false,[],[]⟩
def q66i1:List PE := [e7,⟨1,48,.val ty_4 false,false⟩,e30]
def q66o1:List PE := []
noncomputable def q66f1(k:Nat)(n:Nat)(x2:PTe q66i1):=laws_eqTermS_L58 k n x2.1 x2.2.1 x2.2.2.1
def q66p:List PE := [e1,⟨1,16,.val ty_4 false,false⟩]
noncomputable def q66F(k:Nat):F2:=⟨q66C k,rr q66p [(.bool,false)] Try.f41,fun p=>bif Nat.beq p 58 then some (.loop q66i1 q66o1 0 80 (q66f1 k k))else none,0,[]⟩
theorem q66K(k:Nat):Contract Try.prog 41 (q66V k):=ctr (q66C k) (rs := [(.bool,false)]) (ps:=q66p) (q66F k) Try.f41 32 ⟨tyOf_ok tys_ok,gOf_ok ⟨q65K,trivial⟩⟩ (annl [58] ⟨lok q66i1 q66o1 0 80 (q66f1 k) k,trivial⟩)

noncomputable def q67V(k:Nat):Variant:=⟨[.val ty_9 false,.val ty_9 false],[(.bool,false)],fun x=>laws_intactTermS k x.1 x.2.1⟩
noncomputable def q67C(k:Nat):Cfg:=⟨Try.prog,tyOf tys,26,gOf [(34,[],q4V),(41,[],q66V k)],false,[],[]⟩
def q67p:List PE := [⟨0,0,.val ty_9 false,false⟩,⟨1,16,.val ty_9 false,false⟩]
noncomputable def q67F(k:Nat):F2:=⟨q67C k,rr q67p [(.bool,false)] Try.f12,fun p=>none,0,[]⟩
theorem q67K(k:Nat):Contract Try.prog 12 (q67V k):=ctr (q67C k) (rs := [(.bool,false)]) (ps:=q67p) (q67F k) Try.f12 32 ⟨tyOf_ok tys_ok,gOf_ok ⟨q4K,q66K k,trivial⟩⟩ (annl [] trivial)

noncomputable def q68V(k:Nat):Variant:=⟨[.val ty_10 false,.val ty_10 false],[(.bool,false)],fun x=>laws_intactIntS k x.1 x.2.1⟩
noncomputable def q68C(k:Nat):Cfg:=⟨Try.prog,tyOf tys,26,gOf [(34,[],q4V),(16,[],q64V k)],false,[],[]⟩
def q68p:List PE := [⟨0,0,.val ty_10 false,false⟩,⟨1,16,.val ty_10 false,false⟩]
noncomputable def q68F(k:Nat):F2:=⟨q68C k,rr q68p [(.bool,false)] Try.f42,fun p=>none,0,[]⟩
theorem q68K(k:Nat):Contract Try.prog 42 (q68V k):=ctr (q68C k) (rs := [(.bool,false)]) (ps:=q68p) (q68F k) Try.f42 32 ⟨tyOf_ok tys_ok,gOf_ok ⟨q4K,q64K k,trivial⟩⟩ (annl [] trivial)

noncomputable def q69V(k:Nat):Variant:=⟨[.val ty_12 true,.val ty_12 true],[(.bool,false)],fun x=>laws_intactBox k x.1 x.2.1⟩
noncomputable def q69C(k:Nat):Cfg:=⟨Try.prog,tyOf tys,22,gOf [(42,[],q68V k)],false,[],[]⟩
def q69p:List PE := [⟨0,0,.val ty_12 true,false⟩,⟨1,16,.val ty_12 true,false⟩]
noncomputable def q69F(k:Nat):F2:=⟨q69C k,rr q69p [(.bool,false)] Try.f13,fun p=>none,0,[]⟩
theorem q69K(k:Nat):Contract Try.prog 13 (q69V k):=ctr (q69C k) (rs := [(.bool,false)]) (ps:=q69p) (q69F k) Try.f13 32 ⟨tyOf_ok tys_ok,gOf_ok ⟨q68K k,trivial⟩⟩ (annl [] trivial)

noncomputable def q70V(k:Nat):Variant:=⟨[.own ty_3,.val ty_0 false],[(ty_0,false)],fun x=>laws_markTermS k x.1 x.2.1⟩
noncomputable def q70C(k:Nat):Cfg:=⟨Try.prog,tyOf tys,41,gOf [],false,[],[]⟩
def q70i1:List PE := [e85,e18,e19]
def q70o1:List PE := [e18,e85]
noncomputable def q70f1(k:Nat)(n:Nat)(x1:PTe q70i1):=laws_markTermS_L26 k n x1.1 x1.2.1 x1.2.2.1
def q70p:List PE := [e85,e2]
noncomputable def q70F(k:Nat):Fn (Int×List (Int×Int×Int×Int)):=⟨q70C k,rr q70p [(ty_0,false)] Try.f17,fun p=>bif Nat.beq p 26 then some (.loop q70i1 q70o1 0 64 (q70f1 k k))else none,0,[0]⟩
theorem q70K(k:Nat):Contract Try.prog 17 (q70V k):=ctr (q70C k) (rs := [(ty_0,false)]) (ps:=q70p) (q70F k) Try.f17 32 ⟨tyOf_ok tys_ok,gOf_ok trivial⟩ (annl [26] ⟨lok q70i1 q70o1 0 64 (q70f1 k) k,trivial⟩)

noncomputable def q71V(k:Nat):Variant:=⟨[.own ty_0,.val ty_0 false],[(ty_0,false)],fun x=>laws_markIntS k x.1 x.2.1⟩
noncomputable def q71C(k:Nat):Cfg:=⟨Try.prog,tyOf tys,19,gOf [],false,[],[]⟩
def q71i1:List PE := [e50,e18,e19]
def q71o1:List PE := [e18,e50]
noncomputable def q71f1(k:Nat)(n:Nat)(x1:PTe q71i1):=laws_markIntS_L26 k n x1.1 x1.2.1 x1.2.2.1
def q71p:List PE := [e50,e2]
noncomputable def q71F(k:Nat):Fn (Int×List Int):=⟨q71C k,rr q71p [(ty_0,false)] Try.f19,fun p=>bif Nat.beq p 26 then some (.loop q71i1 q71o1 0 64 (q71f1 k k))else none,0,[0]⟩
theorem q71K(k:Nat):Contract Try.prog 19 (q71V k):=ctr (q71C k) (rs := [(ty_0,false)]) (ps:=q71p) (q71F k) Try.f19 32 ⟨tyOf_ok tys_ok,gOf_ok trivial⟩ (annl [26] ⟨lok q71i1 q71o1 0 64 (q71f1 k) k,trivial⟩)

noncomputable def q72V(k:Nat):Variant:=⟨[.gob ty_7 true,.val ty_0 false],[(ty_0,false)],fun x=>laws_markBox k x.1 x.2.1⟩
noncomputable def q72C(k:Nat):Cfg:=⟨Try.prog,tyOf tys,14,gOf [(19,[],q71V k)],false,[],[]⟩
def q72p:List PE := [⟨0,0,.gob ty_7 true,false⟩,e2]
noncomputable def q72F(k:Nat):F1:=⟨q72C k,rr q72p [(ty_0,false)] Try.f18,fun p=>none,0,[]⟩
theorem q72K(k:Nat):Contract Try.prog 18 (q72V k):=ctr (q72C k) (rs := [(ty_0,false)]) (ps:=q72p) (q72F k) Try.f18 32 ⟨tyOf_ok tys_ok,gOf_ok ⟨q71K k,trivial⟩⟩ (annl [] trivial)

noncomputable def q73V(k:Nat):Variant:=⟨[.val ty_5 false,.val ty_0 false],[(ty_0,false)],fun x=>laws_heldIntS k x.1 x.2.1⟩
noncomputable def q73C(k:Nat):Cfg:=⟨Try.prog,tyOf tys,21,gOf [],false,[],[]⟩
def q73i1:List PE := [e12,e29,e30]
def q73o1:List PE := [e18]
noncomputable def q73f1(k:Nat)(n:Nat)(x1:PTe q73i1):=laws_heldIntS_L26 k n x1.1 x1.2.1 x1.2.2.1
def q73p:List PE := [e3,e2]
noncomputable def q73F(k:Nat):F1:=⟨q73C k,rr q73p [(ty_0,false)] Try.f20,fun p=>bif Nat.beq p 26 then some (.loop q73i1 q73o1 0 80 (q73f1 k k))else none,0,[]⟩
theorem q73K(k:Nat):Contract Try.prog 20 (q73V k):=ctr (q73C k) (rs := [(ty_0,false)]) (ps:=q73p) (q73F k) Try.f20 32 ⟨tyOf_ok tys_ok,gOf_ok trivial⟩ (annl [26] ⟨lok q73i1 q73o1 0 80 (q73f1 k) k,trivial⟩)

noncomputable def laws_FnExactOppositeSides_V(k:Nat):Variant:=⟨[.val ty_4 false,.val ty_7 true],[(.bool,false)],fun x=>laws_FnExactOppositeSides k x.1 x.2.1⟩
noncomputable def laws_FnExactOppositeSides_C(k:Nat):Cfg:=⟨Try.prog,tyOf tys,119,gOf [(6,[],q1V),(7,[],q3V),(9,[],q7V k),(10,[],q9V k),(14,[],q37V k),(15,[],q63V k),(16,[],q64V k),(12,[],q67V k),(13,[],q69V k),(17,[],q70V k),(18,[],q72V k),(19,[],q71V k),(20,[],q73V k)],false,[],[]⟩
def laws_FnExactOppositeSides_ps:List PE := [e1,e21]
noncomputable def laws_FnExactOppositeSides_F(k:Nat):F2:=⟨laws_FnExactOppositeSides_C k,rr laws_FnExactOppositeSides_ps [(.bool,false)] Try.f4,fun p=>none,0,[]⟩
theorem laws_FnExactOppositeSides_K(k:Nat):Contract Try.prog 4 (laws_FnExactOppositeSides_V k):=ctr (laws_FnExactOppositeSides_C k) (rs := [(.bool,false)]) (ps:=laws_FnExactOppositeSides_ps) (laws_FnExactOppositeSides_F k) Try.f4 32 ⟨tyOf_ok tys_ok,gOf_ok ⟨q1K,q3K,q7K k,q9K k,q37K k,q63K k,q64K k,q67K k,q69K k,q70K k,q72K k,q71K k,q73K k,trivial⟩⟩ (annl [] trivial)
end Go.Ev.G
