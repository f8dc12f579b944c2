/- The contracts of the functions behind FnExactComplexSystem: a call of each returns what its plain function computes; for all inputs within the sizes named. -/
import Derived.Test.YtiglamoomghakaaPComplexSystem1
import Derived.Test.YtiglamoomghakaaProg
set_option linter.unusedVariables false
namespace Go.Ev.G
open Go Go.Ev Go.Proofs
set_option maxRecDepth 100000
abbrev ty_0:Ty:=(.int .i64)

abbrev ty_1:Ty:=(.sl ty_0)

abbrev ty_2:Ty:=(.sl ty_1)

abbrev ty_3:Ty:=(.rm ty_0)

abbrev ty_4:Ty:=(.pair ty_0 ty_0)

abbrev ty_5:Ty:=(.pair ty_0 ty_4)

abbrev ty_6:Ty:=(.pair ty_0 ty_5)

abbrev ty_7:Ty:=(.sl ty_6)

abbrev ty_8:Ty:=(.sl ty_7)

abbrev ty_9:Ty:=(.rm ty_3)

def tys:List (TypeId×Ty) := [(3,ty_0),(45,ty_7),(57,ty_6)]

theorem tys_ok:AllT Try.prog tys:=⟨⟨_,_,rfl,rfl,rfl,rfl⟩,⟨_,_,rfl,rfl,rfl,rfl⟩,⟨_,_,rfl,rfl,rfl,rfl⟩,trivial⟩

def tysR:List (TypeId×Ty) := [(3,ty_0),(22,ty_3)]

theorem tysR_ok:AllT Try.prog tysR:=⟨⟨_,_,rfl,rfl,rfl,rfl⟩,⟨_,_,rfl,rfl,rfl,rfl⟩,trivial⟩

theorem mix_ok:Try.prog.follows .mixedOrders=true:=by kernel_rfl

theorem ctr{g:FuncId}(C:Cfg){rs:List (Ty×Bool)}{ps:List PE}(F:Fn (CT (rs.map (·.1)++outs (ps.map (·.b)))))(fn:Func)(nx:Nat){f:PT (ps.map (·.b))→Option (CT (rs.map (·.1)++outs (ps.map (·.b))))}
  (hC:CfgOk C) (hann:AnnOk F (codeOf fn) 1) (hP:C.P=Try.prog:=by rfl) (hF:F.C=C:=by rfl) (hfn:C.P.funcs[g]? = some fn:=by kernel_rfl) (hb:fn.body=some (codeOf fn):=by kernel_rfl) (hn:(fn.name == "runtime.NumGoroutine")=false:=by kernel_rfl)
  (hnt:C.ntmps=fn.ntmps:=by kernel_rfl) (hle:Nat.ble ps.length fn.ntmps=true:=by kernel_rfl) (hpar:parOk 0 ps=true:=by kernel_rfl) (hfin:F.fin=rdRes C.P ps rs fn.results.toList .ret:=by rfl)
  (hpins:F.pins=pinIds ps:=by kernel_rfl) (hnd:nodupB F.pins=true:=by kernel_rfl) (hf:∀x,evFn F (codeOf fn) ps nx x=f x:=by intro x;kernel_rfl):Contract C.P g ⟨ps.map (·.b),rs,f⟩ :=
 contract hC hF hfn hb hn hnt hle hpar hfin hpins hnd hann (hP ▸ mix_ok) hf

theorem annl{R:Type}{F:Fn R}{c:Code}(l:List Nat)(hl:AllL F (l.map fun p=>(p,loopB c p)))(h:loopsOf c 1=l.map (fun p=>(p,loopB c p)):=by kernel_rfl):AnnOk F c 1:=AnnOk_list _ h hl

theorem lok{R:Type}{F:Fn R}{c:Code}{p:Nat}(pin pout:List PE)(ex nx:Nat)(Lf:Nat→PTe pin→Option (R ⊕ PTe pout))(k:Nat)(h:F.an p=some (.loop pin pout ex nx (Lf k)):=by kernel_rfl)(h0:∀x,Lf 0 x=none:=by intro x;rfl)
  (hs:∀n x,roundOf F c p pin pout ex nx (Lf n) x=Lf (n+1) x:=by intro n x;kernel_rfl):LoopOk F c p:=LoopOk.mk (pin:=pin) (pout:=pout) h h0 hs

noncomputable def rr(ps:List PE)(rs:List (Ty×Bool))(f:Func):=rdRes Try.prog ps rs f.results.toList .ret

abbrev e1:PE:=⟨0,0,.val ty_1 false,false⟩
abbrev e2:PE:=⟨1,16,.val ty_0 false,false⟩
abbrev F1:Type 1:=Fn (Int)
abbrev e3:PE:=⟨0,32,.val ty_2 false,false⟩
abbrev e4:PE:=⟨1,48,.val ty_0 false,false⟩
abbrev e5:PE:=⟨5,64,.val ty_0 false,false⟩
abbrev e6:PE:=⟨1,32,.val ty_0 false,false⟩
abbrev e7:PE:=⟨0,0,.val ty_2 false,false⟩
abbrev e8:PE:=⟨0,0,.val ty_0 false,false⟩
abbrev e9:PE:=⟨0,32,.val ty_1 false,false⟩
abbrev e10:PE:=⟨5,48,.eat ty_0,false⟩
abbrev e11:PE:=⟨7,64,.val ty_0 false,false⟩
abbrev e12:PE:=⟨6,80,.val ty_0 false,false⟩
abbrev e13:PE:=⟨5,48,.eat ty_3,false⟩
abbrev e14:PE:=⟨2,32,.val ty_0 false,false⟩
abbrev F2:Type 1:=Fn (Bool)
abbrev e15:PE:=⟨0,16,.val ty_2 false,false⟩
abbrev e16:PE:=⟨7,48,.val ty_0 false,false⟩
abbrev e17:PE:=⟨8,64,.val ty_0 false,false⟩
abbrev e18:PE:=⟨5,32,.val ty_0 false,false⟩
abbrev e19:PE:=⟨0,0,.val ty_6 true,false⟩
abbrev e20:PE:=⟨1,16,.val ty_6 true,false⟩
abbrev e21:PE:=⟨0,32,.val ty_7 false,false⟩
abbrev e22:PE:=⟨3,48,.box ty_6 false,false⟩
abbrev e23:PE:=⟨0,0,.val ty_7 false,false⟩
abbrev F3:Type 1:=Fn (List (Int×Int×Int×Int))
abbrev e24:PE:=⟨0,16,.val ty_7 false,false⟩
abbrev e25:PE:=⟨6,48,.val ty_0 false,false⟩
abbrev e26:PE:=⟨5,48,.val ty_0 false,false⟩
abbrev e27:PE:=⟨0,16,.val ty_8 false,false⟩
abbrev e28:PE:=⟨0,0,.val ty_8 false,false⟩
abbrev e29:PE:=⟨4,16,.eat ty_6,false⟩
abbrev e30:PE:=⟨5,32,.eat ty_6,false⟩
abbrev e31:PE:=⟨7,64,.val ty_1 false,false⟩
abbrev e32:PE:=⟨8,80,.val ty_0 false,false⟩
abbrev e33:PE:=⟨14,64,.val ty_0 false,false⟩
abbrev e34:PE:=⟨10,112,.val ty_0 false,false⟩
abbrev e35:PE:=⟨14,160,.val ty_0 false,false⟩
abbrev F4:Type 1:=Fn ((List (List (Int×Int×Int×Int)))×Bool)
abbrev e36:PE:=⟨0,0,.own ty_6,true⟩
abbrev e37:PE:=⟨1,64,.val ty_0 false,false⟩
abbrev e38:PE:=⟨2,80,.val ty_0 false,false⟩
abbrev e39:PE:=⟨3,96,.fn 72 [],false⟩
abbrev e40:PE:=⟨8,112,.val ty_0 false,false⟩
abbrev e41:PE:=⟨2,64,.fn 72 [],false⟩
abbrev e42:PE:=⟨7,96,.val ty_0 false,false⟩
abbrev e43:PE:=⟨9,48,.val ty_7 false,false⟩
abbrev e44:PE:=⟨10,64,.val ty_0 false,false⟩
abbrev e45:PE:=⟨11,80,.val ty_0 false,false⟩
abbrev e46:PE:=⟨0,0,.own ty_0,true⟩
abbrev e47:PE:=⟨0,0,.own ty_1,true⟩
abbrev e48:PE:=⟨0,0,.own ty_7,true⟩

noncomputable def q1V:Variant:=⟨[.val ty_1 false,.val ty_0 false],[(ty_0,false)],fun x=>laws_szIntS x.1 x.2.1⟩
noncomputable def q1C:Cfg:=⟨Try.prog,tyOf tys,12,gOf [],false,[],[]⟩
def q1p:List PE := [e1,e2]
noncomputable def q1F:F1:=⟨q1C,rr q1p [(ty_0,false)] Try.f36,fun p=>none,0,[]⟩
theorem q1K:Contract Try.prog 36 (q1V):=ctr q1C (rs := [(ty_0,false)]) (ps:=q1p) q1F Try.f36 32 ⟨tyOf_ok tys_ok,gOf_ok trivial⟩ (annl [] trivial)

noncomputable def q2V(k:Nat):Variant:=⟨[.val ty_2 false,.val ty_0 false],[(ty_0,false)],fun x=>laws_szIntSS k x.1 x.2.1⟩
noncomputable def q2C(k:Nat):Cfg:=⟨Try.prog,tyOf tys,27,gOf [(36,[],q1V)],false,[],[]⟩
def q2i1:List PE := [e3,e4,e5]
def q2o1:List PE := [e6]
noncomputable def q2f1(k:Nat)(n:Nat)(x2:PTe q2i1):=laws_szIntSS_L122 k n x2.1 x2.2.1 x2.2.2.1
def q2p:List PE := [e7,e2]
noncomputable def q2F(k:Nat):F1:=⟨q2C k,rr q2p [(ty_0,false)] Try.f15,fun p=>bif Nat.beq p 122 then some (.loop q2i1 q2o1 0 80 (q2f1 k k))else none,0,[]⟩
theorem q2K(k:Nat):Contract Try.prog 15 (q2V k):=ctr (q2C k) (rs := [(ty_0,false)]) (ps:=q2p) (q2F k) Try.f15 32 ⟨tyOf_ok tys_ok,gOf_ok ⟨q1K,trivial⟩⟩ (annl [122] ⟨lok q2i1 q2o1 0 80 (q2f1 k) k,trivial⟩)

noncomputable def q3V:Variant:=⟨[.val ty_0 false],[(ty_0,false)],fun x=>laws_roomBehind x.1⟩
noncomputable def q3C:Cfg:=⟨Try.prog,tyOf tys,10,gOf [],false,[],[]⟩
def q3p:List PE := [e8]
noncomputable def q3F:F1:=⟨q3C,rr q3p [(ty_0,false)] Try.f25,fun p=>none,0,[]⟩
theorem q3K:Contract Try.prog 25 (q3V):=ctr q3C (rs := [(ty_0,false)]) (ps:=q3p) q3F Try.f25 16 ⟨tyOf_ok tys_ok,gOf_ok trivial⟩ (annl [] trivial)

noncomputable def q4V(k:Nat):Variant:=⟨[.val ty_1 false,.val .bool false],[(ty_3,false)],fun x=>laws_toIntS k x.1 x.2.1⟩
noncomputable def q4C(k:Nat):Cfg:=⟨Try.prog,tyOf tysR,49,gOf [(25,[],q3V)],true,[],[]⟩
def q4i1:List PE := [e9,e10,⟨6,64,.val ty_0 false,false⟩]
def q4o1:List PE := [e9,e10]
noncomputable def q4f1(k:Nat)(n:Nat)(x3:PTe q4i1):=laws_toIntS_L122 k n x3.1 x3.2.1 x3.2.2.1
def q4i2:List PE := [e9,e10,e11]
def q4o2:List PE := [e9,e10]
noncomputable def q4f2(k:Nat)(n:Nat)(x6:PTe q4i2):=laws_toIntS_L250 k n x6.1 x6.2.1 x6.2.2.1
def q4p:List PE := [e1,⟨1,16,.val .bool false,false⟩]
noncomputable def q4F(k:Nat):Fn (List Int×List Int):=⟨q4C k,rr q4p [(ty_3,false)] Try.f7,fun p=>bif Nat.beq p 122 then some (.loop q4i1 q4o1 0 80 (q4f1 k k))else bif Nat.beq p 250 then some (.loop q4i2 q4o2 2 80 (q4f2 k k))else bif Nat.beq p 6 then some (.cut [e9] 48)else none,0,[]⟩
theorem q4K(k:Nat):Contract Try.prog 7 (q4V k):=ctr (q4C k) (rs := [(ty_3,false)]) (ps:=q4p) (q4F k) Try.f7 32 ⟨tyOf_ok tysR_ok,gOf_ok ⟨q3K,trivial⟩⟩ (annl [122,250] ⟨lok q4i1 q4o1 0 80 (q4f1 k) k,lok q4i2 q4o2 2 80 (q4f2 k) k,trivial⟩)

noncomputable def q5V(k:Nat):Variant:=⟨[.val ty_2 false,.val .bool false],[(ty_9,false)],fun x=>laws_toIntSS k x.1 x.2.1⟩
noncomputable def q5C(k:Nat):Cfg:=⟨Try.prog,tyOf tysR,52,gOf [(25,[],q3V),(7,[],q4V k)],true,[5,27,39,44],[]⟩
def q5i1:List PE := [e3,⟨1,48,.val .bool false,false⟩,⟨5,64,.eat ty_3,false⟩,e12]
def q5o1:List PE := [e3,e13]
noncomputable def q5f1(k:Nat)(n:Nat)(x4:PTe q5i1):=laws_toIntSS_L122 k n x4.1 x4.2.1 x4.2.2.1 x4.2.2.2.1
def q5i2:List PE := [e3,e13,e11]
def q5o2:List PE := [e3,e13]
noncomputable def q5f2(k:Nat)(n:Nat)(x7:PTe q5i2):=laws_toIntSS_L250 k n x7.1 x7.2.1 x7.2.2.1
def q5p:List PE := [e7,⟨1,16,.val .bool false,false⟩]
noncomputable def q5F(k:Nat):Fn (List (List Int×List Int)×List (List Int×List Int)):=⟨q5C k,rr q5p [(ty_9,false)] Try.f17,fun p=>bif Nat.beq p 122 then some (.loop q5i1 q5o1 0 96 (q5f1 k k))else bif Nat.beq p 250 then some (.loop q5i2 q5o2 2 80 (q5f2 k k))else bif Nat.beq p 6 then some (.cut [e3,⟨1,48,.val .bool false,false⟩] 64)else none,0,[]⟩
theorem q5K(k:Nat):Contract Try.prog 17 (q5V k):=ctr (q5C k) (rs := [(ty_9,false)]) (ps:=q5p) (q5F k) Try.f17 32 ⟨tyOf_ok tysR_ok,gOf_ok ⟨q3K,q4K k,trivial⟩⟩ (annl [122,250] ⟨lok q5i1 q5o1 0 96 (q5f1 k) k,lok q5i2 q5o2 2 80 (q5f2 k) k,trivial⟩)

noncomputable def q6V:Variant:=⟨[.val ty_0 false,.val ty_0 false,.val ty_0 false],[(.bool,false)],fun x=>spec_l1In x.1 x.2.1 x.2.2.1⟩
noncomputable def q6C:Cfg:=⟨Try.prog,tyOf tys,15,gOf [],false,[],[]⟩
def q6p:List PE := [e8,e2,e14]
noncomputable def q6F:F2:=⟨q6C,rr q6p [(.bool,false)] Try.f30,fun p=>none,0,[]⟩
theorem q6K:Contract Try.prog 30 (q6V):=ctr q6C (rs := [(.bool,false)]) (ps:=q6p) q6F Try.f30 48 ⟨tyOf_ok tys_ok,gOf_ok trivial⟩ (annl [] trivial)

noncomputable def q7V(k:Nat):Variant:=⟨[.val ty_1 false,.val ty_0 false,.val ty_0 false],[(.bool,false)],fun x=>spec_l1All k x.1 x.2.1 x.2.2.1⟩
noncomputable def q7C(k:Nat):Cfg:=⟨Try.prog,tyOf tys,21,gOf [(30,[],q6V)],false,[],[]⟩
def q7i1:List PE := [e4,⟨2,64,.val ty_0 false,false⟩,⟨9,80,.val ty_1 false,false⟩,⟨10,96,.val ty_0 false,false⟩,⟨11,112,.val ty_0 false,false⟩]
def q7o1:List PE := []
noncomputable def q7f1(k:Nat)(n:Nat)(x2:PTe q7i1):=spec_l1All_L26 k n x2.1 x2.2.1 x2.2.2.1 x2.2.2.2.1 x2.2.2.2.2.1
def q7p:List PE := [e1,e2,e14]
noncomputable def q7F(k:Nat):F2:=⟨q7C k,rr q7p [(.bool,false)] Try.f23,fun p=>bif Nat.beq p 26 then some (.loop q7i1 q7o1 0 128 (q7f1 k k))else none,0,[]⟩
theorem q7K(k:Nat):Contract Try.prog 23 (q7V k):=ctr (q7C k) (rs := [(.bool,false)]) (ps:=q7p) (q7F k) Try.f23 48 ⟨tyOf_ok tys_ok,gOf_ok ⟨q6K,trivial⟩⟩ (annl [26] ⟨lok q7i1 q7o1 0 128 (q7f1 k) k,trivial⟩)

noncomputable def q8V(k:Nat):Variant:=⟨[.val ty_2 false],[(.bool,false)],fun x=>spec_dgComplex k x.1⟩
noncomputable def q8C(k:Nat):Cfg:=⟨Try.prog,tyOf tys,34,gOf [(23,[],q7V k),(30,[],q6V)],false,[],[]⟩
def q8i1:List PE := [e15,⟨6,32,.val ty_2 false,false⟩,e16,e17]
def q8o1:List PE := [e15]
noncomputable def q8f1(k:Nat)(n:Nat)(x2:PTe q8i1):=spec_dgComplex_L26 k n x2.1 x2.2.1 x2.2.2.1 x2.2.2.2.1
def q8p:List PE := [e7]
noncomputable def q8F(k:Nat):F2:=⟨q8C k,rr q8p [(.bool,false)] Try.f37,fun p=>bif Nat.beq p 26 then some (.loop q8i1 q8o1 0 80 (q8f1 k k))else none,0,[]⟩
theorem q8K(k:Nat):Contract Try.prog 37 (q8V k):=ctr (q8C k) (rs := [(.bool,false)]) (ps:=q8p) (q8F k) Try.f37 16 ⟨tyOf_ok tys_ok,gOf_ok ⟨q7K k,q6K,trivial⟩⟩ (annl [26] ⟨lok q8i1 q8o1 0 80 (q8f1 k) k,trivial⟩)

noncomputable def q9V(k:Nat):Variant:=⟨[.val ty_0 false,.val ty_0 false],[(ty_0,false)],fun x=>spec_beChoose k x.1 x.2.1⟩
noncomputable def q9C(k:Nat):Cfg:=⟨Try.prog,tyOf tys,21,gOf [],false,[],[]⟩
def q9i1:List PE := [⟨0,32,.val ty_0 false,false⟩,e4,e5,e12]
def q9o1:List PE := [e18]
noncomputable def q9f1(k:Nat)(n:Nat)(x1:PTe q9i1):=spec_beChoose_L58 k n x1.1 x1.2.1 x1.2.2.1 x1.2.2.2.1
def q9p:List PE := [e8,e2]
noncomputable def q9F(k:Nat):F1:=⟨q9C k,rr q9p [(ty_0,false)] Try.f52,fun p=>bif Nat.beq p 58 then some (.loop q9i1 q9o1 0 96 (q9f1 k k))else none,0,[]⟩
theorem q9K(k:Nat):Contract Try.prog 52 (q9V k):=ctr (q9C k) (rs := [(ty_0,false)]) (ps:=q9p) (q9F k) Try.f52 32 ⟨tyOf_ok tys_ok,gOf_ok trivial⟩ (annl [58] ⟨lok q9i1 q9o1 0 96 (q9f1 k) k,trivial⟩)

noncomputable def q10V:Variant:=⟨[.val ty_0 false],[(ty_0,false)],fun x=>spec_l1Sign x.1⟩
noncomputable def q10C:Cfg:=⟨Try.prog,tyOf tys,9,gOf [],false,[],[]⟩
def q10p:List PE := [e8]
noncomputable def q10F:F1:=⟨q10C,rr q10p [(ty_0,false)] Try.f79,fun p=>none,0,[]⟩
theorem q10K:Contract Try.prog 79 (q10V):=ctr q10C (rs := [(ty_0,false)]) (ps:=q10p) q10F Try.f79 16 ⟨tyOf_ok tys_ok,gOf_ok trivial⟩ (annl [] trivial)

noncomputable def q11V:Variant:=⟨[.val ty_6 true,.val ty_6 true],[(ty_0,false)],fun x=>spec_poOrder x.1 x.2.1⟩
noncomputable def q11C:Cfg:=⟨Try.prog,tyOf tys,35,gOf [(79,[],q10V)],false,[],[]⟩
def q11p:List PE := [e19,e20]
noncomputable def q11F:F1:=⟨q11C,rr q11p [(ty_0,false)] Try.f67,fun p=>none,0,[]⟩
theorem q11K:Contract Try.prog 67 (q11V):=ctr q11C (rs := [(ty_0,false)]) (ps:=q11p) q11F Try.f67 32 ⟨tyOf_ok tys_ok,gOf_ok ⟨q10K,trivial⟩⟩ (annl [] trivial)

noncomputable def q12V(k:Nat):Variant:=⟨[.val ty_7 false,.val ty_6 true],[(ty_7,false)],fun x=>spec_poPut k x.1 x.2.1⟩
noncomputable def q12C(k:Nat):Cfg:=⟨Try.prog,tyOf tys,67,gOf [(67,[],q11V)],false,[],[]⟩
def q12i1:List PE := [e21,e22,e5]
def q12o1:List PE := [e21,e22,e5]
noncomputable def q12f1(k:Nat)(n:Nat)(x2:PTe q12i1):=spec_poPut_L28 k n x2.1 x2.2.1 x2.2.2.1
def q12p:List PE := [e23,e20]
noncomputable def q12F(k:Nat):F3:=⟨q12C k,rr q12p [(ty_7,false)] Try.f53,fun p=>bif Nat.beq p 28 then some (.loop q12i1 q12o1 0 80 (q12f1 k k))else bif Nat.beq p 254 then some (.cut [⟨6,32,.val ty_7 false,false⟩,⟨7,48,.eat ty_6,false⟩] 64)else bif Nat.beq p 62 then some (.cut [e21,e22,e5,⟨6,80,.val ty_7 false,false⟩] 96)else none,0,[]⟩
theorem q12K(k:Nat):Contract Try.prog 53 (q12V k):=ctr (q12C k) (rs := [(ty_7,false)]) (ps:=q12p) (q12F k) Try.f53 32 ⟨tyOf_ok tys_ok,gOf_ok ⟨q11K,trivial⟩⟩ (annl [28] ⟨lok q12i1 q12o1 0 80 (q12f1 k) k,trivial⟩)

noncomputable def q13V:Variant:=⟨[.val ty_6 true],[(.bool,false)],fun x=>spec_poTerm x.1⟩
noncomputable def q13C:Cfg:=⟨Try.prog,tyOf tys,32,gOf [(30,[],q6V)],false,[],[]⟩
def q13p:List PE := [e19]
noncomputable def q13F:F2:=⟨q13C,rr q13p [(.bool,false)] Try.f80,fun p=>none,0,[]⟩
theorem q13K:Contract Try.prog 80 (q13V):=ctr q13C (rs := [(.bool,false)]) (ps:=q13p) q13F Try.f80 16 ⟨tyOf_ok tys_ok,gOf_ok ⟨q6K,trivial⟩⟩ (annl [] trivial)

noncomputable def q14V(k:Nat):Variant:=⟨[.val ty_7 false],[(.bool,false)],fun x=>spec_poGood k x.1⟩
noncomputable def q14C(k:Nat):Cfg:=⟨Try.prog,tyOf tys,38,gOf [(80,[],q13V),(67,[],q11V)],false,[],[]⟩
def q14i1:List PE := [e24,⟨5,32,.val ty_7 false,false⟩,e25,e11]
def q14o1:List PE := [e24]
noncomputable def q14f1(k:Nat)(n:Nat)(x3:PTe q14i1):=spec_poGood_L26 k n x3.1 x3.2.1 x3.2.2.1 x3.2.2.2.1
def q14p:List PE := [e23]
noncomputable def q14F(k:Nat):F2:=⟨q14C k,rr q14p [(.bool,false)] Try.f68,fun p=>bif Nat.beq p 26 then some (.loop q14i1 q14o1 0 80 (q14f1 k k))else none,0,[]⟩
theorem q14K(k:Nat):Contract Try.prog 68 (q14V k):=ctr (q14C k) (rs := [(.bool,false)]) (ps:=q14p) (q14F k) Try.f68 16 ⟨tyOf_ok tys_ok,gOf_ok ⟨q13K,q11K,trivial⟩⟩ (annl [26] ⟨lok q14i1 q14o1 0 80 (q14f1 k) k,trivial⟩)

noncomputable def q15V:Variant:=⟨[.val ty_6 true,.val ty_0 false],[(ty_0,false)],fun x=>spec_poPower x.1 x.2.1⟩
noncomputable def q15C:Cfg:=⟨Try.prog,tyOf tys,16,gOf [],false,[],[]⟩
def q15p:List PE := [e19,e2]
noncomputable def q15F:F1:=⟨q15C,rr q15p [(ty_0,false)] Try.f82,fun p=>none,0,[]⟩
theorem q15K:Contract Try.prog 82 (q15V):=ctr q15C (rs := [(ty_0,false)]) (ps:=q15p) q15F Try.f82 32 ⟨tyOf_ok tys_ok,gOf_ok trivial⟩ (annl [] trivial)

noncomputable def q16V:Variant:=⟨[.val ty_0 false,.val ty_0 false],[(ty_0,false)],fun x=>spec_l1Most x.1 x.2.1⟩
noncomputable def q16C:Cfg:=⟨Try.prog,tyOf tys,10,gOf [],false,[],[]⟩
def q16p:List PE := [e8,e2]
noncomputable def q16F:F1:=⟨q16C,rr q16p [(ty_0,false)] Try.f81,fun p=>none,0,[]⟩
theorem q16K:Contract Try.prog 81 (q16V):=ctr q16C (rs := [(ty_0,false)]) (ps:=q16p) q16F Try.f81 32 ⟨tyOf_ok tys_ok,gOf_ok trivial⟩ (annl [] trivial)

noncomputable def q17V(k:Nat):Variant:=⟨[.val ty_7 false,.val ty_0 false],[(ty_0,false)],fun x=>spec_poDegreeIn k x.1 x.2.1⟩
noncomputable def q17C(k:Nat):Cfg:=⟨Try.prog,tyOf tys,21,gOf [(82,[],q15V),(81,[],q16V)],false,[],[]⟩
def q17i1:List PE := [e6,e26,⟨8,64,.val ty_7 false,false⟩,⟨9,80,.val ty_0 false,false⟩,⟨10,96,.val ty_0 false,false⟩]
def q17o1:List PE := [e18]
noncomputable def q17f1(k:Nat)(n:Nat)(x3:PTe q17i1):=spec_poDegreeIn_L58 k n x3.1 x3.2.1 x3.2.2.1 x3.2.2.2.1 x3.2.2.2.2.1
def q17p:List PE := [e23,e2]
noncomputable def q17F(k:Nat):F1:=⟨q17C k,rr q17p [(ty_0,false)] Try.f69,fun p=>bif Nat.beq p 58 then some (.loop q17i1 q17o1 0 112 (q17f1 k k))else none,0,[]⟩
theorem q17K(k:Nat):Contract Try.prog 69 (q17V k):=ctr (q17C k) (rs := [(ty_0,false)]) (ps:=q17p) (q17F k) Try.f69 32 ⟨tyOf_ok tys_ok,gOf_ok ⟨q15K,q16K,trivial⟩⟩ (annl [58] ⟨lok q17i1 q17o1 0 112 (q17f1 k) k,trivial⟩)

noncomputable def q18V(k:Nat):Variant:=⟨[.val ty_8 false],[(.bool,false)],fun x=>spec_poSystem k x.1⟩
noncomputable def q18C(k:Nat):Cfg:=⟨Try.prog,tyOf tys,29,gOf [(68,[],q14V k),(69,[],q17V k),(30,[],q6V)],false,[],[]⟩
def q18i1:List PE := [e27,⟨4,32,.val ty_7 false,false⟩,e26,⟨6,64,.val ty_8 false,false⟩,⟨7,80,.val ty_0 false,false⟩,⟨8,96,.val ty_0 false,false⟩]
def q18o1:List PE := [e27,⟨6,32,.val ty_8 false,false⟩,e16,e17]
noncomputable def q18f1(k:Nat)(n:Nat)(x3:PTe q18i1):=spec_poSystem_L13518 k n x3.1 x3.2.1 x3.2.2.1 x3.2.2.2.1 x3.2.2.2.2.1 x3.2.2.2.2.2.1
def q18i2:List PE := [e27,⟨6,32,.val ty_8 false,false⟩,e16,e17]
def q18o2:List PE := [e27]
noncomputable def q18f2(k:Nat)(n:Nat)(x6:PTe q18i2):=spec_poSystem_L26 k n x6.1 x6.2.1 x6.2.2.1 x6.2.2.2.1
def q18p:List PE := [e28]
noncomputable def q18F(k:Nat):F2:=⟨q18C k,rr q18p [(.bool,false)] Try.f54,fun p=>bif Nat.beq p 13518 then some (.loop q18i1 q18o1 2 112 (q18f1 k k))else bif Nat.beq p 26 then some (.loop q18i2 q18o2 0 80 (q18f2 k k))else none,0,[]⟩
theorem q18K(k:Nat):Contract Try.prog 54 (q18V k):=ctr (q18C k) (rs := [(.bool,false)]) (ps:=q18p) (q18F k) Try.f54 16 ⟨tyOf_ok tys_ok,gOf_ok ⟨q14K k,q17K k,q6K,trivial⟩⟩ (annl [26,13518] ⟨lok q18i2 q18o2 0 80 (q18f2 k) k,lok q18i1 q18o1 2 112 (q18f1 k) k,trivial⟩)

noncomputable def q19V(k:Nat):Variant:=⟨[.val ty_2 false],[(ty_8,false),(.bool,false)],fun x=>spec_dgParted k x.1⟩
noncomputable def q19C(k:Nat):Cfg:=⟨Try.prog,tyOf tys,102,gOf [(52,[],q9V k),(53,[],q12V k),(54,[],q18V k)],false,[],[]⟩
def q19i1:List PE := [e29,e30,e25,e31,e32,⟨13,96,.val ty_2 false,false⟩,⟨14,112,.val ty_0 false,false⟩,⟨15,128,.val ty_0 false,false⟩]
def q19o1:List PE := [e29,e30,⟨13,48,.val ty_2 false,false⟩,e33,⟨15,80,.val ty_0 false,false⟩]
noncomputable def q19f1(k:Nat)(n:Nat)(x8:PTe q19i1):=spec_dgParted_L14950 k n x8.1 x8.2.1 x8.2.2.1 x8.2.2.2.1 x8.2.2.2.2.1 x8.2.2.2.2.2.1 x8.2.2.2.2.2.2.1 x8.2.2.2.2.2.2.2.1
def q19i2:List PE := [e29,e30,⟨13,48,.val ty_2 false,false⟩,e33,⟨15,80,.val ty_0 false,false⟩]
def q19o2:List PE := [e29,e30]
noncomputable def q19f2(k:Nat)(n:Nat)(x11:PTe q19i2):=spec_dgParted_L58 k n x11.1 x11.2.1 x11.2.2.1 x11.2.2.2.1 x11.2.2.2.2.1
def q19p:List PE := [e7]
noncomputable def q19F(k:Nat):F4:=⟨q19C k,rr q19p [(ty_8,false),(.bool,false)] Try.f31,fun p=>bif Nat.beq p 3827278 then some (.cut [e29,e30,e25,e31,e32,⟨9,96,.box ty_6 false,false⟩,⟨11,112,.val ty_0 false,false⟩,⟨13,128,.val ty_2 false,false⟩,⟨14,144,.val ty_0 false,false⟩,⟨15,160,.val ty_0 false,false⟩] 176)else bif Nat.beq p 1913638 then some (.cut [e29,e30,e25,e31,e32,⟨9,96,.box ty_6 false,false⟩,e34,⟨11,128,.val ty_0 false,false⟩,⟨13,144,.val ty_2 false,false⟩,e35,⟨15,176,.val ty_0 false,false⟩] 192)else bif Nat.beq p 14950 then some (.loop q19i1 q19o1 2 144 (q19f1 k k))else bif Nat.beq p 58 then some (.loop q19i2 q19o2 0 96 (q19f2 k k))else none,0,[]⟩
theorem q19K(k:Nat):Contract Try.prog 31 (q19V k):=ctr (q19C k) (rs := [(ty_8,false),(.bool,false)]) (ps:=q19p) (q19F k) Try.f31 16 ⟨tyOf_ok tys_ok,gOf_ok ⟨q9K k,q12K k,q18K k,trivial⟩⟩ (annl [58,14950] ⟨lok q19i2 q19o2 0 96 (q19f2 k) k,lok q19i1 q19o1 2 144 (q19f1 k) k,trivial⟩)

noncomputable def q20V(k:Nat):Variant:=⟨[.val ty_2 false],[(ty_8,false),(.bool,false)],fun x=>spec_ComplexSystem k x.1⟩
noncomputable def q20C(k:Nat):Cfg:=⟨Try.prog,tyOf tys,17,gOf [(37,[],q8V k),(31,[],q19V k)],false,[],[]⟩
def q20p:List PE := [e7]
noncomputable def q20F(k:Nat):F4:=⟨q20C k,rr q20p [(ty_8,false),(.bool,false)] Try.f16,fun p=>none,0,[]⟩
theorem q20K(k:Nat):Contract Try.prog 16 (q20V k):=ctr (q20C k) (rs := [(ty_8,false),(.bool,false)]) (ps:=q20p) (q20F k) Try.f16 16 ⟨tyOf_ok tys_ok,gOf_ok ⟨q8K k,q19K k,trivial⟩⟩ (annl [] trivial)

noncomputable def q21V:Variant:=⟨[.val ty_0 false,.val ty_0 false,.val ty_0 false],[(.bool,false)],fun x=>impl_inside x.1 x.2.1 x.2.2.1⟩
noncomputable def q21C:Cfg:=⟨Try.prog,tyOf tys,15,gOf [],false,[],[]⟩
def q21p:List PE := [e8,e2,e14]
noncomputable def q21F:F2:=⟨q21C,rr q21p [(.bool,false)] Try.f26,fun p=>none,0,[]⟩
theorem q21K:Contract Try.prog 26 (q21V):=ctr q21C (rs := [(.bool,false)]) (ps:=q21p) q21F Try.f26 48 ⟨tyOf_ok tys_ok,gOf_ok trivial⟩ (annl [] trivial)

noncomputable def q22V(k:Nat):Variant:=⟨[.val ty_2 false],[(.bool,false)],fun x=>impl_isComplex k x.1⟩
noncomputable def q22C(k:Nat):Cfg:=⟨Try.prog,tyOf tys,54,gOf [(26,[],q21V)],false,[],[]⟩
def q22i1:List PE := [e15,⟨5,32,.val ty_2 false,false⟩,e25,e11]
def q22o1:List PE := [e15]
noncomputable def q22f1(k:Nat)(n:Nat)(x3:PTe q22i1):=impl_isComplex_L26 k n x3.1 x3.2.1 x3.2.2.1 x3.2.2.2.1
def q22p:List PE := [e7]
noncomputable def q22F(k:Nat):F2:=⟨q22C k,rr q22p [(.bool,false)] Try.f38,fun p=>bif Nat.beq p 26 then some (.loop q22i1 q22o1 0 80 (q22f1 k k))else none,0,[]⟩
theorem q22K(k:Nat):Contract Try.prog 38 (q22V k):=ctr (q22C k) (rs := [(.bool,false)]) (ps:=q22p) (q22F k) Try.f38 16 ⟨tyOf_ok tys_ok,gOf_ok ⟨q21K,trivial⟩⟩ (annl [26] ⟨lok q22i1 q22o1 0 80 (q22f1 k) k,trivial⟩)

noncomputable def q23V(k:Nat):Variant:=⟨[.val ty_0 false,.val ty_0 false],[(ty_0,false)],fun x=>impl_choose k x.1 x.2.1⟩
noncomputable def q23C(k:Nat):Cfg:=⟨Try.prog,tyOf tys,21,gOf [],false,[],[]⟩
def q23i1:List PE := [⟨0,32,.val ty_0 false,false⟩,e26,e11,e32]
def q23o1:List PE := [e18]
noncomputable def q23f1(k:Nat)(n:Nat)(x1:PTe q23i1):=impl_choose_L58 k n x1.1 x1.2.1 x1.2.2.1 x1.2.2.2.1
def q23p:List PE := [e8,e2]
noncomputable def q23F(k:Nat):F1:=⟨q23C k,rr q23p [(ty_0,false)] Try.f55,fun p=>bif Nat.beq p 58 then some (.loop q23i1 q23o1 0 96 (q23f1 k k))else none,0,[]⟩
theorem q23K(k:Nat):Contract Try.prog 55 (q23V k):=ctr (q23C k) (rs := [(ty_0,false)]) (ps:=q23p) (q23F k) Try.f55 32 ⟨tyOf_ok tys_ok,gOf_ok trivial⟩ (annl [58] ⟨lok q23i1 q23o1 0 96 (q23f1 k) k,trivial⟩)

noncomputable def q24V:Variant:=⟨[.val ty_7 false],[(ty_7,false)],fun x=>slices_Clone_Term_Term x.1⟩
noncomputable def q24C:Cfg:=⟨Try.prog,tyOf tys,8,gOf [],false,[],[]⟩
def q24p:List PE := [e23]
noncomputable def q24F:F3:=⟨q24C,rr q24p [(ty_7,false)] Try.f70,fun p=>none,0,[]⟩
theorem q24eq(x:PTe q24p):evFnN false (q24F) (codeOf Try.f70) q24p 16 x=slices_Clone_Term_Term x.1:=by kernel_rfl
theorem q24e0(x:(Unit)):evFnN true (q24F) (codeOf Try.f70) q24p 16 (([]:List (Int×Int×Int×Int)),x)=slices_Clone_Term_Term []:=by kernel_rfl
theorem q24K:Contract Try.prog 70 (q24V) :=
 contractN (C:=q24C) (F:=q24F) (fn:=Try.f70) (ps:=q24p) (rs := [(ty_7,false)]) (nx:=16) rfl ⟨tyOf_ok tys_ok,gOf_ok trivial⟩ rfl (by kernel_rfl) (by kernel_rfl) (by kernel_rfl) (by kernel_rfl) (by kernel_rfl) (by kernel_rfl) rfl (by kernel_rfl) (by kernel_rfl) (AnnOk_list [] (by kernel_rfl) trivial) mix_ok (q24eq) (fun x h=>by obtain⟨x1,x2⟩:=x;have h:x1 = []:=h;subst h;exact q24e0 x2)

noncomputable def q25V:Variant:=⟨[.val ty_0 false],[(.bool,false)],fun x=>cmp_isNaN_int x.1⟩
noncomputable def q25C:Cfg:=⟨Try.prog,tyOf tys,6,gOf [],false,[],[]⟩
def q25p:List PE := [e8]
noncomputable def q25F:F2:=⟨q25C,rr q25p [(.bool,false)] Try.f91,fun p=>none,0,[]⟩
theorem q25K:Contract Try.prog 91 (q25V):=ctr q25C (rs := [(.bool,false)]) (ps:=q25p) q25F Try.f91 16 ⟨tyOf_ok tys_ok,gOf_ok trivial⟩ (annl [] trivial)

noncomputable def q26V:Variant:=⟨[.val ty_0 false,.val ty_0 false],[(ty_0,false)],fun x=>cmp_Compare_int x.1 x.2.1⟩
noncomputable def q26C:Cfg:=⟨Try.prog,tyOf tys,20,gOf [(91,[],q25V)],false,[],[]⟩
def q26p:List PE := [e8,e2]
noncomputable def q26F:F1:=⟨q26C,rr q26p [(ty_0,false)] Try.f85,fun p=>none,0,[]⟩
theorem q26K:Contract Try.prog 85 (q26V):=ctr q26C (rs := [(ty_0,false)]) (ps:=q26p) q26F Try.f85 32 ⟨tyOf_ok tys_ok,gOf_ok ⟨q25K,trivial⟩⟩ (annl [] trivial)

noncomputable def q27V(k:Nat):Variant:=⟨[.val ty_1 false],[(ty_0,false)],fun x=>cmp_Or_int k x.1⟩
noncomputable def q27C(k:Nat):Cfg:=⟨Try.prog,tyOf tys,18,gOf [],false,[],[]⟩
def q27i1:List PE := [⟨3,16,.val ty_0 false,false⟩,⟨6,32,.val ty_1 false,false⟩,e16,e17]
def q27o1:List PE := [⟨3,16,.val ty_0 false,false⟩]
noncomputable def q27f1(k:Nat)(n:Nat)(x1:PTe q27i1):=cmp_Or_int_L58 k n x1.1 x1.2.1 x1.2.2.1 x1.2.2.2.1
def q27p:List PE := [e1]
noncomputable def q27F(k:Nat):F1:=⟨q27C k,rr q27p [(ty_0,false)] Try.f84,fun p=>bif Nat.beq p 58 then some (.loop q27i1 q27o1 0 80 (q27f1 k k))else none,0,[]⟩
theorem q27K(k:Nat):Contract Try.prog 84 (q27V k):=ctr (q27C k) (rs := [(ty_0,false)]) (ps:=q27p) (q27F k) Try.f84 16 ⟨tyOf_ok tys_ok,gOf_ok trivial⟩ (annl [58] ⟨lok q27i1 q27o1 0 80 (q27f1 k) k,trivial⟩)

noncomputable def q28V(k:Nat):Variant:=⟨[.val ty_6 true,.val ty_6 true],[(ty_0,false)],fun x=>impl_compareTerms k x.1 x.2.1⟩
noncomputable def q28C(k:Nat):Cfg:=⟨Try.prog,tyOf tys,22,gOf [(85,[],q26V),(84,[],q27V k)],false,[],[]⟩
def q28p:List PE := [e19,e20]
noncomputable def q28F(k:Nat):F1:=⟨q28C k,rr q28p [(ty_0,false)] Try.f72,fun p=>none,0,[]⟩
theorem q28K(k:Nat):Contract Try.prog 72 (q28V k):=ctr (q28C k) (rs := [(ty_0,false)]) (ps:=q28p) (q28F k) Try.f72 32 ⟨tyOf_ok tys_ok,gOf_ok ⟨q26K,q27K k,trivial⟩⟩ (annl [] trivial)

noncomputable def q29V(k:Nat):Variant:=⟨[.own ty_6,.val ty_0 false,.val ty_0 false,.fn 72 []],[],fun x=>slices_insertionSortCmpFunc_Term_impl_compareTerms k x.1 x.2.1 x.2.2.1 x.2.2.2.1⟩
noncomputable def q29C(k:Nat):Cfg:=⟨Try.prog,tyOf tys,53,gOf [(72,[],q28V k)],false,[],[]⟩
def q29i1:List PE := [e36,e37,e38,e39,e40,⟨9,128,.val ty_0 false,false⟩]
def q29o1:List PE := [e36,e37,e38,e39,e40]
noncomputable def q29f1(k:Nat)(n:Nat)(x2:PTe q29i1):=slices_insertionSortCmpFunc_Term_impl_compareTerms_L402 k n x2.1 x2.2.1 x2.2.2.1 x2.2.2.2.1 x2.2.2.2.2.1 x2.2.2.2.2.2.1
def q29i2:List PE := [e36,e37,e38,e39,e40]
def q29o2:List PE := [e36]
noncomputable def q29f2(k:Nat)(n:Nat)(x5:PTe q29i2):=slices_insertionSortCmpFunc_Term_impl_compareTerms_L6 k n x5.1 x5.2.1 x5.2.2.1 x5.2.2.2.1 x5.2.2.2.2.1
def q29p:List PE := [e36,e2,e14,⟨3,48,.fn 72 [],false⟩]
noncomputable def q29F(k:Nat):F3:=⟨q29C k,rr q29p [] Try.f89,fun p=>bif Nat.beq p 402 then some (.loop q29i1 q29o1 2 144 (q29f1 k k))else bif Nat.beq p 6 then some (.loop q29i2 q29o2 0 128 (q29f2 k k))else none,0,[0]⟩
theorem q29K(k:Nat):Contract Try.prog 89 (q29V k):=ctr (q29C k) (rs := []) (ps:=q29p) (q29F k) Try.f89 64 ⟨tyOf_ok tys_ok,gOf_ok ⟨q28K k,trivial⟩⟩ (annl [6,402] ⟨lok q29i2 q29o2 0 128 (q29f2 k) k,lok q29i1 q29o1 2 144 (q29f1 k) k,trivial⟩)

noncomputable def q30V(k:Nat):Variant:=⟨[.own ty_6,.val ty_0 false,.fn 72 []],[],fun x=>slices_stableCmpFunc_Term_impl_compareTerms k x.1 x.2.1 x.2.2.1⟩
noncomputable def q30C(k:Nat):Cfg:=⟨Try.prog,tyOf tys,63,gOf [(89,[72],q29V k)],false,[],[]⟩
def q30i1:List PE := [e36,e4,e41,e12,e42,e40]
def q30o1:List PE := [e36,e4,e41,e12,e42]
noncomputable def q30f1(k:Nat)(n:Nat)(x2:PTe q30i1):=slices_stableCmpFunc_Term_impl_compareTerms_L28 k n x2.1 x2.2.1 x2.2.2.1 x2.2.2.2.1 x2.2.2.2.2.1 x2.2.2.2.2.2.1
def q30i2:List PE := [e36,e4,e41,e12,e42,e40]
def q30o2:List PE := [e36,e4,e41,e12,e42]
noncomputable def q30f2(k:Nat)(n:Nat)(x6:PTe q30i2):=slices_stableCmpFunc_Term_impl_compareTerms_L3988 k n x6.1 x6.2.1 x6.2.2.1 x6.2.2.2.1 x6.2.2.2.2.1 x6.2.2.2.2.2.1
def q30i3:List PE := [e36,e4,e41,e12]
def q30o3:List PE := [e36]
noncomputable def q30f3(k:Nat)(n:Nat)(x9:PTe q30i3):=slices_stableCmpFunc_Term_impl_compareTerms_L62 k n x9.1 x9.2.1 x9.2.2.1 x9.2.2.2.1
def q30p:List PE := [e36,e2,⟨2,32,.fn 72 [],false⟩]
noncomputable def q30F(k:Nat):F3:=⟨q30C k,rr q30p [] Try.f83,fun p=>bif Nat.beq p 28 then some (.loop q30i1 q30o1 0 128 (q30f1 k k))else bif Nat.beq p 3988 then some (.loop q30i2 q30o2 4 128 (q30f2 k k))else bif Nat.beq p 62 then some (.loop q30i3 q30o3 2 96 (q30f3 k k))else none,0,[0]⟩
theorem q30K(k:Nat):Contract Try.prog 83 (q30V k):=ctr (q30C k) (rs := []) (ps:=q30p) (q30F k) Try.f83 48 ⟨tyOf_ok tys_ok,gOf_ok ⟨q29K k,trivial⟩⟩ (annl [28,62,3988] ⟨lok q30i1 q30o1 0 128 (q30f1 k) k,lok q30i3 q30o3 2 96 (q30f3 k) k,lok q30i2 q30o2 4 128 (q30f2 k) k,trivial⟩)

noncomputable def q31V(k:Nat):Variant:=⟨[.own ty_6,.fn 72 []],[],fun x=>slices_SortStableFunc_Term_Term_impl_compareTerms k x.1 x.2.1⟩
noncomputable def q31C(k:Nat):Cfg:=⟨Try.prog,tyOf tys,9,gOf [(83,[72],q30V k)],false,[],[]⟩
def q31p:List PE := [e36,⟨1,16,.fn 72 [],false⟩]
noncomputable def q31F(k:Nat):F3:=⟨q31C k,rr q31p [] Try.f71,fun p=>none,0,[0]⟩
theorem q31K(k:Nat):Contract Try.prog 71 (q31V k):=ctr (q31C k) (rs := []) (ps:=q31p) (q31F k) Try.f71 32 ⟨tyOf_ok tys_ok,gOf_ok ⟨q30K k,trivial⟩⟩ (annl [] trivial)

noncomputable def q32V:Variant:=⟨[.val ty_6 true],[(.bool,false)],fun x=>impl_collect_1 x.1⟩
noncomputable def q32C:Cfg:=⟨Try.prog,tyOf tys,6,gOf [],false,[],[]⟩
def q32p:List PE := [e19]
noncomputable def q32F:F2:=⟨q32C,rr q32p [(.bool,false)] Try.f74,fun p=>none,0,[]⟩
theorem q32K:Contract Try.prog 74 (q32V):=ctr q32C (rs := [(.bool,false)]) (ps:=q32p) q32F Try.f74 16 ⟨tyOf_ok tys_ok,gOf_ok trivial⟩ (annl [] trivial)

noncomputable def q33V(k:Nat):Variant:=⟨[.val ty_7 false,.fn 74 []],[(ty_0,false)],fun x=>slices_IndexFunc_Term_Term_impl_collect_1 k x.1 x.2.1⟩
noncomputable def q33C(k:Nat):Cfg:=⟨Try.prog,tyOf tys,19,gOf [(74,[],q32V)],false,[],[]⟩
def q33i1:List PE := [e21,⟨1,48,.fn 74 [],false⟩,e11,e32]
def q33o1:List PE := []
noncomputable def q33f1(k:Nat)(n:Nat)(x2:PTe q33i1):=slices_IndexFunc_Term_Term_impl_collect_1_L26 k n x2.1 x2.2.1 x2.2.2.1 x2.2.2.2.1
def q33p:List PE := [e23,⟨1,16,.fn 74 [],false⟩]
noncomputable def q33F(k:Nat):F1:=⟨q33C k,rr q33p [(ty_0,false)] Try.f86,fun p=>bif Nat.beq p 26 then some (.loop q33i1 q33o1 0 96 (q33f1 k k))else none,0,[]⟩
theorem q33K(k:Nat):Contract Try.prog 86 (q33V k):=ctr (q33C k) (rs := [(ty_0,false)]) (ps:=q33p) (q33F k) Try.f86 32 ⟨tyOf_ok tys_ok,gOf_ok ⟨q32K,trivial⟩⟩ (annl [26] ⟨lok q33i1 q33o1 0 96 (q33f1 k) k,trivial⟩)

noncomputable def q34V(k:Nat):Variant:=⟨[.eat ty_6,.fn 74 []],[(ty_7,false)],fun x=>slices_DeleteFunc_Term_Term_impl_collect_1 k x.1 x.2.1⟩
noncomputable def q34C(k:Nat):Cfg:=⟨Try.prog,tyOf tys,42,gOf [(86,[74],q33V k),(74,[],q32V)],true,[],[]⟩
def q34i1:List PE := [⟨0,32,.eat ty_6,false⟩,⟨1,48,.fn 74 [],false⟩,e5,e12]
def q34o1:List PE := [⟨0,32,.eat ty_6,false⟩,e26]
noncomputable def q34f1(k:Nat)(n:Nat)(x3:PTe q34i1):=slices_DeleteFunc_Term_Term_impl_collect_1_L122 k n x3.1 x3.2.1 x3.2.2.1 x3.2.2.2.1
def q34p:List PE := [⟨0,0,.eat ty_6,false⟩,⟨1,16,.fn 74 [],false⟩]
noncomputable def q34F(k:Nat):F3:=⟨q34C k,rr q34p [(ty_7,false)] Try.f73,fun p=>bif Nat.beq p 122 then some (.loop q34i1 q34o1 0 96 (q34f1 k k))else none,0,[]⟩
theorem q34K(k:Nat):Contract Try.prog 73 (q34V k):=ctr (q34C k) (rs := [(ty_7,false)]) (ps:=q34p) (q34F k) Try.f73 32 ⟨tyOf_ok tys_ok,gOf_ok ⟨q33K k,q32K,trivial⟩⟩ (annl [122] ⟨lok q34i1 q34o1 0 96 (q34f1 k) k,trivial⟩)

noncomputable def q35V(k:Nat):Variant:=⟨[.val ty_7 false],[(ty_7,false)],fun x=>impl_collect k x.1⟩
noncomputable def q35C(k:Nat):Cfg:=⟨Try.prog,tyOf tys,50,gOf [(70,[],q24V),(71,[72],q31V k),(72,[],q28V k),(73,[74],q34V k)],false,[],[]⟩
def q35i1:List PE := [e29,⟨12,32,.eat ty_6,false⟩,⟨13,48,.val ty_0 false,false⟩,e33]
def q35o1:List PE := [e29]
noncomputable def q35f1(k:Nat)(n:Nat)(x4:PTe q35i1):=impl_collect_L250 k n x4.1 x4.2.1 x4.2.2.1 x4.2.2.2.1
def q35p:List PE := [e23]
noncomputable def q35F(k:Nat):F3:=⟨q35C k,rr q35p [(ty_7,false)] Try.f56,fun p=>bif Nat.beq p 250 then some (.loop q35i1 q35o1 0 80 (q35f1 k k))else none,0,[]⟩
theorem q35K(k:Nat):Contract Try.prog 56 (q35V k):=ctr (q35C k) (rs := [(ty_7,false)]) (ps:=q35p) (q35F k) Try.f56 16 ⟨tyOf_ok tys_ok,gOf_ok ⟨q24K,q31K k,q28K k,q34K k,trivial⟩⟩ (annl [250] ⟨lok q35i1 q35o1 0 80 (q35f1 k) k,trivial⟩)

noncomputable def q36V:Variant:=⟨[.val ty_6 true],[(ty_0,false)],fun x=>impl_Term_degree x.1⟩
noncomputable def q36C:Cfg:=⟨Try.prog,tyOf tys,11,gOf [],false,[],[]⟩
def q36p:List PE := [e19]
noncomputable def q36F:F1:=⟨q36C,rr q36p [(ty_0,false)] Try.f92,fun p=>none,0,[]⟩
theorem q36K:Contract Try.prog 92 (q36V):=ctr q36C (rs := [(ty_0,false)]) (ps:=q36p) q36F Try.f92 16 ⟨tyOf_ok tys_ok,gOf_ok trivial⟩ (annl [] trivial)

noncomputable def q37V:Variant:=⟨[.val ty_6 true],[(.bool,false)],fun x=>impl_hasDegree x.1⟩
noncomputable def q37C:Cfg:=⟨Try.prog,tyOf tys,21,gOf [(26,[],q21V),(92,[],q36V)],false,[],[]⟩
def q37p:List PE := [e19]
noncomputable def q37F:F2:=⟨q37C,rr q37p [(.bool,false)] Try.f87,fun p=>none,0,[]⟩
theorem q37K:Contract Try.prog 87 (q37V):=ctr q37C (rs := [(.bool,false)]) (ps:=q37p) q37F Try.f87 16 ⟨tyOf_ok tys_ok,gOf_ok ⟨q21K,q36K,trivial⟩⟩ (annl [] trivial)

noncomputable def q38V(k:Nat):Variant:=⟨[.val ty_7 false],[(.bool,false)],fun x=>impl_isPoly k x.1⟩
noncomputable def q38C(k:Nat):Cfg:=⟨Try.prog,tyOf tys,44,gOf [(26,[],q21V),(87,[],q37V),(72,[],q28V k)],false,[],[]⟩
def q38i1:List PE := [e24,⟨5,32,.val ty_7 false,false⟩,e25,e11]
def q38o1:List PE := [e24]
noncomputable def q38f1(k:Nat)(n:Nat)(x4:PTe q38i1):=impl_isPoly_L26 k n x4.1 x4.2.1 x4.2.2.1 x4.2.2.2.1
def q38p:List PE := [e23]
noncomputable def q38F(k:Nat):F2:=⟨q38C k,rr q38p [(.bool,false)] Try.f75,fun p=>bif Nat.beq p 26 then some (.loop q38i1 q38o1 0 80 (q38f1 k k))else none,0,[]⟩
theorem q38K(k:Nat):Contract Try.prog 75 (q38V k):=ctr (q38C k) (rs := [(.bool,false)]) (ps:=q38p) (q38F k) Try.f75 16 ⟨tyOf_ok tys_ok,gOf_ok ⟨q21K,q37K,q28K k,trivial⟩⟩ (annl [26] ⟨lok q38i1 q38o1 0 80 (q38f1 k) k,trivial⟩)

noncomputable def q39V:Variant:=⟨[.val ty_6 true],[(ty_5,true)],fun x=>impl_Term_exponents x.1⟩
noncomputable def q39C:Cfg:=⟨Try.prog,tyOf tys,10,gOf [],false,[],[]⟩
def q39p:List PE := [e19]
noncomputable def q39F:Fn (Int×Int×Int):=⟨q39C,rr q39p [(ty_5,true)] Try.f88,fun p=>none,0,[]⟩
theorem q39K:Contract Try.prog 88 (q39V):=ctr q39C (rs := [(ty_5,true)]) (ps:=q39p) q39F Try.f88 16 ⟨tyOf_ok tys_ok,gOf_ok trivial⟩ (annl [] trivial)

noncomputable def q40V(k:Nat):Variant:=⟨[.val ty_7 false,.val ty_0 false],[(.bool,false)],fun x=>impl_needsAtMost k x.1 x.2.1⟩
noncomputable def q40C(k:Nat):Cfg:=⟨Try.prog,tyOf tys,30,gOf [(88,[],q39V)],false,[],[]⟩
def q40i1:List PE := [e6,e43,e44,e45,⟨16,96,.val ty_5 true,false⟩,⟨17,112,.val ty_0 false,false⟩]
def q40o1:List PE := [e6,e43,e44,e45]
noncomputable def q40f1(k:Nat)(n:Nat)(x2:PTe q40i1):=impl_needsAtMost_L6758 k n x2.1 x2.2.1 x2.2.2.1 x2.2.2.2.1 x2.2.2.2.2.1 x2.2.2.2.2.2.1
def q40i2:List PE := [e6,e43,e44,e45]
def q40o2:List PE := []
noncomputable def q40f2(k:Nat)(n:Nat)(x5:PTe q40i2):=impl_needsAtMost_L26 k n x5.1 x5.2.1 x5.2.2.1 x5.2.2.2.1
def q40p:List PE := [e23,e2]
noncomputable def q40F(k:Nat):F2:=⟨q40C k,rr q40p [(.bool,false)] Try.f76,fun p=>bif Nat.beq p 6758 then some (.loop q40i1 q40o1 2 128 (q40f1 k k))else bif Nat.beq p 26 then some (.loop q40i2 q40o2 0 96 (q40f2 k k))else none,0,[]⟩
theorem q40K(k:Nat):Contract Try.prog 76 (q40V k):=ctr (q40C k) (rs := [(.bool,false)]) (ps:=q40p) (q40F k) Try.f76 32 ⟨tyOf_ok tys_ok,gOf_ok ⟨q39K,trivial⟩⟩ (annl [26,6758] ⟨lok q40i2 q40o2 0 96 (q40f2 k) k,lok q40i1 q40o1 2 128 (q40f1 k) k,trivial⟩)

noncomputable def q41V(k:Nat):Variant:=⟨[.val ty_8 false],[(.bool,false)],fun x=>impl_isSystem k x.1⟩
noncomputable def q41C(k:Nat):Cfg:=⟨Try.prog,tyOf tys,25,gOf [(75,[],q38V k),(76,[],q40V k),(26,[],q21V)],false,[],[]⟩
def q41i1:List PE := [e27,⟨5,32,.val ty_8 false,false⟩,e25,e11]
def q41o1:List PE := [e27]
noncomputable def q41f1(k:Nat)(n:Nat)(x3:PTe q41i1):=impl_isSystem_L26 k n x3.1 x3.2.1 x3.2.2.1 x3.2.2.2.1
def q41p:List PE := [e28]
noncomputable def q41F(k:Nat):F2:=⟨q41C k,rr q41p [(.bool,false)] Try.f57,fun p=>bif Nat.beq p 26 then some (.loop q41i1 q41o1 0 80 (q41f1 k k))else none,0,[]⟩
theorem q41K(k:Nat):Contract Try.prog 57 (q41V k):=ctr (q41C k) (rs := [(.bool,false)]) (ps:=q41p) (q41F k) Try.f57 16 ⟨tyOf_ok tys_ok,gOf_ok ⟨q38K k,q40K k,q21K,trivial⟩⟩ (annl [26] ⟨lok q41i1 q41o1 0 80 (q41f1 k) k,trivial⟩)

noncomputable def q42V(k:Nat):Variant:=⟨[.val ty_2 false],[(ty_8,false),(.bool,false)],fun x=>impl_complexSystem k x.1⟩
noncomputable def q42C(k:Nat):Cfg:=⟨Try.prog,tyOf tys,74,gOf [(55,[],q23V k),(56,[],q35V k),(57,[],q41V k)],false,[],[]⟩
def q42i1:List PE := [e29,e30,e25,e31,e32,⟨9,96,.val ty_0 false,false⟩,e34,⟨12,128,.val ty_2 false,false⟩,⟨13,144,.val ty_0 false,false⟩,e35,⟨20,176,.val ty_0 false,false⟩,⟨21,192,.val ty_0 false,false⟩,⟨38,208,.val ty_0 false,false⟩,⟨39,224,.val ty_0 false,false⟩]
def q42o1:List PE := [e29,e30,e25,e31,e32,⟨9,96,.val ty_0 false,false⟩,e34,⟨12,128,.val ty_2 false,false⟩,⟨13,144,.val ty_0 false,false⟩,e35,⟨20,176,.val ty_0 false,false⟩,⟨21,192,.val ty_0 false,false⟩]
noncomputable def q42f1(k:Nat)(n:Nat)(x3:PTe q42i1):=impl_complexSystem_L15309210 k n x3.1 x3.2.1 x3.2.2.1 x3.2.2.2.1 x3.2.2.2.2.1 x3.2.2.2.2.2.1 x3.2.2.2.2.2.2.1 x3.2.2.2.2.2.2.2.1 x3.2.2.2.2.2.2.2.2.1 x3.2.2.2.2.2.2.2.2.2.1 x3.2.2.2.2.2.2.2.2.2.2.1 x3.2.2.2.2.2.2.2.2.2.2.2.1 x3.2.2.2.2.2.2.2.2.2.2.2.2.1 x3.2.2.2.2.2.2.2.2.2.2.2.2.2.1
def q42i2:List PE := [e29,e30,e25,e31,⟨12,80,.val ty_2 false,false⟩,⟨13,96,.val ty_0 false,false⟩,⟨14,112,.val ty_0 false,false⟩,⟨20,128,.val ty_0 false,false⟩,⟨21,144,.val ty_0 false,false⟩]
def q42o2:List PE := [e29,e30,⟨12,48,.val ty_2 false,false⟩,⟨13,64,.val ty_0 false,false⟩,⟨14,80,.val ty_0 false,false⟩]
noncomputable def q42f2(k:Nat)(n:Nat)(x6:PTe q42i2):=impl_complexSystem_L14950 k n x6.1 x6.2.1 x6.2.2.1 x6.2.2.2.1 x6.2.2.2.2.1 x6.2.2.2.2.2.1 x6.2.2.2.2.2.2.1 x6.2.2.2.2.2.2.2.1 x6.2.2.2.2.2.2.2.2.1
def q42i3:List PE := [e29,e30,⟨12,48,.val ty_2 false,false⟩,⟨13,64,.val ty_0 false,false⟩,⟨14,80,.val ty_0 false,false⟩]
def q42o3:List PE := [e29,e30]
noncomputable def q42f3(k:Nat)(n:Nat)(x9:PTe q42i3):=impl_complexSystem_L58 k n x9.1 x9.2.1 x9.2.2.1 x9.2.2.2.1 x9.2.2.2.2.1
def q42p:List PE := [e7]
noncomputable def q42F(k:Nat):F4:=⟨q42C k,rr q42p [(ty_8,false),(.bool,false)] Try.f32,fun p=>bif Nat.beq p 15309210 then some (.loop q42i1 q42o1 4 240 (q42f1 k k))else bif Nat.beq p 14950 then some (.loop q42i2 q42o2 2 160 (q42f2 k k))else bif Nat.beq p 58 then some (.loop q42i3 q42o3 0 96 (q42f3 k k))else none,0,[]⟩
theorem q42K(k:Nat):Contract Try.prog 32 (q42V k):=ctr (q42C k) (rs := [(ty_8,false),(.bool,false)]) (ps:=q42p) (q42F k) Try.f32 16 ⟨tyOf_ok tys_ok,gOf_ok ⟨q23K k,q35K k,q41K k,trivial⟩⟩ (annl [58,14950,15309210] ⟨lok q42i3 q42o3 0 96 (q42f3 k) k,lok q42i2 q42o2 2 160 (q42f2 k) k,lok q42i1 q42o1 4 240 (q42f1 k) k,trivial⟩)

noncomputable def q43V(k:Nat):Variant:=⟨[.val ty_2 false],[(ty_8,false),(.bool,false)],fun x=>impl_ComplexSystem k x.1⟩
noncomputable def q43C(k:Nat):Cfg:=⟨Try.prog,tyOf tys,11,gOf [(38,[],q22V k),(32,[],q42V k)],false,[],[]⟩
def q43p:List PE := [e7]
noncomputable def q43F(k:Nat):F4:=⟨q43C k,rr q43p [(ty_8,false),(.bool,false)] Try.f18,fun p=>none,0,[]⟩
theorem q43K(k:Nat):Contract Try.prog 18 (q43V k):=ctr (q43C k) (rs := [(ty_8,false),(.bool,false)]) (ps:=q43p) (q43F k) Try.f18 16 ⟨tyOf_ok tys_ok,gOf_ok ⟨q22K k,q42K k,trivial⟩⟩ (annl [] trivial)

noncomputable def q44V:Variant:=⟨[.val ty_6 true,.val ty_6 true],[(.bool,false)],fun x=>laws_eqTerm x.1 x.2.1⟩
noncomputable def q44C:Cfg:=⟨Try.prog,tyOf tys,25,gOf [],false,[],[]⟩
def q44p:List PE := [e19,e20]
noncomputable def q44F:F2:=⟨q44C,rr q44p [(.bool,false)] Try.f58,fun p=>none,0,[]⟩
theorem q44K:Contract Try.prog 58 (q44V):=ctr q44C (rs := [(.bool,false)]) (ps:=q44p) q44F Try.f58 32 ⟨tyOf_ok tys_ok,gOf_ok trivial⟩ (annl [] trivial)

noncomputable def q45V(k:Nat):Variant:=⟨[.val ty_7 false,.val ty_7 false],[(.bool,false)],fun x=>laws_eqTermS k x.1 x.2.1⟩
noncomputable def q45C(k:Nat):Cfg:=⟨Try.prog,tyOf tys,27,gOf [(58,[],q44V)],false,[],[]⟩
def q45i1:List PE := [e21,⟨1,48,.val ty_7 false,false⟩,e5]
def q45o1:List PE := []
noncomputable def q45f1(k:Nat)(n:Nat)(x2:PTe q45i1):=laws_eqTermS_L58 k n x2.1 x2.2.1 x2.2.2.1
def q45p:List PE := [e23,⟨1,16,.val ty_7 false,false⟩]
noncomputable def q45F(k:Nat):F2:=⟨q45C k,rr q45p [(.bool,false)] Try.f33,fun p=>bif Nat.beq p 58 then some (.loop q45i1 q45o1 0 80 (q45f1 k k))else none,0,[]⟩
theorem q45K(k:Nat):Contract Try.prog 33 (q45V k):=ctr (q45C k) (rs := [(.bool,false)]) (ps:=q45p) (q45F k) Try.f33 32 ⟨tyOf_ok tys_ok,gOf_ok ⟨q44K,trivial⟩⟩ (annl [58] ⟨lok q45i1 q45o1 0 80 (q45f1 k) k,trivial⟩)

noncomputable def q46V(k:Nat):Variant:=⟨[.val ty_8 false,.val ty_8 false],[(.bool,false)],fun x=>laws_eqTermSS k x.1 x.2.1⟩
noncomputable def q46C(k:Nat):Cfg:=⟨Try.prog,tyOf tys,27,gOf [(33,[],q45V k)],false,[],[]⟩
def q46i1:List PE := [⟨0,32,.val ty_8 false,false⟩,⟨1,48,.val ty_8 false,false⟩,e5]
def q46o1:List PE := []
noncomputable def q46f1(k:Nat)(n:Nat)(x2:PTe q46i1):=laws_eqTermSS_L58 k n x2.1 x2.2.1 x2.2.2.1
def q46p:List PE := [e28,⟨1,16,.val ty_8 false,false⟩]
noncomputable def q46F(k:Nat):F2:=⟨q46C k,rr q46p [(.bool,false)] Try.f12,fun p=>bif Nat.beq p 58 then some (.loop q46i1 q46o1 0 80 (q46f1 k k))else none,0,[]⟩
theorem q46K(k:Nat):Contract Try.prog 12 (q46V k):=ctr (q46C k) (rs := [(.bool,false)]) (ps:=q46p) (q46F k) Try.f12 32 ⟨tyOf_ok tys_ok,gOf_ok ⟨q45K k,trivial⟩⟩ (annl [58] ⟨lok q46i1 q46o1 0 80 (q46f1 k) k,trivial⟩)

noncomputable def q47V(k:Nat):Variant:=⟨[.val ty_1 false,.val ty_1 false],[(.bool,false)],fun x=>laws_eqIntS k x.1 x.2.1⟩
noncomputable def q47C(k:Nat):Cfg:=⟨Try.prog,tyOf tys,26,gOf [],false,[],[]⟩
def q47i1:List PE := [e9,⟨1,48,.val ty_1 false,false⟩,e5]
def q47o1:List PE := []
noncomputable def q47f1(k:Nat)(n:Nat)(x1:PTe q47i1):=laws_eqIntS_L58 k n x1.1 x1.2.1 x1.2.2.1
def q47p:List PE := [e1,⟨1,16,.val ty_1 false,false⟩]
noncomputable def q47F(k:Nat):F2:=⟨q47C k,rr q47p [(.bool,false)] Try.f29,fun p=>bif Nat.beq p 58 then some (.loop q47i1 q47o1 0 80 (q47f1 k k))else none,0,[]⟩
theorem q47K(k:Nat):Contract Try.prog 29 (q47V k):=ctr (q47C k) (rs := [(.bool,false)]) (ps:=q47p) (q47F k) Try.f29 32 ⟨tyOf_ok tys_ok,gOf_ok trivial⟩ (annl [58] ⟨lok q47i1 q47o1 0 80 (q47f1 k) k,trivial⟩)

noncomputable def q48V(k:Nat):Variant:=⟨[.val ty_3 false,.val ty_3 false],[(.bool,false)],fun x=>laws_intactIntS k x.1 x.2.1⟩
noncomputable def q48C(k:Nat):Cfg:=⟨Try.prog,tyOf tys,26,gOf [(25,[],q3V),(29,[],q47V k)],false,[],[]⟩
def q48p:List PE := [⟨0,0,.val ty_3 false,false⟩,⟨1,16,.val ty_3 false,false⟩]
noncomputable def q48F(k:Nat):F2:=⟨q48C k,rr q48p [(.bool,false)] Try.f9,fun p=>none,0,[]⟩
theorem q48K(k:Nat):Contract Try.prog 9 (q48V k):=ctr (q48C k) (rs := [(.bool,false)]) (ps:=q48p) (q48F k) Try.f9 32 ⟨tyOf_ok tys_ok,gOf_ok ⟨q3K,q47K k,trivial⟩⟩ (annl [] trivial)

noncomputable def q49V(k:Nat):Variant:=⟨[.val ty_2 false,.val ty_2 false],[(.bool,false)],fun x=>laws_eqIntSS k x.1 x.2.1⟩
noncomputable def q49C(k:Nat):Cfg:=⟨Try.prog,tyOf tys,27,gOf [(29,[],q47V k)],false,[],[]⟩
def q49i1:List PE := [e3,⟨1,48,.val ty_2 false,false⟩,e5]
def q49o1:List PE := []
noncomputable def q49f1(k:Nat)(n:Nat)(x2:PTe q49i1):=laws_eqIntSS_L58 k n x2.1 x2.2.1 x2.2.2.1
def q49p:List PE := [e7,⟨1,16,.val ty_2 false,false⟩]
noncomputable def q49F(k:Nat):F2:=⟨q49C k,rr q49p [(.bool,false)] Try.f39,fun p=>bif Nat.beq p 58 then some (.loop q49i1 q49o1 0 80 (q49f1 k k))else none,0,[]⟩
theorem q49K(k:Nat):Contract Try.prog 39 (q49V k):=ctr (q49C k) (rs := [(.bool,false)]) (ps:=q49p) (q49F k) Try.f39 32 ⟨tyOf_ok tys_ok,gOf_ok ⟨q47K k,trivial⟩⟩ (annl [58] ⟨lok q49i1 q49o1 0 80 (q49f1 k) k,trivial⟩)

noncomputable def q50V(k:Nat):Variant:=⟨[.val ty_9 false,.val ty_9 false],[(.bool,false)],fun x=>laws_intactIntSS k x.1 x.2.1⟩
noncomputable def q50C(k:Nat):Cfg:=⟨Try.prog,tyOf tys,45,gOf [(25,[],q3V),(9,[],q48V k),(39,[],q49V k)],false,[],[]⟩
def q50i1:List PE := [⟨0,32,.val ty_9 false,false⟩,⟨1,48,.val ty_9 false,false⟩,e5,e12]
def q50o1:List PE := [⟨0,32,.val ty_9 false,false⟩,⟨1,48,.val ty_9 false,false⟩,e5]
noncomputable def q50f1(k:Nat)(n:Nat)(x3:PTe q50i1):=laws_intactIntSS_L122 k n x3.1 x3.2.1 x3.2.2.1 x3.2.2.2.1
def q50p:List PE := [⟨0,0,.val ty_9 false,false⟩,⟨1,16,.val ty_9 false,false⟩]
noncomputable def q50F(k:Nat):F2:=⟨q50C k,rr q50p [(.bool,false)] Try.f19,fun p=>bif Nat.beq p 122 then some (.loop q50i1 q50o1 0 96 (q50f1 k k))else none,0,[]⟩
theorem q50K(k:Nat):Contract Try.prog 19 (q50V k):=ctr (q50C k) (rs := [(.bool,false)]) (ps:=q50p) (q50F k) Try.f19 32 ⟨tyOf_ok tys_ok,gOf_ok ⟨q3K,q48K k,q49K k,trivial⟩⟩ (annl [122] ⟨lok q50i1 q50o1 0 96 (q50f1 k) k,trivial⟩)

noncomputable def q51V(k:Nat):Variant:=⟨[.own ty_0,.val ty_0 false],[(ty_0,false)],fun x=>laws_markIntS k x.1 x.2.1⟩
noncomputable def q51C(k:Nat):Cfg:=⟨Try.prog,tyOf tys,19,gOf [],false,[],[]⟩
def q51i1:List PE := [e46,e6,e26]
def q51o1:List PE := [e6,e46]
noncomputable def q51f1(k:Nat)(n:Nat)(x1:PTe q51i1):=laws_markIntS_L26 k n x1.1 x1.2.1 x1.2.2.1
def q51p:List PE := [e46,e2]
noncomputable def q51F(k:Nat):Fn (Int×List Int):=⟨q51C k,rr q51p [(ty_0,false)] Try.f40,fun p=>bif Nat.beq p 26 then some (.loop q51i1 q51o1 0 64 (q51f1 k k))else none,0,[0]⟩
theorem q51K(k:Nat):Contract Try.prog 40 (q51V k):=ctr (q51C k) (rs := [(ty_0,false)]) (ps:=q51p) (q51F k) Try.f40 32 ⟨tyOf_ok tys_ok,gOf_ok trivial⟩ (annl [26] ⟨lok q51i1 q51o1 0 64 (q51f1 k) k,trivial⟩)

noncomputable def q52V(k:Nat):Variant:=⟨[.own ty_1,.val ty_0 false],[(ty_0,false)],fun x=>laws_markIntSS k x.1 x.2.1⟩
noncomputable def q52C(k:Nat):Cfg:=⟨Try.prog,tyOf tys,19,gOf [(40,[],q51V k)],false,[],[]⟩
def q52i1:List PE := [e47,e6,e26]
def q52o1:List PE := [e6,e47]
noncomputable def q52f1(k:Nat)(n:Nat)(x2:PTe q52i1):=laws_markIntSS_L26 k n x2.1 x2.2.1 x2.2.2.1
def q52p:List PE := [e47,e2]
noncomputable def q52F(k:Nat):Fn (Int×List (List Int)):=⟨q52C k,rr q52p [(ty_0,false)] Try.f20,fun p=>bif Nat.beq p 26 then some (.loop q52i1 q52o1 0 64 (q52f1 k k))else none,0,[0]⟩
theorem q52K(k:Nat):Contract Try.prog 20 (q52V k):=ctr (q52C k) (rs := [(ty_0,false)]) (ps:=q52p) (q52F k) Try.f20 32 ⟨tyOf_ok tys_ok,gOf_ok ⟨q51K k,trivial⟩⟩ (annl [26] ⟨lok q52i1 q52o1 0 64 (q52f1 k) k,trivial⟩)

noncomputable def q53V(k:Nat):Variant:=⟨[.own ty_6,.val ty_0 false],[(ty_0,false)],fun x=>laws_markTermS k x.1 x.2.1⟩
noncomputable def q53C(k:Nat):Cfg:=⟨Try.prog,tyOf tys,41,gOf [],false,[],[]⟩
def q53i1:List PE := [e36,e6,e26]
def q53o1:List PE := [e6,e36]
noncomputable def q53f1(k:Nat)(n:Nat)(x1:PTe q53i1):=laws_markTermS_L26 k n x1.1 x1.2.1 x1.2.2.1
def q53p:List PE := [e36,e2]
noncomputable def q53F(k:Nat):Fn (Int×List (Int×Int×Int×Int)):=⟨q53C k,rr q53p [(ty_0,false)] Try.f34,fun p=>bif Nat.beq p 26 then some (.loop q53i1 q53o1 0 64 (q53f1 k k))else none,0,[0]⟩
theorem q53K(k:Nat):Contract Try.prog 34 (q53V k):=ctr (q53C k) (rs := [(ty_0,false)]) (ps:=q53p) (q53F k) Try.f34 32 ⟨tyOf_ok tys_ok,gOf_ok trivial⟩ (annl [26] ⟨lok q53i1 q53o1 0 64 (q53f1 k) k,trivial⟩)

noncomputable def q54V(k:Nat):Variant:=⟨[.own ty_7,.val ty_0 false],[(ty_0,false)],fun x=>laws_markTermSS k x.1 x.2.1⟩
noncomputable def q54C(k:Nat):Cfg:=⟨Try.prog,tyOf tys,19,gOf [(34,[],q53V k)],false,[],[]⟩
def q54i1:List PE := [e48,e6,e26]
def q54o1:List PE := [e6,e48]
noncomputable def q54f1(k:Nat)(n:Nat)(x2:PTe q54i1):=laws_markTermSS_L26 k n x2.1 x2.2.1 x2.2.2.1
def q54p:List PE := [e48,e2]
noncomputable def q54F(k:Nat):Fn (Int×List (List (Int×Int×Int×Int))):=⟨q54C k,rr q54p [(ty_0,false)] Try.f13,fun p=>bif Nat.beq p 26 then some (.loop q54i1 q54o1 0 64 (q54f1 k k))else none,0,[0]⟩
theorem q54K(k:Nat):Contract Try.prog 13 (q54V k):=ctr (q54C k) (rs := [(ty_0,false)]) (ps:=q54p) (q54F k) Try.f13 32 ⟨tyOf_ok tys_ok,gOf_ok ⟨q53K k,trivial⟩⟩ (annl [26] ⟨lok q54i1 q54o1 0 64 (q54f1 k) k,trivial⟩)

noncomputable def q55V(k:Nat):Variant:=⟨[.val ty_7 false,.val ty_0 false],[(ty_0,false)],fun x=>laws_heldTermS k x.1 x.2.1⟩
noncomputable def q55C(k:Nat):Cfg:=⟨Try.prog,tyOf tys,49,gOf [],false,[],[]⟩
def q55i1:List PE := [e21,e4,e5]
def q55o1:List PE := [e6]
noncomputable def q55f1(k:Nat)(n:Nat)(x1:PTe q55i1):=laws_heldTermS_L26 k n x1.1 x1.2.1 x1.2.2.1
def q55p:List PE := [e23,e2]
noncomputable def q55F(k:Nat):F1:=⟨q55C k,rr q55p [(ty_0,false)] Try.f35,fun p=>bif Nat.beq p 26 then some (.loop q55i1 q55o1 0 80 (q55f1 k k))else none,0,[]⟩
theorem q55K(k:Nat):Contract Try.prog 35 (q55V k):=ctr (q55C k) (rs := [(ty_0,false)]) (ps:=q55p) (q55F k) Try.f35 32 ⟨tyOf_ok tys_ok,gOf_ok trivial⟩ (annl [26] ⟨lok q55i1 q55o1 0 80 (q55f1 k) k,trivial⟩)

noncomputable def q56V(k:Nat):Variant:=⟨[.val ty_8 false,.val ty_0 false],[(ty_0,false)],fun x=>laws_heldTermSS k x.1 x.2.1⟩
noncomputable def q56C(k:Nat):Cfg:=⟨Try.prog,tyOf tys,21,gOf [(35,[],q55V k)],false,[],[]⟩
def q56i1:List PE := [⟨0,32,.val ty_8 false,false⟩,e4,e5]
def q56o1:List PE := [e6]
noncomputable def q56f1(k:Nat)(n:Nat)(x2:PTe q56i1):=laws_heldTermSS_L26 k n x2.1 x2.2.1 x2.2.2.1
def q56p:List PE := [e28,e2]
noncomputable def q56F(k:Nat):F1:=⟨q56C k,rr q56p [(ty_0,false)] Try.f14,fun p=>bif Nat.beq p 26 then some (.loop q56i1 q56o1 0 80 (q56f1 k k))else none,0,[]⟩
theorem q56K(k:Nat):Contract Try.prog 14 (q56V k):=ctr (q56C k) (rs := [(ty_0,false)]) (ps:=q56p) (q56F k) Try.f14 32 ⟨tyOf_ok tys_ok,gOf_ok ⟨q55K k,trivial⟩⟩ (annl [26] ⟨lok q56i1 q56o1 0 80 (q56f1 k) k,trivial⟩)

noncomputable def laws_FnExactComplexSystem_V(k:Nat):Variant:=⟨[.val ty_2 false],[(.bool,false)],fun x=>laws_FnExactComplexSystem k x.1⟩
noncomputable def laws_FnExactComplexSystem_C(k:Nat):Cfg:=⟨Try.prog,tyOf tys,96,gOf [(15,[],q2V k),(17,[],q5V k),(16,[],q20V k),(18,[],q43V k),(12,[],q46V k),(19,[],q50V k),(20,[],q52V k),(13,[],q54V k),(14,[],q56V k)],false,[],[]⟩
def laws_FnExactComplexSystem_ps:List PE := [e7]
noncomputable def laws_FnExactComplexSystem_F(k:Nat):F2:=⟨laws_FnExactComplexSystem_C k,rr laws_FnExactComplexSystem_ps [(.bool,false)] Try.f5,fun p=>none,0,[]⟩
theorem laws_FnExactComplexSystem_K(k:Nat):Contract Try.prog 5 (laws_FnExactComplexSystem_V k):=ctr (laws_FnExactComplexSystem_C k) (rs := [(.bool,false)]) (ps:=laws_FnExactComplexSystem_ps) (laws_FnExactComplexSystem_F k) Try.f5 16 ⟨tyOf_ok tys_ok,gOf_ok ⟨q2K k,q5K k,q20K k,q43K k,q46K k,q50K k,q52K k,q54K k,q56K k,trivial⟩⟩ (annl [] trivial)
end Go.Ev.G
