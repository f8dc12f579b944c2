/- The contracts of the functions behind FnExactComplexPower: a call of each returns what its plain function computes; for all inputs within the sizes named. -/
import Derived.Test.YtiglamoomghakaaPComplexPower1
import Derived.Test.YtiglamoomghakaaProg
set_option linter.unusedVariables false
namespace Go.Ev.G
open Go Go.Ev Go.Proofs
set_option maxRecDepth 100000
abbrev ty_0:Ty:=(.int .i64)

abbrev ty_1:Ty:=(.sl ty_0)

abbrev ty_2:Ty:=(.pair ty_0 ty_0)

abbrev ty_3:Ty:=(.pair ty_0 ty_2)

abbrev ty_4:Ty:=(.pair ty_0 ty_3)

abbrev ty_5:Ty:=(.sl ty_4)

abbrev ty_6:Ty:=(.sl ty_1)

abbrev ty_7:Ty:=(.sl ty_5)

def tys:List (TypeId×Ty) := [(3,ty_0),(22,ty_1),(45,ty_5),(57,ty_4)]

theorem tys_ok:AllT Try.prog tys:=⟨⟨_,_,rfl,rfl,rfl,rfl⟩,⟨_,_,rfl,rfl,rfl,rfl⟩,⟨_,_,rfl,rfl,rfl,rfl⟩,⟨_,_,rfl,rfl,rfl,rfl⟩,trivial⟩

def tysR:List (TypeId×Ty) := []

theorem tysR_ok:AllT Try.prog tysR:=trivial

theorem mix_ok:Try.prog.follows .mixedOrders=true:=by kernel_rfl

theorem ctr{g:FuncId}(C:Cfg){rs:List (Ty×Bool)}{ps:List PE}(F:Fn (CT (rs.map (·.1)++outs (ps.map (·.b)))))(fn:Func)(nx:Nat){f:PT (ps.map (·.b))→Option (CT (rs.map (·.1)++outs (ps.map (·.b))))}
  (hC:CfgOk C) (hann:AnnOk F (codeOf fn) 1) (hP:C.P=Try.prog:=by rfl) (hF:F.C=C:=by rfl) (hfn:C.P.funcs[g]? = some fn:=by kernel_rfl) (hb:fn.body=some (codeOf fn):=by kernel_rfl) (hn:(fn.name == "runtime.NumGoroutine")=false:=by kernel_rfl)
  (hnt:C.ntmps=fn.ntmps:=by kernel_rfl) (hle:Nat.ble ps.length fn.ntmps=true:=by kernel_rfl) (hpar:parOk 0 ps=true:=by kernel_rfl) (hfin:F.fin=rdRes C.P ps rs fn.results.toList .ret:=by rfl)
  (hpins:F.pins=pinIds ps:=by kernel_rfl) (hnd:nodupB F.pins=true:=by kernel_rfl) (hf:∀x,evFn F (codeOf fn) ps nx x=f x:=by intro x;kernel_rfl):Contract C.P g ⟨ps.map (·.b),rs,f⟩ :=
 contract hC hF hfn hb hn hnt hle hpar hfin hpins hnd hann (hP ▸ mix_ok) hf

theorem annl{R:Type}{F:Fn R}{c:Code}(l:List Nat)(hl:AllL F (l.map fun p=>(p,loopB c p)))(h:loopsOf c 1=l.map (fun p=>(p,loopB c p)):=by kernel_rfl):AnnOk F c 1:=AnnOk_list _ h hl

theorem lok{R:Type}{F:Fn R}{c:Code}{p:Nat}(pin pout:List PE)(ex nx:Nat)(Lf:Nat→PTe pin→Option (R ⊕ PTe pout))(k:Nat)(h:F.an p=some (.loop pin pout ex nx (Lf k)):=by kernel_rfl)(h0:∀x,Lf 0 x=none:=by intro x;rfl)
  (hs:∀n x,roundOf F c p pin pout ex nx (Lf n) x=Lf (n+1) x:=by intro n x;kernel_rfl):LoopOk F c p:=LoopOk.mk (pin:=pin) (pout:=pout) h h0 hs

noncomputable def rr(ps:List PE)(rs:List (Ty×Bool))(f:Func):=rdRes Try.prog ps rs f.results.toList .ret

abbrev e1:PE:=⟨0,0,.val ty_0 false,false⟩
abbrev e2:PE:=⟨1,16,.val ty_0 false,false⟩
abbrev e3:PE:=⟨2,32,.val ty_0 false,false⟩
abbrev F1:Type 1:=Fn (Bool)
abbrev e4:PE:=⟨1,48,.val ty_0 false,false⟩
abbrev e5:PE:=⟨5,64,.val ty_0 false,false⟩
abbrev e6:PE:=⟨6,80,.val ty_0 false,false⟩
abbrev e7:PE:=⟨5,32,.val ty_0 false,false⟩
abbrev F2:Type 1:=Fn (Int)
abbrev e8:PE:=⟨0,0,.val ty_4 true,false⟩
abbrev e9:PE:=⟨1,16,.val ty_4 true,false⟩
abbrev e10:PE:=⟨0,32,.val ty_5 false,false⟩
abbrev e11:PE:=⟨3,48,.box ty_4 false,false⟩
abbrev e12:PE:=⟨0,0,.val ty_5 false,false⟩
abbrev F3:Type 1:=Fn (List (Int×Int×Int×Int))
abbrev e13:PE:=⟨0,16,.val ty_5 false,false⟩
abbrev e14:PE:=⟨6,48,.val ty_0 false,false⟩
abbrev e15:PE:=⟨7,64,.val ty_0 false,false⟩
abbrev e16:PE:=⟨1,32,.val ty_0 false,false⟩
abbrev e17:PE:=⟨5,48,.val ty_0 false,false⟩
abbrev e18:PE:=⟨0,16,.val ty_7 false,false⟩
abbrev e19:PE:=⟨7,48,.val ty_0 false,false⟩
abbrev e20:PE:=⟨8,64,.val ty_0 false,false⟩
abbrev e21:PE:=⟨0,0,.val ty_7 false,false⟩
abbrev e22:PE:=⟨4,16,.eat ty_4,false⟩
abbrev e23:PE:=⟨5,32,.eat ty_4,false⟩
abbrev e24:PE:=⟨7,64,.val ty_1 false,false⟩
abbrev e25:PE:=⟨8,80,.val ty_0 false,false⟩
abbrev e26:PE:=⟨14,64,.val ty_0 false,false⟩
abbrev e27:PE:=⟨10,112,.val ty_0 false,false⟩
abbrev e28:PE:=⟨14,160,.val ty_0 false,false⟩
abbrev F4:Type 1:=Fn ((List (List (Int×Int×Int×Int)))×Bool)
abbrev e29:PE:=⟨0,16,.val ty_0 false,false⟩
abbrev e30:PE:=⟨4,32,.eat ty_1,false⟩
abbrev e31:PE:=⟨0,0,.own ty_4,true⟩
abbrev e32:PE:=⟨1,64,.val ty_0 false,false⟩
abbrev e33:PE:=⟨2,80,.val ty_0 false,false⟩
abbrev e34:PE:=⟨3,96,.fn 72 [],false⟩
abbrev e35:PE:=⟨8,112,.val ty_0 false,false⟩
abbrev e36:PE:=⟨2,64,.fn 72 [],false⟩
abbrev e37:PE:=⟨7,96,.val ty_0 false,false⟩
abbrev e38:PE:=⟨9,48,.val ty_5 false,false⟩
abbrev e39:PE:=⟨10,64,.val ty_0 false,false⟩
abbrev e40:PE:=⟨11,80,.val ty_0 false,false⟩
abbrev e41:PE:=⟨0,0,.own ty_5,true⟩

noncomputable def q1V:Variant:=⟨[.val ty_0 false,.val ty_0 false,.val ty_0 false],[(.bool,false)],fun x=>spec_l1In x.1 x.2.1 x.2.2.1⟩
noncomputable def q1C:Cfg:=⟨Try.prog,tyOf tys,15,gOf [],false,[],[]⟩
def q1p:List PE := [e1,e2,e3]
noncomputable def q1F:F1:=⟨q1C,rr q1p [(.bool,false)] Try.f30,fun p=>none,0,[]⟩
theorem q1K:Contract Try.prog 30 (q1V):=ctr q1C (rs := [(.bool,false)]) (ps:=q1p) q1F Try.f30 48 ⟨tyOf_ok tys_ok,gOf_ok trivial⟩ (annl [] trivial)

noncomputable def q2V(k:Nat):Variant:=⟨[.val ty_0 false,.val ty_0 false],[(ty_0,false)],fun x=>spec_beChoose k x.1 x.2.1⟩
noncomputable def q2C(k:Nat):Cfg:=⟨Try.prog,tyOf tys,21,gOf [],false,[],[]⟩
def q2i1:List PE := [⟨0,32,.val ty_0 false,false⟩,e4,e5,e6]
def q2o1:List PE := [e7]
noncomputable def q2f1(k:Nat)(n:Nat)(x1:PTe q2i1):=spec_beChoose_L58 k n x1.1 x1.2.1 x1.2.2.1 x1.2.2.2.1
def q2p:List PE := [e1,e2]
noncomputable def q2F(k:Nat):F2:=⟨q2C k,rr q2p [(ty_0,false)] Try.f52,fun p=>bif Nat.beq p 58 then some (.loop q2i1 q2o1 0 96 (q2f1 k k))else none,0,[]⟩
theorem q2K(k:Nat):Contract Try.prog 52 (q2V k):=ctr (q2C k) (rs := [(ty_0,false)]) (ps:=q2p) (q2F k) Try.f52 32 ⟨tyOf_ok tys_ok,gOf_ok trivial⟩ (annl [58] ⟨lok q2i1 q2o1 0 96 (q2f1 k) k,trivial⟩)

noncomputable def q3V:Variant:=⟨[.val ty_0 false],[(ty_0,false)],fun x=>spec_l1Sign x.1⟩
noncomputable def q3C:Cfg:=⟨Try.prog,tyOf tys,9,gOf [],false,[],[]⟩
def q3p:List PE := [e1]
noncomputable def q3F:F2:=⟨q3C,rr q3p [(ty_0,false)] Try.f79,fun p=>none,0,[]⟩
theorem q3K:Contract Try.prog 79 (q3V):=ctr q3C (rs := [(ty_0,false)]) (ps:=q3p) q3F Try.f79 16 ⟨tyOf_ok tys_ok,gOf_ok trivial⟩ (annl [] trivial)

noncomputable def q4V:Variant:=⟨[.val ty_4 true,.val ty_4 true],[(ty_0,false)],fun x=>spec_poOrder x.1 x.2.1⟩
noncomputable def q4C:Cfg:=⟨Try.prog,tyOf tys,35,gOf [(79,[],q3V)],false,[],[]⟩
def q4p:List PE := [e8,e9]
noncomputable def q4F:F2:=⟨q4C,rr q4p [(ty_0,false)] Try.f67,fun p=>none,0,[]⟩
theorem q4K:Contract Try.prog 67 (q4V):=ctr q4C (rs := [(ty_0,false)]) (ps:=q4p) q4F Try.f67 32 ⟨tyOf_ok tys_ok,gOf_ok ⟨q3K,trivial⟩⟩ (annl [] trivial)

noncomputable def q5V(k:Nat):Variant:=⟨[.val ty_5 false,.val ty_4 true],[(ty_5,false)],fun x=>spec_poPut k x.1 x.2.1⟩
noncomputable def q5C(k:Nat):Cfg:=⟨Try.prog,tyOf tys,67,gOf [(67,[],q4V)],false,[],[]⟩
def q5i1:List PE := [e10,e11,e5]
def q5o1:List PE := [e10,e11,e5]
noncomputable def q5f1(k:Nat)(n:Nat)(x2:PTe q5i1):=spec_poPut_L28 k n x2.1 x2.2.1 x2.2.2.1
def q5p:List PE := [e12,e9]
noncomputable def q5F(k:Nat):F3:=⟨q5C k,rr q5p [(ty_5,false)] Try.f53,fun p=>bif Nat.beq p 28 then some (.loop q5i1 q5o1 0 80 (q5f1 k k))else bif Nat.beq p 254 then some (.cut [⟨6,32,.val ty_5 false,false⟩,⟨7,48,.eat ty_4,false⟩] 64)else bif Nat.beq p 62 then some (.cut [e10,e11,e5,⟨6,80,.val ty_5 false,false⟩] 96)else none,0,[]⟩
theorem q5K(k:Nat):Contract Try.prog 53 (q5V k):=ctr (q5C k) (rs := [(ty_5,false)]) (ps:=q5p) (q5F k) Try.f53 32 ⟨tyOf_ok tys_ok,gOf_ok ⟨q4K,trivial⟩⟩ (annl [28] ⟨lok q5i1 q5o1 0 80 (q5f1 k) k,trivial⟩)

noncomputable def q6V:Variant:=⟨[.val ty_4 true],[(.bool,false)],fun x=>spec_poTerm x.1⟩
noncomputable def q6C:Cfg:=⟨Try.prog,tyOf tys,32,gOf [(30,[],q1V)],false,[],[]⟩
def q6p:List PE := [e8]
noncomputable def q6F:F1:=⟨q6C,rr q6p [(.bool,false)] Try.f80,fun p=>none,0,[]⟩
theorem q6K:Contract Try.prog 80 (q6V):=ctr q6C (rs := [(.bool,false)]) (ps:=q6p) q6F Try.f80 16 ⟨tyOf_ok tys_ok,gOf_ok ⟨q1K,trivial⟩⟩ (annl [] trivial)

noncomputable def q7V(k:Nat):Variant:=⟨[.val ty_5 false],[(.bool,false)],fun x=>spec_poGood k x.1⟩
noncomputable def q7C(k:Nat):Cfg:=⟨Try.prog,tyOf tys,38,gOf [(80,[],q6V),(67,[],q4V)],false,[],[]⟩
def q7i1:List PE := [e13,⟨5,32,.val ty_5 false,false⟩,e14,e15]
def q7o1:List PE := [e13]
noncomputable def q7f1(k:Nat)(n:Nat)(x3:PTe q7i1):=spec_poGood_L26 k n x3.1 x3.2.1 x3.2.2.1 x3.2.2.2.1
def q7p:List PE := [e12]
noncomputable def q7F(k:Nat):F1:=⟨q7C k,rr q7p [(.bool,false)] Try.f68,fun p=>bif Nat.beq p 26 then some (.loop q7i1 q7o1 0 80 (q7f1 k k))else none,0,[]⟩
theorem q7K(k:Nat):Contract Try.prog 68 (q7V k):=ctr (q7C k) (rs := [(.bool,false)]) (ps:=q7p) (q7F k) Try.f68 16 ⟨tyOf_ok tys_ok,gOf_ok ⟨q6K,q4K,trivial⟩⟩ (annl [26] ⟨lok q7i1 q7o1 0 80 (q7f1 k) k,trivial⟩)

noncomputable def q8V:Variant:=⟨[.val ty_4 true,.val ty_0 false],[(ty_0,false)],fun x=>spec_poPower x.1 x.2.1⟩
noncomputable def q8C:Cfg:=⟨Try.prog,tyOf tys,16,gOf [],false,[],[]⟩
def q8p:List PE := [e8,e2]
noncomputable def q8F:F2:=⟨q8C,rr q8p [(ty_0,false)] Try.f82,fun p=>none,0,[]⟩
theorem q8K:Contract Try.prog 82 (q8V):=ctr q8C (rs := [(ty_0,false)]) (ps:=q8p) q8F Try.f82 32 ⟨tyOf_ok tys_ok,gOf_ok trivial⟩ (annl [] trivial)

noncomputable def q9V:Variant:=⟨[.val ty_0 false,.val ty_0 false],[(ty_0,false)],fun x=>spec_l1Most x.1 x.2.1⟩
noncomputable def q9C:Cfg:=⟨Try.prog,tyOf tys,10,gOf [],false,[],[]⟩
def q9p:List PE := [e1,e2]
noncomputable def q9F:F2:=⟨q9C,rr q9p [(ty_0,false)] Try.f81,fun p=>none,0,[]⟩
theorem q9K:Contract Try.prog 81 (q9V):=ctr q9C (rs := [(ty_0,false)]) (ps:=q9p) q9F Try.f81 32 ⟨tyOf_ok tys_ok,gOf_ok trivial⟩ (annl [] trivial)

noncomputable def q10V(k:Nat):Variant:=⟨[.val ty_5 false,.val ty_0 false],[(ty_0,false)],fun x=>spec_poDegreeIn k x.1 x.2.1⟩
noncomputable def q10C(k:Nat):Cfg:=⟨Try.prog,tyOf tys,21,gOf [(82,[],q8V),(81,[],q9V)],false,[],[]⟩
def q10i1:List PE := [e16,e17,⟨8,64,.val ty_5 false,false⟩,⟨9,80,.val ty_0 false,false⟩,⟨10,96,.val ty_0 false,false⟩]
def q10o1:List PE := [e7]
noncomputable def q10f1(k:Nat)(n:Nat)(x3:PTe q10i1):=spec_poDegreeIn_L58 k n x3.1 x3.2.1 x3.2.2.1 x3.2.2.2.1 x3.2.2.2.2.1
def q10p:List PE := [e12,e2]
noncomputable def q10F(k:Nat):F2:=⟨q10C k,rr q10p [(ty_0,false)] Try.f69,fun p=>bif Nat.beq p 58 then some (.loop q10i1 q10o1 0 112 (q10f1 k k))else none,0,[]⟩
theorem q10K(k:Nat):Contract Try.prog 69 (q10V k):=ctr (q10C k) (rs := [(ty_0,false)]) (ps:=q10p) (q10F k) Try.f69 32 ⟨tyOf_ok tys_ok,gOf_ok ⟨q8K,q9K,trivial⟩⟩ (annl [58] ⟨lok q10i1 q10o1 0 112 (q10f1 k) k,trivial⟩)

noncomputable def q11V(k:Nat):Variant:=⟨[.val ty_7 false],[(.bool,false)],fun x=>spec_poSystem k x.1⟩
noncomputable def q11C(k:Nat):Cfg:=⟨Try.prog,tyOf tys,29,gOf [(68,[],q7V k),(69,[],q10V k),(30,[],q1V)],false,[],[]⟩
def q11i1:List PE := [e18,⟨4,32,.val ty_5 false,false⟩,e17,⟨6,64,.val ty_7 false,false⟩,⟨7,80,.val ty_0 false,false⟩,⟨8,96,.val ty_0 false,false⟩]
def q11o1:List PE := [e18,⟨6,32,.val ty_7 false,false⟩,e19,e20]
noncomputable def q11f1(k:Nat)(n:Nat)(x3:PTe q11i1):=spec_poSystem_L13518 k n x3.1 x3.2.1 x3.2.2.1 x3.2.2.2.1 x3.2.2.2.2.1 x3.2.2.2.2.2.1
def q11i2:List PE := [e18,⟨6,32,.val ty_7 false,false⟩,e19,e20]
def q11o2:List PE := [e18]
noncomputable def q11f2(k:Nat)(n:Nat)(x6:PTe q11i2):=spec_poSystem_L26 k n x6.1 x6.2.1 x6.2.2.1 x6.2.2.2.1
def q11p:List PE := [e21]
noncomputable def q11F(k:Nat):F1:=⟨q11C k,rr q11p [(.bool,false)] Try.f54,fun p=>bif Nat.beq p 13518 then some (.loop q11i1 q11o1 2 112 (q11f1 k k))else bif Nat.beq p 26 then some (.loop q11i2 q11o2 0 80 (q11f2 k k))else none,0,[]⟩
theorem q11K(k:Nat):Contract Try.prog 54 (q11V k):=ctr (q11C k) (rs := [(.bool,false)]) (ps:=q11p) (q11F k) Try.f54 16 ⟨tyOf_ok tys_ok,gOf_ok ⟨q7K k,q10K k,q1K,trivial⟩⟩ (annl [26,13518] ⟨lok q11i2 q11o2 0 80 (q11f2 k) k,lok q11i1 q11o1 2 112 (q11f1 k) k,trivial⟩)

noncomputable def q12V(k:Nat):Variant:=⟨[.val ty_6 false],[(ty_7,false),(.bool,false)],fun x=>spec_dgParted k x.1⟩
noncomputable def q12C(k:Nat):Cfg:=⟨Try.prog,tyOf tys,102,gOf [(52,[],q2V k),(53,[],q5V k),(54,[],q11V k)],false,[],[]⟩
def q12i1:List PE := [e22,e23,e14,e24,e25,⟨13,96,.val ty_6 false,false⟩,⟨14,112,.val ty_0 false,false⟩,⟨15,128,.val ty_0 false,false⟩]
def q12o1:List PE := [e22,e23,⟨13,48,.val ty_6 false,false⟩,e26,⟨15,80,.val ty_0 false,false⟩]
noncomputable def q12f1(k:Nat)(n:Nat)(x8:PTe q12i1):=spec_dgParted_L14950 k n x8.1 x8.2.1 x8.2.2.1 x8.2.2.2.1 x8.2.2.2.2.1 x8.2.2.2.2.2.1 x8.2.2.2.2.2.2.1 x8.2.2.2.2.2.2.2.1
def q12i2:List PE := [e22,e23,⟨13,48,.val ty_6 false,false⟩,e26,⟨15,80,.val ty_0 false,false⟩]
def q12o2:List PE := [e22,e23]
noncomputable def q12f2(k:Nat)(n:Nat)(x11:PTe q12i2):=spec_dgParted_L58 k n x11.1 x11.2.1 x11.2.2.1 x11.2.2.2.1 x11.2.2.2.2.1
def q12p:List PE := [⟨0,0,.val ty_6 false,false⟩]
noncomputable def q12F(k:Nat):F4:=⟨q12C k,rr q12p [(ty_7,false),(.bool,false)] Try.f31,fun p=>bif Nat.beq p 3827278 then some (.cut [e22,e23,e14,e24,e25,⟨9,96,.box ty_4 false,false⟩,⟨11,112,.val ty_0 false,false⟩,⟨13,128,.val ty_6 false,false⟩,⟨14,144,.val ty_0 false,false⟩,⟨15,160,.val ty_0 false,false⟩] 176)else bif Nat.beq p 1913638 then some (.cut [e22,e23,e14,e24,e25,⟨9,96,.box ty_4 false,false⟩,e27,⟨11,128,.val ty_0 false,false⟩,⟨13,144,.val ty_6 false,false⟩,e28,⟨15,176,.val ty_0 false,false⟩] 192)else bif Nat.beq p 14950 then some (.loop q12i1 q12o1 2 144 (q12f1 k k))else bif Nat.beq p 58 then some (.loop q12i2 q12o2 0 96 (q12f2 k k))else none,0,[]⟩
theorem q12K(k:Nat):Contract Try.prog 31 (q12V k):=ctr (q12C k) (rs := [(ty_7,false),(.bool,false)]) (ps:=q12p) (q12F k) Try.f31 16 ⟨tyOf_ok tys_ok,gOf_ok ⟨q2K k,q5K k,q11K k,trivial⟩⟩ (annl [58,14950] ⟨lok q12i2 q12o2 0 96 (q12f2 k) k,lok q12i1 q12o1 2 144 (q12f1 k) k,trivial⟩)

noncomputable def q13V(k:Nat):Variant:=⟨[.val ty_0 false],[(ty_7,false),(.bool,false)],fun x=>spec_ComplexPower k x.1⟩
noncomputable def q13C(k:Nat):Cfg:=⟨Try.prog,tyOf tys,25,gOf [(30,[],q1V),(31,[],q12V k)],false,[],[]⟩
def q13i1:List PE := [e29,e30,e17]
def q13o1:List PE := [⟨4,16,.eat ty_1,false⟩]
noncomputable def q13f1(k:Nat)(n:Nat)(x2:PTe q13i1):=spec_ComplexPower_L122 k n x2.1 x2.2.1 x2.2.2.1
def q13p:List PE := [e1]
noncomputable def q13F(k:Nat):F4:=⟨q13C k,rr q13p [(ty_7,false),(.bool,false)] Try.f10,fun p=>bif Nat.beq p 122 then some (.loop q13i1 q13o1 0 64 (q13f1 k k))else none,0,[]⟩
theorem q13K(k:Nat):Contract Try.prog 10 (q13V k):=ctr (q13C k) (rs := [(ty_7,false),(.bool,false)]) (ps:=q13p) (q13F k) Try.f10 16 ⟨tyOf_ok tys_ok,gOf_ok ⟨q1K,q12K k,trivial⟩⟩ (annl [122] ⟨lok q13i1 q13o1 0 64 (q13f1 k) k,trivial⟩)

noncomputable def q14V:Variant:=⟨[.val ty_0 false,.val ty_0 false,.val ty_0 false],[(.bool,false)],fun x=>impl_inside x.1 x.2.1 x.2.2.1⟩
noncomputable def q14C:Cfg:=⟨Try.prog,tyOf tys,15,gOf [],false,[],[]⟩
def q14p:List PE := [e1,e2,e3]
noncomputable def q14F:F1:=⟨q14C,rr q14p [(.bool,false)] Try.f26,fun p=>none,0,[]⟩
theorem q14K:Contract Try.prog 26 (q14V):=ctr q14C (rs := [(.bool,false)]) (ps:=q14p) q14F Try.f26 48 ⟨tyOf_ok tys_ok,gOf_ok trivial⟩ (annl [] trivial)

noncomputable def q15V(k:Nat):Variant:=⟨[.val ty_0 false,.val ty_0 false],[(ty_0,false)],fun x=>impl_choose k x.1 x.2.1⟩
noncomputable def q15C(k:Nat):Cfg:=⟨Try.prog,tyOf tys,21,gOf [],false,[],[]⟩
def q15i1:List PE := [⟨0,32,.val ty_0 false,false⟩,e17,e15,e25]
def q15o1:List PE := [e7]
noncomputable def q15f1(k:Nat)(n:Nat)(x1:PTe q15i1):=impl_choose_L58 k n x1.1 x1.2.1 x1.2.2.1 x1.2.2.2.1
def q15p:List PE := [e1,e2]
noncomputable def q15F(k:Nat):F2:=⟨q15C k,rr q15p [(ty_0,false)] Try.f55,fun p=>bif Nat.beq p 58 then some (.loop q15i1 q15o1 0 96 (q15f1 k k))else none,0,[]⟩
theorem q15K(k:Nat):Contract Try.prog 55 (q15V k):=ctr (q15C k) (rs := [(ty_0,false)]) (ps:=q15p) (q15F k) Try.f55 32 ⟨tyOf_ok tys_ok,gOf_ok trivial⟩ (annl [58] ⟨lok q15i1 q15o1 0 96 (q15f1 k) k,trivial⟩)

noncomputable def q16V:Variant:=⟨[.val ty_5 false],[(ty_5,false)],fun x=>slices_Clone_Term_Term x.1⟩
noncomputable def q16C:Cfg:=⟨Try.prog,tyOf tys,8,gOf [],false,[],[]⟩
def q16p:List PE := [e12]
noncomputable def q16F:F3:=⟨q16C,rr q16p [(ty_5,false)] Try.f70,fun p=>none,0,[]⟩
theorem q16eq(x:PTe q16p):evFnN false (q16F) (codeOf Try.f70) q16p 16 x=slices_Clone_Term_Term x.1:=by kernel_rfl
theorem q16e0(x:(Unit)):evFnN true (q16F) (codeOf Try.f70) q16p 16 (([]:List (Int×Int×Int×Int)),x)=slices_Clone_Term_Term []:=by kernel_rfl
theorem q16K:Contract Try.prog 70 (q16V) :=
 contractN (C:=q16C) (F:=q16F) (fn:=Try.f70) (ps:=q16p) (rs := [(ty_5,false)]) (nx:=16) rfl ⟨tyOf_ok tys_ok,gOf_ok trivial⟩ rfl (by kernel_rfl) (by kernel_rfl) (by kernel_rfl) (by kernel_rfl) (by kernel_rfl) (by kernel_rfl) rfl (by kernel_rfl) (by kernel_rfl) (AnnOk_list [] (by kernel_rfl) trivial) mix_ok (q16eq) (fun x h=>by obtain⟨x1,x2⟩:=x;have h:x1 = []:=h;subst h;exact q16e0 x2)

noncomputable def q17V:Variant:=⟨[.val ty_0 false],[(.bool,false)],fun x=>cmp_isNaN_int x.1⟩
noncomputable def q17C:Cfg:=⟨Try.prog,tyOf tys,6,gOf [],false,[],[]⟩
def q17p:List PE := [e1]
noncomputable def q17F:F1:=⟨q17C,rr q17p [(.bool,false)] Try.f91,fun p=>none,0,[]⟩
theorem q17K:Contract Try.prog 91 (q17V):=ctr q17C (rs := [(.bool,false)]) (ps:=q17p) q17F Try.f91 16 ⟨tyOf_ok tys_ok,gOf_ok trivial⟩ (annl [] trivial)

noncomputable def q18V:Variant:=⟨[.val ty_0 false,.val ty_0 false],[(ty_0,false)],fun x=>cmp_Compare_int x.1 x.2.1⟩
noncomputable def q18C:Cfg:=⟨Try.prog,tyOf tys,20,gOf [(91,[],q17V)],false,[],[]⟩
def q18p:List PE := [e1,e2]
noncomputable def q18F:F2:=⟨q18C,rr q18p [(ty_0,false)] Try.f85,fun p=>none,0,[]⟩
theorem q18K:Contract Try.prog 85 (q18V):=ctr q18C (rs := [(ty_0,false)]) (ps:=q18p) q18F Try.f85 32 ⟨tyOf_ok tys_ok,gOf_ok ⟨q17K,trivial⟩⟩ (annl [] trivial)

noncomputable def q19V(k:Nat):Variant:=⟨[.val ty_1 false],[(ty_0,false)],fun x=>cmp_Or_int k x.1⟩
noncomputable def q19C(k:Nat):Cfg:=⟨Try.prog,tyOf tys,18,gOf [],false,[],[]⟩
def q19i1:List PE := [⟨3,16,.val ty_0 false,false⟩,⟨6,32,.val ty_1 false,false⟩,e19,e20]
def q19o1:List PE := [⟨3,16,.val ty_0 false,false⟩]
noncomputable def q19f1(k:Nat)(n:Nat)(x1:PTe q19i1):=cmp_Or_int_L58 k n x1.1 x1.2.1 x1.2.2.1 x1.2.2.2.1
def q19p:List PE := [⟨0,0,.val ty_1 false,false⟩]
noncomputable def q19F(k:Nat):F2:=⟨q19C k,rr q19p [(ty_0,false)] Try.f84,fun p=>bif Nat.beq p 58 then some (.loop q19i1 q19o1 0 80 (q19f1 k k))else none,0,[]⟩
theorem q19K(k:Nat):Contract Try.prog 84 (q19V k):=ctr (q19C k) (rs := [(ty_0,false)]) (ps:=q19p) (q19F k) Try.f84 16 ⟨tyOf_ok tys_ok,gOf_ok trivial⟩ (annl [58] ⟨lok q19i1 q19o1 0 80 (q19f1 k) k,trivial⟩)

noncomputable def q20V(k:Nat):Variant:=⟨[.val ty_4 true,.val ty_4 true],[(ty_0,false)],fun x=>impl_compareTerms k x.1 x.2.1⟩
noncomputable def q20C(k:Nat):Cfg:=⟨Try.prog,tyOf tys,22,gOf [(85,[],q18V),(84,[],q19V k)],false,[],[]⟩
def q20p:List PE := [e8,e9]
noncomputable def q20F(k:Nat):F2:=⟨q20C k,rr q20p [(ty_0,false)] Try.f72,fun p=>none,0,[]⟩
theorem q20K(k:Nat):Contract Try.prog 72 (q20V k):=ctr (q20C k) (rs := [(ty_0,false)]) (ps:=q20p) (q20F k) Try.f72 32 ⟨tyOf_ok tys_ok,gOf_ok ⟨q18K,q19K k,trivial⟩⟩ (annl [] trivial)

noncomputable def q21V(k:Nat):Variant:=⟨[.own ty_4,.val ty_0 false,.val ty_0 false,.fn 72 []],[],fun x=>slices_insertionSortCmpFunc_Term_impl_compareTerms k x.1 x.2.1 x.2.2.1 x.2.2.2.1⟩
noncomputable def q21C(k:Nat):Cfg:=⟨Try.prog,tyOf tys,53,gOf [(72,[],q20V k)],false,[],[]⟩
def q21i1:List PE := [e31,e32,e33,e34,e35,⟨9,128,.val ty_0 false,false⟩]
def q21o1:List PE := [e31,e32,e33,e34,e35]
noncomputable def q21f1(k:Nat)(n:Nat)(x2:PTe q21i1):=slices_insertionSortCmpFunc_Term_impl_compareTerms_L402 k n x2.1 x2.2.1 x2.2.2.1 x2.2.2.2.1 x2.2.2.2.2.1 x2.2.2.2.2.2.1
def q21i2:List PE := [e31,e32,e33,e34,e35]
def q21o2:List PE := [e31]
noncomputable def q21f2(k:Nat)(n:Nat)(x5:PTe q21i2):=slices_insertionSortCmpFunc_Term_impl_compareTerms_L6 k n x5.1 x5.2.1 x5.2.2.1 x5.2.2.2.1 x5.2.2.2.2.1
def q21p:List PE := [e31,e2,e3,⟨3,48,.fn 72 [],false⟩]
noncomputable def q21F(k:Nat):F3:=⟨q21C k,rr q21p [] Try.f89,fun p=>bif Nat.beq p 402 then some (.loop q21i1 q21o1 2 144 (q21f1 k k))else bif Nat.beq p 6 then some (.loop q21i2 q21o2 0 128 (q21f2 k k))else none,0,[0]⟩
theorem q21K(k:Nat):Contract Try.prog 89 (q21V k):=ctr (q21C k) (rs := []) (ps:=q21p) (q21F k) Try.f89 64 ⟨tyOf_ok tys_ok,gOf_ok ⟨q20K k,trivial⟩⟩ (annl [6,402] ⟨lok q21i2 q21o2 0 128 (q21f2 k) k,lok q21i1 q21o1 2 144 (q21f1 k) k,trivial⟩)

noncomputable def q22V(k:Nat):Variant:=⟨[.own ty_4,.val ty_0 false,.fn 72 []],[],fun x=>slices_stableCmpFunc_Term_impl_compareTerms k x.1 x.2.1 x.2.2.1⟩
noncomputable def q22C(k:Nat):Cfg:=⟨Try.prog,tyOf tys,63,gOf [(89,[72],q21V k)],false,[],[]⟩
def q22i1:List PE := [e31,e4,e36,e6,e37,e35]
def q22o1:List PE := [e31,e4,e36,e6,e37]
noncomputable def q22f1(k:Nat)(n:Nat)(x2:PTe q22i1):=slices_stableCmpFunc_Term_impl_compareTerms_L28 k n x2.1 x2.2.1 x2.2.2.1 x2.2.2.2.1 x2.2.2.2.2.1 x2.2.2.2.2.2.1
def q22i2:List PE := [e31,e4,e36,e6,e37,e35]
def q22o2:List PE := [e31,e4,e36,e6,e37]
noncomputable def q22f2(k:Nat)(n:Nat)(x6:PTe q22i2):=slices_stableCmpFunc_Term_impl_compareTerms_L3988 k n x6.1 x6.2.1 x6.2.2.1 x6.2.2.2.1 x6.2.2.2.2.1 x6.2.2.2.2.2.1
def q22i3:List PE := [e31,e4,e36,e6]
def q22o3:List PE := [e31]
noncomputable def q22f3(k:Nat)(n:Nat)(x9:PTe q22i3):=slices_stableCmpFunc_Term_impl_compareTerms_L62 k n x9.1 x9.2.1 x9.2.2.1 x9.2.2.2.1
def q22p:List PE := [e31,e2,⟨2,32,.fn 72 [],false⟩]
noncomputable def q22F(k:Nat):F3:=⟨q22C k,rr q22p [] Try.f83,fun p=>bif Nat.beq p 28 then some (.loop q22i1 q22o1 0 128 (q22f1 k k))else bif Nat.beq p 3988 then some (.loop q22i2 q22o2 4 128 (q22f2 k k))else bif Nat.beq p 62 then some (.loop q22i3 q22o3 2 96 (q22f3 k k))else none,0,[0]⟩
theorem q22K(k:Nat):Contract Try.prog 83 (q22V k):=ctr (q22C k) (rs := []) (ps:=q22p) (q22F k) Try.f83 48 ⟨tyOf_ok tys_ok,gOf_ok ⟨q21K k,trivial⟩⟩ (annl [28,62,3988] ⟨lok q22i1 q22o1 0 128 (q22f1 k) k,lok q22i3 q22o3 2 96 (q22f3 k) k,lok q22i2 q22o2 4 128 (q22f2 k) k,trivial⟩)

noncomputable def q23V(k:Nat):Variant:=⟨[.own ty_4,.fn 72 []],[],fun x=>slices_SortStableFunc_Term_Term_impl_compareTerms k x.1 x.2.1⟩
noncomputable def q23C(k:Nat):Cfg:=⟨Try.prog,tyOf tys,9,gOf [(83,[72],q22V k)],false,[],[]⟩
def q23p:List PE := [e31,⟨1,16,.fn 72 [],false⟩]
noncomputable def q23F(k:Nat):F3:=⟨q23C k,rr q23p [] Try.f71,fun p=>none,0,[0]⟩
theorem q23K(k:Nat):Contract Try.prog 71 (q23V k):=ctr (q23C k) (rs := []) (ps:=q23p) (q23F k) Try.f71 32 ⟨tyOf_ok tys_ok,gOf_ok ⟨q22K k,trivial⟩⟩ (annl [] trivial)

noncomputable def q24V:Variant:=⟨[.val ty_4 true],[(.bool,false)],fun x=>impl_collect_1 x.1⟩
noncomputable def q24C:Cfg:=⟨Try.prog,tyOf tys,6,gOf [],false,[],[]⟩
def q24p:List PE := [e8]
noncomputable def q24F:F1:=⟨q24C,rr q24p [(.bool,false)] Try.f74,fun p=>none,0,[]⟩
theorem q24K:Contract Try.prog 74 (q24V):=ctr q24C (rs := [(.bool,false)]) (ps:=q24p) q24F Try.f74 16 ⟨tyOf_ok tys_ok,gOf_ok trivial⟩ (annl [] trivial)

noncomputable def q25V(k:Nat):Variant:=⟨[.val ty_5 false,.fn 74 []],[(ty_0,false)],fun x=>slices_IndexFunc_Term_Term_impl_collect_1 k x.1 x.2.1⟩
noncomputable def q25C(k:Nat):Cfg:=⟨Try.prog,tyOf tys,19,gOf [(74,[],q24V)],false,[],[]⟩
def q25i1:List PE := [e10,⟨1,48,.fn 74 [],false⟩,e15,e25]
def q25o1:List PE := []
noncomputable def q25f1(k:Nat)(n:Nat)(x2:PTe q25i1):=slices_IndexFunc_Term_Term_impl_collect_1_L26 k n x2.1 x2.2.1 x2.2.2.1 x2.2.2.2.1
def q25p:List PE := [e12,⟨1,16,.fn 74 [],false⟩]
noncomputable def q25F(k:Nat):F2:=⟨q25C k,rr q25p [(ty_0,false)] Try.f86,fun p=>bif Nat.beq p 26 then some (.loop q25i1 q25o1 0 96 (q25f1 k k))else none,0,[]⟩
theorem q25K(k:Nat):Contract Try.prog 86 (q25V k):=ctr (q25C k) (rs := [(ty_0,false)]) (ps:=q25p) (q25F k) Try.f86 32 ⟨tyOf_ok tys_ok,gOf_ok ⟨q24K,trivial⟩⟩ (annl [26] ⟨lok q25i1 q25o1 0 96 (q25f1 k) k,trivial⟩)

noncomputable def q26V(k:Nat):Variant:=⟨[.eat ty_4,.fn 74 []],[(ty_5,false)],fun x=>slices_DeleteFunc_Term_Term_impl_collect_1 k x.1 x.2.1⟩
noncomputable def q26C(k:Nat):Cfg:=⟨Try.prog,tyOf tys,42,gOf [(86,[74],q25V k),(74,[],q24V)],true,[],[]⟩
def q26i1:List PE := [⟨0,32,.eat ty_4,false⟩,⟨1,48,.fn 74 [],false⟩,e5,e6]
def q26o1:List PE := [⟨0,32,.eat ty_4,false⟩,e17]
noncomputable def q26f1(k:Nat)(n:Nat)(x3:PTe q26i1):=slices_DeleteFunc_Term_Term_impl_collect_1_L122 k n x3.1 x3.2.1 x3.2.2.1 x3.2.2.2.1
def q26p:List PE := [⟨0,0,.eat ty_4,false⟩,⟨1,16,.fn 74 [],false⟩]
noncomputable def q26F(k:Nat):F3:=⟨q26C k,rr q26p [(ty_5,false)] Try.f73,fun p=>bif Nat.beq p 122 then some (.loop q26i1 q26o1 0 96 (q26f1 k k))else none,0,[]⟩
theorem q26K(k:Nat):Contract Try.prog 73 (q26V k):=ctr (q26C k) (rs := [(ty_5,false)]) (ps:=q26p) (q26F k) Try.f73 32 ⟨tyOf_ok tys_ok,gOf_ok ⟨q25K k,q24K,trivial⟩⟩ (annl [122] ⟨lok q26i1 q26o1 0 96 (q26f1 k) k,trivial⟩)

noncomputable def q27V(k:Nat):Variant:=⟨[.val ty_5 false],[(ty_5,false)],fun x=>impl_collect k x.1⟩
noncomputable def q27C(k:Nat):Cfg:=⟨Try.prog,tyOf tys,50,gOf [(70,[],q16V),(71,[72],q23V k),(72,[],q20V k),(73,[74],q26V k)],false,[],[]⟩
def q27i1:List PE := [e22,⟨12,32,.eat ty_4,false⟩,⟨13,48,.val ty_0 false,false⟩,e26]
def q27o1:List PE := [e22]
noncomputable def q27f1(k:Nat)(n:Nat)(x4:PTe q27i1):=impl_collect_L250 k n x4.1 x4.2.1 x4.2.2.1 x4.2.2.2.1
def q27p:List PE := [e12]
noncomputable def q27F(k:Nat):F3:=⟨q27C k,rr q27p [(ty_5,false)] Try.f56,fun p=>bif Nat.beq p 250 then some (.loop q27i1 q27o1 0 80 (q27f1 k k))else none,0,[]⟩
theorem q27K(k:Nat):Contract Try.prog 56 (q27V k):=ctr (q27C k) (rs := [(ty_5,false)]) (ps:=q27p) (q27F k) Try.f56 16 ⟨tyOf_ok tys_ok,gOf_ok ⟨q16K,q23K k,q20K k,q26K k,trivial⟩⟩ (annl [250] ⟨lok q27i1 q27o1 0 80 (q27f1 k) k,trivial⟩)

noncomputable def q28V:Variant:=⟨[.val ty_4 true],[(ty_0,false)],fun x=>impl_Term_degree x.1⟩
noncomputable def q28C:Cfg:=⟨Try.prog,tyOf tys,11,gOf [],false,[],[]⟩
def q28p:List PE := [e8]
noncomputable def q28F:F2:=⟨q28C,rr q28p [(ty_0,false)] Try.f92,fun p=>none,0,[]⟩
theorem q28K:Contract Try.prog 92 (q28V):=ctr q28C (rs := [(ty_0,false)]) (ps:=q28p) q28F Try.f92 16 ⟨tyOf_ok tys_ok,gOf_ok trivial⟩ (annl [] trivial)

noncomputable def q29V:Variant:=⟨[.val ty_4 true],[(.bool,false)],fun x=>impl_hasDegree x.1⟩
noncomputable def q29C:Cfg:=⟨Try.prog,tyOf tys,21,gOf [(26,[],q14V),(92,[],q28V)],false,[],[]⟩
def q29p:List PE := [e8]
noncomputable def q29F:F1:=⟨q29C,rr q29p [(.bool,false)] Try.f87,fun p=>none,0,[]⟩
theorem q29K:Contract Try.prog 87 (q29V):=ctr q29C (rs := [(.bool,false)]) (ps:=q29p) q29F Try.f87 16 ⟨tyOf_ok tys_ok,gOf_ok ⟨q14K,q28K,trivial⟩⟩ (annl [] trivial)

noncomputable def q30V(k:Nat):Variant:=⟨[.val ty_5 false],[(.bool,false)],fun x=>impl_isPoly k x.1⟩
noncomputable def q30C(k:Nat):Cfg:=⟨Try.prog,tyOf tys,44,gOf [(26,[],q14V),(87,[],q29V),(72,[],q20V k)],false,[],[]⟩
def q30i1:List PE := [e13,⟨5,32,.val ty_5 false,false⟩,e14,e15]
def q30o1:List PE := [e13]
noncomputable def q30f1(k:Nat)(n:Nat)(x4:PTe q30i1):=impl_isPoly_L26 k n x4.1 x4.2.1 x4.2.2.1 x4.2.2.2.1
def q30p:List PE := [e12]
noncomputable def q30F(k:Nat):F1:=⟨q30C k,rr q30p [(.bool,false)] Try.f75,fun p=>bif Nat.beq p 26 then some (.loop q30i1 q30o1 0 80 (q30f1 k k))else none,0,[]⟩
theorem q30K(k:Nat):Contract Try.prog 75 (q30V k):=ctr (q30C k) (rs := [(.bool,false)]) (ps:=q30p) (q30F k) Try.f75 16 ⟨tyOf_ok tys_ok,gOf_ok ⟨q14K,q29K,q20K k,trivial⟩⟩ (annl [26] ⟨lok q30i1 q30o1 0 80 (q30f1 k) k,trivial⟩)

noncomputable def q31V:Variant:=⟨[.val ty_4 true],[(ty_3,true)],fun x=>impl_Term_exponents x.1⟩
noncomputable def q31C:Cfg:=⟨Try.prog,tyOf tys,10,gOf [],false,[],[]⟩
def q31p:List PE := [e8]
noncomputable def q31F:Fn (Int×Int×Int):=⟨q31C,rr q31p [(ty_3,true)] Try.f88,fun p=>none,0,[]⟩
theorem q31K:Contract Try.prog 88 (q31V):=ctr q31C (rs := [(ty_3,true)]) (ps:=q31p) q31F Try.f88 16 ⟨tyOf_ok tys_ok,gOf_ok trivial⟩ (annl [] trivial)

noncomputable def q32V(k:Nat):Variant:=⟨[.val ty_5 false,.val ty_0 false],[(.bool,false)],fun x=>impl_needsAtMost k x.1 x.2.1⟩
noncomputable def q32C(k:Nat):Cfg:=⟨Try.prog,tyOf tys,30,gOf [(88,[],q31V)],false,[],[]⟩
def q32i1:List PE := [e16,e38,e39,e40,⟨16,96,.val ty_3 true,false⟩,⟨17,112,.val ty_0 false,false⟩]
def q32o1:List PE := [e16,e38,e39,e40]
noncomputable def q32f1(k:Nat)(n:Nat)(x2:PTe q32i1):=impl_needsAtMost_L6758 k n x2.1 x2.2.1 x2.2.2.1 x2.2.2.2.1 x2.2.2.2.2.1 x2.2.2.2.2.2.1
def q32i2:List PE := [e16,e38,e39,e40]
def q32o2:List PE := []
noncomputable def q32f2(k:Nat)(n:Nat)(x5:PTe q32i2):=impl_needsAtMost_L26 k n x5.1 x5.2.1 x5.2.2.1 x5.2.2.2.1
def q32p:List PE := [e12,e2]
noncomputable def q32F(k:Nat):F1:=⟨q32C k,rr q32p [(.bool,false)] Try.f76,fun p=>bif Nat.beq p 6758 then some (.loop q32i1 q32o1 2 128 (q32f1 k k))else bif Nat.beq p 26 then some (.loop q32i2 q32o2 0 96 (q32f2 k k))else none,0,[]⟩
theorem q32K(k:Nat):Contract Try.prog 76 (q32V k):=ctr (q32C k) (rs := [(.bool,false)]) (ps:=q32p) (q32F k) Try.f76 32 ⟨tyOf_ok tys_ok,gOf_ok ⟨q31K,trivial⟩⟩ (annl [26,6758] ⟨lok q32i2 q32o2 0 96 (q32f2 k) k,lok q32i1 q32o1 2 128 (q32f1 k) k,trivial⟩)

noncomputable def q33V(k:Nat):Variant:=⟨[.val ty_7 false],[(.bool,false)],fun x=>impl_isSystem k x.1⟩
noncomputable def q33C(k:Nat):Cfg:=⟨Try.prog,tyOf tys,25,gOf [(75,[],q30V k),(76,[],q32V k),(26,[],q14V)],false,[],[]⟩
def q33i1:List PE := [e18,⟨5,32,.val ty_7 false,false⟩,e14,e15]
def q33o1:List PE := [e18]
noncomputable def q33f1(k:Nat)(n:Nat)(x3:PTe q33i1):=impl_isSystem_L26 k n x3.1 x3.2.1 x3.2.2.1 x3.2.2.2.1
def q33p:List PE := [e21]
noncomputable def q33F(k:Nat):F1:=⟨q33C k,rr q33p [(.bool,false)] Try.f57,fun p=>bif Nat.beq p 26 then some (.loop q33i1 q33o1 0 80 (q33f1 k k))else none,0,[]⟩
theorem q33K(k:Nat):Contract Try.prog 57 (q33V k):=ctr (q33C k) (rs := [(.bool,false)]) (ps:=q33p) (q33F k) Try.f57 16 ⟨tyOf_ok tys_ok,gOf_ok ⟨q30K k,q32K k,q14K,trivial⟩⟩ (annl [26] ⟨lok q33i1 q33o1 0 80 (q33f1 k) k,trivial⟩)

noncomputable def q34V(k:Nat):Variant:=⟨[.val ty_6 false],[(ty_7,false),(.bool,false)],fun x=>impl_complexSystem k x.1⟩
noncomputable def q34C(k:Nat):Cfg:=⟨Try.prog,tyOf tys,74,gOf [(55,[],q15V k),(56,[],q27V k),(57,[],q33V k)],false,[],[]⟩
def q34i1:List PE := [e22,e23,e14,e24,e25,⟨9,96,.val ty_0 false,false⟩,e27,⟨12,128,.val ty_6 false,false⟩,⟨13,144,.val ty_0 false,false⟩,e28,⟨20,176,.val ty_0 false,false⟩,⟨21,192,.val ty_0 false,false⟩,⟨38,208,.val ty_0 false,false⟩,⟨39,224,.val ty_0 false,false⟩]
def q34o1:List PE := [e22,e23,e14,e24,e25,⟨9,96,.val ty_0 false,false⟩,e27,⟨12,128,.val ty_6 false,false⟩,⟨13,144,.val ty_0 false,false⟩,e28,⟨20,176,.val ty_0 false,false⟩,⟨21,192,.val ty_0 false,false⟩]
noncomputable def q34f1(k:Nat)(n:Nat)(x3:PTe q34i1):=impl_complexSystem_L15309210 k n x3.1 x3.2.1 x3.2.2.1 x3.2.2.2.1 x3.2.2.2.2.1 x3.2.2.2.2.2.1 x3.2.2.2.2.2.2.1 x3.2.2.2.2.2.2.2.1 x3.2.2.2.2.2.2.2.2.1 x3.2.2.2.2.2.2.2.2.2.1 x3.2.2.2.2.2.2.2.2.2.2.1 x3.2.2.2.2.2.2.2.2.2.2.2.1 x3.2.2.2.2.2.2.2.2.2.2.2.2.1 x3.2.2.2.2.2.2.2.2.2.2.2.2.2.1
def q34i2:List PE := [e22,e23,e14,e24,⟨12,80,.val ty_6 false,false⟩,⟨13,96,.val ty_0 false,false⟩,⟨14,112,.val ty_0 false,false⟩,⟨20,128,.val ty_0 false,false⟩,⟨21,144,.val ty_0 false,false⟩]
def q34o2:List PE := [e22,e23,⟨12,48,.val ty_6 false,false⟩,⟨13,64,.val ty_0 false,false⟩,⟨14,80,.val ty_0 false,false⟩]
noncomputable def q34f2(k:Nat)(n:Nat)(x6:PTe q34i2):=impl_complexSystem_L14950 k n x6.1 x6.2.1 x6.2.2.1 x6.2.2.2.1 x6.2.2.2.2.1 x6.2.2.2.2.2.1 x6.2.2.2.2.2.2.1 x6.2.2.2.2.2.2.2.1 x6.2.2.2.2.2.2.2.2.1
def q34i3:List PE := [e22,e23,⟨12,48,.val ty_6 false,false⟩,⟨13,64,.val ty_0 false,false⟩,⟨14,80,.val ty_0 false,false⟩]
def q34o3:List PE := [e22,e23]
noncomputable def q34f3(k:Nat)(n:Nat)(x9:PTe q34i3):=impl_complexSystem_L58 k n x9.1 x9.2.1 x9.2.2.1 x9.2.2.2.1 x9.2.2.2.2.1
def q34p:List PE := [⟨0,0,.val ty_6 false,false⟩]
noncomputable def q34F(k:Nat):F4:=⟨q34C k,rr q34p [(ty_7,false),(.bool,false)] Try.f32,fun p=>bif Nat.beq p 15309210 then some (.loop q34i1 q34o1 4 240 (q34f1 k k))else bif Nat.beq p 14950 then some (.loop q34i2 q34o2 2 160 (q34f2 k k))else bif Nat.beq p 58 then some (.loop q34i3 q34o3 0 96 (q34f3 k k))else none,0,[]⟩
theorem q34K(k:Nat):Contract Try.prog 32 (q34V k):=ctr (q34C k) (rs := [(ty_7,false),(.bool,false)]) (ps:=q34p) (q34F k) Try.f32 16 ⟨tyOf_ok tys_ok,gOf_ok ⟨q15K k,q27K k,q33K k,trivial⟩⟩ (annl [58,14950,15309210] ⟨lok q34i3 q34o3 0 96 (q34f3 k) k,lok q34i2 q34o2 2 160 (q34f2 k) k,lok q34i1 q34o1 4 240 (q34f1 k) k,trivial⟩)

noncomputable def q35V(k:Nat):Variant:=⟨[.val ty_0 false],[(ty_7,false),(.bool,false)],fun x=>impl_ComplexPower k x.1⟩
noncomputable def q35C(k:Nat):Cfg:=⟨Try.prog,tyOf tys,31,gOf [(26,[],q14V),(32,[],q34V k)],false,[4,17,25],[]⟩
def q35i1:List PE := [e29,e30,⟨13,48,.val ty_0 false,false⟩,e26]
def q35o1:List PE := [e29,e30]
noncomputable def q35f1(k:Nat)(n:Nat)(x2:PTe q35i1):=impl_ComplexPower_L122 k n x2.1 x2.2.1 x2.2.2.1 x2.2.2.2.1
def q35p:List PE := [e1]
noncomputable def q35F(k:Nat):F4:=⟨q35C k,rr q35p [(ty_7,false),(.bool,false)] Try.f11,fun p=>bif Nat.beq p 122 then some (.loop q35i1 q35o1 0 80 (q35f1 k k))else none,0,[]⟩
theorem q35K(k:Nat):Contract Try.prog 11 (q35V k):=ctr (q35C k) (rs := [(ty_7,false),(.bool,false)]) (ps:=q35p) (q35F k) Try.f11 16 ⟨tyOf_ok tys_ok,gOf_ok ⟨q14K,q34K k,trivial⟩⟩ (annl [122] ⟨lok q35i1 q35o1 0 80 (q35f1 k) k,trivial⟩)

noncomputable def q36V:Variant:=⟨[.val ty_4 true,.val ty_4 true],[(.bool,false)],fun x=>laws_eqTerm x.1 x.2.1⟩
noncomputable def q36C:Cfg:=⟨Try.prog,tyOf tys,25,gOf [],false,[],[]⟩
def q36p:List PE := [e8,e9]
noncomputable def q36F:F1:=⟨q36C,rr q36p [(.bool,false)] Try.f58,fun p=>none,0,[]⟩
theorem q36K:Contract Try.prog 58 (q36V):=ctr q36C (rs := [(.bool,false)]) (ps:=q36p) q36F Try.f58 32 ⟨tyOf_ok tys_ok,gOf_ok trivial⟩ (annl [] trivial)

noncomputable def q37V(k:Nat):Variant:=⟨[.val ty_5 false,.val ty_5 false],[(.bool,false)],fun x=>laws_eqTermS k x.1 x.2.1⟩
noncomputable def q37C(k:Nat):Cfg:=⟨Try.prog,tyOf tys,27,gOf [(58,[],q36V)],false,[],[]⟩
def q37i1:List PE := [e10,⟨1,48,.val ty_5 false,false⟩,e5]
def q37o1:List PE := []
noncomputable def q37f1(k:Nat)(n:Nat)(x2:PTe q37i1):=laws_eqTermS_L58 k n x2.1 x2.2.1 x2.2.2.1
def q37p:List PE := [e12,⟨1,16,.val ty_5 false,false⟩]
noncomputable def q37F(k:Nat):F1:=⟨q37C k,rr q37p [(.bool,false)] Try.f33,fun p=>bif Nat.beq p 58 then some (.loop q37i1 q37o1 0 80 (q37f1 k k))else none,0,[]⟩
theorem q37K(k:Nat):Contract Try.prog 33 (q37V k):=ctr (q37C k) (rs := [(.bool,false)]) (ps:=q37p) (q37F k) Try.f33 32 ⟨tyOf_ok tys_ok,gOf_ok ⟨q36K,trivial⟩⟩ (annl [58] ⟨lok q37i1 q37o1 0 80 (q37f1 k) k,trivial⟩)

noncomputable def q38V(k:Nat):Variant:=⟨[.val ty_7 false,.val ty_7 false],[(.bool,false)],fun x=>laws_eqTermSS k x.1 x.2.1⟩
noncomputable def q38C(k:Nat):Cfg:=⟨Try.prog,tyOf tys,27,gOf [(33,[],q37V k)],false,[],[]⟩
def q38i1:List PE := [⟨0,32,.val ty_7 false,false⟩,⟨1,48,.val ty_7 false,false⟩,e5]
def q38o1:List PE := []
noncomputable def q38f1(k:Nat)(n:Nat)(x2:PTe q38i1):=laws_eqTermSS_L58 k n x2.1 x2.2.1 x2.2.2.1
def q38p:List PE := [e21,⟨1,16,.val ty_7 false,false⟩]
noncomputable def q38F(k:Nat):F1:=⟨q38C k,rr q38p [(.bool,false)] Try.f12,fun p=>bif Nat.beq p 58 then some (.loop q38i1 q38o1 0 80 (q38f1 k k))else none,0,[]⟩
theorem q38K(k:Nat):Contract Try.prog 12 (q38V k):=ctr (q38C k) (rs := [(.bool,false)]) (ps:=q38p) (q38F k) Try.f12 32 ⟨tyOf_ok tys_ok,gOf_ok ⟨q37K k,trivial⟩⟩ (annl [58] ⟨lok q38i1 q38o1 0 80 (q38f1 k) k,trivial⟩)

noncomputable def q39V(k:Nat):Variant:=⟨[.own ty_4,.val ty_0 false],[(ty_0,false)],fun x=>laws_markTermS k x.1 x.2.1⟩
noncomputable def q39C(k:Nat):Cfg:=⟨Try.prog,tyOf tys,41,gOf [],false,[],[]⟩
def q39i1:List PE := [e31,e16,e17]
def q39o1:List PE := [e16,e31]
noncomputable def q39f1(k:Nat)(n:Nat)(x1:PTe q39i1):=laws_markTermS_L26 k n x1.1 x1.2.1 x1.2.2.1
def q39p:List PE := [e31,e2]
noncomputable def q39F(k:Nat):Fn (Int×List (Int×Int×Int×Int)):=⟨q39C k,rr q39p [(ty_0,false)] Try.f34,fun p=>bif Nat.beq p 26 then some (.loop q39i1 q39o1 0 64 (q39f1 k k))else none,0,[0]⟩
theorem q39K(k:Nat):Contract Try.prog 34 (q39V k):=ctr (q39C k) (rs := [(ty_0,false)]) (ps:=q39p) (q39F k) Try.f34 32 ⟨tyOf_ok tys_ok,gOf_ok trivial⟩ (annl [26] ⟨lok q39i1 q39o1 0 64 (q39f1 k) k,trivial⟩)

noncomputable def q40V(k:Nat):Variant:=⟨[.own ty_5,.val ty_0 false],[(ty_0,false)],fun x=>laws_markTermSS k x.1 x.2.1⟩
noncomputable def q40C(k:Nat):Cfg:=⟨Try.prog,tyOf tys,19,gOf [(34,[],q39V k)],false,[],[]⟩
def q40i1:List PE := [e41,e16,e17]
def q40o1:List PE := [e16,e41]
noncomputable def q40f1(k:Nat)(n:Nat)(x2:PTe q40i1):=laws_markTermSS_L26 k n x2.1 x2.2.1 x2.2.2.1
def q40p:List PE := [e41,e2]
noncomputable def q40F(k:Nat):Fn (Int×List (List (Int×Int×Int×Int))):=⟨q40C k,rr q40p [(ty_0,false)] Try.f13,fun p=>bif Nat.beq p 26 then some (.loop q40i1 q40o1 0 64 (q40f1 k k))else none,0,[0]⟩
theorem q40K(k:Nat):Contract Try.prog 13 (q40V k):=ctr (q40C k) (rs := [(ty_0,false)]) (ps:=q40p) (q40F k) Try.f13 32 ⟨tyOf_ok tys_ok,gOf_ok ⟨q39K k,trivial⟩⟩ (annl [26] ⟨lok q40i1 q40o1 0 64 (q40f1 k) k,trivial⟩)

noncomputable def q41V(k:Nat):Variant:=⟨[.val ty_5 false,.val ty_0 false],[(ty_0,false)],fun x=>laws_heldTermS k x.1 x.2.1⟩
noncomputable def q41C(k:Nat):Cfg:=⟨Try.prog,tyOf tys,49,gOf [],false,[],[]⟩
def q41i1:List PE := [e10,e4,e5]
def q41o1:List PE := [e16]
noncomputable def q41f1(k:Nat)(n:Nat)(x1:PTe q41i1):=laws_heldTermS_L26 k n x1.1 x1.2.1 x1.2.2.1
def q41p:List PE := [e12,e2]
noncomputable def q41F(k:Nat):F2:=⟨q41C k,rr q41p [(ty_0,false)] Try.f35,fun p=>bif Nat.beq p 26 then some (.loop q41i1 q41o1 0 80 (q41f1 k k))else none,0,[]⟩
theorem q41K(k:Nat):Contract Try.prog 35 (q41V k):=ctr (q41C k) (rs := [(ty_0,false)]) (ps:=q41p) (q41F k) Try.f35 32 ⟨tyOf_ok tys_ok,gOf_ok trivial⟩ (annl [26] ⟨lok q41i1 q41o1 0 80 (q41f1 k) k,trivial⟩)

noncomputable def q42V(k:Nat):Variant:=⟨[.val ty_7 false,.val ty_0 false],[(ty_0,false)],fun x=>laws_heldTermSS k x.1 x.2.1⟩
noncomputable def q42C(k:Nat):Cfg:=⟨Try.prog,tyOf tys,21,gOf [(35,[],q41V k)],false,[],[]⟩
def q42i1:List PE := [⟨0,32,.val ty_7 false,false⟩,e4,e5]
def q42o1:List PE := [e16]
noncomputable def q42f1(k:Nat)(n:Nat)(x2:PTe q42i1):=laws_heldTermSS_L26 k n x2.1 x2.2.1 x2.2.2.1
def q42p:List PE := [e21,e2]
noncomputable def q42F(k:Nat):F2:=⟨q42C k,rr q42p [(ty_0,false)] Try.f14,fun p=>bif Nat.beq p 26 then some (.loop q42i1 q42o1 0 80 (q42f1 k k))else none,0,[]⟩
theorem q42K(k:Nat):Contract Try.prog 14 (q42V k):=ctr (q42C k) (rs := [(ty_0,false)]) (ps:=q42p) (q42F k) Try.f14 32 ⟨tyOf_ok tys_ok,gOf_ok ⟨q41K k,trivial⟩⟩ (annl [26] ⟨lok q42i1 q42o1 0 80 (q42f1 k) k,trivial⟩)

noncomputable def laws_FnExactComplexPower_V(k:Nat):Variant:=⟨[.val ty_0 false],[(.bool,false)],fun x=>laws_FnExactComplexPower k x.1⟩
noncomputable def laws_FnExactComplexPower_C(k:Nat):Cfg:=⟨Try.prog,tyOf tys,63,gOf [(10,[],q13V k),(11,[],q35V k),(12,[],q38V k),(13,[],q40V k),(14,[],q42V k)],false,[],[]⟩
def laws_FnExactComplexPower_ps:List PE := [e1]
noncomputable def laws_FnExactComplexPower_F(k:Nat):F1:=⟨laws_FnExactComplexPower_C k,rr laws_FnExactComplexPower_ps [(.bool,false)] Try.f4,fun p=>none,0,[]⟩
theorem laws_FnExactComplexPower_K(k:Nat):Contract Try.prog 4 (laws_FnExactComplexPower_V k):=ctr (laws_FnExactComplexPower_C k) (rs := [(.bool,false)]) (ps:=laws_FnExactComplexPower_ps) (laws_FnExactComplexPower_F k) Try.f4 16 ⟨tyOf_ok tys_ok,gOf_ok ⟨q13K k,q35K k,q38K k,q40K k,q42K k,trivial⟩⟩ (annl [] trivial)
end Go.Ev.G
